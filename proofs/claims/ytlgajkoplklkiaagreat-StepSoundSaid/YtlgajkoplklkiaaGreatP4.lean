/- What the proof stands on, part 4: what functions of the program compute, and plain facts about it. -/
import Derived.Deep.Slices
import Derived.Deep.Fields
import Derived.ChangeSame
import Derived.SizedLaws
import Derived.ProofKit
import Derived.OpenShut
import Derived.Carry
import Derived.Test.YtlgajkoplklkiaaGreatP3
import Derived.Test.YtlgajkoplklkiaaGreatP1
set_option linter.all false
set_option maxHeartbeats 64000000
set_option maxRecDepth 100000
namespace Go.Proofs.YtlgajkoplklkiaaGreat
namespace Sn
open Go Go.Mq Cn Tm Sb St Ty Mc
structure Gd (d:Nat)(A:Tree):Prop where
 con:isConF A=true
 nf:Nf (toC A)
 sc:Sc d (toC A)
def Er (e:Int):Prop:=e=0∨e=3∨e=18
def Rs (r:Tree×Int)(d:Nat)(A:Cn):Prop:=Er r.2∧(r.2=0→Gd d r.1∧Eqv (toC r.1) A)
theorem Rs.ok {t:Tree}{d:Nat}{A:Cn}(h:Gd d t)(he:Eqv (toC t) A):Rs (t,0) d A:=⟨.inl rfl,fun _=>⟨h,he⟩⟩
theorem Rs.err {t:Tree}{e:Int}{d:Nat}{A:Cn}(h:e=3∨e=18):Rs (t,e) d A:=⟨.inr h,fun q=>by have q:e=0:=q;omega⟩
theorem Rs.bnd {r:Tree×Int}{f:Tree→Tree×Int}{d d':Nat}{A B:Cn}(h:Rs r d A)(hk:∀t,r=(t,0)→Gd d t→Eqv (toC t) A→Rs (f t) d' B):Rs (Ty.bnd r f) d' B:=by
 unfold Ty.bnd
 by_cases q:r.2=0
 ·rw[if_pos q]
  obtain⟨h1,h2⟩:=h.2 q
  exact hk r.1 (Prod.ext rfl q) h1 h2
 ·rw[if_neg q]
  exact .err (by have:=h.1;unfold Er at this;omega)
theorem norm_rs {n:Tree}{A:Cn}{d:Nat}(hc:isConF n=true)(hs:Sc d (toC n))(he:Eqv (toC n) A):Rs (No.normR n) d A:=by
 refine⟨norm_err 1000 n hc,fun h=>?_⟩
 obtain⟨r1,r2,r3⟩:=normR_red (Prod.ext rfl h:No.normR n=((No.normR n).1,0))
 exact⟨⟨(conE_full r3).2,r2,sc_red hs r1⟩,r1.eqv.symm.trans he⟩
theorem tst_rs {K:List Tree}{n:Tree}{A:Cn}(h:Ki.starE K n=0)(he:Eqv (toC n) A):Rs (tstR K n) K.length A:=by
 obtain⟨f1,f2,f3⟩:=starE_facts h
 unfold tstR
 rw[if_pos h]
 exact norm_rs (conE_full f3).2 f2 he
theorem fill_rs {n b:Tree}{A:Cn}{d:Nat}(hn:isConF n=true)(hb:isConF b=true)(sn:Sc (d+1) (toC n))(sb:Sc d (toC b))(he:Eqv (inst (toC n) (toC b)) A):Rs (fillR n b) d A:=by
 unfold fillR Ty.bnd
 by_cases q1:conE n=0
 ·by_cases q2:conE b=0
  ·by_cases q:(substR n 0 b).2=0
   ·rw[if_pos q]
    have h:=(Prod.ext rfl q:substR n 0 b=((substR n 0 b).1,0))
    have e:=subst_toC h
    refine norm_rs (conE_full (subst_conE h)).2 ?_ ?_
    ·rw[e];exact sc_inst sn sb
    ·rw[e];exact he
   ·rw[if_neg q]
    exact .err (by have:=substR_three q1 q2;omega)
  ·have e:(substR n 0 b).2=conE b:=by unfold substR;rw[if_pos q1,if_neg q2]
   rw[ifn,e]
   exact .err (by have:=conE_or hb;omega)
 ·have e:(substR n 0 b).2=conE n:=by unfold substR;rw[if_neg q1]
  rw[ifn,e]
  exact .err (by have:=conE_or hn;omega)
theorem nf_kids {k:Int}{nm:ByteArray}{l:List Cn}(h:Nf (.op k nm l)):∀x∈l,Nf x:=fun x hx y hy=>by
 obtain⟨i,hi,rfl⟩:=List.getElem_of_mem hx
 have hp:Par (.op k nm l) (.op k nm (l.set i y)):=.op (by simp) fun j h1 h2=>by
  rw[List.getElem_set]
  by_cases q:i=j
  ·subst q;rw[if_pos rfl];exact hy
  ·rw[if_neg q];exact .refl _
 have:=h _ hp
 simp only[Cn.op.injEq,true_and]at this
 have h2:(l.set i y)[i]?=l[i]?:=by rw[this]
 rw[List.getElem?_set_self hi,List.getElem?_eq_getElem hi]at h2
 exact Option.some.inj h2
theorem nf_op {k:Int}{nm:ByteArray}{l:List Cn}(hk:k≠120)(h:∀x∈l,Nf x):Nf (.op k nm l):=fun y hy=>by
 generalize hz:Cn.op k nm l=z at hy
 cases hy with
 | var n=>cases hz
 | @op _ _ _ l' hl hp =>
  cases hz
  congr 1
  exact List.ext_getElem hl fun i h1 h2=>h _ (List.getElem_mem h2) _ (hp i h2 h1)
 | beta=>cases hz;exact absurd rfl hk
theorem nf_ren {c:Cn}(h:Nf c)(r:Nat→Nat):Nf (ren r c):=fun y hy=>by
 obtain⟨x,rfl,hx⟩:=par_ren_inv c _ _ hy
 rw[h _ hx]
theorem succ_inj {a b:Cn}(h:ren Nat.succ a=ren Nat.succ b):a=b:=by
 have h2:ren Nat.pred (ren Nat.succ a)=ren Nat.pred (ren Nat.succ b):=by rw[h]
 rw[ren_ren,ren_ren]at h2
 have e:∀c:Cn,ren (fun n=>Nat.pred (Nat.succ n)) c=c:=fun c=>by
  rw[ren_as_sub];conv=>rhs;rw[←sub_id c]
  exact sub_ext c fun n=>rfl
 rwa [e,e]at h2
theorem nf_back {c:Cn}(h:Nf (ren Nat.succ c)):Nf c:=fun y hy=>succ_inj (h _ (hy.ren _))
theorem red_ren_inv {c x:Cn}{r:Nat→Nat}(h:Red (ren r c) x):∃y,x=ren r y∧Red c y:=by
 generalize hz:ren r c=z at h
 induction h generalizing c with
 | refl=>exact⟨c,hz.symm,.refl _⟩
 | step hp _ ih =>
  subst hz
  obtain⟨y,rfl,hy⟩:=par_ren_inv c _ _ hp
  obtain⟨w,h1,h2⟩:=ih rfl
  exact⟨w,h1,.step hy h2⟩
theorem nf_to {a b:Cn}(h:Eqv a b)(ha:Nf a):Red b a:=by
 obtain⟨c,h1,h2⟩:=h
 rw[←nf_red ha h1];exact h2
theorem gd_eq {d d':Nat}{a b:Tree}(ha:Gd d a)(hb:Gd d' b)(h:Eqv (toC a) (toC b)):a=b:=con_inj ha.con hb.con (nf_eqv h ha.nf hb.nf)
theorem gd_head {d:Nat}{t:Tree}{k:Int}{l:List Cn}(h:Gd d t)(hk:k≠120)(he:Eqv (toC t) (.op k e0 l)):t.kind=k∧toC t=.op k e0 (t.kids.map toC)∧t.kids.length=l.length∧∀i (h1:i < l.length),Eqv (toC (t.kids.getD i .nil)) l[i]:=by
 have hr:=nf_to he h.nf
 obtain⟨l',e1,e2,e3⟩:=red_op hk hr
 have hT:=(con_kd h.con).1
 have hk110:t.kind≠110:=by
  intro q;rw[toC_var hT q]at e1;cases e1
 have e4:=e1
 rw[toC_op hT hk110]at e4
 simp only[Cn.op.injEq]at e4
 obtain⟨rfl,e5,rfl⟩:=e4
 have hl:t.kids.length=l.length:=by simpa using e2
 refine⟨rfl,e1,hl,fun i h1=>?_⟩
 have:=e3 i h1 (by simpa using by omega)
 rw[getD_map_toC]at this
 exact this.eqv.symm
theorem gd_kid {d:Nat}{t:Tree}(h:Gd d t)(hk:t.kind≠110){i:Nat}(hi:i < t.kids.length)(hc:isConF (t.kids.getD i .nil)=true):Gd (d+bd t.kind) (t.kids.getD i .nil):=by
 have hT:=(con_kd h.con).1
 have hm:toC (t.kids.getD i .nil)∈t.kids.map toC:=List.mem_map_of_mem (getD_mem hi)
 have h1:=h.nf
 have h2:=h.sc
 rw[toC_op hT hk]at h1 h2
 exact⟨hc,nf_kids h1 _ hm,sc_kids h2 _ hm⟩
theorem gd_fld {d:Nat}{t:Tree}{kd:Int}(hkd:kd=116∨kd=122)(h:Gd d t)(hk:t.kind≠110)(hf:∀x∈t.kids,fieldF kd x=true){i:Nat}(hi:i < t.kids.length):Gd (d+bd t.kind) (inn (t.kids.getD i .nil))∧toC (t.kids.getD i .nil)=.op kd (t.kids.getD i .nil).name [toC (inn (t.kids.getD i .nil))]:=by
 have hT:=(con_kd h.con).1
 have hm:toC (t.kids.getD i .nil)∈t.kids.map toC:=List.mem_map_of_mem (getD_mem hi)
 have h1:=h.nf
 have h2:=h.sc
 rw[toC_op hT hk]at h1 h2
 obtain⟨e1,e2,e3,e4⟩:=Cn.field_toC (by omega) (hf _ (getD_mem hi))
 have g1:=nf_kids h1 _ hm
 have g2:=sc_kids h2 _ hm
 rw[e1]at g1 g2
 have g3:=sc_kids g2 _ (List.mem_singleton.2 rfl)
 rw[bd_fld hkd]at g3
 exact⟨⟨e2,nf_kids g1 _ (List.mem_singleton.2 rfl),g3⟩,e1⟩
theorem fAt_part {kd:Int}{s:ByteArray}:∀{l:List Tree},(∀x∈l,toC x=.op kd x.name [toC (inn x)])→fAt s (l.map toC)=(partF s l).map toC
 | [],_=>by rw[List.map_nil,fAt,partF];rfl
 | x::l,h=>by
  rw[List.map_cons,fAt,partF,h x (by simp)]
  show (if x.name=s then some (toC (inn x)) else _)=_
  by_cases q:x.name=s
  ·rw[if_pos q,if_pos q];rfl
  ·rw[if_neg q,if_neg q];exact fAt_part fun y hy=>h y (by simp[hy])
theorem gd_fields {d:Nat}{t:Tree}{k kd:Int}{l:List Cn}(hkk:k=115∧kd=116∨k=121∧kd=122)(h:Gd d t)(hfl:FL kd l)(he:Eqv (toC t) (.op k e0 l)) :
  t.kind=k∧toC t=.op k e0 (t.kids.map toC)∧t.kids.length=l.length∧(∀i (hi:i < l.length),(t.kids.getD i .nil).name=nmOf l[i]∧Eqv (toC (inn (t.kids.getD i .nil))) (bodyOf l[i])∧Gd (d+bd k) (inn (t.kids.getD i .nil))) ∧
  ∀s c,fAt s l=some c→∃p,partF s t.kids=some p∧Eqv (toC p) c∧Gd (d+bd k) p:=by
 have hkd:kd=116∨kd=122:=by omega
 obtain⟨e1,e2,e3,e4⟩:=gd_head h (by omega) he
 have hT:=(con_kd h.con).1
 have hf:∀x∈t.kids,fieldF kd x=true:=by
  rcases hkk with⟨rfl,rfl⟩|⟨rfl,rfl⟩
  ·exact Cn.rec_fl hT h.con e1
  ·exact Cn.sum_fl hT h.con e1
 have hg:=fun i (hi:i < t.kids.length)=>gd_fld hkd h (by omega) hf hi
 have key:∀i (hi:i < l.length),(t.kids.getD i .nil).name=nmOf l[i]∧Eqv (toC (inn (t.kids.getD i .nil))) (bodyOf l[i])∧Gd (d+bd k) (inn (t.kids.getD i .nil)):=fun i hi=>by
  obtain⟨g1,g2⟩:=hg i (by omega)
  have:=e4 i hi
  rw[g2,hfl.at hi]at this
  obtain⟨_,a2,_,a4⟩:=eqv_op (by omega) (by omega) this
  rw[e1]at g1
  exact⟨a2,a4 0 (by simp) (by simp),g1⟩
 refine⟨e1,e2,e3,key,fun s c hs=>?_⟩
 have hfx:∀x∈t.kids,toC x=.op kd x.name [toC (inn x)]:=fun x hx=>by
  obtain⟨i,hi,rfl⟩:=List.getElem_of_mem hx
  have:=(hg i hi).2
  simpa [List.getD_eq_getElem?_getD,hi] using this
 rcases fAt_rel (R:=fun a b=>Eqv b a) (s:=s) (l:=l) (l':=t.kids.map toC) (by simp[e3]) (fun i h1 h2=>by
  have hi:i < t.kids.length:=by omega
  obtain⟨g1,g2⟩:=hg i hi
  rw[getD_map_toC,g2]
  exact⟨(key i h1).1,(key i h1).2.1⟩) with⟨h1,_⟩|⟨c0,c',h1,h2,h3⟩
 ·rw[h1]at hs;cases hs
 ·rw[h1]at hs
  have hs:=Option.some.inj hs
  subst hs
  rw[fAt_part hfx]at h2
  cases hp:partF s t.kids with
  | none=>rw[hp]at h2;cases h2
  | some p =>
   rw[hp]at h2
   have h2:toC p=c':=by simpa using h2
   obtain⟨i,i1,i2⟩:=part_mem hp
   refine⟨p,rfl,by rw[h2];exact h3,?_⟩
   have:=(hg i i1).1
   rw[e1]at this
   rw[i2];exact this
inductive Gx (d:Nat):List Tree→List Cn→Prop
 | nil:Gx d [] []
 | cons {t:Tree} {l:List Tree} {A:Cn} {Γ:List Cn} (h:Gd d t) (he:Eqv (toC t) A) (hl:Gx d l Γ):Gx d (t::l) (A::Γ)
theorem Gx.get {d:Nat}{l:List Tree}{Γ:List Cn}(h:Gx d l Γ):∀{n:Nat} {A:Cn},Γ[n]?=some A→n < l.length∧Gd d (l.getD n .nil)∧Eqv (toC (l.getD n .nil)) A:=by
 induction h with
 | nil=>intro n A h;simp at h
 | cons h he hl ih =>
  intro n A hA
  cases n with
  | zero =>
   have:=Option.some.inj (by simpa using hA:some _=some A)
   subst this
   exact⟨by simp,h,he⟩
  | succ n =>
   obtain⟨a,b,c⟩:=ih (n:=n) (by simpa using hA)
   exact⟨by simpa using a,by simpa using b,by simpa using c⟩
theorem sc_hits {T:Tree}(hE:conE T=0){d:Nat}(h:Sc d (toC T)):∀j:Int,(d:Int)≤j→hitsN j T 0=0:=fun j hj=>by
 have hz:=conE_size hE
 have hlim:lim=1099511627776:=rfl
 have:=sc_free hE h
 rw[freeR_eq,rfreeR,if_pos hE]at this
 exact (free_hits T 0 (conE_plain hE) (by omega) (by omega)).1 j (by omega)
theorem shift_rs {t:Tree}{d:Nat}(h:Gd d t)(hd:d≤32768):((shiftR t 1 0).2=0∧Gd (d+1) (shiftR t 1 0).1∧toC (shiftR t 1 0).1=ren Nat.succ (toC t))∨(shiftR t 1 0).2=3:=by
 by_cases hE:conE t=0
 ·left
  have hz:=conE_size hE
  obtain⟨y,hy⟩:=(vmap_some (f:=fM 1 0) (fun j=>(d:Int)≤j) (fun n e h0 h1 h2 h3 hj=>by
   unfold fM
   by_cases q:e≤n∧0≤n - e
   ·rw[if_pos q]
    have:n - e < d:=by
     apply Decidable.byContradiction
     intro hn
     exact hj (n - e) (by omega) q.1 rfl
    rw[ifn]
    exact⟨_,rfl⟩
   ·rw[if_neg q];exact⟨_,rfl⟩) t).1 h.con 0 (Int.le_refl 0) (by omega) (sc_hits hE h.sc)
  have e:=shiftR_vmap hE (Int.le_refl 0) 1
  rw[hy]at e
  have e:shiftR t 1 0=(y,0):=e
  obtain⟨e1,_⟩:=shift_toC e
  rw[e]
  refine⟨rfl,⟨(conE_full (vmap_conE (fM_VB 1 0) hE hy)).2,?_,?_⟩,e1⟩
  ·show Nf (toC y);rw[e1];exact nf_ren h.nf _
  ·show Sc (d+1) (toC y);rw[e1];exact sc_shift h.sc
 ·right
  unfold shiftR
  rw[if_neg hE]
  have:=conE_or h.con
  show conE t=3
  omega
theorem shs_rs {d:Nat}{l:List Tree}{Γ:List Cn}(h:Gx d l Γ)(hd:d≤32768):((shsR l).2=0∧Gx (d+1) (shsR l).1 (shC Γ))∨(shsR l).2=3:=by
 induction h with
 | nil=>exact .inl ⟨rfl,.nil⟩
 | cons h he hl ih =>
  rw[shsR]
  rcases shift_rs h hd with⟨q1,q2,q3⟩|q
  ·rw[if_pos q1]
   rcases ih with⟨g1,g2⟩|g
   ·exact .inl ⟨g1,.cons q2 (by rw[q3];exact eqv_ren he _) g2⟩
   ·exact .inr g
  ·rw[ifn];exact .inr q
theorem Rs.lbnd {l:List Tree}{Γ:List Cn}{f:List Tree→Tree×Int}{d d':Nat}{B:Cn}(h:Gx d l Γ)(hd:d≤32768)(hk:∀Δ,shsR l=(Δ,0)→Gx (d+1) Δ (shC Γ)→Rs (f Δ) d' B):Rs (Ty.lbnd (shsR l) f) d' B:=by
 unfold Ty.lbnd
 rcases shs_rs h hd with⟨q1,q2⟩|q
 ·rw[if_pos q1];exact hk _ (Prod.ext rfl q1) q2
 ·rw[ifn];exact .err (.inl q)
theorem back_rs {b:Tree}{d:Nat}{A:Cn}(h:Gd (d+1) b)(he:Eqv (toC b) (ren Nat.succ A)):Rs (if occursR b 0=true then (.nil,11) else shiftR b (-1) 0) d A:=by
 have hr:=nf_to he h.nf
 obtain⟨y,e1,e2⟩:=red_ren_inv hr
 by_cases hE:conE b=0
 ·have hz:=conE_size hE
  have hc:=free0_count (conE_plain hE) (by omega) ⟨y,e1⟩
  have ho:occursR b 0=false:=by rw[Ki.occ_count hE];exact decide_eq_false hc
  rw[ho,if_neg (by simp)]
  have hh:hitsN 0 b 0=0:=by rw[countF_hits 0 b 0 (by omega)]at hc;omega
  obtain⟨m,hm⟩:=(vmap_some (f:=fM (-1) 0) (fun j=>j=0) (fun n e h0 h1 h2 h3 hj=>by
   unfold fM
   by_cases q:e≤n∧0≤n - e
   ·rw[if_pos q]
    have:=hj 0 rfl q.1
    rw[ifn]
    exact⟨_,rfl⟩
   ·rw[if_neg q];exact⟨_,rfl⟩) b).1 h.con 0 (Int.le_refl 0) (by omega) (fun j hj=>by subst hj;exact hh)
  have e:=shiftR_vmap hE (Int.le_refl 0) (-1)
  rw[hm]at e
  have e:shiftR b (-1) 0=(m,0):=e
  rw[e]
  obtain⟨g1,g2⟩:=back_ok e
  have ey:toC m=y:=succ_inj (by rw[←g1,e1])
  refine .ok ⟨(conE_full g2).2,nf_back (by rw[←g1];exact h.nf),sc_back (by rw[←g1];exact h.sc)⟩ ?_
  rw[ey];exact e2.eqv.symm
 ·have ho:occursR b 0=false:=by unfold occursR;rw[if_neg hE]
  rw[ho,if_neg (by simp)]
  unfold shiftR
  rw[if_neg hE]
  exact .err (.inl (by have:=conE_or h.con;omega))
theorem flds_er {K Γ:List Tree}:∀{xs:List Tree},(∀x∈xs,Er (ofF (x.kids.getD 0 .nil) K Γ).2)→Er (ofFlds xs K Γ).2
 | [],_=>by rw[ofFlds];exact .inl rfl
 | x::xs,h=>by
  rw[ofFlds_cons]
  by_cases q:(ofF (x.kids.getD 0 .nil) K Γ).2=0
  ·rw[if_pos q];exact flds_er fun y hy=>h y (by simp[hy])
  ·rw[if_neg q];exact h x (by simp)
theorem all_er {K Γ:List Tree}:∀{xs:List Tree},(∀x∈xs,Er (ofF x K Γ).2)→Er (ofAll xs K Γ).2
 | [],_=>by rw[ofAll];exact .inl rfl
 | x::xs,h=>by
  rw[ofAll]
  by_cases q:(ofF x K Γ).2=0
  ·rw[if_pos q];exact all_er fun y hy=>h y (by simp[hy])
  ·rw[if_neg q];exact h x (by simp)
theorem arms_er {self:Tree}{K Γ:List Tree}:∀{xs S:List Tree},(∀i,i < xs.length→Er (fillR (inn (S.getD i .nil)) self).2∧((fillR (inn (S.getD i .nil)) self).2=0→Er (ofF (inn (xs.getD i .nil)) K ((fillR (inn (S.getD i .nil)) self).1::Γ)).2))→Er (armsF xs S self K Γ).2
 | [],S,_=>by rw[armsF];exact .inl rfl
 | x::xs,S,h=>by
  obtain⟨h1,h2⟩:=h 0 (by simp)
  have e0:inn ((x::xs).getD 0 .nil)=x.kids.getD 0 .nil:=rfl
  unfold inn at h1 h2
  simp only[List.getD_cons_zero]at h2
  rw[armsF]
  by_cases q1:(fillR ((S.getD 0 .nil).kids.getD 0 .nil) self).2=0
  ·rw[if_pos q1]
   by_cases q:(ofF (x.kids.getD 0 .nil) K ((fillR ((S.getD 0 .nil).kids.getD 0 .nil) self).1::Γ)).2=0
   ·rw[if_pos q]
    refine arms_er fun i hi=>?_
    have e:(S.drop 1).getD i .nil=S.getD (i+1) .nil:=by simp[List.getD_eq_getElem?_getD,Nat.add_comm]
    have:=h (i+1) (by simpa using hi)
    rw[e]
    simpa using this
   ·rw[if_neg q];exact h2 q1
  ·rw[if_neg q1];exact h1
theorem Rs.as {r:Tree×Int}{k:Int}{f:Tree→Tree×Int}{d d':Nat}{l:List Cn}{B:Cn}(hk:k≠120)(h:Rs r d (.op k e0 l))(hf:∀t,r=(t,0)→Gd d t→Eqv (toC t) (.op k e0 l)→Rs (f t) d' B):Rs (Ty.bnd (asR r k) f) d' B:=by
 have e:asR r k=r:=by
  unfold asR
  rw[if_neg]
  rintro⟨q1,q2⟩
  obtain⟨h1,h2⟩:=h.2 q1
  exact q2 (gd_head h1 hk h2).1
 rw[e]
 exact h.bnd hf
theorem leaf_gd {k:Int}(hk:k=111∨k=112∨k=113)(d:Nat):Gd d (cT k [])∧toC (cT k [])=.op k e0 []:=by
 have e:toC (cT k [])=.op k e0 []:=by rw[toC_op (by intro e;cases e) (by show k≠110;omega)];rfl
 refine⟨⟨?_,?_,?_⟩,e⟩
 ·rcases hk with rfl|rfl|rfl<;>kernel_rfl
 ·rw[e];exact nf_op (by omega) (fun x hx=>by cases hx)
 ·rw[e];exact .of fun i hi=>by simp at hi
theorem toC_cT {k:Int}(hk:k≠110)(l:List Tree):toC (cT k l)=.op k e0 (l.map toC):=by
 rw[toC_op (T:=cT k l) (by intro e;cases e) hk];rfl
theorem getC_two {a b:Tree}{P:Cn→Prop}(ha:P (toC a))(hb:P (toC b)):∀x∈[a,b].map toC,P x:=fun x hx=>by
 rcases List.mem_cons.1 hx with rfl|hx
 ·exact ha
 ·rw[List.mem_singleton.1 hx];exact hb
theorem arr_gd {a b:Tree}{d:Nat}(ha:Gd d a)(hb:Gd d b):Gd d (cT 114 [a,b]):=by
 have e:=toC_cT (k:=114) (by decide) [a,b]
 refine⟨No.two_con (.inl rfl) ha.con hb.con,?_,?_⟩
 ·rw[e];exact nf_op (by decide) (getC_two ha.nf hb.nf)
 ·rw[e];exact .of fun i hi=>by rw[bd_two (.inl rfl)];exact getC_two (P:=Sc (d+0)) ha.sc hb.sc _ (List.getElem_mem hi)
theorem all_gd {a b:Tree}{d:Nat}(ha:isKindF a=true)(hb:Gd (d+1) b):Gd d (cT 117 [a,b]):=by
 have e:=toC_cT (k:=117) (by decide) [a,b]
 refine⟨No.lam_con (.inl rfl) ha hb.con,?_,?_⟩
 ·rw[e];exact nf_op (by decide) (getC_two (kind_nf a ha) hb.nf)
 ·rw[e];exact .of fun i hi=>by rw[bd_all (.inl rfl)];exact getC_two (P:=Sc (d+1)) ((kind_cl a ha).1.sc _) hb.sc _ (List.getElem_mem hi)
theorem fld_gd {d:Nat}{nm:ByteArray}{t:Tree}(ht:Gd d t):Nf (toC (fldT nm t))∧Sc d (toC (fldT nm t))∧toC (fldT nm t)=.op 116 nm [toC t]:=by
 have e:toC (fldT nm t)=.op 116 nm [toC t]:=by rw[toC_op (by intro e;cases e) (by show (116:Int)≠110;decide)];rfl
 refine⟨?_,?_,e⟩
 ·rw[e];exact nf_op (by decide) fun x hx=>by rw[List.mem_singleton.1 hx];exact ht.nf
 ·rw[e];exact .of fun i hi=>by
   have:i=0:=by simpa using hi
   subst this
   rw[bd_field];exact ht.sc
theorem arm_names {T s:Tree}{j:Nat}{l:List Cn}(hl:(T.kids.drop j).length=l.length)(hn:∀i (hi:i < l.length),nmOf l[i]=(kidT T (j+i)).name)(hs:s.kids.length=l.length)(hsn:∀i (hi:i < l.length),(s.kids.getD i .nil).name=nmOf l[i]):s.kids.map Tree.name=(T.kids.drop j).map Tree.name:=by
 apply List.ext_getElem
 ·simp only[List.length_map];omega
 ·intro i h1 h2
  have hi:i < l.length:=by simp only[List.length_map]at h1;omega
  have a:=hsn i hi
  have b:=hn i hi
  rw[List.getElem_map,List.getElem_map]
  have e1:s.kids.getD i .nil=s.kids[i]'(by omega):=by simp[List.getD_eq_getElem?_getD,show i < s.kids.length by omega]
  have e2:kidT T (j+i)=(T.kids.drop j)[i]'(by omega):=by
   unfold kidT
   have:j+i < T.kids.length:=by simp at hl;omega
   simp[List.getD_eq_getElem?_getD,this]
  rw[e1]at a
  rw[e2]at b
  rw[a,b]
theorem alike_rs {ts:List Tree}{t:Tree}{d:Nat}{A:Cn}(h:Gd d t)(he:Eqv (toC t) A)(hx:∀x∈ts,x=t):Rs (alikeR ts t) d A:=by
 unfold alikeR
 rw[if_neg]
 ·exact .ok h he
 ·intro q
  obtain⟨x,h1,h2⟩:=List.any_eq_true.1 q
  rw[hx x h1,(sameF_iff t t).2 rfl]at h2
  cases h2
theorem getD_at {l:List Tree}{i:Nat}(h:i < l.length):l.getD i .nil=l[i]:=by simp[List.getD_eq_getElem?_getD,h]
theorem kid_sz {T:Tree}(hT:T≠.nil){i:Nat}(hi:i < T.kids.length):sizeN (kidT T i) < sizeN T:=by
 unfold kidT
 have h1:=sizeN_kids hT
 have h2:=sizesN_mem (getD_mem hi)
 omega
theorem kid_two {T:Tree}(hT:T≠.nil)(hl:T.kids.length=2):sizeN T=1+(sizeN (kidT T 0)+sizeN (kidT T 1)):=by
 unfold kidT
 have h1:=sizeN_kids hT
 have e2:sizesN T.kids=sizeN (T.kids.getD 0 .nil)+(sizeN (T.kids.getD 1 .nil)+0):=by
  conv=>lhs;rw[two_of hl]
  rfl
 omega
theorem mem_three {l:List Tree}(h:l.length=3){x:Tree}(hx:x∈l):x=l.getD 0 .nil∨x=l.getD 1 .nil∨x=l.getD 2 .nil:=by
 match l,h with
 | [a,b,c],_=>simpa using hx
theorem ofF_rule {T:Tree}{K Δ:List Tree}(hT:T≠.nil)(h:T.kind≠130∧T.kind≠131∧T.kind≠132∧T.kind≠133∧T.kind≠139∧T.kind≠143):ofF T K Δ=ruleR T K Δ:=by
 rw[ofF_eq T K Δ hT,if_neg h.1,if_neg h.2.1,if_neg h.2.2.1,if_neg h.2.2.2.1,if_neg h.2.2.2.2.1,if_neg h.2.2.2.2.2]
def RedL (l m:List Cn):Prop:=m.length=l.length∧∀i (h1:i < l.length) (h2:i < m.length),Red l[i] m[i]
theorem RedL.cons {a c:Cn}{l m:List Cn}(h:RedL l m)(h1:Red a c):RedL (a::l) (c::m):=⟨by simp[h.1],fun i g1 g2=>by
 cases i with
 | zero=>exact h1
 | succ i=>exact h.2 i (by simpa using g1) (by simpa using g2)⟩
theorem red_set {k:Int}{nm:ByteArray}{l:List Cn}{i:Nat}(hi:i < l.length){c:Cn}(h:Red l[i] c):Red (.op k nm l) (.op k nm (l.set i c)):=by
 generalize ha:l[i]=a at h
 induction h generalizing l with
 | refl=>subst ha;rw[List.set_getElem_self];exact .refl _
 | @step a b c hp _ ih =>
  subst ha
  have h1:Par (.op k nm l) (.op k nm (l.set i b)):=.op (by simp) fun j h1 h2=>by
   rw[List.getElem_set]
   by_cases q:i=j
   ·subst q;rw[if_pos rfl];exact hp
   ·rw[if_neg q];exact .refl _
  have h2:=ih (l:=l.set i b) (by simpa using hi) (by simp)
  rw[List.set_set]at h2
  exact .step h1 h2
theorem RedL.op {k:Int}{nm:ByteArray}{l m:List Cn}(h:RedL l m):Red (.op k nm l) (.op k nm m):=by
 have key:∀n,n≤l.length→Red (.op k nm l) (.op k nm (m.take n++l.drop n)):=by
  intro n
  induction n with
  | zero=>intro _;simp;exact .refl _
  | succ n ih =>
   intro hn
   have h1:=ih (by omega)
   have hm:n < m.length:=by have:=h.1;omega
   have hlen:(m.take n).length=n:=by simp;omega
   have hi:n < (m.take n++l.drop n).length:=by simp;omega
   have e:(m.take n++l.drop n)[n]=l[n]'(by omega):=by
    rw[List.getElem_append_right (by omega)]
    simp[hlen]
   have h2:=red_set (k:=k) (nm:=nm) hi (c:=m[n]) (by rw[e];exact h.2 n (by omega) hm)
   have e2:(m.take n++l.drop n).set n m[n]=m.take (n+1)++l.drop (n+1):=by
    rw[List.set_append_right _ _ (by omega),hlen,Nat.sub_self]
    rw[List.drop_eq_getElem_cons (show n < l.length by omega),List.set_cons_zero,List.take_succ_eq_append_getElem hm,List.append_assoc]
    rfl
   rw[e2]at h2
   exact h1.trans h2
 have:=key l.length (Nat.le_refl _)
 rwa [List.drop_length,List.append_nil,List.take_of_length_le (by have:=h.1;omega)]at this
theorem eqv_list {k:Int}{nm:ByteArray}{l l':List Cn}(hl:l'.length=l.length)(h:∀i (h1:i < l.length) (h2:i < l'.length),Eqv l[i] l'[i]):Eqv (.op k nm l) (.op k nm l'):=by
 have key:∀(l l':List Cn),l'.length=l.length→(∀i (h1:i < l.length) (h2:i < l'.length),Eqv l[i] l'[i])→∃m:List Cn,RedL l m∧RedL l' m:=by
  intro l
  induction l with
  | nil=>intro l' e _;exact⟨[],⟨rfl,fun i h1=>by simp at h1⟩,⟨by simpa using e.symm,fun i h1=>by simp at e;subst e;simp at h1⟩⟩
  | cons a l ih =>
   intro l' e h
   match l',e with
   | b::l',e =>
    obtain⟨c,h1,h2⟩:=h 0 (by simp) (by simp)
    obtain⟨m,g1,g2⟩:=ih l' (by simpa using e) fun i h1 h2=>h (i+1) (by simpa using h1) (by simpa using h2)
    exact⟨c::m,g1.cons h1,g2.cons h2⟩
 obtain⟨m,h1,h2⟩:=key l l' hl h
 exact⟨.op k nm m,h1.op,h2.op⟩
theorem eqv_two {k:Int}{nm:ByteArray}{a b c d:Cn}(h1:Eqv a c)(h2:Eqv b d):Eqv (.op k nm [a,b]) (.op k nm [c,d]):=eqv_list rfl fun i g1 g2=>by
 match i,g1 with
 | 0,_=>exact h1
 | 1,_=>exact h2
theorem eqv_one {k:Int}{nm:ByteArray}{a c:Cn}(h1:Eqv a c):Eqv (.op k nm [a]) (.op k nm [c]):=eqv_list rfl fun i g1 g2=>by
 match i,g1 with
 | 0,_=>exact h1
theorem arm_size {T:Tree}{j:Nat}(hj:j=1∨j=2)(hT:T≠.nil)(h:∀x∈T.kids.drop j,tfieldF 149 x=true):∀i,i < (T.kids.drop j).length→isTermF (inn (kidT T (j+i)))=true∧sizeN (inn (kidT T (j+i))) < sizeN T:=fun i hi=>by
 have hi':j+i < T.kids.length:=by simp at hi;omega
 have hf:=h _ (mem_drop (show j≤j+i by omega) hi')
 obtain⟨q1,q2,q3,q4,q5⟩:=tfield_parts hf
 have z0:=kid_sz hT hi'
 have z1:=kid_sz q1 (i:=0) (by omega)
 exact⟨q5,Nat.lt_trans z1 z0⟩
theorem hk_of {K:List Tree}{Γ:List Cn}{T:Tree}{A:Cn}(h:Hk K Γ T A):isTermF T=true→sizeN T≤65536→2*K.length+sizeN T≤65537→∀Δ,Gx K.length Δ Γ→Rs (ofF T K Δ) K.length A:=by
 induction h with
 | conv _ he ih=>intro ht hz hd Δ G;exact⟨(ih ht hz hd Δ G).1,fun q=>⟨((ih ht hz hd Δ G).2 q).1,((ih ht hz hd Δ G).2 q).2.trans he⟩⟩
 | @var K Γ T A hk h0 h =>
  intro ht hz hd Δ G
  obtain⟨g1,g2,g3⟩:=G.get h
  rw[ofF_eq T K Δ (term_ne ht),if_pos hk]
  unfold varR
  rw[ifn]
  exact norm_rs g2.con g2.sc g3
 | @int K Γ T hk =>
  intro ht hz hd Δ G
  rw[ofF_eq T K Δ (term_ne ht),ifn,if_pos hk]
  obtain⟨l1,l2⟩:=leaf_gd (k:=111) (by omega) K.length
  exact .ok l1 (by rw[l2];exact .refl _)
 | @tru K Γ T hk =>
  intro ht hz hd Δ G
  rw[ofF_eq T K Δ (term_ne ht),ifn,ifn,if_pos hk]
  obtain⟨l1,l2⟩:=leaf_gd (k:=112) (by omega) K.length
  exact .ok l1 (by rw[l2];exact .refl _)
 | @unt K Γ T hk =>
  intro ht hz hd Δ G
  rw[ofF_eq T K Δ (term_ne ht),ifn,ifn,ifn,if_pos hk]
  obtain⟨l1,l2⟩:=leaf_gd (k:=113) (by omega) K.length
  exact .ok l1 (by rw[l2];exact .refl _)
 | @lam K Γ T A B hk hs he h ih =>
  intro ht hz hd Δ G
  have hT:=term_ne ht
  obtain⟨tl,t0,t1⟩:=term_cx ht (.inl hk)
  have z1:=kid_sz hT (show 1 < T.kids.length by omega)
  rw[ofF_rule hT (by omega),ruleR,if_pos hk]
  unfold lamR
  refine (tst_rs hs he).bnd fun a _ ga ea=>(ih t1 (by omega) (by omega) _ (.cons ga ea G)).bnd fun b _ gb eb=>?_
  refine .ok (arr_gd ga gb) ?_
  rw[toC_cT (by decide)]
  exact eqv_two ea eb
 | @app K Γ T A B hk h h2 ih ih2 =>
  intro ht hz hd Δ G
  have hT:=term_ne ht
  obtain⟨tl,t0,t1⟩:=term_xx ht (.inl hk)
  have z0:=kid_sz hT (show 0 < T.kids.length by omega)
  have z1:=kid_sz hT (show 1 < T.kids.length by omega)
  rw[ofF_rule hT (by omega),ruleR,ifn,if_pos hk]
  unfold appR
  refine (ih t0 (by omega) (by omega) _ G).bnd fun f _ gf ef=>(ih2 t1 (by omega) (by omega) _ G).bnd fun a _ ga ea=>?_
  obtain⟨e1,e2,e3,e4⟩:=gd_head gf (by decide) ef
  obtain⟨c1,c2,c3⟩:=Ki.con_two (con_kd gf.con).1 gf.con (.inl e1)
  have q0:=gd_kid gf (by omega) (i:=0) (by omega) c2
  have q1:=gd_kid gf (by omega) (i:=1) (by omega) c3
  have hb:bd f.kind=0:=by rw[e1];exact bd_two (.inl rfl)
  rw[hb]at q1
  have ee:=gd_eq q0 ga ((e4 0 (by simp)).trans ea.symm)
  rw[if_pos ⟨e1,(sameF_iff _ _).2 ee⟩]
  exact .ok q1 (e4 1 (by simp))
 | @rcd K Γ T hk l hl hfl hn h ih =>
  intro ht hz hd Δ G
  have hT:=term_ne ht
  obtain⟨tf,tp⟩:=term_f ht hk
  rw[ofF_rule hT (by omega),ruleR,ifn,ifn,if_pos hk]
  unfold recR Ty.lbnd
  have hx:∀i,i < T.kids.length→isTermF (inn (T.kids.getD i .nil))=true∧sizeN (inn (T.kids.getD i .nil)) < sizeN T:=fun i hi=>by
   obtain⟨q1,q2,q3,q4,q5⟩:=tfield_parts (tf _ (getD_mem hi))
   have z0:=kid_sz hT hi
   have z1:=kid_sz q1 (i:=0) (by omega)
   exact⟨q5,Nat.lt_trans z1 z0⟩
  have hR:∀i (hi:i < l.length),Rs (ofF (inn (T.kids.getD i .nil)) K Δ) K.length (bodyOf l[i]):=fun i hi=>by
   obtain⟨a,b⟩:=hx i (by omega)
   have b:sizeN (inn (kidT T i)) < sizeN T:=b
   exact ih i hi a (by omega) (by omega) _ G
  have hEr:Er (ofFlds T.kids K Δ).2:=flds_er fun x hx=>by
   obtain⟨i,hi,rfl⟩:=List.getElem_of_mem hx
   have:=(hR i (by omega)).1
   unfold inn at this
   simpa [List.getD_eq_getElem?_getD,hi] using this
  by_cases q:(ofFlds T.kids K Δ).2=0
  ·rw[if_pos q]
   obtain⟨z1,z2⟩:=flds_zero q
   rw[z2]
   have hg:∀i (hi:i < l.length),Gd K.length (ofF (inn (T.kids.getD i .nil)) K Δ).1∧Eqv (toC (ofF (inn (T.kids.getD i .nil)) K Δ).1) (bodyOf l[i]):=fun i hi=>(hR i hi).2 (z1 _ (getD_mem (by omega)))
   have e:=toC_cT (k:=115) (by decide) (T.kids.map fun x=>fldT x.name (ofF (x.kids.getD 0 .nil) K Δ).1)
   have hmem:∀y∈(T.kids.map fun x=>fldT x.name (ofF (x.kids.getD 0 .nil) K Δ).1),∃i,∃hi:i < l.length,y=fldT (T.kids.getD i .nil).name (ofF (inn (T.kids.getD i .nil)) K Δ).1:=fun y hy=>by
    obtain⟨x,hx,rfl⟩:=List.mem_map.1 hy
    obtain⟨i,hi,rfl⟩:=List.getElem_of_mem hx
    refine⟨i,by omega,?_⟩
    unfold inn
    simp[List.getD_eq_getElem?_getD,hi]
   refine .ok ⟨?_,?_,?_⟩ ?_
   ·refine rec_con (fun y hy=>?_) ?_
    ·obtain⟨i,hi,rfl⟩:=hmem y hy
     obtain⟨q1,q2,q3,q4,q5⟩:=tfield_kid (tf _ (getD_mem (show i < T.kids.length by omega)))
     exact fldT_ok q2 q3 (hg i hi).1.con
    ·rw[rising_names _ T.kids (by rw[List.map_map];rfl)]
     exact (pair_lt tp).1
   ·rw[e]
    refine nf_op (by decide) fun c hc=>?_
    obtain⟨y,hy,rfl⟩:=List.mem_map.1 hc
    obtain⟨i,hi,rfl⟩:=hmem y hy
    exact (fld_gd (hg i hi).1).1
   ·rw[e]
    refine .of fun j hj=>?_
    rw[bd_rec]
    obtain⟨y,hy,he⟩:=List.mem_map.1 (List.getElem_mem hj)
    obtain⟨i,hi,rfl⟩:=hmem y hy
    rw[←he]
    exact (fld_gd (hg i hi).1).2.1
   ·rw[e]
    refine eqv_list (by simp[hl]) fun i h1 h2=>?_
    have hi:i < T.kids.length:=by simpa using h1
    have hi':i < l.length:=by omega
    rw[getD_map_toC]
    have e2:(T.kids.map fun x=>fldT x.name (ofF (x.kids.getD 0 .nil) K Δ).1).getD i .nil=fldT (T.kids.getD i .nil).name (ofF (inn (T.kids.getD i .nil)) K Δ).1:=by
     unfold inn
     simp[List.getD_eq_getElem?_getD,hi]
    rw[e2,(fld_gd (hg i hi').1).2.2,hfl.at hi',hn i hi']
    exact eqv_one (hg i hi').2
  ·rw[if_neg q]
   exact .err (by unfold Er at hEr;omega)
 | @proj K Γ T A hk l hfl h ha ih =>
  intro ht hz hd Δ G
  have hT:=term_ne ht
  obtain⟨tl,t0⟩:=term_x ht hk
  have z0:=kid_sz hT (show 0 < T.kids.length by omega)
  rw[ofF_rule hT (by omega),ruleR,ifn,ifn,ifn,if_pos hk]
  unfold projR
  refine (ih t0 (by omega) (by omega) _ G).as (by decide) fun t _ gt et=>?_
  obtain⟨_,_,_,_,e5⟩:=gd_fields (.inl ⟨rfl,rfl⟩) gt hfl et
  obtain⟨p,p1,p2,p3⟩:=e5 _ _ ha
  rw[bd_rec]at p3
  rw[p1]
  exact .ok p3 p2
 | @tlam K Γ T B hk hK h ih =>
  intro ht hz hd Δ G
  have hT:=term_ne ht
  obtain⟨tl,t0,t1⟩:=term_kx ht hk
  have z1:=kid_two hT tl
  have z0:1≤sizeN (kidT T 0):=size_pos (Ki.kind_ne t0)
  rw[ofF_eq T K Δ hT,ifn,ifn,ifn,ifn,if_pos hk]
  unfold tlamR
  refine Rs.lbnd G (by omega) fun Δ' _ G'=>(ih t1 (by omega) (by simp only[List.length_cons];omega) _ G').bnd fun t _ gt et=>?_
  refine .ok (all_gd t0 gt) ?_
  rw[toC_cT (by decide)]
  exact eqv_two (.refl _) et
 | @tapp K Γ T q B hk h hq ih =>
  intro ht hz hd Δ G
  have hT:=term_ne ht
  obtain⟨tl,t0,t1⟩:=term_xc ht hk
  have z0:=kid_sz hT (show 0 < T.kids.length by omega)
  rw[ofF_rule hT (by omega),ruleR,ifn,ifn,ifn,ifn,if_pos hk]
  unfold tappR
  refine (ih t0 (by omega) (by omega) _ G).bnd fun t _ gt et=>?_
  have hq':Ki.kindR K (T.kids.getD 1 .nil)=(q,0):=hq
  rw[hq']
  show Rs (if t.kind=117∧sameF (t.kids.getD 0 .nil) q=true then fillR (t.kids.getD 1 .nil) (T.kids.getD 1 .nil) else (.nil,11)) _ _
  obtain⟨e1,e2,e3,e4⟩:=gd_head gt (by decide) et
  obtain⟨c1,c2,c3⟩:=Ki.con_bind (con_kd gt.con).1 gt.con (.inl e1)
  have q1:=gd_kid gt (by omega) (i:=1) (by omega) c3
  have hb:bd t.kind=1:=by rw[e1];exact bd_all (.inl rfl)
  rw[hb]at q1
  have ee:=kind_eqv c2 (kindR_kind hq) (e4 0 (by simp))
  rw[if_pos ⟨e1,(sameF_iff _ _).2 ee⟩]
  obtain⟨f1,f2,f3⟩:=kindR_facts (K:=K) (T:=kidT T 1) (by rw[hq])
  exact fill_rs q1.con (conE_full f3).2 q1.sc f2 (Eqv.inst (e4 1 (by simp)) (.refl _))
 | @pack K Γ T q B hk hs he hq h ih =>
  intro ht hz hd Δ G
  have hT:=term_ne ht
  obtain⟨tl,t0,t1,t2⟩:=term_cxc ht hk
  have z1:=kid_sz hT (show 1 < T.kids.length by omega)
  rw[ofF_rule hT (by omega),ruleR,ifn,ifn,ifn,ifn,ifn,if_pos hk]
  unfold packR
  refine (tst_rs hs he).bnd fun t _ gt et=>?_
  have hq':Ki.kindR K (T.kids.getD 0 .nil)=(q,0):=hq
  rw[hq']
  show Rs (Ty.bnd (ofF (T.kids.getD 1 .nil) K Δ) fun a=>if t.kind=118∧sameF (t.kids.getD 0 .nil) q=true then Ty.bnd (fillR (t.kids.getD 1 .nil) (T.kids.getD 0 .nil)) fun b=>if sameF a b=true then (t,0) else (.nil,11)
   else (.nil,11)) _ _
  refine (ih t1 (by omega) (by omega) _ G).bnd fun a _ ga ea=>?_
  obtain⟨e1,e2,e3,e4⟩:=gd_head gt (by decide) et
  obtain⟨c1,c2,c3⟩:=Ki.con_bind (con_kd gt.con).1 gt.con (.inr (.inl e1))
  have q1:=gd_kid gt (by omega) (i:=1) (by omega) c3
  have hb:bd t.kind=1:=by rw[e1];exact bd_all (.inr (.inl rfl))
  rw[hb]at q1
  have ee:=kind_eqv c2 (kindR_kind hq) (e4 0 (by simp))
  rw[if_pos ⟨e1,(sameF_iff _ _).2 ee⟩]
  obtain⟨f1,f2,f3⟩:=kindR_facts (K:=K) (T:=kidT T 0) (by rw[hq])
  refine (fill_rs q1.con (conE_full f3).2 q1.sc f2 (Eqv.inst (e4 1 (by simp)) (.refl _))).bnd fun b _ gb eb=>?_
  rw[if_pos ((sameF_iff _ _).2 (gd_eq ga gb (ea.trans eb.symm)))]
  exact .ok gt et
 | @unpack K Γ T q B A hk hK h h2 ih ih2 =>
  intro ht hz hd Δ G
  have hT:=term_ne ht
  obtain⟨tl,t0,t1⟩:=term_xx ht (.inr (.inl hk))
  have z0:=kid_sz hT (show 0 < T.kids.length by omega)
  have z1:=kid_two hT tl
  have zp:1≤sizeN (kidT T 0):=size_pos (term_ne t0)
  rw[ofF_rule hT (by omega),ruleR,ifn,ifn,ifn,ifn,ifn,ifn,if_pos hk]
  unfold unpackR
  refine (ih t0 (by omega) (by omega) _ G).as (by decide) fun t _ gt et=>?_
  obtain⟨e1,e2,e3,e4⟩:=gd_head gt (by decide) et
  obtain⟨c1,c2,c3⟩:=Ki.con_bind (con_kd gt.con).1 gt.con (.inr (.inl e1))
  have q1:=gd_kid gt (by omega) (i:=1) (by omega) c3
  have hb:bd t.kind=1:=by rw[e1];exact bd_all (.inr (.inl rfl))
  rw[hb]at q1
  have ee:=kind_eqv c2 (kindE_kind hK) (e4 0 (by simp))
  rw[ee]
  refine Rs.lbnd G (by omega) fun Δ' _ G'=>(ih2 t1 (by omega) (by simp only[List.length_cons];omega) _ (.cons q1 (e4 1 (by simp)) G')).bnd fun b _ gb eb=>?_
  exact back_rs gb eb
 | @bind K Γ T A B hk h h2 ih ih2 =>
  intro ht hz hd Δ G
  have hT:=term_ne ht
  obtain⟨tl,t0,t1⟩:=term_xx ht (.inr (.inr (.inl hk)))
  have z0:=kid_sz hT (show 0 < T.kids.length by omega)
  have z1:=kid_sz hT (show 1 < T.kids.length by omega)
  rw[ofF_eq T K Δ hT,ifn,ifn,ifn,ifn,ifn,if_pos hk]
  unfold letR
  exact (ih t0 (by omega) (by omega) _ G).bnd fun a _ ga ea=>ih2 t1 (by omega) (by omega) _ (.cons ga ea G)
 | @choice K Γ T A hk h h1 h2 ih ih1 ih2 =>
  intro ht hz hd Δ G
  have hT:=term_ne ht
  obtain⟨tl,t0,t1,t2⟩:=term_xxx ht hk
  have z0:=kid_sz hT (show 0 < T.kids.length by omega)
  have z1:=kid_sz hT (show 1 < T.kids.length by omega)
  have z2:=kid_sz hT (show 2 < T.kids.length by omega)
  rw[ofF_rule hT (by omega),ruleR,ifn,ifn,ifn,ifn,ifn,ifn,ifn,if_pos hk]
  unfold choiceR Ty.lbnd
  have r0:=ih t0 (by omega) (by omega) _ G
  have r1:=ih1 t1 (by omega) (by omega) _ G
  have r2:=ih2 t2 (by omega) (by omega) _ G
  have hEr:Er (ofAll T.kids K Δ).2:=all_er fun x hx=>by
   rcases mem_three tl hx with e|e|e<;>rw[e]
   ·exact r0.1
   ·exact r1.1
   ·exact r2.1
  by_cases q:(ofAll T.kids K Δ).2=0
  ·rw[if_pos q]
   obtain⟨w1,w2⟩:=all_zero q
   obtain⟨g0,e0'⟩:=r0.2 (w1 _ (getD_mem (by omega)))
   obtain⟨g1,e1'⟩:=r1.2 (w1 _ (getD_mem (by omega)))
   obtain⟨g2,e2'⟩:=r2.2 (w1 _ (getD_mem (by omega)))
   have hget:∀i,i < T.kids.length→(ofAll T.kids K Δ).1.getD i .nil=(ofF (T.kids.getD i .nil) K Δ).1:=fun i hi=>by
    rw[w2];simp[List.getD_eq_getElem?_getD,hi]
   dsimp only
   rw[hget 0 (by omega),hget 1 (by omega),hget 2 (by omega)]
   have hk0:=(gd_head g0 (by decide) e0').1
   have ee:=gd_eq g1 g2 (e1'.trans e2'.symm)
   have hk0:(ofF (T.kids.getD 0 .nil) K Δ).1.kind=112:=hk0
   have ee:(ofF (T.kids.getD 1 .nil) K Δ).1=(ofF (T.kids.getD 2 .nil) K Δ).1:=ee
   rw[if_pos ⟨hk0,(sameF_iff _ _).2 ee⟩]
   exact .ok g1 e1'
  ·rw[if_neg q]
   exact .err (by unfold Er at hEr;omega)
 | @opr K Γ T hk h h1 ih ih1 =>
  intro ht hz hd Δ G
  have hT:=term_ne ht
  obtain⟨tl,t0,t1⟩:=term_xx ht (.inr (.inr (.inr hk)))
  have z0:=kid_sz hT (show 0 < T.kids.length by omega)
  have z1:=kid_sz hT (show 1 < T.kids.length by omega)
  rw[ofF_rule hT (by omega),ruleR,ifn,ifn,ifn,ifn,ifn,ifn,ifn,ifn,if_pos hk]
  unfold opR
  refine (ih t0 (by omega) (by omega) _ G).bnd fun a _ ga ea=>(ih1 t1 (by omega) (by omega) _ G).bnd fun b _ gb eb=>?_
  rw[if_pos ⟨(gd_head ga (by decide) ea).1,(gd_head gb (by decide) eb).1⟩]
  by_cases q:T.n≤3
  ·rw[if_pos q,if_pos q]
   obtain⟨l1,l2⟩:=leaf_gd (k:=111) (by omega) K.length
   exact .ok l1 (by rw[l2];exact .refl _)
  ·rw[if_neg q,if_neg q]
   obtain⟨l1,l2⟩:=leaf_gd (k:=112) (by omega) K.length
   exact .ok l1 (by rw[l2];exact .refl _)
 | @inj K Γ T c hk l hs he hfl ha h ih =>
  intro ht hz hd Δ G
  have hT:=term_ne ht
  obtain⟨tl,t0,t1⟩:=term_cx ht (.inr hk)
  have z1:=kid_sz hT (show 1 < T.kids.length by omega)
  rw[ofF_rule hT (by omega),ruleR,ifn,ifn,ifn,ifn,ifn,ifn,ifn,ifn,ifn,if_pos hk]
  unfold inR
  refine (tst_rs hs he).bnd fun s _ gs es=>(ih t1 (by omega) (by omega) _ G).bnd fun a _ ga ea=>?_
  obtain⟨e1,e2,_,_,e5⟩:=gd_fields (.inr ⟨rfl,rfl⟩) gs hfl es
  obtain⟨p,p1,p2,p3⟩:=e5 _ _ ha
  rw[bd_sum]at p3
  rw[if_pos e1,p1]
  refine (fill_rs p3.con gs.con p3.sc gs.sc (Eqv.inst p2 es)).bnd fun b _ gb eb=>?_
  rw[if_pos ((sameF_iff _ _).2 (gd_eq ga gb (ea.trans eb.symm)))]
  exact .ok gs es
 | @cse K Γ T A hk l hfl h0 hl hn X hX h ih0 ih =>
  intro ht hz hd Δ G
  have hT:=term_ne ht
  obtain⟨tl,t0,t1⟩:=term_xa ht hk
  have z0:=kid_sz hT (show 0 < T.kids.length by omega)
  rw[ofF_rule hT (by omega),ruleR,ifn,ifn,ifn,ifn,ifn,ifn,ifn,ifn,ifn,ifn,if_pos hk]
  unfold caseR
  refine (ih0 t0 (by omega) (by omega) _ G).as (by decide) fun s _ gs es=>?_
  obtain⟨e1,e2,e3,e4,e5⟩:=gd_fields (.inr ⟨rfl,rfl⟩) gs hfl es
  rw[arm_if,if_pos (arm_names hl hn e3 fun i hi=>(e4 i hi).1)]
  unfold Ty.lbnd
  have hlen:(T.kids.drop 1).length+1=T.kids.length:=by simp;omega
  have hx:=arm_size (.inl rfl) hT t1
  have hF:∀i (hi:i < l.length),Rs (fillR (inn (s.kids.getD i .nil)) s) K.length (X i):=fun i hi=>by
   obtain⟨_,g2,g3⟩:=e4 i hi
   rw[bd_sum]at g3
   exact fill_rs g3.con gs.con g3.sc gs.sc ((Eqv.inst g2 es).trans (hX i hi).symm)
  have hR:∀i (hi:i < l.length),(fillR (inn (s.kids.getD i .nil)) s).2=0→Rs (ofF (inn ((T.kids.drop 1).getD i .nil)) K ((fillR (inn (s.kids.getD i .nil)) s).1::Δ)) K.length A:=fun i hi q=>by
   rw[drop_get]
   obtain⟨a,b⟩:=hx i (by omega)
   obtain⟨c,d⟩:=(hF i hi).2 q
   exact ih i hi a (by omega) (by omega) _ (.cons c d G)
  have hEr:Er (armsF (T.kids.drop 1) s.kids s K Δ).2:=arms_er fun i hi=>⟨(hF i (by omega)).1,fun q=>(hR i (by omega) q).1⟩
  by_cases q:(armsF (T.kids.drop 1) s.kids s K Δ).2=0
  ·rw[if_pos q]
   obtain⟨a1,a2⟩:=arms_get (Prod.ext rfl q:armsF (T.kids.drop 1) s.kids s K Δ=((armsF (T.kids.drop 1) s.kids s K Δ).1,0))
   have hg:∀i,i < l.length→Gd K.length ((armsF (T.kids.drop 1) s.kids s K Δ).1.getD i .nil)∧Eqv (toC ((armsF (T.kids.drop 1) s.kids s K Δ).1.getD i .nil)) A:=fun i hi=>by
    obtain⟨Y,b1,b2⟩:=a2 i (by omega)
    have:=hR i hi (by rw[b1])
    rw[b1]at this
    rw[b2]at this
    exact this.2 rfl
   obtain⟨g0,g0'⟩:=hg 0 (by omega)
   refine alike_rs g0 g0' fun x hx=>?_
   obtain⟨i,hi,rfl⟩:=List.getElem_of_mem hx
   obtain⟨g1,g1'⟩:=hg i (by omega)
   have:=gd_eq g1 g0 (g1'.trans g0'.symm)
   rwa [getD_at hi]at this
  ·rw[if_neg q]
   exact .err (by unfold Er at hEr;omega)
 | @fold K Γ T A hk l hfl h0 hs he hl hn X hX h ih0 ih =>
  intro ht hz hd Δ G
  have hT:=term_ne ht
  obtain⟨tl,t0,t1',t1⟩:=term_xca ht hk
  have z0:=kid_sz hT (show 0 < T.kids.length by omega)
  rw[ofF_rule hT (by omega),ruleR,ifn,ifn,ifn,ifn,ifn,ifn,ifn,ifn,ifn,ifn,ifn]
  unfold foldR
  refine (ih0 t0 (by omega) (by omega) _ G).as (by decide) fun s _ gs es=>(tst_rs hs he).bnd fun t _ gt et=>?_
  obtain⟨e1,e2,e3,e4,e5⟩:=gd_fields (.inr ⟨rfl,rfl⟩) gs hfl es
  rw[arm_if,if_pos (arm_names hl hn e3 fun i hi=>(e4 i hi).1)]
  unfold Ty.lbnd
  have hlen:(T.kids.drop 2).length+2=T.kids.length:=by simp;omega
  have hx:=arm_size (.inr rfl) hT t1
  have hF:∀i (hi:i < l.length),Rs (fillR (inn (s.kids.getD i .nil)) t) K.length (X i):=fun i hi=>by
   obtain⟨_,g2,g3⟩:=e4 i hi
   rw[bd_sum]at g3
   exact fill_rs g3.con gt.con g3.sc gt.sc ((Eqv.inst g2 et).trans (hX i hi).symm)
  have hR:∀i (hi:i < l.length),(fillR (inn (s.kids.getD i .nil)) t).2=0→Rs (ofF (inn ((T.kids.drop 2).getD i .nil)) K ((fillR (inn (s.kids.getD i .nil)) t).1::Δ)) K.length A:=fun i hi q=>by
   rw[drop_get]
   obtain⟨a,b⟩:=hx i (by omega)
   obtain⟨c,d⟩:=(hF i hi).2 q
   exact ih i hi a (by omega) (by omega) _ (.cons c d G)
  have hEr:Er (armsF (T.kids.drop 2) s.kids t K Δ).2:=arms_er fun i hi=>⟨(hF i (by omega)).1,fun q=>(hR i (by omega) q).1⟩
  by_cases q:(armsF (T.kids.drop 2) s.kids t K Δ).2=0
  ·rw[if_pos q]
   obtain⟨a1,a2⟩:=arms_get (Prod.ext rfl q:armsF (T.kids.drop 2) s.kids t K Δ=((armsF (T.kids.drop 2) s.kids t K Δ).1,0))
   refine alike_rs gt et fun x hx=>?_
   obtain⟨i,hi,rfl⟩:=List.getElem_of_mem hx
   obtain⟨Y,b1,b2⟩:=a2 i (by omega)
   have:=hR i (by omega) (by rw[b1])
   rw[b1]at this
   rw[b2]at this
   obtain⟨g1,g1'⟩:=this.2 rfl
   have:=gd_eq g1 gt (g1'.trans et.symm)
   rwa [getD_at hi]at this
  ·rw[if_neg q]
   exact .err (by unfold Er at hEr;omega)
end Sn
end Go.Proofs.YtlgajkoplklkiaaGreat
namespace Go.Proofs.YtlgajkoplklkiaaGreat
namespace St
open Go Go.Mq Tm Sb
def itF:Nat→Tree→Tree
 | 0,T=>T
 | j+1,T=>itF j (stepR T).1
def goOn (T:Tree):Prop:=(stepR T).2.2=0∧(stepR T).2.1=true
def done (T:Tree):Prop:=(stepR T).2.2=0∧(stepR T).2.1=false
theorem run_zero:∀(k:Nat) (T v:Tree) (s n:Int),runF k T s=(v,n,0)→∃j,j≤k∧n=s+j∧(∀i,i < j→goOn (itF i T))∧itF j T=v∧done v
 | 0,T,v,s,n,h=>by
  rw[runF]at h
  by_cases h1:(stepR T).2.2=0
  ·rw[ifn]at h
   cases hb:(stepR T).2.1 with
   | true=>rw[hb,if_neg (by simp)]at h;exact absurd (Prod.mk.inj (Prod.mk.inj h).2).2 (by decide)
   | false =>
    rw[hb,if_pos rfl]at h
    have h:=Prod.mk.inj h
    have h':=Prod.mk.inj h.2
    exact⟨0,Nat.le_refl _,by simp[h'.1],fun i hi=>by omega,h.1,by rw[←h.1];exact⟨h1,hb⟩⟩
  ·rw[if_pos h1]at h;exact absurd (Prod.mk.inj (Prod.mk.inj h).2).2 h1
 | k+1,T,v,s,n,h=>by
  rw[runF]at h
  by_cases h1:(stepR T).2.2=0
  ·rw[ifn]at h
   cases hb:(stepR T).2.1 with
   | true =>
    rw[hb,if_neg (by simp)]at h
    obtain⟨j,h2,h3,h4,h5,h6⟩:=run_zero k _ v (s+1) n h
    refine⟨j+1,by omega,by rw[h3];push_cast;omega,fun i hi=>?_,h5,h6⟩
    cases i with
    | zero=>exact⟨h1,hb⟩
    | succ i=>exact h4 i (by omega)
   | false =>
    rw[hb,if_pos rfl]at h
    have h:=Prod.mk.inj h
    have h':=Prod.mk.inj h.2
    exact⟨0,by omega,by simp[h'.1],fun i hi=>by omega,h.1,by rw[←h.1];exact⟨h1,hb⟩⟩
  ·rw[if_pos h1]at h;exact absurd (Prod.mk.inj (Prod.mk.inj h).2).2 h1
def opN (n:Int)(a b:Tree):Tree:=.node 145 n ByteArray.empty ByteArray.empty [a,b]
def w16:Tree:=opN 1 (numN 2) (opN 3 (numN 2) (numN 2))
def w16m:Tree:=opN 1 (numN 2) (numN 4)
def w16s:ByteArray:=⟨#[91,32,111,112,32,49,32,50,32,52,32,93]⟩
theorem w16_step:stepR w16=(w16m,true,0):=by kernel_rfl
theorem w16_run:runR w16 9=(numN 6,2,0):=by kernel_rfl
theorem w16_show:tshowR w16m=w16s:=by kernel_rfl
theorem w16_six:tshowR (numN 6)=⟨#[54]⟩:=by kernel_rfl
theorem num_ok (n:Int):Pure P 16 [.d (.int .i64 n)] (.d (.tree (numN n))):=by
 refine Pure.of_body tt [5] [2] Tryz.func16 rfl rfl rfl lb fun g=>?_
 repeat' ((first|refine Ga ?_|refine Gc fun hlen=>?_|refine Gd (fun hc=>?_) fun hc=>?_)<;>conv=>whnf)
 exact Gg
theorem opn_ok (n:Int)(a b:Tree):Pure P 15 [.d (.int .i64 n),.d (.tree a),.d (.tree b)] (.d (.tree (opN n a b))):=by
 refine Pure.of_body tt [10,12] [6] Tryz.func15 rfl rfl rfl lb fun g=>?_
 repeat' ((first|refine Ga ?_|refine Gc fun hlen=>?_|refine Gd (fun hc=>?_) fun hc=>?_)<;>conv=>whnf)
 exact Gg
theorem works16_ok:Pure P 7 [] (.d (.bool true)):=by
 have h1:=Step_ok w16
 rw[w16_step]at h1
 have h2:=Run_ok w16 9 (by omega)
 rw[w16_run]at h2
 have h3:=tShow_ok w16m
 rw[w16_show]at h3
 have h4:=tShow_ok (numN 6)
 rw[w16_six]at h4
 refine Pure.of_body tt [] [0] Tryz.func7 rfl rfl rfl lb fun g=>?_
 repeat' ((first|refine Ga ?_|refine Gc fun hlen=>?_|refine Ge (num_ok _) ?_|refine Ge (opn_ok _ _ _) ?_|refine Ge h1 ?_|refine Ge h2 ?_|refine Ge h3 ?_|refine Ge h4 ?_|refine Gd (fun hc=>?_) fun hc=>?_)<;>conv=>whnf)
 all_goals first
  | exact Gf rfl (bool_eq (bytes_eq.2 rfl)) rfl
  | exact Gg
  | exact absurd rfl hc
def inR (a:Int):Prop := -1073741824≤a∧a≤1073741824
theorem num_term {a:Int}(h:inR a):isTermF (numN a)=true:=by
 have hh:headF (numN a)=true:=by
  rw[head_plain (T:=numN a) ⟨show (131:Int)≠138 by decide,show (131:Int)≠146 by decide⟩]
  have g1:decide ((-1073741824:Int)≤(numN a).n)=true:=decide_eq_true h.1
  have g2:decide ((numN a).n≤1073741824)=true:=decide_eq_true h.2
  unfold numT
  rw[if_neg (show ¬(numN a).kind=130 from by show ¬(131:Int)=130;decide),if_pos (show (numN a).kind=131 from rfl),g1,g2]
  rfl
 rw[isTermF_eq (by unfold numN;simp),hh,if_pos (.inr (.inl rfl))]
 rfl
theorem bool_term (b:Bool):isTermF (boolN b)=true:=by cases b<;>kernel_rfl
end St
end Go.Proofs.YtlgajkoplklkiaaGreat
namespace Go.Proofs.YtlgajkoplklkiaaGreat
namespace Sn
open Go Go.Mq Cn Tm Sb St Ty Mc
theorem set_at {l:List Tree}{i j:Nat}{k:Tree}(h:i≠j):(l.set i k).getD j .nil=l.getD j .nil:=by
 rw[Ki.set_get,if_neg (fun q=>h q.1)]
theorem set_term {l:List Tree}{i j:Nat}{k:Tree}(hk:isTermF k=true)(hj:isTermF (l.getD j .nil)=true):isTermF ((l.set i k).getD j .nil)=true:=by
 rw[Ki.set_get];split
 ·exact hk
 ·exact hj
theorem set_drop {l:List Tree}{j:Nat}{k:Tree}(hj:0 < j):(l.set 0 k).drop j=l.drop j:=by
 cases l with
 | nil=>rfl
 | cons x l =>
  obtain⟨m,rfl⟩:=Nat.exists_eq_succ_of_ne_zero (show j≠0 by omega)
  rfl
theorem field_term {nm:ByteArray}{k:Tree}(hl:labelF nm=true)(hk:isTermF k=true):tfieldF 137 (fieldT nm k)=true:=by
 rw[tfieldF_eq (by unfold fieldT;simp)]
 simp[fieldT,Tree.kind,Tree.n,Tree.mark,Tree.name,Tree.kids,hl,hk]
theorem fields_set:∀{l:List Tree} {i:Nat} {k:Tree},tfieldsF 137 l=true→isTermF k=true→i < l.length→tfieldsF 137 (l.set i (fieldT (l.getD i .nil).name k))=true∧(l.set i (fieldT (l.getD i .nil).name k)).map Tree.name=l.map Tree.name
 | [],i,k,_,_,hi=>by simp at hi
 | x::l,0,k,h,hk,_=>by
  rw[tfieldsF,Bool.and_eq_true]at h
  have hx:=tfield_kid h.1
  refine⟨?_,rfl⟩
  show tfieldsF 137 (fieldT x.name k::l)=true
  rw[tfieldsF,field_term hx.2.2.1 hk,h.2];rfl
 | x::l,i+1,k,h,hk,hi=>by
  rw[tfieldsF,Bool.and_eq_true]at h
  obtain⟨a,b⟩:=fields_set (l:=l) (i:=i) h.2 hk (by simpa using hi)
  refine⟨?_,?_⟩
  ·show tfieldsF 137 (x::l.set i (fieldT (l.getD i .nil).name k))=true
   rw[tfieldsF,h.1,a];rfl
  ·show x.name::(l.set i (fieldT (l.getD i .nil).name k)).map Tree.name=x.name::l.map Tree.name
   rw[b]
theorem node_head {T:Tree}(hT:T≠.nil)(l':List Tree):headF (.node T.kind T.n T.name T.mark l')=headF T:=by
 cases T with
 | nil=>exact absurd rfl hT
 | node k n nm mk l=>rfl
theorem with_term {T k:Tree}{i:Nat}(ht:isTermF T=true)(hk:isTermF k=true)(hK:T.kind=135∨T.kind=136∨T.kind=138∨(140≤T.kind∧T.kind≤148))(hi:i < T.kids.length)(h1:(plcF T).1≤i)(h2:i < (plcF T).2):isTermF (withT T i k)=true:=by
 have hT:=term_ne ht
 unfold withT
 by_cases c:T.kind=136
 ·rw[if_pos c]
  rw[isTermF_eq (by simp),node_head hT,Bool.and_eq_true]
  rw[isTermF_eq hT,Bool.and_eq_true,ifn,ifn,ifn,ifn,if_pos c,Bool.and_eq_true]at ht
  refine⟨ht.1,?_⟩
  show (if T.kind=130∨T.kind=131∨T.kind=132∨T.kind=133 then _ else if T.kind=134∨T.kind=146 then _ else if T.kind=139 then _ else if T.kind=135∨T.kind=142∨T.kind=143∨T.kind=145 then _ else if T.kind=136 then _ else _)=true
  rw[ifn,ifn,ifn,ifn,if_pos c,Bool.and_eq_true]
  obtain⟨a,b⟩:=fields_set ht.2.1 hk hi
  exact⟨a,by show pairsF true [] (T.kids.set i (fieldT (T.kids.getD i .nil).name k))=true;rw[pairs_map true [] [] rfl b];exact ht.2.2⟩
 rw[if_neg c]
 rw[isTermF_eq (by simp),node_head hT,Bool.and_eq_true]
 rw[isTermF_eq hT,Bool.and_eq_true,ifn]at ht
 refine⟨ht.1,?_⟩
 have ht:=ht.2
 have hl:(T.kids.set i k).length=T.kids.length:=by simp
 show (if T.kind=130∨T.kind=131∨T.kind=132∨T.kind=133 then decide ((T.kids.set i k).length=0)
    else if T.kind=134∨T.kind=146 then decide ((T.kids.set i k).length=2) && isConF ((T.kids.set i k).getD 0 .nil) && isTermF ((T.kids.set i k).getD 1 .nil)
    else if T.kind=139 then decide ((T.kids.set i k).length=2) && isKindF ((T.kids.set i k).getD 0 .nil) && isTermF ((T.kids.set i k).getD 1 .nil)
    else if T.kind=135∨T.kind=142∨T.kind=143∨T.kind=145 then decide ((T.kids.set i k).length=2) && isTermF ((T.kids.set i k).getD 0 .nil) && isTermF ((T.kids.set i k).getD 1 .nil)
    else if T.kind=136 then tfieldsF 137 (T.kids.set i k) && pairsF true [] (T.kids.set i k)
    else if T.kind=138 then decide ((T.kids.set i k).length=1) && isTermF ((T.kids.set i k).getD 0 .nil)
    else if T.kind=140 then decide ((T.kids.set i k).length=2) && isTermF ((T.kids.set i k).getD 0 .nil) && isConF ((T.kids.set i k).getD 1 .nil)
    else if T.kind=141 then decide ((T.kids.set i k).length=3) && isConF ((T.kids.set i k).getD 0 .nil) && isTermF ((T.kids.set i k).getD 1 .nil) && isConF ((T.kids.set i k).getD 2 .nil)
    else if T.kind=144 then decide ((T.kids.set i k).length=3) && isTermF ((T.kids.set i k).getD 0 .nil) && isTermF ((T.kids.set i k).getD 1 .nil) && isTermF ((T.kids.set i k).getD 2 .nil)
    else if T.kind=147 then decide (1 < (T.kids.set i k).length) && isTermF ((T.kids.set i k).getD 0 .nil) && tfieldsF 149 ((T.kids.set i k).drop 1) && pairsF false [] ((T.kids.set i k).drop 1)
    else if T.kind=148 then decide (2 < (T.kids.set i k).length) && isTermF ((T.kids.set i k).getD 0 .nil) && isConF ((T.kids.set i k).getD 1 .nil) && tfieldsF 149 ((T.kids.set i k).drop 2) && pairsF false [] ((T.kids.set i k).drop 2)
    else false)=true
 rw[hl,ifn]
 unfold plcF at h1 h2
 by_cases c1:T.kind=134∨T.kind=146
 ·rw[if_pos c1]at ht ⊢
  rw[ifn,ifn,ifp]at h1 h2
  have h1:1≤i:=h1
  simp only[Bool.and_eq_true]at ht ⊢
  exact⟨⟨ht.1.1,by rw[set_at (by omega)];exact ht.1.2⟩,set_term hk ht.2⟩
 rw[if_neg c1]at ht ⊢
 rw[ifn]at ht ⊢
 by_cases c2:T.kind=135∨T.kind=142∨T.kind=143∨T.kind=145
 ·rw[if_pos c2]at ht ⊢
  simp only[Bool.and_eq_true]at ht ⊢
  exact⟨⟨ht.1.1,set_term hk ht.1.2⟩,set_term hk ht.2⟩
 rw[if_neg c2,if_neg c]at ht ⊢
 by_cases c3:T.kind=138
 ·rw[if_pos c3]at ht ⊢
  simp only[Bool.and_eq_true]at ht ⊢
  exact⟨ht.1,set_term hk ht.2⟩
 rw[if_neg c3]at ht ⊢
 by_cases c5:T.kind=141
 ·rw[ifn,if_pos c5]at ht ⊢
  rw[ifn,ifn,ifp]at h1 h2
  have h1:1≤i:=h1
  have h2:i < 2:=h2
  simp only[Bool.and_eq_true]at ht ⊢
  exact⟨⟨⟨ht.1.1.1,by rw[set_at (by omega)];exact ht.1.1.2⟩,set_term hk ht.1.2⟩,by rw[set_at (by omega)];exact ht.2⟩
 rw[ifn,ifn,ifn]at h1 h2
 have h2:i < 1:=h2
 have hi0:i=0:=by omega
 subst hi0
 by_cases c4:T.kind=140
 ·rw[if_pos c4]at ht ⊢
  simp only[Bool.and_eq_true]at ht ⊢
  exact⟨⟨ht.1.1,set_term hk ht.1.2⟩,by rw[set_at (by omega)];exact ht.2⟩
 rw[if_neg c4,if_neg c5]at ht ⊢
 by_cases c6:T.kind=144
 ·rw[if_pos c6]at ht ⊢
  simp only[Bool.and_eq_true]at ht ⊢
  exact⟨⟨⟨ht.1.1.1,set_term hk ht.1.1.2⟩,set_term hk ht.1.2⟩,set_term hk ht.2⟩
 rw[if_neg c6]at ht ⊢
 by_cases c7:T.kind=147
 ·rw[if_pos c7]at ht ⊢
  rw[set_drop (by omega)]
  simp only[Bool.and_eq_true]at ht ⊢
  exact⟨⟨⟨ht.1.1.1,set_term hk ht.1.1.2⟩,ht.1.2⟩,ht.2⟩
 rw[if_neg c7]at ht ⊢
 by_cases c8:T.kind=148
 ·rw[if_pos c8]at ht ⊢
  rw[set_drop (by omega)]
  simp only[Bool.and_eq_true]at ht ⊢
  exact⟨⟨⟨⟨ht.1.1.1.1,set_term hk ht.1.1.1.2⟩,by rw[set_at (by omega)];exact ht.1.1.2⟩,ht.1.2⟩,ht.2⟩
 ·rw[if_neg c8]at ht;cases ht
theorem tfields_of {k:Int}:∀{l:List Tree},(∀x∈l,tfieldF k x=true)→tfieldsF k l=true
 | [],_=>rfl
 | x::l,h=>by rw[tfieldsF,h x (by simp),tfields_of fun y hy=>h y (by simp[hy])];rfl
theorem roll_term {T:Tree}(hT:isTermF T=true)(hk:T.kind=148)(c:Tree):(∀w,isTermF w=true→isTermF (rollF T c w)=true)∧∀y∈c.kids,∀w,isTermF w=true→isTermF (rollF T y w)=true:=by
 have hl:=(term_xca hT hk).1
 induction c using Tree.ind' with
 | h0=>exact⟨fun w hw=>by rw[rollF];exact hw,fun x hx=>by cases hx⟩
 | h1 c hc ih =>
  refine⟨fun w hw=>?_,fun y hy=>(ih y hy).1⟩
  rw[rollF_eq hc]
  by_cases c1:c.kind=110∧c.n=0
  ·rw[if_pos c1]
   exact with_term hT hw (by omega) (by omega) (by unfold plcF;rw[ifn,ifn,ifn];exact Nat.le_refl _) (by unfold plcF;rw[ifn,ifn,ifn];decide)
  rw[if_neg c1]
  by_cases c2:c.kind=115∧w.kind=136∧c.kids.map Tree.name=w.kids.map Tree.name
  ·rw[if_pos c2]
   obtain⟨_,hw6,hn⟩:=c2
   have hlen:w.kids.length=c.kids.length:=by have:=congrArg List.length hn;simpa using this.symm
   obtain⟨r1,r2⟩:=rolls_get (T:=T) c.kids w.kids hlen
   obtain⟨f1,f2⟩:=term_f hw hw6
   have hwT:=term_ne hw
   have hnames:(rollsF T c.kids w.kids).map Tree.name=w.kids.map Tree.name:=by
    apply List.ext_getElem (by simp[r1,hlen])
    intro i h1 h2
    have hi:i < c.kids.length:=by simp[r1]at h1;exact h1
    have h:=r2 i hi
    rw[getD_at (by omega),getD_at (show i < w.kids.length by omega)]at h
    rw[List.getElem_map,List.getElem_map,h];rfl
   have e0:Tree.node 136 w.n w.name w.mark (rollsF T c.kids w.kids)=.node w.kind w.n w.name w.mark (rollsF T c.kids w.kids):=by rw[hw6]
   rw[e0,isTermF_eq (by simp),node_head hwT,Bool.and_eq_true]
   have hw2:=hw
   rw[isTermF_eq hwT,Bool.and_eq_true]at hw2
   refine⟨hw2.1,?_⟩
   show (if w.kind=130∨w.kind=131∨w.kind=132∨w.kind=133 then _ else if w.kind=134∨w.kind=146 then _ else if w.kind=139 then _ else if w.kind=135∨w.kind=142∨w.kind=143∨w.kind=145 then _ else if w.kind=136 then _ else _)=true
   rw[ifn,ifn,ifn,ifn,if_pos hw6,Bool.and_eq_true]
   refine⟨tfields_of fun x hx=>?_,by show pairsF true [] (rollsF T c.kids w.kids)=true;rw[pairs_map true [] [] rfl hnames];exact f2⟩
   obtain⟨i,hi,rfl⟩:=List.getElem_of_mem (show x∈rollsF T c.kids w.kids from hx)
   have hi':i < c.kids.length:=by omega
   have h:=r2 i hi'
   rw[getD_at hi]at h
   rw[h]
   obtain⟨q1,q2,q3,q4,q5⟩:=tfield_kid (f1 _ (getD_mem (show i < w.kids.length by omega)))
   refine field_term q3 ?_
   unfold inn
   cases hky:(c.kids.getD i .nil).kids with
   | nil=>simp only[List.getD_nil];rw[rollF];exact q5
   | cons z zs=>exact (ih _ (getD_mem hi')).2 z (by rw[hky];simp) _ q5
  ·rw[if_neg c2];exact hw
theorem num_term' {n:Int}(h : -1073741824≤n∧n≤1073741824):isTermF (numN n)=true:=num_term h
theorem goes_term {T m:Tree}(hT:Cd T)(hg:goesF T=(m,0)):isTermF m=true:=by
 have herr:∀{e:Int},e≠0→((Tree.nil,e)=(m,(0:Int)))→isTermF m=true:=fun he h=>absurd (Prod.mk.inj h).2 he
 have hkz:∀{U:Tree} {i:Nat},isTermF U=true→i < U.kids.length→sizeN U≤65536→sizeN (kidT U i)≤65536:=fun hU hi hz=>by have:=kid_sz (term_ne hU) hi;omega
 have tm:∀{U b:Tree},isTermF U=true→isTermF b=true→termR U 0 b=(m,0)→isTermF m=true:=fun hU hb h=>by
  obtain⟨_,_,_,_,a5,_⟩:=termR_inv h
  rw[a5]
  exact (in_term 0 _ (Int.le_refl 0) hb _ 0 (Int.le_refl 0) (.inr (.inl hU))).term hU
 have cm:∀{U b:Tree},isTermF U=true→conR U 0 b=(m,0)→isTermF m=true:=fun hU h=>by
  obtain⟨a1,a2,_,a4,a5,_⟩:=conR_inv h
  rw[a5]
  exact (rc_rp a2 (closed_con a2 a4) _ 0 (.inr (.inl hU)) (by have:=(termE_ok a1).2.1;omega)).term hU
 unfold goesF at hg
 by_cases c1:T.kind=135
 ·rw[if_pos c1]at hg
  obtain⟨tl,t0,t1⟩:=term_xx hT.term (.inl c1)
  by_cases q:(kidT T 0).kind=134
  ·rw[if_pos q]at hg
   exact tm (term_cx t0 (.inl q)).2.2 t1 hg
  ·rw[if_neg q]at hg;exact herr (by decide) hg
 rw[if_neg c1]at hg
 by_cases c2:T.kind=140
 ·rw[if_pos c2]at hg
  obtain⟨tl,t0,t1⟩:=term_xc hT.term c2
  by_cases q:(kidT T 0).kind=139
  ·rw[if_pos q]at hg
   exact cm (term_kx t0 q).2.2 hg
  ·rw[if_neg q]at hg;exact herr (by decide) hg
 rw[if_neg c2]at hg
 by_cases c3:T.kind=138
 ·rw[if_pos c3]at hg
  obtain⟨tl,t0⟩:=term_x hT.term c3
  by_cases q:(kidT T 0).kind=136∧(partF T.name (kidT T 0).kids).isSome=true
  ·rw[if_pos q]at hg
   obtain⟨q1,q2⟩:=q
   obtain⟨x,hx⟩:=Option.isSome_iff_exists.1 q2
   rw[hx]at hg
   have:x=m:=(Prod.mk.inj hg).1
   subst this
   obtain⟨i,i1,i2⟩:=part_mem hx
   rw[i2]
   exact (tfield_kid ((term_f t0 q1).1 _ (getD_mem i1))).2.2.2.2
  ·rw[if_neg q]at hg;exact herr (by decide) hg
 rw[if_neg c3]at hg
 by_cases c4:T.kind=144
 ·rw[if_pos c4]at hg
  obtain⟨tl,t0,t1,t2⟩:=term_xxx hT.term c4
  by_cases q:(kidT T 0).kind=132
  ·rw[if_pos q]at hg
   by_cases q2:(kidT T 0).n=1
   ·rw[if_pos q2]at hg;rw[←(Prod.mk.inj hg).1];exact t1
   ·rw[if_neg q2]at hg;rw[←(Prod.mk.inj hg).1];exact t2
  ·rw[if_neg q]at hg;exact herr (by decide) hg
 rw[if_neg c4]at hg
 by_cases c5:T.kind=142
 ·rw[if_pos c5]at hg
  obtain⟨tl,t0,t1⟩:=term_xx hT.term (.inr (.inl c5))
  by_cases q:(kidT T 0).kind=141
  ·rw[if_pos q]at hg
   by_cases q2:(termR (kidT T 1) 0 (kidT (kidT T 0) 1)).2≠0
   ·rw[if_pos q2]at hg;exact herr q2 hg
   ·rw[if_neg q2]at hg
    obtain⟨a1,_⟩:=conR_inv hg
    exact cm (termE_ok a1).1 hg
  ·rw[if_neg q]at hg;exact herr (by decide) hg
 rw[if_neg c5]at hg
 by_cases c6:T.kind=143
 ·rw[if_pos c6]at hg
  obtain⟨tl,t0,t1⟩:=term_xx hT.term (.inr (.inr (.inl c6)))
  exact tm t1 t0 hg
 rw[if_neg c6]at hg
 by_cases c7:T.kind=145
 ·rw[if_pos c7]at hg
  unfold opF at hg
  split at hg
  ·exact herr (by decide) hg
  ·split at hg
   ·rw[←(Prod.mk.inj hg).1];exact bool_term _
   ·split at hg
    ·rw[←(Prod.mk.inj hg).1];exact bool_term _
    ·split at hg
     ·exact herr (by decide) hg
     ·rename_i q;rw[←(Prod.mk.inj hg).1];exact num_term' (by omega)
 rw[if_neg c7]at hg
 by_cases c8:T.kind=147
 ·rw[if_pos c8]at hg
  obtain⟨tl,t0,t1⟩:=term_xa hT.term c8
  by_cases q:(kidT T 0).kind=146∧(partF (kidT T 0).name (T.kids.drop 1)).isSome=true
  ·rw[if_pos q]at hg
   obtain⟨q1,q2⟩:=q
   obtain⟨x,hx⟩:=Option.isSome_iff_exists.1 q2
   rw[hx]at hg
   exact tm (arm_z hT (.inl ⟨c8,rfl⟩) hx).1 (term_cx t0 (.inr q1)).2.2 hg
  ·rw[if_neg q]at hg;exact herr (by decide) hg
 rw[if_neg c8]at hg
 by_cases c9:T.kind=148
 ·rw[if_pos c9]at hg
  unfold foldF at hg
  split at hg
  ·exact herr (by decide) hg
  ·split at hg
   ·rename_i q;exact herr q hg
   ·split at hg
    ·exact herr (by decide) hg
    ·split at hg
     ·rename_i q;exact herr q hg
     ·rename_i q
      have q:=Decidable.byContradiction q
      rw[←(Prod.mk.inj hg).1]
      exact (termE_ok q).1
 ·rw[if_neg c9]at hg;exact herr (by decide) hg
theorem step_term (T:Tree):(∀m,Cd T→valueF T=false→stF T=(m,0)→isTermF m=true)∧∀x∈T.kids,∀m,Cd x→valueF x=false→stF x=(m,0)→isTermF m=true:=by
 induction T using Tree.ind' with
 | h0=>exact⟨fun m h=>absurd rfl (term_ne h.term),fun x hx=>by cases hx⟩
 | h1 T hT ih =>
  refine⟨fun m hC hv hs=>?_,fun x hx=>(ih x hx).1⟩
  have hD:=hC.std hv
  obtain⟨pp1,pp2⟩:=hD.places
  rcases least (P:=fun j=>valueF (inF T j)=true) (fun j=>by cases valueF (inF T j)<;>simp) ((plcF T).2 - (plcF T).1) (plcF T).1 with h|⟨i,i1,i2,i3,i4⟩
  ·have h:∀j,(plcF T).1≤j→j < (plcF T).2→valueF (inF T j)=true:=fun j h1 h2=>h j h1 (by omega)
   rw[stF_none hT h]at hs
   exact goes_term hC hs
  ·have i2:i < (plcF T).2:=by omega
   have i3:valueF (inF T i)=false:=by cases hq:valueF (inF T i) with
    | true=>exact absurd hq i3
    | false=>rfl
   have hi:i < T.kids.length:=by omega
   rw[stF_at hT hi ⟨i1,i2⟩ i3 i4]at hs
   by_cases q:(stF (inF T i)).2≠0
   ·rw[if_pos q]at hs;exact absurd (Prod.mk.inj hs).2 q
   rw[if_neg q]at hs
   have q:(stF (inF T i)).2=0:=Decidable.byContradiction q
   rw[←(Prod.mk.inj hs).1]
   have cI:=hC.inner hD i1 i2
   have hst:stF (inF T i)=((stF (inF T i)).1,0):=Prod.ext rfl q
   refine with_term hC.term ?_ hD.kind hi i1 i2
   obtain⟨_,_,_,t4⟩:=hD.inner i1 i2
   by_cases k:T.kind=136
   ·have e:inF T i=(T.kids.getD i .nil).kids.getD 0 .nil:=by unfold inF;rw[if_pos k]
    have hm:inF T i∈(T.kids.getD i .nil).kids:=by rw[e];exact getD_mem (t4 k).2
    exact (ih _ (getD_mem hi)).2 _ hm _ cI i3 hst
   ·have e:inF T i=T.kids.getD i .nil:=by unfold inF;rw[if_neg k]
    have hm:inF T i∈T.kids:=by rw[e];exact getD_mem hi
    exact (ih _ hm).1 _ cI i3 hst
theorem inv_lam {K:List Tree}{Γ:List Cn}{T:Tree}{C:Cn}(h:Hk K Γ T C):T.kind=134→∃A B,Hk K (A::Γ) (kidT T 1) B∧Eqv (.op 114 e0 [A,B]) C:=by
 induction h with
 | conv _ he ih=>intro hk;obtain⟨A,B,h1,h2⟩:=ih hk;exact⟨A,B,h1,h2.trans he⟩
 | lam hk hs he h=>exact fun _=>⟨_,_,h,.refl _⟩
 | _=>intro hh;omega
theorem inv_tlam {K:List Tree}{Γ:List Cn}{T:Tree}{C:Cn}(h:Hk K Γ T C):T.kind=139→∃B,kindE (kidT T 0)=0∧Hk (kidT T 0::K) (shC Γ) (kidT T 1) B∧Eqv (.op 117 e0 [toC (kidT T 0),B]) C:=by
 induction h with
 | conv _ he ih=>intro hk;obtain⟨B,h0,h1,h2⟩:=ih hk;exact⟨B,h0,h1,h2.trans he⟩
 | tlam hk hK h=>exact fun _=>⟨_,hK,h,.refl _⟩
 | _=>intro hh;omega
theorem inv_rcd {K:List Tree}{Γ:List Cn}{T:Tree}{C:Cn}(h:Hk K Γ T C):T.kind=136→∃l,l.length=T.kids.length∧FL 116 l∧(∀i (hi:i < l.length),nmOf l[i]=(kidT T i).name)∧(∀i (hi:i < l.length),Hk K Γ (inn (kidT T i)) (bodyOf l[i]))∧Eqv (.op 115 e0 l) C:=by
 induction h with
 | conv _ he ih=>intro hk;obtain⟨l,h1,h2,h3,h4,h5⟩:=ih hk;exact⟨l,h1,h2,h3,h4,h5.trans he⟩
 | rcd hk hl hfl hn h=>exact fun _=>⟨_,hl,hfl,hn,h,.refl _⟩
 | _=>intro hh;omega
theorem inv_pack {K:List Tree}{Γ:List Cn}{T:Tree}{C:Cn}(h:Hk K Γ T C):T.kind=141→∃q B,Ki.kindR K (kidT T 0)=(q,0)∧Hk K Γ (kidT T 1) (inst B (toC (kidT T 0)))∧Eqv (.op 118 e0 [toC q,B]) C:=by
 induction h with
 | conv _ he ih=>intro hk;obtain⟨q,B,h0,h1,h2⟩:=ih hk;exact⟨q,B,h0,h1,h2.trans he⟩
 | pack hk hs he hq h=>exact fun _=>⟨_,_,hq,h,.refl _⟩
 | _=>intro hh;omega
theorem inv_inj {K:List Tree}{Γ:List Cn}{T:Tree}{C:Cn}(h:Hk K Γ T C):T.kind=146→∃l c,Ki.starE K (kidT T 0)=0∧Eqv (toC (kidT T 0)) (.op 121 e0 l)∧FL 122 l∧fAt T.name l=some c∧Hk K Γ (kidT T 1) (inst c (.op 121 e0 l))∧Eqv (.op 121 e0 l) C:=by
 induction h with
 | conv _ he ih=>intro hk;obtain⟨l,c,h1,h2,h3,h4,h5,h6⟩:=ih hk;exact⟨l,c,h1,h2,h3,h4,h5,h6.trans he⟩
 | inj hk hs he hfl ha h=>exact fun _=>⟨_,_,hs,he,hfl,ha,h,.refl _⟩
 | _=>intro hh;omega
theorem eqv_pair {k:Int}(hk:k≠120){a b c d:Cn}(h:Eqv (.op k e0 [a,b]) (.op k e0 [c,d])):Eqv a c∧Eqv b d:=by
 obtain⟨_,_,_,h4⟩:=eqv_op hk hk h
 exact⟨h4 0 (by simp) (by simp),h4 1 (by simp) (by simp)⟩
theorem eqv_fields {k kd:Int}(hkk:k=115∧kd=116∨k=121∧kd=122){l l':List Cn}(h:FL kd l)(h':FL kd l')(he:Eqv (.op k e0 l) (.op k e0 l')):l'.length=l.length∧∀i (h1:i < l.length) (h2:i < l'.length),nmOf l'[i]=nmOf l[i]∧Eqv (bodyOf l[i]) (bodyOf l'[i]):=by
 obtain⟨_,_,h3,h4⟩:=eqv_op (by omega) (by omega) he
 exact⟨h3,eqv_fld (by omega) h h' h3 h4⟩
theorem part_at {P:Tree→Cn→Prop}{s:ByteArray}:∀{l:List Cn} {ks:List Tree},ks.length=l.length→(∀i (hi:i < l.length),nmOf l[i]=(ks.getD i .nil).name∧P (inn (ks.getD i .nil)) (bodyOf l[i]))→∀{c:Cn},fAt s l=some c→∃x,partF s ks=some x∧P x c
 | [],_,_,_,c,h=>by rw[fAt]at h;cases h
 | _::_,[],h,_,_,_=>by simp at h
 | a::l,k::ks,hl,h,c,hs=>by
  obtain⟨h1,h2⟩:=h 0 (by simp)
  have h1:nmOf a=k.name:=h1
  rw[fAt,h1]at hs
  rw[partF]
  by_cases q:k.name=s
  ·rw[if_pos q]at hs ⊢
   have:=Option.some.inj hs
   subst this
   exact⟨_,rfl,h2⟩
  ·rw[if_neg q]at hs ⊢
   exact part_at (by simpa using hl) (fun i hi=>by have:=h (i+1) (by simpa using hi);simpa using this) hs
theorem getD_drop {l:List Tree}{j i:Nat}:(l.drop j).getD i .nil=l.getD (j+i) .nil:=by simp[List.getD_eq_getElem?_getD]
theorem kid_with {T u:Tree}{j:Nat}(hk:T.kind≠136)(hj:j≠0):kidT (withT T 0 u) j=kidT T j:=by
 unfold withT kidT
 rw[if_neg hk]
 exact set_at (by omega)
theorem kid_with0 {T u:Tree}(hk:T.kind≠136)(hl:0 < T.kids.length):kidT (withT T 0 u) 0=u:=by
 unfold withT kidT
 rw[if_neg hk]
 show (T.kids.set 0 u).getD 0 .nil=u
 rw[Ki.set_get,if_pos ⟨rfl,hl⟩]
theorem values_mem:∀{l:List Tree},valuesF l=true→∀x∈l,valueF (x.kids.getD 0 .nil)=true
 | [],_,x,hx=>by cases hx
 | y::l,h,x,hx=>by
  rw[valuesF,Bool.and_eq_true]at h
  rcases List.mem_cons.1 hx with rfl|hx
  ·have h1:=h.1
   cases x with
   | nil=>rw[valueIn]at h1;cases h1
   | node k n nm mk l=>rw[valueIn,valueAt_eq]at h1;exact h1
  ·exact values_mem h.2 x hx
theorem value_field {w:Tree}(hv:valueF w=true)(hk:w.kind=136){i:Nat}(hi:i < w.kids.length):valueF (inn (w.kids.getD i .nil))=true:=by
 have hT:w≠.nil:=by intro e;subst e;rw[valueF]at hv;cases hv
 rw[valueF_eq hT,ifn,ifn,if_pos hk]at hv
 exact values_mem hv _ (getD_mem hi)
theorem roll_hk {T:Tree}{S A:Cn}(hf:∀u,Hk [] [] u S→Hk [] [] (withT T 0 u) A)(c:Tree) :
  (isConF c=true→Pl (toC c)→∀w,Cd w→valueF w=true→Hk [] [] w (inst (toC c) S)→Hk [] [] (rollF T c w) (inst (toC c) A)) ∧
  ∀y∈c.kids,isConF y=true→Pl (toC y)→∀w,Cd w→valueF w=true→Hk [] [] w (inst (toC y) S)→Hk [] [] (rollF T y w) (inst (toC y) A):=by
 induction c using Tree.ind' with
 | h0=>exact⟨fun h=>(by rw[isConF]at h;cases h),fun x hx=>by cases hx⟩
 | h1 c hc ih =>
  refine⟨fun hcon hp w hC hv h=>?_,fun y hy=>(ih y hy).1⟩
  rw[rollF_eq hc]
  by_cases c0:c.kind=110
  ·by_cases c1:c.n=0
   ·rw[if_pos ⟨c0,c1⟩]
    rw[toC_var hc c0,c1]at h ⊢
    have e:∀X:Cn,inst (.var (0:Int).toNat) X=X:=fun X=>by unfold inst;rw[sub_var];rfl
    rw[e]at h ⊢
    exact hf w h
   ·rw[if_neg (fun q=>c1 q.2),if_neg (fun q=>by have:=q.1;omega)]
    have hv:=Ki.con_var hc hcon c0
    rw[toC_var hc c0]at h ⊢
    have e:∀X:Cn,inst (.var c.n.toNat) X=.var (c.n.toNat - 1):=fun X=>by
     unfold inst;rw[sub_var]
     obtain⟨m,hm⟩:=Nat.exists_eq_succ_of_ne_zero (show c.n.toNat≠0 by omega)
     rw[hm];rfl
    rw[e]at h ⊢
    exact h
  rw[if_neg (fun q=>c0 q.1)]
  by_cases c5:c.kind=115
  ·have hff:=Cn.rec_fl hc hcon c5
   have hfx:∀i,i < c.kids.length→toC (c.kids.getD i .nil)=.op 116 (c.kids.getD i .nil).name [toC (inn (c.kids.getD i .nil))]∧isConF (inn (c.kids.getD i .nil))=true∧inn (c.kids.getD i .nil)∈(c.kids.getD i .nil).kids:=fun i hi=>by
    obtain⟨e1,e2,e3,e4⟩:=Cn.field_toC (by decide) (hff _ (getD_mem hi))
    exact⟨e1,e2,getD_mem (by omega)⟩
   have hFL:FL 116 (c.kids.map toC):=fun x hx=>by
    obtain⟨y,hy,rfl⟩:=List.mem_map.1 hx
    exact⟨_,_,(Cn.field_toC (by decide) (hff _ hy)).1⟩
   have einst:∀X:Cn,inst (toC c) X=.op 115 e0 ((c.kids.map toC).map (sub (s0 X))):=fun X=>by
    unfold inst
    rw[toC_op hc c0,c5,con_nm hcon,sub_rec]
   have hbody:∀(X:Cn) i (hi:i < ((c.kids.map toC).map (sub (s0 X))).length),nmOf (((c.kids.map toC).map (sub (s0 X)))[i])=(c.kids.getD i .nil).name∧bodyOf (((c.kids.map toC).map (sub (s0 X)))[i])=inst (toC (inn (c.kids.getD i .nil))) X:=fun X i hi=>by
    have hi':i < c.kids.length:=by simpa using hi
    have hm:(c.kids.map toC)[i]'(by simpa using hi')∈c.kids.map toC:=List.getElem_mem _
    obtain⟨g1,g2⟩:=sub_fld (.inl rfl) (hFL _ hm) (s0 X)
    rw[List.getElem_map,g1,g2,getD_map_toC,(hfx i hi').1]
    exact⟨rfl,rfl⟩
   have hw6:w.kind=136:=by
    rw[einst]at h
    exact (hd_inj (value_kind hv)).2.2.2.2.1 (canon hv (by decide) h)
   rw[einst]at h
   obtain⟨l,l1,l2,l3,l4,l5⟩:=inv_rcd h hw6
   obtain⟨m1,m2⟩:=eqv_fields (.inl ⟨rfl,rfl⟩) l2 (hFL.sub (.inl rfl) _) l5
   have hlen:c.kids.length=l.length:=by simpa using m1
   have hn:c.kids.map Tree.name=w.kids.map Tree.name:=by
    apply List.ext_getElem (by simp;omega)
    intro i h1 h2
    have hi:i < c.kids.length:=by simpa using h1
    have a:=(m2 i (by omega) (by simpa using hi)).1
    rw[(hbody S i (by simpa using hi)).1,l3 i (by omega)]at a
    rw[List.getElem_map,List.getElem_map,←getD_at hi,←getD_at (show i < w.kids.length by omega)]
    exact a
   rw[if_pos ⟨c5,hw6,hn⟩,einst]
   obtain⟨r1,r2⟩:=rolls_get (T:=T) c.kids w.kids (by omega)
   have hpl:∀i,i < c.kids.length→Pl (toC (inn (c.kids.getD i .nil))):=fun i hi=>by
    rw[toC_op hc c0,c5]at hp
    have:=Pl.fields hp hFL _ (List.mem_map_of_mem (getD_mem hi))
    rwa [(hfx i hi).1]at this
   refine .rcd rfl (by show _=(rollsF T c.kids w.kids).length;simp[r1]) (hFL.sub (.inl rfl) _) (fun i hi=>?_) fun i hi=>?_
   ·have hi':i < c.kids.length:=by simpa using hi
    rw[(hbody A i hi).1]
    show _=((rollsF T c.kids w.kids).getD i .nil).name
    rw[r2 i hi']
    show _=(w.kids.getD i .nil).name
    have a:=congrArg (fun l=>l.getD i ByteArray.empty) hn
    simp only[List.getD_eq_getElem?_getD,List.getElem?_map]at a
    rw[List.getElem?_eq_getElem hi',List.getElem?_eq_getElem (show i < w.kids.length by omega)]at a
    rw[getD_at hi',getD_at (show i < w.kids.length by omega)]
    simpa using a
   ·have hi':i < c.kids.length:=by simpa using hi
    rw[(hbody A i hi).2]
    have e:inn (kidT (.node 136 w.n w.name w.mark (rollsF T c.kids w.kids)) i)=rollF T (inn (c.kids.getD i .nil)) (inn (w.kids.getD i .nil)):=by
     show inn ((rollsF T c.kids w.kids).getD i .nil)=_
     rw[r2 i hi'];rfl
    rw[e]
    obtain⟨_,g2,g3⟩:=hfx i hi'
    have a:=l4 i (by omega)
    have b:=(m2 i (by omega) (by simpa using hi')).2
    rw[(hbody S i (by simpa using hi')).2]at b
    have hvi:valueF (inn (w.kids.getD i .nil))=true:=value_field hv hw6 (by omega)
    exact (ih _ (getD_mem hi')).2 _ g3 g2 (hpl i hi') _ (hC.field hw6 (by omega)) hvi (.conv a b)
  ·rw[if_neg (fun q=>c5 q.1)]
   have e:=toC_op hc c0
   rw[e]at hp
   obtain⟨c',hc'⟩:=pl_free c5 hp
   rw[←e]at hc'
   rw[hc',inst_shift]at h ⊢
   exact h
theorem goes_keep {K:List Tree}{Γ:List Cn}{T:Tree}{A:Cn}(h:Hk K Γ T A):K=[]→Γ=[]→Cd T→(∀j,(plcF T).1≤j→j < (plcF T).2→valueF (inF T j)=true)→∀m,goesF T=(m,0)→Hk [] [] m A:=by
 have hin:∀{T:Tree} (i:Nat),T.kind≠136→inF T i=kidT T i:=fun i q=>by unfold inF;rw[if_neg q];rfl
 have p1:∀{T:Tree},¬(T.kind=135∨T.kind=145)→T.kind≠136→¬(T.kind=141∨T.kind=146)→(plcF T).1=0∧(plcF T).2=1:=fun h1 h2 h3=>by
  unfold plcF;rw[if_neg h1,if_neg h2,if_neg h3];exact⟨rfl,rfl⟩
 have bad:∀{T m:Tree},(T.kind≠135∧T.kind≠140∧T.kind≠138∧T.kind≠144∧T.kind≠142∧T.kind≠143∧T.kind≠145∧T.kind≠147∧T.kind≠148)→goesF T=(m,0)→False:=fun hb h=>by
  obtain⟨a,b,c,d,e,f,g,i,j⟩:=hb
  unfold goesF at h
  rw[if_neg a,if_neg b,if_neg c,if_neg d,if_neg e,if_neg f,if_neg g,if_neg i,if_neg j]at h
  exact absurd (Prod.mk.inj h).2 (by decide)
 have kz:∀{T:Tree} {i:Nat},Cd T→i < T.kids.length→sizeN (kidT T i)≤65536:=fun hC hi=>by
  have:=kid_sz (term_ne hC.term) hi
  have:=hC.size
  omega
 have herr:∀{e:Int} {m:Tree} {A:Cn},e≠0→((Tree.nil,e)=(m,(0:Int)))→Hk [] [] m A:=fun he h=>absurd (Prod.mk.inj h).2 he
 induction h with
 | conv _ he ih=>intro hK hΓ hC hp m hg;exact .conv (ih hK hΓ hC hp m hg) he
 | var hk=>intro hK hΓ hC hp m hg;exact (bad (by omega) hg).elim
 | int hk=>intro hK hΓ hC hp m hg;exact (bad (by omega) hg).elim
 | tru hk=>intro hK hΓ hC hp m hg;exact (bad (by omega) hg).elim
 | unt hk=>intro hK hΓ hC hp m hg;exact (bad (by omega) hg).elim
 | lam hk=>intro hK hΓ hC hp m hg;exact (bad (by omega) hg).elim
 | rcd hk=>intro hK hΓ hC hp m hg;exact (bad (by omega) hg).elim
 | tlam hk=>intro hK hΓ hC hp m hg;exact (bad (by omega) hg).elim
 | pack hk=>intro hK hΓ hC hp m hg;exact (bad (by omega) hg).elim
 | inj hk=>intro hK hΓ hC hp m hg;exact (bad (by omega) hg).elim
 | @app K Γ T A B hk h h2 ih ih2 =>
  intro hK hΓ hC hp m hg
  subst hK hΓ
  unfold goesF at hg
  rw[if_pos hk]at hg
  obtain⟨tl,t0,t1⟩:=term_xx hC.term (.inl hk)
  have c0:Cd (kidT T 0):=hC.kid (by omega) (by rw[hk];rfl) t0
  have c1:Cd (kidT T 1):=hC.kid (by omega) (by rw[hk];rfl) t1
  by_cases q:(kidT T 0).kind=134
  ·rw[if_pos q]at hg
   obtain⟨l1,l2,l3⟩:=term_cx c0.term (.inl q)
   obtain⟨A0,B0,g1,g2⟩:=inv_lam h q
   obtain⟨e1,e2⟩:=eqv_pair (by decide) g2
   obtain⟨_,_,_,_,a5,_⟩:=termR_inv hg
   rw[a5]
   exact .conv (hk_in c1 (.conv h2 e1.symm) l3 (kz c0 (by omega)) g1) e2
  ·rw[if_neg q]at hg;exact herr (by decide) hg
 | @proj K Γ T A hk l hfl h ha ih =>
  intro hK hΓ hC hp m hg
  subst hK hΓ
  unfold goesF at hg
  rw[ifn,ifn,if_pos hk]at hg
  by_cases q:(kidT T 0).kind=136∧(partF T.name (kidT T 0).kids).isSome=true
  ·rw[if_pos q]at hg
   obtain⟨q1,q2⟩:=q
   obtain⟨l',l1,l2,l3,l4,l5⟩:=inv_rcd h q1
   obtain⟨m1,m2⟩:=eqv_fields (.inl ⟨rfl,rfl⟩) l2 hfl l5
   obtain⟨x,x1,x2⟩:=part_at (P:=fun x c=>Hk [] [] x c) (s:=T.name) (l:=l) (ks:=(kidT T 0).kids) (by omega) (fun i hi=>by
    obtain⟨a,b⟩:=m2 i (by omega) hi
    refine⟨?_,.conv (l4 i (by omega)) b⟩
    rw[a];exact l3 i (by omega)) ha
   rw[x1]at hg
   have:x=m:=(Prod.mk.inj hg).1
   subst this
   exact x2
  ·rw[if_neg q]at hg;exact herr (by decide) hg
 | @tapp K Γ T q B hk h hq ih =>
  intro hK hΓ hC hp m hg
  subst hK hΓ
  unfold goesF at hg
  rw[ifn,if_pos hk]at hg
  obtain⟨tl,t0,t1⟩:=term_xc hC.term hk
  have c0:Cd (kidT T 0):=hC.kid (by omega) (by rw[hk];rfl) t0
  by_cases q3:(kidT T 0).kind=139
  ·rw[if_pos q3]at hg
   obtain⟨l1,l2,l3⟩:=term_kx c0.term q3
   obtain⟨B0,g0,g1,g2⟩:=inv_tlam h q3
   obtain⟨e1,e2⟩:=eqv_pair (by decide) g2
   have ee:=kind_eqv (kindE_kind g0) (kindR_kind hq) e1
   obtain⟨_,_,_,_,a5,a6⟩:=conR_inv hg
   rw[a5]at a6 ⊢
   rw[ee]at g1
   exact .conv (hk_rc hq l3 (kz c0 (by omega)) a6 g1) (Eqv.inst e2 (.refl _))
  ·rw[if_neg q3]at hg;exact herr (by decide) hg
 | @unpack K Γ T q B A hk hK0 h h2 ih ih2 =>
  intro hK hΓ hC hp m hg
  subst hK hΓ
  unfold goesF at hg
  rw[ifn,ifn,ifn,ifn,if_pos hk]at hg
  obtain⟨tl,t0,t1⟩:=term_xx hC.term (.inr (.inl hk))
  have c0:Cd (kidT T 0):=hC.kid (by omega) (by rw[hk];rfl) t0
  by_cases q3:(kidT T 0).kind=141
  ·rw[if_pos q3]at hg
   obtain⟨pl,p0,p1',p2⟩:=term_cxc c0.term q3
   have cw:Cd (kidT (kidT T 0) 1):=c0.kid (by omega) (by rw[q3];rfl) p1'
   by_cases q2:(termR (kidT T 1) 0 (kidT (kidT T 0) 1)).2≠0
   ·rw[if_pos q2]at hg;exact herr q2 hg
   ·rw[if_neg q2]at hg
    have q2:(termR (kidT T 1) 0 (kidT (kidT T 0) 1)).2=0:=Decidable.byContradiction q2
    obtain⟨_,_,_,_,a5,_⟩:=termR_inv (Prod.ext rfl q2:termR (kidT T 1) 0 (kidT (kidT T 0) 1)=((termR (kidT T 1) 0 (kidT (kidT T 0) 1)).1,0))
    obtain⟨_,_,_,_,d5,d6⟩:=conR_inv hg
    obtain⟨q',B',g0,g1,g2⟩:=inv_pack h q3
    obtain⟨e1,e2⟩:=eqv_pair (by decide) g2
    have ee:=kind_eqv (kindR_kind g0) (kindE_kind hK0) e1
    subst ee
    rw[a5]at d5
    rw[d5]at d6 ⊢
    exact hk_open g0 cw (.conv g1 (Eqv.inst e2 (.refl _))) t1 (kz hC (by omega)) d6 h2
  ·rw[if_neg q3]at hg;exact herr (by decide) hg
 | @bind K Γ T A B hk h h2 ih ih2 =>
  intro hK hΓ hC hp m hg
  subst hK hΓ
  unfold goesF at hg
  rw[ifn,ifn,ifn,ifn,ifn,if_pos hk]at hg
  obtain⟨tl,t0,t1⟩:=term_xx hC.term (.inr (.inr (.inl hk)))
  have c0:Cd (kidT T 0):=hC.kid (by omega) (by rw[hk];rfl) t0
  obtain⟨_,_,_,_,a5,_⟩:=termR_inv hg
  rw[a5]
  exact hk_in c0 h t1 (kz hC (by omega)) h2
 | @choice K Γ T A hk h h1 h2 ih ih1 ih2 =>
  intro hK hΓ hC hp m hg
  subst hK hΓ
  unfold goesF at hg
  rw[ifn,ifn,ifn,if_pos hk]at hg
  by_cases q:(kidT T 0).kind=132
  ·rw[if_pos q]at hg
   by_cases q2:(kidT T 0).n=1
   ·rw[if_pos q2]at hg;rw[←(Prod.mk.inj hg).1];exact h1
   ·rw[if_neg q2]at hg;rw[←(Prod.mk.inj hg).1];exact h2
  ·rw[if_neg q]at hg;exact herr (by decide) hg
 | @opr K Γ T hk h h1 ih ih1 =>
  intro hK hΓ hC hp m hg
  unfold goesF at hg
  rw[ifn,ifn,ifn,ifn,ifn,ifn,if_pos hk]at hg
  have hn:=(term_head hC.term).1.n145 hk
  unfold opF at hg
  by_cases q0:(kidT T 0).kind≠131∨(kidT T 1).kind≠131
  ·rw[if_pos q0]at hg;exact herr (by decide) hg
  rw[if_neg q0]at hg
  by_cases q1:T.n=4
  ·rw[if_pos q1]at hg
   rw[←(Prod.mk.inj hg).1,ifn]
   exact .tru rfl
  rw[if_neg q1]at hg
  by_cases q2:T.n=5
  ·rw[if_pos q2]at hg
   rw[←(Prod.mk.inj hg).1,ifn]
   exact .tru rfl
  rw[if_neg q2]at hg
  split at hg
  ·exact herr (by decide) hg
  ·rw[←(Prod.mk.inj hg).1,ifp]
   exact .int rfl
 | @cse K Γ T A hk l hfl h0 hl hn X hX h ih0 ih =>
  intro hK hΓ hC hp m hg
  subst hK hΓ
  unfold goesF at hg
  rw[ifn,ifn,ifn,ifn,ifn,ifn,ifn,if_pos hk]at hg
  obtain⟨tl,t0,t1⟩:=term_xa hC.term hk
  have c0:Cd (kidT T 0):=hC.kid (by omega) (by rw[hk];rfl) t0
  by_cases q:(kidT T 0).kind=146∧(partF (kidT T 0).name (T.kids.drop 1)).isSome=true
  ·rw[if_pos q]at hg
   obtain⟨q1,q2⟩:=q
   obtain⟨pl,p0,p1'⟩:=term_cx c0.term (.inr q1)
   have cw:Cd (kidT (kidT T 0) 1):=c0.kid (by omega) (by rw[q1];rfl) p1'
   obtain⟨l0,c,g1,g2,g3,g4,g5,g6⟩:=inv_inj h0 q1
   obtain⟨m1,m2⟩:=eqv_fields (.inr ⟨rfl,rfl⟩) g3 hfl g6
   obtain⟨x,x1,Y,x2,x3⟩:=part_at (P:=fun x c=>∃Y,Eqv Y (inst c (.op 121 e0 l0))∧Hk [] [Y] x A) (s:=(kidT T 0).name) (l:=l0) (ks:=T.kids.drop 1) (by omega) (fun i hi=>by
    obtain⟨a,b⟩:=m2 i hi (by omega)
    rw[getD_drop]
    refine⟨?_,X i,(hX i (by omega)).trans (Eqv.inst b.symm g6.symm),h i (by omega)⟩
    rw[←a];exact hn i (by omega)) g4
   rw[x1]at hg
   obtain⟨f1,_⟩:=arm_z hC (.inl ⟨hk,rfl⟩) x1
   obtain⟨a1,_,_,_,a5,_⟩:=termR_inv hg
   rw[a5]
   exact hk_in cw (.conv g5 x2.symm) f1 (termE_ok a1).2.1 x3
  ·rw[if_neg q]at hg;exact herr (by decide) hg
 | @fold K Γ T A hk l hfl h0 hs he hl hn X hX h ih0 ih =>
  intro hK hΓ hC hp m hg
  subst hK hΓ
  unfold goesF at hg
  rw[ifn,ifn,ifn,ifn,ifn,ifn,ifn,ifn,if_pos hk]at hg
  obtain⟨tl,t0,t1',t1⟩:=term_xca hC.term hk
  have c0:Cd (kidT T 0):=hC.kid (by omega) (by rw[hk];rfl) t0
  unfold foldF at hg
  by_cases q0:(kidT T 0).kind≠146
  ·rw[if_pos q0]at hg;exact herr (by decide) hg
  rw[if_neg q0]at hg
  have q0:(kidT T 0).kind=146:=Decidable.byContradiction q0
  obtain⟨pl,p0,p1'⟩:=term_cx c0.term (.inr q0)
  have cw:Cd (kidT (kidT T 0) 1):=c0.kid (by omega) (by rw[q0];rfl) p1'
  have hv0:valueF (kidT T 0)=true:=by
   have:=hp 0 (by rw[(p1 (by omega) (by omega) (by omega)).1];exact Nat.le_refl _) (by rw[(p1 (by omega) (by omega) (by omega)).2];decide)
   rwa [hin 0 (by omega)]at this
  have hv1:valueF (kidT (kidT T 0) 1)=true:=by
   rw[valueF_eq (term_ne c0.term),ifn,if_pos (.inr q0)]at hv0
   exact hv0
  obtain⟨l0,c0',g1,g2,g3,g4,g5,g6⟩:=inv_inj h0 q0
  obtain⟨m1,m2⟩:=eqv_fields (.inr ⟨rfl,rfl⟩) g3 hfl g6
  by_cases n0:(No.normR (kidT (kidT T 0) 0)).2≠0
  ·rw[if_pos n0]at hg;exact herr n0 hg
  rw[if_neg n0]at hg
  have n0:(No.normR (kidT (kidT T 0) 0)).2=0:=Decidable.byContradiction n0
  obtain⟨f1,f2,f3⟩:=starE_facts g1
  obtain⟨r1,r2,r3⟩:=normR_red (Prod.ext rfl n0:No.normR (kidT (kidT T 0) 0)=((No.normR (kidT (kidT T 0) 0)).1,0))
  have gN:Gd 0 (No.normR (kidT (kidT T 0) 0)).1:=⟨(conE_full r3).2,r2,sc_red f2 r1⟩
  have eN:=r1.eqv.symm.trans g2
  have fN:=f1.red r1
  generalize (No.normR (kidT (kidT T 0) 0)).1=N at *
  obtain⟨k1,k2,k3,k4,k5⟩:=gd_fields (.inr ⟨rfl,rfl⟩) gN g3 eN
  obtain⟨p,p2,p3,p4⟩:=k5 _ _ g4
  obtain⟨x,x1,Y,x2,x3⟩:=part_at (P:=fun x c=>∃Y,Eqv Y (inst c A)∧Hk [] [Y] x A) (s:=(kidT T 0).name) (l:=l0) (ks:=T.kids.drop 2) (by omega) (fun i hi=>by
   obtain⟨a,b⟩:=m2 i hi (by omega)
   rw[getD_drop]
   refine⟨?_,X i,(hX i (by omega)).trans (Eqv.inst b.symm (.refl _)),h i (by omega)⟩
   rw[←a];exact hn i (by omega)) g4
  rw[x1,p2,if_neg (by rintro (h|h|h);exact h k1;cases h;cases h)]at hg
  split at hg
  ·rename_i q;exact herr q hg
  ·rw[←(Prod.mk.inj hg).1]
   show Hk [] [] (.node 143 0 ByteArray.empty ByteArray.empty [rollF T p (kidT (kidT T 0) 1),x]) A
   have hpl:Pl (toC p):=by
    rw[k2]at fN
    obtain⟨i,i1,i2⟩:=part_mem p2
    obtain⟨nm',c',w1,w2⟩:=fN.sum i (by simpa using i1)
    rw[getD_map_toC]at w1
    have hfN:=Cn.sum_fl (con_kd gN.con).1 gN.con k1
    rw[(Cn.field_toC (by decide) (hfN _ (getD_mem i1))).1]at w1
    simp only[Cn.op.injEq,List.cons.injEq,and_true,true_and]at w1
    rw[i2]
    unfold inn
    rw[w1.2];exact w2
   have hroll:Hk [] [] (rollF T p (kidT (kidT T 0) 1)) (inst (toC p) A):=by
    refine (roll_hk (S:=.op 121 e0 l0) (A:=A) (fun u hu=>?_) p).1 p4.con hpl _ cw hv1 (.conv g5 (Eqv.inst p3.symm (.refl _)))
    have e1:∀j,j≠0→kidT (withT T 0 u) j=kidT T j:=fun j hj=>kid_with (by omega) hj
    have e2:=kid_with0 (u:=u) (T:=T) (by omega) (by omega)
    refine Hk.fold (T:=withT T 0 u) (l:=l) hk hfl (by rw[e2];exact .conv hu g6) (by rw[e1 1 (by omega)];exact hs) (by rw[e1 1 (by omega)];exact he) ?_ (fun i hi=>by rw[e1 _ (by omega)];exact hn i hi) X hX fun i hi=>by rw[e1 _ (by omega)];exact h i hi
    show ((T.kids.set 0 _).drop 2).length=l.length
    rw[set_drop (by omega)];exact hl
   exact .bind rfl (.conv hroll (Eqv.trans (Eqv.inst p3 (.refl _)) x2.symm)) x3
theorem with_name {T k:Tree}{i:Nat}:(withT T i k).kind=T.kind∧(withT T i k).n=T.n∧(withT T i k).name=T.name∧(withT T i k).kids.length=T.kids.length:=⟨rfl,rfl,rfl,by unfold withT;simp[Tree.kids]⟩
theorem kid_same {T k:Tree}{i j:Nat}(hj:i≠j):kidT (withT T i k) j=kidT T j:=by
 unfold withT kidT
 exact set_at hj
theorem kid_new {T k:Tree}{i:Nat}(hk:T.kind≠136)(hi:i < T.kids.length):kidT (withT T i k) i=k:=by
 unfold withT kidT
 rw[if_neg hk]
 show (T.kids.set i k).getD i .nil=k
 rw[Ki.set_get,if_pos ⟨rfl,hi⟩]
theorem inn_new {T k:Tree}{i:Nat}(hk:T.kind=136)(hi:i < T.kids.length):inn (kidT (withT T i k) i)=k∧(kidT (withT T i k) i).name=(kidT T i).name:=by
 have e:kidT (withT T i k) i=fieldT (kidT T i).name k:=by
  unfold withT kidT
  rw[if_pos hk]
  show (T.kids.set i _).getD i .nil=_
  rw[Ki.set_get,if_pos ⟨rfl,hi⟩]
 rw[e];exact⟨rfl,rfl⟩
theorem with_hk {K:List Tree}{Γ:List Cn}{T:Tree}{A:Cn}(h:Hk K Γ T A):∀{i:Nat} {k:Tree},(T.kind=135∨T.kind=136∨T.kind=138∨(140≤T.kind∧T.kind≤148))→i < T.kids.length→(plcF T).1≤i→i < (plcF T).2→(∀B,Hk K Γ (inF T i) B→Hk K Γ k B)→Hk K Γ (withT T i k) A:=by
 have hin:∀{T:Tree} (i:Nat),T.kind≠136→inF T i=kidT T i:=fun i q=>by unfold inF;rw[if_neg q];rfl
 have p2:∀{T:Tree} {i:Nat},T.kind=135∨T.kind=145→i < (plcF T).2→i=0∨i=1:=fun hk h=>by
  unfold plcF at h;rw[if_pos hk]at h;simp only[]at h;omega
 have p3:∀{T:Tree} {i:Nat},T.kind=141∨T.kind=146→(plcF T).1≤i→i < (plcF T).2→i=1:=fun hk h1 h=>by
  unfold plcF at h h1;rw[ifn,ifn,if_pos hk]at h h1;simp only[]at h h1;omega
 have p1:∀{T:Tree} {i:Nat},¬(T.kind=135∨T.kind=145)→T.kind≠136→¬(T.kind=141∨T.kind=146)→i < (plcF T).2→i=0:=fun h1 h2 h3 h=>by
  unfold plcF at h;rw[if_neg h1,if_neg h2,if_neg h3]at h;simp only[]at h;omega
 induction h with
 | conv _ he ih=>intro i k hK hi h1 h2 hB;exact .conv (ih hK hi h1 h2 hB) he
 | var hk=>intro i k hK;omega
 | int hk=>intro i k hK;omega
 | tru hk=>intro i k hK;omega
 | unt hk=>intro i k hK;omega
 | lam hk=>intro i k hK;omega
 | tlam hk=>intro i k hK;omega
 | @app K Γ T A B hk h h2 =>
  intro i k hK hi g1 g2 hB
  rw[hin i (by omega)]at hB
  rcases p2 (.inl hk) g2 with rfl|rfl
  ·exact Hk.app (T:=withT T _ k) hk (by rw[kid_new (by omega) hi];exact hB _ h) (by rw[kid_same (by omega)];exact h2)
  ·exact Hk.app (T:=withT T _ k) hk (by rw[kid_same (by omega)];exact h) (by rw[kid_new (by omega) hi];exact hB _ h2)
 | @rcd K Γ T hk l hl hfl hn h =>
  intro i k hK hi g1 g2 hB
  refine Hk.rcd (T:=withT T _ k) hk (by rw[with_name.2.2.2];exact hl) hfl (fun j hj=>?_) fun j hj=>?_
  ·by_cases q:i=j
   ·subst q;rw[(inn_new hk hi).2];exact hn i hj
   ·rw[kid_same q];exact hn j hj
  ·by_cases q:i=j
   ·subst q
    rw[(inn_new hk hi).1]
    refine hB _ ?_
    unfold inF;rw[if_pos hk];exact h i hj
   ·rw[kid_same q];exact h j hj
 | @proj K Γ T A hk l hfl h ha =>
  intro i k hK hi g1 g2 hB
  rw[hin i (by omega)]at hB
  have:=p1 (by omega) (by omega) (by omega) g2
  subst this
  exact Hk.proj (T:=withT T _ k) hk hfl (by rw[kid_new (by omega) hi];exact hB _ h) ha
 | @tapp K Γ T q B hk h hq =>
  intro i k hK hi g1 g2 hB
  rw[hin i (by omega)]at hB
  have:=p1 (by omega) (by omega) (by omega) g2
  subst this
  have e:kidT (withT T 0 k) 1=kidT T 1:=kid_same (by omega)
  have:=Hk.tapp (T:=withT T 0 k) (Γ:=Γ) (B:=B) hk (by rw[kid_new (by omega) hi];exact hB _ h) (by rw[e];exact hq)
  rw[e]at this
  exact this
 | @pack K Γ T q B hk hs he hq h =>
  intro i k hK hi g1 g2 hB
  rw[hin i (by omega)]at hB
  have:=p3 (.inl hk) g1 g2
  subst this
  exact Hk.pack (T:=withT T _ k) hk (by rw[kid_same (by omega)];exact hs) (by rw[kid_same (by omega)];exact he) (by rw[kid_same (by omega)];exact hq) (by rw[kid_new (by omega) hi,kid_same (by omega)];exact hB _ h)
 | @unpack K Γ T q B A hk hK0 h h2 =>
  intro i k hK hi g1 g2 hB
  rw[hin i (by omega)]at hB
  have:=p1 (by omega) (by omega) (by omega) g2
  subst this
  exact Hk.unpack (T:=withT T _ k) hk hK0 (by rw[kid_new (by omega) hi];exact hB _ h) (by rw[kid_same (by omega)];exact h2)
 | @bind K Γ T A B hk h h2 =>
  intro i k hK hi g1 g2 hB
  rw[hin i (by omega)]at hB
  have:=p1 (by omega) (by omega) (by omega) g2
  subst this
  exact Hk.bind (T:=withT T _ k) hk (by rw[kid_new (by omega) hi];exact hB _ h) (by rw[kid_same (by omega)];exact h2)
 | @choice K Γ T A hk h h1 h2 =>
  intro i k hK hi g1 g2 hB
  rw[hin i (by omega)]at hB
  have:=p1 (by omega) (by omega) (by omega) g2
  subst this
  exact Hk.choice (T:=withT T _ k) hk (by rw[kid_new (by omega) hi];exact hB _ h) (by rw[kid_same (by omega)];exact h1) (by rw[kid_same (by omega)];exact h2)
 | @opr K Γ T hk h h1 =>
  intro i k hK hi g1 g2 hB
  rw[hin i (by omega)]at hB
  have e:=(with_name (T:=T) (k:=k) (i:=i)).2.1
  rw[←e]
  rcases p2 (.inr hk) g2 with rfl|rfl
  ·exact Hk.opr (T:=withT T _ k) hk (by rw[kid_new (by omega) hi];exact hB _ h) (by rw[kid_same (by omega)];exact h1)
  ·exact Hk.opr (T:=withT T _ k) hk (by rw[kid_same (by omega)];exact h) (by rw[kid_new (by omega) hi];exact hB _ h1)
 | @inj K Γ T c hk l hs he hfl ha h =>
  intro i k hK hi g1 g2 hB
  rw[hin i (by omega)]at hB
  have:=p3 (.inr hk) g1 g2
  subst this
  exact Hk.inj (T:=withT T _ k) hk (by rw[kid_same (by omega)];exact hs) (by rw[kid_same (by omega)];exact he) hfl ha (by rw[kid_new (by omega) hi];exact hB _ h)
 | @cse K Γ T A hk l hfl h0 hl hn X hX h =>
  intro i k hK hi g1 g2 hB
  rw[hin i (by omega)]at hB
  have:=p1 (by omega) (by omega) (by omega) g2
  subst this
  refine Hk.cse (T:=withT T _ k) hk hfl (by rw[kid_new (by omega) hi];exact hB _ h0) ?_ (fun j hj=>by rw[kid_same (by omega)];exact hn j hj) X hX fun j hj=>by rw[kid_same (by omega)];exact h j hj
  show ((T.kids.set 0 _).drop 1).length=l.length
  rw[set_drop (by omega)];exact hl
 | @fold K Γ T A hk l hfl h0 hs he hl hn X hX h =>
  intro i k hK hi g1 g2 hB
  rw[hin i (by omega)]at hB
  have:=p1 (by omega) (by omega) (by omega) g2
  subst this
  refine Hk.fold (T:=withT T _ k) hk hfl (by rw[kid_new (by omega) hi];exact hB _ h0) (by rw[kid_same (by omega)];exact hs) (by rw[kid_same (by omega)];exact he) ?_ (fun j hj=>by rw[kid_same (by omega)];exact hn j hj) X hX fun j hj=>by rw[kid_same (by omega)];exact h j hj
  show ((T.kids.set 0 _).drop 2).length=l.length
  rw[set_drop (by omega)];exact hl
theorem hk_inner {K:List Tree}{Γ:List Cn}{T:Tree}{A:Cn}(h:Hk K Γ T A):(T.kind=135∨T.kind=136∨T.kind=138∨(140≤T.kind∧T.kind≤148))→∀i,(plcF T).1≤i→i < (plcF T).2→∃B,Hk K Γ (inF T i) B:=by
 have hin:∀{T:Tree} (i:Nat),T.kind≠136→inF T i=kidT T i:=fun i q=>by unfold inF;rw[if_neg q];rfl
 have p2:∀{T:Tree} {i:Nat},T.kind=135∨T.kind=145→i < (plcF T).2→i=0∨i=1:=fun hk h=>by
  unfold plcF at h;rw[if_pos hk]at h;simp only[]at h;omega
 have p3:∀{T:Tree} {i:Nat},T.kind=141∨T.kind=146→(plcF T).1≤i→i < (plcF T).2→i=1:=fun hk h1 h=>by
  unfold plcF at h h1;rw[ifn,ifn,if_pos hk]at h h1;simp only[]at h h1;omega
 have p1:∀{T:Tree} {i:Nat},¬(T.kind=135∨T.kind=145)→T.kind≠136→¬(T.kind=141∨T.kind=146)→i < (plcF T).2→i=0:=fun h1 h2 h3 h=>by
  unfold plcF at h;rw[if_neg h1,if_neg h2,if_neg h3]at h;simp only[]at h;omega
 induction h with
 | conv _ _ ih=>exact ih
 | var hk=>intro hh;omega
 | int hk=>intro hh;omega
 | tru hk=>intro hh;omega
 | unt hk=>intro hh;omega
 | lam hk=>intro hh;omega
 | tlam hk=>intro hh;omega
 | app hk h h2 =>
  intro _ i h1 h3
  rw[hin i (by omega)]
  rcases p2 (.inl hk) h3 with rfl|rfl
  ·exact⟨_,h⟩
  ·exact⟨_,h2⟩
 | rcd hk hl hfl hn h =>
  intro _ i h1 h3
  unfold plcF at h3
  rw[ifn,if_pos hk]at h3
  have h3:i < _:=h3
  unfold inF
  rw[if_pos hk]
  exact⟨_,h i (by omega)⟩
 | proj hk hfl h ha =>
  intro _ i h1 h3
  rw[hin i (by omega),p1 (by omega) (by omega) (by omega) h3];exact⟨_,h⟩
 | tapp hk h =>
  intro _ i h1 h3
  rw[hin i (by omega),p1 (by omega) (by omega) (by omega) h3];exact⟨_,h⟩
 | pack hk hs he hq h =>
  intro _ i h1 h3
  rw[hin i (by omega),p3 (by omega) h1 h3];exact⟨_,h⟩
 | unpack hk hK h h2 =>
  intro _ i h1 h3
  rw[hin i (by omega),p1 (by omega) (by omega) (by omega) h3];exact⟨_,h⟩
 | bind hk h h2 =>
  intro _ i h1 h3
  rw[hin i (by omega),p1 (by omega) (by omega) (by omega) h3];exact⟨_,h⟩
 | choice hk h =>
  intro _ i h1 h3
  rw[hin i (by omega),p1 (by omega) (by omega) (by omega) h3];exact⟨_,h⟩
 | opr hk h h2 =>
  intro _ i h1 h3
  rw[hin i (by omega)]
  rcases p2 (.inr hk) h3 with rfl|rfl
  ·exact⟨_,h⟩
  ·exact⟨_,h2⟩
 | inj hk hs he hfl ha h =>
  intro _ i h1 h3
  rw[hin i (by omega),p3 (by omega) h1 h3];exact⟨_,h⟩
 | cse hk hfl h0 =>
  intro _ i h1 h3
  rw[hin i (by omega),p1 (by omega) (by omega) (by omega) h3];exact⟨_,h0⟩
 | fold hk hfl h0 =>
  intro _ i h1 h3
  rw[hin i (by omega),p1 (by omega) (by omega) (by omega) h3];exact⟨_,h0⟩
theorem step_keep (T:Tree):(∀m A,Cd T→valueF T=false→stF T=(m,0)→Hk [] [] T A→Hk [] [] m A)∧∀x∈T.kids,∀m A,Cd x→valueF x=false→stF x=(m,0)→Hk [] [] x A→Hk [] [] m A:=by
 induction T using Tree.ind' with
 | h0=>exact⟨fun m A h=>absurd rfl (term_ne h.term),fun x hx=>by cases hx⟩
 | h1 T hT ih =>
  refine⟨fun m A hC hv hs hA=>?_,fun x hx=>(ih x hx).1⟩
  have hD:=hC.std hv
  obtain⟨pp1,pp2⟩:=hD.places
  rcases least (P:=fun j=>valueF (inF T j)=true) (fun j=>by cases valueF (inF T j)<;>simp) ((plcF T).2 - (plcF T).1) (plcF T).1 with h|⟨i,i1,i2,i3,i4⟩
  ·have h:∀j,(plcF T).1≤j→j < (plcF T).2→valueF (inF T j)=true:=fun j h1 h2=>h j h1 (by omega)
   rw[stF_none hT h]at hs
   exact goes_keep hA rfl rfl hC h m hs
  ·have i2:i < (plcF T).2:=by omega
   have i3:valueF (inF T i)=false:=by cases hq:valueF (inF T i) with
    | true=>exact absurd hq i3
    | false=>rfl
   have hi:i < T.kids.length:=by omega
   rw[stF_at hT hi ⟨i1,i2⟩ i3 i4]at hs
   by_cases q:(stF (inF T i)).2≠0
   ·rw[if_pos q]at hs;exact absurd (Prod.mk.inj hs).2 q
   rw[if_neg q]at hs
   have q:(stF (inF T i)).2=0:=Decidable.byContradiction q
   rw[←(Prod.mk.inj hs).1]
   have cI:=hC.inner hD i1 i2
   have hst:stF (inF T i)=((stF (inF T i)).1,0):=Prod.ext rfl q
   refine with_hk hA hD.kind hi i1 i2 fun B hB=>?_
   obtain⟨_,_,_,t4⟩:=hD.inner i1 i2
   by_cases k:T.kind=136
   ·have e:inF T i=(T.kids.getD i .nil).kids.getD 0 .nil:=by unfold inF;rw[if_pos k]
    have hm:inF T i∈(T.kids.getD i .nil).kids:=by rw[e];exact getD_mem (t4 k).2
    exact (ih _ (getD_mem hi)).2 _ hm _ _ cI i3 hst hB
   ·have e:inF T i=T.kids.getD i .nil:=by unfold inF;rw[if_neg k]
    have hm:inF T i∈T.kids:=by rw[e];exact getD_mem hi
    exact (ih _ hm).1 _ _ cI i3 hst hB
def Ef (e:Int):Prop:=e=0∨e=3∨e=18∨e=19
theorem sized_err (T:Tree):(sizedR T).2=0∨(sizedR T).2=3:=by
 unfold sizedR;split
 ·exact .inr rfl
 ·exact .inl rfl
theorem termE_of {T:Tree}(h:isTermF T=true)(hz:sizeN T≤65536):termE T=0:=by
 unfold termE checkF
 rw[whole_full T (term_full h) 65536 (by omega),if_pos rfl,h];rfl
theorem termE_err {T:Tree}(h:isTermF T=true):termE T=0∨termE T=3:=by
 unfold termE checkF
 rcases No.whole_err T (term_full h) 65536 with e|e
 ·rw[if_pos e,h];exact .inl rfl
 ·rw[e];exact .inr rfl
theorem term_err {U b:Tree}(hU:isTermF U=true)(hz:sizeN U≤65536)(hb:Cd b):(termR U 0 b).2=0∨(termR U 0 b).2=3:=by
 rw[termR_of (termE_of hU hz) (termE_of hb.term hb.size) (Int.le_refl 0) (closed_of (termE_of hb.term hb.size) hb.free1 hb.free2)]
 exact sized_err _
theorem con_err {U b q:Tree}(hU:isTermF U=true)(hz:sizeN U≤65536)(hb:Ki.kindR [] b=(q,0)):(conR U 0 b).2=0∨(conR U 0 b).2=3:=by
 obtain⟨_,hbE,hk3⟩:=kindR_nil hb
 obtain⟨bf1,bs1⟩:=(kind_facts b).1 (conE_full hbE).2 (by have:=conE_size hbE;omega) [] (by rw[hk3])
 have hbf:freeR b=0:=by
  have:=sc_free hbE bs1
  have h2:=Tm.freeR_le b
  have:freeR b≤0:=this
  omega
 have hcl:closedF b=true:=by unfold closedF;rw[if_pos hbE];exact decide_eq_true hbf
 rw[conR_eq]
 unfold rconR
 rw[if_neg (by rw[termE_of hU hz];simp),ifn,if_neg (by rw[hcl];rintro (h|h);omega;cases h)]
 exact sized_err _
theorem z_conE {c:Tree}(hc:isConF c=true)(hE:conE c=0){d:Nat}(hs:Sc d (toC c))(t:Int):Z (freeT c d t):=by
 obtain⟨k1,k2,k3⟩:=con_kd hc
 rw[freeT_eq k1,if_neg k2,if_pos k3]
 have:=sc_free hE hs
 exact⟨show freeR c - d≤0 by omega,Int.le_refl _⟩
theorem z_kind {c:Tree}(hc:isKindF c=true)(d:Nat)(t:Int):Z (freeT c d t):=by
 obtain⟨k1,k2⟩:=kind_lo hc
 rw[freeT_eq k1,ifn,ifp]
 have:freeR c=0:=by
  rw[freeR_eq,rfreeR,if_neg]
  intro h
  have:=con_notkind (conE_full h).2
  omega
 exact⟨show freeR c - d≤0 by omega,Int.le_refl _⟩
theorem hk_z {K:List Tree}{Γ:List Cn}{T:Tree}{A:Cn}(h:Hk K Γ T A):isTermF T=true→Z (freeT T K.length Γ.length):=by
 have two:∀{T:Tree} {c t:Int},T≠.nil→131≤T.kind→T.kids.length=2→Z (freeT (kidT T 0) (c+(bndF T.kind 0).1) (t+(bndF T.kind 0).2))→Z (freeT (kidT T 1) (c+(bndF T.kind 1).1) (t+(bndF T.kind 1).2))→Z (freeT T c t):=fun hT hk hl h0 h1=>z_of hT hk fun i hi=>by
  rcases (show i=0∨i=1 by omega) with rfl|rfl
  ·exact h0
  ·exact h1
 have kcon:∀{K:List Tree} {c q:Tree} (t:Int),Ki.kindR K c=(q,0)→Z (freeT c K.length t):=fun t hq=>by
  obtain⟨f1,f2,f3⟩:=kindR_facts (by rw[hq])
  exact z_conE (conE_full f3).2 f3 f2 t
 have kstar:∀{K:List Tree} {c:Tree} (t:Int),Ki.starE K c=0→Z (freeT c K.length t):=fun t hq=>by
  obtain⟨f1,f2,f3⟩:=starE_facts hq
  exact z_conE (conE_full f3).2 f3 f2 t
 have zz:∀{x:Tree} {a b:Int},Z (freeT x a b)→Z (freeT x (a+0) (b+0)):=fun h=>by rw[Int.add_zero,Int.add_zero];exact h
 have zr:∀{x:Tree} {a b:Int},Z (freeT x a b)→Z (freeT x a (b+0)):=fun h=>by rw[Int.add_zero];exact h
 have zl:∀{x:Tree} {a b:Int},Z (freeT x a b)→Z (freeT x (a+0) b):=fun h=>by rw[Int.add_zero];exact h
 have arm:∀{K:List Tree} {Γ:List Cn} {X:Cn} {x:Tree},tfieldF 149 x=true→(isTermF (inn x)=true→Z (freeT (inn x) K.length (X::Γ).length))→Z (freeT x K.length Γ.length):=fun {K Γ X x} hx h=>by
  obtain⟨q1,q2,q3,q4,q5⟩:=tfield_parts hx
  refine z_of q1 (by omega) fun i hi=>?_
  have:i=0:=by omega
  subst this
  rw[q2]
  have:=h q5
  rw[show (((X::Γ).length:Nat):Int)=(Γ.length:Int)+1 by simp]at this
  exact this
 induction h with
 | conv _ _ ih=>exact ih
 | @var K Γ T A hk h0 h =>
  intro ht
  rw[freeT_eq (term_ne ht),if_pos hk]
  have hl:T.n.toNat < Γ.length:=by
   apply Decidable.byContradiction
   intro hn
   rw[List.getElem?_eq_none (by omega)]at h
   cases h
  exact⟨Int.le_refl _,show T.n - (Γ.length:Int)+1≤0 by omega⟩
 | int hk=>intro ht;exact z_of (term_ne ht) (by omega) fun i hi=>by have:=term_leaf ht (by omega);omega
 | tru hk=>intro ht;exact z_of (term_ne ht) (by omega) fun i hi=>by have:=term_leaf ht (by omega);omega
 | unt hk=>intro ht;exact z_of (term_ne ht) (by omega) fun i hi=>by have:=term_leaf ht (by omega);omega
 | @lam K Γ T A B hk hs he h ih =>
  intro ht
  obtain⟨l1,l2,l3⟩:=term_cx ht (.inl hk)
  have a:=ih l3
  rw[show (((A::Γ).length:Nat):Int)=(Γ.length:Int)+1 by simp]at a
  refine two (term_ne ht) (by omega) l1 ?_ ?_
  ·rw[hk];exact (Int.add_zero (K.length:Int)).symm ▸ kstar _ hs
  ·rw[hk];exact (Int.add_zero (K.length:Int)).symm ▸ a
 | app hk h h2 ih ih2 =>
  intro ht
  obtain⟨l1,l2,l3⟩:=term_xx ht (.inl hk)
  refine two (term_ne ht) (by omega) l1 ?_ ?_
  ·rw[hk];exact zz (ih l2)
  ·rw[hk];exact zz (ih2 l3)
 | @rcd K Γ T hk l hl hfl hn h ih =>
  intro ht
  have hf:=(term_f ht hk).1
  refine z_of (term_ne ht) (by omega) fun i hi=>?_
  have hb:bndF 136 i=(0,0):=by unfold bndF;rw[if_neg (by decide)];split<;>rfl
  rw[hk,hb]
  obtain⟨q1,q2,q3,q4,q5⟩:=tfield_parts (hf _ (getD_mem hi))
  refine z_of q1 (by omega) fun j hj=>?_
  have:j=0:=by omega
  subst this
  rw[q2]
  exact zz (zz (ih i (by omega) q5))
 | proj hk hfl h ha ih =>
  intro ht
  obtain⟨l1,l2⟩:=term_x ht hk
  refine z_of (term_ne ht) (by omega) fun i hi=>?_
  have:i=0:=by omega
  subst this
  rw[hk];exact zz (ih l2)
 | @tlam K Γ T B hk hK h ih =>
  intro ht
  obtain⟨l1,l2,l3⟩:=term_kx ht hk
  have a:=ih l3
  rw[show (((kidT T 0::K).length:Nat):Int)=(K.length:Int)+1 by simp,show (((shC Γ).length:Nat):Int)=(Γ.length:Int) by unfold shC;simp]at a
  refine two (term_ne ht) (by omega) l1 ?_ ?_
  ·rw[hk];exact zz (z_kind l2 K.length Γ.length)
  ·rw[hk];exact zr a
 | tapp hk h hq ih =>
  intro ht
  obtain⟨l1,l2,l3⟩:=term_xc ht hk
  refine two (term_ne ht) (by omega) l1 ?_ ?_
  ·rw[hk];exact zz (ih l2)
  ·rw[hk];exact zz (kcon _ hq)
 | @pack K Γ T q B hk hs he hq h ih =>
  intro ht
  obtain⟨l1,l2,l3,l4⟩:=term_cxc ht hk
  refine z_of (term_ne ht) (by omega) fun i hi=>?_
  rcases (show i=0∨i=1∨i=2 by omega) with rfl|rfl|rfl
  ·rw[hk];exact zz (kcon (c:=kidT T 0) _ hq)
  ·rw[hk];exact zz (ih l3)
  ·rw[hk];exact zz (kstar (c:=kidT T 2) _ hs)
 | @unpack K Γ T q B A hk hK h h2 ih ih2 =>
  intro ht
  obtain⟨l1,l2,l3⟩:=term_xx ht (.inr (.inl hk))
  have a:=ih2 l3
  rw[show (((q::K).length:Nat):Int)=(K.length:Int)+1 by simp,show (((B::shC Γ).length:Nat):Int)=(Γ.length:Int)+1 by unfold shC;simp]at a
  refine two (term_ne ht) (by omega) l1 ?_ ?_
  ·rw[hk];exact zz (ih l2)
  ·rw[hk];exact a
 | @bind K Γ T A B hk h h2 ih ih2 =>
  intro ht
  obtain⟨l1,l2,l3⟩:=term_xx ht (.inr (.inr (.inl hk)))
  have a:=ih2 l3
  rw[show (((A::Γ).length:Nat):Int)=(Γ.length:Int)+1 by simp]at a
  refine two (term_ne ht) (by omega) l1 ?_ ?_
  ·rw[hk];exact zz (ih l2)
  ·rw[hk];exact zl a
 | choice hk h h1 h2 ih ih1 ih2 =>
  intro ht
  obtain⟨l1,l2,l3,l4⟩:=term_xxx ht hk
  refine z_of (term_ne ht) (by omega) fun i hi=>?_
  rcases (show i=0∨i=1∨i=2 by omega) with rfl|rfl|rfl
  ·rw[hk];exact zz (ih l2)
  ·rw[hk];exact zz (ih1 l3)
  ·rw[hk];exact zz (ih2 l4)
 | opr hk h h1 ih ih1 =>
  intro ht
  obtain⟨l1,l2,l3⟩:=term_xx ht (.inr (.inr (.inr hk)))
  refine two (term_ne ht) (by omega) l1 ?_ ?_
  ·rw[hk];exact zz (ih l2)
  ·rw[hk];exact zz (ih1 l3)
 | inj hk hs he hfl ha h ih =>
  intro ht
  obtain⟨l1,l2,l3⟩:=term_cx ht (.inr hk)
  refine two (term_ne ht) (by omega) l1 ?_ ?_
  ·rw[hk];exact zz (kstar _ hs)
  ·rw[hk];exact zz (ih l3)
 | @cse K Γ T A hk l hfl h0 hl hn X hX h ih0 ih =>
  intro ht
  obtain⟨l1,l2,l3⟩:=term_xa ht hk
  have hb:∀i,bndF 147 i=(0,0):=fun i=>by unfold bndF;rw[if_neg (by decide)];split<;>rfl
  refine z_of (term_ne ht) (by omega) fun i hi=>?_
  rw[hk,hb,Int.add_zero,Int.add_zero]
  by_cases q:i=0
  ·subst q;exact ih0 l2
  ·obtain⟨j,rfl⟩:∃j,i=1+j:=⟨i - 1,by omega⟩
   exact arm (X:=X j) (l3 _ (mem_drop (by omega) hi)) (ih j (by simp at hl;omega))
 | @fold K Γ T A hk l hfl h0 hs he hl hn X hX h ih0 ih =>
  intro ht
  obtain⟨l1,l2,l2',l3⟩:=term_xca ht hk
  have hb:∀i,bndF 148 i=(0,0):=fun i=>by unfold bndF;rw[if_neg (by decide)];split<;>rfl
  refine z_of (term_ne ht) (by omega) fun i hi=>?_
  rw[hk,hb,Int.add_zero,Int.add_zero]
  by_cases q:i=0
  ·subst q;exact ih0 l2
  by_cases q1:i=1
  ·subst q1;exact kstar _ hs
  ·obtain⟨j,rfl⟩:∃j,i=2+j:=⟨i - 2,by omega⟩
   exact arm (X:=X j) (l3 _ (mem_drop (by omega) hi)) (ih j (by simp at hl;omega))
theorem values_of:∀{l:List Tree},(∀x∈l,x≠.nil∧valueF (x.kids.getD 0 .nil)=true)→valuesF l=true
 | [],_=>rfl
 | y::l,h=>by
  have hy:=h y (by simp)
  have e:valueIn y=valueF (y.kids.getD 0 .nil):=by
   cases y with
   | nil=>exact absurd rfl hy.1
   | node k n nm mk l=>rw[valueIn,valueAt_eq];rfl
  rw[valuesF,e,hy.2,values_of fun x hx=>h x (by simp[hx])];rfl
theorem value_places {T:Tree}(ht:isTermF T=true)(hk:T.kind=136∨T.kind=141∨T.kind=146)(hp:∀j,(plcF T).1≤j→j < (plcF T).2→valueF (inF T j)=true):valueF T=true:=by
 have hT:=term_ne ht
 rw[valueF_eq hT,ifn]
 by_cases c:T.kind=136
 ·rw[ifn,if_pos c]
  refine values_of fun x hx=>⟨(tfield_kid ((term_f ht c).1 x hx)).1,?_⟩
  obtain⟨i,hi,rfl⟩:=List.getElem_of_mem hx
  have:=hp i (by unfold plcF;rw[ifn,if_pos c];exact Nat.zero_le _) (by unfold plcF;rw[ifn,if_pos c];exact hi)
  unfold inF at this
  rw[if_pos c,getD_at hi]at this
  exact this
 ·rw[ifp]
  have:=hp 1 (by unfold plcF;rw[ifn,ifn,ifp];exact Nat.le_refl _) (by unfold plcF;rw[ifn,ifn,ifp];decide)
  unfold inF at this
  rw[if_neg c]at this
  exact this
theorem bind_term {a b:Tree}(ha:isTermF a=true)(hb:isTermF b=true):isTermF (.node 143 0 ByteArray.empty ByteArray.empty [a,b])=true:=by
 rw[isTermF_eq (by simp),Bool.and_eq_true]
 refine⟨rfl,?_⟩
 show (decide ((2:Nat)=2) && isTermF a && isTermF b)=true
 rw[ha,hb];rfl
theorem goes_err {K:List Tree}{Γ:List Cn}{T:Tree}{A:Cn}(h:Hk K Γ T A):K=[]→Γ=[]→Cd T→valueF T=false→(∀j,(plcF T).1≤j→j < (plcF T).2→valueF (inF T j)=true)→Ef (goesF T).2:=by
 have hin:∀{T:Tree} (i:Nat),T.kind≠136→inF T i=kidT T i:=fun i q=>by unfold inF;rw[if_neg q];rfl
 have v0:∀{T:Tree},T.kind≠136→¬(T.kind=141∨T.kind=146)→(∀j,(plcF T).1≤j→j < (plcF T).2→valueF (inF T j)=true)→valueF (kidT T 0)=true:=fun h1 h2 hp=>by
  rw[←hin 0 h1]
  refine hp 0 ?_ ?_
  ·unfold plcF;split
   ·exact Nat.le_refl _
   ·first|exact Nat.le_refl _|(rw[if_neg h1,if_neg h2];exact Nat.le_refl _)
  ·unfold plcF;split
   ·exact Nat.zero_lt_two
   ·first|exact Nat.zero_lt_one|(rw[if_neg h1,if_neg h2];exact Nat.zero_lt_one)
 have v1:∀{T:Tree},T.kind=135∨T.kind=145→(∀j,(plcF T).1≤j→j < (plcF T).2→valueF (inF T j)=true)→valueF (kidT T 1)=true:=fun h1 hp=>by
  rw[←hin 1 (by omega)]
  refine hp 1 ?_ ?_
  ·unfold plcF;rw[if_pos h1];exact Nat.zero_le _
  ·unfold plcF;rw[if_pos h1];decide
 have kz:∀{T:Tree} {i:Nat},Cd T→i < T.kids.length→sizeN (kidT T i)≤65536:=fun hC hi=>by
  have:=kid_sz (term_ne hC.term) hi
  have:=hC.size
  omega
 have e3:∀{e:Int},e=0∨e=3→Ef e:=fun h=>by unfold Ef;omega
 induction h with
 | conv _ he ih=>exact ih
 | var hk=>intro hK hΓ hC hv hp;subst hΓ;rename_i h;simp at h
 | int hk=>intro hK hΓ hC hv hp;rw[valueF_eq (term_ne hC.term),ifp]at hv;cases hv
 | tru hk=>intro hK hΓ hC hv hp;rw[valueF_eq (term_ne hC.term),ifp]at hv;cases hv
 | unt hk=>intro hK hΓ hC hv hp;rw[valueF_eq (term_ne hC.term),ifp]at hv;cases hv
 | lam hk=>intro hK hΓ hC hv hp;rw[valueF_eq (term_ne hC.term),ifp]at hv;cases hv
 | tlam hk=>intro hK hΓ hC hv hp;rw[valueF_eq (term_ne hC.term),ifp]at hv;cases hv
 | rcd hk=>intro hK hΓ hC hv hp;rw[value_places hC.term (by omega) hp]at hv;cases hv
 | pack hk=>intro hK hΓ hC hv hp;rw[value_places hC.term (by omega) hp]at hv;cases hv
 | inj hk=>intro hK hΓ hC hv hp;rw[value_places hC.term (by omega) hp]at hv;cases hv
 | @app K Γ T A B hk h h2 ih ih2 =>
  intro hK hΓ hC hv hp
  subst hK hΓ
  obtain⟨tl,t0,t1⟩:=term_xx hC.term (.inl hk)
  have c0:Cd (kidT T 0):=hC.kid (by omega) (by rw[hk];rfl) t0
  have c1:Cd (kidT T 1):=hC.kid (by omega) (by rw[hk];rfl) t1
  have hv0:=v0 (by omega) (by omega) hp
  have q:=(hd_inj (value_kind hv0)).2.2.2.1 (canon hv0 (by decide) h)
  unfold goesF
  rw[if_pos hk,if_pos q]
  obtain⟨l1,l2,l3⟩:=term_cx c0.term (.inl q)
  exact e3 (term_err l3 (kz c0 (by omega)) c1)
 | @proj K Γ T A hk l hfl h ha ih =>
  intro hK hΓ hC hv hp
  subst hK hΓ
  have hv0:=v0 (by omega) (by omega) hp
  have q1:=(hd_inj (value_kind hv0)).2.2.2.2.1 (canon hv0 (by decide) h)
  unfold goesF
  rw[ifn,ifn,if_pos hk]
  obtain⟨l',l1,l2,l3,l4,l5⟩:=inv_rcd h q1
  obtain⟨m1,m2⟩:=eqv_fields (.inl ⟨rfl,rfl⟩) l2 hfl l5
  obtain⟨x,x1,x2⟩:=part_at (P:=fun x c=>True) (s:=T.name) (l:=l) (ks:=(kidT T 0).kids) (by omega) (fun i hi=>by
   obtain⟨a,b⟩:=m2 i (by omega) hi
   refine⟨?_,trivial⟩
   rw[a];exact l3 i (by omega)) ha
  rw[if_pos ⟨q1,by rw[x1];rfl⟩]
  exact .inl rfl
 | @tapp K Γ T q B hk h hq ih =>
  intro hK hΓ hC hv hp
  subst hK hΓ
  obtain⟨tl,t0,t1⟩:=term_xc hC.term hk
  have c0:Cd (kidT T 0):=hC.kid (by omega) (by rw[hk];rfl) t0
  have hv0:=v0 (by omega) (by omega) hp
  have q3:=(hd_inj (value_kind hv0)).2.2.2.2.2.1 (canon hv0 (by decide) h)
  unfold goesF
  rw[ifn,if_pos hk,if_pos q3]
  obtain⟨l1,l2,l3⟩:=term_kx c0.term q3
  exact e3 (con_err l3 (kz c0 (by omega)) hq)
 | @unpack K Γ T q B A hk hK0 h h2 ih ih2 =>
  intro hK hΓ hC hv hp
  subst hK hΓ
  obtain⟨tl,t0,t1⟩:=term_xx hC.term (.inr (.inl hk))
  have c0:Cd (kidT T 0):=hC.kid (by omega) (by rw[hk];rfl) t0
  have hv0:=v0 (by omega) (by omega) hp
  have q3:=(hd_inj (value_kind hv0)).2.2.2.2.2.2.1 (canon hv0 (by decide) h)
  obtain⟨pl,p0,p1',p2⟩:=term_cxc c0.term q3
  have cw:Cd (kidT (kidT T 0) 1):=c0.kid (by omega) (by rw[q3];rfl) p1'
  unfold goesF
  rw[ifn,ifn,ifn,ifn,if_pos hk,if_pos q3]
  have he:=term_err t1 (kz hC (by omega)) cw
  by_cases q2:(termR (kidT T 1) 0 (kidT (kidT T 0) 1)).2≠0
  ·rw[if_pos q2];exact e3 he
  ·rw[if_neg q2]
   have q2:(termR (kidT T 1) 0 (kidT (kidT T 0) 1)).2=0:=Decidable.byContradiction q2
   obtain⟨_,_,_,_,a5,a6⟩:=termR_inv (Prod.ext rfl q2:termR (kidT T 1) 0 (kidT (kidT T 0) 1)=((termR (kidT T 1) 0 (kidT (kidT T 0) 1)).1,0))
   obtain⟨q',B',g0,g1,g2⟩:=inv_pack h q3
   refine e3 (con_err ?_ (by omega) g0)
   rw[a5]
   exact (in_term 0 _ (Int.le_refl 0) cw.term _ 0 (Int.le_refl 0) (.inr (.inl t1))).term t1
 | @bind K Γ T A B hk h h2 ih ih2 =>
  intro hK hΓ hC hv hp
  obtain⟨tl,t0,t1⟩:=term_xx hC.term (.inr (.inr (.inl hk)))
  have c0:Cd (kidT T 0):=hC.kid (by omega) (by rw[hk];rfl) t0
  unfold goesF
  rw[ifn,ifn,ifn,ifn,ifn,if_pos hk]
  exact e3 (term_err t1 (kz hC (by omega)) c0)
 | @choice K Γ T A hk h h1 h2 ih ih1 ih2 =>
  intro hK hΓ hC hv hp
  have hv0:=v0 (by omega) (by omega) hp
  have q:=(hd_inj (value_kind hv0)).2.2.1 (canon hv0 (by decide) h)
  unfold goesF
  rw[ifn,ifn,ifn,if_pos hk,if_pos q]
  split<;>exact .inl rfl
 | @opr K Γ T hk h h1 ih ih1 =>
  intro hK hΓ hC hv hp
  have hv0:=v0 (by omega) (by omega) hp
  have hv1:=v1 (.inr hk) hp
  have q0:=(hd_inj (value_kind hv0)).2.1 (canon hv0 (by decide) h)
  have q1:=(hd_inj (value_kind hv1)).2.1 (canon hv1 (by decide) h1)
  unfold goesF
  rw[ifn,ifn,ifn,ifn,ifn,ifn,if_pos hk]
  unfold opF
  rw[ifn]
  split
  ·exact .inl rfl
  ·split
   ·exact .inl rfl
   ·split
    ·exact .inr (.inr (.inr rfl))
    ·exact .inl rfl
 | @cse K Γ T A hk l hfl h0 hl hn X hX h ih0 ih =>
  intro hK hΓ hC hv hp
  subst hK hΓ
  obtain⟨tl,t0,t1⟩:=term_xa hC.term hk
  have c0:Cd (kidT T 0):=hC.kid (by omega) (by rw[hk];rfl) t0
  have hv0:=v0 (by omega) (by omega) hp
  have q1:=(hd_inj (value_kind hv0)).2.2.2.2.2.2.2 (canon hv0 (by decide) h0)
  unfold goesF
  rw[ifn,ifn,ifn,ifn,ifn,ifn,ifn,if_pos hk]
  obtain⟨pl,p0,p1'⟩:=term_cx c0.term (.inr q1)
  have cw:Cd (kidT (kidT T 0) 1):=c0.kid (by omega) (by rw[q1];rfl) p1'
  obtain⟨l0,c,g1,g2,g3,g4,g5,g6⟩:=inv_inj h0 q1
  obtain⟨m1,m2⟩:=eqv_fields (.inr ⟨rfl,rfl⟩) g3 hfl g6
  obtain⟨x,x1,x2⟩:=part_at (P:=fun x c=>sizeN x < sizeN T) (s:=(kidT T 0).name) (l:=l0) (ks:=T.kids.drop 1) (by omega) (fun i hi=>by
   obtain⟨a,b⟩:=m2 i hi (by omega)
   rw[getD_drop]
   refine⟨?_,(arm_size (.inl rfl) (term_ne hC.term) t1 i (by omega)).2⟩
   rw[←a];exact hn i (by omega)) g4
  rw[if_pos ⟨q1,by rw[x1];rfl⟩,x1]
  have hz:=hC.size
  exact e3 (term_err (arm_z hC (.inl ⟨hk,rfl⟩) x1).1 (by show sizeN x≤65536;omega) cw)
 | @fold K Γ T A hk l hfl h0 hs he hl hn X hX h ih0 ih =>
  intro hK hΓ hC hv hp
  subst hK hΓ
  obtain⟨tl,t0,t1',t1⟩:=term_xca hC.term hk
  have c0:Cd (kidT T 0):=hC.kid (by omega) (by rw[hk];rfl) t0
  have hv0:=v0 (by omega) (by omega) hp
  have q1:=(hd_inj (value_kind hv0)).2.2.2.2.2.2.2 (canon hv0 (by decide) h0)
  unfold goesF
  rw[ifn,ifn,ifn,ifn,ifn,ifn,ifn,ifn,if_pos hk]
  unfold foldF
  rw[ifn]
  obtain⟨pl,p0,p1'⟩:=term_cx c0.term (.inr q1)
  obtain⟨l0,c0',g1,g2,g3,g4,g5,g6⟩:=inv_inj h0 q1
  obtain⟨m1,m2⟩:=eqv_fields (.inr ⟨rfl,rfl⟩) g3 hfl g6
  obtain⟨f1,f2,f3⟩:=starE_facts g1
  by_cases n0:(No.normR (kidT (kidT T 0) 0)).2≠0
  ·rw[if_pos n0]
   have:=norm_err 1000 (kidT (kidT T 0) 0) (conE_full f3).2
   show Ef (No.normR (kidT (kidT T 0) 0)).2
   unfold No.normR at n0 ⊢
   unfold Ef;omega
  rw[if_neg n0]
  have n0:(No.normR (kidT (kidT T 0) 0)).2=0:=Decidable.byContradiction n0
  obtain⟨r1,r2,r3⟩:=normR_red (Prod.ext rfl n0:No.normR (kidT (kidT T 0) 0)=((No.normR (kidT (kidT T 0) 0)).1,0))
  have gN:Gd 0 (No.normR (kidT (kidT T 0) 0)).1:=⟨(conE_full r3).2,r2,sc_red f2 r1⟩
  have eN:=r1.eqv.symm.trans g2
  generalize (No.normR (kidT (kidT T 0) 0)).1=N at *
  obtain⟨k1,k2,k3,k4,k5⟩:=gd_fields (.inr ⟨rfl,rfl⟩) gN g3 eN
  obtain⟨p,p2,p3,p4⟩:=k5 _ _ g4
  obtain⟨x,x1,_⟩:=part_at (P:=fun x c=>True) (s:=(kidT T 0).name) (l:=l0) (ks:=T.kids.drop 2) (by omega) (fun i hi=>by
   obtain⟨a,b⟩:=m2 i hi (by omega)
   rw[getD_drop]
   refine⟨?_,trivial⟩
   rw[←a];exact hn i (by omega)) g4
  rw[x1,p2,if_neg (by rintro (h|h|h);exact h k1;cases h;cases h)]
  have hm:isTermF (.node 143 0 ByteArray.empty ByteArray.empty [rollF T p (kidT (kidT T 0) 1),x])=true:=bind_term ((roll_term hC.term hk p).1 _ p1') (arm_z hC (.inr ⟨hk,rfl⟩) x1).1
  have hm3:=termE_err hm
  show Ef (if termE (.node 143 0 ByteArray.empty ByteArray.empty [rollF T p (kidT (kidT T 0) 1),x])≠0 then ((.nil,termE (.node 143 0 ByteArray.empty ByteArray.empty [rollF T p (kidT (kidT T 0) 1),x])):Tree×Int) else (.node 143 0 ByteArray.empty ByteArray.empty [rollF T p (kidT (kidT T 0) 1),x],0)).2
  split
  ·exact e3 hm3
  ·exact .inl rfl
theorem step_fails (T:Tree):(∀A,Cd T→valueF T=false→Hk [] [] T A→Ef (stF T).2)∧∀x∈T.kids,∀A,Cd x→valueF x=false→Hk [] [] x A→Ef (stF x).2:=by
 induction T using Tree.ind' with
 | h0=>exact⟨fun A h=>absurd rfl (term_ne h.term),fun x hx=>by cases hx⟩
 | h1 T hT ih =>
  refine⟨fun A hC hv hA=>?_,fun x hx=>(ih x hx).1⟩
  have hD:=hC.std hv
  obtain⟨pp1,pp2⟩:=hD.places
  rcases least (P:=fun j=>valueF (inF T j)=true) (fun j=>by cases valueF (inF T j)<;>simp) ((plcF T).2 - (plcF T).1) (plcF T).1 with h|⟨i,i1,i2,i3,i4⟩
  ·have h:∀j,(plcF T).1≤j→j < (plcF T).2→valueF (inF T j)=true:=fun j h1 h2=>h j h1 (by omega)
   rw[stF_none hT h]
   exact goes_err hA rfl rfl hC hv h
  ·have i2:i < (plcF T).2:=by omega
   have i3:valueF (inF T i)=false:=by cases hq:valueF (inF T i) with
    | true=>exact absurd hq i3
    | false=>rfl
   have hi:i < T.kids.length:=by omega
   rw[stF_at hT hi ⟨i1,i2⟩ i3 i4]
   have cI:=hC.inner hD i1 i2
   obtain⟨B,hB⟩:=hk_inner hA hD.kind i i1 i2
   have key:Ef (stF (inF T i)).2:=by
    obtain⟨_,_,_,t4⟩:=hD.inner i1 i2
    by_cases k:T.kind=136
    ·have e:inF T i=(T.kids.getD i .nil).kids.getD 0 .nil:=by unfold inF;rw[if_pos k]
     have hm:inF T i∈(T.kids.getD i .nil).kids:=by rw[e];exact getD_mem (t4 k).2
     exact (ih _ (getD_mem hi)).2 _ hm _ cI i3 hB
    ·have e:inF T i=T.kids.getD i .nil:=by unfold inF;rw[if_neg k]
     have hm:inF T i∈T.kids:=by rw[e];exact getD_mem hi
     exact (ih _ hm).1 _ cI i3 hB
   by_cases q:(stF (inF T i)).2≠0
   ·rw[if_pos q];exact key
   ·rw[if_neg q];exact .inl rfl
end Sn
end Go.Proofs.YtlgajkoplklkiaaGreat
namespace Go.Proofs.YtlgajkoplklkiaaGreat
namespace Ty
open Go Go.Mq Tm Sb St
abbrev cxA (K Γ:List Tree):AVal:=.agg [.d (.trees K),.d (.trees Γ)]
abbrev rA (r:Tree×Int):AVal:=.tuple [.d (.tree r.1),.d (.int .i64 r.2)]
abbrev lA (r:List Tree×Int):AVal:=.tuple [.d (.trees r.1),.d (.int .i64 r.2)]
theorem con_ok (k:Int)(l:List Tree):Pure P 54 [.d (.int .i64 k),.d (.trees l)] (.d (.tree (cT k l))):=by
 refine Pure.of_body tt [8] [4] Tryz.func54 rfl rfl rfl lb fun g=>?_
 repeat' ((first|refine Ga ?_|refine Gc fun hlen=>?_|refine Gd (fun hc=>?_) fun hc=>?_)<;>conv=>whnf)
 exact Gg
theorem con_nil (k:Int):Pure P 54 [.d (.int .i64 k),.d .nils] (.d (.tree (cT k []))):=by
 refine Pure.of_body tt [8] [4] Tryz.func54 rfl rfl rfl lb fun g=>?_
 repeat' ((first|refine Ga ?_|refine Gc fun hlen=>?_|refine Gd (fun hc=>?_) fun hc=>?_)<;>conv=>whnf)
 exact Gg
theorem filled_ok (n b:Tree):Pure P 134 [.d (.tree n),.d (.tree b)] (rA (fillR n b)):=by
 have h1:=subst_ok n 0 b
 refine Pure.of_body tt [] [4,5] Tryz.func134 rfl rfl rfl lb fun g=>?_
 unfold fillR bnd
 generalize substR n 0 b=r at *
 obtain⟨m,e⟩:=r
 have h2:=No.Normal_ok m
 simp only[]at h1
 by_cases h:e=0
 ·rw[if_pos h]
  subst h
  repeat' ((first|refine Ga ?_|refine Gc fun hlen=>?_|refine Ge h1 ?_|refine Ge h2 ?_|refine Gd (fun hc=>?_) fun hc=>?_)<;>conv=>whnf)
  exact Gg
 ·rw[if_neg h]
  repeat' ((first|refine Ga ?_|refine Gc fun hlen=>?_|refine Ge h1 ?_|refine Gd (fun hc=>?_) fun hc=>?_)<;>conv=>whnf)
  exact Gg
theorem tst_ok (K Γ:List Tree)(n:Tree)(hl:K.length≤137438953472):Pure P 131 [cxA K Γ,.d (.tree n)] (rA (tstR K n)):=by
 have h1:=Ki.Star_ok K n hl
 have h2:=No.Normal_ok n
 refine Pure.of_body tt [] [4,5] (Tryz.func131) rfl rfl rfl lb fun g=>?_
 unfold tstR
 generalize Ki.starE K n=e at *
 by_cases h:e=0
 ·rw[if_pos h]
  subst h
  repeat' ((first|refine Ga ?_|refine Gc fun hlen=>?_|refine Ge h1 ?_|refine Ge h2 ?_|refine Gd (fun hc=>?_) fun hc=>?_)<;>conv=>whnf)
  exact Gg
 ·rw[if_neg h]
  repeat' ((first|refine Ga ?_|refine Gc fun hlen=>?_|refine Ge h1 ?_|refine Gd (fun hc=>?_) fun hc=>?_)<;>conv=>whnf)
  exact Gg
theorem as_ok (K Γ:List Tree)(n:Tree)(kind:Int)(r:Tree×Int)(h1:Pure P 32 [cxA K Γ,.d (.tree n)] (rA r))(hn:r.2=0→r.1≠.nil) :
  Pure P 132 [cxA K Γ,.d (.tree n),.d (.int .i64 kind)] (rA (asR r kind)):=by
 refine Pure.of_body tt [] [6,7] (Tryz.func132) rfl rfl rfl lb fun g=>?_
 unfold asR
 obtain⟨m,e⟩:=r
 simp only[]at h1 hn
 by_cases h:e=0
 ·subst h
  have hn:=hn rfl
  by_cases hk:m.kind=kind
  ·rw[if_neg (by rintro⟨_,h⟩;exact h hk)]
   repeat' ((first|refine Ga ?_|refine Gc fun hlen=>?_|refine Ge h1 ?_|refine Split.of_false (show (m.kind != kind)=false from by simpa using hk) ?_|refine Gd (fun hc=>?_) fun hc=>?_)<;>conv=>whnf)
   exact Gg
  ·rw[if_pos ⟨rfl,hk⟩]
   repeat' ((first|refine Ga ?_|refine Gc fun hlen=>?_|refine Ge h1 ?_|refine Split.of_true (show (m.kind != kind)=true from by simpa using hk) ?_|refine Gd (fun hc=>?_) fun hc=>?_)<;>conv=>whnf)
   exact Gg
 ·rw[if_neg (by rintro⟨h2,_⟩;exact h h2)]
  repeat' ((first|refine Ga ?_|refine Gc fun hlen=>?_|refine Ge h1 ?_|refine Gd (fun hc=>?_) fun hc=>?_)<;>conv=>whnf)
  exact Gg
theorem typ_ok (K Γ:List Tree)(t:Tree)(hl:Γ.length≤549755813888):Pure P 56 [cxA K Γ,.d (.tree t)] (cxA K (t::Γ)):=by
 have h1:=Ki.concat_ok [t] Γ (by simp) (by simp;omega)
 refine Pure.of_bodyR tt [8,11] [.cell 4 76] (Tryz.func56) rfl rfl rfl lb fun g=>?_
 repeat' ((first|refine Ga ?_|refine Gc fun hlen=>?_|refine Ge h1 ?_|refine Gd (fun hc=>?_) fun hc=>?_)<;>conv=>whnf)
 exact retR_closed htt _ rfl rfl rfl rfl
def kcx (K Γ:List Tree)(k:Tree):AVal:=if (shsR Γ).2=0 then cxA (k::K) (shsR Γ).1 else cxA K Γ
theorem kcx_ok (K Γ:List Tree)(k:Tree)(hk:K.length≤549755813888)(hl:Γ.length≤549755813888):Pure P 55 [cxA K Γ,.d (.tree k)] (.tuple [kcx K Γ k,.d (.int .i64 (shsR Γ).2)]):=by
 have h1:=Ki.concat_ok [k] K (by simp) (by simp;omega)
 refine Pure.of_bodyR tt [12,15,37] [.cell 4 76,.tmp 5] (Tryz.func55) rfl rfl rfl lb fun g=>?_
 repeat' ((first|refine Ga ?_|refine Gc fun hlen=>?_|refine Ge h1 ?_|refine Gd (fun hc=>?_) fun hc=>?_)<;>conv=>whnf)
 refine loop_go (α:=Nat×List Tree) (fun p=>⟨[(2,.ref 0 0),(4,.ref 1 0),(6,.ref 2 0),(19,.d (.trees Γ)),(20,.d (.int .i64 Γ.length)),(21,.d (.int .i64 p.1))],42,[(0,.cells [.d (.trees K),.d (.trees Γ)]),(1,.cells [.d .nils,.d .nils]),(2,.cells [.d (.trees (k::K)),.row 3 p.1]),(3,.row 25 (.trees p.2))],4,g⟩)
   (fun p=>p.1≤Γ.length∧p.2.length=p.1∧shsR Γ=(if (shsR (Γ.drop p.1)).2=0 then (p.2++(shsR (Γ.drop p.1)).1,0) else ((shsR Γ).1,(shsR (Γ.drop p.1)).2))) (fun p=>Γ.length - p.1) (0,[]) ⟨by simp,rfl,by simp only[List.drop_zero];split<;>(rename_i hq;exact Prod.ext rfl (by simp[hq]))⟩
   (Ent.nil rfl rfl rfl (by repeat' first|exact trivial|apply And.intro|rfl|(refine int_eq ?_;rw[wrap64]<;>omega)) (by repeat' first|exact trivial|apply And.intro|rfl|(refine int_eq ?_;rw[wrap64]<;>omega))) (fun _=>rfl) fun p hpre=>?_
 obtain⟨i,out⟩:=p
 obtain⟨hp1,hp2,hp3⟩:=hpre
 simp only[]at hp1 hp2 hp3
 unfold kcx
 by_cases hi:i < Γ.length
 ·rw[drop_step hi,shsR]at hp3
  have hs:=shift_ok (Γ.getD i .nil) 1 0
  generalize shiftR (Γ.getD i .nil) 1 0=r at hs hp3
  obtain⟨m,e⟩:=r
  simp only[]at hs hp3
  by_cases he:e=0
  ·subst he
   rw[if_pos rfl]at hp3
   repeat' ((first|refine Ga ?_|refine Gc fun hlen=>?_|refine Ge hs ?_|refine Side.mk (show (i+1≤maxN∧(i+1)*8≤140737488355328) from⟨by unfold maxN;omega,by omega⟩) ?_|refine Gd (fun hc=>?_) fun hc=>?_)<;>conv=>whnf)
   refine⟨(i+1,out++[m]),⟨by simp only[];omega,by simp[hp2],?_⟩,by simp only[];omega,Ent.go [0,1,2,4]⟩
   refine hp3.trans ?_
   simp only[List.append_assoc,List.singleton_append]
  ·rw[if_neg he,if_neg he]at hp3
   have e2:(shsR Γ).2=e:=by rw[hp3]
   rw[if_neg (by rw[e2];exact he),e2]
   repeat' ((first|refine Ga ?_|refine Gc fun hlen=>?_|refine Ge hs ?_|refine Gd (fun hc=>?_) fun hc=>?_)<;>conv=>whnf)
   exact retR_closed htt _ rfl rfl rfl rfl
 ·rw[drop_end (by omega),shsR,if_pos rfl,List.append_nil]at hp3
  rw[hp3,if_pos rfl]
  repeat' ((first|refine Ga ?_|refine Gc fun hlen=>?_|refine Gd (fun hc=>?_) fun hc=>?_)<;>conv=>whnf)
  refine RetR.ent (Ent.fz_row 3 (l:=out) rfl (by repeat' first|exact trivial|apply And.intro|rfl|exact hp2.symm|exact Nat.zero_lt_one|omega) (by repeat' first|exact trivial|apply And.intro|rfl|exact hp2.symm|exact Nat.zero_lt_one|omega)) ?_
  exact retR_closed htt _ rfl rfl rfl rfl
theorem tpart_ok (T:Tree)(hT:T≠.nil)(s:ByteArray)(h:∀x∈T.kids,x≠.nil∧0 < x.kids.length):Pure P 133 [.d (.tree T),.d (.str s)] (.tuple [.d (.tree (oT (partF s T.kids))),.d (.bool (partF s T.kids).isSome)]):=by
 refine Pure.of_body tt [] [4,5] Tryz.func133 rfl rfl rfl lb fun g=>?_
 repeat' ((first|refine Ga ?_|refine Gc fun hlen=>?_|refine Gd (fun hc=>?_) fun hc=>?_)<;>conv=>whnf)
 refine loop_go (α:=Nat) (fun p=>⟨[(1,.d (.str s)),(11,.d (.trees T.kids)),(12,.d (.int .i64 T.kids.length)),(13,.d (.int .i64 p))],30,[],0,g⟩) (fun p=>p≤T.kids.length∧partF s (T.kids.drop p)=partF s T.kids) (fun p=>T.kids.length - p) 0 ⟨by omega,rfl⟩
  (Ent.go []) (fun _=>rfl) fun p hpre=>?_
 obtain⟨hp1,hp2⟩:=hpre
 by_cases hlt:p < T.kids.length
 ·obtain⟨h1,h2⟩:=h _ (getD_mem hlt)
  by_cases hs:(T.kids.getD p .nil).name=s
  ·rw[drop_step hlt,partF,if_pos hs]at hp2
   rw[←hp2]
   repeat' ((first|refine Ga ?_|refine Gc fun hlen=>?_|refine Gh ((0:Int)≤(p:Int)∧(p:Int) < (T.kids.length:Int)) ?_|refine Side.mk h1 ?_|refine Gh ((0:Int)≤0∧(0:Int) < ((T.kids.getD p .nil).kids.length:Int)) ?_|refine Gd (fun hc=>?_) fun hc=>?_)<;>conv=>whnf)
   exact Gg
  ·rw[partF_drop hlt hs]at hp2
   repeat' ((first|refine Ga ?_|refine Gc fun hlen=>?_|refine Gh ((0:Int)≤(p:Int)∧(p:Int) < (T.kids.length:Int)) ?_|refine Side.mk h1 ?_|refine Gd (fun hc=>?_) fun hc=>?_)<;>conv=>whnf)
   exact⟨p+1,⟨by omega,hp2⟩,by omega,Ent.go []⟩
 ·rw[drop_end (by omega),partF]at hp2
  rw[←hp2]
  repeat' ((first|refine Ga ?_|refine Gc fun hlen=>?_|refine Gd (fun hc=>?_) fun hc=>?_)<;>conv=>whnf)
  exact Gg
theorem armName_ok (x y:Tree)(hx:x≠.nil)(hy:y≠.nil):Pure P 151 [.d (.tree x),.d (.tree y)] (.d (.bool (decide (x.name=y.name)))):=by
 refine Pure.of_body tt [] [4] (Tryz.func151) rfl rfl rfl lb fun g=>?_
 repeat' ((first|refine Ga ?_|refine Gc fun hlen=>?_|refine Gd (fun hc=>?_) fun hc=>?_)<;>conv=>whnf)
 exact Gf rfl (bool_eq (by rw[bytes_dec])) rfl
theorem armNames_ok (l l':List Tree)(h:∀x∈l,x≠.nil)(h':∀x∈l',x≠.nil) :
  Pure P 23 [.d (.trees l),.d (.trees l'),.fn 151 []] (.d (.bool (nameE l l'))):=by
 refine Pure.of_body tt [] [6] (Tryz.func23) rfl rfl rfl lb fun g=>?_
 by_cases hl:l.length=l'.length
 ·repeat' ((first|refine Ga ?_|refine Gc fun hlen=>?_|refine Gd (fun hc=>?_) fun hc=>?_)<;>conv=>whnf)
  refine loop_go (α:=Nat) (fun p=>⟨[(1,.d (.trees l')),(2,.fn 151 []),(15,.d (.trees l)),(16,.d (.int .i64 l.length)),(17,.d (.int .i64 p))],32,[],0,g⟩) (fun p=>p≤l.length∧nameE (l.drop p) (l'.drop p)=nameE l l') (fun p=>l.length - p) 0 ⟨by omega,rfl⟩
   (Ent.go []) (fun _=>rfl) fun p hpre=>?_
  obtain⟨hp1,hp2⟩:=hpre
  by_cases hlt:p < l.length
  ·have hq:=armName_ok (l.getD p .nil) (l'.getD p .nil) (h _ (getD_mem hlt)) (h' _ (getD_mem (by omega)))
   rw[drop_step hlt,drop_step (l:=l') (by omega),nameE]at hp2
   by_cases e:(l.getD p .nil).name=(l'.getD p .nil).name
   ·rw[decide_eq_true e]at hq hp2
    rw[Bool.true_and]at hp2
    repeat' ((first|refine Ga ?_|refine Gc fun hlen=>?_|refine Gh ((0:Int)≤(p:Int)∧(p:Int) < (l.length:Int)) ?_|refine Gh ((0:Int)≤(p:Int)∧(p:Int) < (l'.length:Int)) ?_|refine Ge hq ?_|refine Gd (fun hc=>?_) fun hc=>?_)<;>conv=>whnf)
    exact⟨p+1,⟨by omega,hp2⟩,by omega,Ent.go []⟩
   ·rw[decide_eq_false e]at hq hp2
    rw[←hp2]
    repeat' ((first|refine Ga ?_|refine Gc fun hlen=>?_|refine Gh ((0:Int)≤(p:Int)∧(p:Int) < (l.length:Int)) ?_|refine Gh ((0:Int)≤(p:Int)∧(p:Int) < (l'.length:Int)) ?_|refine Ge hq ?_|refine Gd (fun hc=>?_) fun hc=>?_)<;>conv=>whnf)
    exact Gg
  ·rw[drop_end (by omega),drop_end (l:=l') (by omega),nameE]at hp2
   rw[←hp2]
   repeat' ((first|refine Ga ?_|refine Gc fun hlen=>?_|refine Gd (fun hc=>?_) fun hc=>?_)<;>conv=>whnf)
   exact Gg
 ·have hs:nameE l l'=false:=by
   rw[nameE_iff]
   apply decide_eq_false
   intro e
   have:=congrArg List.length e
   simp at this
   exact hl this
  repeat' ((first|refine Ga ?_|refine Gc fun hlen=>?_|refine Gd (fun hc=>?_) fun hc=>?_)<;>conv=>whnf)
  exact Gf rfl (bool_eq (by rw[hs])) rfl
theorem indexC_ok (l:List Tree)(F:Nat)(D:Mq.Data)(b:Tree→Bool)(h:∀x∈l,Fun P F [.d (.tree x),.ref 0 0] [(0,.cells [.d D])] 1 (.d (.bool (b x))) [(0,.cells [.d D])] 1) :
  Fun P 52 [.d (.trees l),.fn F [.ref 0 0]] [(0,.cells [.d D])] 1 (.d (.int .i64 (Ki.idxF b 0 l))) [(0,.cells [.d D])] 1:=by
 refine Fun.of_body tt [] [4] (Tryz.func52) rfl rfl rfl lb fun g=>?_
 repeat' ((first|refine Ga ?_|refine Gc fun hlen=>?_|refine Gd (fun hc=>?_) fun hc=>?_)<;>conv=>whnf)
 refine loop_go (α:=Nat) (fun p=>⟨[(0,.d (.trees l)),(1,.fn F [.ref 0 0]),(7,.d (.int .i64 l.length)),(8,.d (.int .i64 p))],19,[(0,.cells [.d D])],1,g⟩)
   (fun p=>p≤l.length∧Ki.idxF b p (l.drop p)=Ki.idxF b 0 l) (fun p=>l.length - p) 0 ⟨by omega,rfl⟩
   (Ent.go [0]) (fun _=>rfl) fun p hpre=>?_
 obtain⟨hp1,hp2⟩:=hpre
 by_cases hp:p < l.length
 ·have hx:=h _ (getD_mem hp)
  rw[drop_step hp,Ki.idxF]at hp2
  cases hb:b (l.getD p .nil) with
  | true =>
   rw[hb]at hx
   rw[if_pos hb]at hp2
   rw[←hp2]
   repeat' ((first|refine Ga ?_|refine Gc fun hlen=>?_|refine CallG.go hx [0] ?_|refine Gd (fun hc=>?_) fun hc=>?_)<;>conv=>whnf)
   exact ret_o rfl rfl rfl
  | false =>
   rw[hb]at hx
   rw[if_neg (by rw[hb];decide)]at hp2
   repeat' ((first|refine Ga ?_|refine Gc fun hlen=>?_|refine CallG.go hx [0] ?_|refine Gd (fun hc=>?_) fun hc=>?_)<;>conv=>whnf)
   exact⟨p+1,⟨by omega,by rw[←hp2];push_cast;rfl⟩,by omega,Ent.go [0]⟩
 ·rw[drop_end (by omega),Ki.idxF]at hp2
  rw[←hp2]
  repeat' ((first|refine Ga ?_|refine Gc fun hlen=>?_|refine Gd (fun hc=>?_) fun hc=>?_)<;>conv=>whnf)
  exact ret_o rfl rfl rfl
theorem containsC_ok (l:List Tree)(F:Nat)(D:Mq.Data)(b:Tree→Bool)(h:∀x∈l,Fun P F [.d (.tree x),.ref 0 0] [(0,.cells [.d D])] 1 (.d (.bool (b x))) [(0,.cells [.d D])] 1) :
  Fun P 31 [.d (.trees l),.fn F [.ref 0 0]] [(0,.cells [.d D])] 1 (.d (.bool (l.any b))) [(0,.cells [.d D])] 1:=by
 have hi:=indexC_ok l F D b h
 refine Fun.of_body tt [] [4] (Tryz.func31) rfl rfl rfl lb fun g=>?_
 repeat' ((first|refine Ga ?_|refine Gc fun hlen=>?_|refine CallG.go hi [0] ?_|refine Gd (fun hc=>?_) fun hc=>?_)<;>conv=>whnf)
 exact ret_objs rfl rfl (bool_eq (Ki.idxF_any b l 0 (Int.le_refl 0))) (by repeat' first|exact trivial|apply And.intro|rfl|(refine int_eq ?_;rw[wrap64]<;>omega)) (Nat.le_refl _)
theorem alike1_ok (x t:Tree):Fun P 152 [.d (.tree x),.ref 0 0] [(0,.cells [.d (.tree t)])] 1 (.d (.bool (!sameF x t))) [(0,.cells [.d (.tree t)])] 1:=by
 have h1:=same_ok x t
 refine Fun.of_body tt [] [3] (Tryz.func152) rfl rfl rfl lb fun g=>?_
 repeat' ((first|refine Ga ?_|refine Gc fun hlen=>?_|refine Ge h1 ?_|refine Gd (fun hc=>?_) fun hc=>?_)<;>conv=>whnf)
 exact ret_o rfl rfl rfl
theorem alike_ok (l:List Tree)(t:Tree):Pure P 137 [.d (.trees l),.d (.tree t)] (rA (alikeR l t)):=by
 have h1:=containsC_ok l 152 (.tree t) (fun s=>!sameF s t) fun x _=>alike1_ok x t
 refine Pure.of_body tt [] [4,5] Tryz.func137 rfl rfl rfl lb fun g=>?_
 unfold alikeR
 cases hb:l.any fun s=>!sameF s t with
 | true =>
  rw[hb]at h1
  repeat' ((first|refine Ga ?_|refine Gc fun hlen=>?_|refine CallG.go h1 [0] ?_|refine Gd (fun hc=>?_) fun hc=>?_)<;>conv=>whnf)
  exact Gg
 | false =>
  rw[hb]at h1
  repeat' ((first|refine Ga ?_|refine Gc fun hlen=>?_|refine CallG.go h1 [0] ?_|refine Gd (fun hc=>?_) fun hc=>?_)<;>conv=>whnf)
  exact Gg
theorem rule_lam (T:Tree)(hT:T≠.nil)(hk:T.kind=134):Pure P 57 [.d (.tree T)] (.fn 92 []):=by
 refine Pure.of_body tt [] [2] Tryz.func57 rfl rfl rfl lb fun g=>?_
 repeat' ((first|refine Ga ?_|refine Gc fun hlen=>?_|refine Gd (fun hc=>?_) fun hc=>?_)<;>conv=>whnf)
 exact Gg
theorem rule_app (T:Tree)(hT:T≠.nil)(hk:T.kind=135):Pure P 57 [.d (.tree T)] (.fn 93 []):=by
 refine Pure.of_body tt [] [2] Tryz.func57 rfl rfl rfl lb fun g=>?_
 repeat' ((first|refine Ga ?_|refine Gc fun hlen=>?_|refine Gd (fun hc=>?_) fun hc=>?_)<;>conv=>whnf)
 exact Gg
theorem rule_rec (T:Tree)(hT:T≠.nil)(hk:T.kind=136):Pure P 57 [.d (.tree T)] (.fn 94 []):=by
 refine Pure.of_body tt [] [2] Tryz.func57 rfl rfl rfl lb fun g=>?_
 repeat' ((first|refine Ga ?_|refine Gc fun hlen=>?_|refine Gd (fun hc=>?_) fun hc=>?_)<;>conv=>whnf)
 exact Gg
theorem rule_proj (T:Tree)(hT:T≠.nil)(hk:T.kind=138):Pure P 57 [.d (.tree T)] (.fn 95 []):=by
 refine Pure.of_body tt [] [2] Tryz.func57 rfl rfl rfl lb fun g=>?_
 repeat' ((first|refine Ga ?_|refine Gc fun hlen=>?_|refine Gd (fun hc=>?_) fun hc=>?_)<;>conv=>whnf)
 exact Gg
theorem rule_tapp (T:Tree)(hT:T≠.nil)(hk:T.kind=140):Pure P 57 [.d (.tree T)] (.fn 96 []):=by
 refine Pure.of_body tt [] [2] Tryz.func57 rfl rfl rfl lb fun g=>?_
 repeat' ((first|refine Ga ?_|refine Gc fun hlen=>?_|refine Gd (fun hc=>?_) fun hc=>?_)<;>conv=>whnf)
 exact Gg
theorem rule_pack (T:Tree)(hT:T≠.nil)(hk:T.kind=141):Pure P 57 [.d (.tree T)] (.fn 97 []):=by
 refine Pure.of_body tt [] [2] Tryz.func57 rfl rfl rfl lb fun g=>?_
 repeat' ((first|refine Ga ?_|refine Gc fun hlen=>?_|refine Gd (fun hc=>?_) fun hc=>?_)<;>conv=>whnf)
 exact Gg
theorem rule_unpack (T:Tree)(hT:T≠.nil)(hk:T.kind=142):Pure P 57 [.d (.tree T)] (.fn 98 []):=by
 refine Pure.of_body tt [] [2] Tryz.func57 rfl rfl rfl lb fun g=>?_
 repeat' ((first|refine Ga ?_|refine Gc fun hlen=>?_|refine Gd (fun hc=>?_) fun hc=>?_)<;>conv=>whnf)
 exact Gg
theorem rule_choice (T:Tree)(hT:T≠.nil)(hk:T.kind=144):Pure P 57 [.d (.tree T)] (.fn 99 []):=by
 refine Pure.of_body tt [] [2] Tryz.func57 rfl rfl rfl lb fun g=>?_
 repeat' ((first|refine Ga ?_|refine Gc fun hlen=>?_|refine Gd (fun hc=>?_) fun hc=>?_)<;>conv=>whnf)
 exact Gg
theorem rule_op (T:Tree)(hT:T≠.nil)(hk:T.kind=145):Pure P 57 [.d (.tree T)] (.fn 100 []):=by
 refine Pure.of_body tt [] [2] Tryz.func57 rfl rfl rfl lb fun g=>?_
 repeat' ((first|refine Ga ?_|refine Gc fun hlen=>?_|refine Gd (fun hc=>?_) fun hc=>?_)<;>conv=>whnf)
 exact Gg
theorem rule_in (T:Tree)(hT:T≠.nil)(hk:T.kind=146):Pure P 57 [.d (.tree T)] (.fn 101 []):=by
 refine Pure.of_body tt [] [2] Tryz.func57 rfl rfl rfl lb fun g=>?_
 repeat' ((first|refine Ga ?_|refine Gc fun hlen=>?_|refine Gd (fun hc=>?_) fun hc=>?_)<;>conv=>whnf)
 exact Gg
theorem rule_cases (T:Tree)(hT:T≠.nil)(hk:T.kind=147):Pure P 57 [.d (.tree T)] (.fn 102 []):=by
 refine Pure.of_body tt [] [2] Tryz.func57 rfl rfl rfl lb fun g=>?_
 repeat' ((first|refine Ga ?_|refine Gc fun hlen=>?_|refine Gd (fun hc=>?_) fun hc=>?_)<;>conv=>whnf)
 exact Gg
theorem rule_fold (T:Tree)(hT:T≠.nil)(h134:T.kind≠134)(h135:T.kind≠135)(h136:T.kind≠136)(h138:T.kind≠138)(h140:T.kind≠140)(h141:T.kind≠141)(h142:T.kind≠142)(h144:T.kind≠144)(h145:T.kind≠145)(h146:T.kind≠146)(h147:T.kind≠147):Pure P 57 [.d (.tree T)] (.fn 103 []):=by
 refine Pure.of_body tt [] [2] Tryz.func57 rfl rfl rfl lb fun g=>?_
 repeat' ((first|refine Ga ?_|refine Gc fun hlen=>?_|refine Gd (fun hc=>?_) fun hc=>?_)<;>conv=>whnf)
 exact Gg
def OfP (T:Tree):Prop:=∀K Γ:List Tree,isTermF T=true→Full T→K.length+sizeN T≤1073741824→Γ.length+sizeN T≤1073741824 →
 Pure P 32 [cxA K Γ,.d (.tree T)] (rA (ofF T K Γ))
theorem tst_con {K:List Tree}{n:Tree}(h:(tstR K n).2=0):isConF (tstR K n).1=true:=by
 obtain⟨_,e1,e2⟩:=tst_zero h
 rw[e1];exact (norm_zero e2).1
theorem two_or {c d:Prop} [Decidable c] [Decidable d]{α:Type}{a b:α}(h:¬c):(if c∧d then a else b)=b:=if_neg fun e=>h e.1
theorem two_or' {c:Prop} [Decidable c]{x:Bool}{α:Type}{a b:α}(h:x=false):(if c∧x=true then a else b)=b:=if_neg fun e=>by rw[h]at e;cases e.2
theorem two_and {c:Prop} [Decidable c]{x:Bool}{α:Type}{a b:α}(h:c)(h':x=true):(if c∧x=true then a else b)=a:=if_pos ⟨h,h'⟩
theorem app_ok (T:Tree)(hT:isTermF T=true)(hF:Full T)(hk:T.kind=135)(ih:∀U,sizeN U < sizeN T→OfP U)(K Γ:List Tree)(hK:K.length+sizeN T≤1073741824)(hΓ:Γ.length+sizeN T≤1073741824) :
  Pure P 93 [cxA K Γ,.d (.tree T)] (rA (appR T K Γ)):=by
 have hTn:=term_ne hT
 have hsz:=sizeN_kids hTn
 obtain⟨t1,t2,t3⟩:=term_xx hT (.inl hk)
 have m0:=getD_mem (l:=T.kids) (i:=0) (by omega)
 have s0:=sizesN_mem m0
 have m1:=getD_mem (l:=T.kids) (i:=1) (by omega)
 have s1:=sizesN_mem m1
 have c0:=ih (T.kids.getD 0 .nil) (by omega) K Γ t2 (hF.kid (by omega)) (by omega) (by omega)
 have qc0:=of_con _ _ (Nat.le_refl (sizeN (T.kids.getD 0 .nil))) t2 K Γ
 have c1:=ih (T.kids.getD 1 .nil) (by omega) K Γ t3 (hF.kid (by omega)) (by omega) (by omega)
 have qc1:=of_con _ _ (Nat.le_refl (sizeN (T.kids.getD 1 .nil))) t3 K Γ
 refine Pure.of_body tt [] [4,5] (Tryz.func93) rfl rfl rfl lb fun g=>?_
 generalize hv:appR T K Γ=v
 unfold appR bnd at hv
 generalize ofF (T.kids.getD 0 .nil) K Γ=r0 at *
 generalize ofF (T.kids.getD 1 .nil) K Γ=r1 at *
 obtain⟨f,e0⟩:=r0
 obtain⟨a,e1⟩:=r1
 try dsimp only at c0
 try dsimp only at c1
 try dsimp only at c2
 try dsimp only at c3
 try dsimp only at cf
 try dsimp only at qc0
 try dsimp only at qc1
 try dsimp only at qc2
 try dsimp only at z1
 try dsimp only at hv
 by_cases h0:e0=0
 ·subst h0
  rw[if_pos rfl]at hv
  try dsimp only at hv
  by_cases h1:e1=0
  ·subst h1
   rw[if_pos rfl]at hv
   try dsimp only at hv
   have qf:=qc0 rfl
   have n0:=con_ne qf
   have cs:=same_ok (f.kids.getD 0 .nil) a
   by_cases hk2:f.kind=114
   ·obtain⟨l1,l2,l3⟩:=Ki.con_two n0 qf (.inl hk2)
    cases hb:sameF (f.kids.getD 0 .nil) a with
    | true =>
     rw[hb]at cs hv
     rw[two_and hk2 rfl]at hv
     try dsimp only at hv
     subst hv
     repeat' ((first|refine Ga ?_|refine Gc fun hlen=>?_|refine Ge c0 ?_|refine Ge c1 ?_|refine Gh ((0:Int)≤0∧(0:Int) < (T.kids.length:Int)) ?_|refine Gh ((0:Int)≤1∧(1:Int) < (T.kids.length:Int)) ?_|refine Ge cs ?_|refine Side.mk n0 ?_|refine Split.of_false (ne_kind hk2) ?_|refine Gh ((0:Int)≤0∧(0:Int) < (f.kids.length:Int)) ?_|refine Gh ((0:Int)≤1∧(1:Int) < (f.kids.length:Int)) ?_|refine Gd (fun hc=>?_) fun hc=>?_)<;>conv=>whnf)
     exact Gg
    | false =>
     rw[hb]at cs hv
     rw[two_or' rfl]at hv
     try dsimp only at hv
     subst hv
     repeat' ((first|refine Ga ?_|refine Gc fun hlen=>?_|refine Ge c0 ?_|refine Ge c1 ?_|refine Gh ((0:Int)≤0∧(0:Int) < (T.kids.length:Int)) ?_|refine Gh ((0:Int)≤1∧(1:Int) < (T.kids.length:Int)) ?_|refine Ge cs ?_|refine Side.mk n0 ?_|refine Split.of_false (ne_kind hk2) ?_|refine Gh ((0:Int)≤0∧(0:Int) < (f.kids.length:Int)) ?_|refine Gh ((0:Int)≤1∧(1:Int) < (f.kids.length:Int)) ?_|refine Gd (fun hc=>?_) fun hc=>?_)<;>conv=>whnf)
     exact Gg
   ·rw[two_or hk2]at hv
    try dsimp only at hv
    subst hv
    repeat' ((first|refine Ga ?_|refine Gc fun hlen=>?_|refine Ge c0 ?_|refine Ge c1 ?_|refine Gh ((0:Int)≤0∧(0:Int) < (T.kids.length:Int)) ?_|refine Gh ((0:Int)≤1∧(1:Int) < (T.kids.length:Int)) ?_|refine Side.mk n0 ?_|refine Split.of_true (ne_kind' hk2) ?_|refine Gd (fun hc=>?_) fun hc=>?_)<;>conv=>whnf)
    exact Gg
  ·rw[if_neg h1]at hv
   try dsimp only at hv
   subst hv
   repeat' ((first|refine Ga ?_|refine Gc fun hlen=>?_|refine Ge c0 ?_|refine Ge c1 ?_|refine Gh ((0:Int)≤0∧(0:Int) < (T.kids.length:Int)) ?_|refine Gh ((0:Int)≤1∧(1:Int) < (T.kids.length:Int)) ?_|refine Gd (fun hc=>?_) fun hc=>?_)<;>conv=>whnf)
   exact Gg
 ·rw[if_neg h0]at hv
  try dsimp only at hv
  subst hv
  repeat' ((first|refine Ga ?_|refine Gc fun hlen=>?_|refine Ge c0 ?_|refine Ge c1 ?_|refine Gh ((0:Int)≤0∧(0:Int) < (T.kids.length:Int)) ?_|refine Gh ((0:Int)≤1∧(1:Int) < (T.kids.length:Int)) ?_|refine Gd (fun hc=>?_) fun hc=>?_)<;>conv=>whnf)
  exact Gg
theorem lam_ok (T:Tree)(hT:isTermF T=true)(hF:Full T)(hk:T.kind=134)(ih:∀U,sizeN U < sizeN T→OfP U)(K Γ:List Tree)(hK:K.length+sizeN T≤1073741824)(hΓ:Γ.length+sizeN T≤1073741824) :
  Pure P 92 [cxA K Γ,.d (.tree T)] (rA (lamR T K Γ)):=by
 have hTn:=term_ne hT
 have hsz:=sizeN_kids hTn
 obtain⟨t1,t2,t3⟩:=term_cx hT (.inl hk)
 have m0:=getD_mem (l:=T.kids) (i:=0) (by omega)
 have s0:=sizesN_mem m0
 have m1:=getD_mem (l:=T.kids) (i:=1) (by omega)
 have s1:=sizesN_mem m1
 have c0:=tst_ok K Γ (T.kids.getD 0 .nil) (by omega)
 refine Pure.of_body tt [41] [4,5] (Tryz.func92) rfl rfl rfl lb fun g=>?_
 generalize hv:lamR T K Γ=v
 unfold lamR bnd at hv
 generalize tstR K (T.kids.getD 0 .nil)=r0 at *
 obtain⟨a,e0⟩:=r0
 try dsimp only at c0
 try dsimp only at c1
 try dsimp only at c2
 try dsimp only at c3
 try dsimp only at cf
 try dsimp only at qc0
 try dsimp only at qc1
 try dsimp only at qc2
 try dsimp only at z1
 try dsimp only at hv
 by_cases h0:e0=0
 ·subst h0
  rw[if_pos rfl]at hv
  try dsimp only at hv
  have c1:=typ_ok K Γ a (by omega)
  have c2:=ih (T.kids.getD 1 .nil) (by omega) K (a::Γ) t3 (hF.kid (by omega)) (by omega) (by rw[List.length_cons];omega)
  generalize ofF (T.kids.getD 1 .nil) K (a::Γ)=r1 at *
  obtain⟨b,e1⟩:=r1
  try dsimp only at c0
  try dsimp only at c1
  try dsimp only at c2
  try dsimp only at c3
  try dsimp only at cf
  try dsimp only at qc0
  try dsimp only at qc1
  try dsimp only at qc2
  try dsimp only at z1
  try dsimp only at hv
  by_cases h1:e1=0
  ·subst h1
   rw[if_pos rfl]at hv
   try dsimp only at hv
   have c3:=con_ok 114 [a,b]
   subst hv
   repeat' ((first|refine Ga ?_|refine Gc fun hlen=>?_|refine Ge c0 ?_|refine Ge c1 ?_|refine Ge c2 ?_|refine Ge c3 ?_|refine Gh ((0:Int)≤0∧(0:Int) < (T.kids.length:Int)) ?_|refine Gh ((0:Int)≤1∧(1:Int) < (T.kids.length:Int)) ?_|refine Gd (fun hc=>?_) fun hc=>?_)<;>conv=>whnf)
   exact Gg
  ·rw[if_neg h1]at hv
   try dsimp only at hv
   subst hv
   repeat' ((first|refine Ga ?_|refine Gc fun hlen=>?_|refine Ge c0 ?_|refine Ge c1 ?_|refine Ge c2 ?_|refine Gh ((0:Int)≤0∧(0:Int) < (T.kids.length:Int)) ?_|refine Gh ((0:Int)≤1∧(1:Int) < (T.kids.length:Int)) ?_|refine Gd (fun hc=>?_) fun hc=>?_)<;>conv=>whnf)
   exact Gg
 ·rw[if_neg h0]at hv
  try dsimp only at hv
  subst hv
  repeat' ((first|refine Ga ?_|refine Gc fun hlen=>?_|refine Ge c0 ?_|refine Gh ((0:Int)≤0∧(0:Int) < (T.kids.length:Int)) ?_|refine Gh ((0:Int)≤1∧(1:Int) < (T.kids.length:Int)) ?_|refine Gd (fun hc=>?_) fun hc=>?_)<;>conv=>whnf)
  exact Gg
theorem proj_ok (T:Tree)(hT:isTermF T=true)(hF:Full T)(hk:T.kind=138)(ih:∀U,sizeN U < sizeN T→OfP U)(K Γ:List Tree)(hK:K.length+sizeN T≤1073741824)(hΓ:Γ.length+sizeN T≤1073741824) :
  Pure P 95 [cxA K Γ,.d (.tree T)] (rA (projR T K Γ)):=by
 have hTn:=term_ne hT
 have hsz:=sizeN_kids hTn
 obtain⟨t1,t2⟩:=term_x hT hk
 have m0:=getD_mem (l:=T.kids) (i:=0) (by omega)
 have s0:=sizesN_mem m0
 have c0:=ih (T.kids.getD 0 .nil) (by omega) K Γ t2 (hF.kid (by omega)) (by omega) (by omega)
 have qc0:=of_con _ _ (Nat.le_refl (sizeN (T.kids.getD 0 .nil))) t2 K Γ
 refine Pure.of_body tt [] [4,5] (Tryz.func95) rfl rfl rfl lb fun g=>?_
 have n0:(ofF (T.kids.getD 0 .nil) K Γ).2=0→(ofF (T.kids.getD 0 .nil) K Γ).1≠.nil:=fun h=>con_ne (qc0 h)
 have c1:=as_ok K Γ (T.kids.getD 0 .nil) 115 _ c0 n0
 have z1:(asR (ofF (T.kids.getD 0 .nil) K Γ) 115).2=0→(asR (ofF (T.kids.getD 0 .nil) K Γ) 115).1.kind=115∧isConF (asR (ofF (T.kids.getD 0 .nil) K Γ) 115).1=true:=fun h=>by
  obtain⟨a1,a2,a3⟩:=as_zero h
  rw[a3];exact⟨a2,qc0 a1⟩
 generalize hv:projR T K Γ=v
 unfold projR bnd at hv
 generalize asR (ofF (T.kids.getD 0 .nil) K Γ) 115=r0 at *
 obtain⟨t,e0⟩:=r0
 try dsimp only at c0
 try dsimp only at c1
 try dsimp only at c2
 try dsimp only at c3
 try dsimp only at cf
 try dsimp only at qc0
 try dsimp only at qc1
 try dsimp only at qc2
 try dsimp only at z1
 try dsimp only at hv
 by_cases h0:e0=0
 ·subst h0
  rw[if_pos rfl]at hv
  try dsimp only at hv
  obtain⟨z2,z3⟩:=z1 rfl
  have nt:=con_ne z3
  have c2:=tpart_ok t nt T.name fun x hx=>by have:=Ki.field_kid (Ki.rec_fields nt z3 z2 x hx);exact⟨this.1,by omega⟩
  cases hp:partF T.name t.kids with
  | none =>
   rw[hp]at c2 hv
   subst hv
   repeat' ((first|refine Ga ?_|refine Gc fun hlen=>?_|refine Ge c1 ?_|refine Ge c2 ?_|refine Gh ((0:Int)≤0∧(0:Int) < (T.kids.length:Int)) ?_|refine Gh ((0:Int)≤1∧(1:Int) < (T.kids.length:Int)) ?_|refine Gd (fun hc=>?_) fun hc=>?_)<;>conv=>whnf)
   exact Gg
  | some p =>
   rw[hp]at c2 hv
   subst hv
   repeat' ((first|refine Ga ?_|refine Gc fun hlen=>?_|refine Ge c1 ?_|refine Ge c2 ?_|refine Gh ((0:Int)≤0∧(0:Int) < (T.kids.length:Int)) ?_|refine Gh ((0:Int)≤1∧(1:Int) < (T.kids.length:Int)) ?_|refine Gd (fun hc=>?_) fun hc=>?_)<;>conv=>whnf)
   exact Gg
 ·rw[if_neg h0]at hv
  try dsimp only at hv
  subst hv
  repeat' ((first|refine Ga ?_|refine Gc fun hlen=>?_|refine Ge c1 ?_|refine Gh ((0:Int)≤0∧(0:Int) < (T.kids.length:Int)) ?_|refine Gh ((0:Int)≤1∧(1:Int) < (T.kids.length:Int)) ?_|refine Gd (fun hc=>?_) fun hc=>?_)<;>conv=>whnf)
  exact Gg
theorem tapp_ok (T:Tree)(hT:isTermF T=true)(hF:Full T)(hk:T.kind=140)(ih:∀U,sizeN U < sizeN T→OfP U)(K Γ:List Tree)(hK:K.length+sizeN T≤1073741824)(hΓ:Γ.length+sizeN T≤1073741824) :
  Pure P 96 [cxA K Γ,.d (.tree T)] (rA (tappR T K Γ)):=by
 have hTn:=term_ne hT
 have hsz:=sizeN_kids hTn
 obtain⟨t1,t2,t3⟩:=term_xc hT hk
 have m0:=getD_mem (l:=T.kids) (i:=0) (by omega)
 have s0:=sizesN_mem m0
 have m1:=getD_mem (l:=T.kids) (i:=1) (by omega)
 have s1:=sizesN_mem m1
 have c0:=ih (T.kids.getD 0 .nil) (by omega) K Γ t2 (hF.kid (by omega)) (by omega) (by omega)
 have qc0:=of_con _ _ (Nat.le_refl (sizeN (T.kids.getD 0 .nil))) t2 K Γ
 have c1:=Ki.Kind_ok K (T.kids.getD 1 .nil) (by omega)
 refine Pure.of_body tt [] [4,5] (Tryz.func96) rfl rfl rfl lb fun g=>?_
 generalize hv:tappR T K Γ=v
 unfold tappR bnd at hv
 generalize ofF (T.kids.getD 0 .nil) K Γ=r0 at *
 generalize Ki.kindR K (T.kids.getD 1 .nil)=r1 at *
 obtain⟨f,e0⟩:=r0
 obtain⟨a,e1⟩:=r1
 try dsimp only at c0
 try dsimp only at c1
 try dsimp only at c2
 try dsimp only at c3
 try dsimp only at cf
 try dsimp only at qc0
 try dsimp only at qc1
 try dsimp only at qc2
 try dsimp only at z1
 try dsimp only at hv
 by_cases h0:e0=0
 ·subst h0
  rw[if_pos rfl]at hv
  try dsimp only at hv
  by_cases h1:e1=0
  ·subst h1
   rw[if_pos rfl]at hv
   try dsimp only at hv
   have qf:=qc0 rfl
   have n0:=con_ne qf
   have cs:=same_ok (f.kids.getD 0 .nil) a
   by_cases hk2:f.kind=117
   ·obtain⟨l1,l2,l3⟩:=Ki.con_bind n0 qf (.inl hk2)
    have cf:=filled_ok (f.kids.getD 1 .nil) (T.kids.getD 1 .nil)
    cases hb:sameF (f.kids.getD 0 .nil) a with
    | true =>
     rw[hb]at cs hv
     rw[two_and hk2 rfl]at hv
     try dsimp only at hv
     subst hv
     repeat' ((first|refine Ga ?_|refine Gc fun hlen=>?_|refine Ge c0 ?_|refine Ge c1 ?_|refine Gh ((0:Int)≤0∧(0:Int) < (T.kids.length:Int)) ?_|refine Gh ((0:Int)≤1∧(1:Int) < (T.kids.length:Int)) ?_|refine Ge cs ?_|refine Ge cf ?_|refine Side.mk n0 ?_|refine Split.of_false (ne_kind hk2) ?_|refine Gh ((0:Int)≤0∧(0:Int) < (f.kids.length:Int)) ?_|refine Gh ((0:Int)≤1∧(1:Int) < (f.kids.length:Int)) ?_|refine Gd (fun hc=>?_) fun hc=>?_)<;>conv=>whnf)
     exact Gg
    | false =>
     rw[hb]at cs hv
     rw[two_or' rfl]at hv
     try dsimp only at hv
     subst hv
     repeat' ((first|refine Ga ?_|refine Gc fun hlen=>?_|refine Ge c0 ?_|refine Ge c1 ?_|refine Gh ((0:Int)≤0∧(0:Int) < (T.kids.length:Int)) ?_|refine Gh ((0:Int)≤1∧(1:Int) < (T.kids.length:Int)) ?_|refine Ge cs ?_|refine Side.mk n0 ?_|refine Split.of_false (ne_kind hk2) ?_|refine Gh ((0:Int)≤0∧(0:Int) < (f.kids.length:Int)) ?_|refine Gh ((0:Int)≤1∧(1:Int) < (f.kids.length:Int)) ?_|refine Gd (fun hc=>?_) fun hc=>?_)<;>conv=>whnf)
     exact Gg
   ·rw[two_or hk2]at hv
    try dsimp only at hv
    subst hv
    repeat' ((first|refine Ga ?_|refine Gc fun hlen=>?_|refine Ge c0 ?_|refine Ge c1 ?_|refine Gh ((0:Int)≤0∧(0:Int) < (T.kids.length:Int)) ?_|refine Gh ((0:Int)≤1∧(1:Int) < (T.kids.length:Int)) ?_|refine Side.mk n0 ?_|refine Split.of_true (ne_kind' hk2) ?_|refine Gd (fun hc=>?_) fun hc=>?_)<;>conv=>whnf)
    exact Gg
  ·rw[if_neg h1]at hv
   try dsimp only at hv
   subst hv
   repeat' ((first|refine Ga ?_|refine Gc fun hlen=>?_|refine Ge c0 ?_|refine Ge c1 ?_|refine Gh ((0:Int)≤0∧(0:Int) < (T.kids.length:Int)) ?_|refine Gh ((0:Int)≤1∧(1:Int) < (T.kids.length:Int)) ?_|refine Gd (fun hc=>?_) fun hc=>?_)<;>conv=>whnf)
   exact Gg
 ·rw[if_neg h0]at hv
  try dsimp only at hv
  subst hv
  repeat' ((first|refine Ga ?_|refine Gc fun hlen=>?_|refine Ge c0 ?_|refine Ge c1 ?_|refine Gh ((0:Int)≤0∧(0:Int) < (T.kids.length:Int)) ?_|refine Gh ((0:Int)≤1∧(1:Int) < (T.kids.length:Int)) ?_|refine Gd (fun hc=>?_) fun hc=>?_)<;>conv=>whnf)
  exact Gg
theorem pack_ok (T:Tree)(hT:isTermF T=true)(hF:Full T)(hk:T.kind=141)(ih:∀U,sizeN U < sizeN T→OfP U)(K Γ:List Tree)(hK:K.length+sizeN T≤1073741824)(hΓ:Γ.length+sizeN T≤1073741824) :
  Pure P 97 [cxA K Γ,.d (.tree T)] (rA (packR T K Γ)):=by
 have hTn:=term_ne hT
 have hsz:=sizeN_kids hTn
 obtain⟨t1,t2,t3,t4⟩:=term_cxc hT hk
 have m0:=getD_mem (l:=T.kids) (i:=0) (by omega)
 have s0:=sizesN_mem m0
 have m1:=getD_mem (l:=T.kids) (i:=1) (by omega)
 have s1:=sizesN_mem m1
 have m2:=getD_mem (l:=T.kids) (i:=2) (by omega)
 have s2:=sizesN_mem m2
 have c0:=tst_ok K Γ (T.kids.getD 2 .nil) (by omega)
 have qc0:=tst_con (K:=K) (n:=T.kids.getD 2 .nil)
 have c1:=Ki.Kind_ok K (T.kids.getD 0 .nil) (by omega)
 have c2:=ih (T.kids.getD 1 .nil) (by omega) K Γ t3 (hF.kid (by omega)) (by omega) (by omega)
 have qc2:=of_con _ _ (Nat.le_refl (sizeN (T.kids.getD 1 .nil))) t3 K Γ
 refine Pure.of_body tt [] [4,5] (Tryz.func97) rfl rfl rfl lb fun g=>?_
 generalize hv:packR T K Γ=v
 unfold packR bnd at hv
 generalize tstR K (T.kids.getD 2 .nil)=r0 at *
 generalize Ki.kindR K (T.kids.getD 0 .nil)=r1 at *
 generalize ofF (T.kids.getD 1 .nil) K Γ=r2 at *
 obtain⟨f,e0⟩:=r0
 obtain⟨q,e1⟩:=r1
 obtain⟨a,e2⟩:=r2
 try dsimp only at c0
 try dsimp only at c1
 try dsimp only at c2
 try dsimp only at c3
 try dsimp only at cf
 try dsimp only at qc0
 try dsimp only at qc1
 try dsimp only at qc2
 try dsimp only at z1
 try dsimp only at hv
 by_cases h0:e0=0
 ·subst h0
  rw[if_pos rfl]at hv
  try dsimp only at hv
  by_cases h1:e1=0
  ·subst h1
   rw[if_pos rfl]at hv
   try dsimp only at hv
   by_cases h2:e2=0
   ·subst h2
    rw[if_pos rfl]at hv
    try dsimp only at hv
    have qf:=qc0 rfl
    have n0:=con_ne qf
    have cs:=same_ok (f.kids.getD 0 .nil) q
    by_cases hk2:f.kind=118
    ·obtain⟨l1,l2,l3⟩:=Ki.con_bind n0 qf (.inr (.inl hk2))
     have cf:=filled_ok (f.kids.getD 1 .nil) (T.kids.getD 0 .nil)
     cases hb:sameF (f.kids.getD 0 .nil) q with
     | true =>
      rw[hb]at cs hv
      rw[two_and hk2 rfl]at hv
      try dsimp only at hv
      generalize fillR (f.kids.getD 1 .nil) (T.kids.getD 0 .nil)=r3 at *
      obtain⟨b,e3⟩:=r3
      try dsimp only at c0
      try dsimp only at c1
      try dsimp only at c2
      try dsimp only at c3
      try dsimp only at cf
      try dsimp only at qc0
      try dsimp only at qc1
      try dsimp only at qc2
      try dsimp only at z1
      try dsimp only at hv
      by_cases h3:e3=0
      ·subst h3
       rw[if_pos rfl]at hv
       try dsimp only at hv
       have cs2:=same_ok a b
       cases hb2:sameF a b with
       | true =>
        rw[hb2]at cs2 hv
        rw[if_pos rfl]at hv
        try dsimp only at hv
        subst hv
        repeat' ((first|refine Ga ?_|refine Gc fun hlen=>?_|refine Ge c0 ?_|refine Ge c1 ?_|refine Ge c2 ?_|refine Gh ((0:Int)≤0∧(0:Int) < (T.kids.length:Int)) ?_|refine Gh ((0:Int)≤1∧(1:Int) < (T.kids.length:Int)) ?_|refine Gh ((0:Int)≤2∧(2:Int) < (T.kids.length:Int)) ?_|refine Ge cs ?_|refine Ge cf ?_|refine Ge cs2 ?_|refine Side.mk n0 ?_|refine Split.of_false (ne_kind hk2) ?_|refine Gh ((0:Int)≤0∧(0:Int) < (f.kids.length:Int)) ?_|refine Gh ((0:Int)≤1∧(1:Int) < (f.kids.length:Int)) ?_|refine Gd (fun hc=>?_) fun hc=>?_)<;>conv=>whnf)
        exact Gg
       | false =>
        rw[hb2]at cs2 hv
        rw[if_neg (by decide)]at hv
        try dsimp only at hv
        subst hv
        repeat' ((first|refine Ga ?_|refine Gc fun hlen=>?_|refine Ge c0 ?_|refine Ge c1 ?_|refine Ge c2 ?_|refine Gh ((0:Int)≤0∧(0:Int) < (T.kids.length:Int)) ?_|refine Gh ((0:Int)≤1∧(1:Int) < (T.kids.length:Int)) ?_|refine Gh ((0:Int)≤2∧(2:Int) < (T.kids.length:Int)) ?_|refine Ge cs ?_|refine Ge cf ?_|refine Ge cs2 ?_|refine Side.mk n0 ?_|refine Split.of_false (ne_kind hk2) ?_|refine Gh ((0:Int)≤0∧(0:Int) < (f.kids.length:Int)) ?_|refine Gh ((0:Int)≤1∧(1:Int) < (f.kids.length:Int)) ?_|refine Gd (fun hc=>?_) fun hc=>?_)<;>conv=>whnf)
        exact Gg
      ·rw[if_neg h3]at hv
       try dsimp only at hv
       subst hv
       repeat' ((first|refine Ga ?_|refine Gc fun hlen=>?_|refine Ge c0 ?_|refine Ge c1 ?_|refine Ge c2 ?_|refine Gh ((0:Int)≤0∧(0:Int) < (T.kids.length:Int)) ?_|refine Gh ((0:Int)≤1∧(1:Int) < (T.kids.length:Int)) ?_|refine Gh ((0:Int)≤2∧(2:Int) < (T.kids.length:Int)) ?_|refine Ge cs ?_|refine Ge cf ?_|refine Side.mk n0 ?_|refine Split.of_false (ne_kind hk2) ?_|refine Gh ((0:Int)≤0∧(0:Int) < (f.kids.length:Int)) ?_|refine Gh ((0:Int)≤1∧(1:Int) < (f.kids.length:Int)) ?_|refine Gd (fun hc=>?_) fun hc=>?_)<;>conv=>whnf)
       exact Gg
     | false =>
      rw[hb]at cs hv
      rw[two_or' rfl]at hv
      try dsimp only at hv
      subst hv
      repeat' ((first|refine Ga ?_|refine Gc fun hlen=>?_|refine Ge c0 ?_|refine Ge c1 ?_|refine Ge c2 ?_|refine Gh ((0:Int)≤0∧(0:Int) < (T.kids.length:Int)) ?_|refine Gh ((0:Int)≤1∧(1:Int) < (T.kids.length:Int)) ?_|refine Gh ((0:Int)≤2∧(2:Int) < (T.kids.length:Int)) ?_|refine Ge cs ?_|refine Side.mk n0 ?_|refine Split.of_false (ne_kind hk2) ?_|refine Gh ((0:Int)≤0∧(0:Int) < (f.kids.length:Int)) ?_|refine Gh ((0:Int)≤1∧(1:Int) < (f.kids.length:Int)) ?_|refine Gd (fun hc=>?_) fun hc=>?_)<;>conv=>whnf)
      exact Gg
    ·rw[two_or hk2]at hv
     try dsimp only at hv
     subst hv
     repeat' ((first|refine Ga ?_|refine Gc fun hlen=>?_|refine Ge c0 ?_|refine Ge c1 ?_|refine Ge c2 ?_|refine Gh ((0:Int)≤0∧(0:Int) < (T.kids.length:Int)) ?_|refine Gh ((0:Int)≤1∧(1:Int) < (T.kids.length:Int)) ?_|refine Gh ((0:Int)≤2∧(2:Int) < (T.kids.length:Int)) ?_|refine Side.mk n0 ?_|refine Split.of_true (ne_kind' hk2) ?_|refine Gd (fun hc=>?_) fun hc=>?_)<;>conv=>whnf)
     exact Gg
   ·rw[if_neg h2]at hv
    try dsimp only at hv
    subst hv
    repeat' ((first|refine Ga ?_|refine Gc fun hlen=>?_|refine Ge c0 ?_|refine Ge c1 ?_|refine Ge c2 ?_|refine Gh ((0:Int)≤0∧(0:Int) < (T.kids.length:Int)) ?_|refine Gh ((0:Int)≤1∧(1:Int) < (T.kids.length:Int)) ?_|refine Gh ((0:Int)≤2∧(2:Int) < (T.kids.length:Int)) ?_|refine Gd (fun hc=>?_) fun hc=>?_)<;>conv=>whnf)
    exact Gg
  ·rw[if_neg h1]at hv
   try dsimp only at hv
   subst hv
   repeat' ((first|refine Ga ?_|refine Gc fun hlen=>?_|refine Ge c0 ?_|refine Ge c1 ?_|refine Ge c2 ?_|refine Gh ((0:Int)≤0∧(0:Int) < (T.kids.length:Int)) ?_|refine Gh ((0:Int)≤1∧(1:Int) < (T.kids.length:Int)) ?_|refine Gh ((0:Int)≤2∧(2:Int) < (T.kids.length:Int)) ?_|refine Gd (fun hc=>?_) fun hc=>?_)<;>conv=>whnf)
   exact Gg
 ·rw[if_neg h0]at hv
  try dsimp only at hv
  subst hv
  repeat' ((first|refine Ga ?_|refine Gc fun hlen=>?_|refine Ge c0 ?_|refine Ge c1 ?_|refine Ge c2 ?_|refine Gh ((0:Int)≤0∧(0:Int) < (T.kids.length:Int)) ?_|refine Gh ((0:Int)≤1∧(1:Int) < (T.kids.length:Int)) ?_|refine Gh ((0:Int)≤2∧(2:Int) < (T.kids.length:Int)) ?_|refine Gd (fun hc=>?_) fun hc=>?_)<;>conv=>whnf)
  exact Gg
theorem op_ok (T:Tree)(hT:isTermF T=true)(hF:Full T)(hk:T.kind=145)(ih:∀U,sizeN U < sizeN T→OfP U)(K Γ:List Tree)(hK:K.length+sizeN T≤1073741824)(hΓ:Γ.length+sizeN T≤1073741824) :
  Pure P 100 [cxA K Γ,.d (.tree T)] (rA (opR T K Γ)):=by
 have hTn:=term_ne hT
 have hsz:=sizeN_kids hTn
 obtain⟨t1,t2,t3⟩:=term_xx hT (.inr (.inr (.inr hk)))
 have m0:=getD_mem (l:=T.kids) (i:=0) (by omega)
 have s0:=sizesN_mem m0
 have m1:=getD_mem (l:=T.kids) (i:=1) (by omega)
 have s1:=sizesN_mem m1
 have c0:=ih (T.kids.getD 0 .nil) (by omega) K Γ t2 (hF.kid (by omega)) (by omega) (by omega)
 have qc0:=of_con _ _ (Nat.le_refl (sizeN (T.kids.getD 0 .nil))) t2 K Γ
 have c1:=ih (T.kids.getD 1 .nil) (by omega) K Γ t3 (hF.kid (by omega)) (by omega) (by omega)
 have qc1:=of_con _ _ (Nat.le_refl (sizeN (T.kids.getD 1 .nil))) t3 K Γ
 have ci:=con_nil 111
 have cb:=con_nil 112
 refine Pure.of_body tt [] [4,5] (Tryz.func100) rfl rfl rfl lb fun g=>?_
 generalize hv:opR T K Γ=v
 unfold opR bnd at hv
 generalize ofF (T.kids.getD 0 .nil) K Γ=r0 at *
 generalize ofF (T.kids.getD 1 .nil) K Γ=r1 at *
 obtain⟨f,e0⟩:=r0
 obtain⟨a,e1⟩:=r1
 try dsimp only at c0
 try dsimp only at c1
 try dsimp only at c2
 try dsimp only at c3
 try dsimp only at cf
 try dsimp only at qc0
 try dsimp only at qc1
 try dsimp only at qc2
 try dsimp only at z1
 try dsimp only at hv
 by_cases h0:e0=0
 ·subst h0
  rw[if_pos rfl]at hv
  try dsimp only at hv
  by_cases h1:e1=0
  ·subst h1
   rw[if_pos rfl]at hv
   try dsimp only at hv
   have n0:=con_ne (qc0 rfl)
   have n1:=con_ne (qc1 rfl)
   by_cases hk2:f.kind=111
   ·by_cases hk3:a.kind=111
    ·rw[if_pos ⟨hk2,hk3⟩]at hv
     try dsimp only at hv
     by_cases hn:T.n≤3
     ·rw[if_pos hn]at hv
      try dsimp only at hv
      subst hv
      repeat' ((first|refine Ga ?_|refine Gc fun hlen=>?_|refine Ge c0 ?_|refine Ge c1 ?_|refine Gh ((0:Int)≤0∧(0:Int) < (T.kids.length:Int)) ?_|refine Gh ((0:Int)≤1∧(1:Int) < (T.kids.length:Int)) ?_|refine Ge ci ?_|refine Side.mk n0 ?_|refine Side.mk n1 ?_|refine Split.of_false (ne_kind hk2) ?_|refine Split.of_false (ne_kind hk3) ?_|refine Split.of_true (decide_eq_true hn) ?_|refine Gd (fun hc=>?_) fun hc=>?_)<;>conv=>whnf)
      exact Gg
     ·rw[if_neg hn]at hv
      try dsimp only at hv
      subst hv
      repeat' ((first|refine Ga ?_|refine Gc fun hlen=>?_|refine Ge c0 ?_|refine Ge c1 ?_|refine Gh ((0:Int)≤0∧(0:Int) < (T.kids.length:Int)) ?_|refine Gh ((0:Int)≤1∧(1:Int) < (T.kids.length:Int)) ?_|refine Ge cb ?_|refine Side.mk n0 ?_|refine Side.mk n1 ?_|refine Split.of_false (ne_kind hk2) ?_|refine Split.of_false (ne_kind hk3) ?_|refine Split.of_false (decide_eq_false hn) ?_|refine Gd (fun hc=>?_) fun hc=>?_)<;>conv=>whnf)
      exact Gg
    ·rw[if_neg fun h=>hk3 h.2]at hv
     try dsimp only at hv
     subst hv
     repeat' ((first|refine Ga ?_|refine Gc fun hlen=>?_|refine Ge c0 ?_|refine Ge c1 ?_|refine Gh ((0:Int)≤0∧(0:Int) < (T.kids.length:Int)) ?_|refine Gh ((0:Int)≤1∧(1:Int) < (T.kids.length:Int)) ?_|refine Side.mk n0 ?_|refine Side.mk n1 ?_|refine Split.of_false (ne_kind hk2) ?_|refine Split.of_true (ne_kind' hk3) ?_|refine Gd (fun hc=>?_) fun hc=>?_)<;>conv=>whnf)
     exact Gg
   ·rw[if_neg fun h=>hk2 h.1]at hv
    try dsimp only at hv
    subst hv
    repeat' ((first|refine Ga ?_|refine Gc fun hlen=>?_|refine Ge c0 ?_|refine Ge c1 ?_|refine Gh ((0:Int)≤0∧(0:Int) < (T.kids.length:Int)) ?_|refine Gh ((0:Int)≤1∧(1:Int) < (T.kids.length:Int)) ?_|refine Side.mk n0 ?_|refine Side.mk n1 ?_|refine Split.of_true (ne_kind' hk2) ?_|refine Gd (fun hc=>?_) fun hc=>?_)<;>conv=>whnf)
    exact Gg
  ·rw[if_neg h1]at hv
   try dsimp only at hv
   subst hv
   repeat' ((first|refine Ga ?_|refine Gc fun hlen=>?_|refine Ge c0 ?_|refine Ge c1 ?_|refine Gh ((0:Int)≤0∧(0:Int) < (T.kids.length:Int)) ?_|refine Gh ((0:Int)≤1∧(1:Int) < (T.kids.length:Int)) ?_|refine Gd (fun hc=>?_) fun hc=>?_)<;>conv=>whnf)
   exact Gg
 ·rw[if_neg h0]at hv
  try dsimp only at hv
  subst hv
  repeat' ((first|refine Ga ?_|refine Gc fun hlen=>?_|refine Ge c0 ?_|refine Ge c1 ?_|refine Gh ((0:Int)≤0∧(0:Int) < (T.kids.length:Int)) ?_|refine Gh ((0:Int)≤1∧(1:Int) < (T.kids.length:Int)) ?_|refine Gd (fun hc=>?_) fun hc=>?_)<;>conv=>whnf)
  exact Gg
theorem in_ok (T:Tree)(hT:isTermF T=true)(hF:Full T)(hk:T.kind=146)(ih:∀U,sizeN U < sizeN T→OfP U)(K Γ:List Tree)(hK:K.length+sizeN T≤1073741824)(hΓ:Γ.length+sizeN T≤1073741824) :
  Pure P 101 [cxA K Γ,.d (.tree T)] (rA (inR T K Γ)):=by
 have hTn:=term_ne hT
 have hsz:=sizeN_kids hTn
 obtain⟨t1,t2,t3⟩:=term_cx hT (.inr hk)
 have m0:=getD_mem (l:=T.kids) (i:=0) (by omega)
 have s0:=sizesN_mem m0
 have m1:=getD_mem (l:=T.kids) (i:=1) (by omega)
 have s1:=sizesN_mem m1
 have c0:=tst_ok K Γ (T.kids.getD 0 .nil) (by omega)
 have qc0:=tst_con (K:=K) (n:=T.kids.getD 0 .nil)
 have c1:=ih (T.kids.getD 1 .nil) (by omega) K Γ t3 (hF.kid (by omega)) (by omega) (by omega)
 have qc1:=of_con _ _ (Nat.le_refl (sizeN (T.kids.getD 1 .nil))) t3 K Γ
 refine Pure.of_body tt [] [4,5] (Tryz.func101) rfl rfl rfl lb fun g=>?_
 generalize hv:inR T K Γ=v
 unfold inR bnd at hv
 generalize tstR K (T.kids.getD 0 .nil)=r0 at *
 generalize ofF (T.kids.getD 1 .nil) K Γ=r1 at *
 obtain⟨f,e0⟩:=r0
 obtain⟨a,e1⟩:=r1
 try dsimp only at c0
 try dsimp only at c1
 try dsimp only at c2
 try dsimp only at c3
 try dsimp only at cf
 try dsimp only at qc0
 try dsimp only at qc1
 try dsimp only at qc2
 try dsimp only at z1
 try dsimp only at hv
 by_cases h0:e0=0
 ·subst h0
  rw[if_pos rfl]at hv
  try dsimp only at hv
  by_cases h1:e1=0
  ·subst h1
   rw[if_pos rfl]at hv
   try dsimp only at hv
   have qf:=qc0 rfl
   have n0:=con_ne qf
   by_cases hk2:f.kind=121
   ·rw[if_pos hk2]at hv
    try dsimp only at hv
    have c2:=tpart_ok f n0 T.name fun x hx=>by have:=Ki.field_kid (Ki.sum_fields n0 qf hk2 x hx);exact⟨this.1,by omega⟩
    cases hp:partF T.name f.kids with
    | none =>
     rw[hp]at c2 hv
     subst hv
     repeat' ((first|refine Ga ?_|refine Gc fun hlen=>?_|refine Ge c0 ?_|refine Ge c1 ?_|refine Gh ((0:Int)≤0∧(0:Int) < (T.kids.length:Int)) ?_|refine Gh ((0:Int)≤1∧(1:Int) < (T.kids.length:Int)) ?_|refine Ge c2 ?_|refine Side.mk n0 ?_|refine Split.of_false (ne_kind hk2) ?_|refine Gd (fun hc=>?_) fun hc=>?_)<;>conv=>whnf)
     exact Gg
    | some p =>
     rw[hp]at c2 hv
     have cf:=filled_ok p f
     try dsimp only at hv
     generalize fillR p f=r3 at *
     obtain⟨b,e3⟩:=r3
     try dsimp only at c0
     try dsimp only at c1
     try dsimp only at c2
     try dsimp only at c3
     try dsimp only at cf
     try dsimp only at qc0
     try dsimp only at qc1
     try dsimp only at qc2
     try dsimp only at z1
     try dsimp only at hv
     by_cases h3:e3=0
     ·subst h3
      rw[if_pos rfl]at hv
      try dsimp only at hv
      have cs2:=same_ok a b
      cases hb2:sameF a b with
      | true =>
       rw[hb2]at cs2 hv
       rw[if_pos rfl]at hv
       try dsimp only at hv
       subst hv
       repeat' ((first|refine Ga ?_|refine Gc fun hlen=>?_|refine Ge c0 ?_|refine Ge c1 ?_|refine Gh ((0:Int)≤0∧(0:Int) < (T.kids.length:Int)) ?_|refine Gh ((0:Int)≤1∧(1:Int) < (T.kids.length:Int)) ?_|refine Ge c2 ?_|refine Ge cf ?_|refine Ge cs2 ?_|refine Side.mk n0 ?_|refine Split.of_false (ne_kind hk2) ?_|refine Gd (fun hc=>?_) fun hc=>?_)<;>conv=>whnf)
       exact Gg
      | false =>
       rw[hb2]at cs2 hv
       rw[if_neg (by decide)]at hv
       try dsimp only at hv
       subst hv
       repeat' ((first|refine Ga ?_|refine Gc fun hlen=>?_|refine Ge c0 ?_|refine Ge c1 ?_|refine Gh ((0:Int)≤0∧(0:Int) < (T.kids.length:Int)) ?_|refine Gh ((0:Int)≤1∧(1:Int) < (T.kids.length:Int)) ?_|refine Ge c2 ?_|refine Ge cf ?_|refine Ge cs2 ?_|refine Side.mk n0 ?_|refine Split.of_false (ne_kind hk2) ?_|refine Gd (fun hc=>?_) fun hc=>?_)<;>conv=>whnf)
       exact Gg
     ·rw[if_neg h3]at hv
      try dsimp only at hv
      subst hv
      repeat' ((first|refine Ga ?_|refine Gc fun hlen=>?_|refine Ge c0 ?_|refine Ge c1 ?_|refine Gh ((0:Int)≤0∧(0:Int) < (T.kids.length:Int)) ?_|refine Gh ((0:Int)≤1∧(1:Int) < (T.kids.length:Int)) ?_|refine Ge c2 ?_|refine Ge cf ?_|refine Side.mk n0 ?_|refine Split.of_false (ne_kind hk2) ?_|refine Gd (fun hc=>?_) fun hc=>?_)<;>conv=>whnf)
      exact Gg
   ·rw[if_neg hk2]at hv
    try dsimp only at hv
    subst hv
    repeat' ((first|refine Ga ?_|refine Gc fun hlen=>?_|refine Ge c0 ?_|refine Ge c1 ?_|refine Gh ((0:Int)≤0∧(0:Int) < (T.kids.length:Int)) ?_|refine Gh ((0:Int)≤1∧(1:Int) < (T.kids.length:Int)) ?_|refine Side.mk n0 ?_|refine Split.of_true (ne_kind' hk2) ?_|refine Gd (fun hc=>?_) fun hc=>?_)<;>conv=>whnf)
    exact Gg
  ·rw[if_neg h1]at hv
   try dsimp only at hv
   subst hv
   repeat' ((first|refine Ga ?_|refine Gc fun hlen=>?_|refine Ge c0 ?_|refine Ge c1 ?_|refine Gh ((0:Int)≤0∧(0:Int) < (T.kids.length:Int)) ?_|refine Gh ((0:Int)≤1∧(1:Int) < (T.kids.length:Int)) ?_|refine Gd (fun hc=>?_) fun hc=>?_)<;>conv=>whnf)
   exact Gg
 ·rw[if_neg h0]at hv
  try dsimp only at hv
  subst hv
  repeat' ((first|refine Ga ?_|refine Gc fun hlen=>?_|refine Ge c0 ?_|refine Ge c1 ?_|refine Gh ((0:Int)≤0∧(0:Int) < (T.kids.length:Int)) ?_|refine Gh ((0:Int)≤1∧(1:Int) < (T.kids.length:Int)) ?_|refine Gd (fun hc=>?_) fun hc=>?_)<;>conv=>whnf)
  exact Gg
theorem con_own (k:Int):Fun P 54 [.d (.int .i64 k),.d .nils] [] 0 (.ref 0 0) [(0,.cells [.d (.int .i64 k),.d (.int .i64 0),.d (.str ByteArray.empty),.d (.str ByteArray.empty),.d .nils])] 1:=by
 refine Fun.of_body tt [] [4] Tryz.func54 rfl rfl rfl lb fun g=>?_
 repeat' ((first|refine Ga ?_|refine Gc fun hlen=>?_|refine Gd (fun hc=>?_) fun hc=>?_)<;>conv=>whnf)
 exact ret_objs rfl rfl rfl (by repeat' first|exact trivial|apply And.intro|rfl|(refine int_eq ?_;rw[wrap64]<;>omega)) (Nat.le_succ _)
def run1 (a r:List Tree×Int)(out:List Tree):List Tree×Int:=if r.2=0 then (out++r.1,0) else (a.1,r.2)
theorem run1_start (a:List Tree×Int):a=run1 a a []:=by
 unfold run1
 split
 ·rename_i h;exact Prod.ext rfl h
 ·rfl
theorem run1_end {a:List Tree×Int}{out:List Tree}(h:a=run1 a ([],0) out):a=(out,0):=by
 rw[h];simp[run1]
theorem run1_err {a:List Tree×Int}{out:List Tree}{e:Int}(h:a=run1 a ([],e) out)(he:e≠0):a.2=e:=by
 rw[h];simp[run1,he]
theorem run1_step {a r:List Tree×Int}{out:List Tree}{m:Tree}(h:a=run1 a (m::r.1,r.2) out):a=run1 a r (out++[m]):=by
 refine h.trans ?_
 unfold run1
 simp only[List.append_assoc,List.singleton_append]
theorem rec_ok (T:Tree)(hT:isTermF T=true)(hF:Full T)(hk:T.kind=136)(ih:∀U,sizeN U < sizeN T→OfP U)(K Γ:List Tree)(hK:K.length+sizeN T≤1073741824)(hΓ:Γ.length+sizeN T≤1073741824) :
  Pure P 94 [cxA K Γ,.d (.tree T)] (rA (recR T K Γ)):=by
 have hTn:=term_ne hT
 have hsz:=sizeN_kids hTn
 obtain⟨t1,t2⟩:=term_f hT hk
 have co:=con_own 115
 refine Pure.of_body tt [45,47,48] [4,5] (Tryz.func94) rfl rfl rfl lb fun g=>?_
 unfold recR
 repeat' ((first|refine Ga ?_|refine Gc fun hlen=>?_|refine CallG.go co [] ?_|refine Gd (fun hc=>?_) fun hc=>?_)<;>conv=>whnf)
 refine loop_go (α:=Nat×List Tree) (fun p=>⟨[(2,.ref 0 0),(6,.ref 1 0),(15,.d (.trees T.kids)),(16,.d (.int .i64 T.kids.length)),(17,.d (.int .i64 p.1))],54,[(0,.cells [.d (.trees K),.d (.trees Γ)]),(1,.cells [.d (.int .i64 115),.d (.int .i64 0),.d (.str ByteArray.empty),.d (.str ByteArray.empty),.row 2 p.1]),(2,.row 25 (.trees p.2))],3,g⟩)
   (fun p=>p.1≤T.kids.length∧p.2.length=p.1∧ofFlds T.kids K Γ=run1 (ofFlds T.kids K Γ) (ofFlds (T.kids.drop p.1) K Γ) p.2) (fun p=>T.kids.length - p.1) (0,[]) ⟨by simp,rfl,run1_start _⟩
   (Ent.nil rfl rfl rfl (by repeat' first|exact trivial|apply And.intro|rfl|(refine int_eq ?_;rw[wrap64]<;>omega)) (by repeat' first|exact trivial|apply And.intro|rfl|(refine int_eq ?_;rw[wrap64]<;>omega))) (fun _=>rfl) fun p hpre=>?_
 obtain⟨i,out⟩:=p
 obtain⟨hp1,hp2,hp3⟩:=hpre
 simp only[]at hp1 hp2 hp3
 by_cases hi:i < T.kids.length
 ·rw[drop_step hi,ofFlds_cons]at hp3
  have hx0:=getD_mem (l:=T.kids) hi
  obtain⟨a1,a2,a3,a4,a5⟩:=tfield_kid (t1 _ hx0)
  have s1:=sizesN_mem hx0
  have s2:=sizeN_kids a1
  have s3:=sizesN_mem (getD_mem (l:=(T.kids.getD i .nil).kids) (i:=0) (by omega))
  have c0:=ih ((T.kids.getD i .nil).kids.getD 0 .nil) (by omega) K Γ a5 ((hF.kid hi).kid (by omega)) (by omega) (by omega)
  generalize ofF ((T.kids.getD i .nil).kids.getD 0 .nil) K Γ=r at c0 hp3
  obtain⟨m,e⟩:=r
  try dsimp only at c0
  try dsimp only at hp3
  by_cases he:e=0
  ·subst he
   rw[if_pos rfl]at hp3
   repeat' ((first|refine Ga ?_|refine Gc fun hlen=>?_|refine Ge c0 ?_|refine Side.mk a1 ?_|refine Gh ((0:Int)≤(i:Int)∧(i:Int) < (T.kids.length:Int)) ?_|refine Gh ((0:Int)≤0∧(0:Int) < ((T.kids.getD i .nil).kids.length:Int)) ?_|refine Side.mk (show (i+1≤maxN∧(i+1)*8≤140737488355328) from⟨by unfold maxN;omega,by omega⟩) ?_|refine Gd (fun hc=>?_) fun hc=>?_)<;>conv=>whnf)
   exact⟨(i+1,out++[fldT (T.kids.getD i .nil).name m]),⟨by simp only[];omega,by simp[hp2],run1_step hp3⟩,by simp only[];omega,Ent.go [0,1,3]⟩
  ·rw[if_neg he]at hp3
   have e2:=run1_err hp3 he
   unfold lbnd
   rw[if_neg (by rw[e2];exact he),e2]
   repeat' ((first|refine Ga ?_|refine Gc fun hlen=>?_|refine Ge c0 ?_|refine Side.mk a1 ?_|refine Gh ((0:Int)≤(i:Int)∧(i:Int) < (T.kids.length:Int)) ?_|refine Gh ((0:Int)≤0∧(0:Int) < ((T.kids.getD i .nil).kids.length:Int)) ?_|refine Gd (fun hc=>?_) fun hc=>?_)<;>conv=>whnf)
   exact Gg
 ·rw[drop_end (by omega),ofFlds]at hp3
  rw[run1_end hp3]
  repeat' ((first|refine Ga ?_|refine Gc fun hlen=>?_|refine Gd (fun hc=>?_) fun hc=>?_)<;>conv=>whnf)
  refine RetS.ent (Ent.fz_row 2 (l:=out) rfl (by repeat' first|exact trivial|apply And.intro|rfl|exact hp2.symm|exact Nat.zero_lt_one|omega) (by repeat' first|exact trivial|apply And.intro|rfl|exact hp2.symm|exact Nat.zero_lt_one|omega)) ?_
  refine RetS.ent (Ent.fz_node 1 rfl rfl (by repeat' first|exact trivial|apply And.intro|rfl|exact hp2.symm|exact Nat.zero_lt_one|omega) (by repeat' first|exact trivial|apply And.intro|rfl|exact hp2.symm|exact Nat.zero_lt_one|omega)) ?_
  exact Gg
theorem choice_ok (T:Tree)(hT:isTermF T=true)(hF:Full T)(hk:T.kind=144)(ih:∀U,sizeN U < sizeN T→OfP U)(K Γ:List Tree)(hK:K.length+sizeN T≤1073741824)(hΓ:Γ.length+sizeN T≤1073741824) :
  Pure P 99 [cxA K Γ,.d (.tree T)] (rA (choiceR T K Γ)):=by
 have hTn:=term_ne hT
 have hsz:=sizeN_kids hTn
 obtain⟨t1,t2,t3,t4⟩:=term_xxx hT hk
 have tk:∀i,i < T.kids.length→isTermF (T.kids.getD i .nil)=true:=fun i hi=>by
  match i,hi with
  | 0,_=>exact t2
  | 1,_=>exact t3
  | 2,_=>exact t4
  | n+3,hi=>omega
 refine Pure.of_body tt [31] [4,5] (Tryz.func99) rfl rfl rfl lb fun g=>?_
 unfold choiceR
 repeat' ((first|refine Ga ?_|refine Gc fun hlen=>?_|refine Gd (fun hc=>?_) fun hc=>?_)<;>conv=>whnf)
 refine loop_go (α:=Nat×List Tree) (fun p=>⟨[(2,.ref 0 0),(6,.row 1 p.1),(14,.d (.trees T.kids)),(15,.d (.int .i64 T.kids.length)),(16,.d (.int .i64 p.1))],54,[(0,.cells [.d (.trees K),.d (.trees Γ)]),(1,.row 25 (.trees p.2))],2,g⟩)
   (fun p=>p.1≤T.kids.length∧p.2.length=p.1∧ofAll T.kids K Γ=run1 (ofAll T.kids K Γ) (ofAll (T.kids.drop p.1) K Γ) p.2) (fun p=>T.kids.length - p.1) (0,[]) ⟨by simp,rfl,run1_start _⟩
   (Ent.nil rfl rfl rfl (by repeat' first|exact trivial|apply And.intro|rfl|(refine int_eq ?_;rw[wrap64]<;>omega)) (by repeat' first|exact trivial|apply And.intro|rfl|(refine int_eq ?_;rw[wrap64]<;>omega))) (fun _=>rfl) fun p hpre=>?_
 obtain⟨i,out⟩:=p
 obtain⟨hp1,hp2,hp3⟩:=hpre
 simp only[]at hp1 hp2 hp3
 by_cases hi:i < T.kids.length
 ·rw[drop_step hi,ofAll]at hp3
  have hx0:=getD_mem (l:=T.kids) hi
  have s1:=sizesN_mem hx0
  have c0:=ih (T.kids.getD i .nil) (by omega) K Γ (tk i hi) (hF.kid hi) (by omega) (by omega)
  generalize ofF (T.kids.getD i .nil) K Γ=r at c0 hp3
  obtain⟨m,e⟩:=r
  try dsimp only at c0
  try dsimp only at hp3
  by_cases he:e=0
  ·subst he
   rw[if_pos rfl]at hp3
   repeat' ((first|refine Ga ?_|refine Gc fun hlen=>?_|refine Ge c0 ?_|refine Gh ((0:Int)≤(i:Int)∧(i:Int) < (T.kids.length:Int)) ?_|refine Side.mk (show (i+1≤maxN∧(i+1)*8≤140737488355328) from⟨by unfold maxN;omega,by omega⟩) ?_|refine Gd (fun hc=>?_) fun hc=>?_)<;>conv=>whnf)
   exact⟨(i+1,out++[m]),⟨by simp only[];omega,by simp[hp2],run1_step hp3⟩,by simp only[];omega,Ent.go [0,2]⟩
  ·rw[if_neg he]at hp3
   have e2:=run1_err hp3 he
   unfold lbnd
   rw[if_neg (by rw[e2];exact he),e2]
   repeat' ((first|refine Ga ?_|refine Gc fun hlen=>?_|refine Ge c0 ?_|refine Gh ((0:Int)≤(i:Int)∧(i:Int) < (T.kids.length:Int)) ?_|refine Gd (fun hc=>?_) fun hc=>?_)<;>conv=>whnf)
   exact Gg
 ·rw[drop_end (by omega),ofAll]at hp3
  have hp4:=run1_end hp3
  have hz:=all_zero (K:=K) (Γ:=Γ) (l:=T.kids) (by rw[hp4])
  rw[hp4]
  obtain⟨z1,z2⟩:=hz
  rw[hp4]at z2
  have z2:out=T.kids.map fun x=>(ofF x K Γ).1:=z2
  have hn:out.getD 0 .nil≠.nil:=by
   rw[z2,List.getD_eq_getElem?_getD,List.getElem?_map,List.getElem?_eq_getElem (show 0 < T.kids.length by omega)]
   have hx0:=getD_mem (l:=T.kids) (i:=0) (by omega)
   have:=of_con _ _ (Nat.le_refl _) t2 K Γ (z1 _ hx0)
   rw[List.getD_eq_getElem?_getD,List.getElem?_eq_getElem (show 0 < T.kids.length by omega)]at this
   exact con_ne this
  clear z2
  have cs:=same_ok (out.getD 1 .nil) (out.getD 2 .nil)
  have hi3:i=3:=by omega
  subst hi3
  generalize hv:(lbnd (out,0) fun ts=>if (ts.getD 0 .nil).kind=112∧sameF (ts.getD 1 .nil) (ts.getD 2 .nil)=true then (ts.getD 1 .nil,0) else (.nil,11))=v
  unfold lbnd at hv
  rw[if_pos rfl]at hv
  dsimp only at hv
  by_cases hk2:(out.getD 0 .nil).kind=112
  ·cases hb:sameF (out.getD 1 .nil) (out.getD 2 .nil) with
   | true =>
    rw[hb]at cs hv
    rw[two_and hk2 rfl]at hv
    subst hv
    repeat' ((first|refine Ga ?_|refine Gc fun hlen=>?_|refine Ge cs ?_|refine Side.mk hn ?_|refine Split.of_false (ne_kind hk2) ?_|refine Side.mk (show Int.toNat 0*1 < out.length from by rw[hp2];decide) ?_|refine Side.mk (show Int.toNat 1*1 < out.length from by rw[hp2];decide) ?_|refine Side.mk (show Int.toNat 2*1 < out.length from by rw[hp2];decide) ?_|refine Gh ((0:Int)≤0∧(0:Int) < ((3:Nat):Int)) ?_|refine Gh ((0:Int)≤1∧(1:Int) < ((3:Nat):Int)) ?_|refine Gh ((0:Int)≤2∧(2:Int) < ((3:Nat):Int)) ?_|refine Gd (fun hc=>?_) fun hc=>?_)<;>conv=>whnf)
    all_goals first|exact Gg|trace_state
   | false =>
    rw[hb]at cs hv
    rw[two_or' rfl]at hv
    subst hv
    repeat' ((first|refine Ga ?_|refine Gc fun hlen=>?_|refine Ge cs ?_|refine Side.mk hn ?_|refine Split.of_false (ne_kind hk2) ?_|refine Side.mk (show Int.toNat 0*1 < out.length from by rw[hp2];decide) ?_|refine Side.mk (show Int.toNat 1*1 < out.length from by rw[hp2];decide) ?_|refine Side.mk (show Int.toNat 2*1 < out.length from by rw[hp2];decide) ?_|refine Gh ((0:Int)≤0∧(0:Int) < ((3:Nat):Int)) ?_|refine Gh ((0:Int)≤1∧(1:Int) < ((3:Nat):Int)) ?_|refine Gh ((0:Int)≤2∧(2:Int) < ((3:Nat):Int)) ?_|refine Gd (fun hc=>?_) fun hc=>?_)<;>conv=>whnf)
    all_goals first|exact Gg|trace_state
  ·rw[two_or hk2]at hv
   subst hv
   repeat' ((first|refine Ga ?_|refine Gc fun hlen=>?_|refine Side.mk hn ?_|refine Split.of_true (ne_kind' hk2) ?_|refine Side.mk (show Int.toNat 0*1 < out.length from by rw[hp2];decide) ?_|refine Side.mk (show Int.toNat 1*1 < out.length from by rw[hp2];decide) ?_|refine Side.mk (show Int.toNat 2*1 < out.length from by rw[hp2];decide) ?_|refine Gh ((0:Int)≤0∧(0:Int) < ((3:Nat):Int)) ?_|refine Gd (fun hc=>?_) fun hc=>?_)<;>conv=>whnf)
   all_goals first|exact Gg|trace_state
def nrmL (r:List Tree×Int):List Tree×Int:=if r.2=0 then r else ([],r.2)
theorem lbnd_nrm (r:List Tree×Int)(f:List Tree→Tree×Int):lbnd r f=lbnd (nrmL r) f:=by
 unfold lbnd nrmL
 by_cases h:r.2=0
 ·rw[if_pos h,if_pos h,if_pos h]
 ·rw[if_neg h,if_neg h,if_neg h]
theorem nrm_zero {r:List Tree×Int}(h:(nrmL r).2=0):r.2=0∧nrmL r=r:=by
 unfold nrmL at *
 by_cases h0:r.2=0
 ·rw[if_pos h0];exact⟨h0,rfl⟩
 ·rw[if_neg h0]at h;exact absurd h h0
theorem arms_ok (S self:Tree)(l K Γ:List Tree)(hS:S≠.nil)(hs:∀x∈S.kids,x≠.nil∧0 < x.kids.length)(hl:∀x∈l,x≠.nil∧0 < x.kids.length)
  (hΓ:Γ.length≤1073741824) (ho:∀x∈l,∀a,Pure P 32 [cxA K (a::Γ),.d (.tree (x.kids.getD 0 .nil))] (rA (ofF (x.kids.getD 0 .nil) K (a::Γ)))) :
  Pure P 136 [cxA K Γ,.d (.tree S),.d (.tree self),.d (.trees l)] (lA (nrmL (armR K Γ S.kids self l))):=by
 have ce:=armNames_ok S.kids l (fun x hx=>(hs x hx).1) (fun x hx=>(hl x hx).1)
 rw[nameE_iff]at ce
 refine Pure.of_body tt [68] [8,9] (Tryz.func136) rfl rfl rfl lb fun g=>?_
 unfold armR
 by_cases hn:S.kids.map Tree.name=l.map Tree.name
 ·rw[if_pos hn]
  rw[decide_eq_true hn]at ce
  have hln:S.kids.length=l.length:=by have:=congrArg List.length hn;simpa using this
  repeat' ((first|refine Ga ?_|refine Gc fun hlen=>?_|refine Ge ce ?_|refine Gd (fun hc=>?_) fun hc=>?_)<;>conv=>whnf)
  refine loop_go (α:=Nat×List Tree) (fun p=>⟨[(1,.d (.tree S)),(2,.d (.tree self)),(4,.ref 0 0),(10,.row 1 p.1),(23,.d (.trees l)),(24,.d (.int .i64 l.length)),(25,.d (.int .i64 p.1))],72,[(0,.cells [.d (.trees K),.d (.trees Γ)]),(1,.row 25 (.trees p.2))],2,g⟩)
   (fun p=>p.1≤l.length∧p.2.length=p.1∧armsF l S.kids self K Γ=run1 (armsF l S.kids self K Γ) (armsF (l.drop p.1) (S.kids.drop p.1) self K Γ) p.2) (fun p=>l.length - p.1) (0,[]) ⟨by simp,rfl,run1_start _⟩
   (Ent.nil rfl rfl rfl (by repeat' first|exact trivial|apply And.intro|rfl|(refine int_eq ?_;rw[wrap64]<;>omega)) (by repeat' first|exact trivial|apply And.intro|rfl|(refine int_eq ?_;rw[wrap64]<;>omega))) (fun _=>rfl) fun p hpre=>?_
  obtain⟨i,out⟩:=p
  obtain⟨hp1,hp2,hp3⟩:=hpre
  simp only[]at hp1 hp2 hp3
  by_cases hi:i < l.length
  ·have e1:(S.kids.drop i).getD 0 .nil=S.kids.getD i .nil:=by rw[List.getD_eq_getElem?_getD,List.getD_eq_getElem?_getD,List.getElem?_drop,Nat.add_zero]
   have e2:(S.kids.drop i).drop 1=S.kids.drop (i+1):=by rw[List.drop_drop]
   rw[drop_step hi,armsF,e1,e2]at hp3
   have hx0:=getD_mem (l:=l) hi
   have hx1:=getD_mem (l:=S.kids) (i:=i) (by omega)
   obtain⟨a1,a2⟩:=hl _ hx0
   obtain⟨a3,a4⟩:=hs _ hx1
   have cf:=filled_ok ((S.kids.getD i .nil).kids.getD 0 .nil) self
   generalize fillR ((S.kids.getD i .nil).kids.getD 0 .nil) self=r0 at cf hp3
   obtain⟨a,e0⟩:=r0
   try dsimp only at cf
   try dsimp only at hp3
   by_cases h0:e0=0
   ·subst h0
    rw[if_pos rfl]at hp3
    have ct:=typ_ok K Γ a (by omega)
    have c0:=ho _ hx0 a
    generalize ofF ((l.getD i .nil).kids.getD 0 .nil) K (a::Γ)=r1 at c0 hp3
    obtain⟨m,e⟩:=r1
    try dsimp only at c0
    try dsimp only at hp3
    by_cases he:e=0
    ·subst he
     rw[if_pos rfl]at hp3
     repeat' ((first|refine Ga ?_|refine Gc fun hlen=>?_|refine Ge cf ?_|refine Ge ct ?_|refine Ge c0 ?_|refine Side.mk a1 ?_|refine Side.mk a3 ?_|refine Gh ((0:Int)≤(i:Int)∧(i:Int) < (l.length:Int)) ?_|refine Gh ((0:Int)≤(i:Int)∧(i:Int) < (S.kids.length:Int)) ?_|refine Gh ((0:Int)≤0∧(0:Int) < ((l.getD i .nil).kids.length:Int)) ?_|refine Gh ((0:Int)≤0∧(0:Int) < ((S.kids.getD i .nil).kids.length:Int)) ?_|refine Side.mk (show (i+1≤maxN∧(i+1)*8≤140737488355328) from⟨by unfold maxN;omega,by omega⟩) ?_|refine Gd (fun hc=>?_) fun hc=>?_)<;>conv=>whnf)
     exact⟨(i+1,out++[m]),⟨by simp only[];omega,by simp[hp2],run1_step hp3⟩,by simp only[];omega,Ent.go [0,2]⟩
    ·rw[if_neg he]at hp3
     have e3:=run1_err hp3 he
     have e4:nrmL (armsF l S.kids self K Γ)=([],e):=by unfold nrmL;rw[if_neg (by rw[e3];exact he),e3]
     rw[e4]
     repeat' ((first|refine Ga ?_|refine Gc fun hlen=>?_|refine Ge cf ?_|refine Ge ct ?_|refine Ge c0 ?_|refine Side.mk a1 ?_|refine Side.mk a3 ?_|refine Gh ((0:Int)≤(i:Int)∧(i:Int) < (l.length:Int)) ?_|refine Gh ((0:Int)≤(i:Int)∧(i:Int) < (S.kids.length:Int)) ?_|refine Gh ((0:Int)≤0∧(0:Int) < ((l.getD i .nil).kids.length:Int)) ?_|refine Gh ((0:Int)≤0∧(0:Int) < ((S.kids.getD i .nil).kids.length:Int)) ?_|refine Gd (fun hc=>?_) fun hc=>?_)<;>conv=>whnf)
     refine RetS.ent (σ':=⟨[(8,.row 2 0),(9,.d (.int .i64 e))],72,[(2,.row 25 (.trees []))],3,g⟩) (Ent.nil rfl rfl rfl (by repeat' first|exact trivial|apply And.intro|rfl|(refine int_eq ?_;rw[wrap64]<;>omega)) (by repeat' first|exact trivial|apply And.intro|rfl|(refine int_eq ?_;rw[wrap64]<;>omega))) ?_
     refine RetS.ent (Ent.fz_row 2 (l:=[]) rfl (by repeat' first|exact trivial|apply And.intro|rfl|exact hp2.symm|exact Nat.zero_lt_one|omega) (by repeat' first|exact trivial|apply And.intro|rfl|exact hp2.symm|exact Nat.zero_lt_one|omega)) ?_
     exact Gg
   ·rw[if_neg h0]at hp3
    have e3:=run1_err hp3 h0
    have e4:nrmL (armsF l S.kids self K Γ)=([],e0):=by unfold nrmL;rw[if_neg (by rw[e3];exact h0),e3]
    rw[e4]
    repeat' ((first|refine Ga ?_|refine Gc fun hlen=>?_|refine Ge cf ?_|refine Side.mk a1 ?_|refine Side.mk a3 ?_|refine Gh ((0:Int)≤(i:Int)∧(i:Int) < (l.length:Int)) ?_|refine Gh ((0:Int)≤(i:Int)∧(i:Int) < (S.kids.length:Int)) ?_|refine Gh ((0:Int)≤0∧(0:Int) < ((l.getD i .nil).kids.length:Int)) ?_|refine Gh ((0:Int)≤0∧(0:Int) < ((S.kids.getD i .nil).kids.length:Int)) ?_|refine Gd (fun hc=>?_) fun hc=>?_)<;>conv=>whnf)
    refine RetS.ent (σ':=⟨[(8,.row 2 0),(9,.d (.int .i64 e0))],72,[(2,.row 25 (.trees []))],3,g⟩) (Ent.nil rfl rfl rfl (by repeat' first|exact trivial|apply And.intro|rfl|(refine int_eq ?_;rw[wrap64]<;>omega)) (by repeat' first|exact trivial|apply And.intro|rfl|(refine int_eq ?_;rw[wrap64]<;>omega))) ?_
    refine RetS.ent (Ent.fz_row 2 (l:=[]) rfl (by repeat' first|exact trivial|apply And.intro|rfl|exact hp2.symm|exact Nat.zero_lt_one|omega) (by repeat' first|exact trivial|apply And.intro|rfl|exact hp2.symm|exact Nat.zero_lt_one|omega)) ?_
    exact Gg
  ·rw[drop_end (l:=l) (by omega),armsF]at hp3
   have e4:nrmL (armsF l S.kids self K Γ)=(out,0):=by rw[run1_end hp3];rfl
   rw[e4]
   repeat' ((first|refine Ga ?_|refine Gc fun hlen=>?_|refine Gd (fun hc=>?_) fun hc=>?_)<;>conv=>whnf)
   refine RetS.ent (Ent.fz_row 1 (l:=out) rfl (by repeat' first|exact trivial|apply And.intro|rfl|exact hp2.symm|exact Nat.zero_lt_one|omega) (by repeat' first|exact trivial|apply And.intro|rfl|exact hp2.symm|exact Nat.zero_lt_one|omega)) ?_
   exact Gg
 ·rw[if_neg hn]
  rw[decide_eq_false hn]at ce
  repeat' ((first|refine Ga ?_|refine Gc fun hlen=>?_|refine Ge ce ?_|refine Gd (fun hc=>?_) fun hc=>?_)<;>conv=>whnf)
  refine RetS.ent (σ':=⟨[(8,.row 1 0),(9,.d (.int .i64 14))],72,[(1,.row 25 (.trees []))],2,g⟩) (Ent.nil rfl rfl rfl (by repeat' first|exact trivial|apply And.intro|rfl|(refine int_eq ?_;rw[wrap64]<;>omega)) (by repeat' first|exact trivial|apply And.intro|rfl|(refine int_eq ?_;rw[wrap64]<;>omega))) ?_
  refine RetS.ent (Ent.fz_row 1 (l:=[]) rfl (by repeat' first|exact trivial|apply And.intro|rfl|exact hp2.symm|exact Nat.zero_lt_one|omega) (by repeat' first|exact trivial|apply And.intro|rfl|exact hp2.symm|exact Nat.zero_lt_one|omega)) ?_
  exact Gg
theorem unpack_ok (T:Tree)(hT:isTermF T=true)(hF:Full T)(hk:T.kind=142)(ih:∀U,sizeN U < sizeN T→OfP U)(K Γ:List Tree)(hK:K.length+sizeN T≤1073741824)(hΓ:Γ.length+sizeN T≤1073741824) :
  Pure P 98 [cxA K Γ,.d (.tree T)] (rA (unpackR T K Γ)):=by
 have hTn:=term_ne hT
 have hsz:=sizeN_kids hTn
 obtain⟨t1,t2,t3⟩:=term_xx hT (.inr (.inl hk))
 have m0:=getD_mem (l:=T.kids) (i:=0) (by omega)
 have s0:=sizesN_mem m0
 have m1:=getD_mem (l:=T.kids) (i:=1) (by omega)
 have s1:=sizesN_mem m1
 have c0:=ih (T.kids.getD 0 .nil) (by omega) K Γ t2 (hF.kid (by omega)) (by omega) (by omega)
 have qc0:=of_con _ _ (Nat.le_refl (sizeN (T.kids.getD 0 .nil))) t2 K Γ
 have n0:(ofF (T.kids.getD 0 .nil) K Γ).2=0→(ofF (T.kids.getD 0 .nil) K Γ).1≠.nil:=fun h=>con_ne (qc0 h)
 have c1:=as_ok K Γ (T.kids.getD 0 .nil) 118 _ c0 n0
 have z1:(asR (ofF (T.kids.getD 0 .nil) K Γ) 118).2=0→(asR (ofF (T.kids.getD 0 .nil) K Γ) 118).1.kind=118∧isConF (asR (ofF (T.kids.getD 0 .nil) K Γ) 118).1=true:=fun h=>by
  obtain⟨a1,a2,a3⟩:=as_zero h
  rw[a3];exact⟨a2,qc0 a1⟩
 refine Pure.of_body tt [] [4,5] (Tryz.func98) rfl rfl rfl lb fun g=>?_
 generalize hv:unpackR T K Γ=v
 unfold unpackR bnd lbnd at hv
 generalize asR (ofF (T.kids.getD 0 .nil) K Γ) 118=r0 at *
 obtain⟨f,e0⟩:=r0
 try dsimp only at c0
 try dsimp only at c1
 try dsimp only at c2
 try dsimp only at c3
 try dsimp only at cf
 try dsimp only at qc0
 try dsimp only at qc1
 try dsimp only at qc2
 try dsimp only at z1
 try dsimp only at hv
 by_cases h0:e0=0
 ·subst h0
  rw[if_pos rfl]at hv
  try dsimp only at hv
  obtain⟨z2,z3⟩:=z1 rfl
  have nt:=con_ne z3
  obtain⟨l1,l2,l3⟩:=Ki.con_bind nt z3 (.inr (.inl z2))
  have ck:=kcx_ok K Γ (f.kids.getD 0 .nil) (by omega) (by omega)
  have hz:=shs_zero (l:=Γ)
  unfold kcx at ck
  generalize shsR Γ=r1 at *
  obtain⟨Δ,e1⟩:=r1
  try dsimp only at c0
  try dsimp only at c1
  try dsimp only at c2
  try dsimp only at c3
  try dsimp only at cf
  try dsimp only at qc0
  try dsimp only at qc1
  try dsimp only at qc2
  try dsimp only at z1
  try dsimp only at hv
  try dsimp only at ck
  try dsimp only at hz
  by_cases h1:e1=0
  ·subst h1
   rw[if_pos rfl]at ck
   rw[if_pos rfl]at hv
   try dsimp only at hv
   have hd:Δ.length=Γ.length:=by rw[(hz rfl).2,List.length_map]
   have ct:=typ_ok (f.kids.getD 0 .nil::K) Δ (f.kids.getD 1 .nil) (by omega)
   have c2:=ih (T.kids.getD 1 .nil) (by omega) (f.kids.getD 0 .nil::K) (f.kids.getD 1 .nil::Δ) t3 (hF.kid (by omega)) (by rw[List.length_cons];omega) (by rw[List.length_cons];omega)
   generalize ofF (T.kids.getD 1 .nil) (f.kids.getD 0 .nil::K) (f.kids.getD 1 .nil::Δ)=r2 at *
   obtain⟨b,e2⟩:=r2
   try dsimp only at c0
   try dsimp only at c1
   try dsimp only at c2
   try dsimp only at c3
   try dsimp only at cf
   try dsimp only at qc0
   try dsimp only at qc1
   try dsimp only at qc2
   try dsimp only at z1
   try dsimp only at hv
   by_cases h2:e2=0
   ·subst h2
    rw[if_pos rfl]at hv
    try dsimp only at hv
    have cq:=occurs_ok b 0
    have csh:=shift_ok b (-1) 0
    cases hb:occursR b 0 with
    | true =>
     rw[hb]at cq hv
     rw[if_pos rfl]at hv
     try dsimp only at hv
     subst hv
     repeat' ((first|refine Ga ?_|refine Gc fun hlen=>?_|refine Ge c1 ?_|refine Gh ((0:Int)≤0∧(0:Int) < (T.kids.length:Int)) ?_|refine Gh ((0:Int)≤1∧(1:Int) < (T.kids.length:Int)) ?_|refine Ge ck ?_|refine Ge ct ?_|refine Ge c2 ?_|refine Ge cq ?_|refine Side.mk nt ?_|refine Gh ((0:Int)≤0∧(0:Int) < (f.kids.length:Int)) ?_|refine Gh ((0:Int)≤1∧(1:Int) < (f.kids.length:Int)) ?_|refine Gd (fun hc=>?_) fun hc=>?_)<;>conv=>whnf)
     exact Gg
    | false =>
     rw[hb]at cq hv
     rw[if_neg (by decide)]at hv
     try dsimp only at hv
     subst hv
     repeat' ((first|refine Ga ?_|refine Gc fun hlen=>?_|refine Ge c1 ?_|refine Gh ((0:Int)≤0∧(0:Int) < (T.kids.length:Int)) ?_|refine Gh ((0:Int)≤1∧(1:Int) < (T.kids.length:Int)) ?_|refine Ge ck ?_|refine Ge ct ?_|refine Ge c2 ?_|refine Ge cq ?_|refine Ge csh ?_|refine Side.mk nt ?_|refine Gh ((0:Int)≤0∧(0:Int) < (f.kids.length:Int)) ?_|refine Gh ((0:Int)≤1∧(1:Int) < (f.kids.length:Int)) ?_|refine Gd (fun hc=>?_) fun hc=>?_)<;>conv=>whnf)
     exact Gg
   ·rw[if_neg h2]at hv
    try dsimp only at hv
    subst hv
    repeat' ((first|refine Ga ?_|refine Gc fun hlen=>?_|refine Ge c1 ?_|refine Gh ((0:Int)≤0∧(0:Int) < (T.kids.length:Int)) ?_|refine Gh ((0:Int)≤1∧(1:Int) < (T.kids.length:Int)) ?_|refine Ge ck ?_|refine Ge ct ?_|refine Ge c2 ?_|refine Side.mk nt ?_|refine Gh ((0:Int)≤0∧(0:Int) < (f.kids.length:Int)) ?_|refine Gh ((0:Int)≤1∧(1:Int) < (f.kids.length:Int)) ?_|refine Gd (fun hc=>?_) fun hc=>?_)<;>conv=>whnf)
    exact Gg
  ·rw[if_neg h1]at ck
   rw[if_neg h1]at hv
   try dsimp only at hv
   subst hv
   repeat' ((first|refine Ga ?_|refine Gc fun hlen=>?_|refine Ge c1 ?_|refine Gh ((0:Int)≤0∧(0:Int) < (T.kids.length:Int)) ?_|refine Gh ((0:Int)≤1∧(1:Int) < (T.kids.length:Int)) ?_|refine Ge ck ?_|refine Side.mk nt ?_|refine Gh ((0:Int)≤0∧(0:Int) < (f.kids.length:Int)) ?_|refine Gh ((0:Int)≤1∧(1:Int) < (f.kids.length:Int)) ?_|refine Gd (fun hc=>?_) fun hc=>?_)<;>conv=>whnf)
   exact Gg
 ·rw[if_neg h0]at hv
  try dsimp only at hv
  subst hv
  repeat' ((first|refine Ga ?_|refine Gc fun hlen=>?_|refine Ge c1 ?_|refine Gh ((0:Int)≤0∧(0:Int) < (T.kids.length:Int)) ?_|refine Gh ((0:Int)≤1∧(1:Int) < (T.kids.length:Int)) ?_|refine Gd (fun hc=>?_) fun hc=>?_)<;>conv=>whnf)
  exact Gg
theorem cases_ok (T:Tree)(hT:isTermF T=true)(hF:Full T)(hk:T.kind=147)(ih:∀U,sizeN U < sizeN T→OfP U)(K Γ:List Tree)(hK:K.length+sizeN T≤1073741824)(hΓ:Γ.length+sizeN T≤1073741824) :
  Pure P 102 [cxA K Γ,.d (.tree T)] (rA (caseR T K Γ)):=by
 have hTn:=term_ne hT
 have hsz:=sizeN_kids hTn
 obtain⟨t1,t2,t3⟩:=term_xa hT hk
 have m0:=getD_mem (l:=T.kids) (i:=0) (by omega)
 have s0:=sizesN_mem m0
 have c0:=ih (T.kids.getD 0 .nil) (by omega) K Γ t2 (hF.kid (by omega)) (by omega) (by omega)
 have qc0:=of_con _ _ (Nat.le_refl (sizeN (T.kids.getD 0 .nil))) t2 K Γ
 have n0:(ofF (T.kids.getD 0 .nil) K Γ).2=0→(ofF (T.kids.getD 0 .nil) K Γ).1≠.nil:=fun h=>con_ne (qc0 h)
 have c1:=as_ok K Γ (T.kids.getD 0 .nil) 121 _ c0 n0
 have z1:(asR (ofF (T.kids.getD 0 .nil) K Γ) 121).2=0→(asR (ofF (T.kids.getD 0 .nil) K Γ) 121).1.kind=121∧isConF (asR (ofF (T.kids.getD 0 .nil) K Γ) 121).1=true:=fun h=>by
  obtain⟨a1,a2,a3⟩:=as_zero h
  rw[a3];exact⟨a2,qc0 a1⟩
 have hl:∀x∈T.kids.drop 1,x≠.nil∧0 < x.kids.length:=fun x hx=>by
  obtain⟨b1,b2,b3,b4,b5⟩:=tfield_kid (t3 x hx)
  exact⟨b1,by omega⟩
 have ho:∀x∈T.kids.drop 1,∀a,Pure P 32 [cxA K (a::Γ),.d (.tree (x.kids.getD 0 .nil))] (rA (ofF (x.kids.getD 0 .nil) K (a::Γ))):=fun x hx a=>by
  obtain⟨b1,b2,b3,b4,b5⟩:=tfield_kid (t3 x hx)
  have hx1:=List.mem_of_mem_drop hx
  have s2:=sizesN_mem hx1
  have s3:=sizeN_kids b1
  have s4:=sizesN_mem (getD_mem (l:=x.kids) (i:=0) (by omega))
  exact ih _ (by omega) K (a::Γ) b5 ((hF.kids x hx1).kid (by omega)) (by omega) (by rw[List.length_cons];omega)
 have hdl:(T.kids.drop 1).length+1=T.kids.length:=by rw[List.length_drop];omega
 refine Pure.of_body tt [] [4,5] (Tryz.func102) rfl rfl rfl lb fun g=>?_
 generalize hv:caseR T K Γ=v
 unfold caseR bnd lbnd at hv
 generalize asR (ofF (T.kids.getD 0 .nil) K Γ) 121=r0 at *
 obtain⟨f,e0⟩:=r0
 try dsimp only at c0
 try dsimp only at c1
 try dsimp only at c2
 try dsimp only at c3
 try dsimp only at cf
 try dsimp only at qc0
 try dsimp only at qc1
 try dsimp only at qc2
 try dsimp only at z1
 try dsimp only at hv
 by_cases h0:e0=0
 ·subst h0
  rw[if_pos rfl]at hv
  try dsimp only at hv
  obtain⟨z2,z3⟩:=z1 rfl
  have nt:=con_ne z3
  have hs:∀x∈f.kids,x≠.nil∧0 < x.kids.length:=fun x hx=>by have:=Ki.field_kid (Ki.sum_fields nt z3 z2 x hx);exact⟨this.1,by omega⟩
  have ca:=arms_ok f f (T.kids.drop 1) K Γ nt hs hl (by omega) ho
  have hzr:(nrmL (armR K Γ f.kids f (T.kids.drop 1))).2=0→(nrmL (armR K Γ f.kids f (T.kids.drop 1))).1.length=(T.kids.drop 1).length:=fun h=>by
   obtain⟨y1,y2⟩:=nrm_zero h
   rw[y2]
   unfold armR at y1 ⊢
   split at y1
   ·rename_i hq;rw[if_pos hq];exact (arms_zero y1).1
   ·simp at y1
  have hvn:lbnd (armR K Γ f.kids f (T.kids.drop 1)) (fun ts=>alikeR ts (ts.getD 0 .nil))=v:=hv
  rw[lbnd_nrm]at hvn
  clear hv
  generalize nrmL (armR K Γ f.kids f (T.kids.drop 1))=r1 at *
  obtain⟨ts,e1⟩:=r1
  try dsimp only at c0
  try dsimp only at c1
  try dsimp only at c2
  try dsimp only at c3
  try dsimp only at cf
  try dsimp only at qc0
  try dsimp only at qc1
  try dsimp only at qc2
  try dsimp only at z1
  try dsimp only at hv
  try dsimp only at ca
  try dsimp only at hzr
  unfold lbnd at hvn
  by_cases h1:e1=0
  ·subst h1
   rw[if_pos rfl]at hvn
   dsimp only at hvn
   have hts:=hzr rfl
   have cl:=alike_ok ts (ts.getD 0 .nil)
   subst hvn
   repeat' ((first|refine Ga ?_|refine Gc fun hlen=>?_|refine Ge c1 ?_|refine Gh ((0:Int)≤0∧(0:Int) < (T.kids.length:Int)) ?_|refine Gh ((0:Int)≤1∧(1:Int) < (T.kids.length:Int)) ?_|refine Gh ((0:Int)≤1∧(1:Int)≤(T.kids.length:Int)) ?_|refine Ge ca ?_|refine Ge cl ?_|refine Gh ((0:Int)≤0∧(0:Int) < (ts.length:Int)) ?_|refine Gd (fun hc=>?_) fun hc=>?_)<;>conv=>whnf)
   exact Gg
  ·rw[if_neg h1]at hvn
   subst hvn
   repeat' ((first|refine Ga ?_|refine Gc fun hlen=>?_|refine Ge c1 ?_|refine Gh ((0:Int)≤0∧(0:Int) < (T.kids.length:Int)) ?_|refine Gh ((0:Int)≤1∧(1:Int) < (T.kids.length:Int)) ?_|refine Gh ((0:Int)≤1∧(1:Int)≤(T.kids.length:Int)) ?_|refine Ge ca ?_|refine Gd (fun hc=>?_) fun hc=>?_)<;>conv=>whnf)
   exact Gg
 ·rw[if_neg h0]at hv
  try dsimp only at hv
  subst hv
  repeat' ((first|refine Ga ?_|refine Gc fun hlen=>?_|refine Ge c1 ?_|refine Gh ((0:Int)≤0∧(0:Int) < (T.kids.length:Int)) ?_|refine Gh ((0:Int)≤1∧(1:Int) < (T.kids.length:Int)) ?_|refine Gh ((0:Int)≤1∧(1:Int)≤(T.kids.length:Int)) ?_|refine Gd (fun hc=>?_) fun hc=>?_)<;>conv=>whnf)
  exact Gg
theorem fold_ok (T:Tree)(hT:isTermF T=true)(hF:Full T)(hk:T.kind=148)(ih:∀U,sizeN U < sizeN T→OfP U)(K Γ:List Tree)(hK:K.length+sizeN T≤1073741824)(hΓ:Γ.length+sizeN T≤1073741824) :
  Pure P 103 [cxA K Γ,.d (.tree T)] (rA (foldR T K Γ)):=by
 have hTn:=term_ne hT
 have hsz:=sizeN_kids hTn
 obtain⟨t1,t2,t2c,t3⟩:=term_xca hT hk
 have m0:=getD_mem (l:=T.kids) (i:=0) (by omega)
 have s0:=sizesN_mem m0
 have c0:=ih (T.kids.getD 0 .nil) (by omega) K Γ t2 (hF.kid (by omega)) (by omega) (by omega)
 have qc0:=of_con _ _ (Nat.le_refl (sizeN (T.kids.getD 0 .nil))) t2 K Γ
 have cst:=tst_ok K Γ (T.kids.getD 1 .nil) (by omega)
 have n0:(ofF (T.kids.getD 0 .nil) K Γ).2=0→(ofF (T.kids.getD 0 .nil) K Γ).1≠.nil:=fun h=>con_ne (qc0 h)
 have c1:=as_ok K Γ (T.kids.getD 0 .nil) 121 _ c0 n0
 have z1:(asR (ofF (T.kids.getD 0 .nil) K Γ) 121).2=0→(asR (ofF (T.kids.getD 0 .nil) K Γ) 121).1.kind=121∧isConF (asR (ofF (T.kids.getD 0 .nil) K Γ) 121).1=true:=fun h=>by
  obtain⟨a1,a2,a3⟩:=as_zero h
  rw[a3];exact⟨a2,qc0 a1⟩
 have hl:∀x∈T.kids.drop 2,x≠.nil∧0 < x.kids.length:=fun x hx=>by
  obtain⟨b1,b2,b3,b4,b5⟩:=tfield_kid (t3 x hx)
  exact⟨b1,by omega⟩
 have ho:∀x∈T.kids.drop 2,∀a,Pure P 32 [cxA K (a::Γ),.d (.tree (x.kids.getD 0 .nil))] (rA (ofF (x.kids.getD 0 .nil) K (a::Γ))):=fun x hx a=>by
  obtain⟨b1,b2,b3,b4,b5⟩:=tfield_kid (t3 x hx)
  have hx1:=List.mem_of_mem_drop hx
  have s2:=sizesN_mem hx1
  have s3:=sizeN_kids b1
  have s4:=sizesN_mem (getD_mem (l:=x.kids) (i:=0) (by omega))
  exact ih _ (by omega) K (a::Γ) b5 ((hF.kids x hx1).kid (by omega)) (by omega) (by rw[List.length_cons];omega)
 have hdl:(T.kids.drop 2).length+2=T.kids.length:=by rw[List.length_drop];omega
 refine Pure.of_body tt [] [4,5] (Tryz.func103) rfl rfl rfl lb fun g=>?_
 generalize hv:foldR T K Γ=v
 unfold foldR bnd lbnd at hv
 generalize asR (ofF (T.kids.getD 0 .nil) K Γ) 121=r0 at *
 obtain⟨f,e0⟩:=r0
 try dsimp only at c0
 try dsimp only at c1
 try dsimp only at c2
 try dsimp only at c3
 try dsimp only at cf
 try dsimp only at qc0
 try dsimp only at qc1
 try dsimp only at qc2
 try dsimp only at z1
 try dsimp only at hv
 by_cases h0:e0=0
 ·subst h0
  rw[if_pos rfl]at hv
  try dsimp only at hv
  obtain⟨z2,z3⟩:=z1 rfl
  have nt:=con_ne z3
  have hs:∀x∈f.kids,x≠.nil∧0 < x.kids.length:=fun x hx=>by have:=Ki.field_kid (Ki.sum_fields nt z3 z2 x hx);exact⟨this.1,by omega⟩
  generalize tstR K (T.kids.getD 1 .nil)=r3 at *
  obtain⟨t,e3⟩:=r3
  try dsimp only at c0
  try dsimp only at c1
  try dsimp only at c2
  try dsimp only at c3
  try dsimp only at cf
  try dsimp only at qc0
  try dsimp only at qc1
  try dsimp only at qc2
  try dsimp only at z1
  try dsimp only at hv
  try dsimp only at cst
  by_cases h3:e3=0
  ·subst h3
   rw[if_pos rfl]at hv
   try dsimp only at hv
   have ca:=arms_ok f t (T.kids.drop 2) K Γ nt hs hl (by omega) ho
   have hvn:lbnd (armR K Γ f.kids t (T.kids.drop 2)) (fun ts=>alikeR ts t)=v:=hv
   rw[lbnd_nrm]at hvn
   clear hv
   generalize nrmL (armR K Γ f.kids t (T.kids.drop 2))=r1 at *
   obtain⟨ts,e1⟩:=r1
   try dsimp only at c0
   try dsimp only at c1
   try dsimp only at c2
   try dsimp only at c3
   try dsimp only at cf
   try dsimp only at qc0
   try dsimp only at qc1
   try dsimp only at qc2
   try dsimp only at z1
   try dsimp only at hv
   try dsimp only at ca
   unfold lbnd at hvn
   by_cases h1:e1=0
   ·subst h1
    rw[if_pos rfl]at hvn
    dsimp only at hvn
    have cl:=alike_ok ts t
    subst hvn
    repeat' ((first|refine Ga ?_|refine Gc fun hlen=>?_|refine Ge c1 ?_|refine Gh ((0:Int)≤0∧(0:Int) < (T.kids.length:Int)) ?_|refine Gh ((0:Int)≤1∧(1:Int) < (T.kids.length:Int)) ?_|refine Gh ((0:Int)≤2∧(2:Int)≤(T.kids.length:Int)) ?_|refine Ge cst ?_|refine Ge ca ?_|refine Ge cl ?_|refine Gd (fun hc=>?_) fun hc=>?_)<;>conv=>whnf)
    exact Gg
   ·rw[if_neg h1]at hvn
    subst hvn
    repeat' ((first|refine Ga ?_|refine Gc fun hlen=>?_|refine Ge c1 ?_|refine Gh ((0:Int)≤0∧(0:Int) < (T.kids.length:Int)) ?_|refine Gh ((0:Int)≤1∧(1:Int) < (T.kids.length:Int)) ?_|refine Gh ((0:Int)≤2∧(2:Int)≤(T.kids.length:Int)) ?_|refine Ge cst ?_|refine Ge ca ?_|refine Gd (fun hc=>?_) fun hc=>?_)<;>conv=>whnf)
    exact Gg
  ·rw[if_neg h3]at hv
   try dsimp only at hv
   subst hv
   repeat' ((first|refine Ga ?_|refine Gc fun hlen=>?_|refine Ge c1 ?_|refine Gh ((0:Int)≤0∧(0:Int) < (T.kids.length:Int)) ?_|refine Gh ((0:Int)≤1∧(1:Int) < (T.kids.length:Int)) ?_|refine Gh ((0:Int)≤2∧(2:Int)≤(T.kids.length:Int)) ?_|refine Ge cst ?_|refine Gd (fun hc=>?_) fun hc=>?_)<;>conv=>whnf)
   exact Gg
 ·rw[if_neg h0]at hv
  try dsimp only at hv
  subst hv
  repeat' ((first|refine Ga ?_|refine Gc fun hlen=>?_|refine Ge c1 ?_|refine Gh ((0:Int)≤0∧(0:Int) < (T.kids.length:Int)) ?_|refine Gh ((0:Int)≤1∧(1:Int) < (T.kids.length:Int)) ?_|refine Gh ((0:Int)≤2∧(2:Int)≤(T.kids.length:Int)) ?_|refine Gd (fun hc=>?_) fun hc=>?_)<;>conv=>whnf)
  exact Gg
theorem bne_dec (a b:Int):(a != b)=decide (a≠b):=by
 by_cases h:a=b
 ·subst h;simp
 ·rw[decide_eq_true h];simpa using h
theorem term_kinds {T:Tree}(h:isTermF T=true):T.kind=130∨T.kind=131∨T.kind=132∨T.kind=133∨T.kind=134∨T.kind=146∨T.kind=139∨T.kind=135∨T.kind=142∨T.kind=143∨T.kind=145∨T.kind=136∨T.kind=138∨T.kind=140∨T.kind=141∨T.kind=144∨T.kind=147∨T.kind=148:=by
 rw[isTermF_eq (term_ne h),Bool.and_eq_true]at h
 obtain⟨hh,h⟩:=h
 apply Decidable.byContradiction
 intro hn
 rw[ifn,ifn,ifn,ifn,ifn,ifn,ifn,ifn,ifn,ifn,ifn]at h
 cases h
theorem term_num {T:Tree}(h:isTermF T=true)(hk:T.kind=130):0≤T.n∧T.n≤65536:=by
 rw[isTermF_eq (term_ne h),Bool.and_eq_true]at h
 have hh:=h.1
 unfold headF at hh
 simp only[Bool.and_eq_true]at hh
 have:=hh.2
 unfold numT at this
 rw[if_pos hk]at this
 simpa using this
theorem of_ok:∀(n:Nat) (T:Tree),sizeN T≤n→OfP T:=by
 intro n
 induction n with
 | zero=>intro T hz K Γ hT;have:=sizeN_kids (term_ne hT);omega
 | succ n ihn=>?_
 intro T hz K Γ hT hF hK hΓ
 have ih:∀U,sizeN U < sizeN T→OfP U:=fun U h=>ihn U (by omega)
 have hTn:=term_ne hT
 have hsz:=sizeN_kids hTn
 refine Pure.of_body tt [82] [4,5] (Tryz.func32) rfl rfl rfl lb fun g=>?_
 generalize hv:ofF T K Γ=v
 rw[ofF_eq T K Γ hTn]at hv
 by_cases k130:T.kind=130
 ·rw[if_pos k130]at hv
  have hn:=(term_num hT) k130
  unfold varR at hv
  have cn:=No.Normal_ok (Γ.getD T.n.toNat .nil)
  by_cases hl:(Γ.length:Int)≤T.n
  ·rw[if_pos hl]at hv
   subst hv
   repeat' ((first|refine Ga ?_|refine Gc fun hlen=>?_|refine Gd (fun hc=>?_) fun hc=>?_)<;>conv=>whnf)
   all_goals first|exact Gg|(exfalso;omega)
  ·rw[if_neg hl]at hv
   subst hv
   repeat' ((first|refine Ga ?_|refine Gc fun hlen=>?_|refine Ge cn ?_|refine Gh ((0:Int)≤T.n∧T.n < (Γ.length:Int)) ?_|refine Gd (fun hc=>?_) fun hc=>?_)<;>conv=>whnf)
   all_goals first|exact Gg|(exfalso;omega)
 rw[if_neg k130]at hv
 by_cases k131:T.kind=131
 ·rw[if_pos k131]at hv
  have cn:=con_nil 111
  subst hv
  repeat' ((first|refine Ga ?_|refine Gc fun hlen=>?_|refine Ge cn ?_|refine Gd (fun hc=>?_) fun hc=>?_)<;>conv=>whnf)
  exact Gg
 rw[if_neg k131]at hv
 by_cases k132:T.kind=132
 ·rw[if_pos k132]at hv
  have cn:=con_nil 112
  subst hv
  repeat' ((first|refine Ga ?_|refine Gc fun hlen=>?_|refine Ge cn ?_|refine Gd (fun hc=>?_) fun hc=>?_)<;>conv=>whnf)
  exact Gg
 rw[if_neg k132]at hv
 by_cases k133:T.kind=133
 ·rw[if_pos k133]at hv
  have cn:=con_nil 113
  subst hv
  repeat' ((first|refine Ga ?_|refine Gc fun hlen=>?_|refine Ge cn ?_|refine Gd (fun hc=>?_) fun hc=>?_)<;>conv=>whnf)
  exact Gg
 rw[if_neg k133]at hv
 by_cases k139:T.kind=139
 ·rw[if_pos k139]at hv
  obtain⟨t1,t2,t3⟩:=term_kx hT k139
  have s1:=sizesN_mem (getD_mem (l:=T.kids) (i:=1) (by omega))
  unfold tlamR lbnd bnd at hv
  have ck:=kcx_ok K Γ (T.kids.getD 0 .nil) (by omega) (by omega)
  have hz2:=shs_zero (l:=Γ)
  unfold kcx at ck
  generalize shsR Γ=r1 at *
  obtain⟨Δ,e1⟩:=r1
  try dsimp only at ck
  try dsimp only at hz2
  try dsimp only at hv
  by_cases h1:e1=0
  ·subst h1
   rw[if_pos rfl]at ck
   rw[if_pos rfl]at hv
   have hd:Δ.length=Γ.length:=by rw[(hz2 rfl).2,List.length_map]
   have c2:=ih (T.kids.getD 1 .nil) (by omega) (T.kids.getD 0 .nil::K) Δ t3 (hF.kid (by omega)) (by rw[List.length_cons];omega) (by omega)
   generalize ofF (T.kids.getD 1 .nil) (T.kids.getD 0 .nil::K) Δ=r2 at *
   obtain⟨b,e2⟩:=r2
   try dsimp only at c2
   try dsimp only at hv
   by_cases h2:e2=0
   ·subst h2
    rw[if_pos rfl]at hv
    have c3:=con_ok 117 [T.kids.getD 0 .nil,b]
    subst hv
    repeat' ((first|refine Ga ?_|refine Gc fun hlen=>?_|refine Ge ck ?_|refine Ge c2 ?_|refine Ge c3 ?_|refine Gh ((0:Int)≤0∧(0:Int) < (T.kids.length:Int)) ?_|refine Gh ((0:Int)≤1∧(1:Int) < (T.kids.length:Int)) ?_|refine Gd (fun hc=>?_) fun hc=>?_)<;>conv=>whnf)
    exact Gg
   ·rw[if_neg h2]at hv
    subst hv
    repeat' ((first|refine Ga ?_|refine Gc fun hlen=>?_|refine Ge ck ?_|refine Ge c2 ?_|refine Gh ((0:Int)≤0∧(0:Int) < (T.kids.length:Int)) ?_|refine Gh ((0:Int)≤1∧(1:Int) < (T.kids.length:Int)) ?_|refine Gd (fun hc=>?_) fun hc=>?_)<;>conv=>whnf)
    exact Gg
  ·rw[if_neg h1]at ck
   rw[if_neg h1]at hv
   subst hv
   repeat' ((first|refine Ga ?_|refine Gc fun hlen=>?_|refine Ge ck ?_|refine Gh ((0:Int)≤0∧(0:Int) < (T.kids.length:Int)) ?_|refine Gh ((0:Int)≤1∧(1:Int) < (T.kids.length:Int)) ?_|refine Gd (fun hc=>?_) fun hc=>?_)<;>conv=>whnf)
   exact Gg
 rw[if_neg k139]at hv
 by_cases k143:T.kind=143
 ·rw[if_pos k143]at hv
  obtain⟨t1,t2,t3⟩:=term_xx hT (.inr (.inr (.inl k143)))
  have s0:=sizesN_mem (getD_mem (l:=T.kids) (i:=0) (by omega))
  have s1:=sizesN_mem (getD_mem (l:=T.kids) (i:=1) (by omega))
  have c0:=ih (T.kids.getD 0 .nil) (by omega) K Γ t2 (hF.kid (by omega)) (by omega) (by omega)
  unfold letR bnd at hv
  generalize ofF (T.kids.getD 0 .nil) K Γ=r0 at *
  obtain⟨t,e0⟩:=r0
  try dsimp only at c0
  try dsimp only at hv
  by_cases h0:e0=0
  ·subst h0
   rw[if_pos rfl]at hv
   have ct:=typ_ok K Γ t (by omega)
   have c1:=ih (T.kids.getD 1 .nil) (by omega) K (t::Γ) t3 (hF.kid (by omega)) (by omega) (by rw[List.length_cons];omega)
   subst hv
   repeat' ((first|refine Ga ?_|refine Gc fun hlen=>?_|refine Ge c0 ?_|refine Ge ct ?_|refine Ge c1 ?_|refine Gh ((0:Int)≤0∧(0:Int) < (T.kids.length:Int)) ?_|refine Gh ((0:Int)≤1∧(1:Int) < (T.kids.length:Int)) ?_|refine Gd (fun hc=>?_) fun hc=>?_)<;>conv=>whnf)
   exact Gg
  ·rw[if_neg h0]at hv
   subst hv
   repeat' ((first|refine Ga ?_|refine Gc fun hlen=>?_|refine Ge c0 ?_|refine Gh ((0:Int)≤0∧(0:Int) < (T.kids.length:Int)) ?_|refine Gh ((0:Int)≤1∧(1:Int) < (T.kids.length:Int)) ?_|refine Gd (fun hc=>?_) fun hc=>?_)<;>conv=>whnf)
   exact Gg
 rw[if_neg k143]at hv
 unfold ruleR at hv
 by_cases k134:T.kind=134
 ·rw[if_pos k134]at hv
  have cr:=rule_lam T hTn k134
  have c0:=lam_ok T hT hF k134 ih K Γ hK hΓ
  subst hv
  repeat' ((first|refine Ga ?_|refine Gc fun hlen=>?_|refine Ge cr ?_|refine Ge c0 ?_|refine Gd (fun hc=>?_) fun hc=>?_)<;>conv=>whnf)
  exact Gg
 rw[if_neg k134]at hv
 by_cases k135:T.kind=135
 ·rw[if_pos k135]at hv
  have cr:=rule_app T hTn k135
  have c0:=app_ok T hT hF k135 ih K Γ hK hΓ
  subst hv
  repeat' ((first|refine Ga ?_|refine Gc fun hlen=>?_|refine Ge cr ?_|refine Ge c0 ?_|refine Gd (fun hc=>?_) fun hc=>?_)<;>conv=>whnf)
  exact Gg
 rw[if_neg k135]at hv
 by_cases k136:T.kind=136
 ·rw[if_pos k136]at hv
  have cr:=rule_rec T hTn k136
  have c0:=rec_ok T hT hF k136 ih K Γ hK hΓ
  subst hv
  repeat' ((first|refine Ga ?_|refine Gc fun hlen=>?_|refine Ge cr ?_|refine Ge c0 ?_|refine Gd (fun hc=>?_) fun hc=>?_)<;>conv=>whnf)
  exact Gg
 rw[if_neg k136]at hv
 by_cases k138:T.kind=138
 ·rw[if_pos k138]at hv
  have cr:=rule_proj T hTn k138
  have c0:=proj_ok T hT hF k138 ih K Γ hK hΓ
  subst hv
  repeat' ((first|refine Ga ?_|refine Gc fun hlen=>?_|refine Ge cr ?_|refine Ge c0 ?_|refine Gd (fun hc=>?_) fun hc=>?_)<;>conv=>whnf)
  exact Gg
 rw[if_neg k138]at hv
 by_cases k140:T.kind=140
 ·rw[if_pos k140]at hv
  have cr:=rule_tapp T hTn k140
  have c0:=tapp_ok T hT hF k140 ih K Γ hK hΓ
  subst hv
  repeat' ((first|refine Ga ?_|refine Gc fun hlen=>?_|refine Ge cr ?_|refine Ge c0 ?_|refine Gd (fun hc=>?_) fun hc=>?_)<;>conv=>whnf)
  exact Gg
 rw[if_neg k140]at hv
 by_cases k141:T.kind=141
 ·rw[if_pos k141]at hv
  have cr:=rule_pack T hTn k141
  have c0:=pack_ok T hT hF k141 ih K Γ hK hΓ
  subst hv
  repeat' ((first|refine Ga ?_|refine Gc fun hlen=>?_|refine Ge cr ?_|refine Ge c0 ?_|refine Gd (fun hc=>?_) fun hc=>?_)<;>conv=>whnf)
  exact Gg
 rw[if_neg k141]at hv
 by_cases k142:T.kind=142
 ·rw[if_pos k142]at hv
  have cr:=rule_unpack T hTn k142
  have c0:=unpack_ok T hT hF k142 ih K Γ hK hΓ
  subst hv
  repeat' ((first|refine Ga ?_|refine Gc fun hlen=>?_|refine Ge cr ?_|refine Ge c0 ?_|refine Gd (fun hc=>?_) fun hc=>?_)<;>conv=>whnf)
  exact Gg
 rw[if_neg k142]at hv
 by_cases k144:T.kind=144
 ·rw[if_pos k144]at hv
  have cr:=rule_choice T hTn k144
  have c0:=choice_ok T hT hF k144 ih K Γ hK hΓ
  subst hv
  repeat' ((first|refine Ga ?_|refine Gc fun hlen=>?_|refine Ge cr ?_|refine Ge c0 ?_|refine Gd (fun hc=>?_) fun hc=>?_)<;>conv=>whnf)
  exact Gg
 rw[if_neg k144]at hv
 by_cases k145:T.kind=145
 ·rw[if_pos k145]at hv
  have cr:=rule_op T hTn k145
  have c0:=op_ok T hT hF k145 ih K Γ hK hΓ
  subst hv
  repeat' ((first|refine Ga ?_|refine Gc fun hlen=>?_|refine Ge cr ?_|refine Ge c0 ?_|refine Gd (fun hc=>?_) fun hc=>?_)<;>conv=>whnf)
  exact Gg
 rw[if_neg k145]at hv
 by_cases k146:T.kind=146
 ·rw[if_pos k146]at hv
  have cr:=rule_in T hTn k146
  have c0:=in_ok T hT hF k146 ih K Γ hK hΓ
  subst hv
  repeat' ((first|refine Ga ?_|refine Gc fun hlen=>?_|refine Ge cr ?_|refine Ge c0 ?_|refine Gd (fun hc=>?_) fun hc=>?_)<;>conv=>whnf)
  exact Gg
 rw[if_neg k146]at hv
 by_cases k147:T.kind=147
 ·rw[if_pos k147]at hv
  have cr:=rule_cases T hTn k147
  have c0:=cases_ok T hT hF k147 ih K Γ hK hΓ
  subst hv
  repeat' ((first|refine Ga ?_|refine Gc fun hlen=>?_|refine Ge cr ?_|refine Ge c0 ?_|refine Gd (fun hc=>?_) fun hc=>?_)<;>conv=>whnf)
  exact Gg
 rw[if_neg k147]at hv
 have k148:T.kind=148:=by
  have:=term_kinds hT
  omega
 have cr:=rule_fold T hTn k134 k135 k136 k138 k140 k141 k142 k144 k145 k146 k147
 have c0:=fold_ok T hT hF k148 ih K Γ hK hΓ
 subst hv
 repeat' ((first|refine Ga ?_|refine Gc fun hlen=>?_|refine Ge cr ?_|refine Ge c0 ?_|refine Gd (fun hc=>?_) fun hc=>?_)<;>conv=>whnf)
 exact Gg
def looseB (K:List Tree)(t:Tree):Bool:=decide (Ki.starE K t≠0)
def typeR (K Γ:List Tree)(T:Tree):Tree×Int:=if termE T≠0 then (.nil,termE T) else if (K.any fun k=>decide (kindE k≠0))=true∨(Γ.any (looseB K))=true then (.nil,2) else ofF T K Γ
theorem bad_ok (k:Tree):Pure P 27 [.d (.tree k)] (.d (.bool (decide (kindE k≠0)))):=by
 have h:=kind_ok k
 refine Pure.of_body tt [] [2] (Tryz.func27) rfl rfl rfl lb fun g=>?_
 repeat' ((first|refine Ga ?_|refine Gc fun hlen=>?_|refine Ge h ?_|refine Gd (fun hc=>?_) fun hc=>?_)<;>conv=>whnf)
 exact Gf rfl (bool_eq (by rw[bne_dec])) rfl
theorem loose_ok (K:List Tree)(hl:K.length≤137438953472)(t:Tree):Fun P 29 [.d (.tree t),.ref 0 0] [(0,.cells [.d (.trees K)])] 1 (.d (.bool (looseB K t))) [(0,.cells [.d (.trees K)])] 1:=by
 have h:=Ki.Star_ok K t hl
 refine Fun.of_body tt [] [3] (Tryz.func29) rfl rfl rfl lb fun g=>?_
 repeat' ((first|refine Ga ?_|refine Gc fun hlen=>?_|refine Ge h ?_|refine Gd (fun hc=>?_) fun hc=>?_)<;>conv=>whnf)
 exact ret_objs rfl rfl (bool_eq (by unfold looseB;rw[bne_dec])) (by repeat' first|exact trivial|apply And.intro|rfl|(refine int_eq ?_;rw[wrap64]<;>omega)) (Nat.le_refl _)
theorem Type_ok (K Γ:List Tree)(T:Tree)(hK:K.length≤1048576)(hΓ:Γ.length≤1048576):Pure P 14 [.d (.trees K),.d (.trees Γ),.d (.tree T)] (rA (typeR K Γ T)):=by
 have c0:=tCheck_ok T
 have c1:=Ki.contains_ok K 27 (fun k=>decide (kindE k≠0)) fun x _=>bad_ok x
 have c2:=containsC_ok Γ 29 (.trees K) (looseB K) fun x _=>loose_ok K (by omega) x
 refine Pure.of_body tt [] [6,7] Tryz.func14 rfl rfl rfl lb fun g=>?_
 unfold typeR
 by_cases h0:termE T=0
 ·rw[ifn]
  obtain⟨h1,h2,h3⟩:=termE_ok h0
  have c3:=of_ok _ T (Nat.le_refl _) K Γ h1 h3 (by omega) (by omega)
  rw[h0]at c0
  cases hb:K.any fun k=>decide (kindE k≠0) with
  | true =>
   rw[hb]at c1
   rw[if_pos (.inl rfl)]
   repeat' ((first|refine Ga ?_|refine Gc fun hlen=>?_|refine Ge c0 ?_|refine Ge c1 ?_|refine CallG.go c2 [0] ?_|refine Gd (fun hc=>?_) fun hc=>?_)<;>conv=>whnf)
   exact Gg
  | false =>
   rw[hb]at c1
   cases hb2:Γ.any (looseB K) with
   | true =>
    rw[hb2]at c2
    rw[if_pos (.inr rfl)]
    repeat' ((first|refine Ga ?_|refine Gc fun hlen=>?_|refine Ge c0 ?_|refine Ge c1 ?_|refine CallG.go c2 [0] ?_|refine Gd (fun hc=>?_) fun hc=>?_)<;>conv=>whnf)
    exact Gg
   | false =>
    rw[hb2]at c2
    rw[if_neg (by rintro (h|h)<;>cases h)]
    repeat' ((first|refine Ga ?_|refine Gc fun hlen=>?_|refine Ge c0 ?_|refine Ge c1 ?_|refine CallG.go c2 [0] ?_|refine Ge c3 ?_|refine Gd (fun hc=>?_) fun hc=>?_)<;>conv=>whnf)
    exact Gg
 ·rw[if_pos h0]
  repeat' ((first|refine Ga ?_|refine Gc fun hlen=>?_|refine Ge c0 ?_|refine Gd (fun hc=>?_) fun hc=>?_)<;>conv=>whnf)
  exact Gg
end Ty
end Go.Proofs.YtlgajkoplklkiaaGreat
namespace Go.Proofs.YtlgajkoplklkiaaGreat
namespace Sn
open Go Go.Mq Cn Tm Sb St Ty Mc
theorem ty_of {T A:Tree}(h:typeR [] [] T=(A,0)):termE T=0∧ofF T [] []=(A,0):=by
 unfold typeR at h
 by_cases e1:termE T=0
 ·rw[ifn,if_neg (by rintro (h|h)<;>cases h)]at h
  exact⟨e1,h⟩
 ·rw[if_pos e1]at h;exact absurd (Prod.mk.inj h).2 e1
theorem of_ty {T:Tree}(h:termE T=0):typeR [] [] T=ofF T [] []:=by
 unfold typeR
 rw[ifn,if_neg (by rintro (h|h)<;>cases h)]
theorem ty_cd {T A:Tree}(h:typeR [] [] T=(A,0)):Cd T∧Hk [] [] T (toC A):=by
 obtain⟨h1,h2⟩:=ty_of h
 obtain⟨t1,t2,t3⟩:=termE_ok h1
 have hk:=((of_hk T).1 t1 t2 [] [] A h2).2
 obtain⟨z1,z2⟩:=hk_z hk t1
 exact⟨⟨t1,t2,z1,z2⟩,hk⟩
theorem sound_one {T A:Tree}(h:typeR [] [] T=(A,0)) :
  (∃m f,stepR T=(m,false,f)∧(f=3∨f=18∨f=19))∨(stepR T=(T,false,0)∧tvalueR T=true∧T≠.nil) ∨
  ∃m,stepR T=(m,true,0)∧tvalueR T=false∧m≠.nil∧(typeR [] [] m=(A,0)∨∃B g,typeR [] [] m=(B,g)∧(g=3∨g=18)):=by
 obtain⟨hC,hk⟩:=ty_cd h
 obtain⟨h1,h2⟩:=ty_of h
 have hc:=closed_of h1 hC.free1 hC.free2
 unfold stepR
 rw[ifn,if_neg (by rw[hc];simp)]
 cases hv:valueF T with
 | true =>
  right;left
  rw[if_pos rfl]
  exact⟨rfl,by unfold tvalueR;rw[hv,decide_eq_true h1];rfl,term_ne hC.term⟩
 | false =>
  rw[if_neg (by simp)]
  have hf:=(step_fails T).1 _ hC hv hk
  by_cases q:(stF T).2≠0
  ·rw[if_pos q]
   exact .inl ⟨_,_,rfl,by unfold Ef at hf;omega⟩
  rw[if_neg q]
  have q:(stF T).2=0:=Decidable.byContradiction q
  have hst:stF T=((stF T).1,0):=Prod.ext rfl q
  have hmt:=(step_term T).1 _ hC hv hst
  by_cases q2:termE (stF T).1≠0
  ·rw[if_pos q2]
   exact .inl ⟨_,_,rfl,by have:=termE_err hmt;omega⟩
  rw[if_neg q2]
  have q2:termE (stF T).1=0:=Decidable.byContradiction q2
  right;right
  refine⟨_,rfl,by unfold tvalueR;rw[hv,Bool.and_false],term_ne hmt,?_⟩
  have hkm:=(step_keep T).1 _ _ hC hv hst hk
  obtain⟨m1,m2,_⟩:=termE_ok q2
  have rA:=hk_of hk hC.term hC.size (by have:=hC.size;simp;omega) [] .nil
  have rM:=hk_of hkm m1 m2 (by simp;omega) [] .nil
  rw[of_ty q2]
  rw[h2]at rA
  obtain⟨gA,_⟩:=rA.2 rfl
  by_cases e:(ofF (stF T).1 [] []).2=0
  ·obtain⟨gM,eM⟩:=rM.2 e
   exact .inl (Prod.ext (gd_eq gM gA eM) e)
  ·exact .inr ⟨_,_,rfl,by have:=rM.1;unfold Er at this;omega⟩
end Sn
namespace Ty
open Go Go.Mq Tm Sb St
theorem _root_.Go.Mq.Pure.nils22 {P:Program}{f:FuncId}{x r:AVal}(h:Mq.Pure P f [.d (.trees []),.d (.trees []),x] r):Mq.Pure P f [.d .nils,.d .nils,x] r:=by
 refine⟨h.1,fun g E I ρ w vs hr ha=>h.2 g E I ρ w vs hr ?_⟩
 obtain⟨vs⟩:=vs
 match vs,ha with
 | [v0,v1,v2],ha =>
  obtain⟨h0,h1,h2,h3⟩:=ha
  have e0:=h0.nils
  have e1:=h1.nils
  subst e0 e1
  exact⟨.d (.trees (.inl ⟨rfl,rfl⟩)),.d (.trees (.inl ⟨rfl,rfl⟩)),h2,h3⟩
theorem closed_ty (T:Tree):Pure P 6 [.d (.tree T)] (rA (typeR [] [] T)):=by
 have h:=(Type_ok [] [] T (by simp) (by simp)).nils22
 refine Pure.of_body tt [] [2,3] Tryz.func6 rfl rfl rfl lb fun g=>?_
 unfold rA at h ⊢
 generalize typeR [] [] T=R at h ⊢
 repeat' ((first|refine Ga ?_|refine Gc fun hlen=>?_|refine Ge h ?_|refine Gd (fun hc=>?_) fun hc=>?_)<;>conv=>whnf)
 exact Gg
theorem stepSound_ok (l:List Cel):Pure P 3 [.agg [.d (cellsD l)]] (.d (.bool true)):=by
 have hfw:=few3_ok l
 generalize fewF3 l=T at hfw
 have ht:=closed_ty T
 unfold rA at ht
 refine Pure.of_body tt [] [2] Tryz.func3 rfl rfl rfl lb fun g=>?_
 cases hR:typeR [] [] T with
 | mk A e =>
 rw[hR]at ht
 by_cases h0:e=0
 ·subst h0
  repeat' ((first|refine Ga ?_|refine Gc fun hlen=>?_|refine Ge hfw ?_|refine Ge ht ?_|refine Ge works16_ok ?_|refine Gd (fun hc=>?_) fun hc=>?_)<;>conv=>whnf)
  refine loop_go (α:=Nat×Tree) (fun s=>⟨[(3,.d (.tree s.2)),(4,.d (.tree A)),(21,.d (.int .i64 s.1))],93,[],0,g⟩)
   (fun s=>s.1≤60∧typeR [] [] s.2=(A,0)) (fun s=>60 - s.1) (0,T) ⟨Nat.zero_le _,hR⟩
   (Ent.go []) (fun _=>rfl) fun s hpre=>?_
  obtain⟨p,X⟩:=s
  obtain⟨hp,hX⟩:=hpre
  by_cases hlt:p < 60
  ·have hs:=Step_ok X
   rcases Sn.sound_one hX with⟨m,f,e1,e2⟩|⟨e1,e2,e3⟩|⟨m,e1,e2,e3,e4⟩
   ·rw[e1]at hs
    rcases e2 with rfl|rfl|rfl
    ·repeat' ((first|refine Ga ?_|refine Gc fun hlen=>?_|refine Ge hs ?_|refine Ge works16_ok ?_|refine Gd (fun hc=>?_) fun hc=>?_)<;>conv=>whnf)
     all_goals exact Gg
    ·repeat' ((first|refine Ga ?_|refine Gc fun hlen=>?_|refine Ge hs ?_|refine Ge works16_ok ?_|refine Gd (fun hc=>?_) fun hc=>?_)<;>conv=>whnf)
     all_goals exact Gg
    ·repeat' ((first|refine Ga ?_|refine Gc fun hlen=>?_|refine Ge hs ?_|refine Ge works16_ok ?_|refine Gd (fun hc=>?_) fun hc=>?_)<;>conv=>whnf)
     all_goals exact Gg
   ·rw[e1]at hs
    have hv:=tValue_ok X
    rw[e2]at hv
    repeat' ((first|refine Ga ?_|refine Gc fun hlen=>?_|refine Ge hs ?_|refine Ge works16_ok ?_|refine Ge hv ?_|refine Ge (sbSame_self _) ?_|refine Gd (fun hc=>?_) fun hc=>?_)<;>conv=>whnf)
    all_goals exact Gg
   ·rw[e1]at hs
    have hv:=tValue_ok X
    rw[e2]at hv
    have hm1:=closed_ty m
    unfold rA at hm1
    rcases e4 with e4|⟨B,g',e4,rfl|rfl⟩
    ·rw[e4]at hm1
     repeat' ((first|refine Ga ?_|refine Gc fun hlen=>?_|refine Ge hs ?_|refine Ge works16_ok ?_|refine Ge hv ?_|refine Ge (sbSame_self _) ?_|refine Ge hm1 ?_|refine Gd (fun hc=>?_) fun hc=>?_)<;>conv=>whnf)
     exact⟨(p+1,m),⟨show p+1≤60 by omega,e4⟩,(show 60 - (p+1) < 60 - p by omega),Ent.go []⟩
    ·rw[e4]at hm1
     repeat' ((first|refine Ga ?_|refine Gc fun hlen=>?_|refine Ge hs ?_|refine Ge works16_ok ?_|refine Ge hv ?_|refine Ge (sbSame_self _) ?_|refine Ge hm1 ?_|refine Gd (fun hc=>?_) fun hc=>?_)<;>conv=>whnf)
     all_goals exact Gg
    ·rw[e4]at hm1
     repeat' ((first|refine Ga ?_|refine Gc fun hlen=>?_|refine Ge hs ?_|refine Ge works16_ok ?_|refine Ge hv ?_|refine Ge (sbSame_self _) ?_|refine Ge hm1 ?_|refine Gd (fun hc=>?_) fun hc=>?_)<;>conv=>whnf)
     all_goals exact Gg
  ·obtain rfl:p=60:=by omega
   repeat' ((first|refine Ga ?_|refine Gc fun hlen=>?_|refine Ge works16_ok ?_|refine Gd (fun hc=>?_) fun hc=>?_)<;>conv=>whnf)
   all_goals exact Gg
 ·repeat' ((first|refine Ga ?_|refine Gc fun hlen=>?_|refine Ge hfw ?_|refine Ge ht ?_|refine Ge works16_ok ?_|refine Split.of_true (show (e != 0)=true from by simpa using h0) ?_|refine Gd (fun hc=>?_) fun hc=>?_)<;>conv=>whnf)
  all_goals exact Gg
end Ty
end Go.Proofs.YtlgajkoplklkiaaGreat
namespace Go.Proofs.YtlgajkoplklkiaaGreat
open Go Go.Mq Go.ChangeShapes Go.WideShapes Go.Deep Go.RowKit Go.ChangeAt
theorem imm_cell {W:World}{b o:Nat}{v:Value}(h:W.cell? ⟨b,o,none⟩=some v):(immOf W).cell b o=some v:=by
 unfold World.cell? at h
 split at h
 ·rename_i c T fz hb
  unfold Imm.cell immOf
  rw[hb]
  simpa using h
 ·cases h
theorem imm_cell' {W:World}{a:Addr}{k:Nat}{v:Value}(hs:a.spot=none)(h:W.cell? (a.add k)=some v):(immOf W).cell a.block (a.off+k)=some v:=by
 obtain⟨b,o,s⟩:=a
 simp only at hs
 subst hs
 rw[add_addr]at h
 exact imm_cell h
theorem add_spot (a:Addr)(h:(a.add 0).spot=none):a.spot=none:=by
 simpa [Addr.add] using h
section
variable {H : Type} {enc : TypeId × Value → H} {P : Program} {w : World} {base : Nat} {spare : Nat → Bool} {held : Bool}
theorem open_slice_fields {t e:TypeId}{fs:Array Field}{fuel:Nat}{cs:List Value}{x:DataW H×List MemPlace}(ht:P.underlying t=some (.slice e))(he:P.underlying e=some (.struct fs))
  (hone:oneCellFields P fs=true) (hC:P.cellsOf e=fs.size) (h:DataW.trod enc P w base spare held fuel t cs=some x) :
  (cs=[.slice none 0 0]∧x=(.nil,[])) ∨
  ∃(a:Addr) (len cap m:Nat) (D:Nat→DataW H) (Pl:Nat→List MemPlace),cs=[.slice (some a) len cap]∧base≤a.block∧len≤cap∧cap≤maxLen∧m=(if spare a.block then cap else len) ∧
   x=(.slice ((List.range len).map D) ((List.range (m - len)).map fun j=>D (len+j)),MemPlace.row a (m*fs.size)++(List.range m).flatMap Pl) ∧
   ∀i,i < m→∃(ys:List (DataW H×List MemPlace)) (n:Nat),D i=.agg (ys.map (·.1))∧Pl i=ys.flatMap (·.2)∧ys.length=fs.size ∧
    ∀(j:Nat) (f:Field),fs[j]?=some f→∃(v:Value) (y:DataW H×List MemPlace),w.cell? (a.add (i*fs.size+j))=some v∧ys[j]?=some y∧DataW.trod enc P w base spare held n f.type [v]=some y:=by
 rcases open_slice ht h with h0|⟨a,len,cap,m,n,D,Pl,hcs,hb,hl,hm,hmm,hx,hi⟩
 ·exact .inl h0
 ·refine .inr ⟨a,len,cap,m,D,Pl,hcs,hb,hl,hm,hmm,by rw[hC]at hx;exact hx,fun i him=>?_⟩
  obtain⟨cs',hc,ht'⟩:=hi i him
  rw[hC]at hc
  obtain⟨ys,n',hn',hy,hlen,hyl,hf⟩:=DataW.trod_struct he ht'
  obtain⟨_,hcl,hat⟩:=World.cells?_some hc
  simp only[Prod.mk.injEq]at hy
  refine⟨ys,n',hy.1,hy.2,hyl,fun j f hj=>?_⟩
  obtain⟨ho,hk⟩:=hone_of hone j f hj
  have hjl:j < fs.size:=(Array.getElem?_eq_some_iff.1 hj).1
  have hcell:=hat j hjl
  have hv:cs'[j]?=some (cs'[j]'(by omega)):=List.getElem?_eq_getElem (by omega)
  have h1:=hf j f hj
  rw[ho,hk]at h1
  have hone':(cs'.drop j).take 1=[cs'[j]'(by omega)]:=by
   rw[List.drop_eq_getElem_cons (by omega)]
   rfl
  rw[hone']at h1
  have hys:ys[j]?=some (ys[j]'(by omega)):=List.getElem?_eq_getElem (by omega)
  refine⟨_,_,?_,hys,h1.trans hys⟩
  rw[←Go.Deep.add_add,hcell,hv]
end
theorem mem_weightsAll {H:Type}{Q:Program}{e:TypeId}:∀{l:List (DataW H)} {d:DataW H} {n:Nat},d∈l→n∈d.weights Q e→n∈DataW.weightsAll Q e l
 | [],_,_,h,_=>by cases h
 | x::l,d,n,h,hn=>by
  simp only[DataW.weightsAll,List.mem_append]
  rcases List.mem_cons.1 h with rfl|h
  ·exact .inl hn
  ·exact .inr (mem_weightsAll h hn)
theorem cells3:P.cellsOf 3=1:=by kernel_rfl
theorem open_cel {H:Type}{enc:TypeId×Value→H}{W:World}{n4 n0 n1 n2 n3:Nat}{v0 v1 v2 v3 v4:Value}{y0 y1 y2 y3 y4:DataW H×List MemPlace}
  (h0:DataW.trod enc P W 0 (fun _=>true) true n0 3 [v0]=some y0) (h1:DataW.trod enc P W 0 (fun _=>true) true n1 3 [v1]=some y1)
  (h2:DataW.trod enc P W 0 (fun _=>true) true n2 9 [v2]=some y2) (h3:DataW.trod enc P W 0 (fun _=>true) true n3 9 [v3]=some y3)
  (h4:DataW.trod enc P W 0 (fun _=>true) true n4 40 [v4]=some y4) (hz:∀n∈y4.1.weights P 40,n≤reachBytes) :
  ∃c:Cel,Cd (immOf W) (cellD c 0) v0∧Cd (immOf W) (cellD c 1) v1∧Cd (immOf W) (cellD c 2) v2∧Cd (immOf W) (cellD c 3) v3∧Cd (immOf W) (cellD c 4) v4:=by
 obtain⟨k,e0,_,_⟩:=DataW.trod_int Tryz.underlying3 h0
 obtain⟨n,e1,_,_⟩:=DataW.trod_int Tryz.underlying3 h1
 obtain⟨s,e2,_,_⟩:=DataW.trod_string Tryz.underlying9 h2
 obtain⟨m,e3,_,_⟩:=DataW.trod_string Tryz.underlying9 h3
 cases e0;cases e1;cases e2;cases e3
 rcases open_ints Tryz.underlying40 Tryz.underlying3 cells3 h4 with⟨e4,_⟩|⟨a,len,cap,zs,e4,_,hl,hc,hzl,hy,hcell,_⟩
 ·cases e4
  exact⟨⟨k,n,s,m,[]⟩,.int,.int,.str,.str,.slice0⟩
 ·cases e4
  simp only[if_true]at hzl
  have hw:=hz ((zs.take len).length*P.bytesOf 3+(zs.drop len).length*P.bytesOf 3) (by
   rw[hy]
   simp[DataW.weights,Tryz.underlying40,lits,Nat.add_mul])
  have hb8:P.bytesOf 3=8:=by kernel_rfl
  have hr:=reachBytes_lt
  rw[hb8,List.length_take]at hw
  have hlm:len≤maxN:=by unfold maxN;omega
  by_cases hc0:cap=0
  ·have hl0:len=0:=by omega
   subst hc0 hl0
   exact⟨⟨k,n,s,m,[]⟩,.int,.int,.str,.str,.sliceE⟩
  ·have hsp:a.spot=none:=add_spot a (World.cell?_spot (hcell 0 (by omega)))
   obtain⟨b,o,sp⟩:=a
   simp only at hsp
   subst hsp
   have hll:(zs.take len).length=len:=by rw[List.length_take];omega
   refine⟨⟨k,n,s,m,zs.take len⟩,.int,.int,.str,.str,?_⟩
   have key:Cd (immOf W) (.slice len 1 (fun i _=>.int .i64 ((zs.take len).getD i 0))) (.slice (some ⟨b,o,none⟩) len cap):=by
    refine .slice (cs:=fun i _=>.int .i64 ((zs.take len).getD i 0)) hl hlm (fun i j hi hj=>?_) (fun i j hi hj=>.int)
    have:=imm_cell' rfl (hcell i (by omega))
    have e:o+i*1+j=o+i:=by omega
    rw[e]
    simp only at this
    rw[this]
    simp[List.getElem?_take,hi]
   show Cd (immOf W) (.slice (zs.take len).length 1 (fun i _=>.int .i64 ((zs.take len).getD i 0))) _
   rw[hll]
   exact key
theorem mem_range_map {α:Type}{D:Nat→α}{n i:Nat}(h:i < n):D i∈(List.range n).map D:=List.mem_map.2 ⟨i,List.mem_range.2 h,rfl⟩
theorem open_cells {H:Type}{enc:TypeId×Value→H}{W:World}{fuel:Nat}{v:Value}{y:DataW H×List MemPlace}
  (h:DataW.trod enc P W 0 (fun _=>true) true fuel 22 [v]=some y) (hz:∀n∈y.1.weights P 22,n≤reachBytes):∃l:List Cel,Cd (immOf W) (cellsD l) v:=by
 rcases open_slice_fields Tryz.underlying22 Tryz.underlying42 (by kernel_rfl) (by kernel_rfl) h with⟨hc,_⟩|⟨a,len,cap,m,D,Pl,hc,_,hl,hm,hmm,hy,hi⟩
 ·cases hc
  exact⟨[],.slice0⟩
 ·cases hc
  simp only[if_true]at hmm
  subst hmm
  have hw:=hz (((List.range len).map D).length*P.bytesOf 42+((List.range (m - len)).map fun j=>D (len+j)).length*P.bytesOf 42) (by
   rw[hy]
   simp[DataW.weights,Tryz.underlying22,Nat.add_mul])
  have hb72:P.bytesOf 42=72:=by kernel_rfl
  have hr:=reachBytes_lt
  rw[hb72,List.length_map,List.length_range]at hw
  have hlm:len≤maxN:=by unfold maxN;omega
  have helem:∀i,i < len→∀n∈(D i).weights P 42,n≤reachBytes:=by
   intro i hil n hn
   refine hz n ?_
   rw[hy]
   simp only[DataW.weights,Tryz.underlying22,List.mem_cons,List.mem_append]
   exact .inr (.inl (mem_weightsAll (mem_range_map hil) hn))
  by_cases hc0:m=0
  ·have hl0:len=0:=by omega
   subst hc0 hl0
   exact⟨[],.sliceE⟩
  ·have hsp:a.spot=none:=by
    obtain⟨ys,n,_,_,_,hf⟩:=hi 0 (by omega)
    obtain⟨v0,_,hv0,_,_⟩:=hf 0 _ rfl
    exact add_spot a (World.cell?_spot hv0)
   have each:∀i,i < len→∃p:Cel×(Nat→Value),∀j,j < 5→W.cell? (a.add (i*5+j))=some (p.2 j)∧Cd (immOf W) (cellD p.1 j) (p.2 j):=by
    intro i hil
    obtain⟨ys,n,hD,_,hyl,hf⟩:=hi i (by omega)
    obtain⟨v0,y0,c0,g0,t0⟩:=hf 0 _ rfl
    obtain⟨v1,y1,c1,g1,t1⟩:=hf 1 _ rfl
    obtain⟨v2,y2,c2,g2,t2⟩:=hf 2 _ rfl
    obtain⟨v3,y3,c3,g3,t3⟩:=hf 3 _ rfl
    obtain⟨v4,y4,c4,g4,t4⟩:=hf 4 _ rfl
    have hz4:∀n∈y4.1.weights P 40,n≤reachBytes:=by
     intro n hn
     refine helem i hil n ?_
     rw[hD]
     simp only[DataW.weights,Tryz.underlying42]
     exact DataW.weights_mem_each (j:=4) (t:=40) rfl (by rw[List.getElem?_map,g4];rfl) n hn
    obtain⟨c,q0,q1,q2,q3,q4⟩:=open_cel t0 t1 t2 t3 t4 hz4
    refine⟨(c,fun j=>if j=0 then v0 else if j=1 then v1 else if j=2 then v2 else if j=3 then v3 else v4),fun j hj=>?_⟩
    match j,hj with
    | 0,_=>exact⟨c0,q0⟩
    | 1,_=>exact⟨c1,q1⟩
    | 2,_=>exact⟨c2,q2⟩
    | 3,_=>exact⟨c3,q3⟩
    | 4,_=>exact⟨c4,q4⟩
   haveI:Inhabited (Cel×(Nat→Value)):=⟨(default,fun _=>undef)⟩
   obtain⟨p,hp⟩:=choose_lt each
   obtain⟨b,o,sp⟩:=a
   simp only at hsp
   subst hsp
   refine⟨(List.range len).map fun i=>(p i).1,?_⟩
   have hll:((List.range len).map fun i=>(p i).1).length=len:=by simp
   have key:Cd (immOf W) (.slice len 5 (fun i j=>cellD (((List.range len).map fun i=>(p i).1).getD i default) j)) (.slice (some ⟨b,o,none⟩) len m):=by
    refine .slice (cs:=fun i j=>(p i).2 j) hl hlm (fun i j hil hj=>?_) (fun i j hil hj=>?_)
    ·have:=imm_cell' rfl (hp i hil j hj).1
     simp only at this
     rw[←this,Nat.add_assoc]
    ·have:=(hp i hil j hj).2
     have e:((List.range len).map fun i=>(p i).1).getD i default=(p i).1:=by simp[hil]
     rw[e]
     exact this
   show Cd (immOf W) (.slice ((List.range len).map fun i=>(p i).1).length 5 _) _
   rw[hll]
   exact key
theorem open_tree {H:Type}{enc:TypeId×Value→H}{W:World}{base:Nat}{v:Value}{d:DataW H}{p:List MemPlace}
  (hv:Value.okWide P W .any base 24 v) (h:DataW.Trod enc P W 0 (fun _=>true) true 24 v d p) (hz:∀n∈d.weights P 24,n≤reachBytes) :
  ∃l:List Cel,∀ρ:Nat→RB,CA (immOf W) ρ (· < 0) (.agg [.d (cellsD l)]) v:=by
 obtain⟨cs,rfl,hcs⟩:=okWide_struct Tryz.underlying24 hv
 obtain⟨fuel,hf⟩:=h
 obtain⟨xs,n,_,hx,hlen,hxl,hfld⟩:=DataW.trod_struct Tryz.underlying24 hf
 have h1:P.cellsOf 24=1:=by kernel_rfl
 obtain⟨cl⟩:=cs
 match cl,hcs.trans h1,xs,hxl with
 | [c0],_,[y0],_ =>
  have h0:DataW.trod enc P W 0 (fun _=>true) true n 22 (((Value.agg #[c0]).cells.toList.drop 0).take (P.cellsOf 22))=some y0:=hfld 0 _ rfl
  have h2:P.cellsOf 22=1:=by kernel_rfl
  have h0':DataW.trod enc P W 0 (fun _=>true) true n 22 [c0]=some y0:=by
   have e:∀k,k=1→((Value.agg #[c0]).cells.toList.drop 0).take k=[c0]:=fun k hk=>by subst hk;rfl
   have h3:=e _ h2
   generalize P.cellsOf 22=k at h0 h3
   rw[←h3]
   exact h0
  obtain⟨l,hl⟩:=open_cells h0' (fun m hm=>hz m (by
   cases hx
   simp only[DataW.weights,Tryz.underlying24]
   exact DataW.weights_mem_each (j:=0) (t:=22) rfl rfl m hm))
  refine⟨l,fun ρ=>.agg rfl fun i hi=>?_⟩
  have hi0:i=0:=by simpa using hi
  subst hi0
  exact .d hl
end Go.Proofs.YtlgajkoplklkiaaGreat
