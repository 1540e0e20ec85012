/- What the proof stands on, part 4: what functions of the program compute, and plain facts about it. -/
import Derived.Test.YtlgajkoplklkiaaGreatP3
import Derived.Test.YtlgajkoplklkiaaGreatP2
set_option linter.all false
set_option maxHeartbeats 64000000
set_option maxRecDepth 100000
namespace Go.Proofs.YtlgajkoplklkiaaGreat
namespace Cn
open Go Go.Mq
theorem A3 {l:List Tree}{i:Nat}(h:i < (l.map toC).length):(l.map toC)[i]=toC (l.getD i .nil):=by
 have h':i < l.length:=by simpa using h
 simp[List.getD_eq_getElem?_getD,h']
theorem MT {l:List Tree}(h:l.length=2):l=[l.getD 0 .nil,l.getD 1 .nil]:=by
 match l,h with
 | [a,b],_=>rfl
theorem TM {T:Tree}(hT:T≠.nil)(hA:No.Ap T)(hr:No.Ed T):∃nm':ByteArray,toC T=.op 120 T.name [.op 119 nm' [toC ((T.kids.getD 0 .nil).kids.getD 0 .nil),toC ((T.kids.getD 0 .nil).kids.getD 1 .nil)],toC (T.kids.getD 1 .nil)]:=by
 obtain⟨h1,h2⟩:=hr
 have l1:=hA.two (.inr h1)
 have hm:T.kids.getD 0 .nil∈T.kids:=AA (by omega)
 have hA0:=hA.k _ hm
 have l2:=hA0.two (.inl h2)
 have hn0:T.kids.getD 0 .nil≠.nil:=by intro e;rw[e]at h2;cases h2
 refine⟨(T.kids.getD 0 .nil).name,?_⟩
 rw[BL hT (by omega),h1]
 conv=>lhs;rw[MT l1]
 simp only[List.map_cons,List.map_nil]
 rw[BL hn0 (by omega),h2]
 conv=>lhs;rw[MT l2]
 simp only[List.map_cons,List.map_nil]
theorem Vm (T:Tree):Plain T→No.Ap T→∀m,No.Cc T=some (m,0)→Par (toC T) (toC m):=by
 induction T using Tree.ind' with
 | h0=>intro hp;cases hp
 | h1 T hT ih =>
  intro hp hA m h
  rw[No.F8 hT]at h
  by_cases hr:No.Ed T
  ·rw[if_pos hr]at h
   have h:=Option.some.inj h
   unfold No.redR at h
   obtain⟨nm',e⟩:=TM hT hA hr
   rw[e,Ju h]
   exact .beta (.refl _) (.refl _)
  ·rw[if_neg hr]at h
   cases hs:No.Bj T.kids with
   | none=>rw[hs]at h;cases h
   | some p =>
    obtain⟨l',e⟩:=p
    rw[hs]at h
    have h:=Option.some.inj h
    obtain⟨rfl,rfl⟩:=Prod.mk.inj h
    obtain⟨i,x',hi,hx,rfl⟩:=Ki.Nc hs
    have hk:T.kind≠110:=by
     intro hk
     cases T with
     | nil=>exact absurd rfl hT
     | node k n nm mk l =>
      have:=(hp.inv.2.1 hk).2.1
      subst this
      simp[Tree.kids]at hi
    rw[BL hT hk,BL (by simp) (by exact hk)]
    refine .op (by simp[Tree.kids]) fun j h1 h2=>?_
    rw[A3,A3]
    show Par (toC (T.kids.getD j .nil)) (toC ((T.kids.set i x').getD j .nil))
    rw[Ki.G4]
    by_cases hij:i=j
    ·subst hij
     rw[if_pos ⟨rfl,hi⟩]
     have hm:=AA hi
     exact ih _ hm (Ex.B4 hp _ hm) (hA.k _ hm) _ hx
    ·rw[if_neg (fun q=>hij q.1)];exact .refl _
theorem K8:∀{l:List Tree},No.Bj l=none→∀x∈l,No.Cc x=none
 | [],_,x,hx=>by cases hx
 | y::l,h,x,hx=>by
  rw[No.Bj]at h
  cases hy:No.Cc y with
  | some p=>rw[hy]at h;cases h
  | none =>
   rw[hy]at h
   rcases List.mem_cons.1 hx with rfl|hx
   ·exact hy
   ·cases hs:No.Bj l with
    | some p=>rw[hs]at h;cases h
    | none=>exact K8 hs x hx
def Nf (c:Cn):Prop:=∀x,Par c x→x=c
theorem aC {c x:Cn}(h:Nf c)(hr:Red c x):x=c:=by
 induction hr with
 | refl=>rfl
 | step h1 _ ih =>
  have:=h _ h1
  subst this
  exact ih h
theorem YH (T:Tree):Plain T→No.Cc T=none→Nf (toC T):=by
 induction T using Tree.ind' with
 | h0=>intro hp;cases hp
 | h1 T hT ih =>
  intro hp h x hx
  by_cases hk:T.kind=110
  ·rw[DA hT hk]at hx ⊢
   cases hx;rfl
  rw[No.F8 hT]at h
  by_cases hr:No.Ed T
  ·rw[if_pos hr]at h;cases h
  rw[if_neg hr]at h
  have hs:No.Bj T.kids=none:=by
   cases hs:No.Bj T.kids with
   | none=>rfl
   | some p=>rw[hs]at h;cases h
  have hall:=K8 hs
  generalize hc:toC T=c at hx
  have e:=BL hT hk
  rw[hc]at e
  cases hx with
  | var n=>cases e
  | @op k nm l l' hl hp2 =>
   cases e
   congr 1
   apply List.ext_getElem hl
   intro i h1 h2
   have hi:i < T.kids.length:=by simpa using h2
   have:=ih _ (AA hi) (Ex.B4 hp _ (AA hi)) (hall _ (AA hi)) l'[i] (by
    have:=hp2 i h2 h1
    rwa [A3]at this)
   rw[this,A3]
  | @beta nm nm' K B A B' A' hB hA =>
   exfalso
   simp only[Cn.op.injEq]at e
   obtain⟨e1,_,e2⟩:=e
   have hlen:T.kids.length=2:=by have:=congrArg List.length e2;simpa using this.symm
   have h0:toC (T.kids.getD 0 .nil)=.op 119 nm' [K,B]:=by
    have:=A3 (l:=T.kids) (i:=0) (by simp;omega)
    rw[←this]
    simp only[←e2]
    rfl
   apply hr
   refine⟨e1.symm,?_⟩
   have hn0:T.kids.getD 0 .nil≠.nil:=by
    intro q
    rw[q,toC]at h0;cases h0
   by_cases hk0:(T.kids.getD 0 .nil).kind=110
   ·rw[DA hn0 hk0]at h0;cases h0
   ·rw[BL hn0 hk0]at h0
    exact (Cn.op.inj h0).1
theorem M3 {T:Tree}(h1:(No.BI T).2.2=0)(h2:(No.BI T).2.1=false):Nf (toC T)∧conE T=0:=by
 obtain⟨g1,g2⟩:=No.Gi h1
 rw[g2]at h1 h2
 exact⟨YH T (Aa g1) (No.VZ h2 h1),g1⟩
theorem W6 {T:Tree}(h1:(No.BI T).2.2=0)(h2:(No.BI T).2.1=true):Par (toC T) (toC (No.BI T).1):=by
 obtain⟨g1,g2⟩:=No.Gi h1
 have:No.BI T=((No.BI T).1,true,0):=Prod.ext rfl (Prod.ext h2 h1)
 rw[g2]at this
 have:=No.VE this
 rw[←g2]at this
 exact Vm T (Aa g1) (No.VJ T (Ak g1).2) _ this
theorem U5:∀(k:Nat) (T N:Tree),No.Di k T=(N,0)→Red (toC T) (toC N)∧Nf (toC N)∧conE N=0:=by
 intro k
 induction k with
 | zero =>
  intro T N h
  rw[No.Di]at h
  by_cases h1:(No.BI T).2.2=0
  ·rw[if_neg (by simp[h1])]at h
   by_cases h2:(No.BI T).2.1=true
   ·rw[if_pos h2]at h;cases h
   ·rw[if_neg h2]at h
    cases h
    exact⟨.refl _,M3 h1 (by simpa using h2)⟩
  ·rw[if_pos h1]at h
   exact absurd (Prod.mk.inj h).2 h1
 | succ k ih =>
  intro T N h
  rw[No.Di]at h
  by_cases h1:(No.BI T).2.2=0
  ·rw[if_neg (by simp[h1])]at h
   by_cases h2:(No.BI T).2.1=true
   ·rw[if_pos h2]at h
    obtain⟨q1,q2⟩:=ih _ _ h
    exact⟨.step (W6 h1 h2) q1,q2⟩
   ·rw[if_neg h2]at h
    cases h
    exact⟨.refl _,M3 h1 (by simpa using h2)⟩
  ·rw[if_pos h1]at h
   exact absurd (Prod.mk.inj h).2 h1
theorem Ht {T N:Tree}(h:No.Ac T=(N,0)):Red (toC T) (toC N)∧Nf (toC N)∧conE N=0:=U5 _ _ _ h
theorem UF {T y:Tree}(h:BK T 1 0=(y,0)):toC y=ren Nat.succ (toC T)∧conE T=0:=by
 unfold BK at h
 by_cases h1:conE T=0
 ·rw[if_pos h1]at h
  have hp:=Aa h1
  have hz:=Al h1
  have hlim:lim=1099511627776:=rfl
  rw[show decide ((0:Int)≤0)=true from rfl]at h
  obtain⟨q1,q2⟩:=KY 0 1 T 0 hp
  cases hm:Bb 1 0 T 0 with
  | none =>
   rw[q2 hm,if_neg (by decide)]at h
   cases h
  | some x =>
   rw[q1 x hm]at h
   rw[if_pos rfl]at h
   obtain⟨rfl,_⟩:=Prod.mk.inj h
   rw[Dm 1 0 T 0 hp (by omega) (by omega)]at hm
   refine⟨?_,h1⟩
   rw[QJ 1 T 0 _ hp (by omega) hm]
   exact EP _ fun n=>J2 1 n
 ·rw[if_neg h1]at h
  exact absurd (Prod.mk.inj h).2 h1
end Cn
end Go.Proofs.YtlgajkoplklkiaaGreat
namespace Go.Proofs.YtlgajkoplklkiaaGreat
namespace Cn
open Go
theorem Pg (c:Cn):∀(r:Nat→Nat) (x:Cn),Par (ren r c) x→∃y,x=ren r y∧Par c y:=by
 induction c using Cn.ind with
 | hv n =>
  intro r x h
  rw[Cy]at h
  cases h
  exact⟨.var n,(Cy r n).symm,.var n⟩
 | ho k nm l ih =>
  intro r x h
  rw[B9]at h
  generalize he:Cn.op k nm (l.map (ren (uprN (bd k) r)))=z at h
  cases h with
  | var n=>cases he
  | @op k' nm' l1 l2 hl hp =>
   cases he
   have hlen:l2.length=l.length:=by simpa using hl
   have key:∀(l l2:List Cn),l2.length=l.length→(∀x∈l,∀(r:Nat→Nat) (y:Cn),Par (ren r x) y→∃z,y=ren r z∧Par x z)→(∀i (h1:i < l.length) (h2:i < l2.length),Par (ren (uprN (bd k) r) l[i]) l2[i]) →
     ∃l3:List Cn,l3.length=l.length∧l2=l3.map (ren (uprN (bd k) r))∧∀i (h1:i < l.length) (h2:i < l3.length),Par l[i] l3[i]:=by
    intro l
    induction l with
    | nil=>intro l2 e _ _;exact⟨[],rfl,by simpa using e,fun i h1=>by simp at h1⟩
    | cons a l ihl =>
     intro l2 e hx hp
     match l2,e with
     | b::l2,e =>
      obtain⟨z,e1,e2⟩:=hx a (by simp) _ _ (hp 0 (by simp) (by simp))
      obtain⟨l3,g1,g2,g3⟩:=ihl l2 (by simpa using e) (fun x hx'=>hx x (by simp[hx'])) (fun i h1 h2=>hp (i+1) (by simpa using h1) (by simpa using h2))
      have e1:b=ren (uprN (bd k) r) z:=e1
      refine⟨z::l3,by simp[g1],by rw[e1,g2];rfl,fun i h1 h2=>?_⟩
      cases i with
      | zero=>exact e2
      | succ i=>exact g3 i (by simpa using h1) (by simpa using h2)
   obtain⟨l3,g1,g2,g3⟩:=key l l2 hlen ih (fun i h1 h2=>by have:=hp i (by simpa using h1) h2;simpa using this)
   refine⟨.op k nm l3,by rw[B9,g2],.op g1 g3⟩
  | @beta nm1 nm2 K B A B' A' hB hA =>
   simp only[Cn.op.injEq]at he
   obtain⟨rfl,rfl,he⟩:=he
   have hll:l.length=2:=by have:=congrArg List.length he;simpa using this
   match l,hll,he with
   | [f,a],_,he =>
    simp only[List.map_cons,List.map_nil,List.cons.injEq,and_true,Qz]at he
    obtain⟨he1,he2⟩:=he
    cases f with
    | var n=>rw[Cy]at he1;cases he1
    | op kf nf lf =>
     rw[B9]at he1
     simp only[Cn.op.injEq]at he1
     obtain⟨rfl,rfl,he1⟩:=he1
     have hlf:lf.length=2:=by have:=congrArg List.length he1;simpa using this
     match lf,hlf,he1 with
     | [K0,B0],_,he1 =>
      simp only[List.map_cons,List.map_nil,List.cons.injEq,and_true,Le]at he1
      obtain⟨rfl,rfl⟩:=he1
      subst he2
      have hf:=ih (.op 119 nf [K0,B0]) (by simp) r (.op 119 nf [ren (uprN (bd 119) r) K0,B']) (by
       rw[B9]
       refine .op rfl fun i h1 h2=>?_
       match i,h1 with
       | 0,_=>exact .refl _
       | 1,_=>simp only[List.map_cons,List.getElem_cons_succ,List.getElem_cons_zero];rw[Le];exact hB)
      obtain⟨y,ey,py⟩:=hf
      obtain⟨K1,B1,rfl,pB⟩:=SE py
      rw[B9]at ey
      simp only[Cn.op.injEq,List.map_cons,List.map_nil,List.cons.injEq,and_true,true_and,Le]at ey
      obtain⟨_,rfl⟩:=ey
      obtain⟨A1,rfl,pA⟩:=ih a (by simp) r A' hA
      exact⟨inst B1 A1,by rw[Pd];rfl,.beta pB pA⟩
def II (c:Cn):Prop:=∃c',c=ren Nat.succ c'
inductive Pl:Cn→Prop
 | var (n:Nat):Pl (.var n)
 | rcd {nm:ByteArray} {l:List Cn} (ns:Nat→ByteArray) (cs:Nat→Cn) (he:∀i (hi:i < l.length),l[i]=.op 116 (ns i) [cs i]) (h:∀i,i < l.length→Pl (cs i)):Pl (.op 115 nm l)
 | free {c:Cn} (h:II c):Pl c
theorem II.par {c d:Cn}(h:II c)(hp:Par c d):II d:=by
 obtain⟨c',rfl⟩:=h
 obtain⟨y,rfl,_⟩:=Pg c' _ _ hp
 exact⟨y,rfl⟩
theorem II.sub {c:Cn}(h:II c)(s:Nat→Cn):II (sub (up s) c):=by
 obtain⟨c',rfl⟩:=h
 refine⟨Cn.sub s c',?_⟩
 rw[G7,Ks]
 exact Bl _ fun n=>rfl
theorem NQ {k:Int}(hk:k≠120){nm:ByteArray}{c x:Cn}(h:Par (.op k nm [c]) x):∃c',x=.op k nm [c']∧Par c c':=by
 generalize hz:Cn.op k nm [c]=z at h
 cases h with
 | var=>cases hz
 | @op _ _ _ l' hl h =>
  cases hz
  match l',hl with
  | [c'],_=>exact⟨c',rfl,h 0 (by simp) (by simp)⟩
 | beta=>cases hz
theorem Pl.RT {nm:ByteArray}{l:List Cn}(h:∀i (hi:i < l.length),∃nm' c,l[i]=.op 116 nm' [c]∧Pl c):Pl (.op 115 nm l):=by
 have h':∀i,∃p:ByteArray×Cn,∀hi:i < l.length,l[i]=.op 116 p.1 [p.2]∧Pl p.2:=fun i=>by
  by_cases hi:i < l.length
  ·obtain⟨a,b,q⟩:=h i hi
   exact⟨(a,b),fun _=>q⟩
  ·exact⟨(ByteArray.empty,.var 0),fun q=>absurd q hi⟩
 have f:=fun i=>Classical.choose (h' i)
 exact .rcd (fun i=>(Classical.choose (h' i)).1) (fun i=>(Classical.choose (h' i)).2) (fun i hi=>(Classical.choose_spec (h' i) hi).1) fun i hi=>(Classical.choose_spec (h' i) hi).2
theorem Pl.par {c d:Cn}(h:Pl c):Par c d→Pl d:=by
 induction h generalizing d with
 | var n=>intro hp;cases hp;exact .var n
 | @rcd nm l ns cs he h ih =>
  intro hp
  cases hp with
  | @op _ _ _ l' hl hp =>
   refine .RT fun i hi=>?_
   have:=hp i (by omega) hi
   rw[he i (by omega)]at this
   obtain⟨c',e2,pc⟩:=NQ (by decide) this
   exact⟨ns i,c',e2,ih i (by omega) pc⟩
 | free h=>intro hp;exact .free (h.par hp)
theorem Qr:bd 115=0:=by unfold bd;rw[if_neg (by decide)]
theorem Hl:bd 116=0:=by unfold bd;rw[if_neg (by decide)]
theorem Ox:bd 122=0:=by unfold bd;rw[if_neg (by decide)]
theorem Rb:bd 121=1:=by unfold bd;rw[if_pos (by decide)]
theorem Pl.sub {c:Cn}(h:Pl c)(s:Nat→Cn):Pl (sub (up s) c):=by
 induction h with
 | var n =>
  rw[CK]
  cases n with
  | zero=>exact .var 0
  | succ n=>exact .free ⟨s n,rfl⟩
 | @rcd nm l ns cs he h ih =>
  rw[BE,Qr]
  refine .RT fun i hi=>?_
  have hi':i < l.length:=by simpa using hi
  refine⟨ns i,Cn.sub (up s) (cs i),?_,ih i hi'⟩
  rw[List.getElem_map]
  show Cn.sub (up s) l[i]=_
  rw[he i hi',BE,Hl]
  rfl
 | free h=>exact .free (h.sub s)
theorem Pl.ren {c:Cn}(h:Pl c)(r:Nat→Nat):Pl (ren (upr r) c):=by
 rw[FG,Bl c (b:=up fun n=>.var (r n)) fun n=>by cases n with
  | zero=>rfl
  | succ n=>show Cn.var (r n+1)=Cn.ren _ (.var (r n));rw[Cy]]
 exact h.sub _
inductive Fit:Cn→Prop
 | var (n:Nat):Fit (.var n)
 | op {k:Int} {nm:ByteArray} {l:List Cn} (ns:Nat→ByteArray) (cs:Nat→Cn) (he:k=121→∀i (hi:i < l.length),l[i]=.op 122 (ns i) [cs i]) (hp:k=121→∀i,i < l.length→Pl (cs i)) (h:∀i (hi:i < l.length),Fit l[i]):Fit (.op k nm l)
theorem Fit.of {k:Int}{nm:ByteArray}{l:List Cn}(h:k=121→∀i (hi:i < l.length),∃nm' c,l[i]=.op 122 nm' [c]∧Pl c)(hf:∀i (hi:i < l.length),Fit l[i]):Fit (.op k nm l):=by
 by_cases hk:k=121
 ·have h:=h hk
  have h':∀i,∃p:ByteArray×Cn,∀hi:i < l.length,l[i]=.op 122 p.1 [p.2]∧Pl p.2:=fun i=>by
   by_cases hi:i < l.length
   ·obtain⟨a,b,q⟩:=h i hi
    exact⟨(a,b),fun _=>q⟩
   ·exact⟨(ByteArray.empty,.var 0),fun q=>absurd q hi⟩
  exact .op (fun i=>(Classical.choose (h' i)).1) (fun i=>(Classical.choose (h' i)).2) (fun _ i hi=>(Classical.choose_spec (h' i) hi).1) (fun _ i hi=>(Classical.choose_spec (h' i) hi).2) hf
 ·exact .op (fun _=>ByteArray.empty) (fun _=>.var 0) (fun e=>absurd e hk) (fun e=>absurd e hk) hf
theorem Fit.sum {nm:ByteArray}{l:List Cn}(h:Fit (.op 121 nm l)):∀i (hi:i < l.length),∃nm' c,l[i]=.op 122 nm' [c]∧Pl c:=by
 cases h with
 | op ns cs he hp h=>exact fun i hi=>⟨_,_,he rfl i hi,hp rfl i hi⟩
theorem Fit.kids {k:Int}{nm:ByteArray}{l:List Cn}(h:Fit (.op k nm l)):∀i (hi:i < l.length),Fit l[i]:=by
 cases h with
 | op ns cs he hp h=>exact h
theorem Fit.ren {c:Cn}(h:Fit c):∀r:Nat→Nat,Fit (ren r c):=by
 induction h with
 | var n=>intro r;rw[Cy];exact .var _
 | @op k nm l ns cs he hp h ih =>
  intro r
  rw[B9]
  refine .of (fun hk i hi=>?_) fun i hi=>?_
  ·have hi':i < l.length:=by simpa using hi
   subst hk
   refine⟨ns i,Cn.ren (upr r) (cs i),?_,(hp rfl i hi').ren r⟩
   rw[List.getElem_map,he rfl i hi',B9,Rb,Ox]
   rfl
  ·rw[List.getElem_map];exact ih i (by simpa using hi) _
theorem Fit.up {s:Nat→Cn}(h:∀n,Fit (s n)):∀n,Fit (up s n)
 | 0=>.var 0
 | n+1=>(h n).ren _
theorem Fit.upN:∀(d:Nat) {s:Nat→Cn} (_:∀n,Fit (s n)) (n:Nat),Fit (upN d s n)
 | 0,_,h,n=>h n
 | d+1,_,h,n=>Fit.upN d (Fit.up h) n
theorem Fit.sub {c:Cn}(h:Fit c):∀{s:Nat→Cn},(∀n,Fit (s n))→Fit (sub s c):=by
 induction h with
 | var n=>intro s hs;rw[CK];exact hs n
 | @op k nm l ns cs he hp h ih =>
  intro s hs
  rw[BE]
  refine .of (fun hk i hi=>?_) fun i hi=>?_
  ·have hi':i < l.length:=by simpa using hi
   subst hk
   refine⟨ns i,Cn.sub (Cn.up s) (cs i),?_,(hp rfl i hi').sub s⟩
   rw[List.getElem_map,he rfl i hi',BE,Rb,Ox]
   rfl
  ·rw[List.getElem_map];exact ih i (by simpa using hi) (Fit.upN _ hs)
theorem Fit.par {c d:Cn}(h:Fit c):Par c d→Fit d:=by
 intro hp
 induction hp with
 | var n=>exact h
 | @op k nm l l' hl hp ih =>
  refine .of (fun hk i hi=>?_) fun i hi=>ih i (by omega) hi (h.kids i (by omega))
  subst hk
  obtain⟨nm',c,e,hc⟩:=h.sum i (by omega)
  have:=hp i (by omega) hi
  rw[e]at this
  obtain⟨c',e2,pc⟩:=NQ (by decide) this
  exact⟨nm',c',e2,hc.par pc⟩
 | @beta nm nm' K B A B' A' hB hA ihB ihA =>
  have hL:=h.kids 0 (by simp)
  have hB2:=hL.kids 1 (by simp)
  have hA2:=h.kids 1 (by simp)
  exact (ihB hB2).sub fun n=>by cases n with
   | zero=>exact ihA hA2
   | succ n=>exact .var n
theorem Fit.red {c d:Cn}(h:Fit c)(hr:Red c d):Fit d:=by
 induction hr with
 | refl=>exact h
 | step hp _ ih=>exact ih (h.par hp)
end Cn
end Go.Proofs.YtlgajkoplklkiaaGreat
namespace Go.Proofs.YtlgajkoplklkiaaGreat
namespace Cn
open Go Go.Mq Ki
def sk (d:Nat):Nat→Nat:=fun n=>if n < d then n else if n=d then d+1 else n
theorem aJ (d:Nat):∀n,upr (sk d) n=sk (d+1) n
 | 0=>by unfold sk;rw[ifp];rfl
 | n+1=>by
  show sk d n+1=_
  unfold sk
  by_cases h1:n < d
  ·rw[if_pos h1,ifp]
  ·rw[if_neg h1,if_neg (show ¬n+1 < d+1 by omega)]
   by_cases h2:n=d
   ·rw[if_pos h2,ifp]
   ·rw[if_neg h2,ifn]
theorem Yh (d k:Nat)(hk:k=0∨k=1)(n:Nat):uprN k (sk d) n=sk (d+k) n:=by
 rcases hk with rfl|rfl
 ·rfl
 ·exact aJ d n
theorem Ii {i:Int}:∀{l:List Tree} {d:Int},Ah i l d=0→∀x∈l,AT i x d=0
 | [],d,_,x,hx=>by cases hx
 | y::l,d,h,x,hx=>by
  rw[Ah]at h
  rcases List.mem_cons.1 hx with rfl|hx
  ·omega
  ·exact Ii (by omega) x hx
theorem YZ (T:Tree):∀d:Nat,Plain T→(d:Int)+AD T≤lim→AT 0 T d=0→ren (sk d) (toC T)=toC T:=by
 induction T using Tree.ind' with
 | h0=>intro d hp;cases hp
 | h1 T hT ih =>
  intro d hp hd h
  have hlim:lim=1099511627776:=rfl
  have hs:=AI hT
  have hbb:=GL T
  have hb1:=IV T.kind
  cases T with
  | nil=>exact absurd rfl hT
  | node k n nm mk l =>
   rw[AT]at h
   by_cases hk:k=110
   ·obtain⟨_,q2,_⟩:=hp.inv
    obtain⟨_,rfl,q3,q4⟩:=q2 hk
    rw[DA hT hk,Cy]
    congr 1
    show sk d n.toNat=n.toNat
    unfold sk
    by_cases c1:n.toNat < d
    ·rw[if_pos c1]
    ·rw[if_neg c1]
     by_cases c2:n.toNat=d
     ·exfalso
      rw[if_pos ⟨hk,by omega,by rw[wrap64]<;>omega⟩]at h
      omega
     ·rw[if_neg c2]
   ·rw[BL hT hk,B9]
    congr 1
    have h2:Ah 0 l (IntKind.i64.wrap ((d:Int)+AS (.node k n nm mk l)))=0:=by omega
    rw[wrap64 (by omega) (by omega),hbb]at h2
    have hz:=Ii h2
    rw[List.map_map]
    refine List.map_congr_left fun x hx=>?_
    have s1:=AH hx
    have:=ih x hx (d+bd k) (Ex.B4 hp x hx) (by simp only[Tree.kids,Tree.kind]at *;omega) (hz x hx)
    show ren _ (toC x)=toC x
    rw[EP _ (Yh d (bd (Tree.node k n nm mk l).kind) hb1)]
    exact this
theorem TE {T:Tree}(hp:Plain T)(hz:AD T≤65536)(h:AT 0 T 0=0):II (toC T):=by
 have:=YZ T 0 hp (by have:lim=1099511627776:=rfl;omega) h
 refine⟨ren (fun n=>n - 1) (toC T),?_⟩
 have e:ren Nat.succ (ren (fun n=>n - 1) (ren (sk 0) (toC T)))=ren (sk 0) (toC T):=by
  rw[JZ,JZ]
  refine EP _ fun n=>?_
  unfold sk
  by_cases c:n=0
  ·subst c;rfl
  ·rw[ifn,if_neg c]
   show n - 1+1=n
   omega
 rw[this]at e
 exact e.symm
theorem HG:∀{l:List Tree},CX l=true→∀x∈l,Cf (x.kids.getD 0 .nil)=true
 | [],_,x,hx=>by cases hx
 | y::l,h,x,hx=>by
  rw[CX,Bool.and_eq_true]at h
  rcases List.mem_cons.1 hx with rfl|hx
  ·rw[←HL];exact h.1
  ·exact HG h.2 x hx
theorem Ci {kind:Int}(hk:kind≠110){x:Tree}(h:BU kind x=true):toC x=.op kind x.name [toC (x.kids.getD 0 .nil)]∧AG (x.kids.getD 0 .nil)=true∧x≠.nil∧x.kids.length=1:=by
 have hx:x≠.nil:=by intro e;subst e;rw[BU]at h;cases h
 rw[CG hx]at h
 simp only[Bool.and_eq_true,beq_iff_eq]at h
 have hkd:x.kind=kind:=by
  have:=h.1.1.1.1
  simpa using this
 have hl:x.kids.length=1:=by omega
 refine⟨?_,h.2,hx,hl⟩
 rw[BL hx (by omega),hkd]
 congr 1
 match hq:x.kids,hl with
 | [a],_=>rfl
theorem Rk {T:Tree}(hT:T≠.nil)(h:AG T=true)(hk:T.kind=115):∀x∈T.kids,BU 116 x=true:=by
 rw[Am hT,Bool.and_eq_true,ifn,ifn,ifn,if_pos hk]at h
 have h:=h.2
 simp only[Bool.and_eq_true]at h
 exact BO h.1
theorem WT {T:Tree}(hT:T≠.nil)(h:AG T=true)(hk:T.kind=121):∀x∈T.kids,BU 122 x=true:=by
 rw[Am hT,Bool.and_eq_true,ifn,ifn,ifn,ifn,ifn,if_pos hk]at h
 have h:=h.2
 simp only[Bool.and_eq_true]at h
 exact BO h.1.2
theorem Tv (T:Tree):(AG T=true→AD T≤65536→Cf T=true→Pl (toC T))∧∀x∈T.kids,AG x=true→AD x≤65536→Cf x=true→Pl (toC x):=by
 induction T using Tree.ind' with
 | h0=>exact⟨fun h=>by (rw[AG]at h;cases h),fun x hx=>by cases hx⟩
 | h1 T hT ih =>
  refine⟨fun hc hz hp=>?_,fun x hx=>(ih x hx).1⟩
  rw[Gl hT]at hp
  have hs:=AI hT
  by_cases h1:T.kind=110
  ·rw[DA hT h1];exact .var _
  rw[if_neg h1]at hp
  by_cases h2:T.kind=115
  ·rw[if_pos h2]at hp
   rw[BL hT h1,h2]
   have hf:=Rk hT hc h2
   refine .RT fun i hi=>?_
   have hi':i < T.kids.length:=by simpa using hi
   have hm:=AA hi'
   obtain⟨e1,e2,e3,e4⟩:=Ci (by decide) (hf _ hm)
   have s1:=AH hm
   have s2:=AI e3
   have s3:=AH (AA (l:=(T.kids.getD i .nil).kids) (i:=0) (by omega))
   refine⟨_,_,by rw[A3];exact e1,?_⟩
   exact (ih _ hm).2 _ (AA (by omega)) e2 (by omega) (HG hp _ hm)
  ·rw[if_neg h2]at hp
   refine .free (TE (Dw T hc) hz ?_)
   have:=Dh 0 T 0 (by omega)
   simp only[Bool.not_eq_true',decide_eq_false_iff_not]at hp
   omega
def Sc (d:Nat)(c:Cn):Prop:=∀s s':Nat→Cn,(∀n,n < d→s n=s' n)→sub s c=sub s' c
def Cl (c:Cn):Prop:=∀s:Nat→Cn,sub s c=c
theorem Sc.cl {c:Cn}(h:Sc 0 c):Cl c:=fun s=>by rw[h s Cn.var (fun n hn=>by omega),E9]
theorem Cl.sc {c:Cn}(h:Cl c)(d:Nat):Sc d c:=fun s s' _=>by rw[h s,h s']
theorem TN (d k:Nat)(hk:k=0∨k=1){s s':Nat→Cn}(h:∀n,n < d→s n=s' n):∀n,n < d+k→upN k s n=upN k s' n:=by
 rcases hk with rfl|rfl
 ·exact h
 ·intro n hn
  cases n with
  | zero=>rfl
  | succ n=>show ren _ (s n)=ren _ (s' n);rw[h n (by omega)]
theorem Sc.of {d:Nat}{k:Int}{nm:ByteArray}{l:List Cn}(h:∀i (hi:i < l.length),Sc (d+bd k) l[i]):Sc d (.op k nm l):=by
 intro s s' hs
 rw[BE,BE]
 congr 1
 refine List.map_congr_left fun x hx=>?_
 obtain⟨i,hi,rfl⟩:=List.getElem_of_mem hx
 exact h i hi _ _ (TN d _ (IV k) hs)
theorem Sc.mono {d e:Nat}{c:Cn}(h:Sc d c)(hde:d≤e):Sc e c:=fun s s' hs=>h s s' fun n hn=>hs n (by omega)
theorem W9 (K:Tree):AU K=true→Cl (toC K)∧Fit (toC K):=by
 induction K using Tree.ind' with
 | h0=>intro h;rw[AU]at h;cases h
 | h1 T hT ih =>
  intro h
  rw[BP hT]at h
  have hb:∀k:Int,k=100∨k=101→bd k=0:=fun k hk=>by unfold bd;rw[ifn]
  by_cases h1:T.kind=100
  ·rw[if_pos h1]at h
   simp only[Bool.and_eq_true,beq_iff_eq]at h
   have hl:T.kids=[]:=List.length_eq_zero_iff.1 (by omega)
   rw[BL hT (by omega),hl]
   refine⟨fun s=>by rw[BE];rfl,.of (fun e=>by omega) fun i hi=>by simp at hi⟩
  rw[if_neg h1]at h
  by_cases h2:T.kind=101
  ·rw[if_pos h2]at h
   simp only[Bool.and_eq_true,beq_iff_eq]at h
   have hl:T.kids.length=2:=by omega
   have g0:=ih _ (AA (l:=T.kids) (i:=0) (by omega)) h.1.2
   have g1:=ih _ (AA (l:=T.kids) (i:=1) (by omega)) h.2
   have e:T.kids.map toC=[toC (T.kids.getD 0 .nil),toC (T.kids.getD 1 .nil)]:=by
    conv=>lhs;rw[MT hl]
    rfl
   rw[BL hT (by omega),e]
   refine⟨fun s=>?_,.of (fun q=>by omega) fun i hi=>?_⟩
   ·rw[BE,hb _ (.inr h2)]
    simp only[List.map_cons,List.map_nil]
    show Cn.op _ _ [sub s _,sub s _]=_
    rw[g0.1,g1.1]
   ·match i,hi with
    | 0,_=>exact g0.2
    | 1,_=>exact g1.2
  ·rw[if_neg h2]at h;cases h
theorem KD {r:Tree×Int}(h:Ek r=0):r.2=0:=by
 unfold Ek at h
 by_cases h1:r.2=0
 ·exact h1
 ·rw[if_pos h1]at h;exact h
theorem Oj {e:Int}(h:(EV e).2=0):e=0:=by
 unfold EV at h
 by_cases h1:e=0
 ·exact h1
 ·rw[if_neg h1]at h;exact h
theorem L4 {ctx:List Tree}:∀{l:List Tree},C7 ctx l=0→∀x∈l,(Bp ctx x).2=0
 | [],_,x,hx=>by cases hx
 | y::l,h,x,hx=>by
  rw[C7]at h
  by_cases h1:Ek (Bp ctx y)=0
  ·rw[ifn]at h
   rcases List.mem_cons.1 hx with rfl|hx
   ·exact KD h1
   ·exact L4 h x hx
  ·rw[if_pos h1]at h;exact absurd h h1
theorem KI {ctx:List Tree}:∀{l:List Tree},DC ctx l=0→∀x∈l,x≠.nil→(Bp ctx (x.kids.getD 0 .nil)).2=0
 | [],_,x,hx,_=>by cases hx
 | y::l,h,x,hx,hn=>by
  rw[DC]at h
  by_cases h1:LF ctx y=0
  ·rw[ifn]at h
   rcases List.mem_cons.1 hx with rfl|hx
   ·rw[Ml ctx hn]at h1;exact KD h1
   ·exact KI h x hx hn
  ·rw[if_pos h1]at h;exact absurd h h1
theorem Q4 (T:Tree):(AG T=true→AD T≤65536→∀K:List Tree,(Bp K T).2=0→Fit (toC T)∧Sc K.length (toC T)) ∧
  ∀x∈T.kids,AG x=true→AD x≤65536→∀K:List Tree,(Bp K x).2=0→Fit (toC x)∧Sc K.length (toC x):=by
 induction T using Tree.ind' with
 | h0=>exact⟨fun h=>by (rw[AG]at h;cases h),fun x hx=>by cases hx⟩
 | h1 T hT ih =>
  refine⟨fun hc hz K hk=>?_,fun x hx=>(ih x hx).1⟩
  have hs:=AI hT
  have hkid:∀i,i < T.kids.length→AD (T.kids.getD i .nil)≤65536:=fun i hi=>by have:=AH (AA hi);omega
  rw[LO K hT]at hk
  by_cases c1:T.kind=110
  ·rw[if_pos c1]at hk
   rw[DA hT c1]
   refine⟨.var _,fun s s' h=>?_⟩
   rw[CK,CK]
   refine h _ ?_
   have hv:=Kt hT hc c1
   by_cases q:(K.length:Int)≤T.n
   ·rw[if_pos q]at hk;cases hk
   ·omega
  rw[if_neg c1]at hk
  rw[BL hT c1]
  have hb:T.kind≠117→T.kind≠118→T.kind≠119→T.kind≠121→bd T.kind=0:=fun a b c d=>by unfold bd;rw[if_neg (by rintro (h|h|h|h)<;>contradiction)]
  have two:∀(d:Nat),T.kids.length=2→(Fit (toC (T.kids.getD 0 .nil))∧Sc (d+bd T.kind) (toC (T.kids.getD 0 .nil)))→(Fit (toC (T.kids.getD 1 .nil))∧Sc (d+bd T.kind) (toC (T.kids.getD 1 .nil)))→T.kind≠121→Fit (.op T.kind T.name (T.kids.map toC))∧Sc d (.op T.kind T.name (T.kids.map toC)):=by
   intro d hl g0 g1 hn
   have e:T.kids.map toC=[toC (T.kids.getD 0 .nil),toC (T.kids.getD 1 .nil)]:=by
    conv=>lhs;rw[MT hl]
    rfl
   rw[e]
   refine⟨.of (fun q=>absurd q hn) fun i hi=>?_,.of fun i hi=>?_⟩
   ·match i,hi with
    | 0,_=>exact g0.1
    | 1,_=>exact g1.1
   ·match i,hi with
    | 0,_=>exact g0.2
    | 1,_=>exact g1.2
  have fields:∀(kind:Int) (d:Nat) (K':List Tree),kind=116∨kind=122→K'.length=d+bd T.kind→(∀x∈T.kids,BU kind x=true)→DC K' T.kids=0→(T.kind=121→kind=122∧CX T.kids=true)→Fit (.op T.kind T.name (T.kids.map toC))∧Sc d (.op T.kind T.name (T.kids.map toC)):=by
   intro kind d K' hkind hd hf hst hpl
   have g:∀i,i < T.kids.length→toC (T.kids.getD i .nil)=.op kind (T.kids.getD i .nil).name [toC ((T.kids.getD i .nil).kids.getD 0 .nil)]∧Fit (toC ((T.kids.getD i .nil).kids.getD 0 .nil))∧Sc K'.length (toC ((T.kids.getD i .nil).kids.getD 0 .nil))∧AG ((T.kids.getD i .nil).kids.getD 0 .nil)=true∧AD ((T.kids.getD i .nil).kids.getD 0 .nil)≤65536:=by
    intro i hi
    have hm:=AA hi
    obtain⟨e1,e2,e3,e4⟩:=Ci (by omega) (hf _ hm)
    have s1:=AH hm
    have s2:=AI e3
    have s3:=AH (AA (l:=(T.kids.getD i .nil).kids) (i:=0) (by omega))
    obtain⟨f1,f2⟩:=(ih _ hm).2 _ (AA (by omega)) e2 (by omega) K' (KI hst _ hm e3)
    exact⟨e1,f1,f2,e2,by omega⟩
   have hbf:bd kind=0:=by rcases hkind with rfl|rfl;exact Hl;exact Ox
   refine⟨.of (fun q i hi=>?_) fun i hi=>?_,.of fun i hi=>?_⟩
   ·have hi':i < T.kids.length:=by simpa using hi
    obtain⟨rfl,hpp⟩:=hpl q
    obtain⟨e1,_,_,e4,e5⟩:=g i hi'
    exact⟨_,_,by rw[A3];exact e1,(Tv _).1 e4 e5 (HG hpp _ (AA hi'))⟩
   ·have hi':i < T.kids.length:=by simpa using hi
    obtain⟨e1,e2,_⟩:=g i hi'
    rw[A3,e1]
    refine .of (fun q=>by omega) fun j hj=>?_
    have:j=0:=by simpa using hj
    subst this
    exact e2
   ·have hi':i < T.kids.length:=by simpa using hi
    obtain⟨e1,_,e3,_⟩:=g i hi'
    rw[A3,e1]
    refine .of fun j hj=>?_
    have:j=0:=by simpa using hj
    subst this
    rw[hbf,←hd]
    exact e3
  have hc':=hc
  rw[Am hT,Bool.and_eq_true,if_neg c1]at hc'
  have hc':=hc'.2
  by_cases c2:T.kind=114
  ·rw[if_pos c2]at hk
   have hk:=L4 (Oj hk)
   rw[ifn,if_pos (.inl c2)]at hc'
   simp only[Bool.and_eq_true,beq_iff_eq]at hc'
   have hl:T.kids.length=2:=by omega
   have hb0:=hb (by omega) (by omega) (by omega) (by omega)
   have m0:=AA (l:=T.kids) (i:=0) (by omega)
   have m1:=AA (l:=T.kids) (i:=1) (by omega)
   refine two K.length hl ?_ ?_ (by omega)
   ·rw[hb0];exact (ih _ m0).1 hc'.1.2 (hkid 0 (by omega)) K (hk _ m0)
   ·rw[hb0];exact (ih _ m1).1 hc'.2 (hkid 1 (by omega)) K (hk _ m1)
  rw[if_neg c2]at hk
  by_cases c3:T.kind=115
  ·rw[if_pos c3]at hk
   have hb0:=hb (by omega) (by omega) (by omega) (by omega)
   exact fields 116 K.length K (.inl rfl) (by omega) (Rk hT hc c3) (Oj hk) (fun q=>by omega)
  rw[if_neg c3]at hk
  have binder:T.kind=117∨T.kind=118∨T.kind=119→(Bp (T.kids.getD 0 .nil::K) (T.kids.getD 1 .nil)).2=0→Fit (.op T.kind T.name (T.kids.map toC))∧Sc K.length (.op T.kind T.name (T.kids.map toC)):=by
   intro hkk hz2
   rw[ifn,ifn,ifn,if_pos hkk]at hc'
   simp only[Bool.and_eq_true,beq_iff_eq]at hc'
   have hl:T.kids.length=2:=by omega
   have hb1:bd T.kind=1:=by unfold bd;rw[ifp]
   have m1:=AA (l:=T.kids) (i:=1) (by omega)
   obtain⟨k1,k2⟩:=W9 _ hc'.1.2
   refine two K.length hl ⟨k2,k1.sc _⟩ ?_ (by omega)
   rw[hb1]
   exact (ih _ m1).1 hc'.2 (hkid 1 (by omega)) (T.kids.getD 0 .nil::K) hz2
  by_cases c4:T.kind=117∨T.kind=118
  ·rw[if_pos c4]at hk
   exact binder (by omega) (KD (Oj hk))
  rw[if_neg c4]at hk
  by_cases c5:T.kind=119
  ·rw[if_pos c5]at hk
   refine binder (by omega) ?_
   by_cases q:(Bp (T.kids.getD 0 .nil::K) (T.kids.getD 1 .nil)).2=0
   ·exact q
   ·rw[if_pos q]at hk;exact absurd hk q
  rw[if_neg c5]at hk
  by_cases c6:T.kind=120
  ·rw[if_pos c6]at hk
   obtain⟨k0,k1⟩:=UI hk
   rw[ifn,if_pos (.inr c6)]at hc'
   simp only[Bool.and_eq_true,beq_iff_eq]at hc'
   have hl:T.kids.length=2:=by omega
   have hb0:=hb (by omega) (by omega) (by omega) (by omega)
   refine two K.length hl ?_ ?_ (by omega)
   ·rw[hb0];exact (ih _ (AA (by omega))).1 hc'.1.2 (hkid 0 (by omega)) K k0
   ·rw[hb0];exact (ih _ (AA (by omega))).1 hc'.2 (hkid 1 (by omega)) K k1
  rw[if_neg c6]at hk
  by_cases c7:T.kind=121
  ·rw[if_pos c7]at hk
   have hb1:bd T.kind=1:=by unfold bd;rw[ifp]
   by_cases q1:DC (Dz::K) T.kids=0
   ·rw[ifn]at hk
    by_cases q2:fitE T.kids=0
    ·refine fields 122 K.length (Dz::K) (.inr rfl) (by rw[hb1];rfl) (WT hT hc c7) q1 fun _=>⟨rfl,?_⟩
     unfold fitE at q2
     by_cases q3:CX T.kids=true
     ·exact q3
     ·rw[if_neg q3]at q2;cases q2
    ·rw[if_pos q2]at hk;exact absurd hk q2
   ·rw[if_pos q1]at hk;exact absurd hk q1
  ·
   by_cases c8:T.kind=111∨T.kind=112∨T.kind=113
   ·rw[if_pos c8]at hc'
    have hl:T.kids=[]:=List.length_eq_zero_iff.1 (by simpa using hc')
    rw[hl]
    exact⟨.of (fun q=>absurd q c7) fun i hi=>by simp at hi,.of fun i hi=>by simp at hi⟩
   ·rw[if_neg c8,ifn,if_neg c3,ifn,if_neg c7]at hc'
    cases hc'
theorem HE {K:List Tree}{T:Tree}(h:(CQ K T).2=0):Fit (toC T)∧Sc K.length (toC T)∧conE T=0:=by
 obtain⟨_,h2,h3⟩:=QE h
 rw[h3]at h
 obtain⟨a,b⟩:=(Q4 T).1 (Ak h2).2 (by have:=Al h2;omega) K h
 exact⟨a,b,h2⟩
theorem QA {K:List Tree}{T:Tree}(h:Hh K T=0):Fit (toC T)∧Sc K.length (toC T)∧conE T=0:=by
 unfold Hh at h
 by_cases q:(CQ K T).2=0∧(CQ K T).1.kind≠100
 ·rw[if_pos q]at h;cases h
 ·rw[if_neg q]at h;exact HE h
inductive Pz:Tree→Prop
 | node {k n:Int} {nm mk:ByteArray} {l:List Tree} (hm:mk=ByteArray.empty) (hv:k=110→nm=ByteArray.empty∧l=[]∧0≤n) (hn:k≠110→n=0) (h:∀x∈l,Pz x):Pz (.node k n nm mk l)
theorem Pz.of {T:Tree}(hT:T≠.nil)(hm:T.mark=ByteArray.empty)(hv:T.kind=110→T.name=ByteArray.empty∧T.kids=[]∧0≤T.n)(hn:T.kind≠110→T.n=0)(hk:∀x∈T.kids,Pz x):Pz T:=by
 cases T with
 | nil=>exact absurd rfl hT
 | node=>exact .node hm hv hn hk
theorem Kr {T:Tree}{a:Bool}(h:CP T a false=true):T.n=0:=by
 unfold CP at h;simp at h;exact h.2
theorem RN (T:Tree):AU T=true→Pz T:=by
 induction T using Tree.ind' with
 | h0=>intro h;rw[AU]at h;cases h
 | h1 T hT ih =>
  intro h
  rw[BP hT]at h
  split at h
  ·rename_i hk
   rw[Bool.and_eq_true]at h
   have hl:T.kids=[]:=by have:=h.2;rw[beq_iff_eq]at this;exact List.length_eq_zero_iff.1 (by omega)
   exact .of hT (DM h.1) (fun e=>by omega) (fun _=>Kr h.1) (fun x hx=>by rw[hl]at hx;cases hx)
  ·split at h
   ·rename_i hk
    simp only[Bool.and_eq_true,beq_iff_eq]at h
    obtain⟨⟨⟨h1,h2⟩,h3⟩,h4⟩:=h
    refine .of hT (DM h1) (fun e=>by omega) (fun _=>Kr h1) (fun x hx=>?_)
    have h2':T.kids.length=2:=by omega
    rcases B8 h2' hx with e|e
    ·exact ih x hx (by rw[e];exact h3)
    ·exact ih x hx (by rw[e];exact h4)
   ·cases h
theorem NH {kind:Int}{x:Tree}(hk:kind≠110)(h:BU kind x=true)(ih:∀y∈x.kids,AG y=true→Pz y):Pz x:=by
 have hx:x≠.nil:=by intro e;subst e;rw[BU]at h;cases h
 rw[CG hx]at h
 simp only[Bool.and_eq_true,beq_iff_eq]at h
 obtain⟨⟨⟨⟨h1,h2⟩,h3⟩,h4⟩,h5⟩:=h
 refine .of hx (DM h2) (fun e=>by omega) (fun _=>Kr h2) (fun y hy=>?_)
 have h4':x.kids.length=1:=by omega
 have e:=FT h4' hy
 exact ih y hy (by rw[e];exact h5)
theorem Mm (T:Tree):AG T=true→Pz T:=by
 suffices h:(AG T=true→Pz T)∧∀x∈T.kids,AG x=true→Pz x from h.1
 induction T using Tree.ind' with
 | h0=>exact⟨fun h=>(by rw[AG]at h;cases h),fun x hx=>(by cases hx)⟩
 | h1 T hT ih =>
  refine⟨fun h=>?_,fun x hx=>(ih x hx).1⟩
  rw[Am hT,Bool.and_eq_true]at h
  obtain⟨hb,h⟩:=h
  have hm:=DM hb
  split at h
  ·rename_i hk
   simp only[Bool.and_eq_true,beq_iff_eq,decide_eq_true_eq]at h
   have hl:T.kids=[]:=List.length_eq_zero_iff.1 (by omega)
   have hn:T.name=ByteArray.empty:=by
    unfold CP at hb;simp only[Bool.and_eq_true,Bool.false_or,decide_eq_true_eq]at hb;exact hb.1.2
   exact .of hT hm (fun _=>⟨hn,hl,h.1.1⟩) (fun e=>absurd hk e) (fun x hx=>by rw[hl]at hx;cases hx)
  rename_i hv
  have hbf:(T.kind == 110)=false:=by simpa using hv
  rw[hbf]at hb
  refine .of hT hm (fun e=>absurd e hv) (fun _=>Kr hb) (fun x hx=>?_)
  split at h
  ·rw[beq_iff_eq]at h
   have hl:T.kids=[]:=List.length_eq_zero_iff.1 (by omega)
   rw[hl]at hx;cases hx
  split at h
  ·simp only[Bool.and_eq_true,beq_iff_eq]at h
   have h2':T.kids.length=2:=by omega
   rcases B8 h2' hx with e|e
   ·exact (ih x hx).1 (by rw[e];exact h.1.2)
   ·exact (ih x hx).1 (by rw[e];exact h.2)
  split at h
  ·simp only[Bool.and_eq_true]at h
   exact NH (by decide) (BO h.1 x hx) (ih x hx).2
  split at h
  ·simp only[Bool.and_eq_true,beq_iff_eq]at h
   have h2':T.kids.length=2:=by omega
   rcases B8 h2' hx with e|e
   ·exact RN x (by rw[e];exact h.1.2)
   ·exact (ih x hx).1 (by rw[e];exact h.2)
  split at h
  ·simp only[Bool.and_eq_true]at h
   exact NH (by decide) (BO h.1.2 x hx) (ih x hx).2
  ·cases h
theorem map_inj {l:List Tree}:∀{m:List Tree},(∀x∈l,Pz x→∀y,Pz y→toC x=toC y→x=y)→(∀x∈l,Pz x)→(∀y∈m,Pz y)→l.map toC=m.map toC→l=m:=by
 induction l with
 | nil =>
  intro m _ _ _ h
  cases m with
  | nil=>rfl
  | cons y m=>cases h
 | cons x l ih =>
  intro m h1 h2 h3 h
  cases m with
  | nil=>cases h
  | cons y m =>
   simp only[List.map_cons,List.cons.injEq]at h
   rw[h1 x (by simp) (h2 x (by simp)) y (h3 y (by simp)) h.1,ih (fun z hz=>h1 z (by simp[hz])) (fun z hz=>h2 z (by simp[hz])) (fun z hz=>h3 z (by simp[hz])) h.2]
theorem Z8 (a:Tree):Pz a→∀b:Tree,Pz b→toC a=toC b→a=b:=by
 induction a using Tree.ind' with
 | h0=>intro h;cases h
 | h1 a ha ih =>
  intro pa b pb h
  cases pa with
  | @node k n nm mk l hm hv hn hk =>
   cases pb with
   | @node k' n' nm' mk' l' hm' hv' hn' hk' =>
    subst hm hm'
    by_cases c:k=110
    ·obtain⟨rfl,rfl,q⟩:=hv c
     by_cases c':k'=110
     ·obtain⟨rfl,rfl,q'⟩:=hv' c'
      rw[toC,toC,if_pos c,if_pos c']at h
      have h:n.toNat=n'.toNat:=by injection h
      rw[c,c',show n=n' by omega]
     ·rw[toC,toC,if_pos c,if_neg c']at h;cases h
    ·by_cases c':k'=110
     ·rw[toC,toC,if_neg c,if_pos c']at h;cases h
     ·rw[toC,toC,if_neg c,if_neg c',F3,F3]at h
      injection h with h1 h2 h3
      subst h1 h2
      have h4:l=l':=map_inj ih hk hk' h3
      subst h4
      rw[hn c,hn' c']
theorem YW {a b:Tree}(ha:AG a=true)(hb:AG b=true)(h:toC a=toC b):a=b:=Z8 a (Mm a ha) b (Mm b hb) h
theorem WE {a b:Tree}(ha:conE a=0)(hb:conE b=0)(h:toC a=toC b):a=b:=YW (Ak ha).2 (Ak hb).2 h
def envS:List Tree→Nat→Cn
 | []=>Cn.var
 | c::l=>fun n=>sub (envS l) (s0 (toC c) n)
theorem Hx (c:Tree)(l:List Tree)(n:Nat):envS (c::l) (n+1)=envS l n:=by
 show sub (envS l) (Cn.var n)=_
 rw[CK]
theorem F7 (c:Tree)(l:List Tree):envS (c::l) 0=sub (envS l) (toC c):=rfl
theorem MO (c:Tree)(l:List Tree)(A:Cn):sub (envS (c::l)) (ren Nat.succ A)=sub (envS l) A:=by
 rw[G7]
 exact Bl _ fun n=>Hx c l n
theorem Nq {c:Tree}(hc:Cl (toC c))(l:List Tree)(B:Cn):sub (envS (c::l)) B=inst (sub (up (envS l)) B) (toC c):=by
 unfold inst
 rw[sub_sub]
 refine Bl _ fun n=>?_
 cases n with
 | zero=>rw[F7,hc];show _=sub _ (Cn.var 0);rw[CK];rfl
 | succ n =>
  rw[Hx]
  show _=sub _ (ren Nat.succ (envS l n))
  rw[G7]
  conv=>lhs;rw[←E9 (envS l n)]
  exact Bl _ fun m=>rfl
theorem FI:∀{l:List Tree} {B:Tree},(Mc.AN l B).2=0→toC (Mc.AN l B).1=sub (envS l) (toC B)
 | [],B,_=>by rw[Mc.AN];exact (E9 _).symm
 | c::l,B,h=>by
  rw[Mc.AN]at h ⊢
  by_cases q:(Ax B 0 c).2=0
  ·rw[if_pos q]at h ⊢
   rw[FI h,Ju (Prod.ext rfl q:Ax B 0 c=((Ax B 0 c).1,0)),inst,sub_sub]
   rfl
  ·rw[if_neg q]at h;exact absurd h q
theorem Qk {T:Tree}(hT:T≠.nil)(hk:T.kind=110)(hb:CP T false true=true)(h1:0≤T.n)(h2:T.n≤65536)(hl:T.kids=[]):AG T=true:=by
 rw[Am hT,show (T.kind == 110)=true by simp[hk],hb,if_pos hk,hl,decide_eq_true h1,decide_eq_true h2];rfl
theorem XK {n:Int}(h:0≤n∧n≤65536):AG (.node 110 n ByteArray.empty ByteArray.empty [])=true :=
 Qk (by intro e;cases e) rfl (by unfold CP;simp[Tree.mark,Tree.name]) h.1 h.2 rfl
theorem WD {D:Int}{s T y:Tree}{d:Int}(hp:Plain T)(hk:T.kind=110)(hd:0≤d∧d≤lim)(hD:0≤D)(h:BM D s T d=some y) :
  (d≤T.n∧T.n - d=D∧Bb d 0 s 0=some y)∨(d≤T.n∧D < T.n - d∧y=.node 110 (T.n - 1) ByteArray.empty ByteArray.empty [])∨(¬(d≤T.n∧D≤T.n - d)∧y=T):=by
 cases T with
 | nil=>cases hp
 | node k n nm mk l =>
  have hlim:lim=1099511627776:=rfl
  obtain⟨q1,q2,_⟩:=hp.inv
  have hk:k=110:=hk
  obtain⟨rfl,rfl,q3,q4⟩:=q2 hk
  subst q1 hk
  have hw:d≤n→IntKind.i64.wrap (n - d)=n - d:=fun _=>by rw[wrap64]<;>omega
  rw[BM]at h
  show (d≤n∧n - d=D∧_)∨(d≤n∧D < n - d∧y=.node 110 (n - 1) _ _ _)∨(¬(d≤n∧D≤n - d)∧_)
  by_cases c1:pHit D (.node 110 n ByteArray.empty ByteArray.empty []) d
  ·rw[if_pos c1]at h
   obtain⟨_,e1,e2⟩:=c1
   have e1:d≤n:=e1
   have e2:IntKind.i64.wrap (n - d)=D:=e2
   rw[hw e1]at e2
   exact .inl ⟨e1,e2,h⟩
  ·rw[if_neg c1]at h
   by_cases c2:IY D (.node 110 n ByteArray.empty ByteArray.empty []) d
   ·rw[if_pos c2]at h
    obtain⟨_,e1,e2⟩:=c2
    have e1:d≤n:=e1
    have e2:D < IntKind.i64.wrap (n - d):=e2
    rw[hw e1]at e2
    first|rw[BD]at h|skip
    cases h
    refine .inr (.inl ⟨e1,e2,?_⟩)
    rw[show IntKind.i64.wrap (n - 1)=n - 1 by rw[wrap64]<;>omega]
   ·rw[if_neg c2,BD]at h
    cases h
    refine .inr (.inr ⟨fun⟨e1,e2⟩=>?_,rfl⟩)
    by_cases e3:n - d=D
    ·exact c1 ⟨rfl,e1,by show IntKind.i64.wrap (n - d)=D;rw[hw e1];exact e3⟩
    ·exact c2 ⟨rfl,e1,by show D < IntKind.i64.wrap (n - d);rw[hw e1];omega⟩
def Ko (D:Int)(s T:Tree):Prop:=AG T=true→∀(d:Int) y,Plain T→0≤d→d+AD T≤549755813888→BM D s T d=some y→AG y=true
open Ex in
theorem Hj {D:Int}{s:Tree}{kind:Int}(hk:kind≠110)(hkb:kind≠117∧kind≠118∧kind≠119∧kind≠121):∀{l l':List Tree} {d:Int},Bg kind l=true→(∀x∈l,∀y∈x.kids,Ko D s y)→(∀x∈l,Plain x)→0≤d→d+AV l≤549755813888→BD D s l d=some l'→Bg kind l'=true∧l'.map Tree.name=l.map Tree.name
 | [],l',d,_,_,_,_,_,h=>by rw[BD]at h;cases h;exact⟨rfl,rfl⟩
 | x::l,l',d,hf,ih,hpl,h0,h1,h=>by
  have hlim:lim=1099511627776:=rfl
  rw[BD]at h
  rw[Bg,Bool.and_eq_true]at hf
  rw[AV]at h1
  push_cast at h1
  split at h
  ·cases h
  ·rename_i x' hq
   cases hr:BD D s l d with
   | none=>rw[hr]at h;cases h
   | some l'' =>
    rw[hr]at h
    cases h
    obtain⟨a1,a2⟩:=Hj hk hkb hf.2 (fun y hy=>ih y (by simp[hy])) (fun y hy=>hpl y (by simp[hy])) h0 (by omega) hr
    have hx:x≠.nil:=by intro e;subst e;have:=hf.1;rw[BU]at this;cases this
    have hfx:=hf.1
    rw[CG hx]at hfx
    simp only[Bool.and_eq_true,beq_iff_eq]at hfx
    obtain⟨⟨⟨⟨c1,c2⟩,c3⟩,c4⟩,c5⟩:=hfx
    have hk':x.kind≠110:=by rw[c1];exact hk
    have hpx:=hpl x (by simp)
    obtain⟨p0,p1,p2,p3,p4,p5⟩:=ID hpx hk' hq
    obtain⟨u1,u2⟩:=I5 hpx hk' ⟨h0,by omega⟩ hq
    have hx1:x.kids.length=1:=by omega
    have hsz:=AI hx
    rw[KF hx1]at hsz
    have m0:=AA (l:=x.kids) (i:=0) (by omega)
    have hbz:AS x=0:=by unfold AS;rw[c1,if_neg hkb.1,if_neg hkb.2.1,if_neg hkb.2.2.1,if_neg hkb.2.2.2]
    have hcon:=ih x (by simp) (x.kids.getD 0 .nil) m0 c5 (d+AS x) _ (B4 hpx _ m0) (by omega) (by omega) (u2 0 (by omega))
    refine⟨?_,by simp[a2,p3]⟩
    rw[Bg,a1,Bool.and_true,CG p0,LD hpx hk' hq,p1,p3,c1,c2,c3,hcon]
    simp[u1,hx1]
open Ex in
theorem Ph {D:Int}{s:Tree}(hD:0≤D)(hs:∀(d:Int) y,0≤d→d≤549755813888→Bb d 0 s 0=some y→AG y=true)(T:Tree):Ko D s T:=by
 suffices h:Ko D s T∧∀x∈T.kids,Ko D s x from h.1
 induction T using Tree.ind' with
 | h0=>exact⟨fun h=>(by rw[AG]at h;cases h),fun x hx=>(by cases hx)⟩
 | h1 T hT ih =>
  refine⟨fun h d m hp h0 h1 hm=>?_,fun x hx=>(ih x hx).1⟩
  have hlim:lim=1099511627776:=rfl
  have hsz:=AI hT
  have hbd:=C2 T
  have two:T.kids.length=2→AV T.kids=AD (T.kids.getD 0 .nil)+AD (T.kids.getD 1 .nil):=by
   intro h
   match T.kids,h with
   | [a,b],_=>simp[AV]
  by_cases hk0:T.kind=110
  ·rcases WD hp hk0 ⟨h0,by omega⟩ hD hm with⟨_,_,r3⟩|⟨r1,r2,rfl⟩|⟨_,rfl⟩
   ·exact hs d m h0 (by omega) r3
   ·exact XK (by cases T with
     | nil=>exact absurd rfl hT
     | node k n nm mk l =>
      have:=(hp.inv.2.1 hk0).2.2
      have r1:d≤n:=r1
      have r2:D < n - d:=r2
      show 0≤n - 1∧n - 1≤65536
      omega)
   ·exact h
  ·obtain⟨p0,p1,p2,p3,p4,p5⟩:=ID hp hk0 hm
   obtain⟨u1,u2⟩:=I5 hp hk0 ⟨h0,by omega⟩ hm
   have hpk:=B4 hp
   rw[wrap64 (by omega) (by omega)]at p5
   rw[Am hT,Bool.and_eq_true]at h
   obtain⟨hb,h⟩:=h
   have e110:(T.kind == 110)=false:=by simpa using hk0
   rw[e110]at hb
   rw[Am p0,p1,e110,LD hp hk0 hm,hb,Bool.true_and]
   rw[if_neg hk0]at h ⊢
   by_cases hk1:T.kind=111∨T.kind=112∨T.kind=113
   ·rw[if_pos hk1]at h ⊢;rw[u1];exact h
   rw[if_neg hk1]at h ⊢
   by_cases hk2:T.kind=114∨T.kind=120
   ·rw[if_pos hk2]at h ⊢
    simp only[Bool.and_eq_true,beq_iff_eq]at h ⊢
    have h2:=two (by omega)
    have m0:=AA (l:=T.kids) (i:=0) (by omega)
    have m1:=AA (l:=T.kids) (i:=1) (by omega)
    exact⟨⟨by rw[u1];exact h.1.1,(ih _ m0).1 h.1.2 _ _ (hpk _ m0) (by omega) (by omega) (u2 0 (by omega))⟩,(ih _ m1).1 h.2 _ _ (hpk _ m1) (by omega) (by omega) (u2 1 (by omega))⟩
   rw[if_neg hk2]at h ⊢
   by_cases hk3:T.kind=115
   ·rw[if_pos hk3]at h ⊢
    rw[Bool.and_eq_true]at h ⊢
    obtain⟨f1,f2⟩:=Hj (by decide) (by decide) h.1 (fun x hx=>(ih x hx).2) hpk (by omega) (by omega) p5
    exact⟨f1,by rw[Fw f2];exact h.2⟩
   rw[if_neg hk3]at h ⊢
   by_cases hk4:T.kind=117∨T.kind=118∨T.kind=119
   ·rw[if_pos hk4]at h ⊢
    simp only[Bool.and_eq_true,beq_iff_eq]at h ⊢
    have h2:=two (by omega)
    have m0:=AA (l:=T.kids) (i:=0) (by omega)
    have m1:=AA (l:=T.kids) (i:=1) (by omega)
    exact⟨⟨by rw[u1];exact h.1.1,Ui _ h.1.2 _ _ (hpk _ m0) (by omega) (by omega) (u2 0 (by omega))⟩,(ih _ m1).1 h.2 _ _ (hpk _ m1) (by omega) (by omega) (u2 1 (by omega))⟩
   rw[if_neg hk4]at h ⊢
   by_cases hk5:T.kind=121
   ·rw[if_pos hk5]at h ⊢
    simp only[Bool.and_eq_true,decide_eq_true_eq]at h ⊢
    obtain⟨f1,f2⟩:=Hj (by decide) (by decide) h.1.2 (fun x hx=>(ih x hx).2) hpk (by omega) (by omega) p5
    exact⟨⟨by rw[u1];exact h.1.1,f1⟩,by rw[Fm _ f2];exact h.2⟩
   ·rw[if_neg hk5]at h;cases h
theorem Qy {N B s:Tree}(h:Ax N 0 B=(s,0)):conE s=0:=by
 obtain⟨h1,h2,_,h4⟩:=Ki.NF h
 have hlim:lim=1099511627776:=rfl
 have z1:=Al h1
 have z2:=Al h2
 have hs:AG s=true:=by
  refine (Ph (Int.le_refl 0) (fun d y hd hd1 hy=>?_) N) (Ak h1).2 0 s (Aa h1) (by omega) (by omega) h4
  rw[Dm d 0 B 0 (Aa h2) (by omega) (by omega)]at hy
  exact (Ak (IF (SW d 0) h2 hy)).2
 refine Db hs ?_
 rw[D5,Et,if_pos h1,if_pos h2,ifn]at h
 by_cases q:EL N 0 B
 ·rw[if_pos q]at h;cases h
 ·have hsz:=GP 0 B N 0 s h4 (Aa h1)
  have hh:=HZ 0 N 0
  have hm:((AT 0 N 0*AD B:Nat):Int)=(AT 0 N 0:Int)*(AD B:Int):=by push_cast;rfl
  have e1:=Dh 0 N 0 (by omega)
  have e2:=Ck B (by omega)
  have e3:=Ck N (by omega)
  have m0:(AT 0 N 0:Int)*AD B≤65536*65536:=by
   have:AT 0 N 0*AD B≤65536*65536:=Nat.mul_le_mul (by omega) (by omega)
   omega
  unfold EL at q
  rw[e1,e2,e3]at q
  rw[wrap64 (x:=(AT 0 N 0:Int)*AD B) (by omega) (by omega),wrap64 (x:=(AD N:Int) - AT 0 N 0) (by omega) (by omega),wrap64 (x:=(AD N:Int) - AT 0 N 0+_) (by omega) (by omega)]at q
  omega
theorem ON {B c:Tree}(hB:conE B=0)(hc:conE c=0):(Ax B 0 c).2=0∨(Ax B 0 c).2=3:=by
 rw[D5,Et,if_pos hB,if_pos hc,ifn]
 by_cases q:EL B 0 c
 ·rw[if_pos q];exact .inr rfl
 ·rw[if_neg q]
  by_cases q2:(BM 0 c B 0).isSome=true
  ·rw[if_pos q2];exact .inl rfl
  ·rw[if_neg q2];exact .inr rfl
theorem Em:∀{l:List Tree} {B:Tree},conE B=0→(∀c∈l,conE c=0)→((Mc.AN l B).2=0∧conE (Mc.AN l B).1=0)∨(Mc.AN l B).2=3
 | [],B,hB,_=>by rw[Mc.AN];exact .inl ⟨rfl,hB⟩
 | c::l,B,hB,hl=>by
  rw[Mc.AN]
  rcases ON hB (hl c (by simp)) with q|q
  ·rw[if_pos q]
   exact Em (Qy (Prod.ext rfl q:Ax B 0 c=((Ax B 0 c).1,0))) fun x hx=>hl x (by simp[hx])
  ·rw[ifn];exact .inr q
theorem IJ:∀{l:List Tree} {B:Tree},conE B=0→Bv B≤0→(∀c∈l,conE c=0)→Mc.AN l B=(B,0)
 | [],B,_,_,_=>by rw[Mc.AN]
 | c::l,B,hB,hf,hl=>by
  rw[Mc.AN,Sb.Nl hB (hl c (by simp)) hf,if_pos rfl]
  exact IJ hB hf fun x hx=>hl x (by simp[hx])
end Cn
end Go.Proofs.YtlgajkoplklkiaaGreat
namespace Go.Proofs.YtlgajkoplklkiaaGreat
namespace Mc
open Go Go.Mq Cn Tm
def okC (e:Ev):Prop:=∀c∈AL e,conE c=0∧Cl (toC c)
inductive L2 (V:Vl→Vl→Prop):List Vl→List Vl→Prop
 | nil:L2 V [] []
 | cons {a b:Vl} {l m:List Vl} (h:V a b) (t:L2 V l m):L2 V (a::l) (b::m)
def posF (k:Int)(i:Nat):Nat :=
 if k=134∨k=139 then (if i=1 then 2 else 0)
 else if k=136 then 3
 else if k=140 then (if i=0 then 2 else 1)
 else if k=141 then (if i=0 then 1 else if i=1 then 2 else 0)
 else if k=146 then (if i=0 then 1 else 2)
 else if k=147 then (if i=0 then 2 else 3)
 else if k=148 then (if i=0 then 2 else if i=1 then 0 else 3)
 else 2
def bc (k:Int)(i:Nat):Nat:=if i≠1 then 0 else if k=139∨k=142 then 1 else 0
def bt (k:Int)(i:Nat):Nat:=if i≠1 then 0 else if k=134∨k=143∨k=142 then 1 else 0
def bf (k:Int):Nat:=if k=136 then 0 else 1
def inn (x:Tree):Tree:=x.kids.getD 0 .nil
inductive CR (V:Vl→Vl→Prop):Nat→Nat→Tree→Ev→Tree→Ev→Prop
 | loc {t d:Nat} {T T':Tree} {e e':Ev} (h:T.kind=130) (h':T'.kind=130) (hn:T.n < t) (he:T'.n=T.n):CR V t d T e T' e'
 | none {t d:Nat} {T T':Tree} {e e':Ev} (h:T.kind=130) (h':T'.kind=130) (hn:(t:Int)≤T.n) (hn':(t:Int)≤T'.n) (ha:atE e (T.n - t)=.none) (ha':atE e' (T'.n - t)=.none):CR V t d T e T' e'
 | look {t d:Nat} {T T':Tree} {e e':Ev} {v v':Vl} (h:T.kind=130) (h':T'.kind=130) (hn:(t:Int)≤T.n) (hn':(t:Int)≤T'.n) (ha:atE e (T.n - t)=some v) (ha':atE e' (T'.n - t)=some v') (hv:V v v'):CR V t d T e T' e'
 | val {t d:Nat} {T T':Tree} {e e':Ev} {v:Vl} (k:Nat) (g:Ev→Vl) (h:T.kind=130) (hn:(t:Int)≤T.n) (ha:atE e (T.n - t)=some v) (hg:∀x,okC x→bsD k T' x=(g x,0)) (hv:∀x,okC x→V v (g x)):CR V t d T e T' e'
 | sem {T T':Tree} {e e':Ev} (f:Nat→Nat) (h:∀k,(bsD k T e).2≠99→(bsD k T e).2=3∨(bsD k T e).2=18∨((bsD (f k) T' e').2≠99∧((bsD (f k) T' e').2=3∨(bsD (f k) T' e').2=18∨(bsD (f k) T' e').2=(bsD k T e).2))) (hv:∀k,(bsD k T e).2=0→(bsD (f k) T' e').2=0→V (bsD k T e).1 (bsD (f k) T' e').1):CR V 0 0 T e T' e'
 | node {t d:Nat} {T T':Tree} {e e':Ev} (hk:T'.kind=T.kind) (hlo:131≤T.kind) (hn:T'.n=T.n) (hnm:T'.name=T.name) (hl:T'.kids.length=T.kids.length)
   (har:T.kind=134∨T.kind=139∨T.kind=140∨T.kind=141∨T.kind=146→2≤T.kids.length)
   (hc:∀i,posF T.kind i=1→i < T.kids.length→conE (T.kids.getD i .nil)=0∧conE (T'.kids.getD i .nil)=0∧Sc (d+(AL e).length) (toC (T.kids.getD i .nil))∧sub (upN d (envS (AL e))) (toC (T.kids.getD i .nil))=sub (upN d (envS (AL e'))) (toC (T'.kids.getD i .nil)))
   (ht:∀i,posF T.kind i=2→i < T.kids.length→CR V (t+bt T.kind i) (d+bc T.kind i) (T.kids.getD i .nil) e (T'.kids.getD i .nil) e')
   (hfn:∀i,posF T.kind i=3→i < T.kids.length→(T'.kids.getD i .nil).name=(T.kids.getD i .nil).name)
   (hf:∀i,posF T.kind i=3→i < T.kids.length→CR V (t+bf T.kind) d (inn (T.kids.getD i .nil)) e (inn (T'.kids.getD i .nil)) e'):CR V t d T e T' e'
inductive VR:Vl→Vl→Prop
 | num (n:Int):VR (.num n) (.num n)
 | tru (b:Bool):VR (.tru b) (.tru b)
 | unt:VR .unt .unt
 | rcd {ls:List ByteArray} {ps ps':List Vl} (h:L2 VR ps ps'):VR (.rcd ls ps) (.rcd ls ps')
 | tag {nm:ByteArray} {s:Tree} {p p':Vl} (h:VR p p'):VR (.tag nm s p) (.tag nm s p')
 | clo {ty:Bool} {b b':Tree} {e e':Ev} (ho:okC e) (ho':okC e') (h:CR VR (if ty then 0 else 1) (if ty then 1 else 0) b e b' e'):VR (.clo ty b e) (.clo ty b' e')
 | pkd {c:Tree} {p p':Vl} (hc:conE c=0) (hcl:Cl (toC c)) (h:VR p p'):VR (.pkd c p) (.pkd c p')
theorem FR {v:Vl}{e:Ev}{i:Int}(h:i≠0):atE (.val v e) i=atE e (i - 1):=by rw[atE,if_neg h]
theorem He {v:Vl}{e:Ev}:atE (.val v e) 0=some v:=by rw[atE,if_pos rfl]
theorem CR.put {V:Vl→Vl→Prop}{v v':Vl}(hv:V v v'){t1 d:Nat}{T T':Tree}{e e':Ev}(h:CR V t1 d T e T' e'):∀t,t1=t+1→CR V t d T (.val v e) T' (.val v' e'):=by
 induction h with
 | @loc t1 d T T' e e' h h' hn he =>
  rintro t rfl
  by_cases q:T.n < t
  ·exact .loc h h' q he
  ·have e1:T.n - (t:Int)=0:=by omega
   have e2:T'.n - (t:Int)=0:=by omega
   exact .look h h' (by omega) (by omega) (by rw[e1];exact He) (by rw[e2];exact He) hv
 | @none t1 d T T' e e' h h' hn hn' ha ha' =>
  rintro t rfl
  refine .none h h' (by omega) (by omega) ?_ ?_
  ·rw[FR (by omega),←ha];congr 1;omega
  ·rw[FR (by omega),←ha'];congr 1;omega
 | @look t1 d T T' e e' w w' h h' hn hn' ha ha' hw =>
  rintro t rfl
  refine .look h h' (by omega) (by omega) ?_ ?_ hw
  ·rw[FR (by omega),←ha];congr 1;omega
  ·rw[FR (by omega),←ha'];congr 1;omega
 | @val t1 d T T' e e' w k g h hn ha hg hw =>
  rintro t rfl
  refine .val k g h (by omega) ?_ hg hw
  rw[FR (by omega),←ha];congr 1;omega
 | sem=>rintro t q;cases q
 | node hk hlo hn hnm hl har hc ht hfn hf iht ihf =>
  rintro t rfl
  exact .node hk hlo hn hnm hl har hc (fun i h1 h2=>iht i h1 h2 _ (by omega)) hfn (fun i h1 h2=>ihf i h1 h2 _ (by omega))
theorem SS {c:Tree}(hc:Cl (toC c))(l:List Tree)(d:Nat)(B:Cn):sub (upN d (envS (c::l))) B=sub (upN d (s0 (toC c))) (sub (upN (d+1) (envS l)) B):=by
 rw[sub_sub]
 refine Bl _ fun n=>?_
 show _=sub (upN d (s0 (toC c))) (upN d (up (envS l)) n)
 rw[Nw]
 refine GM (fun n=>?_) d n
 cases n with
 | zero=>rw[F7,hc];show _=sub _ (Cn.var 0);rw[CK];rfl
 | succ n=>rw[Hx];exact (Im (envS l n) (toC c)).symm
theorem SC:∀{l:List Tree} (_:∀c∈l,Cl (toC c)) {n:Nat},n < l.length→Cl (envS l n)
 | [],_,n,hn=>absurd hn (Nat.not_lt_zero _)
 | c::l,h,0,_=>by
  have hc:=h c (by simp)
  rw[F7,hc];exact hc
 | c::l,h,n+1,hn=>by rw[Hx];exact SC (fun x hx=>h x (by simp[hx])) (by simpa using hn)
theorem P6 {l:List Tree}(h:∀c∈l,Cl (toC c)){B:Cn}(hB:Sc l.length B):Cl (sub (envS l) B):=fun s=>by
 rw[sub_sub]
 exact hB _ _ fun n hn=>SC h hn s
theorem CR.putc {V:Vl→Vl→Prop}{c:Tree}(hcl:Cl (toC c)){t d1:Nat}{T T':Tree}{e e':Ev}(h:CR V t d1 T e T' e'):∀d,d1=d+1→CR V t d T (.con c e) T' (.con c e'):=by
 induction h with
 | loc h h' hn he=>rintro d rfl;exact .loc h h' hn he
 | none h h' hn hn' ha ha'=>rintro d rfl;exact .none h h' hn hn' (by rw[atE];exact ha) (by rw[atE];exact ha')
 | look h h' hn hn' ha ha' hw=>rintro d rfl;exact .look h h' hn hn' (by rw[atE];exact ha) (by rw[atE];exact ha') hw
 | val k g h hn ha hg hw=>rintro d rfl;exact .val k g h hn (by rw[atE];exact ha) hg hw
 | sem=>rintro d q;cases q
 | @node t1 d1 T T' e e' hk hlo hn hnm hl har hc ht hfn hf iht ihf =>
  rintro d rfl
  refine .node hk hlo hn hnm hl har (fun i h1 h2=>?_) (fun i h1 h2=>iht i h1 h2 _ (by omega)) hfn (fun i h1 h2=>ihf i h1 h2 _ (by omega))
  obtain⟨g1,g2,g3,g4⟩:=hc i h1 h2
  refine⟨g1,g2,by rw[show d+(AL (.con c e)).length=d+1+(AL e).length from by show d+((AL e).length+1)=_;omega];exact g3,?_⟩
  show sub (upN d (envS (c::AL e))) _=sub (upN d (envS (c::AL e'))) _
  rw[SS hcl,SS hcl,g4]
def exc (r:R2):Prop:=r.2=3∨r.2=18
def RR (r r':R2):Prop:=r'.2≠99∧(exc r'∨(r'.2=r.2∧(r.2=0→VR r.1 r'.1)))
def To (r:R2)(F:Nat→R2):Prop:=exc r∨∃k,RR r (F k)
def Mono (F:Nat→R2):Prop:=∀k d,(F k).2≠99→F (k+d)=F k
theorem To.bind {R r1:R2}{A:Vl→R2}{F F1:Nat→R2}{B:Nat→Vl→R2}(hR:R=if r1.2=0 then A r1.1 else (.unt,r1.2))
  (hF:∀k,F k=if (F1 k).2=0 then B k (F1 k).1 else (.unt,(F1 k).2)) (m1:Mono F1) (mB:∀v,Mono fun k=>B k v)
  (h1:r1.2≠99→To r1 F1) (h2:r1.2=0→∀v',VR r1.1 v'→(A r1.1).2≠99→To (A r1.1) fun k=>B k v') (h9:R.2≠99):To R F:=by
 by_cases q:r1.2=0
 ·rw[if_pos q]at hR
  rcases h1 (by omega) with h|⟨k1,h,hh⟩
  ·rcases h with h|h<;>omega
  ·rcases hh with hh|⟨e1,e2⟩
   ·refine .inr ⟨k1,?_⟩
    rw[hF,if_neg (by rcases hh with hh|hh<;>omega)]
    exact⟨h,.inl hh⟩
   ·rcases h2 q _ (e2 q) (by rw[←hR];exact h9) with h|⟨k2,h3,h4⟩
    ·exact .inl (by rw[hR];exact h)
    ·refine .inr ⟨k1+k2,?_⟩
     have e3:F1 (k1+k2)=F1 k1:=m1 _ _ h
     have e4:B (k1+k2) (F1 k1).1=B k2 (F1 k1).1:=by rw[Nat.add_comm];exact mB _ _ _ h3
     rw[hF,e3,ifp,e4,hR]
     exact⟨h3,h4⟩
 ·rw[if_neg q]at hR
  have h9':r1.2≠99:=by rw[hR]at h9;exact h9
  rcases h1 h9' with h|⟨k1,h,hh⟩
  ·exact .inl (by rw[hR];exact h)
  ·refine .inr ⟨k1,?_⟩
   rw[hR,hF]
   rcases hh with hh|⟨e1,e2⟩
   ·rw[if_neg (by rcases hh with hh|hh<;>omega)]
    exact⟨h,.inl hh⟩
   ·rw[ifn,e1]
    exact⟨h9',.inr ⟨rfl,fun e=>absurd e q⟩⟩
theorem To.up {r:R2}{F:Nat→R2}(h:To r fun k=>F (k+1)):To r F:=by
 rcases h with h|⟨k,h⟩
 ·exact .inl h
 ·exact .inr ⟨k+1,h⟩
theorem To.const {r r':R2}(h:RR r r'):To r fun _=>r':=.inr ⟨0,h⟩
theorem To.err {e:Int}(h:e≠99)(h0:e≠0):To (.unt,e) fun _=>(.unt,e):=.const ⟨h,.inr ⟨rfl,fun q=>absurd q h0⟩⟩
theorem To.ok {v v':Vl}(h:VR v v'):To (v,0) fun _=>(v',0):=.const ⟨show (0:Int)≠99 by decide,.inr ⟨rfl,fun _=>h⟩⟩
theorem Ix (T:Tree)(e:Ev):Mono fun k=>bsD k T e:=fun k d h=>Eg h d
theorem Qo (r:R2):Mono fun _=>r:=fun _ _ _=>rfl
theorem UR:∀(k:Nat) (e:Ev),(bsD k .nil e).2=99
 | 0,e=>by rw[bsD]
 | k+1,e=>by
  rw[BH]
  have h:=UR k e
  have hk:Tree.nil.kids.getD 0 .nil=.nil:=rfl
  unfold As
  have hz:Tree.nil.kind=0:=rfl
  rw[hk,hz,if_neg (by decide),if_neg (by decide),if_neg (by decide),if_neg (by decide),if_neg (by decide),if_neg (by decide),if_neg (by decide),if_pos (by rw[h];decide)]
  exact h
theorem PM {k:Nat}{l:List Tree}{i:Nat}{e:Ev}(h:(bsD k (l.getD i .nil) e).2≠99):i < l.length:=by
 by_cases q:i < l.length
 ·exact q
 ·rw[show l.getD i .nil=.nil by simp[List.getD_eq_getElem?_getD,List.getElem?_eq_none (show l.length≤i by omega)]]at h
  exact absurd (UR k e) h
theorem Li {l l':List Tree}{c c':Tree}(hl:∀x∈l,conE x=0∧Cl (toC x))(hl':∀x∈l',conE x=0∧Cl (toC x))(h1:conE c=0)(h2:conE c'=0)(h3:Sc l.length (toC c))(h4:sub (envS l) (toC c)=sub (envS l') (toC c')) :
  (AN l c).2=3∨(AN l' c').2=3∨((AN l c).2=0∧(AN l' c').2=0∧(AN l' c').1=(AN l c).1∧conE (AN l c).1=0∧Cl (toC (AN l c).1)):=by
 rcases Em h1 fun x hx=>(hl x hx).1 with⟨a1,a2⟩|a
 ·rcases Em h2 fun x hx=>(hl' x hx).1 with⟨b1,b2⟩|b
  ·refine .inr (.inr ⟨a1,b1,?_,a2,?_⟩)
   ·exact WE b2 a2 (by rw[FI a1,FI b1,h4])
   ·rw[FI a1];exact P6 (fun x hx=>(hl x hx).2) h3
  ·exact .inr (.inl b)
 ·exact .inl a
theorem L2.len {V:Vl→Vl→Prop}{l m:List Vl}(h:L2 V l m):m.length=l.length:=by
 induction h with
 | nil=>rfl
 | cons _ _ ih=>simp[ih]
theorem L2.app {V:Vl→Vl→Prop}{l m:List Vl}(h:L2 V l m){a b:Vl}(hv:V a b):L2 V (l++[a]) (m++[b]):=by
 induction h with
 | nil=>exact .cons hv .nil
 | cons h1 _ ih=>exact .cons h1 ih
theorem L2.drop {V:Vl→Vl→Prop}{l m:List Vl}(h:L2 V l m):L2 V (l.drop 1) (m.drop 1):=by
 cases h with
 | nil=>exact .nil
 | cons _ t=>exact t
theorem L2.get0 {l m:List Vl}(h:L2 VR l m):VR (l.getD 0 .unt) (m.getD 0 .unt):=by
 cases h with
 | nil=>exact .unt
 | cons h _=>exact h
theorem L2.look {s:ByteArray}{l m:List Vl}(h:L2 VR l m):∀ls:List ByteArray,(CN s ls l=none∧CN s ls m=none)∨∃v v',CN s ls l=some v∧CN s ls m=some v'∧VR v v':=by
 induction h with
 | nil =>
  intro ls
  have:∀ls:List ByteArray,CN s ls []=none:=fun ls=>by
   cases ls with
   | nil=>rw[CN];intro a b c d e;cases e
   | cons=>rw[CN];intro a b c d _ e;cases e
  exact .inl ⟨this ls,this ls⟩
 | @cons a b l m h t ih =>
  intro ls
  cases ls with
  | nil=>left;constructor<;>(rw[CN];intro a b c d e;cases e)
  | cons x ls =>
   rw[CN,CN]
   by_cases q:x=s
   ·rw[if_pos q,if_pos q];exact .inr ⟨_,_,rfl,rfl,h⟩
   ·rw[if_neg q,if_neg q];exact ih ls
def AR (V:Vl→Vl→Prop)(t:Nat)(e e':Ev)(l l':List Tree):Prop:=l'.length=l.length∧∀i,i < l.length→(l'.getD i .nil).name=(l.getD i .nil).name∧CR V t 0 (inn (l.getD i .nil)) e (inn (l'.getD i .nil)) e'
theorem AR.tail {V:Vl→Vl→Prop}{t:Nat}{e e':Ev}{x x':Tree}{l l':List Tree}(h:AR V t e e' (x::l) (x'::l')):x'.name=x.name∧CR V t 0 (inn x) e (inn x') e'∧AR V t e e' l l':=by
 obtain⟨h1,h2⟩:=h
 refine⟨(h2 0 (by simp)).1,(h2 0 (by simp)).2,by simpa using h1,fun i hi=>?_⟩
 have:=h2 (i+1) (by simpa using hi)
 simpa using this
theorem AR.arm {V:Vl→Vl→Prop}{t:Nat}{e e':Ev}{nm:ByteArray}:∀{l l':List Tree},AR V t e e' l l'→(armF nm l=none∧armF nm l'=none)∨∃b b',armF nm l=some b∧armF nm l'=some b'∧CR V t 0 b e b' e'
 | [],[],_=>.inl ⟨by rw[armF],by rw[armF]⟩
 | [],x::l,h=>by have:=h.1;simp at this
 | x::l,[],h=>by have:=h.1;simp at this
 | x::l,x'::l',h=>by
  obtain⟨h1,h2,h3⟩:=h.tail
  rw[armF,armF,h1]
  by_cases q:x.name=nm
  ·rw[if_pos q,if_pos q];exact .inr ⟨_,_,rfl,rfl,h2⟩
  ·rw[if_neg q,if_neg q];exact h3.arm
def simE (k:Nat):Prop:=∀T e T' e',CR VR 0 0 T e T' e'→okC e→okC e'→(bsD k T e).2≠99→To (bsD k T e) fun k'=>bsD k' T' e'
def simO (k:Nat):Prop:=∀T e T' e' nm s p p',AR VR 1 e e' (T.kids.drop 2) (T'.kids.drop 2)→okC e→okC e'→VR p p'→(foD k T nm s p e).2≠99→To (foD k T nm s p e) fun k'=>foD k' T' nm s p' e'
theorem Ep {v:Vl}{e:Ev}(h:okC e):okC (.val v e):=h
theorem Hy {c:Tree}{e:Ev}(h1:conE c=0)(h2:Cl (toC c))(h:okC e):okC (.con c e):=fun x hx=>by
 rcases List.mem_cons.1 hx with rfl|hx
 ·exact⟨h1,h2⟩
 ·exact h x hx
theorem SO {k:Nat}(H:simE k){e e':Ev}(he:okC e)(he':okC e'):∀{l l':List Tree},AR VR 0 e e' l l'→∀(ls:List ByteArray) {ps ps':List Vl},L2 VR ps ps'→(recB (bsD k) e l ls ps).2≠99→To (recB (bsD k) e l ls ps) fun k'=>recB (bsD k') e' l' ls ps'
 | [],[],_,ls,ps,ps',hp,_=>by
  have e1:∀k',recB (bsD k') e' [] ls ps'=(.rcd ls ps',0):=fun _=>by rw[recB]
  simp only[e1]
  rw[recB];exact .ok (.rcd hp)
 | [],x::l,h,_,_,_,_,_=>by have:=h.1;simp at this
 | x::l,[],h,_,_,_,_,_=>by have:=h.1;simp at this
 | x::l,x'::l',h,ls,ps,ps',hp,h9=>by
  obtain⟨h1,h2,h3⟩:=h.tail
  refine To.bind (r1:=bsD k (inn x) e) (A:=fun v=>recB (bsD k) e l (ls++[x.name]) (ps++[v])) (F1:=fun k'=>bsD k' (inn x') e') (B:=fun k' v=>recB (bsD k') e' l' (ls++[x'.name]) (ps'++[v])) (by rw[recB];rfl) (fun k'=>by rw[recB];rfl) (Ix _ _) (fun v k' d h=>JX (JY k' d) _ _ _ _ h) (fun q=>H _ _ _ _ h2 he he' q) (fun q v' hv q9=>?_) h9
  rw[h1]
  exact SO H he he' h3 _ (hp.app hv) q9
theorem YD {k:Nat}(H:simO k){T T':Tree}{e e':Ev}(ha:AR VR 1 e e' (T.kids.drop 2) (T'.kids.drop 2))(he:okC e)(he':okC e')(c:Tree) :
  (∀x x',VR x x'→(unrB (foD k) T e c x).2≠99→To (unrB (foD k) T e c x) fun k'=>unrB (foD k') T' e' c x')∧∀y∈c.kids,∀x x',VR x x'→(unrB (foD k) T e y x).2≠99→To (unrB (foD k) T e y x) fun k'=>unrB (foD k') T' e' y x':=by
 induction c using Tree.ind' with
 | h0 =>
  refine⟨fun x x' hx _=>?_,fun x hx=>by cases hx⟩
  have e1:∀k',unrB (foD k') T' e' .nil x'=(x',0):=fun _=>by rw[unrB]
  simp only[e1]
  rw[unrB];exact .ok hx
 | h1 c hc ih =>
  refine⟨fun x x' hx h9=>?_,fun y hy=>(ih y hy).1⟩
  cases c with
  | nil=>exact absurd rfl hc
  | node kk n nm mk l =>
   rw[Dk]at h9 ⊢
   have e1:∀k',unrB (foD k') T' e' (.node kk n nm mk l) x'=_:=fun k'=>Dk (foD k') T' e' kk n nm mk l x'
   simp only[e1]
   by_cases hv:kk=110∧n=0
   ·rw[if_pos hv]at h9 ⊢
    simp only[if_pos hv]
    cases hx with
    | tag hp=>exact H _ _ _ _ _ _ _ _ ha he he' hp h9
    | _=>exact .err (by decide) (by decide)
   ·rw[if_neg hv]at h9 ⊢
    simp only[if_neg hv]
    cases hx with
    | @rcd ls ps ps' hp =>
     dsimp only at h9 ⊢
     rw[hp.len]
     by_cases hl:kk=115∧l.length=ps.length
     ·rw[if_pos hl]at h9 ⊢
      simp only[if_pos hl]
      have key:∀(l':List Tree),(∀y∈l',∀z∈y.kids,∀x x',VR x x'→(unrB (foD k) T e z x).2≠99→To (unrB (foD k) T e z x) fun k'=>unrB (foD k') T' e' z x') →
        ∀(a:List ByteArray) (b b':List Vl) (w w':Vl) (al:List ByteArray) (o o':List Vl),L2 VR b b'→VR w w'→L2 VR o o'→(BG (foD k) T e l' a b w al o).2≠99→To (BG (foD k) T e l' a b w al o) fun k'=>BG (foD k') T' e' l' a b' w' al o':=by
       intro l'
       induction l' with
       | nil =>
        intro _ a b b' w w' al o o' hb hw ho _
        have e1:∀k',BG (foD k') T' e' [] a b' w' al o'=(.rcd al o',0):=fun _=>by rw[BG]
        simp only[e1]
        rw[BG];exact .ok (.rcd ho)
       | cons y l' ih2 =>
        intro hy0 a b b' w w' al o o' hb hw ho h9
        by_cases hn:y.name=a.getD 0 ByteArray.empty
        ·have hz:∀x x',VR x x'→(unrB (foD k) T e (inn y) x).2≠99→To (unrB (foD k) T e (inn y) x) fun k'=>unrB (foD k') T' e' (inn y) x':=by
          unfold inn
          cases hk:y.kids with
          | nil =>
           intro x x' hx _
           have e1:∀k',unrB (foD k') T' e' (([]:List Tree).getD 0 .nil) x'=(x',0):=fun _=>by simp only[List.getD_nil];rw[unrB]
           simp only[e1]
           simp only[List.getD_nil];rw[unrB];exact .ok hx
          | cons z zs=>exact hy0 y (by simp) z (by rw[hk];simp)
         refine To.bind (r1:=unrB (foD k) T e (inn y) (b.getD 0 .unt)) (A:=fun v=>BG (foD k) T e l' (a.drop 1) (b.drop 1) w al (o++[v])) (F1:=fun k'=>unrB (foD k') T' e' (inn y) (b'.getD 0 .unt)) (B:=fun k' v=>BG (foD k') T' e' l' (a.drop 1) (b'.drop 1) w' al (o'++[v])) (by rw[BG,if_pos hn,DH];rfl) (fun k'=>by rw[BG,if_pos hn,DH];rfl) (fun k' d h=>(H8 (Iv k' d) T' e' _).1 _ h) (fun v k' d h=>?_) (fun q=>hz _ _ hb.get0 q) (fun q v' hv q9=>?_) h9
         ·exact PE (Iv k' d) T' e' l' _ _ _ _ _ h
         ·exact ih2 (fun z hz=>hy0 z (by simp[hz])) _ _ _ _ _ _ _ _ hb.drop hw (ho.app hv) q9
        ·have e1:∀k',BG (foD k') T' e' (y::l') a b' w' al o'=(w',0):=fun _=>by rw[BG,if_neg hn]
         simp only[e1]
         rw[BG,if_neg hn];exact .ok hw
      exact key l (fun y hy z hz=>(ih y hy).2 z hz) _ _ _ _ _ _ _ _ hp (.rcd hp) .nil h9
     ·rw[if_neg hl]
      simp only[if_neg hl];exact .ok (.rcd hp)
    | num n=>exact .ok (.num n)
    | tru b=>exact .ok (.tru b)
    | unt=>exact .ok .unt
    | tag hp=>exact .ok (.tag hp)
    | clo h1 h2 h3=>exact .ok (.clo h1 h2 h3)
    | pkd h1 h2 h3=>exact .ok (.pkd h1 h2 h3)
theorem Kn:∀{e:Ev} {i:Int},i < 0→atE e i=none
 | .nil,i,_=>by rw[atE]
 | .con c e,i,h=>by rw[atE];exact Kn h
 | .val v e,i,h=>by rw[atE,ifn];exact Kn (by omega)
theorem ZS {n:Int}{a a' b b':Vl}(ha:VR a a')(hb:VR b b')(h9:(opB n a b).2≠99):To (opB n a b) fun _=>opB n a' b':=by
 cases ha with
 | num x =>
  cases hb with
  | num y =>
   refine .const ⟨h9,.inr ⟨rfl,fun _=>?_⟩⟩
   show VR (ite _ _ _:R2).1 (ite _ _ _:R2).1
   by_cases h1:n=4
   ·rw[if_pos h1];exact .tru _
   rw[if_neg h1]
   by_cases h2:n≠1∧n≠2∧n≠3
   ·rw[if_pos h2];exact .tru _
   rw[if_neg h2]
   by_cases h3:IntKind.i64.wrap (if n=1 then x+y else if n=2 then x - y else x*y) < -1073741824∨1073741824 < IntKind.i64.wrap (if n=1 then x+y else if n=2 then x - y else x*y)
   ·rw[if_pos h3];exact .unt
   ·rw[if_neg h3];exact .num _
  | _=>exact .err (by decide) (by decide)
 | _=>exact .err (by decide) (by decide)
theorem AR.drop {V:Vl→Vl→Prop}{t:Nat}{e e':Ev}{l l':List Tree}{j:Nat}(hl:l'.length=l.length)(hn:∀i,j≤i→i < l.length→(l'.getD i .nil).name=(l.getD i .nil).name)(hc:∀i,j≤i→i < l.length→CR V t 0 (inn (l.getD i .nil)) e (inn (l'.getD i .nil)) e'):AR V t e e' (l.drop j) (l'.drop j):=by
 refine⟨by simp[hl],fun i hi=>?_⟩
 have hg:∀m:List Tree,(m.drop j).getD i .nil=m.getD (j+i) .nil:=fun m=>by simp[List.getD_eq_getElem?_getD]
 rw[hg,hg]
 have hi':j+i < l.length:=by simp at hi;omega
 exact⟨hn _ (by omega) hi',hc _ (by omega) hi'⟩
section
variable {k : Nat} {T T' : Tree} {e e' : Ev}
theorem VA (H:simE k)(hk:T'.kind=T.kind)(hnm:T'.name=T.name)(h6:T.kind=146∨T.kind=141)(hc:conE (T.kids.getD 0 .nil)=0∧conE (T'.kids.getD 0 .nil)=0∧Sc (0+(AL e).length) (toC (T.kids.getD 0 .nil))∧sub (upN 0 (envS (AL e))) (toC (T.kids.getD 0 .nil))=sub (upN 0 (envS (AL e'))) (toC (T'.kids.getD 0 .nil)))
  (ht:CR VR 0 0 (T.kids.getD 1 .nil) e (T'.kids.getD 1 .nil) e') (he:okC e) (he':okC e') (h9:(D4 (bsD k) T e).2≠99):To (D4 (bsD k) T e) fun k'=>D4 (bsD k') T' e':=by
 obtain⟨c1,c2,c3,c4⟩:=hc
 rw[Nat.zero_add]at c3
 refine To.bind (r1:=bsD k (T.kids.getD 1 .nil) e) (A:=fun v=>if (AN (AL e) (T.kids.getD 0 .nil)).2=0 then (if T.kind=146 then .tag T.name (AN (AL e) (T.kids.getD 0 .nil)).1 v else .pkd (AN (AL e) (T.kids.getD 0 .nil)).1 v,0) else (.unt,(AN (AL e) (T.kids.getD 0 .nil)).2))
  (F1:=fun k'=>bsD k' (T'.kids.getD 1 .nil) e') (B:=fun _ v=>if (AN (AL e') (T'.kids.getD 0 .nil)).2=0 then (if T'.kind=146 then .tag T'.name (AN (AL e') (T'.kids.getD 0 .nil)).1 v else .pkd (AN (AL e') (T'.kids.getD 0 .nil)).1 v,0) else (.unt,(AN (AL e') (T'.kids.getD 0 .nil)).2))
  rfl (fun _=>rfl) (Ix _ _) (fun v=>Qo _) (fun q=>H _ _ _ _ ht he he' q) (fun q v' hv q9=>?_) h9
 rcases Li he he' c1 c2 c3 c4 with h|h|⟨h1,h2,h3,h4,h5⟩
 ·rw[ifn];exact .inl (.inl h)
 ·refine .const ⟨?_,.inl ?_⟩
  ·rw[ifn];show (AN (AL e') (T'.kids.getD 0 .nil)).2≠99;omega
  ·rw[ifn];exact .inl h
 ·rw[if_pos h1]
  simp only[if_pos h2]
  refine .ok ?_
  rw[h3,hk,hnm]
  by_cases q:T.kind=146
  ·rw[if_pos q,if_pos q];exact .tag hv
  ·rw[if_neg q,if_neg q];exact .pkd h4 h5 hv
theorem Xa (H:simE k)(HO:simO k)(hk:T'.kind=T.kind)(hn:T'.n=T.n)(hnm:T'.name=T.name)(hl:T'.kids.length=T.kids.length)
   (har:T.kind=134∨T.kind=139∨T.kind=140∨T.kind=141∨T.kind=146→2≤T.kids.length)
   (hc:∀i,posF T.kind i=1→i < T.kids.length→conE (T.kids.getD i .nil)=0∧conE (T'.kids.getD i .nil)=0∧Sc (0+(AL e).length) (toC (T.kids.getD i .nil))∧sub (upN 0 (envS (AL e))) (toC (T.kids.getD i .nil))=sub (upN 0 (envS (AL e'))) (toC (T'.kids.getD i .nil)))
   (ht:∀i,posF T.kind i=2→i < T.kids.length→CR VR (0+bt T.kind i) (0+bc T.kind i) (T.kids.getD i .nil) e (T'.kids.getD i .nil) e')
   (hfn:∀i,posF T.kind i=3→i < T.kids.length→(T'.kids.getD i .nil).name=(T.kids.getD i .nil).name)
   (hf:∀i,posF T.kind i=3→i < T.kids.length→CR VR (0+bf T.kind) 0 (inn (T.kids.getD i .nil)) e (inn (T'.kids.getD i .nil)) e') (he:okC e) (he':okC e') {x x':Vl} (hx:VR x x') (h9:(useB (bsD k) (foD k) T x e).2≠99):To (useB (bsD k) (foD k) T x e) fun k'=>useB (bsD k') (foD k') T' x' e':=by
 unfold useB at h9 ⊢
 cases hx with
 | num n=>exact .err (by decide) (by decide)
 | unt=>exact .err (by decide) (by decide)
 | @rcd ls ps ps' hp =>
  dsimp only at h9 ⊢
  rw[hnm,hk]
  rcases hp.look ls with⟨h1,h2⟩|⟨v,v',h1,h2,h3⟩
  ·rw[h1,h2];exact .err (by decide) (by decide)
  ·rw[h1,h2]
   dsimp only
   by_cases q:T.kind=138
   ·simp only[if_pos q];exact .ok h3
   ·simp only[if_neg q];exact .err (by decide) (by decide)
 | tru b =>
  dsimp only at h9 ⊢
  rw[hk]
  by_cases q:T.kind=144
  ·rw[if_pos q]at h9 ⊢
   simp only[if_pos q]
   have hb:∀i,i < T.kids.length→CR VR 0 0 (T.kids.getD i .nil) e (T'.kids.getD i .nil) e':=fun i hi=>by
    have:=ht i (by unfold posF;rw[q];rfl) hi
    have e1:bt T.kind i=0:=by unfold bt;rw[q];split<;>rfl
    have e2:bc T.kind i=0:=by unfold bc;rw[q];split<;>rfl
    rw[e1,e2]at this;exact this
   exact H _ _ _ _ (hb _ (PM h9)) he he' h9
  ·rw[if_neg q]
   simp only[if_neg q]
   exact .err (by decide) (by decide)
 | @clo ty b b' ρ ρ' ho ho' hb =>
  dsimp only at h9 ⊢
  rw[hk]
  by_cases q:T.kind=140∧ty=true
  ·rw[if_pos q]at h9 ⊢
   simp only[if_pos q]
   obtain⟨q1,rfl⟩:=q
   obtain⟨c1,c2,c3,c4⟩:=hc 1 (by unfold posF;rw[q1];rfl) (by have:=har (by omega);omega)
   rw[Nat.zero_add]at c3
   rcases Li he he' c1 c2 c3 c4 with h|h|⟨h1,h2,h3,h4,h5⟩
   ·rw[ifn];exact .inl (.inl h)
   ·simp only[if_neg (show ¬(AN (AL e') (T'.kids.getD 1 .nil)).2=0 by omega)]
    exact .const ⟨show (AN (AL e') (T'.kids.getD 1 .nil)).2≠99 by omega,.inl (.inl h)⟩
   ·rw[if_pos h1]at h9 ⊢
    simp only[if_pos h2]
    rw[h3]
    exact H _ _ _ _ (hb.putc h5 0 rfl) (Hy h4 h5 ho) (Hy h4 h5 ho') h9
  ·rw[if_neg q]
   simp only[if_neg q]
   exact .err (by decide) (by decide)
 | @pkd c p p' hc1 hc2 hp =>
  dsimp only at h9 ⊢
  rw[hk]
  by_cases q:T.kind=142
  ·rw[if_pos q]at h9 ⊢
   simp only[if_pos q]
   have hb:=ht 1 (by unfold posF;rw[q];rfl) (PM h9)
   rw[q]at hb
   exact H _ _ _ _ ((hb.putc hc2 0 rfl).put hp 0 rfl) (Ep (Hy hc1 hc2 he)) (Ep (Hy hc1 hc2 he')) h9
  ·rw[if_neg q]
   simp only[if_neg q]
   exact .err (by decide) (by decide)
 | @tag nm s p p' hp =>
  dsimp only at h9 ⊢
  rw[hk]
  by_cases q:T.kind=147
  ·rw[if_pos q]at h9 ⊢
   simp only[if_pos q]
   have hp3:∀i,1≤i→posF T.kind i=3:=fun i hi=>by
    unfold posF
    rw[q,if_neg (by decide),if_neg (by decide),if_neg (by decide),if_neg (by decide),if_neg (by decide),if_pos rfl,ifn]
   have hA:AR VR 1 e e' (T.kids.drop 1) (T'.kids.drop 1):=AR.drop hl (fun i h1 h2=>hfn i (hp3 i h1) h2) (fun i h1 h2=>by have:=hf i (hp3 i h1) h2;rw[q]at this;exact this)
   rcases hA.arm (nm:=nm) with⟨h1,h2⟩|⟨b,b',h1,h2,h3⟩
   ·rw[h1,h2];exact .err (by decide) (by decide)
   ·rw[h1]at h9 ⊢
    rw[h2]
    exact H _ _ _ _ (h3.put hp 0 rfl) he he' h9
  ·rw[if_neg q]at h9 ⊢
   simp only[if_neg q]
   by_cases q8:T.kind=148
   ·rw[if_pos q8]at h9 ⊢
    simp only[if_pos q8]
    have hp3:∀i,2≤i→posF T.kind i=3:=fun i hi=>by
     unfold posF
     rw[q8,if_neg (by decide),if_neg (by decide),if_neg (by decide),if_neg (by decide),if_neg (by decide),if_neg (by decide),if_pos rfl,ifn,ifn]
    have hA:AR VR 1 e e' (T.kids.drop 2) (T'.kids.drop 2):=AR.drop hl (fun i h1 h2=>hfn i (hp3 i h1) h2) (fun i h1 h2=>by have:=hf i (hp3 i h1) h2;rw[q8]at this;exact this)
    exact HO _ _ _ _ _ _ _ _ hA he he' hp h9
   ·rw[if_neg q8]
    simp only[if_neg q8]
    exact .err (by decide) (by decide)
theorem VW (H:simE k)(HO:simO k)(hlo:131≤T.kind)(hk:T'.kind=T.kind)(hn:T'.n=T.n)(hnm:T'.name=T.name)(hl:T'.kids.length=T.kids.length)
   (har:T.kind=134∨T.kind=139∨T.kind=140∨T.kind=141∨T.kind=146→2≤T.kids.length)
   (hc:∀i,posF T.kind i=1→i < T.kids.length→conE (T.kids.getD i .nil)=0∧conE (T'.kids.getD i .nil)=0∧Sc (0+(AL e).length) (toC (T.kids.getD i .nil))∧sub (upN 0 (envS (AL e))) (toC (T.kids.getD i .nil))=sub (upN 0 (envS (AL e'))) (toC (T'.kids.getD i .nil)))
   (ht:∀i,posF T.kind i=2→i < T.kids.length→CR VR (0+bt T.kind i) (0+bc T.kind i) (T.kids.getD i .nil) e (T'.kids.getD i .nil) e')
   (hfn:∀i,posF T.kind i=3→i < T.kids.length→(T'.kids.getD i .nil).name=(T.kids.getD i .nil).name)
   (hf:∀i,posF T.kind i=3→i < T.kids.length→CR VR (0+bf T.kind) 0 (inn (T.kids.getD i .nil)) e (inn (T'.kids.getD i .nil)) e') (he:okC e) (he':okC e') (h9:(As (bsD k) (foD k) T e).2≠99):To (As (bsD k) (foD k) T e) fun k'=>As (bsD k') (foD k') T' e':=by
 unfold As at h9 ⊢
 rw[hk,hn]
 have h0:¬T.kind=130:=by omega
 rw[if_neg h0]at h9 ⊢
 simp only[if_neg h0]
 by_cases c1:T.kind=131
 ·rw[if_pos c1];simp only[if_pos c1];exact .ok (.num _)
 rw[if_neg c1]at h9 ⊢;simp only[if_neg c1]
 by_cases c2:T.kind=132
 ·rw[if_pos c2];simp only[if_pos c2];exact .ok (.tru _)
 rw[if_neg c2]at h9 ⊢;simp only[if_neg c2]
 by_cases c3:T.kind=133
 ·rw[if_pos c3];simp only[if_pos c3];exact .ok .unt
 rw[if_neg c3]at h9 ⊢;simp only[if_neg c3]
 by_cases c4:T.kind=134∨T.kind=139
 ·rw[if_pos c4];simp only[if_pos c4]
  refine .ok (.clo he he' ?_)
  have:=ht 1 (by unfold posF;rw[if_pos c4];rfl) (by have:=har (by omega);omega)
  rcases c4 with q|q
  ·rw[q]at this ⊢;exact this
  ·rw[q]at this ⊢;exact this
 rw[if_neg c4]at h9 ⊢;simp only[if_neg c4]
 by_cases c5:T.kind=136
 ·rw[if_pos c5]at h9 ⊢;simp only[if_pos c5]
  have hp3:∀i,posF T.kind i=3:=fun i=>by unfold posF;rw[if_neg c4,if_pos c5]
  refine SO H he he' ⟨hl,fun i hi=>⟨hfn i (hp3 i) hi,?_⟩⟩ _ .nil h9
  have:=hf i (hp3 i) hi
  rw[c5]at this;exact this
 rw[if_neg c5]at h9 ⊢;simp only[if_neg c5]
 by_cases c6:T.kind=146∨T.kind=141
 ·rw[if_pos c6]at h9 ⊢;simp only[if_pos c6]
  have p0:posF T.kind 0=1:=by rcases c6 with q|q<;>(unfold posF;rw[q];rfl)
  have p1:posF T.kind 1=2:=by rcases c6 with q|q<;>(unfold posF;rw[q];rfl)
  have hlen:=har (by omega)
  have t1:=ht 1 p1 (by omega)
  have e1:bt T.kind 1=0:=by rcases c6 with q|q<;>(unfold bt;rw[q];rfl)
  have e2:bc T.kind 1=0:=by rcases c6 with q|q<;>(unfold bc;rw[q];rfl)
  rw[e1,e2]at t1
  exact VA H hk hnm c6 (hc 0 p0 (by omega)) t1 he he' h9
 rw[if_neg c6]at h9 ⊢;simp only[if_neg c6]
 have p0:posF T.kind 0=2:=by
  unfold posF
  rw[if_neg c4,if_neg c5]
  by_cases q:T.kind=140
  ·rw[if_pos q];rfl
  rw[if_neg q,ifn,ifn]
  by_cases q:T.kind=147
  ·rw[if_pos q];rfl
  rw[if_neg q]
  by_cases q:T.kind=148
  ·rw[if_pos q];rfl
  rw[if_neg q]
 have e1:bt T.kind 0=0:=by unfold bt;rw[if_pos (by decide)]
 have e2:bc T.kind 0=0:=by unfold bc;rw[if_pos (by decide)]
 have hg0:(bsD k (T.kids.getD 0 .nil) e).2≠99→CR VR 0 0 (T.kids.getD 0 .nil) e (T'.kids.getD 0 .nil) e':=fun q=>by
  have:=ht 0 p0 (PM q)
  rw[e1,e2]at this;exact this
 refine To.bind (r1:=bsD k (T.kids.getD 0 .nil) e) (A:=fun a=>if T.kind=135∨T.kind=145 then
    (if (bsD k (T.kids.getD 1 .nil) e).2≠0 then (.unt,(bsD k (T.kids.getD 1 .nil) e).2)
    else if T.kind=145 then opB T.n a (bsD k (T.kids.getD 1 .nil) e).1
    else match (generalizing:=false) a with
     | .clo false body ρ=>bsD k body (.val (bsD k (T.kids.getD 1 .nil) e).1 ρ)
     | _=>(.unt,20))
  else if T.kind=143 then bsD k (T.kids.getD 1 .nil) (.val a e)
  else useB (bsD k) (foD k) T a e)
  (F1:=fun k'=>bsD k' (T'.kids.getD 0 .nil) e')
  (B:=fun k' a=>if T.kind=135∨T.kind=145 then
    (if (bsD k' (T'.kids.getD 1 .nil) e').2≠0 then (.unt,(bsD k' (T'.kids.getD 1 .nil) e').2)
    else if T.kind=145 then opB T.n a (bsD k' (T'.kids.getD 1 .nil) e').1
    else match (generalizing:=false) a with
     | .clo false body ρ=>bsD k' body (.val (bsD k' (T'.kids.getD 1 .nil) e').1 ρ)
     | _=>(.unt,20))
  else if T.kind=143 then bsD k' (T'.kids.getD 1 .nil) (.val a e')
  else useB (bsD k') (foD k') T' a e')
  (by rw[ite_not];try rfl) (fun k'=>by rw[ite_not];try rfl) (Ix _ _) (fun v k' d h=>?_) (fun q=>H _ _ _ _ (hg0 q) he he' q) (fun q0 a' ha q9=>?_) h9
 ·by_cases c7:T.kind=135∨T.kind=145
  ·simp only[if_pos c7]at h ⊢
   by_cases b0:(bsD k' (T'.kids.getD 1 .nil) e').2=0
   ·simp only[if_neg (show ¬(bsD k' (T'.kids.getD 1 .nil) e').2≠0 from fun q=>q b0)]at h ⊢
    rw[Eg (n99 b0) d]
    simp only[if_neg (show ¬(bsD k' (T'.kids.getD 1 .nil) e').2≠0 from fun q=>q b0)]
    by_cases c8:T.kind=145
    ·simp only[if_pos c8]
    ·simp only[if_neg c8]at h ⊢
     cases v with
     | clo ty body ρ =>
      cases ty with
      | false=>exact Eg h d
      | true=>rfl
     | _=>rfl
   ·simp only[if_pos b0]at h ⊢
    rw[Eg h d]
    simp only[if_pos b0]
  ·simp only[if_neg c7]at h ⊢
   by_cases c9:T.kind=143
   ·simp only[if_pos c9]at h ⊢
    exact Eg h d
   ·simp only[if_neg c9]at h ⊢
    exact Sv (JY k' d) (Iv k' d) _ _ _ h
 ·by_cases c7:T.kind=135∨T.kind=145
  ·simp only[if_pos c7]at q9 ⊢
   have p1:posF T.kind 1=2:=by rcases c7 with q|q<;>(unfold posF;rw[q];rfl)
   have e3:bt T.kind 1=0:=by rcases c7 with q|q<;>(unfold bt;rw[q];rfl)
   have e4:bc T.kind 1=0:=by rcases c7 with q|q<;>(unfold bc;rw[q];rfl)
   refine To.bind (r1:=bsD k (T.kids.getD 1 .nil) e) (A:=fun b=>if T.kind=145 then opB T.n (bsD k (T.kids.getD 0 .nil) e).1 b
    else match (generalizing:=false) (bsD k (T.kids.getD 0 .nil) e).1 with
     | .clo false body ρ=>bsD k body (.val b ρ)
     | _=>(.unt,20))
    (F1:=fun k'=>bsD k' (T'.kids.getD 1 .nil) e') (B:=fun k' b=>if T.kind=145 then opB T.n a' b
    else match (generalizing:=false) a' with
     | .clo false body ρ=>bsD k' body (.val b ρ)
     | _=>(.unt,20)) (by rw[ite_not];try rfl) (fun k'=>by rw[ite_not];try rfl) (Ix _ _) (fun v k' d h=>?_) (fun q=>H _ _ _ _ (by have:=ht 1 p1 (PM q);rw[e3,e4]at this;exact this) he he' q) (fun q1 b' hb q10=>?_) q9
   ·by_cases c8:T.kind=145
    ·simp only[if_pos c8]
    ·simp only[if_neg c8]at h ⊢
     cases a' with
     | clo ty body ρ =>
      cases ty with
      | false=>exact Eg h d
      | true=>rfl
     | _=>rfl
   ·by_cases c8:T.kind=145
    ·simp only[if_pos c8]at q10 ⊢
     exact ZS ha hb q10
    ·simp only[if_neg c8]at q10 ⊢
     generalize (bsD k (T.kids.getD 0 .nil) e).1=a at ha q10 ⊢
     cases ha with
     | @clo ty bo bo' ρ ρ' ho ho' hbo =>
      cases ty with
      | false=>exact H _ _ _ _ (hbo.put hb 0 rfl) (Ep ho) (Ep ho') q10
      | true=>exact .err (by decide) (by decide)
     | _=>exact .err (by decide) (by decide)
  ·simp only[if_neg c7]at q9 ⊢
   by_cases c9:T.kind=143
   ·simp only[if_pos c9]at q9 ⊢
    have hb:=ht 1 (by unfold posF;rw[c9];rfl) (PM q9)
    rw[c9]at hb
    exact H _ _ _ _ (hb.put ha 0 rfl) (Ep he) (Ep he') q9
   ·simp only[if_neg c9]at q9 ⊢
    exact Xa H HO hk hn hnm hl har hc ht hfn hf he he' ha q9
theorem WL (H:simE k)(HO:simO k){nm:ByteArray}{s:Tree}{p p':Vl}(hA:AR VR 1 e e' (T.kids.drop 2) (T'.kids.drop 2))(he:okC e)(he':okC e')(hp:VR p p')(h9:(Fa (bsD k) (foD k) T nm s p e).2≠99):To (Fa (bsD k) (foD k) T nm s p e) fun k'=>Fa (bsD k') (foD k') T' nm s p' e':=by
 unfold Fa at h9 ⊢
 by_cases n0:(No.Ac s).2=0
 ·simp only[if_neg (show ¬(No.Ac s).2≠0 from fun q=>q n0)]at h9 ⊢
  rcases hA.arm (nm:=nm) with⟨h1,h2⟩|⟨b,b',h1,h2,h3⟩
  ·rw[h1,h2];exact .err (by decide) (by decide)
  ·rw[h1]at h9 ⊢
   rw[h2]
   dsimp only at h9 ⊢
   by_cases n1:(No.Ac s).1.kind=121
   ·simp only[if_neg (show ¬(No.Ac s).1.kind≠121 from fun q=>q n1)]at h9 ⊢
    cases hc1:armF nm (No.Ac s).1.kids with
    | none=>exact .err (by decide) (by decide)
    | some c =>
     rw[hc1]at h9
     dsimp only at h9 ⊢
     refine To.bind (r1:=unrB (foD k) T e c p) (A:=fun v=>bsD k b (.val v e)) (F1:=fun k'=>unrB (foD k') T' e' c p') (B:=fun k' v=>bsD k' b' (.val v e')) (by rw[ite_not];try rfl) (fun k'=>by rw[ite_not];try rfl) (fun k' d h=>(H8 (Iv k' d) T' e' c).1 _ h) (fun v=>Ix _ _) (fun q=>(YD HO hA he he' c).1 _ _ hp q) (fun q v' hv q9=>H _ _ _ _ (h3.put hv 0 rfl) (Ep he) (Ep he') q9) h9
   ·simp only[if_pos n1];exact .err (by decide) (by decide)
 ·simp only[if_pos n0]at h9 ⊢
  exact .err h9 n0
end
theorem Sf:∀k,simE k∧simO k
 | 0=>⟨fun T e T' e' _ _ _ h=>by rw[bsD]at h;exact absurd rfl h,fun T e T' e' nm s p p' _ _ _ _ h=>by rw[foD]at h;exact absurd rfl h⟩
 | k+1=>by
  obtain⟨H,HO⟩:=Sf k
  refine⟨fun T e T' e' hC he he' h9=>?_,fun T e T' e' nm s p p' hA he he' hp h9=>To.up ?_⟩
  ·have h9':=h9
   rw[BH]at h9
   cases hC with
   | loc h h' hn hne =>
    have ha:atE e T.n=none:=Kn (by omega)
    have ha':atE e' T'.n=none:=Kn (by omega)
    refine To.up ?_
    simp only[BH]
    unfold As
    rw[if_pos h,ha]
    simp only[if_pos h',ha']
    exact .err (by decide) (by decide)
   | none h h' hn hn' ha ha' =>
    refine To.up ?_
    simp only[BH]
    unfold As
    rw[show T.n - ((0:Nat):Int)=T.n by omega]at ha
    rw[show T'.n - ((0:Nat):Int)=T'.n by omega]at ha'
    rw[if_pos h,ha]
    simp only[if_pos h',ha']
    exact .err (by decide) (by decide)
   | look h h' hn hn' ha ha' hv =>
    refine To.up ?_
    simp only[BH]
    unfold As
    rw[show T.n - ((0:Nat):Int)=T.n by omega]at ha
    rw[show T'.n - ((0:Nat):Int)=T'.n by omega]at ha'
    rw[if_pos h,ha]
    simp only[if_pos h',ha']
    exact .ok hv
   | val j g h hn ha hg hv =>
    refine .inr ⟨j,?_⟩
    show RR _ (bsD j T' e')
    rw[hg _ he',BH]
    unfold As
    rw[show T.n - ((0:Nat):Int)=T.n by omega]at ha
    rw[if_pos h,ha]
    exact⟨show (0:Int)≠99 by decide,.inr ⟨rfl,fun _=>hv _ he'⟩⟩
   | sem f h hv =>
    rcases h (k+1) h9' with q|q|⟨q1,q2⟩
    ·exact .inl (.inl q)
    ·exact .inl (.inr q)
    ·refine .inr ⟨f (k+1),q1,?_⟩
     rcases q2 with q|q|q
     ·exact .inl (.inl q)
     ·exact .inl (.inr q)
     ·exact .inr ⟨q,fun q0=>hv (k+1) q0 (by rw[q];exact q0)⟩
   | node hk hlo hn hnm hl har hc ht hfn hf =>
    refine To.up ?_
    simp only[BH]
    exact VW H HO hlo hk hn hnm hl har hc ht hfn hf he he' h9
  ·rw[IK]at h9
   simp only[IK]
   exact WL H HO hA he he' hp h9
end Mc
end Go.Proofs.YtlgajkoplklkiaaGreat
namespace Go.Proofs.YtlgajkoplklkiaaGreat
namespace Mc
open Go Go.Mq Cn Tm Sb
theorem Ct {k:Int}{i:Nat}(h:posF k i=3):(k=136∨(k=147∧1≤i)∨(k=148∧2≤i)):=by
 unfold posF at h
 by_cases c1:k=134∨k=139
 ·rw[if_pos c1]at h;split at h<;>cases h
 rw[if_neg c1]at h
 by_cases c2:k=136
 ·exact .inl c2
 rw[if_neg c2]at h
 by_cases c3:k=140
 ·rw[if_pos c3]at h;split at h<;>cases h
 rw[if_neg c3]at h
 by_cases c4:k=141
 ·rw[if_pos c4]at h;split at h
  ·cases h
  ·split at h<;>cases h
 rw[if_neg c4]at h
 by_cases c5:k=146
 ·rw[if_pos c5]at h;split at h<;>cases h
 rw[if_neg c5]at h
 by_cases c6:k=147
 ·rw[if_pos c6]at h
  by_cases q:i=0
  ·rw[if_pos q]at h;cases h
  ·exact .inr (.inl ⟨c6,by omega⟩)
 rw[if_neg c6]at h
 by_cases c7:k=148
 ·rw[if_pos c7]at h
  by_cases q:i=0
  ·rw[if_pos q]at h;cases h
  rw[if_neg q]at h
  by_cases q:i=1
  ·rw[if_pos q]at h;cases h
  ·exact .inr (.inr ⟨c7,by omega⟩)
 rw[if_neg c7]at h;cases h
theorem FW {kind:Int}:∀{l:List Tree},Bf kind l=true→∀x∈l,A9 kind x=true
 | [],_,x,hx=>by cases hx
 | y::l,h,x,hx=>by
  rw[Bf,Bool.and_eq_true]at h
  rcases List.mem_cons.1 hx with rfl|hx
  ·exact h.1
  ·exact FW h.2 x hx
theorem EW {l:List Tree}{i j:Nat}(h:j≤i)(hi:i < l.length):l.getD i .nil∈l.drop j:=by
 have:(l.drop j).getD (i - j) .nil=l.getD i .nil:=by simp[List.getD_eq_getElem?_getD,show j+(i - j)=i by omega]
 rw[←this]
 exact AA (by simp;omega)
theorem PA {T:Tree}(h:AF T=true)(hk:T.kind≠130) :
  (T.kind=134∨T.kind=139∨T.kind=140∨T.kind=141∨T.kind=146→2≤T.kids.length) ∧
  (∀i,posF T.kind i=1→i < T.kids.length→AG (T.kids.getD i .nil)=true) ∧
  (∀i,posF T.kind i=2→i < T.kids.length→AF (T.kids.getD i .nil)=true) ∧
  (∀i,posF T.kind i=3→i < T.kids.length→A9 (if T.kind=136 then 137 else 149) (T.kids.getD i .nil)=true):=by
 have hT:T≠.nil:=by intro e;subst e;rw[AF]at h;cases h
 rw[At hT,Bool.and_eq_true]at h
 have h:=h.2
 by_cases c1:T.kind=130∨T.kind=131∨T.kind=132∨T.kind=133
 ·rw[if_pos c1]at h
  have hl:T.kids.length=0:=by simpa using h
  exact⟨fun _=>by omega,fun i _ hi=>by omega,fun i _ hi=>by omega,fun i _ hi=>by omega⟩
 rw[if_neg c1]at h
 by_cases c2:T.kind=134∨T.kind=146
 ·rw[if_pos c2]at h
  simp only[Bool.and_eq_true,decide_eq_true_eq]at h
  refine⟨fun _=>by omega,fun i hp hi=>?_,fun i hp hi=>?_,fun i hp hi=>?_⟩
  ·have:i=0∨i=1:=by omega
   rcases this with rfl|rfl
   ·exact h.1.2
   ·rcases c2 with q|q<;>(rw[q]at hp;cases hp)
  ·have:i=0∨i=1:=by omega
   rcases this with rfl|rfl
   ·rcases c2 with q|q<;>(rw[q]at hp;cases hp)
   ·exact h.2
  ·rcases Ct hp with q|⟨q,_⟩|⟨q,_⟩<;>omega
 rw[if_neg c2]at h
 by_cases c3:T.kind=139
 ·rw[if_pos c3]at h
  simp only[Bool.and_eq_true,decide_eq_true_eq]at h
  refine⟨fun _=>by omega,fun i hp hi=>?_,fun i hp hi=>?_,fun i hp hi=>?_⟩
  ·have:i=0∨i=1:=by omega
   rcases this with rfl|rfl<;>(rw[c3]at hp;cases hp)
  ·have:i=0∨i=1:=by omega
   rcases this with rfl|rfl
   ·rw[c3]at hp;cases hp
   ·exact h.2
  ·rcases Ct hp with q|⟨q,_⟩|⟨q,_⟩<;>omega
 rw[if_neg c3]at h
 by_cases c4:T.kind=135∨T.kind=142∨T.kind=143∨T.kind=145
 ·rw[if_pos c4]at h
  simp only[Bool.and_eq_true,decide_eq_true_eq]at h
  refine⟨fun _=>by omega,fun i hp hi=>?_,fun i hp hi=>?_,fun i hp hi=>?_⟩
  ·rcases c4 with q|q|q|q<;>(rw[q]at hp;cases hp)
  ·have:i=0∨i=1:=by omega
   rcases this with rfl|rfl
   ·exact h.1.2
   ·exact h.2
  ·rcases Ct hp with q|⟨q,_⟩|⟨q,_⟩<;>omega
 rw[if_neg c4]at h
 by_cases c5:T.kind=136
 ·rw[if_pos c5]at h
  simp only[Bool.and_eq_true]at h
  refine⟨fun _=>by omega,fun i hp hi=>?_,fun i hp hi=>?_,fun i hp hi=>?_⟩
  ·rw[c5]at hp;cases hp
  ·rw[c5]at hp;cases hp
  ·rw[if_pos c5];exact FW h.1 _ (AA hi)
 rw[if_neg c5]at h
 by_cases c6:T.kind=138
 ·rw[if_pos c6]at h
  simp only[Bool.and_eq_true,decide_eq_true_eq]at h
  refine⟨fun _=>by omega,fun i hp hi=>?_,fun i hp hi=>?_,fun i hp hi=>?_⟩
  ·rw[c6]at hp;cases hp
  ·have:i=0:=by omega
   subst this;exact h.2
  ·rw[c6]at hp;cases hp
 rw[if_neg c6]at h
 by_cases c7:T.kind=140
 ·rw[if_pos c7]at h
  simp only[Bool.and_eq_true,decide_eq_true_eq]at h
  refine⟨fun _=>by omega,fun i hp hi=>?_,fun i hp hi=>?_,fun i hp hi=>?_⟩
  ·have:i=0∨i=1:=by omega
   rcases this with rfl|rfl
   ·rw[c7]at hp;cases hp
   ·exact h.2
  ·have:i=0∨i=1:=by omega
   rcases this with rfl|rfl
   ·exact h.1.2
   ·rw[c7]at hp;cases hp
  ·rcases Ct hp with q|⟨q,_⟩|⟨q,_⟩<;>omega
 rw[if_neg c7]at h
 by_cases c8:T.kind=141
 ·rw[if_pos c8]at h
  simp only[Bool.and_eq_true,decide_eq_true_eq]at h
  refine⟨fun _=>by omega,fun i hp hi=>?_,fun i hp hi=>?_,fun i hp hi=>?_⟩
  ·have:i=0∨i=1∨i=2:=by omega
   rcases this with rfl|rfl|rfl
   ·exact h.1.1.2
   ·rw[c8]at hp;cases hp
   ·rw[c8]at hp;cases hp
  ·have:i=0∨i=1∨i=2:=by omega
   rcases this with rfl|rfl|rfl
   ·rw[c8]at hp;cases hp
   ·exact h.1.2
   ·rw[c8]at hp;cases hp
  ·rcases Ct hp with q|⟨q,_⟩|⟨q,_⟩<;>omega
 rw[if_neg c8]at h
 by_cases c9:T.kind=144
 ·rw[if_pos c9]at h
  simp only[Bool.and_eq_true,decide_eq_true_eq]at h
  refine⟨fun _=>by omega,fun i hp hi=>?_,fun i hp hi=>?_,fun i hp hi=>?_⟩
  ·rw[c9]at hp;cases hp
  ·have:i=0∨i=1∨i=2:=by omega
   rcases this with rfl|rfl|rfl
   ·exact h.1.1.2
   ·exact h.1.2
   ·exact h.2
  ·rw[c9]at hp;cases hp
 rw[if_neg c9]at h
 by_cases c10:T.kind=147
 ·rw[if_pos c10]at h
  simp only[Bool.and_eq_true,decide_eq_true_eq]at h
  refine⟨fun _=>by omega,fun i hp hi=>?_,fun i hp hi=>?_,fun i hp hi=>?_⟩
  ·rw[c10]at hp;unfold posF at hp;rw[if_neg (by decide),if_neg (by decide),if_neg (by decide),if_neg (by decide),if_neg (by decide),if_pos rfl]at hp;split at hp<;>cases hp
  ·by_cases q:i=0
   ·subst q;exact h.1.1.2
   ·rw[c10]at hp;unfold posF at hp;rw[if_neg (by decide),if_neg (by decide),if_neg (by decide),if_neg (by decide),if_neg (by decide),if_pos rfl,if_neg q]at hp;cases hp
  ·have:1≤i:=by rcases Ct hp with q|⟨_,q⟩|⟨q,_⟩<;>omega
   rw[if_neg c5];exact FW h.1.2 _ (EW this hi)
 rw[if_neg c10]at h
 by_cases c11:T.kind=148
 ·rw[if_pos c11]at h
  simp only[Bool.and_eq_true,decide_eq_true_eq]at h
  refine⟨fun _=>by omega,fun i hp hi=>?_,fun i hp hi=>?_,fun i hp hi=>?_⟩
  ·rw[c11]at hp;unfold posF at hp;rw[if_neg (by decide),if_neg (by decide),if_neg (by decide),if_neg (by decide),if_neg (by decide),if_neg (by decide),if_pos rfl]at hp;split at hp
   ·cases hp
   ·split at hp<;>cases hp
  ·by_cases q:i=0
   ·subst q;exact h.1.1.1.2
   ·rw[c11]at hp;unfold posF at hp;rw[if_neg (by decide),if_neg (by decide),if_neg (by decide),if_neg (by decide),if_neg (by decide),if_neg (by decide),if_pos rfl,if_neg q]at hp;split at hp<;>cases hp
  ·have:2≤i:=by rcases Ct hp with q|⟨q,_⟩|⟨_,q⟩<;>omega
   rw[if_neg c5];exact FW h.1.2 _ (EW this hi)
 rw[if_neg c11]at h;cases h
theorem JA {T:Tree}(h:AF T=true):130≤T.kind∧T.kind≤148:=by
 have:=(BR h).1.kind;omega
theorem Ee {k:Int}(hk:k≤148)(i:Nat):(bndF k i).2.toNat=bt k i∧(bndF k i).1.toNat=bc k i:=by
 unfold bndF bt bc
 rw[if_neg (show ¬k=149 by omega)]
 by_cases h1:i≠1
 ·rw[if_pos h1,if_pos h1,if_pos h1];exact⟨rfl,rfl⟩
 rw[if_neg h1,if_neg h1,if_neg h1]
 by_cases h2:k=139
 ·rw[if_pos h2,if_neg (show ¬(k=134∨k=143∨k=142) by omega),if_pos (show k=139∨k=142 from .inl h2)];exact⟨rfl,rfl⟩
 rw[if_neg h2]
 by_cases h3:k=142
 ·rw[if_pos h3,if_pos (show k=134∨k=143∨k=142 by omega),if_pos (show k=139∨k=142 from .inr h3)];exact⟨rfl,rfl⟩
 rw[if_neg h3,if_neg (show ¬(k=139∨k=142) by omega)]
 by_cases h4:k=134∨k=143
 ·rw[if_pos h4,if_pos (show k=134∨k=143∨k=142 by omega)];exact⟨rfl,rfl⟩
 ·rw[if_neg h4,if_neg (show ¬(k=134∨k=143∨k=142) by omega)];exact⟨rfl,rfl⟩
structure Cor (V:Vl→Vl→Prop)(e e':Ev)(P:Nat→Nat→Tree→Tree→Prop):Prop where
 var:∀t d T T',P t d T T'→AF T=true→T.kind=130→CR V t d T e T' e'
 con:∀t d c c',P t d c c'→AG c=true→conE c=0∧conE c'=0∧Sc (d+(AL e).length) (toC c)∧sub (upN d (envS (AL e))) (toC c)=sub (upN d (envS (AL e'))) (toC c')
 node:∀t d T T',P t d T T'→Shw T→131≤T.kind→T'.kind=T.kind∧T'.n=T.n∧T'.name=T.name∧T'.kids.length=T.kids.length∧∀i,i < T.kids.length→P (t+(bndF T.kind i).2.toNat) (d+(bndF T.kind i).1.toNat) (T.kids.getD i .nil) (T'.kids.getD i .nil)
theorem Cor.all {V:Vl→Vl→Prop}{e e':Ev}{P:Nat→Nat→Tree→Tree→Prop}(H:Cor V e e' P)(T:Tree) :
  (AF T=true→∀t d T',P t d T T'→CR V t d T e T' e')∧∀x∈T.kids,AF x=true→∀t d T',P t d x T'→CR V t d x e T' e':=by
 induction T using Tree.ind' with
 | h0=>exact⟨fun h=>(by rw[AF]at h;cases h),fun x hx=>by cases hx⟩
 | h1 T hT ih =>
  refine⟨fun h t d T' hP=>?_,fun x hx=>(ih x hx).1⟩
  by_cases hk:T.kind=130
  ·exact H.var t d T T' hP h hk
  have hlo:=JA h
  obtain⟨g1,g2,g3,g4,g5⟩:=H.node t d T T' hP (.inr (.inl h)) (by omega)
  obtain⟨p1,p2,p3,p4⟩:=PA h hk
  have hfield:∀i,posF T.kind i=3→i < T.kids.length→(T'.kids.getD i .nil).name=(T.kids.getD i .nil).name∧CR V (t+bf T.kind) d (inn (T.kids.getD i .nil)) e (inn (T'.kids.getD i .nil)) e':=fun i hp hi=>by
   have hm:=AA hi
   have hf:=p4 i hp hi
   obtain⟨q1,q2,q3,q4,q5⟩:=AK hf
   have hp5:=g5 i hi
   have hb:(bndF T.kind i).2.toNat=0∧(bndF T.kind i).1.toNat=0:=by
    rw[(Ee hlo.2 i).1,(Ee hlo.2 i).2]
    unfold bt bc
    rcases Ct hp with q|⟨q,_⟩|⟨q,_⟩<;>(rw[q];split<;>exact⟨rfl,rfl⟩)
   rw[hb.1,hb.2,Nat.add_zero,Nat.add_zero]at hp5
   have hkk:(T.kids.getD i .nil).kind=137∨(T.kids.getD i .nil).kind=149:=by rw[q2];split<;>simp
   have hsh:Shw (T.kids.getD i .nil):=by
    by_cases c:T.kind=136
    ·rw[if_pos c]at hf;exact .inr (.inr (.inl hf))
    ·rw[if_neg c]at hf;exact .inr (.inr (.inr hf))
   obtain⟨r1,r2,r3,r4,r5⟩:=H.node _ _ _ _ hp5 hsh (by omega)
   refine⟨r3,?_⟩
   have:=(ih _ hm).2 (inn (T.kids.getD i .nil)) (AA (by omega)) q5 _ _ _ (r5 0 (by omega))
   have e1:(bndF (T.kids.getD i .nil).kind 0).2.toNat=bf T.kind∧(bndF (T.kids.getD i .nil).kind 0).1.toNat=0:=by
    rw[q2]
    unfold bf
    by_cases c:T.kind=136
    ·rw[if_pos c,if_pos c];exact⟨rfl,rfl⟩
    ·rw[if_neg c,if_neg c];exact⟨rfl,rfl⟩
   rw[e1.1,e1.2,Nat.add_zero]at this
   exact this
  refine .node g1 (by omega) g2 g3 g4 p1 (fun i hp hi=>?_) (fun i hp hi=>?_) (fun i hp hi=>(hfield i hp hi).1) (fun i hp hi=>(hfield i hp hi).2)
  ·have hp5:=g5 i hi
   have hb:(bndF T.kind i).1.toNat=0:=by
    rw[(Ee hlo.2 i).2]
    unfold bc
    by_cases q:i=1
    ·rw[ifn]
     by_cases c:T.kind=139∨T.kind=142
     ·subst q
      rcases c with c|c<;>(rw[c]at hp;cases hp)
     ·rw[if_neg c]
    ·rw[if_pos q]
   rw[hb,Nat.add_zero]at hp5
   exact H.con _ _ _ _ hp5 (p2 i hp hi)
  ·have hp5:=g5 i hi
   rw[(Ee hlo.2 i).1,(Ee hlo.2 i).2]at hp5
   exact (ih _ (AA hi)).1 (p3 i hp hi) _ _ _ hp5
theorem Cor.parts {V:Vl→Vl→Prop}{e e':Ev}{P:Nat→Nat→Tree→Tree→Prop}(H:Cor V e e' P){T:Tree}(h:AF T=true)(hk:T.kind≠130){t d:Nat}{T':Tree}(hP:P t d T T') :
  (T.kind=134∨T.kind=139∨T.kind=140∨T.kind=141∨T.kind=146→2≤T.kids.length) ∧
  (∀i,posF T.kind i=1→i < T.kids.length→conE (T.kids.getD i .nil)=0∧conE (T'.kids.getD i .nil)=0∧Sc (d+(AL e).length) (toC (T.kids.getD i .nil))∧sub (upN d (envS (AL e))) (toC (T.kids.getD i .nil))=sub (upN d (envS (AL e'))) (toC (T'.kids.getD i .nil))) ∧
  (∀i,posF T.kind i=2→i < T.kids.length→CR V (t+bt T.kind i) (d+bc T.kind i) (T.kids.getD i .nil) e (T'.kids.getD i .nil) e') ∧
  (∀i,posF T.kind i=3→i < T.kids.length→(T'.kids.getD i .nil).name=(T.kids.getD i .nil).name) ∧
  (∀i,posF T.kind i=3→i < T.kids.length→CR V (t+bf T.kind) d (inn (T.kids.getD i .nil)) e (inn (T'.kids.getD i .nil)) e'):=by
 have hlo:=JA h
 obtain⟨g1,g2,g3,g4,g5⟩:=H.node t d T T' hP (.inr (.inl h)) (by omega)
 obtain⟨p1,p2,p3,p4⟩:=PA h hk
 have hfield:∀i,posF T.kind i=3→i < T.kids.length→(T'.kids.getD i .nil).name=(T.kids.getD i .nil).name∧CR V (t+bf T.kind) d (inn (T.kids.getD i .nil)) e (inn (T'.kids.getD i .nil)) e':=fun i hp hi=>by
  have hm:=AA hi
  have hf:=p4 i hp hi
  obtain⟨q1,q2,q3,q4,q5⟩:=AK hf
  have hp5:=g5 i hi
  have hb:(bndF T.kind i).2.toNat=0∧(bndF T.kind i).1.toNat=0:=by
   rw[(Ee hlo.2 i).1,(Ee hlo.2 i).2]
   unfold bt bc
   rcases Ct hp with q|⟨q,_⟩|⟨q,_⟩<;>(rw[q];split<;>exact⟨rfl,rfl⟩)
  rw[hb.1,hb.2,Nat.add_zero,Nat.add_zero]at hp5
  have hkk:(T.kids.getD i .nil).kind=137∨(T.kids.getD i .nil).kind=149:=by rw[q2];split<;>simp
  have hsh:Shw (T.kids.getD i .nil):=by
   by_cases c:T.kind=136
   ·rw[if_pos c]at hf;exact .inr (.inr (.inl hf))
   ·rw[if_neg c]at hf;exact .inr (.inr (.inr hf))
  obtain⟨r1,r2,r3,r4,r5⟩:=H.node _ _ _ _ hp5 hsh (by omega)
  refine⟨r3,?_⟩
  have:=(H.all (inn (T.kids.getD i .nil))).1 q5 _ _ _ (r5 0 (by omega))
  have e1:(bndF (T.kids.getD i .nil).kind 0).2.toNat=bf T.kind∧(bndF (T.kids.getD i .nil).kind 0).1.toNat=0:=by
   rw[q2]
   unfold bf
   by_cases c:T.kind=136
   ·rw[if_pos c,if_pos c];exact⟨rfl,rfl⟩
   ·rw[if_neg c,if_neg c];exact⟨rfl,rfl⟩
  rw[e1.1,e1.2,Nat.add_zero]at this
  exact this
 refine⟨p1,fun i hp hi=>?_,fun i hp hi=>?_,fun i hp hi=>(hfield i hp hi).1,fun i hp hi=>(hfield i hp hi).2⟩
 ·have hp5:=g5 i hi
  have hb:(bndF T.kind i).1.toNat=0:=by
   rw[(Ee hlo.2 i).2]
   unfold bc
   by_cases q:i=1
   ·rw[ifn]
    by_cases c:T.kind=139∨T.kind=142
    ·subst q
     rcases c with c|c<;>(rw[c]at hp;cases hp)
    ·rw[if_neg c]
   ·rw[if_pos q]
  rw[hb,Nat.add_zero]at hp5
  exact H.con _ _ _ _ hp5 (p2 i hp hi)
 ·have hp5:=g5 i hi
  rw[(Ee hlo.2 i).1,(Ee hlo.2 i).2]at hp5
  exact (H.all _).1 (p3 i hp hi) _ _ _ hp5
end Mc
end Go.Proofs.YtlgajkoplklkiaaGreat
namespace Go.Proofs.YtlgajkoplklkiaaGreat
namespace Cn
open Go Go.Mq Ki Tm
theorem W2 (i0:Nat)(T:Tree):∀d:Nat,Plain T→(d:Int)+AD T≤549755813888→(∀j:Int,i0≤j→AT j T d=0)→Sc (i0+d) (toC T):=by
 induction T using Tree.ind' with
 | h0=>intro d hp;cases hp
 | h1 T hT ih =>
  intro d hp hd h
  have hlim:lim=1099511627776:=rfl
  have hs:=AI hT
  have hbb:=GL T
  have hb1:=IV T.kind
  cases T with
  | nil=>exact absurd rfl hT
  | node k n nm mk l =>
   by_cases hk:k=110
   ·obtain⟨_,q2,_⟩:=hp.inv
    obtain⟨_,rfl,q3,q4⟩:=q2 hk
    rw[toC,if_pos hk]
    intro s s' hss
    rw[CK,CK]
    refine hss _ ?_
    by_cases c:n < i0+d
    ·omega
    ·exfalso
     have:=h (n - d) (by omega)
     rw[AT,if_pos ⟨hk,by omega,by rw[wrap64]<;>omega⟩]at this
     omega
   ·rw[toC,if_neg hk,F3]
    refine Sc.of fun i hi=>?_
    have hi':i < l.length:=by simpa using hi
    have hm:=AA hi'
    have s1:=AH hm
    have:=ih _ hm (d+bd k) (Ex.B4 hp _ hm) (by simp only[Tree.kids,Tree.kind]at *;omega) (fun j hj=>by
     have:=h j hj
     rw[AT]at this
     have h2:Ah j l (IntKind.i64.wrap ((d:Int)+AS (.node k n nm mk l)))=0:=by omega
     rw[wrap64 (by omega) (by omega),hbb]at h2
     exact Ii h2 _ hm)
    rw[A3,Nat.add_assoc]
    exact this
theorem Gp {T:Tree}(hT:conE T=0){d:Nat}(h:Bv T≤d):Sc d (toC T):=by
 have hz:=Al hT
 have h0:=JV T
 have hlim:lim=1099511627776:=rfl
 rw[Hf,IX,if_pos hT]at h
 obtain⟨f1,_,_⟩:=F0 T 0 (Aa hT) (by omega) (by omega)
 exact W2 d T 0 (Aa hT) (by omega) fun j hj=>f1 j (by omega)
end Cn
end Go.Proofs.YtlgajkoplklkiaaGreat
namespace Go.Proofs.YtlgajkoplklkiaaGreat
namespace St
open Go Go.Mq Tm Sb
theorem SP (k:Int):∀(l:List Tree) (p i:Nat),i < l.length→HK k (p+i)=true→AW (l.getD i .nil)=false→(∀j,j < i→HK k (p+j)=true→AW (l.getD j .nil)=true)→stsK k p l=some (p+i,stF (l.getD i .nil))
 | [],p,i,hi,_,_,_=>by simp at hi
 | x::l,p,0,hi,h1,h2,h3=>by
  rw[stsK,if_pos ⟨h1,h2⟩];rfl
 | x::l,p,i+1,hi,h1,h2,h3=>by
  have hx:¬(HK k p=true∧AW x=false):=fun⟨q1,q2⟩=>by
   have:=h3 0 (by omega) q1
   rw[List.getD_cons_zero,q2]at this
   cases this
  rw[stsK,if_neg hx,List.getD_cons_succ]
  have:=SP k l (p+1) i (by simpa using hi) (by rw[show p+1+i=p+(i+1) by omega];exact h1) (by simpa only[List.getD_cons_succ] using h2) (fun j hj hp=>by
   have:=h3 (j+1) (by omega) (by rw[show p+(j+1)=p+1+j by omega];exact hp)
   rwa [List.getD_cons_succ]at this)
  rw[this,show p+1+i=p+(i+1) by omega]
theorem Mx (k:Int):∀(l:List Tree) (p:Nat),(∀j,j < l.length→HK k (p+j)=true→AW (l.getD j .nil)=true)→stsK k p l=none
 | [],p,h=>by rw[stsK]
 | x::l,p,h=>by
  have hx:¬(HK k p=true∧AW x=false):=fun⟨q1,q2⟩=>by
   have:=h 0 (by simp) q1
   rw[List.getD_cons_zero,q2]at this
   cases this
  rw[stsK,if_neg hx]
  exact Mx k l (p+1) fun j hj hp=>by
   have:=h (j+1) (by simpa using hj) (by rw[show p+(j+1)=p+1+j by omega];exact hp)
   rwa [List.getD_cons_succ]at this
theorem Sj:∀(l:List Tree) (p i:Nat),i < l.length→AW ((l.getD i .nil).kids.getD 0 .nil)=false→(∀j,j < i→AW ((l.getD j .nil).kids.getD 0 .nil)=true)→stsR p l=some (p+i,stF ((l.getD i .nil).kids.getD 0 .nil))
 | [],p,i,hi,_,_=>by simp at hi
 | x::l,p,0,hi,h2,h3=>by
  have h2:AW (x.kids.getD 0 .nil)=false:=h2
  rw[stsR,if_pos h2,aX];rfl
 | x::l,p,i+1,hi,h2,h3=>by
  have h0:AW (x.kids.getD 0 .nil)=true:=h3 0 (by omega)
  rw[stsR,if_neg (by rw[h0];simp),List.getD_cons_succ]
  have:=Sj l (p+1) i (by simpa using hi) (by simpa only[List.getD_cons_succ] using h2) (fun j hj=>by
   have:=h3 (j+1) (by omega)
   rwa [List.getD_cons_succ]at this)
  rw[this,show p+1+i=p+(i+1) by omega]
theorem NL:∀(l:List Tree) (p:Nat),(∀j,j < l.length→AW ((l.getD j .nil).kids.getD 0 .nil)=true)→stsR p l=none
 | [],p,h=>by rw[stsR]
 | x::l,p,h=>by
  have h0:AW (x.kids.getD 0 .nil)=true:=h 0 (by simp)
  rw[stsR,if_neg (by rw[h0];simp)]
  exact NL l (p+1) fun j hj=>by
   have:=h (j+1) (by simpa using hj)
   rwa [List.getD_cons_succ]at this
theorem Hw {T:Tree}(h:T.kind≠136)(j:Nat):HK T.kind j=true↔(plcF T).1≤j∧j < (plcF T).2:=by
 unfold HK plcF
 by_cases k1:T.kind=135∨T.kind=145
 ·rw[if_pos k1,if_pos k1];simp
 rw[if_neg k1,if_neg k1,if_neg h]
 by_cases k2:T.kind=141∨T.kind=146
 ·rw[if_pos k2,if_pos k2];simp;omega
 ·rw[if_neg k2,if_neg k2];simp
theorem RF {T:Tree}(hT:T≠.nil){i:Nat}(hi:i < T.kids.length)(h1:(plcF T).1≤i∧i < (plcF T).2)(h2:AW (inF T i)=false)(h3:∀j,(plcF T).1≤j→j < i→AW (inF T j)=true) :
  stF T=if (stF (inF T i)).2≠0 then (.nil,(stF (inF T i)).2) else (EY T i (stF (inF T i)).1,0):=by
 rw[Wv hT]
 by_cases k:T.kind=136
 ·have hin:∀j,inF T j=(T.kids.getD j .nil).kids.getD 0 .nil:=fun j=>by unfold inF;rw[if_pos k]
  have hp0:(plcF T).1=0:=by unfold plcF;rw[ifn,if_pos k]
  rw[if_pos k,Sj T.kids 0 i hi (by rw[←hin];exact h2) (fun j hj=>by rw[←hin];exact h3 j (by omega) hj),hin,Nat.zero_add]
 ·have hin:∀j,inF T j=T.kids.getD j .nil:=fun j=>by unfold inF;rw[if_neg k]
  rw[if_neg k,SP T.kind T.kids 0 i hi (by rw[Nat.zero_add];exact (Hw k i).2 h1) (by rw[←hin];exact h2) (fun j hj hp=>by
   rw[Nat.zero_add]at hp
   rw[←hin];exact h3 j ((Hw k j).1 hp).1 hj),hin,Nat.zero_add]
theorem LJ {T:Tree}(hT:T≠.nil)(h3:∀j,(plcF T).1≤j→j < (plcF T).2→AW (inF T j)=true):stF T=HY T:=by
 rw[Wv hT]
 by_cases k:T.kind=136
 ·have hin:∀j,inF T j=(T.kids.getD j .nil).kids.getD 0 .nil:=fun j=>by unfold inF;rw[if_pos k]
  have hp:plcF T=(0,T.kids.length):=by unfold plcF;rw[ifn,if_pos k]
  rw[hp]at h3
  rw[if_pos k,NL T.kids 0 fun j hj=>by rw[←hin];exact h3 j (by simp) hj]
 ·have hin:∀j,inF T j=T.kids.getD j .nil:=fun j=>by unfold inF;rw[if_neg k]
  rw[if_neg k,Mx T.kind T.kids 0 fun j hj hp=>by
   rw[Nat.zero_add]at hp
   rw[←hin];exact h3 j ((Hw k j).1 hp).1 ((Hw k j).1 hp).2]
theorem Gs (k:Int):∀(l:List Tree) (i:Nat) (c t:Int),(Br k i l c t).2≤0→∀p,p < l.length→(Ai (l.getD p .nil) (c+(bndF k (i+p)).1) (t+(bndF k (i+p)).2)).2≤0
 | [],i,c,t,h,p,hp=>by simp at hp
 | x::l,i,c,t,h,p,hp=>by
  rw[Br]at h
  simp only[Eh]at h
  cases p with
  | zero=>simpa using (show (Ai x (c+(bndF k i).1) (t+(bndF k i).2)).2≤0 by omega)
  | succ p =>
   rw[List.getD_cons_succ,show i+(p+1)=i+1+p by omega]
   exact Gs k l (i+1) c t (by omega) p (by simpa using hp)
structure StD (T:Tree):Prop where
 term:AF T=true
 size:AD T≤65536
 free:(Ai T 0 0).2≤0
 nval:AW T=false
theorem StD.kind {T:Tree}(h:StD T):T.kind=135∨T.kind=136∨T.kind=138∨(140≤T.kind∧T.kind≤148):=by
 have hT:=AQ h.term
 have hh:=(BR h.term).1
 have hv:=h.nval
 rw[CU hT]at hv
 have h1:¬(T.kind=131∨T.kind=132∨T.kind=133∨T.kind=134∨T.kind=139):=fun q=>by rw[if_pos q]at hv;cases hv
 have h2:T.kind≠130:=fun q=>by
  have:=h.free
  rw[Bc hT,if_pos q]at this
  have:=hh.n130 q
  simp only[]at *
  omega
 have:=hh.kind
 omega
theorem StD.Lk {T:Tree}(h:StD T):(plcF T).1≤(plcF T).2∧(plcF T).2≤T.kids.length:=by
 have hk:=h.kind
 unfold plcF
 by_cases k1:T.kind=135∨T.kind=145
 ·rw[if_pos k1]
  have:=(A8 h.term (by omega)).1
  simp;omega
 rw[if_neg k1]
 by_cases k2:T.kind=136
 ·rw[if_pos k2];simp
 rw[if_neg k2]
 by_cases k3:T.kind=141∨T.kind=146
 ·rw[if_pos k3]
  rcases k3 with k3|k3
  ·have:=(DW h.term k3).1
   simp;omega
  ·have:=(Bs h.term (.inr k3)).1
   simp;omega
 ·rw[if_neg k3]
  have:0 < T.kids.length:=by
   rcases (show T.kind=138∨T.kind=140∨(T.kind=142∨T.kind=143)∨T.kind=144∨T.kind=147∨T.kind=148 by omega) with k|k|k|k|k|k
   ·have:=(GY h.term k).1;omega
   ·have:=(Da h.term k).1;omega
   ·have:=(A8 h.term (by omega)).1;omega
   ·have:=(C0 h.term k).1;omega
   ·have:=(Cg h.term k).1;omega
   ·have:=(CY h.term k).1;omega
  simp;omega
theorem StD.inner {T:Tree}(h:StD T){i:Nat}(h1:(plcF T).1≤i)(h2:i < (plcF T).2):AF (inF T i)=true∧AD (inF T i)≤65536∧(Ai (inF T i) 0 0).2≤0∧(T.kind=136→T.kids.getD i .nil≠.nil∧0 < (T.kids.getD i .nil).kids.length):=by
 have hT:=AQ h.term
 have hp:=h.Lk
 have hi:i < T.kids.length:=by omega
 have hm:=AA hi
 have s1:=AH hm
 have s0:=AI hT
 have hz:=h.size
 have hk:=h.kind
 have hf:=h.free
 rw[Bc hT,ifn,ifn]at hf
 have hg:=Gs T.kind T.kids 0 0 0 hf i hi
 rw[Nat.zero_add,Int.zero_add,Int.zero_add]at hg
 by_cases k2:T.kind=136
 ·have hin:inF T i=(T.kids.getD i .nil).kids.getD 0 .nil:=by unfold inF;rw[if_pos k2]
  obtain⟨t1,t2,t3,t4,t5⟩:=AK ((Fq h.term k2).1 _ hm)
  have m0:=AA (l:=(T.kids.getD i .nil).kids) (i:=0) (by omega)
  have s2:=AH m0
  have s3:=AI t1
  rw[hin]
  refine⟨t5,by omega,?_,fun _=>⟨t1,by omega⟩⟩
  have hb:bndF T.kind i=(0,0):=by unfold bndF;rw[ifn,k2];split<;>rfl
  rw[hb]at hg
  rw[Bc t1,ifn,ifn]at hg
  have hg2:=Gs _ _ 0 0 0 hg 0 (by omega)
  rw[t2]at hg2
  exact hg2
 ·have hin:inF T i=T.kids.getD i .nil:=by unfold inF;rw[if_neg k2]
  rw[hin]
  have hb:bndF T.kind i=(0,0)∧AF (T.kids.getD i .nil)=true:=by
   unfold plcF at h1 h2
   by_cases k1:T.kind=135∨T.kind=145
   ·rw[if_pos k1]at h2
    have ht:=A8 h.term (by omega)
    simp only[]at h2
    rcases (show i=0∨i=1 by omega) with rfl|rfl
    ·exact⟨by unfold bndF;rw[ifn,ifp],ht.2.1⟩
    ·exact⟨by unfold bndF;rw[ifn,ifn,ifn,ifn,ifn],ht.2.2⟩
   rw[if_neg k1,if_neg k2]at h1 h2
   by_cases k3:T.kind=141∨T.kind=146
   ·rw[if_pos k3]at h1 h2
    simp only[]at h1 h2
    obtain rfl:i=1:=by omega
    refine⟨by unfold bndF;rw[ifn,ifn,ifn,ifn,ifn],?_⟩
    rcases k3 with k3|k3
    ·exact (DW h.term k3).2.2.1
    ·exact (Bs h.term (.inr k3)).2.2
   ·rw[if_neg k3]at h1 h2
    simp only[]at h1 h2
    obtain rfl:i=0:=by omega
    refine⟨by unfold bndF;rw[ifn,ifp],?_⟩
    rcases (show T.kind=138∨T.kind=140∨(T.kind=142∨T.kind=143)∨T.kind=144∨T.kind=147∨T.kind=148 by omega) with k|k|k|k|k|k
    ·exact (GY h.term k).2
    ·exact (Da h.term k).2.1
    ·exact (A8 h.term (by omega)).2.1
    ·exact (C0 h.term k).2.1
    ·exact (Cg h.term k).2.1
    ·exact (CY h.term k).2.1
  rw[hb.1]at hg
  exact⟨hb.2,by omega,hg,fun k=>absurd k k2⟩
theorem NK {T:Tree}(h:AF T=true)(hz:AD T≤65536):Kw T=AW T:=by
 unfold Kw
 rw[decide_eq_true (VM h (E1 h) hz),Bool.true_and]
theorem Of (T:Tree):StD T→Pure P 21 [.d (.tree T)] (.tuple [.d (.tree (stF T).1),.d (.int .i64 (stF T).2)]):=by
 suffices h:(StD T→Pure P 21 [.d (.tree T)] (.tuple [.d (.tree (stF T).1),.d (.int .i64 (stF T).2)]))∧∀x∈T.kids,StD x→Pure P 21 [.d (.tree x)] (.tuple [.d (.tree (stF x).1),.d (.int .i64 (stF x).2)]) from h.1
 induction T using Tree.ind' with
 | h0=>exact⟨fun h=>absurd rfl (AQ h.term),fun x hx=>(by cases hx)⟩
 | h1 T hT ih=>?_
 refine⟨fun hD=>?_,fun x hx=>(ih x hx).1⟩
 have hpl:=T9 T hT
 have hgo:=XR T hD.term hD.size
 obtain⟨hp1,hp2⟩:=hD.Lk
 have hin:=fun i=>hD.inner (i:=i)
 have hat:=fun i=>RF hT (i:=i)
 have hno:=LJ hT
 have hsz:=AI hT
 have hlen:=JE (E1 hD.term)
 have hz:=hD.size
 have hrec:∀i,(plcF T).1≤i→i < (plcF T).2→AW (inF T i)=false→Pure P 21 [.d (.tree (inF T i))] (.tuple [.d (.tree (stF (inF T i)).1),.d (.int .i64 (stF (inF T i)).2)]):=fun i h1 h2 h3=>by
  obtain⟨q1,q2,q3,q4⟩:=hin i h1 h2
  have hm:=AA (l:=T.kids) (i:=i) (by omega)
  by_cases k:T.kind=136
  ·have e:inF T i=(T.kids.getD i .nil).kids.getD 0 .nil:=by unfold inF;rw[if_pos k]
   rw[e]at q1 q2 q3 h3 ⊢
   exact (ih _ hm).2 _ (AA (q4 k).2) ⟨q1,q2,q3,h3⟩
  ·have e:inF T i=T.kids.getD i .nil:=by unfold inF;rw[if_neg k]
   rw[e]at q1 q2 q3 h3 ⊢
   exact (ih _ hm).1 ⟨q1,q2,q3,h3⟩
 clear ih
 generalize plcF T=F at *
 obtain⟨fr,to⟩:=F
 simp only[]at *
 have wt:IntKind.i64.wrap ((to:Int) - fr)=((to - fr:Nat):Int):=by rw[wrap64 (by omega) (by omega)];omega
 refine Pure.AB tt [] [2,3] Tryz.func21 rfl rfl rfl lb fun g=>?_
 repeat' ((first|refine Ga ?_|refine Gc fun hlen=>?_|refine Ge hpl ?_|refine Gd (fun hc=>?_) fun hc=>?_)<;>conv=>whnf)
 refine AY (α:=Nat) (fun p=>⟨[(0,.d (.tree T)),(4,.d (.int .i64 fr)),(17,.d (.int .i64 (IntKind.i64.wrap ((to:Int) - fr)))),(18,.d (.int .i64 p))],47,[],0,g⟩)
  (fun p=>p≤to - fr∧∀j,fr≤j→j < fr+p→AW (inF T j)=true) (fun p=>to - fr - p) 0 ⟨by omega,fun j h1 h2=>by omega⟩
  (Ent.go []) (fun _=>rfl) fun p hpre=>?_
 obtain⟨hq1,hq2⟩:=hpre
 by_cases hlt:p < to - fr
 ·have hlt':(p:Int) < IntKind.i64.wrap ((to:Int) - fr):=by rw[wt];omega
  obtain⟨q1,q2,q3,q4⟩:=hin (fr+p) (by omega) (by omega)
  have w:IntKind.i64.wrap ((fr:Int)+(p:Int))=((fr+p:Nat):Int):=by rw[wrap64 (by omega) (by omega)];omega
  have hi:=HX T hT (fr+p) (by omega) q4
  rw[←w]at hi
  have hv:=M0 (inF T (fr+p))
  rw[NK q1 q2]at hv
  cases hvv:AW (inF T (fr+p)) with
  | true =>
   rw[hvv]at hv
   repeat' ((first|refine Ga ?_|refine Gc fun hlen=>?_|refine Ge hi ?_|refine Ge hv ?_|refine Gd (fun hc=>?_) fun hc=>?_)<;>conv=>whnf)
   refine⟨p+1,⟨by omega,fun j h1 h2=>?_⟩,by omega,Ent.go []⟩
   by_cases e:j=fr+p
   ·rw[e];exact hvv
   ·exact hq2 j h1 (by omega)
  | false =>
   rw[hvv]at hv
   have hs:=hrec (fr+p) (by omega) (by omega) hvv
   have he:=hat (fr+p) (by omega) ⟨by omega,by omega⟩ hvv hq2
   generalize stF (inF T (fr+p))=R at *
   obtain⟨m,e⟩:=R
   simp only[]at hs he
   by_cases h0:e=0
   ·subst h0
    rw[ifn]at he
    rw[he]
    have hw:=OE T hT (fr+p) (by omega) (by omega) (fun k=>(q4 k).1) m
    rw[←w]at hw
    repeat' ((first|refine Ga ?_|refine Gc fun hlen=>?_|refine Ge hi ?_|refine Ge hv ?_|refine Ge hs ?_|refine Ge hw ?_|refine Gd (fun hc=>?_) fun hc=>?_)<;>conv=>whnf)
    exact Gg
   ·rw[if_pos h0]at he
    rw[he]
    repeat' ((first|refine Ga ?_|refine Gc fun hlen=>?_|refine Ge hi ?_|refine Ge hv ?_|refine Ge hs ?_|refine Gd (fun hc=>?_) fun hc=>?_)<;>conv=>whnf)
    exact Gg
 ·have hlt':¬(p:Int) < IntKind.i64.wrap ((to:Int) - fr):=by rw[wt];omega
  rw[hno fun j h1 h2=>hq2 j h1 (by omega)]
  generalize HY T=R at *
  repeat' ((first|refine Ga ?_|refine Gc fun hlen=>?_|refine Ge hgo ?_|refine Gd (fun hc=>?_) fun hc=>?_)<;>conv=>whnf)
  exact Gg
theorem OB (T:Tree):Pure P 8 [.d (.tree T)] (.tuple [.d (.tree (Ff T).1),.d (.bool (Ff T).2.1),.d (.int .i64 (Ff T).2.2)]):=by
 have h1:=CH T
 have h2:=Fi T
 have h3:=M0 T
 refine Pure.AB tt [] [2,3,4] Tryz.func8 rfl rfl rfl lb fun g=>?_
 unfold Ff
 by_cases e1:Au T=0
 ·obtain⟨t1,t2,t3⟩:=Bo e1
  rw[NK t1 t2]at h3
  rw[ifn]
  rw[e1]at h1
  cases e2:BC T with
  | false =>
   rw[if_pos rfl]
   rw[e2]at h2
   repeat' ((first|refine Ga ?_|refine Gc fun hlen=>?_|refine Ge h1 ?_|refine Ge h2 ?_|refine Gd (fun hc=>?_) fun hc=>?_)<;>conv=>whnf)
   exact Gg
  | true =>
   rw[if_neg (by simp)]
   rw[e2]at h2
   cases e3:AW T with
   | true =>
    rw[if_pos rfl]
    rw[e3]at h3
    repeat' ((first|refine Ga ?_|refine Gc fun hlen=>?_|refine Ge h1 ?_|refine Ge h2 ?_|refine Ge h3 ?_|refine Gd (fun hc=>?_) fun hc=>?_)<;>conv=>whnf)
    exact Gg
   | false =>
    rw[if_neg (by simp)]
    rw[e3]at h3
    have h4:=Of T ⟨t1,t2,(KV e1 e2).2,e3⟩
    generalize stF T=R at *
    obtain⟨m,e⟩:=R
    simp only[]at h4 ⊢
    by_cases h0:e=0
    ·subst h0
     rw[ifn]
     have h5:=CH m
     by_cases e5:Au m=0
     ·rw[ifn]
      rw[e5]at h5
      repeat' ((first|refine Ga ?_|refine Gc fun hlen=>?_|refine Ge h1 ?_|refine Ge h2 ?_|refine Ge h3 ?_|refine Ge h4 ?_|refine Ge h5 ?_|refine Gd (fun hc=>?_) fun hc=>?_)<;>conv=>whnf)
      exact Gg
     ·rw[if_pos e5]
      generalize Au m=E at *
      repeat' ((first|refine Ga ?_|refine Gc fun hlen=>?_|refine Ge h1 ?_|refine Ge h2 ?_|refine Ge h3 ?_|refine Ge h4 ?_|refine Ge h5 ?_|refine Gd (fun hc=>?_) fun hc=>?_)<;>conv=>whnf)
      exact Gg
    ·rw[if_pos h0]
     repeat' ((first|refine Ga ?_|refine Gc fun hlen=>?_|refine Ge h1 ?_|refine Ge h2 ?_|refine Ge h3 ?_|refine Ge h4 ?_|refine Gd (fun hc=>?_) fun hc=>?_)<;>conv=>whnf)
     exact Gg
 ·rw[if_pos e1]
  generalize Au T=E at *
  repeat' ((first|refine Ga ?_|refine Gc fun hlen=>?_|refine Ge h1 ?_|refine Gd (fun hc=>?_) fun hc=>?_)<;>conv=>whnf)
  exact Gg
end St
end Go.Proofs.YtlgajkoplklkiaaGreat
namespace Go.Proofs.YtlgajkoplklkiaaGreat
namespace Mc
open Go Go.Mq Cn Tm Sb
theorem Wt (k:Int):∀(l:List Tree) (i:Nat) (c t:Int),(Br k i l c t).1≤0→∀p,p < l.length→(Ai (l.getD p .nil) (c+(bndF k (i+p)).1) (t+(bndF k (i+p)).2)).1≤0
 | [],i,c,t,_,p,hp=>by simp at hp
 | x::l,i,c,t,h,p,hp=>by
  rw[Br]at h
  simp only[Eh]at h
  cases p with
  | zero=>simp only[List.getD_cons_zero,Nat.add_zero];omega
  | succ p =>
   have:=Wt k l (i+1) c t (by omega) p (by simpa using hp)
   rw[show i+1+p=i+(p+1) by omega]at this
   simpa using this
theorem kid1 {T:Tree}(hT:T≠.nil)(hk:131≤T.kind){c t:Int}(h:(Ai T c t).1≤0){i:Nat}(hi:i < T.kids.length):(Ai (T.kids.getD i .nil) (c+(bndF T.kind i).1) (t+(bndF T.kind i).2)).1≤0:=by
 rw[Bc hT,ifn,ifn]at h
 have:=Wt _ _ 0 c t h i hi
 rw[Nat.zero_add]at this;exact this
theorem kid2 {T:Tree}(hT:T≠.nil)(hk:131≤T.kind){c t:Int}(h:(Ai T c t).2≤0){i:Nat}(hi:i < T.kids.length):(Ai (T.kids.getD i .nil) (c+(bndF T.kind i).1) (t+(bndF T.kind i).2)).2≤0:=by
 rw[Bc hT,ifn,ifn]at h
 have:=St.Gs _ _ 0 c t h i hi
 rw[Nat.zero_add]at this;exact this
theorem bnd1 (k:Int)(i d:Nat):(d:Int)+(bndF k i).1=((d+(bndF k i).1.toNat:Nat):Int):=by have:=EA k i;omega
theorem bnd2 (k:Int)(i d:Nat):(d:Int)+(bndF k i).2=((d+(bndF k i).2.toNat:Nat):Int):=by have:=EA k i;omega
theorem G6 {T:Tree}(hs:Shw T)(hk:131≤T.kind){i:Nat}(hi:i < T.kids.length):Shw (T.kids.getD i .nil):=by
 rcases DE hs with h|⟨_,_,h⟩
 ·omega
 ·exact h _ (AA hi)
theorem Cz {T:Tree}(hs:Shw T){i:Nat}(hi:i < T.kids.length):AD (T.kids.getD i .nil) < AD T:=by
 have h1:=AI hs.ne
 have h2:=AH (AA hi)
 omega
theorem Ld {c:Tree}(h:AG c=true):c≠.nil∧c.kind≠130∧c.kind < 130:=by
 have:=E7 (.inl h)
 exact⟨(Dw c h).full.ne,by omega,this⟩
theorem JR {c:Tree}(h:AG c=true){d t:Int}(hf:(Ai c d t).1≤0):Bv c≤d:=by
 obtain⟨h1,h2,h3⟩:=Ld h
 rw[Bc h1,if_neg h2,if_pos h3]at hf
 have hf:Bv c - d≤0:=hf
 omega
theorem Kx (d:Nat)(s:Nat→Cn):∀n,n < d→upN d s n=.var n:=by
 induction d generalizing s with
 | zero=>intro n h;omega
 | succ d ih =>
  intro n h
  show upN d (up s) n=_
  have hc:∀(d n:Nat) (s:Nat→Cn),upN d (up s) n=up (upN d s) n:=by
   intro d
   induction d with
   | zero=>intro n s;rfl
   | succ d ihd=>intro n s;show upN d (up (up s)) n=up (upN d (up s)) n;rw[ihd]
  rw[hc]
  cases n with
  | zero=>rfl
  | succ n=>show ren _ (upN d s n)=_;rw[ih s n (by omega),Cy]
def Yd (t d:Nat)(T T':Tree):Prop:=T'=T∧Shw T∧AD T≤65536∧(Ai T d t).1≤0∧(Ai T d t).2≤0
theorem Ib (V:Vl→Vl→Prop)(e e':Ev):Cor V e e' Yd where
 var:=fun t d T T' ⟨h1,h2,h3,h4,h5⟩ ht hk=>by
  subst h1
  rw[Bc h2.ne,if_pos hk]at h5
  have h5:T'.n - t+1≤0:=h5
  exact .loc hk hk (by omega) rfl
 con:=fun t d c c' ⟨h1,h2,h3,h4,h5⟩ hc=>by
  subst h1
  have hE:=Db hc h3
  have hs:=Gp hE (JR hc h4)
  refine⟨hE,hE,hs.mono (by omega),hs _ _ fun n hn=>?_⟩
  rw[Kx d _ n hn,Kx d _ n hn]
 node:=fun t d T T' ⟨h1,h2,h3,h4,h5⟩ hs hk=>by
  subst h1
  refine⟨rfl,rfl,rfl,rfl,fun i hi=>⟨rfl,G6 hs hk hi,by have:=Cz hs hi;omega,?_,?_⟩⟩
  ·rw[←bnd1,←bnd2];exact kid1 hs.ne hk h4 hi
  ·rw[←bnd1,←bnd2];exact kid2 hs.ne hk h5 hi
def inP (len:Nat)(w:Tree)(t d:Nat)(T T':Tree):Prop:=T'=inT 0 w T t∧Shw T∧AD T≤65536∧∃t0:Int,(Ai T ((d+len:Nat):Int) t0).1≤0
theorem Zg {V:Vl→Vl→Prop}{e:Ev}{v:Vl}{w:Tree}(he:∀i,atE e i=none)(k:Nat)(g:Ev→Vl)(hg:∀x,okC x→bsD k w x=(g x,0))(hv:∀x,okC x→V v (g x)):Cor V (.val v e) e (inP (AL e).length w) where
 var:=fun t d T T' ⟨h1,h2,h3,t0,h4⟩ ht hk=>by
  rw[Fu h2.ne,if_pos hk]at h1
  by_cases q:T.n < t∨T.n - t < 0
  ·rw[if_pos q]at h1
   subst h1
   exact .loc hk hk (by omega) rfl
  rw[if_neg q]at h1
  by_cases q2:0 < T.n - t
  ·rw[if_pos q2]at h1
   subst h1
   refine .none hk rfl (by omega) (show (t:Int)≤T.n - 1 by omega) ?_ (he _)
   rw[FR (by omega)];exact he _
  ·rw[if_neg q2]at h1
   subst h1
   refine .val k g hk (by omega) ?_ hg hv
   rw[show T.n - (t:Int)=0 by omega];exact He
 con:=fun t d c c' ⟨h1,h2,h3,t0,h4⟩ hc=>by
  obtain⟨k1,k2,k3⟩:=Ld hc
  rw[Fu k1,if_neg k2,if_pos k3]at h1
  subst h1
  have hE:=Db hc h3
  exact⟨hE,hE,Gp hE (JR hc h4),rfl⟩
 node:=fun t d T T' ⟨h1,h2,h3,t0,h4⟩ hs hk=>by
  rw[LY hs (by omega) 0 w t (fun q=>by omega)]at h1
  subst h1
  refine⟨rfl,rfl,rfl,F4 _ _ _ _ _ _,fun i hi=>⟨?_,G6 hs hk hi,by have:=Cz hs hi;omega,t0+(bndF T.kind i).2,?_⟩⟩
  ·show (insT 0 w T.kind 0 T.kids t).getD i .nil=_
   rw[HD 0 w T.kind T.kids 0 t i hi,Nat.zero_add,bnd2]
  ·have:=kid1 hs.ne hk h4 hi
   rw[bnd1]at this
   rw[show d+(bndF T.kind i).1.toNat+(AL e).length=d+(AL e).length+(bndF T.kind i).1.toNat by omega]
   exact this
theorem K2 (i:Int)(b:Tree)(k:Int):∀(l:List Tree) (p:Nat) (c:Int) (j:Nat),j < l.length→(rsC i b k p l c).getD j .nil=rC i b (l.getD j .nil) (c+(bndF k (p+j)).1)
 | [],p,c,j,h=>by simp at h
 | x::l,p,c,0,h=>by rw[rsC];rfl
 | x::l,p,c,j+1,h=>by
  rw[rsC]
  have:=K2 i b k l (p+1) c j (by simpa using h)
  simp only[List.getD_cons_succ]
  rw[this,show p+1+j=p+(j+1) by omega]
def rcP (b:Tree)(t d:Nat)(T T':Tree):Prop:=T'=rC 0 b T d∧Shw T∧d+AD T≤65536∧AD T'≤65536∧∃t0:Int,(Ai T ((d+1:Nat):Int) t0).1≤0
theorem RU {V:Vl→Vl→Prop}{b:Tree}(hb:conE b=0)(hbf:Bv b=0)(hcl:Cl (toC b)):Cor V (.con b .nil) .nil (rcP b) where
 var:=fun t d T T' ⟨h1,h2,h3,h4,t0,h5⟩ ht hk=>by
  rw[Kb h2.ne,if_pos (.inl hk)]at h1
  subst h1
  by_cases q:T'.n < t
  ·exact .loc hk hk q rfl
  ·exact .none hk hk (by omega) (by omega) (by rw[atE,atE]) (by rw[atE])
 con:=fun t d c c' ⟨h1,h2,h3,h4,t0,h5⟩ hc=>by
  obtain⟨k1,k2,k3⟩:=Ld hc
  have hlim:lim=1099511627776:=rfl
  have hk:¬(c.kind=130∨c.kind < 110):=by
   rw[Am k1,Bool.and_eq_true]at hc
   intro q
   have hc2:=hc.2
   rw[ifn,ifn,ifn,ifn,ifn,ifn]at hc2
   cases hc2
  rw[Kb k1,if_neg hk,if_pos k3,ifn]at h1
  have hE:=Db hc (by omega)
  have hf:=JR hc h5
  have hsc:=Gp hE hf
  have hz:=Al hb
  obtain⟨y,hy,_⟩:=QV (i:=d) hb hbf hE (by omega) (by omega)
  have hy':BM ((d:Int)+0) b c 0=some y:=by rw[Int.add_zero];exact hy
  rw[hy']at h1
  have h1:c'=y:=h1
  subst h1
  have hcon:AG c'=true:=by
   refine (Ph (show (0:Int)≤d by omega) (fun d' y hd hd1 hy=>?_) c) hc 0 c' (Aa hE) (by omega) (by omega) hy
   rw[Dm d' 0 b 0 (Aa hb) (by omega) (by omega)]at hy
   exact (Ak (IF (SW d' 0) hb hy)).2
  have hcE:=Db hcon h4
  refine⟨hE,hcE,hsc,?_⟩
  show sub (upN d (envS [b])) (toC c)=sub (upN d (envS [])) (toC c')
  have e1:sub (upN d (envS [])) (toC c')=toC c':=by
   have:∀n,upN d (envS []) n=Cn.var n:=fun n=>OK d n
   rw[Bl _ this,E9]
  rw[e1,R9 d (by omega) b (Aa hb) hz c 0 c' (Aa hE) (by omega) hy]
  refine hsc _ _ fun n hn=>?_
  have hn:n < d+1:=hn
  unfold sAt
  by_cases q:n < d
  ·rw[Kx d _ n q,ifn,ifp]
  ·have:n=d:=by omega
   subst this
   rw[ifn,ifn,ifp]
   have hd:∀(d:Nat) (s:Nat→Cn),s 0=toC b→upN d s d=toC b:=by
    intro d
    induction d with
    | zero=>intro s hs;exact hs
    | succ d ih =>
     intro s hs
     have hc:∀(d n:Nat) (s:Nat→Cn),upN d (up s) n=up (upN d s) n:=by
      intro d
      induction d with
      | zero=>intro n s;rfl
      | succ d ihd=>intro n s;show upN d (up (up s)) n=up (upN d (up s)) n;rw[ihd]
     show upN d (up s) (d+1)=_
     rw[hc]
     show ren Nat.succ (upN d s d)=_
     rw[ih s hs,FG,hcl]
   rw[hd n (envS [b]) (by rw[F7,hcl]),FG,hcl]
 node:=fun t d T T' ⟨h1,h2,h3,h4,t0,h5⟩ hs hk=>by
  rw[OV hs (by omega) 0 b d]at h1
  subst h1
  refine⟨rfl,rfl,rfl,Gv _ _ _ _ _ _,fun i hi=>?_⟩
  have hsz:=Cz hs hi
  have hbl:=EA T.kind i
  refine⟨?_,G6 hs hk hi,by omega,?_,t0+(bndF T.kind i).2,?_⟩
  ·show (rsC 0 b T.kind 0 T.kids d).getD i .nil=_
   rw[K2 0 b T.kind T.kids 0 d i hi,Nat.zero_add,bnd1]
  ·have hm:(rsC 0 b T.kind 0 T.kids d).getD i .nil∈rsC 0 b T.kind 0 T.kids d:=AA (by rw[Gv];exact hi)
   have z1:=AH hm
   rw[AD]at h4
   show AD ((rsC 0 b T.kind 0 T.kids d).getD i .nil)≤65536
   omega
  ·have:=kid1 hs.ne hk h5 hi
   rw[bnd1]at this
   rw[show d+(bndF T.kind i).1.toNat+1=d+1+(bndF T.kind i).1.toNat by omega]
   exact this
end Mc
end Go.Proofs.YtlgajkoplklkiaaGreat
namespace Go.Proofs.YtlgajkoplklkiaaGreat
namespace Mc
open Go Go.Mq Cn Tm Sb St
structure Cd (T:Tree):Prop where
 term:AF T=true
 size:AD T≤65536
 free1:(Ai T 0 0).1≤0
 free2:(Ai T 0 0).2≤0
theorem Cd.hi {T:Tree}(h:Cd T):131≤T.kind:=by
 have hT:=AQ h.term
 have hh:=(BR h.term).1
 have:=JA h.term
 have h2:T.kind≠130:=fun q=>by
  have:=h.free2
  rw[Bc hT,if_pos q]at this
  have:=hh.n130 q
  simp only[]at *
  omega
 omega
theorem Cd.shw {T:Tree}(h:Cd T):Shw T:=.inr (.inl h.term)
theorem Cd.kid {T:Tree}(h:Cd T){i:Nat}(hi:i < T.kids.length)(hb:bndF T.kind i=(0,0))(ht:AF (T.kids.getD i .nil)=true):Cd (T.kids.getD i .nil):=by
 have hT:=AQ h.term
 have h1:=kid1 hT h.hi h.free1 hi
 have h2:=kid2 hT h.hi h.free2 hi
 rw[hb]at h1 h2
 exact⟨ht,by have:=Cz h.shw hi;have:=h.size;omega,h1,h2⟩
theorem Cd.field {T:Tree}(h:Cd T)(hk:T.kind=136){i:Nat}(hi:i < T.kids.length):Cd (inn (T.kids.getD i .nil)):=by
 have hT:=AQ h.term
 have hf:=(Fq h.term hk).1 _ (AA hi)
 obtain⟨q1,q2,q3,q4,q5⟩:=AK hf
 have hb:bndF T.kind i=(0,0):=by unfold bndF;rw[hk,if_neg (by decide)];split<;>rfl
 have h1:=kid1 hT h.hi h.free1 hi
 have h2:=kid2 hT h.hi h.free2 hi
 rw[hb]at h1 h2
 have h3:=kid1 q1 (by omega) h1 (i:=0) (by omega)
 have h4:=kid2 q1 (by omega) h2 (i:=0) (by omega)
 have hb2:bndF (T.kids.getD i .nil).kind 0=(0,0):=by rw[q2];rfl
 rw[hb2]at h3 h4
 have z1:=Cz h.shw hi
 have z2:=Cz (T:=T.kids.getD i .nil) (.inr (.inr (.inl hf))) (i:=0) (by omega)
 have:=h.size
 exact⟨q5,by unfold inn;omega,h3,h4⟩
theorem Cd.con {T:Tree}(h:Cd T){i:Nat}(hi:i < T.kids.length)(hb:bndF T.kind i=(0,0))(ht:AG (T.kids.getD i .nil)=true):conE (T.kids.getD i .nil)=0∧Bv (T.kids.getD i .nil)=0∧Cl (toC (T.kids.getD i .nil)):=by
 have h1:=kid1 (AQ h.term) h.hi h.free1 hi
 rw[hb]at h1
 have hE:=Db ht (by have:=Cz h.shw hi;have:=h.size;omega)
 have hf:=JR ht h1
 have h0:=JV (T.kids.getD i .nil)
 exact⟨hE,by omega,(Gp hE (d:=0) (by simpa using hf)).cl⟩
def Runs (w:Tree):Prop:=∃k:Nat,∃g:Ev→Vl,(∀x,okC x→bsD k w x=(g x,0))∧∀x y,okC x→okC y→VR (g x) (g y)
theorem M6:∀(l:List Tree),(∀x∈l,Runs (inn x))→∃k,∃gs:Ev→List Vl,(∀x,okC x→(gs x).length=l.length∧∀ls ps,recB (bsD k) x l ls ps=(.rcd (ls++l.map Tree.name) (ps++gs x),0))∧∀x y,okC x→okC y→L2 VR (gs x) (gs y)
 | [],_=>⟨0,fun _=>[],fun x _=>⟨rfl,fun ls ps=>by rw[recB];simp⟩,fun _ _ _ _=>.nil⟩
 | f::l,h=>by
  obtain⟨k1,g,h1,h2⟩:=h f (by simp)
  obtain⟨k2,gs,h3,h4⟩:=M6 l fun x hx=>h x (by simp[hx])
  refine⟨k1+k2,fun x=>g x::gs x,fun x hx=>⟨by simp[(h3 x hx).1],fun ls ps=>?_⟩,fun x y hx hy=>.cons (h2 x y hx hy) (h4 x y hx hy)⟩
  have e1:bsD (k1+k2) (f.kids.getD 0 .nil) x=(g x,0):=by
   have:=h1 x hx
   show bsD (k1+k2) (inn f) x=_
   rw[Eg (n99 (show (bsD k1 (inn f) x).2=0 by rw[this])) k2];exact this
  rw[recB,e1,if_pos rfl]
  have e2:=(h3 x hx).2 (ls++[f.name]) (ps++[g x])
  have e3:recB (bsD (k1+k2)) x l (ls++[f.name]) (ps++[g x])=recB (bsD k2) x l (ls++[f.name]) (ps++[g x]):=by
   rw[Nat.add_comm];exact JX (JY k2 k1) _ _ _ _ (n99 (by rw[e2]))
  rw[e3,e2]
  simp
theorem Hs (w:Tree):(Cd w→AW w=true→Runs w)∧∀x∈w.kids,Cd x→AW x=true→Runs x:=by
 induction w using Tree.ind' with
 | h0=>exact⟨fun h=>absurd rfl (AQ h.term),fun x hx=>by cases hx⟩
 | h1 w hw ih =>
  refine⟨fun hc hv=>?_,fun x hx=>(ih x hx).1⟩
  rw[CU hw]at hv
  by_cases k1:w.kind=131
  ·refine⟨1,fun _=>.num w.n,fun x _=>?_,fun _ _ _ _=>.num _⟩
   rw[BH];unfold As;rw[ifn,if_pos k1]
  by_cases k2:w.kind=132
  ·refine⟨1,fun _=>.tru (decide (w.n=1)),fun x _=>?_,fun _ _ _ _=>.tru _⟩
   rw[BH];unfold As;rw[ifn,if_neg k1,if_pos k2]
  by_cases k3:w.kind=133
  ·refine⟨1,fun _=>.unt,fun x _=>?_,fun _ _ _ _=>.unt⟩
   rw[BH];unfold As;rw[ifn,if_neg k1,if_neg k2,if_pos k3]
  by_cases k4:w.kind=134∨w.kind=139
  ·refine⟨1,fun x=>.clo (decide (w.kind=139)) (w.kids.getD 1 .nil) x,fun x _=>?_,fun x y hx hy=>.clo hx hy ?_⟩
   ·rw[BH];unfold As;rw[ifn,if_neg k1,if_neg k2,if_neg k3,if_pos k4]
   have ht:w.kids.length=2∧AF (w.kids.getD 1 .nil)=true:=by
    rcases k4 with q|q
    ·have:=Bs hc.term (.inl q);exact⟨this.1,this.2.2⟩
    ·have:=Er hc.term q;exact⟨this.1,this.2.2⟩
   have hi:1 < w.kids.length:=by omega
   refine ((Ib VR x y).all _).1 ht.2 _ _ _ ⟨rfl,.inr (.inl ht.2),by have:=Cz hc.shw hi;have:=hc.size;omega,?_,?_⟩
   ·have:=kid1 hw hc.hi hc.free1 hi
    rcases k4 with q|q
    ·rw[q]at this ⊢;exact this
    ·rw[q]at this ⊢;exact this
   ·have:=kid2 hw hc.hi hc.free2 hi
    rcases k4 with q|q
    ·rw[q]at this ⊢;exact this
    ·rw[q]at this ⊢;exact this
  rw[ifn]at hv
  by_cases k5:w.kind=141∨w.kind=146
  ·rw[if_pos k5]at hv
   have ht:2≤w.kids.length∧AG (w.kids.getD 0 .nil)=true∧AF (w.kids.getD 1 .nil)=true:=by
    rcases k5 with q|q
    ·have:=DW hc.term q;exact⟨by omega,this.2.1,this.2.2.1⟩
    ·have:=Bs hc.term (.inr q);exact⟨by omega,this.2.1,this.2.2⟩
   have b0:bndF w.kind 0=(0,0):=by rcases k5 with q|q<;>(rw[q];rfl)
   have b1:bndF w.kind 1=(0,0):=by rcases k5 with q|q<;>(rw[q];rfl)
   obtain⟨c1,c2,c3⟩:=hc.con (by omega) b0 ht.2.1
   obtain⟨k,g,h1,h2⟩:=(ih _ (AA (by omega))).1 (hc.kid (by omega) b1 ht.2.2) hv
   refine⟨k+1,fun x=>if w.kind=146 then .tag w.name (w.kids.getD 0 .nil) (g x) else .pkd (w.kids.getD 0 .nil) (g x),fun x hx=>?_,fun x y hx hy=>?_⟩
   ·rw[BH];unfold As
    rw[ifn,if_neg k1,if_neg k2,if_neg k3,if_neg k4,ifn,ifp]
    unfold D4
    rw[h1 x hx,if_pos rfl,IJ c1 (by omega) (fun c hcc=>(hx c hcc).1),if_pos rfl]
   ·dsimp only
    by_cases q:w.kind=146
    ·rw[if_pos q,if_pos q];exact .tag (h2 x y hx hy)
    ·rw[if_neg q,if_neg q];exact .pkd c1 c3 (h2 x y hx hy)
  rw[if_neg k5]at hv
  by_cases k6:w.kind=136
  ·rw[if_pos k6]at hv
   obtain⟨k,gs,h1,h2⟩:=M6 w.kids fun x hx=>by
    obtain⟨i,hi,rfl⟩:=List.getElem_of_mem hx
    have e:w.kids[i]=w.kids.getD i .nil:=by simp[hi]
    have hf:=(Fq hc.term k6).1 _ (AA hi)
    obtain⟨q1,q2,q3,q4,q5⟩:=AK hf
    rw[e]
    exact (ih _ (AA hi)).2 _ (AA (by omega)) (hc.field k6 hi) (Gw hv _ (AA hi))
   refine⟨k+1,fun x=>.rcd (w.kids.map Tree.name) (gs x),fun x hx=>?_,fun x y hx hy=>.rcd (h2 x y hx hy)⟩
   rw[BH];unfold As
   rw[ifn,if_neg k1,if_neg k2,if_neg k3,if_neg k4,if_pos k6,(h1 x hx).2]
   simp
  ·rw[if_neg k6]at hv;cases hv
theorem Tr {i:Int}{b:Tree}(hi:0≤i)(hb:conE b=0)(hf:Bv b=0){T:Tree}(hs:Shw T)(hz:AD T≤65536){c t:Int}(h0:0≤c)(h1:c≤65536)(h:(Ai T c t).1≤0):rC i b T c=T:=by
 have e:=Qs hi hb T c t hs hz h
 rcases Lt hi hb hf T c hs hz h0 (by omega) with⟨a1,a2⟩|⟨a1,a2⟩
 ·rw[←a2,e]
 ·rw[e]at a1;cases a1
theorem WW {T:Tree}:∀(hs:Shw T) (c c' t t':Int),c≤c'→t≤t'→(Ai T c t).1≤0→(Ai T c' t').1≤0:=by
 induction T using Tree.ind' with
 | h0=>intro hs;exact absurd rfl hs.ne
 | h1 T hT ih =>
  intro hs c c' t t' hc ht h
  rw[Bc hT]at h ⊢
  by_cases q:T.kind=130
  ·rw[if_pos q];exact Int.le_refl _
  rw[if_neg q]at h ⊢
  by_cases q2:T.kind < 130
  ·rw[if_pos q2]at h ⊢
   have h:Bv T - c≤0:=h
   show Bv T - c'≤0
   omega
  rw[if_neg q2]at h ⊢
  have hk:∀x∈T.kids,Shw x:=by
   rcases DE hs with w|⟨_,_,w⟩
   ·exact absurd w q2
   ·exact w
  have hl:∀(l:List Tree) (p:Nat),(∀x∈l,x∈T.kids)→(Br T.kind p l c t).1≤0→(Br T.kind p l c' t').1≤0:=by
   intro l
   induction l with
   | nil=>intro p _ _;rw[Br];exact Int.le_refl _
   | cons x l ihl =>
    intro p hx h
    rw[Br]at h ⊢
    simp only[Eh]at h ⊢
    have hm:=hx x (by simp)
    have g1:=ihl (p+1) (fun y hy=>hx y (by simp[hy])) (by omega)
    have g2:=ih x hm (hk x hm) (c+(bndF T.kind p).1) (c'+(bndF T.kind p).1) (t+(bndF T.kind p).2) (t'+(bndF T.kind p).2) (by omega) (by omega) (by omega)
    omega
  exact hl T.kids 0 (fun x hx=>hx) h
theorem Iq {T b m:Tree}{i:Int}(h:conR T i b=(m,0)):Au T=0∧conE b=0∧0≤i∧BC b=true∧m=rC i b T 0∧AD m≤65536:=by
 rw[Xr]at h
 unfold Ue at h
 by_cases h1:Au T=0
 ·rw[if_neg (by simp[h1])]at h
  by_cases h2:conE b=0
  ·rw[if_neg (by simp[h2])]at h
   by_cases h3:i < 0∨BC b=false
   ·rw[if_pos h3]at h;exact absurd (Prod.mk.inj h).2 (by decide)
   ·rw[if_neg h3]at h
    unfold E2 at h
    have h3':0≤i∧BC b=true:=by
     refine⟨by omega,?_⟩
     cases hc:BC b with
     | true=>rfl
     | false=>exact absurd (.inr hc) h3
    by_cases h4:65536 < AD (rC i b T 0)
    ·rw[if_pos h4]at h;exact absurd (Prod.mk.inj h).2 (by decide)
    ·rw[if_neg h4]at h
     have e:=(Prod.mk.inj h).1
     exact⟨h1,h2,h3'.1,h3'.2,e.symm,by rw[←e];omega⟩
  ·rw[if_pos h2]at h;exact absurd (Prod.mk.inj h).2 h2
 ·rw[if_pos h1]at h;exact absurd (Prod.mk.inj h).2 h1
theorem Bt:okC .nil:=fun x hx=>by cases hx
theorem Rf (i:Int):atE .nil i=none:=by rw[atE]
def unP (b w:Tree)(t d:Nat)(T T':Tree):Prop:=T'=rC 0 b (inT 0 w T t) d∧Shw T∧d+AD T≤65536∧AD T'≤65536∧∃t0:Int,(Ai T ((d+1:Nat):Int) t0).1≤0
theorem aK {V:Vl→Vl→Prop}{b w:Tree}{v:Vl}(hb:conE b=0)(hbf:Bv b=0)(hcl:Cl (toC b))(hw:Cd w)(k:Nat)(g:Ev→Vl)(hg:∀x,okC x→bsD k w x=(g x,0))(hv:∀x,okC x→V v (g x)):Cor V (.val v (.con b .nil)) .nil (unP b w) where
 var:=fun t d T T' ⟨h1,h2,h3,h4,t0,h5⟩ ht hk=>by
  rw[Fu h2.ne,if_pos hk]at h1
  by_cases q:T.n < t∨T.n - t < 0
  ·rw[if_pos q,Kb h2.ne,if_pos (.inl hk)]at h1
   subst h1
   exact .loc hk hk (by omega) rfl
  rw[if_neg q]at h1
  by_cases q2:0 < T.n - t
  ·rw[if_pos q2,Kb (by intro e;cases e),if_pos (.inl rfl)]at h1
   subst h1
   refine .none hk rfl (by omega) (show (t:Int)≤T.n - 1 by omega) ?_ (Rf _)
   rw[FR (by omega),atE];exact Rf _
  ·rw[if_neg q2]at h1
   have e:rC 0 b w d=w:=Tr (t:=0) (by omega) hb hbf hw.shw hw.size (by omega) (by have:=AI h2.ne;omega) (WW hw.shw 0 d 0 0 (by omega) (by omega) hw.free1)
   rw[e]at h1
   subst h1
   refine .val k g hk (by omega) ?_ hg hv
   rw[show T.n - (t:Int)=0 by omega];exact He
 con:=fun t d c c' ⟨h1,h2,h3,h4,t0,h5⟩ hc=>by
  obtain⟨k1,k2,k3⟩:=Ld hc
  rw[Fu k1,if_neg k2,if_pos k3]at h1
  exact (RU (V:=V) hb hbf hcl).con t d c c' ⟨h1,h2,h3,h4,t0,h5⟩ hc
 node:=fun t d T T' ⟨h1,h2,h3,h4,t0,h5⟩ hs hk=>by
  have hsi:Shw (inT 0 w T t):=by
   have hR:=SL 0 w (Int.le_refl 0) hw.term T t (by omega) hs
   rcases hs with (q|q)|q|q|q
   ·exact .inl (.inl (hR.con q))
   ·exact .inl (.inr (hR.kind q))
   ·exact .inr (.inl (hR.term q))
   ·exact .inr (.inr (.inl (hR.field _ q)))
   ·exact .inr (.inr (.inr (hR.field _ q)))
  have e1:=LY hs (show 130≤T.kind by omega) 0 w t (fun q=>by omega)
  have hk2:(inT 0 w T t).kind=T.kind:=by rw[e1];rfl
  rw[OV hsi (by omega) 0 b d]at h1
  subst h1
  refine⟨by rw[e1];rfl,by rw[e1];rfl,by rw[e1];rfl,?_,fun i hi=>?_⟩
  ·show (rsC 0 b (inT 0 w T t).kind 0 (inT 0 w T t).kids d).length=_
   rw[Gv,e1];exact F4 _ _ _ _ _ _
  have hsz:=Cz hs hi
  have hbl:=EA T.kind i
  have hi2:i < (inT 0 w T t).kids.length:=by rw[e1];show i < (insT 0 w T.kind 0 T.kids t).length;rw[F4];exact hi
  refine⟨?_,G6 hs hk hi,by omega,?_,t0+(bndF T.kind i).2,?_⟩
  ·show (rsC 0 b (inT 0 w T t).kind 0 (inT 0 w T t).kids d).getD i .nil=_
   rw[K2 0 b _ _ 0 d i hi2,Nat.zero_add,hk2,bnd1,e1]
   show rC 0 b ((insT 0 w T.kind 0 T.kids t).getD i .nil) _=_
   rw[HD 0 w T.kind T.kids 0 t i hi,Nat.zero_add,bnd2]
  ·have hm:(rsC 0 b (inT 0 w T t).kind 0 (inT 0 w T t).kids d).getD i .nil∈rsC 0 b (inT 0 w T t).kind 0 (inT 0 w T t).kids d:=AA (by rw[Gv];exact hi2)
   have z1:=AH hm
   rw[AD]at h4
   show AD ((rsC 0 b (inT 0 w T t).kind 0 (inT 0 w T t).kids d).getD i .nil)≤65536
   omega
  ·have:=kid1 hs.ne hk h5 hi
   rw[bnd1]at this
   rw[show d+(bndF T.kind i).1.toNat+1=d+1+(bndF T.kind i).1.toNat by omega]
   exact this
def Like (T m:Tree):Prop:=∀k,(bsD k T .nil).2≠99→To (bsD k T .nil) fun k'=>bsD k' m .nil
theorem JW {k:Nat}{T:Tree}{e:Ev}(h:(bsD k T e).2≠99)(j:Nat):bsD k T e=As (bsD (k+j)) (foD (k+j)) T e:=by
 rw[←Eg h (j+1),show k+(j+1)=k+j+1 by omega,BH]
theorem KB {k0:Nat}{w:Tree}{v:Vl}{e:Ev}(h:bsD k0 w e=(v,0))(k:Nat):bsD (k+k0) w e=(v,0):=by
 rw[Nat.add_comm,Eg (n99 (by rw[h])),h]
theorem Rz {T:Tree}(h:T.kind=134∨T.kind=139)(k:Nat)(e:Ev):bsD (k+1) T e=(.clo (decide (T.kind=139)) (T.kids.getD 1 .nil) e,0):=by
 rw[BH];unfold As
 rw[ifn,ifn,ifn,ifn,if_pos h]
theorem GK (s:ByteArray):∀l:List Tree,armF s l=Af s l
 | []=>by rw[armF,Af]
 | x::l=>by rw[armF,Af,GK s l]
theorem OD {ev:Tree→Ev→R2}{ρ:Ev}:∀(l:List Tree) (ls:List ByteArray) (ps:List Vl),(recB ev ρ l ls ps).2=0→∃vs:List Vl,vs.length=l.length∧recB ev ρ l ls ps=(.rcd (ls++l.map Tree.name) (ps++vs),0)∧∀i,i < l.length→ev (inn (l.getD i .nil)) ρ=(vs.getD i .unt,0)
 | [],ls,ps,_=>⟨[],rfl,by rw[recB];simp,fun i hi=>by simp at hi⟩
 | x::l,ls,ps,h=>by
  rw[recB]at h
  by_cases q:(ev (x.kids.getD 0 .nil) ρ).2=0
  ·rw[if_pos q]at h
   obtain⟨vs,h1,h2,h3⟩:=OD l _ _ h
   refine⟨(ev (x.kids.getD 0 .nil) ρ).1::vs,by simp[h1],by rw[recB,if_pos q,h2];simp,fun i hi=>?_⟩
   cases i with
   | zero=>exact Prod.ext rfl q
   | succ i=>simpa using h3 i (by simpa using hi)
  ·rw[if_neg q]at h;exact absurd h q
theorem NI {P:Tree→Vl→Prop}{s:ByteArray}:∀{l:List Tree} {vs:List Vl},vs.length=l.length→(∀i,i < l.length→P (inn (l.getD i .nil)) (vs.getD i .unt))→∀{m:Tree},Af s l=some m→∃v,CN s (l.map Tree.name) vs=some v∧P m v
 | [],_,_,_,m,h=>by rw[Af]at h;cases h
 | x::l,[],h,_,_,_=>by simp at h
 | x::l,v::vs,hl,hP,m,h=>by
  rw[Af]at h
  rw[List.map_cons,CN]
  by_cases q:x.name=s
  ·rw[if_pos q]at h ⊢
   have h:=Option.some.inj h
   subst h
   exact⟨v,rfl,hP 0 (by simp)⟩
  ·rw[if_neg q]at h ⊢
   exact NI (by simpa using hl) (fun i hi=>by have:=hP (i+1) (by simpa using hi);simpa using this) h
theorem Fg {K:Nat}{b m:Tree}{ρ:Ev}(hC:CR VR 0 0 b ρ m .nil)(hρ:okC ρ)(h9:(bsD K b ρ).2≠99):To (bsD K b ρ) fun k'=>bsD k' m .nil:=(Sf K).1 _ _ _ _ hC hρ Bt h9
theorem Ra {b w m:Tree}{g:Ev→Vl}{k0:Nat}(hb:AF b=true)(hz:AD b≤65536)(hf:∃t0:Int,(Ai b 0 t0).1≤0)(hm:m=inT 0 w b 0)(h1:∀x,okC x→bsD k0 w x=(g x,0))(h2:∀x y,okC x→okC y→VR (g x) (g y)):CR VR 0 0 b (.val (g .nil) .nil) m .nil:=by
 obtain⟨t0,hf⟩:=hf
 exact ((Zg (V:=VR) (e:=.nil) (v:=g .nil) (w:=w) Rf k0 g h1 fun x hx=>h2 _ _ Bt hx).all b).1 hb 0 0 m ⟨hm,.inr (.inl hb),hz,t0,hf⟩
theorem Vt {T m:Tree}(hT:Cd T)(hk:T.kind=135)(h0:(kidT T 0).kind=134)(hv1:AW (kidT T 1)=true)(hg:CO (kidT (kidT T 0) 1) 0 (kidT T 1)=(m,0)):Like T m:=by
 intro k h9
 obtain⟨tl,t0,t1⟩:=A8 hT.term (.inl hk)
 have c0:Cd (kidT T 0):=hT.kid (by omega) (by rw[hk];rfl) t0
 have c1:Cd (kidT T 1):=hT.kid (by omega) (by rw[hk];rfl) t1
 obtain⟨a1,a2,a3,a4,a5,a6⟩:=Ey hg
 obtain⟨b1,b2,b3⟩:=Bo a1
 obtain⟨k1,g,h1,h2⟩:=(Hs _).1 c1 hv1
 have e:=JW h9 (1+k1)
 have e0:bsD (k+(1+k1)) (T.kids.getD 0 .nil) .nil=(.clo false (kidT (kidT T 0) 1) .nil,0):=by
  rw[show k+(1+k1)=k+k1+1 by omega,Rz (T:=T.kids.getD 0 .nil) (.inl h0)]
  rw[show (T.kids.getD 0 .nil).kind=134 from h0];rfl
 have e1:bsD (k+(1+k1)) (T.kids.getD 1 .nil) .nil=(g .nil,0):=by
  rw[show k+(1+k1)=k+1+k1 by omega];exact KB (h1 _ Bt) _
 have h9':=h9
 unfold As at e
 rw[ifn,ifn,ifn,ifn,ifn,ifn,ifn,e0,if_neg (fun q=>q rfl),if_pos (.inl hk),e1,if_neg (fun q=>q rfl),ifn]at e
 have e:bsD k T .nil=bsD (k+(1+k1)) (kidT (kidT T 0) 1) (.val (g .nil) .nil):=e
 rw[e]at h9 ⊢
 refine Fg (Ra b1 b2 ⟨1,?_⟩ a5 h1 h2) Bt h9
 have hl0:(kidT T 0).kids.length=2:=(Bs c0.term (.inl h0)).1
 have:=kid1 (AQ c0.term) c0.hi c0.free1 (i:=1) (by omega)
 rw[h0]at this
 exact this
theorem UN {T m:Tree}(hT:Cd T)(hk:T.kind=140)(h0:(kidT T 0).kind=139)(hg:conR (kidT (kidT T 0) 1) 0 (kidT T 1)=(m,0)):Like T m:=by
 intro k h9
 obtain⟨tl,t0,t1⟩:=Da hT.term hk
 have c0:Cd (kidT T 0):=hT.kid (by omega) (by rw[hk];rfl) t0
 obtain⟨a1,a2,a3,a4,a5,a6⟩:=Iq hg
 obtain⟨b1,b2,b3⟩:=Bo a1
 have hbf:=FJ a2 a4
 have hcl:Cl (toC (kidT T 1)):=(Gp a2 (d:=0) (by omega)).cl
 have e:=JW h9 1
 have e0:bsD (k+1) (T.kids.getD 0 .nil) .nil=(.clo true (kidT (kidT T 0) 1) .nil,0):=by
  rw[Rz (T:=T.kids.getD 0 .nil) (.inr h0)]
  rw[show (T.kids.getD 0 .nil).kind=139 from h0];rfl
 unfold As at e
 rw[ifn,ifn,ifn,ifn,ifn,ifn,ifn,e0,if_neg (fun q=>q rfl),ifn,ifn]at e
 have e:bsD k T .nil=if T.kind=140∧true=true then (if (AN [] (T.kids.getD 1 .nil)).2=0 then bsD (k+1) (kidT (kidT T 0) 1) (.con (AN [] (T.kids.getD 1 .nil)).1 .nil) else (.unt,(AN [] (T.kids.getD 1 .nil)).2)) else (.unt,20):=e
 rw[if_pos ⟨hk,rfl⟩,AN,if_pos rfl]at e
 have e:bsD k T .nil=bsD (k+1) (kidT (kidT T 0) 1) (.con (kidT T 1) .nil):=e
 rw[e]at h9 ⊢
 have hl0:(kidT T 0).kids.length=2:=(Er c0.term h0).1
 refine Fg (((RU (V:=VR) a2 hbf hcl).all _).1 b1 0 0 m ⟨a5,.inr (.inl b1),by omega,a6,0,?_⟩) (Hy a2 hcl Bt) h9
 have:=kid1 (AQ c0.term) c0.hi c0.free1 (i:=1) (by omega)
 rw[h0]at this
 exact this
theorem Tg {T m:Tree}(hT:Cd T)(hk:T.kind=138)(h0:(kidT T 0).kind=136)(hv0:AW (kidT T 0)=true)(hg:Af T.name (kidT T 0).kids=some m):Like T m:=by
 intro k h9
 obtain⟨tl,t0⟩:=GY hT.term hk
 have c0:Cd (kidT T 0):=hT.kid (by omega) (by rw[hk];rfl) t0
 obtain⟨k1,g,h1,h2⟩:=(Hs _).1 c0 hv0
 have e:=JW h9 (k1+1)
 have e0:bsD (k+(k1+1)) (T.kids.getD 0 .nil) .nil=(g .nil,0):=by
  rw[show k+(k1+1)=k+1+k1 by omega];exact KB (h1 _ Bt) _
 have e0':=e0
 rw[show k+(k1+1)=k+k1+1 by omega,BH]at e0'
 unfold As at e0'
 have h0':(T.kids.getD 0 .nil).kind=136:=h0
 rw[ifn,ifn,ifn,ifn,ifn,if_pos h0']at e0'
 obtain⟨vs,v1,v2,v3⟩:=OD _ _ _ (show (recB (bsD (k+k1)) .nil (T.kids.getD 0 .nil).kids [] []).2=0 by rw[e0'])
 have hvm:=Gw (show DY (kidT T 0).kids=true by rw[CU (AQ c0.term),ifn,ifn,if_pos h0]at hv0;exact hv0)
 obtain⟨v,l1,l2,l3⟩:=NI (P:=fun x v=>bsD (k+k1) x .nil=(v,0)∧VR v v) v1 (fun i hi=>⟨v3 i hi,by
  obtain⟨kk,gg,r1,r2⟩:=(Hs _).1 (c0.field h0 hi) (hvm _ (AA hi))
  have d1:=r1 _ Bt
  have d2:=v3 i hi
  have:=RW (k:=kk) (k':=k+k1) (T:=inn ((kidT T 0).kids.getD i .nil)) (ρ:=.nil) (n99 (by rw[d1])) (n99 (show (bsD (k+k1) (inn ((T.kids.getD 0 .nil).kids.getD i .nil)) .nil).2=0 by rw[d2]))
  rw[d1]at this
  have this:(gg .nil,(0:Int))=(vs.getD i .unt,0):=by rw[this];exact d2
  have:=(Prod.mk.inj this).1
  rw[←this]
  exact r2 _ _ Bt Bt⟩) hg
 have eg:g .nil=.rcd ((T.kids.getD 0 .nil).kids.map Tree.name) vs:=by
  have:(g .nil,(0:Int))=(.rcd ([]++(T.kids.getD 0 .nil).kids.map Tree.name) ([]++vs),0):=by rw[←v2,e0']
  have:=(Prod.mk.inj this).1
  simpa using this
 unfold As at e
 rw[ifn,ifn,ifn,ifn,ifn,ifn,ifn,e0,if_neg (fun q=>q rfl),ifn,ifn,eg]at e
 unfold useB at e
 dsimp only at e
 rw[show CN T.name ((T.kids.getD 0 .nil).kids.map Tree.name) vs=some v from l1]at e
 dsimp only at e
 rw[if_pos hk]at e
 rw[e]
 refine .inr ⟨k+k1,?_⟩
 show RR _ (bsD (k+k1) m .nil)
 rw[l2]
 exact⟨show (0:Int)≠99 by decide,.inr ⟨rfl,fun _=>l3⟩⟩
theorem Nk {m:Tree}(hm:Cd m)(e e':Ev):CR VR 0 0 m e m e':=((Ib VR e e').all m).1 hm.term 0 0 m ⟨rfl,hm.shw,hm.size,hm.free1,hm.free2⟩
theorem PW {T m:Tree}(hT:Cd T)(hk:T.kind=144)(h0:(kidT T 0).kind=132)(hg:(if (kidT T 0).n=1 then kidT T 1 else kidT T 2)=m):Like T m:=by
 intro k h9
 obtain⟨tl,t0,t1,t2⟩:=C0 hT.term hk
 have e:=JW h9 1
 have e0:bsD (k+1) (T.kids.getD 0 .nil) .nil=(.tru (decide ((kidT T 0).n=1)),0):=by
  rw[BH];unfold As
  have h0':(T.kids.getD 0 .nil).kind=132:=h0
  rw[ifn,ifn,if_pos h0'];rfl
 unfold As at e
 rw[ifn,ifn,ifn,ifn,ifn,ifn,ifn,e0,if_neg (fun q=>q rfl),ifn,ifn]at e
 have e:bsD k T .nil=if T.kind=144 then bsD (k+1) (T.kids.getD (if decide ((kidT T 0).n=1)=true then 1 else 2) .nil) .nil else (.unt,20):=e
 rw[if_pos hk]at e
 have e2:T.kids.getD (if decide ((kidT T 0).n=1)=true then 1 else 2) .nil=m:=by
  by_cases q:(kidT T 0).n=1
  ·rw[if_pos q]at hg;rw[decide_eq_true q,if_pos rfl,←hg];rfl
  ·rw[if_neg q]at hg;rw[decide_eq_false q,if_neg (by decide),←hg];rfl
 have hm:Cd m:=by
  by_cases q:(kidT T 0).n=1
  ·rw[if_pos q]at hg;rw[←hg];exact hT.kid (by omega) (by rw[hk];rfl) t1
  ·rw[if_neg q]at hg;rw[←hg];exact hT.kid (by omega) (by rw[hk];rfl) t2
 rw[e2]at e
 rw[e]at h9 ⊢
 exact Fg (Nk hm _ _) Bt h9
theorem O9 {T m:Tree}(hT:Cd T)(hk:T.kind=142)(h0:(kidT T 0).kind=141)(hv0:AW (kidT T 0)=true)(hg1:(CO (kidT T 1) 0 (kidT (kidT T 0) 1)).2=0)(hg:conR (CO (kidT T 1) 0 (kidT (kidT T 0) 1)).1 0 (kidT (kidT T 0) 0)=(m,0)):Like T m:=by
 intro k h9
 obtain⟨tl,t0,t1⟩:=A8 hT.term (.inr (.inl hk))
 have c0:Cd (kidT T 0):=hT.kid (by omega) (by rw[hk];rfl) t0
 obtain⟨pl,p0,p1,p2⟩:=DW c0.term h0
 have cw:Cd (kidT (kidT T 0) 1):=c0.kid (by omega) (by rw[h0];rfl) p1
 obtain⟨a1,a2,a3,a4,a5,a6⟩:=Ey (Prod.ext rfl hg1:CO (kidT T 1) 0 (kidT (kidT T 0) 1)=((CO (kidT T 1) 0 (kidT (kidT T 0) 1)).1,0))
 obtain⟨d1,d2,d3,d4,d5,d6⟩:=Iq hg
 obtain⟨b1,b2,b3⟩:=Bo a1
 have hbf:=FJ d2 d4
 have hcl:Cl (toC (kidT (kidT T 0) 0)):=(Gp d2 (d:=0) (by omega)).cl
 have hvw:AW (kidT (kidT T 0) 1)=true:=by rw[CU (AQ c0.term),ifn,if_pos (.inl h0)]at hv0;exact hv0
 obtain⟨k1,g,h1,h2⟩:=(Hs _).1 cw hvw
 have e:=JW h9 (1+k1)
 have e0:bsD (k+(1+k1)) (T.kids.getD 0 .nil) .nil=(.pkd (kidT (kidT T 0) 0) (g .nil),0):=by
  have h0':(T.kids.getD 0 .nil).kind=141:=h0
  rw[show k+(1+k1)=k+k1+1 by omega,BH];unfold As
  rw[ifn,ifn,ifn,ifn,ifn,ifn,if_pos (.inr h0')]
  unfold D4
  rw[show bsD (k+k1) ((T.kids.getD 0 .nil).kids.getD 1 .nil) .nil=(g .nil,0) from KB (h1 _ Bt) _,if_pos rfl]
  show (if (AN [] ((T.kids.getD 0 .nil).kids.getD 0 .nil)).2=0 then _ else _)=_
  rw[AN,if_pos rfl,ifn];rfl
 unfold As at e
 rw[ifn,ifn,ifn,ifn,ifn,ifn,ifn,e0,if_neg (fun q=>q rfl),ifn,ifn]at e
 have e:bsD k T .nil=if T.kind=142 then bsD (k+(1+k1)) (T.kids.getD 1 .nil) (.val (g .nil) (.con (kidT (kidT T 0) 0) .nil)) else (.unt,20):=e
 rw[if_pos hk]at e
 have e:bsD k T .nil=bsD (k+(1+k1)) (kidT T 1) (.val (g .nil) (.con (kidT (kidT T 0) 0) .nil)):=e
 rw[e]at h9 ⊢
 refine Fg (((aK (V:=VR) d2 hbf hcl cw k1 g h1 fun x hx=>h2 _ _ Bt hx).all _).1 b1 0 0 m ⟨by rw[d5,a5];rfl,.inr (.inl b1),by omega,d6,1,?_⟩) (Ep (Hy d2 hcl Bt)) h9
 have:=kid1 (AQ hT.term) hT.hi hT.free1 (i:=1) (by omega)
 rw[hk]at this
 exact this
theorem UQ {T m:Tree}(hT:Cd T)(hk:T.kind=143)(hv0:AW (kidT T 0)=true)(hg:CO (kidT T 1) 0 (kidT T 0)=(m,0)):Like T m:=by
 intro k h9
 obtain⟨tl,t0,t1⟩:=A8 hT.term (.inr (.inr (.inl hk)))
 have c0:Cd (kidT T 0):=hT.kid (by omega) (by rw[hk];rfl) t0
 obtain⟨a1,a2,a3,a4,a5,a6⟩:=Ey hg
 obtain⟨b1,b2,b3⟩:=Bo a1
 obtain⟨k1,g,h1,h2⟩:=(Hs _).1 c0 hv0
 have e:=JW h9 k1
 have e0:bsD (k+k1) (T.kids.getD 0 .nil) .nil=(g .nil,0):=KB (h1 _ Bt) _
 unfold As at e
 rw[ifn,ifn,ifn,ifn,ifn,ifn,ifn,e0,if_neg (fun q=>q rfl),ifn,if_pos hk]at e
 have e:bsD k T .nil=bsD (k+k1) (kidT T 1) (.val (g .nil) .nil):=e
 rw[e]at h9 ⊢
 refine Fg (Ra b1 b2 ⟨1,?_⟩ a5 h1 h2) Bt h9
 have:=kid1 (AQ hT.term) hT.hi hT.free1 (i:=1) (by omega)
 rw[hk]at this
 exact this
theorem Xy {T m:Tree}(hT:Cd T)(hk:T.kind=145)(hg:opF T=(m,0)):Like T m:=by
 intro k h9
 unfold opF at hg
 have hn:=(BR hT.term).1.n145 hk
 by_cases c:(kidT T 0).kind≠131∨(kidT T 1).kind≠131
 ·rw[if_pos c]at hg;exact absurd (Prod.mk.inj hg).2 (by decide)
 rw[if_neg c]at hg
 have e:=JW h9 1
 have en:∀i,(T.kids.getD i .nil).kind=131→bsD (k+1) (T.kids.getD i .nil) .nil=(.num (kidT T i).n,0):=fun i hi=>by
  rw[BH];unfold As
  rw[ifn,if_pos hi];rfl
 have q0:(T.kids.getD 0 .nil).kind=131:=Decidable.byContradiction fun h=>c (.inl h)
 have q1:(T.kids.getD 1 .nil).kind=131:=Decidable.byContradiction fun h=>c (.inr h)
 unfold As at e
 rw[ifn,ifn,ifn,ifn,ifn,ifn,ifn,en 0 q0,if_neg (fun q=>q rfl),if_pos (.inr hk),en 1 q1,if_neg (fun q=>q rfl),if_pos hk]at e
 have e:bsD k T .nil=if T.n=4 then (.tru (decide ((kidT T 0).n=(kidT T 1).n)),0) else if T.n≠1∧T.n≠2∧T.n≠3 then (.tru (decide ((kidT T 0).n < (kidT T 1).n)),0)
  else if IntKind.i64.wrap (if T.n=1 then (kidT T 0).n+(kidT T 1).n else if T.n=2 then (kidT T 0).n - (kidT T 1).n else (kidT T 0).n*(kidT T 1).n) < -1073741824∨1073741824 < IntKind.i64.wrap (if T.n=1 then (kidT T 0).n+(kidT T 1).n else if T.n=2 then (kidT T 0).n - (kidT T 1).n else (kidT T 0).n*(kidT T 1).n) then (.unt,19)
   else (.num (IntKind.i64.wrap (if T.n=1 then (kidT T 0).n+(kidT T 1).n else if T.n=2 then (kidT T 0).n - (kidT T 1).n else (kidT T 0).n*(kidT T 1).n)),0):=e
 have hbool:∀(b:Bool),bsD 1 (Sm b) .nil=(.tru b,0):=fun b=>by
  rw[BH];unfold As
  have hk:(Sm b).kind=132:=rfl
  rw[ifn,ifn,if_pos hk]
  cases b<;>rfl
 have hnum:∀(n:Int),bsD 1 (numN n) .nil=(.num n,0):=fun n=>by
  rw[BH];unfold As
  have hk:(numN n).kind=131:=rfl
  rw[ifn,if_pos hk];rfl
 by_cases n4:T.n=4
 ·rw[if_pos n4]at e hg
  rw[e,←(Prod.mk.inj hg).1]
  exact .inr ⟨1,by
   show RR _ (bsD 1 _ _)
   rw[hbool];exact⟨show (0:Int)≠99 by decide,.inr ⟨rfl,fun _=>.tru _⟩⟩⟩
 rw[if_neg n4]at e hg
 by_cases n5:T.n=5
 ·rw[if_pos n5]at hg
  rw[ifp]at e
  rw[e,←(Prod.mk.inj hg).1]
  exact .inr ⟨1,by
   show RR _ (bsD 1 _ _)
   rw[hbool];exact⟨show (0:Int)≠99 by decide,.inr ⟨rfl,fun _=>.tru _⟩⟩⟩
 rw[if_neg n5]at hg
 rw[ifn]at e
 have hs:sumF T.n (kidT T 0).n (kidT T 1).n=IntKind.i64.wrap (if T.n=1 then (kidT T 0).n+(kidT T 1).n else if T.n=2 then (kidT T 0).n - (kidT T 1).n else (kidT T 0).n*(kidT T 1).n):=rfl
 rw[←hs]at e
 by_cases r:sumF T.n (kidT T 0).n (kidT T 1).n < -1073741824∨1073741824 < sumF T.n (kidT T 0).n (kidT T 1).n
 ·rw[if_pos r]at hg;exact absurd (Prod.mk.inj hg).2 (by decide)
 ·rw[if_neg r]at e hg
  rw[e,←(Prod.mk.inj hg).1]
  exact .inr ⟨1,by
   show RR _ (bsD 1 _ _)
   rw[hnum];exact⟨show (0:Int)≠99 by decide,.inr ⟨rfl,fun _=>.num _⟩⟩⟩
theorem VV {w:Tree}(hw:Cd w)(hk:w.kind=146)(hv:AW w=true):∃k1:Nat,∃g:Ev→Vl,Cd (kidT w 1)∧(∀x,okC x→bsD k1 (kidT w 1) x=(g x,0))∧(∀x y,okC x→okC y→VR (g x) (g y))∧∀k,bsD (k+(1+k1)) w .nil=(.tag w.name (kidT w 0) (g .nil),0):=by
 obtain⟨pl,p0,p1⟩:=Bs hw.term (.inr hk)
 have cw:Cd (kidT w 1):=hw.kid (by omega) (by rw[hk];rfl) p1
 have hvw:AW (kidT w 1)=true:=by rw[CU (AQ hw.term),ifn,if_pos (.inr hk)]at hv;exact hv
 obtain⟨k1,g,h1,h2⟩:=(Hs _).1 cw hvw
 refine⟨k1,g,cw,h1,h2,fun k=>?_⟩
 rw[show k+(1+k1)=k+k1+1 by omega,BH];unfold As
 rw[ifn,ifn,ifn,ifn,ifn,ifn,if_pos (.inl hk)]
 unfold D4
 rw[show bsD (k+k1) (w.kids.getD 1 .nil) .nil=(g .nil,0) from KB (h1 _ Bt) _,if_pos rfl]
 show (if (AN [] (w.kids.getD 0 .nil)).2=0 then _ else _)=_
 rw[AN,if_pos rfl,if_pos hk];rfl
theorem Hc {s:ByteArray}:∀{l:List Tree} {b:Tree},Af s l=some b→∃i,i < l.length∧b=inn (l.getD i .nil)
 | [],b,h=>by rw[Af]at h;cases h
 | x::l,b,h=>by
  rw[Af]at h
  by_cases q:x.name=s
  ·rw[if_pos q]at h;exact⟨0,by simp,(Option.some.inj h).symm⟩
  ·rw[if_neg q]at h
   obtain⟨i,h1,h2⟩:=Hc h
   exact⟨i+1,by simpa using h1,by simpa using h2⟩
theorem Ul {T:Tree}(hT:Cd T){j:Nat}(hj:T.kind=147∧j=1∨T.kind=148∧j=2){i:Nat}(hi:i < (T.kids.drop j).length):AF (inn ((T.kids.drop j).getD i .nil))=true∧AD (inn ((T.kids.drop j).getD i .nil))≤65536∧(Ai (inn ((T.kids.drop j).getD i .nil)) 0 1).1≤0:=by
 have hi':j+i < T.kids.length:=by simp at hi;omega
 have e:(T.kids.drop j).getD i .nil=T.kids.getD (j+i) .nil:=by simp[List.getD_eq_getElem?_getD]
 have hf:A9 149 (T.kids.getD (j+i) .nil)=true:=by
  rcases hj with⟨q,rfl⟩|⟨q,rfl⟩
  ·exact (Cg hT.term q).2.2 _ (EW (by omega) hi')
  ·exact (CY hT.term q).2.2.2 _ (EW (by omega) hi')
 obtain⟨q1,q2,q3,q4,q5⟩:=AK hf
 have hb:bndF T.kind (j+i)=(0,0):=by
  unfold bndF
  rcases hj with⟨q,rfl⟩|⟨q,rfl⟩
  ·rw[q,if_neg (by decide)];split<;>rfl
  ·rw[q,if_neg (by decide)];split<;>rfl
 have h1:=kid1 (AQ hT.term) hT.hi hT.free1 hi'
 rw[hb]at h1
 have h3:=kid1 q1 (by omega) h1 (i:=0) (by omega)
 have hb2:bndF (T.kids.getD (j+i) .nil).kind 0=(0,1):=by rw[q2];rfl
 rw[hb2]at h3
 have z1:=Cz hT.shw hi'
 have z2:=Cz (T:=T.kids.getD (j+i) .nil) (.inr (.inr (.inr hf))) (i:=0) (by omega)
 have:=hT.size
 rw[e]
 exact⟨q5,by unfold inn;omega,h3⟩
theorem T5 {T m:Tree}(hT:Cd T)(hk:T.kind=147)(h0:(kidT T 0).kind=146)(hv0:AW (kidT T 0)=true){b:Tree}(hb:Af (kidT T 0).name (T.kids.drop 1)=some b)(hg:CO b 0 (kidT (kidT T 0) 1)=(m,0)):Like T m:=by
 intro k h9
 obtain⟨tl,t0,t1⟩:=Cg hT.term hk
 have c0:Cd (kidT T 0):=hT.kid (by omega) (by rw[hk];rfl) t0
 obtain⟨a1,a2,a3,a4,a5,a6⟩:=Ey hg
 obtain⟨k1,g,cw,h1,h2,h3⟩:=VV c0 h0 hv0
 have e:=JW h9 (1+k1)
 have e0:bsD (k+(1+k1)) (T.kids.getD 0 .nil) .nil=_:=h3 k
 unfold As at e
 rw[ifn,ifn,ifn,ifn,ifn,ifn,ifn,e0,if_neg (fun q=>q rfl),ifn,ifn]at e
 unfold useB at e
 dsimp only at e
 rw[if_pos hk,GK,hb]at e
 dsimp only at e
 rw[e]at h9 ⊢
 obtain⟨i,i1,i2⟩:=Hc hb
 obtain⟨f1,f2,f3⟩:=Ul hT (.inl ⟨hk,rfl⟩) i1
 rw[←i2]at f1 f2 f3
 exact Fg (Ra f1 f2 ⟨1,f3⟩ a5 h1 h2) Bt h9
inductive Mt:Tree→Vl→Prop
 | var {c:Tree} {x:Vl} (h:c.kind=110∧c.n=0):Mt c x
 | leaf {c:Tree} {x:Vl} (h:¬(c.kind=110∧c.n=0)) (h2:c.kind≠115):Mt c x
 | rcd {c:Tree} {ps:List Vl} (h:c.kind=115) (hl:ps.length=c.kids.length) (hp:∀i,i < c.kids.length→Mt (inn (c.kids.getD i .nil)) (ps.getD i .unt)):Mt c (.rcd (c.kids.map Tree.name) ps)
theorem SY (fo:Tree→ByteArray→Tree→Vl→Ev→R2)(T:Tree)(e:Ev){c:Tree}(hc:c≠.nil)(x:Vl):unrB fo T e c x=if c.kind=110∧c.n=0 then (match x with
   | .tag nm s p=>fo T nm s p e
   | _=>(.unt,20))
  else match x with
   | .rcd ls ps=>if c.kind=115∧c.kids.length=ps.length then BG fo T e c.kids ls ps x ls [] else (x,0)
   | x=>(x,0):=by
 cases c with
 | nil=>exact absurd rfl hc
 | node kk n nm mk l=>exact Dk _ _ _ _ _ _ _ _ _
theorem Un {fo fo':Tree→ByteArray→Tree→Vl→Ev→R2}{T T':Tree}{e:Ev}(h:∀nm s p,fo T nm s p e=fo' T' nm s p e)(c:Tree):(∀x,unrB fo T e c x=unrB fo' T' e c x)∧∀y∈c.kids,∀x,unrB fo T e y x=unrB fo' T' e y x:=by
 induction c using Tree.ind' with
 | h0=>exact⟨fun x=>by rw[unrB,unrB],fun x hx=>by cases hx⟩
 | h1 c hc ih =>
  refine⟨fun x=>?_,fun y hy=>(ih y hy).1⟩
  cases c with
  | nil=>exact absurd rfl hc
  | node kk n nm mk l =>
   rw[Dk,Dk]
   by_cases hv:kk=110∧n=0
   ·rw[if_pos hv,if_pos hv]
    cases x with
    | tag nm s p=>exact h nm s p
    | _=>rfl
   ·rw[if_neg hv,if_neg hv]
    cases x with
    | rcd ls ps =>
     dsimp only
     by_cases hl:kk=115∧l.length=ps.length
     ·rw[if_pos hl,if_pos hl]
      have key:∀(l':List Tree),(∀y∈l',∀z∈y.kids,∀x,unrB fo T e z x=unrB fo' T' e z x) →
        ∀(a:List ByteArray) (b:List Vl) (w:Vl) (al:List ByteArray) (o:List Vl),BG fo T e l' a b w al o=BG fo' T' e l' a b w al o:=by
       intro l'
       induction l' with
       | nil=>intro _ a b w al o;rw[BG,BG]
       | cons y l' ih2 =>
        intro hy0 a b w al o
        rw[BG,BG]
        have hz:∀x,unrB fo T e (y.kids.getD 0 .nil) x=unrB fo' T' e (y.kids.getD 0 .nil) x:=by
         cases hk:y.kids with
         | nil=>intro x;simp only[List.getD_nil];rw[unrB,unrB]
         | cons z zs=>exact hy0 y (by simp) z (by rw[hk];simp)
        rw[DH,DH,hz,ih2 (fun z hz=>hy0 z (by simp[hz]))]
      exact key l (fun y hy z hz=>(ih y hy).2 z hz) _ _ _ _ _
     ·rw[if_neg hl,if_neg hl]
    | _=>rfl
theorem Si {T T':Tree}{e:Ev}(h:T'.kids.drop 2=T.kids.drop 2):∀k nm s p,foD k T nm s p e=foD k T' nm s p e
 | 0,nm,s,p=>by rw[foD,foD]
 | k+1,nm,s,p=>by
  rw[IK,IK]
  unfold Fa
  rw[h]
  have:=fun c x=>(Un (e:=e) (fun nm s p=>Si h k nm s p) c).1 x
  simp only[this]
theorem TY {T:Tree}{i:Nat}{k:Tree}(hi:i < 2):(EY T i k).kids.drop 2=T.kids.drop 2:=by
 show (T.kids.set i _).drop 2=_
 rw[List.drop_set_of_lt (by omega)]
theorem Uo {T:Tree}{i:Nat}{k:Tree}(hi:i < T.kids.length)(hk:T.kind≠136):(EY T i k).kids.getD i .nil=k:=by
 show (T.kids.set i _).getD i .nil=_
 rw[if_neg hk];simp[hi]
theorem Vb {w:Tree}{k:Nat}{ls:List ByteArray}{ps:List Vl}(hv:AW w=true)(hw:w≠.nil)(h:bsD k w .nil=(.rcd ls ps,0)):w.kind=136∧∃k',k=k'+1∧recB (bsD k') .nil w.kids [] []=(.rcd ls ps,0):=by
 cases k with
 | zero=>rw[bsD]at h;cases h
 | succ k =>
  rw[CU hw]at hv
  rw[BH]at h
  unfold As at h
  by_cases c0:w.kind=130
  ·rw[ifn,ifn,ifn]at hv;cases hv
  rw[if_neg c0]at h
  by_cases c1:w.kind=131
  ·rw[if_pos c1]at h;cases h
  rw[if_neg c1]at h
  by_cases c2:w.kind=132
  ·rw[if_pos c2]at h;cases h
  rw[if_neg c2]at h
  by_cases c3:w.kind=133
  ·rw[if_pos c3]at h;cases h
  rw[if_neg c3]at h
  by_cases c4:w.kind=134∨w.kind=139
  ·rw[if_pos c4]at h;cases h
  rw[if_neg c4]at h
  by_cases c5:w.kind=136
  ·rw[if_pos c5]at h;exact⟨c5,k,rfl,h⟩
  rw[if_neg c5]at h
  by_cases c6:w.kind=146∨w.kind=141
  ·rw[if_pos c6]at h
   exfalso
   unfold D4 at h
   split at h
   ·split at h
    ·split at h
     ·cases h
     ·cases h
    ·cases h
   ·cases h
  ·rw[ifn,ifn,if_neg c5]at hv;cases hv
theorem WU {T:Tree}(hk:T.kind=148)(hl:0 < T.kids.length){k:Nat}(c:Tree) :
  (∀(w:Tree) (x:Vl) (k0:Nat),w≠.nil→AW w=true→bsD k0 w .nil=(x,0)→Mt c x→(unrB (foD k) T .nil c x).2≠99→∃k',bsD k' (BS T c w) .nil=unrB (foD k) T .nil c x) ∧
  ∀y∈c.kids,∀(w:Tree) (x:Vl) (k0:Nat),w≠.nil→AW w=true→bsD k0 w .nil=(x,0)→Mt y x→(unrB (foD k) T .nil y x).2≠99→∃k',bsD k' (BS T y w) .nil=unrB (foD k) T .nil y x:=by
 induction c using Tree.ind' with
 | h0=>exact⟨fun w x k0 _ _ hw _ _=>⟨k0,by rw[BS,unrB,hw]⟩,fun x hx=>by cases hx⟩
 | h1 c hc ih =>
  refine⟨fun w x k0 hwn hwv hw hM h9=>?_,fun y hy=>(ih y hy).1⟩
  have hun:=SY (foD k) T .nil hc x
  rw[MD hc]
  rw[hun]at h9 ⊢
  cases hM with
  | var h =>
   rw[if_pos h]at h9 ⊢
   rw[if_pos h]
   refine⟨k+k0+1,?_⟩
   have hk2:(EY T 0 w).kind=148:=hk
   have e0:bsD (k+k0) ((EY T 0 w).kids.getD 0 .nil) .nil=(x,0):=by rw[Uo hl (by omega)];exact KB hw _
   rw[BH]
   unfold As
   rw[ifn,ifn,ifn,ifn,ifn,ifn,ifn,e0,if_neg (fun q=>q rfl),ifn,ifn]
   unfold useB
   cases x with
   | tag nm s p =>
    dsimp only at h9 ⊢
    rw[ifn,if_pos hk2,←Si (TY (T:=T) (i:=0) (k:=w) (by omega))]
    exact Wn h9 _
   | rcd ls ps =>
    dsimp only
    cases CN (EY T 0 w).name ls ps with
    | none=>rfl
    | some p=>dsimp only;rw[ifn]
   | tru b=>dsimp only;rw[ifn]
   | clo ty b e=>dsimp only;rw[ifn]
   | pkd c p=>dsimp only;rw[ifn]
   | num n=>rfl
   | unt=>rfl
  | leaf h h2 =>
   rw[if_neg h,if_neg h,ifn]
   refine⟨k0,?_⟩
   rw[hw]
   cases x with
   | rcd ls ps=>dsimp only;rw[ifn]
   | _=>rfl
  | @rcd _ ps h hlen hp =>
   have hn:¬(c.kind=110∧c.n=0):=by omega
   rw[if_neg hn]at h9 ⊢
   rw[if_neg hn]
   dsimp only at h9 ⊢
   rw[if_pos (show c.kind=115∧c.kids.length=ps.length from⟨h,hlen.symm⟩)]at h9 ⊢
   obtain⟨hw6,k1,rfl,hrec⟩:=Vb hwv hwn hw
   obtain⟨vs,v1,v2,v3⟩:=OD _ _ _ (show (recB (bsD k1) .nil w.kids [] []).2=0 by rw[hrec])
   rw[hrec]at v2
   have e1:c.kids.map Tree.name=w.kids.map Tree.name∧ps=vs:=by
    have:=(Prod.mk.inj v2).1
    injection this with a b
    exact⟨by simpa using a,by simpa using b⟩
   obtain⟨e1,rfl⟩:=e1
   rw[if_pos (show c.kind=115∧w.kind=136∧c.kids.map Tree.name=w.kids.map Tree.name from⟨h,hw6,e1⟩)]
   have hvals:=Gw (show DY w.kids=true by rw[CU hwn,ifn,ifn,if_pos hw6]at hwv;exact hwv)
   have key:∀(l ws:List Tree) (b:List Vl),ws.length=l.length→b.length=l.length→l.map Tree.name=ws.map Tree.name→(∀i,i < l.length→inn (ws.getD i .nil)≠.nil∧AW (inn (ws.getD i .nil))=true∧bsD k1 (inn (ws.getD i .nil)) .nil=(b.getD i .unt,0)∧Mt (inn (l.getD i .nil)) (b.getD i .unt)) →
     (∀y∈l,∀z∈y.kids,∀(w:Tree) (x:Vl) (k0:Nat),w≠.nil→AW w=true→bsD k0 w .nil=(x,0)→Mt z x→(unrB (foD k) T .nil z x).2≠99→∃k',bsD k' (BS T z w) .nil=unrB (foD k) T .nil z x) →
     ∀(whole:Vl) (pre:List ByteArray) (o:List Vl),(BG (foD k) T .nil l (l.map Tree.name) b whole (pre++l.map Tree.name) o).2≠99→∃k',recB (bsD k') .nil (Bq T l ws) pre o=BG (foD k) T .nil l (l.map Tree.name) b whole (pre++l.map Tree.name) o:=by
    intro l
    induction l with
    | nil =>
     intro ws b h1 h2 h3 h4 h5 whole pre o h9
     have hws:ws=[]:=List.length_eq_zero_iff.1 h1
     subst hws
     refine⟨0,?_⟩
     rw[Bq,recB,BG]
     simp
    | cons y l ih2 =>
     intro ws b h1 h2 h3 h4 h5 whole pre o h9
     match ws,b,h1,h2,h3,h4,h9 with
     | u::ws,v::b,h1,h2,h3,h4,h9 =>
      simp only[List.map_cons,List.cons.injEq]at h3
      obtain⟨g1,g2,g3,g4⟩:=h4 0 (by simp)
      have g1:inn u≠.nil:=g1
      have g2:AW (inn u)=true:=g2
      have g3:bsD k1 (inn u) .nil=(v,0):=g3
      have g4:Mt (inn y) v:=g4
      have hz:(unrB (foD k) T .nil (inn y) v).2≠99→∃k',bsD k' (BS T (inn y) (inn u)) .nil=unrB (foD k) T .nil (inn y) v:=fun q=>by
       unfold inn at q g4 ⊢
       cases hky:y.kids with
       | nil =>
        refine⟨k1,?_⟩
        simp only[List.getD_nil]
        rw[BS,unrB];exact g3
       | cons z zs =>
        rw[hky]at q g4
        exact h5 y (by simp) z (by rw[hky];simp) _ _ k1 g1 g2 g3 g4 q
      have hroll:Bq T (y::l) (u::ws)=EJ u.name (BS T (inn y) (inn u))::Bq T l ws:=by
       rw[Bq,MK];rfl
      rw[hroll]
      simp only[List.map_cons]at h9 ⊢
      rw[BG,if_pos (show y.name=(y.name::l.map Tree.name).getD 0 ByteArray.empty from rfl),DH]at h9 ⊢
      simp only[List.getD_cons_zero,List.drop_succ_cons,List.drop_zero]at h9 ⊢
      have hin:y.kids.getD 0 .nil=inn y:=rfl
      rw[hin]at h9 ⊢
      by_cases q:(unrB (foD k) T .nil (inn y) v).2=0
      ·rw[if_pos q]at h9 ⊢
       obtain⟨k2,hk2⟩:=hz (by omega)
       have hpre:pre++y.name::l.map Tree.name=(pre++[u.name])++l.map Tree.name:=by rw[←h3.1];simp
       rw[hpre]at h9 ⊢
       obtain⟨k3,hk3⟩:=ih2 ws b (by simpa using h1) (by simpa using h2) h3.2 (fun i hi=>by have:=h4 (i+1) (by simpa using hi);simpa using this) (fun y hy=>h5 y (by simp[hy])) whole (pre++[u.name]) _ h9
       refine⟨k3+k2,?_⟩
       rw[recB]
       have e2:bsD (k3+k2) ((EJ u.name (BS T (inn y) (inn u))).kids.getD 0 .nil) .nil=unrB (foD k) T .nil (inn y) v:=by
        show bsD (k3+k2) (BS T (inn y) (inn u)) .nil=_
        rw[Nat.add_comm,Eg (n99 (by rw[hk2];exact q)),hk2]
       rw[e2,if_pos q]
       have e3:=JX (JY k3 k2) .nil (Bq T l ws) (pre++[u.name]) (o++[(unrB (foD k) T .nil (inn y) v).1]) (by rw[hk3];exact h9)
       show recB (bsD (k3+k2)) .nil (Bq T l ws) (pre++[u.name]) _=_
       rw[e3,hk3]
      ·rw[if_neg q]at h9 ⊢
       obtain⟨k2,hk2⟩:=hz h9
       refine⟨k2,?_⟩
       rw[recB]
       have e2:bsD k2 ((EJ u.name (BS T (inn y) (inn u))).kids.getD 0 .nil) .nil=unrB (foD k) T .nil (inn y) v:=hk2
       rw[e2,if_neg q]
   have hwl:w.kids.length=c.kids.length:=by
    have:=congrArg List.length e1
    simpa using this.symm
   obtain⟨k',hk'⟩:=key c.kids w.kids ps hwl hlen e1 (fun i hi=>by
    have hi':i < w.kids.length:=by omega
    have hvi:=hvals _ (AA hi')
    refine⟨fun e=>?_,hvi,v3 i hi',hp i hi⟩
    rw[show (w.kids.getD i .nil).kids.getD 0 .nil=inn (w.kids.getD i .nil) from rfl,e]at hvi
    rw[AW]at hvi;cases hvi) (fun y hy=>(ih y hy).2) (.rcd (c.kids.map Tree.name) ps) [] [] (by simpa using h9)
   refine⟨k'+1,?_⟩
   rw[BH]
   unfold As
   have h6:(Tree.node 136 w.n w.name w.mark (Bq T c.kids w.kids)).kind=136:=rfl
   rw[ifn,ifn,ifn,ifn,ifn,if_pos h6]
   show recB (bsD k') .nil (Bq T c.kids w.kids) [] []=_
   rw[hk'];simp
theorem T7 {T:Tree}(hT:Cd T){k:Nat}(h9:(bsD k T .nil).2≠99):exc (bsD k T .nil)∨((bsD k T .nil).2=0→VR (bsD k T .nil).1 (bsD k T .nil).1):=by
 rcases Fg (Nk hT .nil .nil) Bt h9 with h|⟨k',h,h2⟩
 ·exact .inl h
 ·have h:(bsD k' T .nil).2≠99:=h
  have h2:exc (bsD k' T .nil)∨((bsD k' T .nil).2=(bsD k T .nil).2∧((bsD k T .nil).2=0→VR (bsD k T .nil).1 (bsD k' T .nil).1)):=h2
  have:=RW (k:=k) (k':=k') h9 h
  rw[←this]at h2
  rcases h2 with h2|⟨_,h2⟩
  ·exact .inl h2
  ·exact .inr h2
theorem Tn {T m:Tree}(hT:Cd T)(hk:T.kind=148)(hv0:AW (kidT T 0)=true)(hg:KE T=(m,0))
  (hM:(kidT T 0).kind=146→∀k x N c,bsD k (kidT (kidT T 0) 1) .nil=(x,0)→No.Ac (kidT (kidT T 0) 0)=(N,0)→Af (kidT T 0).name N.kids=some c→Mt c x):Like T m:=by
 intro k h9
 have h9':=h9
 obtain⟨tl,t0,t1,t2⟩:=CY hT.term hk
 have c0:Cd (kidT T 0):=hT.kid (by omega) (by rw[hk];rfl) t0
 unfold KE at hg
 by_cases h0:(kidT T 0).kind≠146
 ·rw[if_pos h0]at hg;exact absurd (Prod.mk.inj hg).2 (by decide)
 rw[if_neg h0]at hg
 have h0:(kidT T 0).kind=146:=Decidable.byContradiction h0
 by_cases n0:(No.Ac (kidT (kidT T 0) 0)).2≠0
 ·rw[if_pos n0]at hg;exact absurd (Prod.mk.inj hg).2 n0
 rw[if_neg n0]at hg
 have n0:(No.Ac (kidT (kidT T 0) 0)).2=0:=Decidable.byContradiction n0
 by_cases n1:(No.Ac (kidT (kidT T 0) 0)).1.kind≠121∨Af (kidT T 0).name (T.kids.drop 2)=none∨Af (kidT T 0).name (No.Ac (kidT (kidT T 0) 0)).1.kids=none
 ·rw[if_pos n1]at hg;exact absurd (Prod.mk.inj hg).2 (by decide)
 rw[if_neg n1]at hg
 have n2:(No.Ac (kidT (kidT T 0) 0)).1.kind=121:=Decidable.byContradiction fun q=>n1 (.inl q)
 cases hb:Af (kidT T 0).name (T.kids.drop 2) with
 | none=>exact absurd (.inr (.inl hb)) n1
 | some b =>
  cases hcc:Af (kidT T 0).name (No.Ac (kidT (kidT T 0) 0)).1.kids with
  | none=>exact absurd (.inr (.inr hcc)) n1
  | some c =>
   rw[hb,hcc]at hg
   have hg:(if Au (.node 143 0 ByteArray.empty ByteArray.empty [BS T c (kidT (kidT T 0) 1),b])≠0 then (.nil,_) else (Tree.node 143 0 ByteArray.empty ByteArray.empty [BS T c (kidT (kidT T 0) 1),b],0))=(m,(0:Int)):=hg
   by_cases te:Au (.node 143 0 ByteArray.empty ByteArray.empty [BS T c (kidT (kidT T 0) 1),b])≠0
   ·rw[if_pos te]at hg;exact absurd (Prod.mk.inj hg).2 te
   rw[if_neg te]at hg
   have hm:=(Prod.mk.inj hg).1
   obtain⟨k1,g,cw,h1,h2,h3⟩:=VV c0 h0 hv0
   have hvw:AW (kidT (kidT T 0) 1)=true:=by
    have:=hv0
    rw[CU (AQ c0.term),ifn,if_pos (.inr h0)]at this;exact this
   have e:=JW h9 (1+k1)
   have e0:bsD (k+(1+k1)) (T.kids.getD 0 .nil) .nil=_:=h3 k
   unfold As at e
   rw[ifn,ifn,ifn,ifn,ifn,ifn,ifn,e0,if_neg (fun q=>q rfl),ifn,ifn]at e
   unfold useB at e
   dsimp only at e
   rw[ifn,if_pos hk,show k+(1+k1)=k+k1+1 by omega,IK]at e
   unfold Fa at e
   rw[if_neg (fun q=>q n0),GK,hb]at e
   dsimp only at e
   rw[if_neg (fun q=>q n2),GK,hcc]at e
   dsimp only at e
   have e':=e
   rw[e']at h9
   have hu:(unrB (foD (k+k1)) T .nil c (g .nil)).2≠99:=by
    intro q
    rw[ifp]at h9
    exact h9 q
   obtain⟨k2,hk2⟩:=(WU hk (by omega) c).1 _ _ k1 (AQ cw.term) hvw (h1 _ Bt) (hM h0 _ _ _ _ (h1 _ Bt) (Prod.ext rfl n0) hcc) hu
   have hright:∃k',bsD k' m .nil=bsD k T .nil:=by
    rw[←hm]
    by_cases y0:(unrB (foD (k+k1)) T .nil c (g .nil)).2=0
    ·rw[if_neg (fun q=>q y0)]at e h9
     refine⟨k+k1+k2+1,?_⟩
     rw[BH]
     unfold As
     have h6:(Tree.node 143 0 ByteArray.empty ByteArray.empty [BS T c (kidT (kidT T 0) 1),b]).kind=143:=rfl
     have e2:bsD (k+k1+k2) ((Tree.node 143 0 ByteArray.empty ByteArray.empty [BS T c (kidT (kidT T 0) 1),b]).kids.getD 0 .nil) .nil=unrB (foD (k+k1)) T .nil c (g .nil):=by
      show bsD (k+k1+k2) (BS T c (kidT (kidT T 0) 1)) .nil=_
      rw[Nat.add_comm,Eg (n99 (by rw[hk2];exact y0)),hk2]
     rw[ifn,ifn,ifn,ifn,ifn,ifn,ifn,e2,if_neg (fun q=>q y0),ifn,if_pos h6,e]
     exact Eg h9 _
    ·rw[if_pos y0]at e
     refine⟨k2+1,?_⟩
     rw[BH]
     unfold As
     have h6:(Tree.node 143 0 ByteArray.empty ByteArray.empty [BS T c (kidT (kidT T 0) 1),b]).kind=143:=rfl
     have e2:bsD k2 ((Tree.node 143 0 ByteArray.empty ByteArray.empty [BS T c (kidT (kidT T 0) 1),b]).kids.getD 0 .nil) .nil=unrB (foD (k+k1)) T .nil c (g .nil):=hk2
     rw[ifn,ifn,ifn,ifn,ifn,ifn,ifn,e2,if_pos y0,e]
   obtain⟨k',hk'⟩:=hright
   rcases T7 hT h9' with q|q
   ·exact .inl q
   ·refine .inr ⟨k',?_⟩
    show RR _ (bsD k' m .nil)
    rw[hk']
    exact⟨h9',.inr ⟨rfl,q⟩⟩
theorem QF {T m:Tree}(h:Like T m):CR VR 0 0 T .nil m .nil:=by
 have hf:∀k,∃k',(bsD k T .nil).2≠99→exc (bsD k T .nil)∨RR (bsD k T .nil) (bsD k' m .nil):=fun k=>by
  by_cases q:(bsD k T .nil).2=99
  ·exact⟨0,fun q2=>absurd q q2⟩
  ·rcases h k q with h|⟨k',h⟩
   ·exact⟨0,fun _=>.inl h⟩
   ·exact⟨k',fun _=>.inr h⟩
 refine .sem (fun k=>(hf k).choose) (fun k h9=>?_) fun k h0 h0'=>?_
 ·rcases (hf k).choose_spec h9 with (q|q)|⟨q,q2⟩
  ·exact .inl q
  ·exact .inr (.inl q)
  ·refine .inr (.inr ⟨q,?_⟩)
   rcases q2 with (q2|q2)|⟨q2,_⟩
   ·exact .inl q2
   ·exact .inr (.inl q2)
   ·exact .inr (.inr q2)
 ·rcases (hf k).choose_spec (n99 h0) with (q|q)|⟨q,q2⟩
  ·omega
  ·omega
  ·rcases q2 with (q2|q2)|⟨_,q2⟩
   ·omega
   ·omega
   ·exact q2 h0
theorem G4 {l:List Tree}{i j:Nat}{a:Tree}(hi:i < l.length):(l.set i a).getD j .nil=if i=j then a else l.getD j .nil:=by
 by_cases q:i=j
 ·subst q;rw[if_pos rfl];simp[hi]
 ·rw[if_neg q];simp[List.getD_eq_getElem?_getD,List.getElem?_set,q]
theorem ctx {T m:Tree}(hT:Cd T){i:Nat}(hi:i < T.kids.length)(hp:T.kind=136∨(T.kind≠136∧posF T.kind i=2∧bt T.kind i=0∧bc T.kind i=0))(hL:Like (inF T i) m):Like T (EY T i m):=by
 intro k h9
 have hlo:=hT.hi
 obtain⟨p1,p2,p3,p4,p5⟩:=(Ib VR .nil .nil).parts hT.term (by omega) (t:=0) (d:=0) (T':=T) ⟨rfl,hT.shw,hT.size,hT.free1,hT.free2⟩
 refine Fg (.node rfl hlo rfl rfl (by show (T.kids.set i _).length=_;simp) p1 (fun j h1 h2=>?_) (fun j h1 h2=>?_) (fun j h1 h2=>?_) (fun j h1 h2=>?_)) Bt h9
 ·have hne:i≠j:=by
   rintro rfl
   rcases hp with q|⟨_,q,_⟩
   ·rw[q]at h1;cases h1
   ·rw[q]at h1;cases h1
  show conE _=0∧conE ((T.kids.set i _).getD j .nil)=0∧_∧_=sub _ (toC ((T.kids.set i _).getD j .nil))
  rw[G4 hi,if_neg hne]
  exact p2 j h1 h2
 ·show CR VR _ _ _ _ ((T.kids.set i _).getD j .nil) _
  rw[G4 hi]
  by_cases q:i=j
  ·subst q
   rcases hp with q|⟨q1,q,q2,q3⟩
   ·rw[q]at h1;cases h1
   ·rw[if_pos rfl,if_neg q1,q2,q3]
    have:=QF hL
    unfold inF at this
    rw[if_neg q1]at this
    exact this
  ·rw[if_neg q];exact p3 j h1 h2
 ·show ((T.kids.set i _).getD j .nil).name=_
  rw[G4 hi]
  by_cases q:i=j
  ·subst q
   rcases hp with q|⟨q1,q,q2,q3⟩
   ·rw[if_pos rfl,if_pos q];rfl
   ·rw[q]at h1;cases h1
  ·rw[if_neg q]
 ·show CR VR _ _ _ _ (inn ((T.kids.set i _).getD j .nil)) _
  rw[G4 hi]
  by_cases q:i=j
  ·subst q
   rcases hp with q|⟨q1,q,q2,q3⟩
   ·rw[if_pos rfl,if_pos q]
    have:=QF hL
    unfold inF at this
    rw[if_pos q]at this
    rw[show 0+bf T.kind=0 by unfold bf;rw[if_pos q]]
    exact this
   ·rw[q]at h1;cases h1
  ·rw[if_neg q];exact p5 j h1 h2
theorem least {P:Nat→Prop}(dec:∀j,P j∨¬P j):∀(n fr:Nat),(∀j,fr≤j→j < fr+n→P j)∨∃i,fr≤i∧i < fr+n∧¬P i∧∀j,fr≤j→j < i→P j
 | 0,fr=>.inl fun j h1 h2=>by omega
 | n+1,fr=>by
  rcases least dec n fr with h|⟨i,h1,h2,h3,h4⟩
  ·rcases dec (fr+n) with q|q
   ·refine .inl fun j h1 h2=>?_
    by_cases e:j=fr+n
    ·rw[e];exact q
    ·exact h j h1 (by omega)
   ·exact .inr ⟨fr+n,by omega,by omega,q,fun j h1 h2=>h j h1 (by omega)⟩
  ·exact .inr ⟨i,h1,by omega,h3,h4⟩
theorem J5 {T:Tree}(hD:StD T){i:Nat}(h1:(plcF T).1≤i)(h2:i < (plcF T).2):T.kind=136∨(T.kind≠136∧posF T.kind i=2∧bt T.kind i=0∧bc T.kind i=0):=by
 have hk:=hD.kind
 by_cases k2:T.kind=136
 ·exact .inl k2
 refine .inr ⟨k2,?_⟩
 unfold plcF at h1 h2
 by_cases k1:T.kind=135∨T.kind=145
 ·rw[if_pos k1]at h2
  simp only[]at h2
  rcases (show i=0∨i=1 by omega) with rfl|rfl<;>(rcases k1 with q|q<;>(rw[q];exact⟨rfl,rfl,rfl⟩))
 rw[if_neg k1,if_neg k2]at h1 h2
 by_cases k3:T.kind=141∨T.kind=146
 ·rw[if_pos k3]at h1 h2
  simp only[]at h1 h2
  obtain rfl:i=1:=by omega
  rcases k3 with q|q<;>(rw[q];exact⟨rfl,rfl,rfl⟩)
 ·rw[if_neg k3]at h1 h2
  simp only[]at h1 h2
  obtain rfl:i=0:=by omega
  rcases (show T.kind=138∨T.kind=140∨T.kind=142∨T.kind=143∨T.kind=144∨T.kind=147∨T.kind=148 by omega) with q|q|q|q|q|q|q<;>(rw[q];exact⟨rfl,rfl,rfl⟩)
theorem Cd.std {T:Tree}(h:Cd T)(hv:AW T=false):StD T:=⟨h.term,h.size,h.free2,hv⟩
theorem Cd.inner {T:Tree}(h:Cd T)(hD:StD T){i:Nat}(h1:(plcF T).1≤i)(h2:i < (plcF T).2):Cd (inF T i):=by
 have hi:i < T.kids.length:=by have:=hD.Lk;omega
 obtain⟨t1,t2,t3,t4⟩:=hD.inner h1 h2
 rcases J5 hD h1 h2 with q|⟨q,q2,q3,q4⟩
 ·have:=h.field q hi
  unfold inF;rw[if_pos q];exact this
 ·unfold inF at t1 ⊢
  rw[if_neg q]at t1 ⊢
  refine h.kid hi ?_ t1
  have:=Ee (JA h.term).2 i
  have hb:=EA T.kind i
  rw[q3,q4]at this
  exact Prod.ext (by omega) (by omega)
def FoldM (T:Tree):Prop:=(kidT T 0).kind=146→∀k x N c,bsD k (kidT (kidT T 0) 1) .nil=(x,0)→No.Ac (kidT (kidT T 0) 0)=(N,0)→Af (kidT T 0).name N.kids=some c→Mt c x
theorem TF {T m:Tree}(hT:Cd T)(hD:StD T)(hv:∀j,(plcF T).1≤j→j < (plcF T).2→AW (inF T j)=true)(hM:T.kind=148→FoldM T)(hg:HY T=(m,0)):Like T m:=by
 have hk:=hD.kind
 have hin:∀j,T.kind≠136→inF T j=kidT T j:=fun j q=>by unfold inF;rw[if_neg q];rfl
 have pl0:T.kind≠136→T.kind≠141→T.kind≠146→AW (kidT T 0)=true:=fun q1 q2 q3=>by
  rw[←hin 0 q1]
  refine hv 0 ?_ ?_
  ·unfold plcF
   by_cases c:T.kind=135∨T.kind=145
   ·rw[if_pos c];exact Nat.le_refl _
   ·rw[if_neg c,if_neg q1,ifn];exact Nat.le_refl _
  ·unfold plcF
   by_cases c:T.kind=135∨T.kind=145
   ·rw[if_pos c];decide
   ·rw[if_neg c,if_neg q1,ifn];decide
 have herr:∀{e:Int},e≠0→((Tree.nil,e)=(m,(0:Int)))→Like T m:=fun he h=>absurd (Prod.mk.inj h).2 he
 unfold HY at hg
 by_cases c1:T.kind=135
 ·rw[if_pos c1]at hg
  by_cases q:(kidT T 0).kind=134
  ·rw[if_pos q]at hg
   refine Vt hT c1 q ?_ hg
   rw[←hin 1 (by omega)]
   refine hv 1 ?_ ?_<;>(unfold plcF;rw[if_pos (.inl c1)];decide)
  ·rw[if_neg q]at hg;exact herr (by decide) hg
 rw[if_neg c1]at hg
 by_cases c2:T.kind=140
 ·rw[if_pos c2]at hg
  by_cases q:(kidT T 0).kind=139
  ·rw[if_pos q]at hg;exact UN hT c2 q hg
  ·rw[if_neg q]at hg;exact herr (by decide) hg
 rw[if_neg c2]at hg
 by_cases c3:T.kind=138
 ·rw[if_pos c3]at hg
  by_cases q:(kidT T 0).kind=136∧(Af T.name (kidT T 0).kids).isSome=true
  ·rw[if_pos q]at hg
   obtain⟨q1,q2⟩:=q
   obtain⟨x,hx⟩:=Option.isSome_iff_exists.1 q2
   rw[hx]at hg
   have:=(Prod.mk.inj hg).1
   have this:x=m:=this
   subst this
   exact Tg hT c3 q1 (pl0 (by omega) (by omega) (by omega)) hx
  ·rw[if_neg q]at hg;exact herr (by decide) hg
 rw[if_neg c3]at hg
 by_cases c4:T.kind=144
 ·rw[if_pos c4]at hg
  by_cases q:(kidT T 0).kind=132
  ·rw[if_pos q]at hg
   refine PW hT c4 q ?_
   by_cases q2:(kidT T 0).n=1
   ·rw[if_pos q2]at hg ⊢;exact (Prod.mk.inj hg).1
   ·rw[if_neg q2]at hg ⊢;exact (Prod.mk.inj hg).1
  ·rw[if_neg q]at hg;exact herr (by decide) hg
 rw[if_neg c4]at hg
 by_cases c5:T.kind=142
 ·rw[if_pos c5]at hg
  by_cases q:(kidT T 0).kind=141
  ·rw[if_pos q]at hg
   by_cases q2:(CO (kidT T 1) 0 (kidT (kidT T 0) 1)).2≠0
   ·rw[if_pos q2]at hg;exact herr q2 hg
   ·rw[if_neg q2]at hg
    exact O9 hT c5 q (pl0 (by omega) (by omega) (by omega)) (Decidable.byContradiction q2) hg
  ·rw[if_neg q]at hg;exact herr (by decide) hg
 rw[if_neg c5]at hg
 by_cases c6:T.kind=143
 ·rw[if_pos c6]at hg
  exact UQ hT c6 (pl0 (by omega) (by omega) (by omega)) hg
 rw[if_neg c6]at hg
 by_cases c7:T.kind=145
 ·rw[if_pos c7]at hg;exact Xy hT c7 hg
 rw[if_neg c7]at hg
 by_cases c8:T.kind=147
 ·rw[if_pos c8]at hg
  by_cases q:(kidT T 0).kind=146∧(Af (kidT T 0).name (T.kids.drop 1)).isSome=true
  ·rw[if_pos q]at hg
   obtain⟨q1,q2⟩:=q
   obtain⟨x,hx⟩:=Option.isSome_iff_exists.1 q2
   rw[hx]at hg
   exact T5 hT c8 q1 (pl0 (by omega) (by omega) (by omega)) hx hg
  ·rw[if_neg q]at hg;exact herr (by decide) hg
 rw[if_neg c8]at hg
 by_cases c9:T.kind=148
 ·rw[if_pos c9]at hg
  exact Tn hT c9 (pl0 (by omega) (by omega) (by omega)) hg (hM c9)
 ·rw[if_neg c9]at hg;exact herr (by decide) hg
theorem Tf {Q:Tree→Prop}(hQk:∀T i,Q T→Cd T→StD T→(plcF T).1≤i→i < (plcF T).2→Q (inF T i))(hQf:∀T,Q T→Cd T→T.kind=148→FoldM T)(T:Tree) :
  (∀m,Cd T→Q T→AW T=false→stF T=(m,0)→Like T m)∧∀x∈T.kids,∀m,Cd x→Q x→AW x=false→stF x=(m,0)→Like x m:=by
 induction T using Tree.ind' with
 | h0=>exact⟨fun m h=>absurd rfl (AQ h.term),fun x hx=>by cases hx⟩
 | h1 T hT ih =>
  refine⟨fun m hC hQ hv hs=>?_,fun x hx=>(ih x hx).1⟩
  have hD:=hC.std hv
  obtain⟨pp1,pp2⟩:=hD.Lk
  have hto:(plcF T).2=(plcF T).1+((plcF T).2 - (plcF T).1):=by omega
  rcases least (P:=fun j=>AW (inF T j)=true) (fun j=>by cases AW (inF T j)<;>simp) ((plcF T).2 - (plcF T).1) (plcF T).1 with h|⟨i,i1,i2,i3,i4⟩
  ·have h:∀j,(plcF T).1≤j→j < (plcF T).2→AW (inF T j)=true:=fun j h1 h2=>h j h1 (by omega)
   rw[LJ hT h]at hs
   exact TF hC hD h (hQf T hQ hC) hs
  ·have i2:i < (plcF T).2:=by omega
   have i3:AW (inF T i)=false:=by cases hq:AW (inF T i) with
    | true=>exact absurd hq i3
    | false=>rfl
   have hi:i < T.kids.length:=by omega
   rw[RF hT hi ⟨i1,i2⟩ i3 i4]at hs
   by_cases q:(stF (inF T i)).2≠0
   ·rw[if_pos q]at hs;exact absurd (Prod.mk.inj hs).2 q
   rw[if_neg q]at hs
   have q:(stF (inF T i)).2=0:=Decidable.byContradiction q
   rw[←(Prod.mk.inj hs).1]
   refine ctx hC hi (J5 hD i1 i2) ?_
   have cI:=hC.inner hD i1 i2
   have qI:=hQk T i hQ hC hD i1 i2
   have hst:stF (inF T i)=((stF (inF T i)).1,0):=Prod.ext rfl q
   obtain⟨_,_,_,t4⟩:=hD.inner i1 i2
   by_cases k:T.kind=136
   ·have e:inF T i=(T.kids.getD i .nil).kids.getD 0 .nil:=by unfold inF;rw[if_pos k]
    have hm:inF T i∈(T.kids.getD i .nil).kids:=by rw[e];exact AA (t4 k).2
    exact (ih _ (AA hi)).2 _ hm _ cI qI i3 hst
   ·have e:inF T i=T.kids.getD i .nil:=by unfold inF;rw[if_neg k]
    have hm:inF T i∈T.kids:=by rw[e];exact AA hi
    exact (ih _ hm).1 _ cI qI i3 hst
end Mc
end Go.Proofs.YtlgajkoplklkiaaGreat
namespace Go.Proofs.YtlgajkoplklkiaaGreat
namespace Cn
open Go Go.Mq Ki Tm
def nmOf:Cn→ByteArray
 | .op _ nm _=>nm
 | .var _=>ByteArray.empty
def CI:Cn→Cn
 | .op _ _ [c]=>c
 | c=>c
def FL (kd:Int)(l:List Cn):Prop:=∀x∈l,∃nm c,x=.op kd nm [c]
def fAt (s:ByteArray):List Cn→Option Cn
 | []=>none
 | x::l=>if nmOf x=s then some (CI x) else fAt s l
theorem Ow {R:Cn→Cn→Prop}{s:ByteArray}:∀{l l':List Cn},l'.length=l.length→(∀i (h1:i < l.length) (h2:i < l'.length),nmOf l'[i]=nmOf l[i]∧R (CI l[i]) (CI l'[i]))→(fAt s l=none∧fAt s l'=none)∨∃c c',fAt s l=some c∧fAt s l'=some c'∧R c c'
 | [],[],_,_=>.inl ⟨by rw[fAt],by rw[fAt]⟩
 | [],_::_,h,_=>by simp at h
 | _::_,[],h,_=>by simp at h
 | x::l,x'::l',h,hr=>by
  obtain⟨h1,h2⟩:=hr 0 (by simp) (by simp)
  have h1:nmOf x'=nmOf x:=h1
  rw[fAt,fAt,h1]
  by_cases q:nmOf x=s
  ·rw[if_pos q,if_pos q];exact .inr ⟨_,_,rfl,rfl,h2⟩
  ·rw[if_neg q,if_neg q]
   exact Ow (by simpa using h) fun i h1 h2=>by have:=hr (i+1) (by simpa using h1) (by simpa using h2);simpa using this
theorem U3 {kd:Int}(h:kd=116∨kd=122):bd kd=0:=by unfold bd;rw[ifn]
theorem FL.sub {kd:Int}(hk:kd=116∨kd=122){l:List Cn}(h:FL kd l)(s:Nat→Cn):FL kd (l.map (Cn.sub s)):=fun x hx=>by
 obtain⟨y,hy,rfl⟩:=List.mem_map.1 hx
 obtain⟨nm,c,rfl⟩:=h y hy
 exact⟨nm,Cn.sub s c,by rw[BE,U3 hk];rfl⟩
theorem FL.at {kd:Int}{l:List Cn}(h:FL kd l){i:Nat}(hi:i < l.length):l[i]=.op kd (nmOf l[i]) [CI l[i]]:=by
 obtain⟨nm,c,e⟩:=h _ (List.getElem_mem hi)
 rw[e];rfl
theorem Ob {kd:Int}(hk:kd=116∨kd=122){x:Cn}(h:∃nm c,x=.op kd nm [c])(s:Nat→Cn):nmOf (Cn.sub s x)=nmOf x∧CI (Cn.sub s x)=Cn.sub s (CI x):=by
 obtain⟨nm,c,rfl⟩:=h
 rw[BE,U3 hk];exact⟨rfl,rfl⟩
theorem Hz {kd:Int}(hk:kd=116∨kd=122){s:ByteArray}(σ:Nat→Cn):∀{l:List Cn},FL kd l→fAt s (l.map (Cn.sub σ))=(fAt s l).map (Cn.sub σ)
 | [],_=>by rw[List.map_nil,fAt];rfl
 | x::l,h=>by
  obtain⟨e1,e2⟩:=Ob hk (h x (by simp)) σ
  rw[List.map_cons,fAt,fAt,e1,e2]
  by_cases q:nmOf x=s
  ·rw[if_pos q,if_pos q];rfl
  ·rw[if_neg q,if_neg q];exact Hz hk σ fun y hy=>h y (by simp[hy])
theorem Od {kd:Int}(hk:kd=116∨kd=122){l l':List Cn}(h:FL kd l)(h':FL kd l')(hl:l'.length=l.length)(he:∀i (h1:i < l.length) (h2:i < l'.length),Eqv l[i] l'[i]):∀i (h1:i < l.length) (h2:i < l'.length),nmOf l'[i]=nmOf l[i]∧Eqv (CI l[i]) (CI l'[i]):=fun i h1 h2=>by
 have e:=he i h1 h2
 rw[h.at h1,h'.at h2]at e
 obtain⟨_,e2,_,e4⟩:=IT (by omega) (by omega) e
 exact⟨e2.symm,e4 0 (by simp) (by simp)⟩
theorem Red.inst {B B' A A':Cn}(hB:Red B B')(hA:Red A A'):Red (inst B A) (inst B' A'):=by
 have h1:Red (Cn.inst B A) (Cn.inst B' A):=hB.sub _
 refine h1.trans ?_
 induction hA with
 | refl=>exact .refl _
 | step h _ ih=>exact .step (Par.inst (Par.refl _) h) (ih (hB.sub _))
theorem Eqv.inst {B B' A A':Cn}(hB:Eqv B B')(hA:Eqv A A'):Eqv (inst B A) (inst B' A'):=by
 obtain⟨C,h1,h2⟩:=hB
 obtain⟨D,h3,h4⟩:=hA
 exact⟨_,h1.inst h3,h2.inst h4⟩
theorem aE {k:Int}(h:k=114∨k=115∨k=111∨k=112∨k=113):bd k=0:=by unfold bd;rw[ifn]
theorem ZL {k:Int}(h:k=117∨k=118∨k=121):bd k=1:=by unfold bd;rw[ifp]
end Cn
end Go.Proofs.YtlgajkoplklkiaaGreat
namespace Go.Proofs.YtlgajkoplklkiaaGreat
namespace Mc
open Go Go.Mq Cn Tm Sb St
def shC (l:List Cn):List Cn:=l.map (ren Nat.succ)
inductive Has:Nat→List Cn→Tree→Cn→Prop
 | conv {d:Nat} {Γ:List Cn} {T:Tree} {A B:Cn} (h:Has d Γ T A) (he:Eqv A B):Has d Γ T B
 | var {d:Nat} {Γ:List Cn} {T:Tree} {A:Cn} (hk:T.kind=130) (h0:0≤T.n) (h:Γ[T.n.toNat]?=some A):Has d Γ T A
 | int {d:Nat} {Γ:List Cn} {T:Tree} (hk:T.kind=131) (nm:ByteArray):Has d Γ T (.op 111 nm [])
 | tru {d:Nat} {Γ:List Cn} {T:Tree} (hk:T.kind=132) (nm:ByteArray):Has d Γ T (.op 112 nm [])
 | unt {d:Nat} {Γ:List Cn} {T:Tree} (hk:T.kind=133) (nm:ByteArray):Has d Γ T (.op 113 nm [])
 | lam {d:Nat} {Γ:List Cn} {T:Tree} {A B:Cn} (hk:T.kind=134) (nm:ByteArray) (h:Has d (A::Γ) (kidT T 1) B):Has d Γ T (.op 114 nm [A,B])
 | app {d:Nat} {Γ:List Cn} {T:Tree} {A B:Cn} (hk:T.kind=135) {nm:ByteArray} (h:Has d Γ (kidT T 0) (.op 114 nm [A,B])) (h2:Has d Γ (kidT T 1) A):Has d Γ T B
 | rcd {d:Nat} {Γ:List Cn} {T:Tree} (hk:T.kind=136) (nm:ByteArray) {l:List Cn} (hl:l.length=T.kids.length) (hfl:FL 116 l) (hn:∀i (hi:i < l.length),nmOf l[i]=(kidT T i).name) (h:∀i (hi:i < l.length),Has d Γ (inn (kidT T i)) (CI l[i])):Has d Γ T (.op 115 nm l)
 | proj {d:Nat} {Γ:List Cn} {T:Tree} {A:Cn} (hk:T.kind=138) {nm:ByteArray} {l:List Cn} (hfl:FL 116 l) (h:Has d Γ (kidT T 0) (.op 115 nm l)) (ha:fAt T.name l=some A):Has d Γ T A
 | tlam {d:Nat} {Γ:List Cn} {T:Tree} {K B:Cn} (hk:T.kind=139) (nm:ByteArray) (h:Has (d+1) (shC Γ) (kidT T 1) B):Has d Γ T (.op 117 nm [K,B])
 | tapp {d:Nat} {Γ:List Cn} {T:Tree} {K B:Cn} (hk:T.kind=140) {nm:ByteArray} (h:Has d Γ (kidT T 0) (.op 117 nm [K,B])) (hc:conE (kidT T 1)=0) (hs:Sc d (toC (kidT T 1))) (hf:Fit (toC (kidT T 1))):Has d Γ T (inst B (toC (kidT T 1)))
 | pack {d:Nat} {Γ:List Cn} {T:Tree} {K B:Cn} (hk:T.kind=141) (nm:ByteArray) (hc:conE (kidT T 0)=0) (hs:Sc d (toC (kidT T 0))) (hf:Fit (toC (kidT T 0))) (h:Has d Γ (kidT T 1) (inst B (toC (kidT T 0)))):Has d Γ T (.op 118 nm [K,B])
 | unpack {d:Nat} {Γ:List Cn} {T:Tree} {K B A:Cn} (hk:T.kind=142) {nm:ByteArray} (h:Has d Γ (kidT T 0) (.op 118 nm [K,B])) (h2:Has (d+1) (B::shC Γ) (kidT T 1) (ren Nat.succ A)):Has d Γ T A
 | bind {d:Nat} {Γ:List Cn} {T:Tree} {A B:Cn} (hk:T.kind=143) (h:Has d Γ (kidT T 0) A) (h2:Has d (A::Γ) (kidT T 1) B):Has d Γ T B
 | choice {d:Nat} {Γ:List Cn} {T:Tree} {A:Cn} (hk:T.kind=144) {nm:ByteArray} {l:List Cn} (h:Has d Γ (kidT T 0) (.op 112 nm l)) (h1:Has d Γ (kidT T 1) A) (h2:Has d Γ (kidT T 2) A):Has d Γ T A
 | opr {d:Nat} {Γ:List Cn} {T:Tree} (hk:T.kind=145) {nm nm':ByteArray} {l l':List Cn} (h:Has d Γ (kidT T 0) (.op 111 nm l)) (h1:Has d Γ (kidT T 1) (.op 111 nm' l')) (hn:1≤T.n∧T.n≤5) (nm2:ByteArray):Has d Γ T (.op (if T.n≤3 then 111 else 112) nm2 [])
 | inj {d:Nat} {Γ:List Cn} {T:Tree} {c:Cn} (hk:T.kind=146) {nm:ByteArray} {l:List Cn} (hc:conE (kidT T 0)=0) (hs:Sc d (toC (kidT T 0))) (hf:Fit (toC (kidT T 0))) (he:Eqv (toC (kidT T 0)) (.op 121 nm l)) (hfl:FL 122 l) (ha:fAt T.name l=some c) (h:Has d Γ (kidT T 1) (inst c (.op 121 nm l))):Has d Γ T (.op 121 nm l)
 | cse {d:Nat} {Γ:List Cn} {T:Tree} {A:Cn} (hk:T.kind=147) {nm:ByteArray} {l:List Cn} (hfl:FL 122 l) (h0:Has d Γ (kidT T 0) (.op 121 nm l)) (hl:(T.kids.drop 1).length=l.length) (hn:∀i (hi:i < l.length),nmOf l[i]=(kidT T (1+i)).name) (X:Nat→Cn) (hX:∀i (hi:i < l.length),Eqv (X i) (inst (CI l[i]) (.op 121 nm l))) (h:∀i (hi:i < l.length),Has d (X i::Γ) (inn (kidT T (1+i))) A):Has d Γ T A
 | fold {d:Nat} {Γ:List Cn} {T:Tree} {A:Cn} (hk:T.kind=148) {nm:ByteArray} {l:List Cn} (hfl:FL 122 l) (h0:Has d Γ (kidT T 0) (.op 121 nm l)) (hl:(T.kids.drop 2).length=l.length) (hn:∀i (hi:i < l.length),nmOf l[i]=(kidT T (2+i)).name) (X:Nat→Cn) (hX:∀i (hi:i < l.length),Eqv (X i) (inst (CI l[i]) A)) (h:∀i (hi:i < l.length),Has d (X i::Γ) (inn (kidT T (2+i))) A):Has d Γ T A
mutual
inductive VT:Vl→Cn→Prop
 | num {n:Int} {A:Cn} {nm:ByteArray} (h:Eqv A (.op 111 nm [])):VT (.num n) A
 | tru {b:Bool} {A:Cn} {nm:ByteArray} (h:Eqv A (.op 112 nm [])):VT (.tru b) A
 | unt {A:Cn} {nm:ByteArray} (h:Eqv A (.op 113 nm [])):VT .unt A
 | rcd {ls:List ByteArray} {ps:List Vl} {A:Cn} {nm:ByteArray} {l:List Cn} (h:Eqv A (.op 115 nm l)) (hfl:FL 116 l) (hls:ls=l.map nmOf) (hl:ps.length=l.length) (hp:∀i (hi:i < l.length),VT (ps.getD i .unt) (CI l[i])):VT (.rcd ls ps) A
 | tag {s:ByteArray} {S:Tree} {p:Vl} {A c:Cn} {nm:ByteArray} {l:List Cn} (h:Eqv A (.op 121 nm l)) (hfl:FL 122 l) (hS:conE S=0) (hf:Fit (toC S)) (he:Eqv (toC S) (.op 121 nm l)) (ha:fAt s l=some c) (hp:VT p (inst c (.op 121 nm l))):VT (.tag s S p) A
 | lam {b:Tree} {e:Ev} {A A0 B0:Cn} {d:Nat} {Γ:List Cn} {nm:ByteArray} (he:ET e d Γ) (hb:Has d (A0::Γ) b B0) (h:Eqv A (.op 114 nm [sub (envS (AL e)) A0,sub (envS (AL e)) B0])):VT (.clo false b e) A
 | tlam {b:Tree} {e:Ev} {A K B0:Cn} {d:Nat} {Γ:List Cn} {nm:ByteArray} (he:ET e d Γ) (hb:Has (d+1) (shC Γ) b B0) (h:Eqv A (.op 117 nm [K,sub (up (envS (AL e))) B0])):VT (.clo true b e) A
 | pkd {c:Tree} {p:Vl} {A K B:Cn} {nm:ByteArray} (hc:conE c=0) (hcl:Cl (toC c)) (hf:Fit (toC c)) (h:Eqv A (.op 118 nm [K,B])) (hp:VT p (inst B (toC c))):VT (.pkd c p) A
inductive ET:Ev→Nat→List Cn→Prop
 | nil:ET .nil 0 []
 | val {v:Vl} {e:Ev} {d:Nat} {Γ:List Cn} {A:Cn} (hv:VT v (sub (envS (AL e)) A)) (he:ET e d Γ):ET (.val v e) d (A::Γ)
 | con {c:Tree} {e:Ev} {d:Nat} {Γ:List Cn} (hc:conE c=0) (hcl:Cl (toC c)) (hf:Fit (toC c)) (he:ET e d Γ):ET (.con c e) (d+1) (shC Γ)
end
theorem VT.conv {v:Vl}{A B:Cn}(hv:VT v A)(h:Eqv A B):VT v B:=by
 cases hv with
 | num q=>exact .num (h.symm.trans q)
 | tru q=>exact .tru (h.symm.trans q)
 | unt q=>exact .unt (h.symm.trans q)
 | rcd q h1 h2 h3 h4=>exact .rcd (h.symm.trans q) h1 h2 h3 h4
 | tag q h1 h2 h3 h4 h5 h6=>exact .tag (h.symm.trans q) h1 h2 h3 h4 h5 h6
 | lam h1 h2 q=>exact .lam h1 h2 (h.symm.trans q)
 | tlam h1 h2 q=>exact .tlam h1 h2 (h.symm.trans q)
 | pkd h1 h2 h3 q h4=>exact .pkd h1 h2 h3 (h.symm.trans q) h4
theorem N6:∀{e:Ev} {d:Nat} {Γ:List Cn},ET e d Γ→(AL e).length=d∧∀c∈AL e,conE c=0∧Cl (toC c)∧Fit (toC c)
 | .nil,_,_,h=>by cases h;exact⟨rfl,fun c hc=>by cases hc⟩
 | .val v e,_,_,h=>by cases h with
  | val hv he=>have:=N6 he;exact this
 | .con c e,_,_,h=>by cases h with
  | con hc hcl hf he =>
   obtain⟨h1,h2⟩:=N6 he
   refine⟨by show (AL e).length+1=_;rw[h1],fun x hx=>?_⟩
   rcases List.mem_cons.1 hx with rfl|hx
   ·exact⟨hc,hcl,hf⟩
   ·exact h2 x hx
theorem QH:∀{l:List Tree},(∀c∈l,Fit (toC c))→∀n,Fit (envS l n)
 | [],_,n=>.var n
 | c::l,h,n=>by
  show Fit (sub (envS l) (s0 (toC c) n))
  refine Fit.sub ?_ (QH fun x hx=>h x (by simp[hx]))
  cases n with
  | zero=>exact h c (by simp)
  | succ n=>exact .var n
theorem OF:∀{e:Ev} {d:Nat} {Γ:List Cn} {n:Nat} {A:Cn},ET e d Γ→Γ[n]?=some A→∃v,atE e n=some v∧VT v (sub (envS (AL e)) A)
 | .nil,_,_,n,A,h,ha=>by cases h;simp at ha
 | .val v e,_,_,n,A,h,ha=>by cases h with
  | @val _ _ d Γ A0 hv he =>
   cases n with
   | zero =>
    have:A0=A:=by simpa using ha
    subst this
    exact⟨v,He,hv⟩
   | succ n =>
    obtain⟨w,h1,h2⟩:=OF (n:=n) he (by simpa using ha)
    refine⟨w,?_,h2⟩
    rw[FR (by omega),←h1];congr 1;omega
 | .con c e,_,_,n,A,h,ha=>by cases h with
  | @con _ _ d Γ hc hcl hf he =>
   unfold shC at ha
   rw[List.getElem?_map]at ha
   cases hq:Γ[n]? with
   | none=>rw[hq]at ha;cases ha
   | some B =>
    rw[hq]at ha
    have ha:ren Nat.succ B=A:=by simpa using ha
    obtain⟨w,h1,h2⟩:=OF (n:=n) he hq
    refine⟨w,by rw[atE];exact h1,?_⟩
    rw[←ha]
    show VT w (sub (envS (c::AL e)) _)
    rw[MO];exact h2
end Mc
end Go.Proofs.YtlgajkoplklkiaaGreat
namespace Go.Proofs.YtlgajkoplklkiaaGreat
namespace Mc
open Go Go.Mq Cn Tm Sb St
theorem Pv (T:Tree):∀left:Int,(A6 left T).1=0∨(A6 left T).1=1∨(A6 left T).1=3:=by
 induction T using Tree.ind' with
 | h0=>intro left;rw[A6];exact .inr (.inl rfl)
 | h1 T hT ih =>
  intro left
  rw[BA hT]
  by_cases q:left - 1 < 0
  ·rw[if_pos q];exact .inr (.inr rfl)
  rw[if_neg q]
  have h:∀(l:List Tree),(∀x∈l,x∈T.kids)→∀left:Int,(Az left l).1=0∨(Az left l).1=1∨(Az left l).1=3:=by
   intro l
   induction l with
   | nil=>intro _ left;rw[Az];exact .inl rfl
   | cons x l ihl =>
    intro hx left
    rw[Az]
    by_cases q:(A6 left x).1=0
    ·rw[if_pos q];exact ihl (fun y hy=>hx y (by simp[hy])) _
    ·rw[if_neg q];exact ih x (hx x (by simp)) left
  exact h T.kids (fun x hx=>hx) _
theorem Qv (T:Tree):conE T≠20:=by
 unfold conE C5
 have:=Pv T 65536
 split
 ·split<;>decide
 ·omega
theorem U8 (T b:Tree)(i:Int):(Ax T i b).2≠20:=by
 rw[D5]
 unfold Et
 have h1:=Qv T
 have h2:=Qv b
 by_cases q1:conE T=0
 ·rw[if_pos q1]
  by_cases q2:conE b=0
  ·rw[if_pos q2]
   split
   ·decide
   ·split
    ·decide
    ·split
     ·exact show (0:Int)≠20 by decide
     ·exact show (3:Int)≠20 by decide
  ·rw[if_neg q2];exact h2
 ·rw[if_neg q1];exact h1
theorem YJ (T:Tree):∀p,No.Cc T=some p→p.2≠20:=by
 induction T using Tree.ind' with
 | h0=>intro p h;rw[No.Cc]at h;cases h
 | h1 T hT ih =>
  intro p h
  rw[No.F8 hT]at h
  by_cases q:No.Ed T
  ·rw[if_pos q]at h
   rw[←Option.some.inj h]
   exact U8 _ _ _
  ·rw[if_neg q]at h
   have hl:∀(l:List Tree),(∀x∈l,x∈T.kids)→∀p,No.Bj l=some p→p.2≠20:=by
    intro l
    induction l with
    | nil=>intro _ p h;rw[No.Bj]at h;cases h
    | cons x l ihl =>
     intro hx p h
     rw[No.Bj]at h
     cases hs:No.Cc x with
     | some z=>rw[hs]at h;rw[←Option.some.inj h];exact ih x (hx x (by simp)) z hs
     | none =>
      rw[hs]at h
      cases hs2:No.Bj l with
      | none=>rw[hs2]at h;cases h
      | some z=>rw[hs2]at h;rw[←Option.some.inj h];exact ihl (fun y hy=>hx y (by simp[hy])) z hs2
   cases hs:No.Bj T.kids with
   | none=>rw[hs]at h;cases h
   | some z=>rw[hs]at h;rw[←Option.some.inj h];exact hl _ (fun x hx=>hx) z hs
theorem Qb (T:Tree):(No.BI T).2.2≠20:=by
 unfold No.BI
 by_cases q:conE T≠0
 ·rw[if_pos q];exact Qv T
 ·rw[if_neg q]
  unfold No.outF
  cases h:No.Cc T with
  | none=>exact show (0:Int)≠20 by decide
  | some p =>
   have:=YJ T p h
   dsimp only
   split
   ·exact show (0:Int)≠20 by decide
   ·exact this
theorem Sd:∀(k:Nat) (T:Tree),(No.Di k T).2≠20
 | 0,T=>by
  rw[No.Di]
  split
  ·exact Qb T
  ·split
   ·exact show (18:Int)≠20 by decide
   ·exact show (0:Int)≠20 by decide
 | k+1,T=>by
  rw[No.Di]
  split
  ·exact Qb T
  ·split
   ·exact Sd k _
   ·exact show (0:Int)≠20 by decide
theorem kne {k k':Int}{nm nm':ByteArray}{l l':List Cn}(hk:k≠120)(hk':k'≠120)(h:Eqv (.op k nm l) (.op k' nm' l'))(hne:k≠k'):False:=hne (IT hk hk' h).1
theorem Vv {v:Vl}{nm:ByteArray}{l:List Cn}(h:VT v (.op 111 nm l)):∃n,v=.num n:=by
 cases h with
 | num=>exact⟨_,rfl⟩
 | tru h=>exact (kne (by decide) (by decide) h (by decide)).elim
 | unt h=>exact (kne (by decide) (by decide) h (by decide)).elim
 | rcd h=>exact (kne (by decide) (by decide) h (by decide)).elim
 | tag h=>exact (kne (by decide) (by decide) h (by decide)).elim
 | lam _ _ h=>exact (kne (by decide) (by decide) h (by decide)).elim
 | tlam _ _ h=>exact (kne (by decide) (by decide) h (by decide)).elim
 | pkd _ _ _ h=>exact (kne (by decide) (by decide) h (by decide)).elim
theorem ZO {v:Vl}{nm:ByteArray}{l:List Cn}(h:VT v (.op 112 nm l)):∃b,v=.tru b:=by
 cases h with
 | tru=>exact⟨_,rfl⟩
 | num h=>exact (kne (by decide) (by decide) h (by decide)).elim
 | unt h=>exact (kne (by decide) (by decide) h (by decide)).elim
 | rcd h=>exact (kne (by decide) (by decide) h (by decide)).elim
 | tag h=>exact (kne (by decide) (by decide) h (by decide)).elim
 | lam _ _ h=>exact (kne (by decide) (by decide) h (by decide)).elim
 | tlam _ _ h=>exact (kne (by decide) (by decide) h (by decide)).elim
 | pkd _ _ _ h=>exact (kne (by decide) (by decide) h (by decide)).elim
theorem Z0 {v:Vl}{nm:ByteArray}{a b:Cn}(h:VT v (.op 114 nm [a,b])):∃bd e d Γ A0 B0,v=.clo false bd e∧ET e d Γ∧Has d (A0::Γ) bd B0∧Eqv a (sub (envS (AL e)) A0)∧Eqv b (sub (envS (AL e)) B0):=by
 cases h with
 | lam h1 h2 h =>
  obtain⟨_,_,_,e4⟩:=IT (by decide) (by decide) h
  exact⟨_,_,_,_,_,_,rfl,h1,h2,e4 0 (by simp) (by simp),e4 1 (by simp) (by simp)⟩
 | num h=>exact (kne (by decide) (by decide) h (by decide)).elim
 | tru h=>exact (kne (by decide) (by decide) h (by decide)).elim
 | unt h=>exact (kne (by decide) (by decide) h (by decide)).elim
 | rcd h=>exact (kne (by decide) (by decide) h (by decide)).elim
 | tag h=>exact (kne (by decide) (by decide) h (by decide)).elim
 | tlam _ _ h=>exact (kne (by decide) (by decide) h (by decide)).elim
 | pkd _ _ _ h=>exact (kne (by decide) (by decide) h (by decide)).elim
theorem YT {v:Vl}{nm:ByteArray}{K b:Cn}(h:VT v (.op 117 nm [K,b])):∃bd e d Γ B0,v=.clo true bd e∧ET e d Γ∧Has (d+1) (shC Γ) bd B0∧Eqv b (sub (up (envS (AL e))) B0):=by
 cases h with
 | tlam h1 h2 h =>
  obtain⟨_,_,_,e4⟩:=IT (by decide) (by decide) h
  exact⟨_,_,_,_,_,rfl,h1,h2,e4 1 (by simp) (by simp)⟩
 | num h=>exact (kne (by decide) (by decide) h (by decide)).elim
 | tru h=>exact (kne (by decide) (by decide) h (by decide)).elim
 | unt h=>exact (kne (by decide) (by decide) h (by decide)).elim
 | rcd h=>exact (kne (by decide) (by decide) h (by decide)).elim
 | tag h=>exact (kne (by decide) (by decide) h (by decide)).elim
 | lam _ _ h=>exact (kne (by decide) (by decide) h (by decide)).elim
 | pkd _ _ _ h=>exact (kne (by decide) (by decide) h (by decide)).elim
theorem Z4 {v:Vl}{nm:ByteArray}{K b:Cn}(h:VT v (.op 118 nm [K,b])):∃c p,v=.pkd c p∧conE c=0∧Cl (toC c)∧Fit (toC c)∧VT p (inst b (toC c)):=by
 cases h with
 | pkd h1 h2 h3 h h4 =>
  obtain⟨_,_,_,e4⟩:=IT (by decide) (by decide) h
  exact⟨_,_,rfl,h1,h2,h3,h4.conv (Eqv.inst (e4 1 (by simp) (by simp)).symm (.refl _))⟩
 | num h=>exact (kne (by decide) (by decide) h (by decide)).elim
 | tru h=>exact (kne (by decide) (by decide) h (by decide)).elim
 | unt h=>exact (kne (by decide) (by decide) h (by decide)).elim
 | rcd h=>exact (kne (by decide) (by decide) h (by decide)).elim
 | tag h=>exact (kne (by decide) (by decide) h (by decide)).elim
 | lam _ _ h=>exact (kne (by decide) (by decide) h (by decide)).elim
 | tlam _ _ h=>exact (kne (by decide) (by decide) h (by decide)).elim
theorem Vu {v:Vl}{nm:ByteArray}{l:List Cn}(hl:FL 116 l)(h:VT v (.op 115 nm l)):∃ps,v=.rcd (l.map nmOf) ps∧ps.length=l.length∧∀i (hi:i < l.length),VT (ps.getD i .unt) (CI l[i]):=by
 cases h with
 | @rcd ls ps _ _ l' h h1 h2 h3 h4 =>
  obtain⟨_,_,e3,e4⟩:=IT (by decide) (by decide) h
  have hf:=Od (.inl rfl) hl h1 e3 e4
  refine⟨ps,?_,by omega,fun i hi=>(h4 i (by omega)).conv (hf i hi (by omega)).2.symm⟩
  rw[h2]
  congr 1
  apply List.ext_getElem
  ·simp[e3]
  ·intro i g1 g2
   have:=(hf i (by simpa using g2) (by simpa using g1)).1
   simpa using this
 | num h=>exact (kne (by decide) (by decide) h (by decide)).elim
 | tru h=>exact (kne (by decide) (by decide) h (by decide)).elim
 | unt h=>exact (kne (by decide) (by decide) h (by decide)).elim
 | tag h=>exact (kne (by decide) (by decide) h (by decide)).elim
 | lam _ _ h=>exact (kne (by decide) (by decide) h (by decide)).elim
 | tlam _ _ h=>exact (kne (by decide) (by decide) h (by decide)).elim
 | pkd _ _ _ h=>exact (kne (by decide) (by decide) h (by decide)).elim
theorem Oe {v:Vl}{nm:ByteArray}{l:List Cn}(hl:FL 122 l)(h:VT v (.op 121 nm l)):∃s S p c,v=.tag s S p∧conE S=0∧Fit (toC S)∧Eqv (toC S) (.op 121 nm l)∧fAt s l=some c∧VT p (inst c (.op 121 nm l)):=by
 cases h with
 | @tag s S p _ c' _ l' h h1 h2 h3 h4 h5 h6 =>
  obtain⟨_,_,e3,e4⟩:=IT (by decide) (by decide) h
  have hf:=Od (.inr rfl) hl h1 e3 e4
  rcases Ow (R:=Eqv) (s:=s) e3 hf with⟨_,q⟩|⟨c,c2,q1,q2,q3⟩
  ·rw[h5]at q;cases q
  ·rw[h5]at q2
   have:=Option.some.inj q2
   subst this
   exact⟨s,S,p,c,rfl,h2,h3,h4.trans h.symm,q1,h6.conv (Eqv.inst q3.symm h.symm)⟩
 | num h=>exact (kne (by decide) (by decide) h (by decide)).elim
 | tru h=>exact (kne (by decide) (by decide) h (by decide)).elim
 | unt h=>exact (kne (by decide) (by decide) h (by decide)).elim
 | rcd h=>exact (kne (by decide) (by decide) h (by decide)).elim
 | lam _ _ h=>exact (kne (by decide) (by decide) h (by decide)).elim
 | tlam _ _ h=>exact (kne (by decide) (by decide) h (by decide)).elim
 | pkd _ _ _ h=>exact (kne (by decide) (by decide) h (by decide)).elim
def Snd (r:R2)(A:Cn):Prop:=r.2≠20∧(r.2=0→VT r.1 A)
theorem Snd.err {e:Int}{A:Cn}(h:e≠20)(h0:e≠0):Snd (.unt,e) A:=⟨h,fun q=>absurd q h0⟩
theorem Snd.ok {v:Vl}{A:Cn}(h:VT v A):Snd (v,0) A:=⟨show (0:Int)≠20 by decide,fun _=>h⟩
theorem Snd.conv {r:R2}{A B:Cn}(h:Snd r A)(he:Eqv A B):Snd r B:=⟨h.1,fun q=>(h.2 q).conv he⟩
theorem Snd.bind {r1:R2}{F:Vl→R2}{A B:Cn}(h1:Snd r1 A)(h2:VT r1.1 A→Snd (F r1.1) B):Snd (if r1.2=0 then F r1.1 else (.unt,r1.2)) B:=by
 by_cases q:r1.2=0
 ·rw[if_pos q];exact h2 (h1.2 q)
 ·rw[if_neg q];exact .err h1.1 q
theorem Snd.HA {r1:R2}{F:Vl→R2}{A B:Cn}(h1:Snd r1 A)(h2:VT r1.1 A→Snd (F r1.1) B):Snd (if r1.2≠0 then (.unt,r1.2) else F r1.1) B:=by
 rw[ite_not];exact h1.bind h2
theorem L3 {e:Ev}{d:Nat}{Γ:List Cn}(he:ET e d Γ){c:Tree}(hc:conE c=0)(hs:Sc d (toC c))(hf:Fit (toC c)):((AN (AL e) c).2=0∧conE (AN (AL e) c).1=0∧Cl (toC (AN (AL e) c).1)∧Fit (toC (AN (AL e) c).1)∧toC (AN (AL e) c).1=sub (envS (AL e)) (toC c))∨(AN (AL e) c).2=3:=by
 obtain⟨h1,h2⟩:=N6 he
 rcases Em hc fun x hx=>(h2 x hx).1 with⟨a,b⟩|a
 ·have e1:=FI a
  refine .inl ⟨a,b,?_,?_,e1⟩
  ·rw[e1];exact P6 (fun x hx=>(h2 x hx).2.1) (by rw[h1];exact hs)
  ·rw[e1];exact hf.sub (QH fun x hx=>(h2 x hx).2.2)
 ·exact .inr a
theorem SA {k:Int}(hk:k=114)(s:Nat→Cn)(nm:ByteArray)(a b:Cn):sub s (.op k nm [a,b])=.op k nm [sub s a,sub s b]:=by
 rw[BE,aE (.inl hk)];rfl
theorem Kz {k:Int}(hk:k=117∨k=118)(s:Nat→Cn)(nm:ByteArray)(a b:Cn):sub s (.op k nm [a,b])=.op k nm [sub (up s) a,sub (up s) b]:=by
 rw[BE,ZL (by omega)];rfl
theorem Is {k:Int}(s:Nat→Cn)(nm:ByteArray):sub s (.op k nm [])=.op k nm []:=by rw[BE];rfl
theorem Ny (s:Nat→Cn)(nm:ByteArray)(l:List Cn):sub s (.op 115 nm l)=.op 115 nm (l.map (sub s)):=by rw[BE,Qr];rfl
theorem JT (s:Nat→Cn)(nm:ByteArray)(l:List Cn):sub s (.op 121 nm l)=.op 121 nm (l.map (sub (up s))):=by rw[BE,Rb];rfl
def sndE (k:Nat):Prop:=∀T e d Γ A,Has d Γ T A→ET e d Γ→Snd (bsD k T e) (sub (envS (AL e)) A)
def R4 (d:Nat)(Γ:List Cn)(T:Tree)(j:Nat)(l:List Cn)(S A:Cn):Prop:=(T.kids.drop j).length=l.length∧(∀i (hi:i < l.length),nmOf l[i]=(kidT T (j+i)).name)∧∀i (hi:i < l.length),∃X,Eqv X (inst (CI l[i]) S)∧Has d (X::Γ) (inn (kidT T (j+i))) A
def sndF (k:Nat):Prop:=∀T e d Γ A nm l s S p,FL 122 l→R4 d Γ T 2 l A A→ET e d Γ→VT (.tag s S p) (sub (envS (AL e)) (.op 121 nm l))→Snd (foD k T s S p e) (sub (envS (AL e)) A)
theorem UT {s:ByteArray}{P:Cn→Tree→Prop}:∀{l:List Cn} {ks:List Tree},ks.length=l.length→(∀i (hi:i < l.length),nmOf l[i]=(ks.getD i .nil).name)→(∀i (hi:i < l.length),P (CI l[i]) (inn (ks.getD i .nil)))→∀{c:Cn},fAt s l=some c→∃b,armF s ks=some b∧P c b
 | [],ks,_,_,_,c,h=>by rw[fAt]at h;cases h
 | x::l,[],hl,_,_,_,_=>by simp at hl
 | x::l,y::ks,hl,hn,hP,c,h=>by
  have h0:nmOf x=y.name:=hn 0 (by simp)
  rw[fAt]at h
  rw[armF,←h0]
  by_cases q:nmOf x=s
  ·rw[if_pos q]at h ⊢
   have:=Option.some.inj h
   subst this
   exact⟨_,rfl,hP 0 (by simp)⟩
  ·rw[if_neg q]at h ⊢
   exact UT (by simpa using hl) (fun i hi=>by have:=hn (i+1) (by simpa using hi);simpa using this) (fun i hi=>by have:=hP (i+1) (by simpa using hi);simpa using this) h
theorem R4.get {d:Nat}{Γ:List Cn}{T:Tree}{j:Nat}{l:List Cn}{S A:Cn}(h:R4 d Γ T j l S A){s:ByteArray}{c:Cn}(hc:fAt s l=some c):∃b,armF s (T.kids.drop j)=some b∧∃X,Eqv X (inst c S)∧Has d (X::Γ) b A:=by
 obtain⟨h1,h2,h3⟩:=h
 have e:∀i,(T.kids.drop j).getD i .nil=kidT T (j+i):=fun i=>by unfold kidT;simp[List.getD_eq_getElem?_getD]
 exact UT (P:=fun c b=>∃X,Eqv X (inst c S)∧Has d (X::Γ) b A) h1 (fun i hi=>by rw[e];exact h2 i hi) (fun i hi=>by rw[e];exact h3 i hi) hc
theorem Xj {s:ByteArray}{l:List Cn}{c:Cn}(h:fAt s l=some c):∀{ps:List Vl},ps.length=l.length→(∀i (hi:i < l.length),VT (ps.getD i .unt) (CI l[i]))→∃v,CN s (l.map nmOf) ps=some v∧VT v c:=by
 induction l with
 | nil=>rw[fAt]at h;cases h
 | cons x l ih =>
  intro ps hl hv
  cases ps with
  | nil=>simp at hl
  | cons p ps =>
   rw[fAt]at h
   rw[List.map_cons,CN]
   by_cases q:nmOf x=s
   ·rw[if_pos q]at h ⊢
    have:=Option.some.inj h
    subst this
    exact⟨p,rfl,hv 0 (by simp)⟩
   ·rw[if_neg q]at h ⊢
    exact ih h (by simpa using hl) fun i hi=>by have:=hv (i+1) (by simpa using hi);simpa using this
theorem So {k:Nat}(H:sndE k){e:Ev}{d:Nat}{Γ:List Cn}(he:ET e d Γ):∀{xs:List Tree} {l:List Cn},l.length=xs.length→(∀i (hi:i < l.length),Has d Γ (inn (xs.getD i .nil)) (CI l[i]))→∀(ls:List ByteArray) (ps:List Vl),(recB (bsD k) e xs ls ps).2≠20∧((recB (bsD k) e xs ls ps).2=0→∃vs:List Vl,(recB (bsD k) e xs ls ps).1=.rcd (ls++xs.map Tree.name) (ps++vs)∧vs.length=l.length∧∀i (hi:i < l.length),VT (vs.getD i .unt) (sub (envS (AL e)) (CI l[i])))
 | [],[],_,_,ls,ps=>by rw[recB];exact⟨show (0:Int)≠20 by decide,fun _=>⟨[],by simp,rfl,fun i hi=>by simp at hi⟩⟩
 | [],_::_,h,_,_,_=>by simp at h
 | _::_,[],h,_,_,_=>by simp at h
 | x::xs,c::l,hl,hh,ls,ps=>by
  have h0:=H (inn x) e d Γ (CI c) (hh 0 (by simp)) he
  rw[recB]
  have hx:x.kids.getD 0 .nil=inn x:=rfl
  rw[hx]
  by_cases q:(bsD k (inn x) e).2=0
  ·rw[if_pos q]
   obtain⟨g1,g2⟩:=So H he (xs:=xs) (l:=l) (by simpa using hl) (fun i hi=>by have:=hh (i+1) (by simpa using hi);simpa using this) (ls++[x.name]) (ps++[(bsD k (inn x) e).1])
   refine⟨g1,fun q2=>?_⟩
   obtain⟨vs,v1,v2,v3⟩:=g2 q2
   refine⟨(bsD k (inn x) e).1::vs,by rw[v1];simp,by simp[v2],fun i hi=>?_⟩
   cases i with
   | zero=>exact h0.2 q
   | succ i=>have:=v3 i (by simpa using hi);simpa using this
  ·rw[if_neg q]
   exact⟨h0.1,fun q2=>absurd q2 q⟩
theorem Pl.kids {nm:ByteArray}{l:List Cn}(h:Pl (.op 115 nm l))(hf:FL 116 l):∀i (hi:i < l.length),Pl (CI l[i]):=by
 generalize hc:Cn.op 115 nm l=c at h
 cases h with
 | var=>cases hc
 | rcd ns cs he hp =>
  injection hc with _ _ h3
  subst h3
  intro i hi
  rw[he i hi]
  exact hp i hi
 | free h =>
  obtain⟨c',h⟩:=h
  rw[←hc]at h
  cases c' with
  | var n=>rw[Cy]at h;cases h
  | op k nm' l' =>
   rw[B9]at h
   injection h with h1 _ h3
   subst h1
   intro i hi
   have hi':i < l'.length:=by rw[h3]at hi;simpa using hi
   refine .free ⟨CI l'[i],?_⟩
   have e1:l[i]=ren (uprN (Cn.bd 115) Nat.succ) l'[i]:=by simp[h3]
   have e2:l[i]=ren Nat.succ l'[i]:=by rw[e1,Qr];rfl
   obtain⟨nm2,c2,e3⟩:=hf _ (List.getElem_mem hi)
   rw[e2]at e3 ⊢
   generalize l'[i]=z at e3 ⊢
   cases z with
   | var n=>rw[Cy]at e3;cases e3
   | op k3 nm3 l3 =>
    rw[B9]at e3 ⊢
    injection e3 with f1 f2 f3
    match l3,f3 with
    | [a],f3=>rw[f1,Hl];rfl
theorem Pl.X6 {k:Int}{nm:ByteArray}{l:List Cn}(h:Pl (.op k nm l))(hk:k≠115):II (.op k nm l):=by
 generalize hc:Cn.op k nm l=c at h ⊢
 cases h with
 | var=>cases hc
 | rcd=>injection hc with h1;exact absurd h1 hk
 | free h=>exact h
theorem O5 (s:ByteArray):∀{l:List Tree} {kd:Int},kd=116∨kd=122→(∀x∈l,BU kd x=true)→fAt s (l.map toC)=(armF s l).map toC
 | [],kd,_,_=>by rw[List.map_nil,fAt,armF];rfl
 | x::l,kd,hk,h=>by
  obtain⟨e1,e2,e3,e4⟩:=Ci (show kd≠110 by omega) (h x (by simp))
  rw[List.map_cons,fAt,armF,e1]
  have e5:nmOf (.op kd x.name [toC (x.kids.getD 0 .nil)])=x.name:=rfl
  rw[e5]
  by_cases q:x.name=s
  ·rw[if_pos q,if_pos q];rfl
  ·rw[if_neg q,if_neg q];exact O5 s hk fun y hy=>h y (by simp[hy])
theorem V1 {l:List Tree}{kd:Int}(hk:kd=116∨kd=122)(h:∀x∈l,BU kd x=true):FL kd (l.map toC):=fun x hx=>by
 obtain⟨y,hy,rfl⟩:=List.mem_map.1 hx
 exact⟨_,_,(Ci (show kd≠110 by omega) (h y hy)).1⟩
theorem Ry {fo:Tree→ByteArray→Tree→Vl→Ev→R2}{T:Tree}{e:Ev}{nm:ByteArray}{l:List Cn}(hl:FL 122 l){A:Cn}(H:∀s S p,VT (.tag s S p) (.op 121 nm l)→Snd (fo T s S p e) A)(c:Tree) :
  (AG c=true→Pl (toC c)→∀x,VT x (inst (toC c) (.op 121 nm l))→Snd (unrB fo T e c x) (inst (toC c) A)∧Mt c x)∧∀y∈c.kids,AG y=true→Pl (toC y)→∀x,VT x (inst (toC y) (.op 121 nm l))→Snd (unrB fo T e y x) (inst (toC y) A)∧Mt y x:=by
 induction c using Tree.ind' with
 | h0=>exact⟨fun h=>(by rw[AG]at h;cases h),fun x hx=>by cases hx⟩
 | h1 c hc ih =>
  refine⟨fun hcon hpl x hx=>?_,fun y hy=>(ih y hy).1⟩
  rw[SY _ _ _ hc]
  by_cases c1:c.kind=110
  ·rw[DA hc c1]at hx hpl ⊢
   have hn:=Ki.Kt hc hcon c1
   by_cases q:c.n=0
   ·rw[if_pos ⟨c1,q⟩]
    have e1:∀B,inst (.var c.n.toNat) B=B:=fun B=>by rw[q];unfold inst;rw[CK];rfl
    rw[e1]at hx ⊢
    refine⟨?_,.var ⟨c1,q⟩⟩
    obtain⟨s,S,p,c',rfl,_⟩:=Oe hl hx
    exact H _ _ _ hx
   ·rw[if_neg (show ¬(c.kind=110∧c.n=0) from fun h=>q h.2)]
    have e1:∀B B',inst (.var c.n.toNat) B=inst (.var c.n.toNat) B':=fun B B'=>by
     obtain⟨m,hm⟩:∃m,c.n.toNat=m+1:=⟨c.n.toNat - 1,by omega⟩
     rw[hm];unfold inst;rw[CK,CK];rfl
    rw[e1 _ A]at hx
    refine⟨?_,.leaf (fun h=>q h.2) (by omega)⟩
    cases x with
    | rcd ls ps=>dsimp only;rw[ifn];exact .ok hx
    | _=>exact .ok hx
  ·rw[if_neg (show ¬(c.kind=110∧c.n=0) from fun h=>c1 h.1)]
   by_cases c2:c.kind=115
   ·have hfl:=Rk hc hcon c2
    have e0:∀B,inst (toC c) B=.op 115 c.name ((c.kids.map toC).map (sub (s0 B))):=fun B=>by rw[BL hc c1,c2];unfold inst;rw[Ny]
    have hF:=V1 (.inl rfl) hfl
    rw[e0]at hx ⊢
    obtain⟨ps,rfl,p1,p2⟩:=Vu (hF.sub (.inl rfl) _) hx
    have hpl':∀i,i < c.kids.length→Pl (toC (inn (c.kids.getD i .nil))):=fun i hi=>by
     have hp:=hpl
     rw[BL hc c1,c2]at hp
     have:=Pl.kids hp hF i (by simpa using hi)
     rw[A3,(Ci (by decide) (hfl _ (AA hi))).1]at this
     exact this
    have hnames:((c.kids.map toC).map (sub (s0 (.op 121 nm l)))).map nmOf=c.kids.map Tree.name:=by
     rw[List.map_map,List.map_map]
     refine List.map_congr_left fun x hx=>?_
     show nmOf (sub _ (toC x))=_
     rw[(Ci (by decide) (hfl x hx)).1,BE];rfl
    rw[hnames]at hx ⊢
    have p1:ps.length=c.kids.length:=by simpa using p1
    have pv:∀i,i < c.kids.length→VT (ps.getD i .unt) (inst (toC (inn (c.kids.getD i .nil))) (.op 121 nm l)):=fun i hi=>by
     have:=p2 i (by simpa using hi)
     simp only[List.getElem_map]at this
     rw[show toC c.kids[i]=toC (c.kids.getD i .nil) by simp[hi],(Ci (by decide) (hfl _ (AA hi))).1,BE,Hl]at this
     exact this
    have hkid:∀i,i < c.kids.length→Snd (unrB fo T e (inn (c.kids.getD i .nil)) (ps.getD i .unt)) (inst (toC (inn (c.kids.getD i .nil))) A)∧Mt (inn (c.kids.getD i .nil)) (ps.getD i .unt):=fun i hi=>by
     obtain⟨f1,f2,f3,f4⟩:=Ci (by decide) (hfl _ (AA hi))
     exact (ih _ (AA hi)).2 _ (AA (by omega)) f2 (hpl' i hi) _ (pv i hi)
    refine⟨?_,.rcd c2 p1 fun i hi=>(hkid i hi).2⟩
    dsimp only
    rw[if_pos ⟨c2,p1.symm⟩]
    have key:∀(l':List Tree) (b:List Vl),b.length=l'.length→(∀i,i < l'.length→BU 116 (l'.getD i .nil)=true∧Snd (unrB fo T e (inn (l'.getD i .nil)) (b.getD i .unt)) (inst (toC (inn (l'.getD i .nil))) A))→∀(w:Vl) (al:List ByteArray) (o:List Vl),
      (BG fo T e l' (l'.map Tree.name) b w al o).2≠20∧((BG fo T e l' (l'.map Tree.name) b w al o).2=0→∃vs:List Vl,(BG fo T e l' (l'.map Tree.name) b w al o).1=.rcd al (o++vs)∧vs.length=l'.length∧∀i,i < l'.length→VT (vs.getD i .unt) (inst (toC (inn (l'.getD i .nil))) A)):=by
     intro l'
     induction l' with
     | nil=>intro b hb _ w al o;rw[BG];exact⟨show (0:Int)≠20 by decide,fun _=>⟨[],by simp,rfl,fun i hi=>by simp at hi⟩⟩
     | cons y l' ih2 =>
      intro b hb hk w al o
      cases b with
      | nil=>simp at hb
      | cons v b =>
       obtain⟨g1,g2⟩:=hk 0 (by simp)
       have g2:Snd (unrB fo T e (inn y) v) (inst (toC (inn y)) A):=g2
       rw[List.map_cons,BG,if_pos (show y.name=(y.name::l'.map Tree.name).getD 0 ByteArray.empty from rfl),DH]
       simp only[List.getD_cons_zero,List.drop_succ_cons,List.drop_zero]
       rw[show y.kids.getD 0 .nil=inn y from rfl]
       by_cases q:(unrB fo T e (inn y) v).2=0
       ·rw[if_pos q]
        obtain⟨r1,r2⟩:=ih2 b (by simpa using hb) (fun i hi=>by have:=hk (i+1) (by simpa using hi);simpa using this) w al (o++[(unrB fo T e (inn y) v).1])
        refine⟨r1,fun q2=>?_⟩
        obtain⟨vs,v1,v2,v3⟩:=r2 q2
        refine⟨(unrB fo T e (inn y) v).1::vs,by rw[v1];simp,by simp[v2],fun i hi=>?_⟩
        cases i with
        | zero=>exact g2.2 q
        | succ i=>have:=v3 i (by simpa using hi);simpa using this
       ·rw[if_neg q];exact⟨g2.1,fun q2=>absurd q2 q⟩
    obtain⟨r1,r2⟩:=key c.kids ps p1 (fun i hi=>⟨hfl _ (AA hi),(hkid i hi).1⟩) (.rcd (c.kids.map Tree.name) ps) (c.kids.map Tree.name) []
    refine⟨r1,fun q=>?_⟩
    obtain⟨vs,v1,v2,v3⟩:=r2 q
    rw[v1]
    have hnames2:c.kids.map Tree.name=((c.kids.map toC).map (sub (s0 A))).map nmOf:=by
     rw[List.map_map,List.map_map]
     refine List.map_congr_left fun x hx=>?_
     show _=nmOf (sub _ (toC x))
     rw[(Ci (by decide) (hfl x hx)).1,BE];rfl
    refine .rcd (.refl _) (hF.sub (.inl rfl) _) hnames2 (by simpa using v2) fun i hi=>?_
    have hi':i < c.kids.length:=by simpa using hi
    have:=v3 i hi'
    simp only[List.getElem_map]
    rw[show toC c.kids[i]=toC (c.kids.getD i .nil) by simp[hi'],(Ci (by decide) (hfl _ (AA hi'))).1,BE,Hl]
    exact this
   ·have hfree:II (toC c):=by
     rw[BL hc c1]at hpl ⊢
     exact Pl.X6 hpl c2
    obtain⟨c',hc'⟩:=hfree
    have e1:∀B B',inst (toC c) B=inst (toC c) B':=fun B B'=>by rw[hc',Im,Im]
    rw[e1 _ A]at hx
    refine⟨?_,.leaf (fun h=>c1 h.1) c2⟩
    cases x with
    | rcd ls ps=>dsimp only;rw[ifn];exact .ok hx
    | _=>exact .ok hx
theorem P4 {S N:Tree}{nm:ByteArray}{l:List Cn}(hl:FL 122 l)(hf:Fit (toC S))(he:Eqv (toC S) (.op 121 nm l))(h:No.Ac S=(N,0)):N.kind=121∧∀{s:ByteArray} {c:Cn},fAt s l=some c→∃c',armF s N.kids=some c'∧AG c'=true∧Pl (toC c')∧Eqv c (toC c'):=by
 obtain⟨h1,h2,h3⟩:=Ht h
 have hcon:=(Ak h3).2
 have hN:N≠.nil:=by intro e;subst e;rw[AG]at hcon;cases hcon
 have he2:Eqv (.op 121 nm l) (toC N):=he.symm.trans h1.eqv
 obtain⟨z,z1,z2⟩:=he2
 have z3:=aC h2 z2
 obtain⟨l',e1,e2,e3⟩:=Q5 (by decide) z1
 have hNk:N.kind≠110:=by
  intro q
  rw[DA hN q,e1]at z3
  cases z3
 have htc:=BL hN hNk
 have z4:Cn.op N.kind N.name (N.kids.map toC)=.op 121 nm l':=by rw[←htc,←z3,e1]
 injection z4 with f1 f2 f3
 refine⟨f1,fun {s c} hc=>?_⟩
 have hfl:=WT hN hcon f1
 have hF:=V1 (.inr rfl) hfl
 have hfit:Fit (toC N):=hf.red h1
 rw[htc,f1]at hfit
 have hlen:(N.kids.map toC).length=l.length:=by rw[f3,e2]
 have hrel:=Od (.inr rfl) hl hF hlen fun i g1 g2=>by
  have g3:i < l'.length:=by rw[←f3];exact g2
  have:(N.kids.map toC)[i]=l'[i]:=by simp only[f3]
  rw[this];exact (e3 i g1 g3).eqv
 rcases Ow (R:=Eqv) (s:=s) hlen hrel with⟨q,_⟩|⟨c1,c2,q1,q2,q3⟩
 ·rw[hc]at q;cases q
 ·rw[hc]at q1
  have:=Option.some.inj q1
  subst this
  rw[O5 s (.inr rfl) hfl]at q2
  cases ha:armF s N.kids with
  | none=>rw[ha]at q2;cases q2
  | some c' =>
   rw[ha]at q2
   have q2:toC c'=c2:=by simpa using q2
   obtain⟨i,i1,i2⟩:=Hc (by rw[←GK];exact ha)
   obtain⟨g1,g2,g3,g4⟩:=Ci (by decide) (hfl _ (AA i1))
   refine⟨c',rfl,by rw[i2];exact g2,?_,by rw[q2];exact q3⟩
   obtain⟨nm',cc,k1,k2⟩:=hfit.sum i (by simpa using i1)
   rw[A3,g1]at k1
   injection k1 with _ _ k3
   injection k3 with k3 _
   rw[i2]
   show Pl (toC ((N.kids.getD i .nil).kids.getD 0 .nil))
   rw[k3];exact k2
theorem Ua {k:Nat}(H:sndE k)(HF:sndF k):sndF (k+1):=by
 intro T e d Γ A nm l s S p hl hA he hv
 rw[JT]at hv
 have hσ:FL 122 (l.map (sub (up (envS (AL e))))):=hl.sub (.inr rfl) _
 have hv0:=hv
 obtain⟨s',S',p',c,e1,h1,h2,h3,h4,h5⟩:=Oe hσ hv
 injection e1 with e1 e2 e3
 subst e1 e2 e3
 rw[Hz (.inr rfl) _ hl]at h4
 cases hc:fAt s l with
 | none=>rw[hc]at h4;cases h4
 | some c0 =>
  rw[hc]at h4
  have h4:sub (up (envS (AL e))) c0=c:=by simpa using h4
  subst h4
  obtain⟨b,b1,X,bX,b2⟩:=hA.get hc
  rw[IK]
  unfold Fa
  by_cases n0:(No.Ac S).2=0
  ·rw[if_neg (fun q=>q n0),b1]
   dsimp only
   obtain⟨n1,n2⟩:=P4 hσ h2 h3 (Prod.ext rfl n0:No.Ac S=((No.Ac S).1,0))
   obtain⟨c',c1,c2,c3,c4⟩:=n2 (s:=s) (c:=sub (up (envS (AL e))) c0) (by rw[Hz (.inr rfl) _ hl,hc];rfl)
   rw[if_neg (fun q=>q n1),c1]
   dsimp only
   refine Snd.HA (F:=fun y=>bsD k b (.val y e)) (A:=sub (envS (AL e)) (inst c0 A)) ?_ fun hy=>?_
   ·have:=((Ry (fo:=foD k) (T:=T) (e:=e) hσ (A:=sub (envS (AL e)) A) (fun s S p hq=>HF T e d Γ A nm l s S p hl hA he (by rw[JT];exact hq)) c').1 c2 c3 p (h5.conv (Eqv.inst c4 (.refl _)))).1
    refine this.conv ?_
    rw[GG]
    exact Eqv.inst c4.symm (.refl _)
   ·exact H b (.val _ e) d _ A b2 (.val (hy.conv (bX.symm.sub _)) he)
  ·rw[if_pos n0];exact .err (Sd _ _) n0
theorem Xw {k:Nat}(H:sndE k)(HF:sndF k){T:Tree}{d:Nat}{Γ:List Cn}{A:Cn}(h:Has d Γ T A):∀e,ET e d Γ→Snd (bsD (k+1) T e) (sub (envS (AL e)) A):=by
 induction h with
 | conv _ he ih=>intro e hE;exact (ih e hE).conv (he.sub _)
 | @var d Γ T A hk h0 h =>
  intro e hE
  obtain⟨v,v1,v2⟩:=OF hE h
  rw[BH];unfold As
  rw[if_pos hk,show T.n=((T.n.toNat:Nat):Int) by omega,v1]
  exact .ok v2
 | int hk nm =>
  intro e hE
  rw[BH];unfold As
  rw[ifn,if_pos hk,Is];exact .ok (.num (.refl _))
 | tru hk nm =>
  intro e hE
  rw[BH];unfold As
  rw[ifn,ifn,if_pos hk,Is];exact .ok (.tru (.refl _))
 | unt hk nm =>
  intro e hE
  rw[BH];unfold As
  rw[ifn,ifn,ifn,if_pos hk,Is];exact .ok (.unt (.refl _))
 | @lam d Γ T A B hk nm h =>
  intro e hE
  rw[BH];unfold As
  rw[ifn,ifn,ifn,ifn,if_pos (.inl hk),SA rfl,show decide (T.kind=139)=false from decide_eq_false (by omega)]
  exact .ok (.lam hE h (.refl _))
 | @tlam d Γ T K B hk nm h =>
  intro e hE
  rw[BH];unfold As
  rw[ifn,ifn,ifn,ifn,if_pos (.inr hk),Kz (.inl rfl),show decide (T.kind=139)=true from decide_eq_true hk]
  exact .ok (.tlam hE h (.refl _))
 | @app d Γ T A B hk nm h h2 =>
  intro e hE
  rw[BH];unfold As
  rw[ifn,ifn,ifn,ifn,ifn,ifn,ifn]
  have g1:=H _ e d Γ _ h hE
  have g2:=H _ e d Γ _ h2 hE
  rw[SA rfl]at g1
  simp only[if_pos (show T.kind=135∨T.kind=145 from .inl hk)]
  refine Snd.HA (r1:=bsD k (T.kids.getD 0 .nil) e) (F:=fun a=>if (bsD k (T.kids.getD 1 .nil) e).2≠0 then (.unt,(bsD k (T.kids.getD 1 .nil) e).2) else if T.kind=145 then opB T.n a (bsD k (T.kids.getD 1 .nil) e).1 else match a with
     | .clo false body e'=>bsD k body (.val (bsD k (T.kids.getD 1 .nil) e).1 e')
     | _=>(.unt,20)) g1 fun hv=>?_
  obtain⟨bd,e',d',Γ',A0,B0,hvv,hE',hb,q1,q2⟩:=Z0 hv
  refine Snd.HA (r1:=bsD k (T.kids.getD 1 .nil) e) (F:=fun b=>if T.kind=145 then opB T.n (bsD k (T.kids.getD 0 .nil) e).1 b else match (bsD k (T.kids.getD 0 .nil) e).1 with
     | .clo false body e'=>bsD k body (.val b e')
     | _=>(.unt,20)) g2 fun hw=>?_
  rw[ifn,hvv]
  exact (H bd (.val _ e') d' _ B0 hb (.val (hw.conv q1) hE')).conv q2.symm
 | @rcd d Γ T hk nm l hl hfl hn h =>
  intro e hE
  rw[BH];unfold As
  rw[ifn,ifn,ifn,ifn,ifn,if_pos hk,Ny]
  obtain⟨r1,r2⟩:=So H hE hl h [] []
  refine⟨r1,fun q=>?_⟩
  obtain⟨vs,v1,v2,v3⟩:=r2 q
  rw[v1]
  refine .rcd (.refl _) (hfl.sub (.inl rfl) _) ?_ (by simpa using v2) fun i hi=>?_
  ·apply List.ext_getElem
   ·simp[hl]
   ·intro i g1 g2
    have hi:i < l.length:=by simpa using g2
    have e1:=(Ob (.inl rfl) (hfl _ (List.getElem_mem hi)) (envS (AL e))).1
    have e2:=hn i hi
    have hi2:i < T.kids.length:=by omega
    simp only[List.nil_append,List.getElem_map]
    rw[e1,e2]
    unfold kidT
    simp[hi2]
  ·have hi:i < l.length:=by simpa using hi
   have e1:=(Ob (.inl rfl) (hfl _ (List.getElem_mem hi)) (envS (AL e))).2
   have:=v3 i hi
   simp only[List.getElem_map]
   rw[e1]
   simpa using this
 | @proj d Γ T A hk nm l hfl h ha =>
  intro e hE
  rw[BH];unfold As
  rw[ifn,ifn,ifn,ifn,ifn,ifn,ifn]
  have g1:=H _ e d Γ _ h hE
  rw[Ny]at g1
  simp only[if_neg (show ¬(T.kind=135∨T.kind=145) by omega),if_neg (show ¬T.kind=143 by omega)]
  refine Snd.HA (r1:=bsD k (T.kids.getD 0 .nil) e) (F:=fun a=>useB (bsD k) (foD k) T a e) g1 fun hv=>?_
  obtain⟨ps,p1,p2,p3⟩:=Vu (hfl.sub (.inl rfl) _) hv
  obtain⟨v,v1,v2⟩:=Xj (s:=T.name) (c:=sub (envS (AL e)) A) (by rw[Hz (.inl rfl) _ hfl,ha];rfl) p2 p3
  unfold useB
  rw[p1]
  dsimp only
  rw[v1]
  dsimp only
  rw[if_pos hk]
  exact .ok v2
 | @tapp d Γ T K B hk nm h hc hs hf =>
  intro e hE
  rw[BH];unfold As
  rw[ifn,ifn,ifn,ifn,ifn,ifn,ifn]
  have g1:=H _ e d Γ _ h hE
  rw[Kz (.inl rfl)]at g1
  simp only[if_neg (show ¬(T.kind=135∨T.kind=145) by omega),if_neg (show ¬T.kind=143 by omega)]
  refine Snd.HA (r1:=bsD k (T.kids.getD 0 .nil) e) (F:=fun a=>useB (bsD k) (foD k) T a e) g1 fun hv=>?_
  obtain⟨bd,e',d',Γ',B0,hvv,hE',hb,q1⟩:=YT hv
  unfold useB
  rw[hvv]
  dsimp only
  rw[if_pos ⟨hk,rfl⟩]
  rcases L3 hE hc hs hf with⟨a1,a2,a3,a4,a5⟩|a
  ·have a1:(AN (AL e) (T.kids.getD 1 .nil)).2=0:=a1
   rw[if_pos a1]
   have:=H bd (.con (AN (AL e) (T.kids.getD 1 .nil)).1 e') (d'+1) (shC Γ') B0 hb (.con a2 a3 a4 hE')
   refine this.conv ?_
   show Eqv (sub (envS ((AN (AL e) (kidT T 1)).1::AL e')) B0) _
   rw[Nq a3,GG,a5]
   exact Eqv.inst q1.symm (.refl _)
  ·have a:(AN (AL e) (T.kids.getD 1 .nil)).2=3:=a
   rw[ifn,a];exact .err (by decide) (by decide)
 | @pack d Γ T K B hk nm hc hs hf h =>
  intro e hE
  rw[BH];unfold As
  rw[ifn,ifn,ifn,ifn,ifn,ifn,if_pos (.inr hk)]
  have g1:=H _ e d Γ _ h hE
  rw[Kz (.inr rfl)]
  unfold D4
  refine Snd.bind (r1:=bsD k (T.kids.getD 1 .nil) e) (F:=fun v=>if (AN (AL e) (T.kids.getD 0 .nil)).2=0 then (if T.kind=146 then .tag T.name (AN (AL e) (T.kids.getD 0 .nil)).1 v else .pkd (AN (AL e) (T.kids.getD 0 .nil)).1 v,0) else (.unt,(AN (AL e) (T.kids.getD 0 .nil)).2)) g1 fun hv=>?_
  rcases L3 hE hc hs hf with⟨a1,a2,a3,a4,a5⟩|a
  ·have a1:(AN (AL e) (T.kids.getD 0 .nil)).2=0:=a1
   rw[if_pos a1,ifn]
   refine .ok (.pkd a2 a3 a4 (.refl _) ?_)
   rw[GG]at hv
   have a5:toC (AN (AL e) (T.kids.getD 0 .nil)).1=sub (envS (AL e)) (toC (kidT T 0)):=a5
   show VT _ (inst _ (toC (AN (AL e) (T.kids.getD 0 .nil)).1))
   rw[a5];exact hv
  ·have a:(AN (AL e) (T.kids.getD 0 .nil)).2=3:=a
   rw[ifn,a];exact .err (by decide) (by decide)
 | @unpack d Γ T K B A hk nm h h2 =>
  intro e hE
  rw[BH];unfold As
  rw[ifn,ifn,ifn,ifn,ifn,ifn,ifn]
  have g1:=H _ e d Γ _ h hE
  rw[Kz (.inr rfl)]at g1
  simp only[if_neg (show ¬(T.kind=135∨T.kind=145) by omega),if_neg (show ¬T.kind=143 by omega)]
  refine Snd.HA (r1:=bsD k (T.kids.getD 0 .nil) e) (F:=fun a=>useB (bsD k) (foD k) T a e) g1 fun hv=>?_
  obtain⟨c,p,hvv,c1,c2,c3,c4⟩:=Z4 hv
  unfold useB
  rw[hvv]
  dsimp only
  rw[if_pos hk]
  have:=H (T.kids.getD 1 .nil) (.val p (.con c e)) (d+1) _ _ h2 (.val (by show VT p (sub (envS (c::AL e)) B);rw[Nq c2];exact c4) (.con c1 c2 c3 hE))
  refine this.conv ?_
  show Eqv (sub (envS (c::AL e)) (ren Nat.succ A)) _
  rw[MO];exact .refl _
 | @bind d Γ T A B hk h h2 =>
  intro e hE
  rw[BH];unfold As
  rw[ifn,ifn,ifn,ifn,ifn,ifn,ifn]
  simp only[if_neg (show ¬(T.kind=135∨T.kind=145) by omega),if_pos hk]
  exact Snd.HA (r1:=bsD k (T.kids.getD 0 .nil) e) (F:=fun a=>bsD k (T.kids.getD 1 .nil) (.val a e)) (H _ e d Γ _ h hE) fun hv=>H (T.kids.getD 1 .nil) (.val _ e) d _ _ h2 (.val hv hE)
 | @choice d Γ T A hk nm l h h1 h2 =>
  intro e hE
  rw[BH];unfold As
  rw[ifn,ifn,ifn,ifn,ifn,ifn,ifn]
  have g1:=H _ e d Γ _ h hE
  rw[BE]at g1
  simp only[if_neg (show ¬(T.kind=135∨T.kind=145) by omega),if_neg (show ¬T.kind=143 by omega)]
  refine Snd.HA (r1:=bsD k (T.kids.getD 0 .nil) e) (F:=fun a=>useB (bsD k) (foD k) T a e) g1 fun hv=>?_
  obtain⟨b,hvv⟩:=ZO hv
  unfold useB
  rw[hvv]
  dsimp only
  rw[if_pos hk]
  cases b with
  | true=>exact H _ e d Γ _ h1 hE
  | false=>exact H _ e d Γ _ h2 hE
 | @opr d Γ T hk nm nm' l l' h h1 hn nm2 =>
  intro e hE
  rw[BH];unfold As
  rw[ifn,ifn,ifn,ifn,ifn,ifn,ifn]
  have g1:=H _ e d Γ _ h hE
  have g2:=H _ e d Γ _ h1 hE
  rw[BE]at g1 g2
  rw[Is]
  simp only[if_pos (show T.kind=135∨T.kind=145 from .inr hk)]
  refine Snd.HA (r1:=bsD k (T.kids.getD 0 .nil) e) (F:=fun a=>if (bsD k (T.kids.getD 1 .nil) e).2≠0 then (.unt,(bsD k (T.kids.getD 1 .nil) e).2) else if T.kind=145 then opB T.n a (bsD k (T.kids.getD 1 .nil) e).1 else match a with
     | .clo false body e'=>bsD k body (.val (bsD k (T.kids.getD 1 .nil) e).1 e')
     | _=>(.unt,20)) g1 fun hv=>?_
  obtain⟨a,ha⟩:=Vv hv
  refine Snd.HA (r1:=bsD k (T.kids.getD 1 .nil) e) (F:=fun b=>if T.kind=145 then opB T.n (bsD k (T.kids.getD 0 .nil) e).1 b else match (bsD k (T.kids.getD 0 .nil) e).1 with
     | .clo false body e'=>bsD k body (.val b e')
     | _=>(.unt,20)) g2 fun hw=>?_
  obtain⟨b,hb⟩:=Vv hw
  rw[if_pos hk,ha,hb]
  show Snd (ite _ _ _:R2) _
  by_cases n4:T.n=4
  ·rw[if_pos n4,ifn];exact .ok (.tru (.refl _))
  rw[if_neg n4]
  by_cases n5:T.n≠1∧T.n≠2∧T.n≠3
  ·rw[if_pos n5,ifn];exact .ok (.tru (.refl _))
  rw[if_neg n5,if_pos (show T.n≤3 by omega)]
  by_cases r:IntKind.i64.wrap (if T.n=1 then a+b else if T.n=2 then a - b else a*b) < -1073741824∨1073741824 < IntKind.i64.wrap (if T.n=1 then a+b else if T.n=2 then a - b else a*b)
  ·rw[if_pos r];exact .err (by decide) (by decide)
  ·rw[if_neg r];exact .ok (.num (.refl _))
 | @inj d Γ T c hk nm l hc hs hf he hfl ha h =>
  intro e hE
  rw[BH];unfold As
  rw[ifn,ifn,ifn,ifn,ifn,ifn,if_pos (.inl hk)]
  have g1:=H _ e d Γ _ h hE
  have g2:sub (envS (AL e)) (.op 121 nm l)=_:=JT (envS (AL e)) nm l
  unfold D4
  refine Snd.bind (r1:=bsD k (T.kids.getD 1 .nil) e) (F:=fun v=>if (AN (AL e) (T.kids.getD 0 .nil)).2=0 then (if T.kind=146 then .tag T.name (AN (AL e) (T.kids.getD 0 .nil)).1 v else .pkd (AN (AL e) (T.kids.getD 0 .nil)).1 v,0) else (.unt,(AN (AL e) (T.kids.getD 0 .nil)).2)) g1 fun hv=>?_
  rcases L3 hE hc hs hf with⟨a1,a2,a3,a4,a5⟩|a
  ·have a1:(AN (AL e) (T.kids.getD 0 .nil)).2=0:=a1
   rw[if_pos a1,if_pos hk]
   have a5:toC (AN (AL e) (T.kids.getD 0 .nil)).1=sub (envS (AL e)) (toC (kidT T 0)):=a5
   rw[GG,g2]at hv
   rw[g2]
   refine .ok (.tag (.refl _) (hfl.sub (.inr rfl) _) a2 a4 ?_ (c:=sub (up (envS (AL e))) c) (by rw[Hz (.inr rfl) _ hfl,ha];rfl) hv)
   show Eqv (toC (AN (AL e) (T.kids.getD 0 .nil)).1) _
   rw[a5,←g2];exact he.sub _
  ·have a:(AN (AL e) (T.kids.getD 0 .nil)).2=3:=a
   rw[ifn,a];exact .err (by decide) (by decide)
 | @cse d Γ T A hk nm l hfl h0 hl hn X hX h =>
  intro e hE
  rw[BH];unfold As
  rw[ifn,ifn,ifn,ifn,ifn,ifn,ifn]
  have g1:=H _ e d Γ _ h0 hE
  have g2:sub (envS (AL e)) (.op 121 nm l)=_:=JT (envS (AL e)) nm l
  rw[g2]at g1
  simp only[if_neg (show ¬(T.kind=135∨T.kind=145) by omega),if_neg (show ¬T.kind=143 by omega)]
  refine Snd.HA (r1:=bsD k (T.kids.getD 0 .nil) e) (F:=fun a=>useB (bsD k) (foD k) T a e) g1 fun hv=>?_
  obtain⟨s,S,p,c,hvv,s1,s2,s3,s4,s5⟩:=Oe (hfl.sub (.inr rfl) _) hv
  rw[Hz (.inr rfl) _ hfl]at s4
  cases hc:fAt s l with
  | none=>rw[hc]at s4;cases s4
  | some c0 =>
   rw[hc]at s4
   have s4:sub (up (envS (AL e))) c0=c:=by simpa using s4
   subst s4
   obtain⟨b,b1,Y,bY,b2⟩:=R4.get (j:=1) ⟨hl,hn,fun i hi=>⟨X i,hX i hi,h i hi⟩⟩ hc
   unfold useB
   rw[hvv]
   dsimp only
   rw[if_pos hk,b1]
   dsimp only
   exact H b (.val p e) d _ A b2 (.val (VT.conv (by rw[GG,g2];exact s5) (bY.symm.sub _)) hE)
 | @fold d Γ T A hk nm l hfl h0 hl hn X hX h =>
  intro e hE
  rw[BH];unfold As
  rw[ifn,ifn,ifn,ifn,ifn,ifn,ifn]
  have g1:=H _ e d Γ _ h0 hE
  simp only[if_neg (show ¬(T.kind=135∨T.kind=145) by omega),if_neg (show ¬T.kind=143 by omega)]
  refine Snd.HA (r1:=bsD k (T.kids.getD 0 .nil) e) (F:=fun a=>useB (bsD k) (foD k) T a e) g1 fun hv=>?_
  have hv2:=hv
  rw[JT]at hv2
  obtain⟨s,S,p,c,hvv,_⟩:=Oe (hfl.sub (.inr rfl) _) hv2
  unfold useB
  rw[hvv]at hv ⊢
  dsimp only
  rw[ifn,if_pos hk]
  exact HF T e d Γ A nm l s S p hfl ⟨hl,hn,fun i hi=>⟨X i,hX i hi,h i hi⟩⟩ hE hv
theorem I9:∀k,sndE k∧sndF k
 | 0=>⟨fun T e d Γ A _ _=>by rw[bsD];exact .err (by decide) (by decide),fun T e d Γ A nm l s S p _ _ _ _=>by rw[foD];exact .err (by decide) (by decide)⟩
 | k+1=>⟨fun T e d Γ A h hE=>Xw (I9 k).1 (I9 k).2 h e hE,Ua (I9 k).1 (I9 k).2⟩
inductive Wf:Tree→Prop
 | node {T:Tree} (hT:T≠.nil) (h2:T.kind=114∨T.kind=117∨T.kind=118→T.kids.length=2) (hf:T.kind=115∨T.kind=121→∀x∈T.kids,x≠.nil∧x.kind=(if T.kind=115 then 116 else 122)∧x.kids.length=1) (hk:∀x∈T.kids,Wf x):Wf T
theorem Wf.ne {T:Tree}(h:Wf T):T≠.nil:=by cases h with|node h=>exact h
theorem Wf.two {T:Tree}(h:Wf T)(hk:T.kind=114∨T.kind=117∨T.kind=118):T.kids.length=2:=by cases h with|node _ h=>exact h hk
theorem Wf.fl {T:Tree}(h:Wf T)(hk:T.kind=115∨T.kind=121):∀x∈T.kids,x≠.nil∧x.kind=(if T.kind=115 then 116 else 122)∧x.kids.length=1:=by cases h with|node _ _ h=>exact h hk
theorem Wf.kids {T:Tree}(h:Wf T):∀x∈T.kids,Wf x:=by cases h with|node _ _ _ h=>exact h
theorem Sx (T:Tree):AU T=true→Wf T:=by
 induction T using Tree.ind' with
 | h0=>intro h;rw[AU]at h;cases h
 | h1 T hT ih =>
  intro h
  rw[BP hT]at h
  split at h
  ·rename_i hk
   rw[Bool.and_eq_true]at h
   have hl:T.kids=[]:=by have:=h.2;rw[beq_iff_eq]at this;exact List.length_eq_zero_iff.1 (by omega)
   exact .node hT (fun q=>by omega) (fun q=>by omega) (fun x hx=>by rw[hl]at hx;cases hx)
  ·split at h
   ·rename_i hk
    simp only[Bool.and_eq_true,beq_iff_eq]at h
    obtain⟨⟨⟨h1,h2⟩,h3⟩,h4⟩:=h
    refine .node hT (fun q=>by omega) (fun q=>by omega) (fun x hx=>?_)
    have h2':T.kids.length=2:=by omega
    rcases B8 h2' hx with e|e
    ·exact ih x hx (by rw[e];exact h3)
    ·exact ih x hx (by rw[e];exact h4)
   ·cases h
theorem QI {kind:Int}(hk:kind=116∨kind=122){x:Tree}(h:BU kind x=true)(ih:∀y∈x.kids,AG y=true→Wf y):Wf x∧x≠.nil∧x.kind=kind∧x.kids.length=1:=by
 have hx:x≠.nil:=by intro e;subst e;rw[BU]at h;cases h
 rw[CG hx]at h
 simp only[Bool.and_eq_true,beq_iff_eq]at h
 obtain⟨⟨⟨⟨h1,h2⟩,h3⟩,h4⟩,h5⟩:=h
 have h4':x.kids.length=1:=by omega
 refine⟨.node hx (fun q=>by omega) (fun q=>by omega) fun y hy=>?_,hx,h1,h4'⟩
 have e:=FT h4' hy
 exact ih y hy (by rw[e];exact h5)
theorem aU (T:Tree):(AG T=true→Wf T)∧∀x∈T.kids,AG x=true→Wf x:=by
 induction T using Tree.ind' with
 | h0=>exact⟨fun h=>(by rw[AG]at h;cases h),fun x hx=>(by cases hx)⟩
 | h1 T hT ih =>
  refine⟨fun h=>?_,fun x hx=>(ih x hx).1⟩
  rw[Am hT,Bool.and_eq_true]at h
  obtain⟨_,h⟩:=h
  by_cases k1:T.kind=110
  ·rw[if_pos k1]at h
   simp only[Bool.and_eq_true,beq_iff_eq,decide_eq_true_eq]at h
   have hl:T.kids=[]:=List.length_eq_zero_iff.1 (by omega)
   exact .node hT (fun q=>by omega) (fun q=>by omega) (fun x hx=>by rw[hl]at hx;cases hx)
  rw[if_neg k1]at h
  by_cases k2:T.kind=111∨T.kind=112∨T.kind=113
  ·rw[if_pos k2,beq_iff_eq]at h
   have hl:T.kids=[]:=List.length_eq_zero_iff.1 (by omega)
   exact .node hT (fun q=>by omega) (fun q=>by omega) (fun x hx=>by rw[hl]at hx;cases hx)
  rw[if_neg k2]at h
  by_cases k3:T.kind=114∨T.kind=120
  ·rw[if_pos k3]at h
   simp only[Bool.and_eq_true,beq_iff_eq]at h
   have h2':T.kids.length=2:=by omega
   refine .node hT (fun q=>h2') (fun q=>by omega) (fun x hx=>?_)
   rcases B8 h2' hx with e|e
   ·exact (ih x hx).1 (by rw[e];exact h.1.2)
   ·exact (ih x hx).1 (by rw[e];exact h.2)
  rw[if_neg k3]at h
  by_cases k4:T.kind=115
  ·rw[if_pos k4]at h
   simp only[Bool.and_eq_true]at h
   have hf:=fun x hx=>QI (.inl rfl) (BO h.1 x hx) (ih x hx).2
   exact .node hT (fun q=>by omega) (fun q x hx=>by rw[if_pos k4];exact (hf x hx).2) (fun x hx=>(hf x hx).1)
  rw[if_neg k4]at h
  by_cases k5:T.kind=117∨T.kind=118∨T.kind=119
  ·rw[if_pos k5]at h
   simp only[Bool.and_eq_true,beq_iff_eq]at h
   have h2':T.kids.length=2:=by omega
   refine .node hT (fun q=>h2') (fun q=>by omega) (fun x hx=>?_)
   rcases B8 h2' hx with e|e
   ·exact Sx x (by rw[e];exact h.1.2)
   ·exact (ih x hx).1 (by rw[e];exact h.2)
  rw[if_neg k5]at h
  by_cases k6:T.kind=121
  ·rw[if_pos k6]at h
   simp only[Bool.and_eq_true]at h
   have hf:=fun x hx=>QI (.inr rfl) (BO h.1.2 x hx) (ih x hx).2
   exact .node hT (fun q=>by omega) (fun q x hx=>by rw[if_neg k4];exact (hf x hx).2) (fun x hx=>(hf x hx).1)
  ·rw[if_neg k6]at h;cases h
theorem G1 {T:Tree}(h:conE T=0):Wf T:=(aU T).1 (Ak h).2
theorem Wf.IC {T:Tree}(h:Wf T)(hk:T.kind=114∨T.kind=117∨T.kind=118):toC T=.op T.kind T.name [toC (T.kids.getD 0 .nil),toC (T.kids.getD 1 .nil)]:=by
 rw[BL h.ne (by omega)]
 congr 1
 conv=>lhs;rw[MT (h.two hk)]
 rfl
theorem Wf.fld {T:Tree}(h:Wf T)(hk:T.kind=115∨T.kind=121){x:Tree}(hx:x∈T.kids):toC x=.op (if T.kind=115 then 116 else 122) x.name [toC (inn x)]:=by
 obtain⟨h1,h2,h3⟩:=h.fl hk x hx
 rw[BL h1 (by rw[h2];split<;>decide),h2]
 congr 1
 match hq:x.kids,h3 with
 | [a],_=>unfold inn;rw[hq];rfl
theorem Wf.FL {T:Tree}(h:Wf T)(hk:T.kind=115∨T.kind=121):FL (if T.kind=115 then 116 else 122) (T.kids.map toC):=fun x hx=>by
 obtain⟨y,hy,rfl⟩:=List.mem_map.1 hx
 exact⟨_,_,h.fld hk hy⟩
theorem Wf.part {T:Tree}(h:Wf T)(hk:T.kind=115∨T.kind=121){s:ByteArray}{p:Tree}(hp:Af s T.kids=some p):fAt s (T.kids.map toC)=some (toC p)∧Wf p:=by
 have key:∀l:List Tree,(∀x∈l,x∈T.kids)→Af s l=some p→fAt s (l.map toC)=some (toC p)∧Wf p:=by
  intro l
  induction l with
  | nil=>intro _ h;rw[Af]at h;cases h
  | cons x l ih =>
   intro hx hp
   have hm:=hx x (by simp)
   rw[Af]at hp
   rw[List.map_cons,fAt,h.fld hk hm]
   have e:nmOf (.op (if T.kind=115 then 116 else 122) x.name [toC (inn x)])=x.name:=rfl
   rw[e]
   by_cases q:x.name=s
   ·rw[if_pos q]at hp ⊢
    have:=Option.some.inj hp
    subst this
    refine⟨rfl,?_⟩
    obtain⟨_,_,h3⟩:=h.fl hk x hm
    exact (h.kids x hm).kids _ (AA (by omega))
   ·rw[if_neg q]at hp ⊢
    exact ih (fun y hy=>hx y (by simp[hy])) hp
 exact key T.kids (fun x hx=>hx) hp
open Ty
theorem AX {r:Tree×Int}{f:Tree→Tree×Int}{A:Tree}(h:bnd r f=(A,0)):r=(r.1,0)∧f r.1=(A,0):=by
 unfold bnd at h
 by_cases q:r.2=0
 ·rw[if_pos q]at h;exact⟨Prod.ext rfl q,h⟩
 ·rw[if_neg q]at h;exact absurd (Prod.mk.inj h).2 q
theorem CE {r:List Tree×Int}{f:List Tree→Tree×Int}{A:Tree}(h:lbnd r f=(A,0)):r=(r.1,0)∧f r.1=(A,0):=by
 unfold lbnd at h
 by_cases q:r.2=0
 ·rw[if_pos q]at h;exact⟨Prod.ext rfl q,h⟩
 ·rw[if_neg q]at h;exact absurd (Prod.mk.inj h).2 q
theorem Gk {K:List Tree}{n a:Tree}(h:tstR K n=(a,0)):Fit (toC n)∧Sc K.length (toC n)∧conE n=0∧Eqv (toC n) (toC a)∧conE a=0:=by
 unfold tstR at h
 by_cases q:Ki.Hh K n=0
 ·rw[if_pos q]at h
  obtain⟨h1,h2,h3⟩:=QA q
  obtain⟨r1,_,r3⟩:=Ht h
  exact⟨h1,h2,h3,r1.eqv,r3⟩
 ·rw[if_neg q]at h;exact absurd (Prod.mk.inj h).2 q
theorem EU {n b a:Tree}(h:B5 n b=(a,0)):Eqv (inst (toC n) (toC b)) (toC a)∧conE a=0:=by
 obtain⟨h1,h2⟩:=AX h
 obtain⟨r1,_,r3⟩:=Ht h2
 rw[←Ju h1]
 exact⟨r1.eqv,r3⟩
theorem Qw:∀{Γ Δ:List Tree},shsR Γ=(Δ,0)→Δ.map toC=shC (Γ.map toC)
 | [],Δ,h=>by rw[shsR]at h;rw[←(Prod.mk.inj h).1];rfl
 | t::l,Δ,h=>by
  rw[shsR]at h
  by_cases q:(BK t 1 0).2=0
  ·rw[if_pos q]at h
   obtain⟨h1,h2⟩:=Prod.mk.inj h
   rw[←h1]
   obtain⟨e1,_⟩:=UF (Prod.ext rfl q:BK t 1 0=((BK t 1 0).1,0))
   have:=Qw (Prod.ext rfl h2:shsR l=((shsR l).1,0))
   unfold shC at this ⊢
   rw[List.map_cons,this,e1];rfl
  ·rw[if_neg q]at h;exact absurd (Prod.mk.inj h).2 q
theorem JG {r:Tree×Int}{kind:Int}{t:Tree}(h:asR r kind=(t,0)):r=(t,0)∧t.kind=kind:=by
 unfold asR at h
 by_cases q:r.2=0∧r.1.kind≠kind
 ·rw[if_pos q]at h;exact absurd (Prod.mk.inj h).2 (by decide)
 ·rw[if_neg q]at h
  refine⟨h,Decidable.byContradiction fun q2=>q ?_⟩
  rw[h];exact⟨rfl,q2⟩
theorem UE (T:Tree):∀(d:Nat) (y:Tree),Plain T→(d:Int)+AD T≤lim→vmap (fM (-1) 0) T d=some y→toC T=ren (shAt 1 d) (toC y):=by
 induction T using Tree.ind' with
 | h0=>intro d y hp;cases hp
 | h1 T hT ih =>
  intro d y hp hd h
  obtain⟨v1,v2,v3,v4,v5,v6⟩:=I4 h
  have hs:=AI hT
  by_cases hk:T.kind=110
  ·have v6:=(v6 hk).1
   have hn:0≤T.n:=by
    cases T with
    | nil=>exact absurd rfl hT
    | node k n nm mk l=>exact ((hp.inv.2.1 hk).2.2).1
   rw[DA v1 (by rw[v2];exact hk),DA hT hk,Cy]
   congr 1
   unfold fM at v6
   unfold shAt
   by_cases c:(d:Int)≤T.n
   ·rw[if_pos ⟨c,by omega⟩]at v6
    split at v6
    ·cases v6
    ·have:=Option.some.inj v6
     rw[ifn];omega
   ·rw[ifn]at v6
    have:=Option.some.inj v6
    rw[ifp];omega
  ·obtain⟨_,v5⟩:=v5 hk
   obtain⟨u1,u2⟩:=Fz v5
   rw[BL v1 (by rw[v2];exact hk),BL hT hk,B9,v2,v3]
   congr 1
   refine Lo u1.symm fun i hi=>?_
   have hi:i < T.kids.length:=by omega
   have hm:=AA hi
   have s1:=AH hm
   have hb:=GL T
   have hb1:=IV T.kind
   have:=ih _ hm (d+Cn.bd T.kind) _ (Ex.B4 hp _ hm) (by omega) (by have:=u2 i hi;rwa [hb]at this)
   rw[this]
   exact EP _ fun n=>(NM 1 d _ hb1 n).symm
theorem XT {b A:Tree}(h:BK b (-1) 0=(A,0)):toC b=ren Nat.succ (toC A)∧conE A=0:=by
 have hb:conE b=0:=by
  unfold BK at h
  by_cases q:conE b=0
  ·exact q
  ·rw[if_neg q]at h;exact absurd (Prod.mk.inj h).2 q
 have hz:=Al hb
 have hlim:lim=1099511627776:=rfl
 rw[Ke hb (Int.le_refl 0) (-1)]at h
 cases hv:vmap (fM (-1) 0) b 0 with
 | none=>rw[hv]at h;exact absurd (Prod.mk.inj h).2 (by decide)
 | some m =>
  rw[hv]at h
  have:=(Prod.mk.inj h).1
  have this:m=A:=this
  subst this
  refine⟨?_,IF (SW (-1) 0) hb hv⟩
  rw[UE b 0 m (Aa hb) (by omega) hv]
  exact EP _ fun n=>J2 1 n
end Mc
end Go.Proofs.YtlgajkoplklkiaaGreat
namespace Go.Proofs.YtlgajkoplklkiaaGreat
namespace Mc
open Go Go.Mq Cn Tm Sb St Ty
theorem NG:∀{xs K Γ ts:List Tree},Dt xs K Γ=(ts,0)→ts.length=xs.length∧∀i,i < xs.length→ofF (xs.getD i .nil) K Γ=(ts.getD i .nil,0)
 | [],K,Γ,ts,h=>by rw[Dt]at h;rw[←(Prod.mk.inj h).1];exact⟨rfl,fun i hi=>by simp at hi⟩
 | x::xs,K,Γ,ts,h=>by
  rw[Dt]at h
  by_cases q:(ofF x K Γ).2=0
  ·rw[if_pos q]at h
   obtain⟨h1,h2⟩:=Prod.mk.inj h
   obtain⟨a,b⟩:=NG (Prod.ext rfl h2:Dt xs K Γ=((Dt xs K Γ).1,0))
   rw[←h1]
   refine⟨by simp[a],fun i hi=>?_⟩
   cases i with
   | zero=>exact Prod.ext rfl q
   | succ i=>have:=b i (by simpa using hi);simpa using this
  ·rw[if_neg q]at h;exact absurd (Prod.mk.inj h).2 q
theorem LC:∀{xs K Γ ts:List Tree},Cj xs K Γ=(ts,0)→ts.length=xs.length∧∀i,i < xs.length→∃t,ofF (inn (xs.getD i .nil)) K Γ=(t,0)∧ts.getD i .nil=.node 116 0 (xs.getD i .nil).name ByteArray.empty [t]
 | [],K,Γ,ts,h=>by rw[Cj]at h;rw[←(Prod.mk.inj h).1];exact⟨rfl,fun i hi=>by simp at hi⟩
 | x::xs,K,Γ,ts,h=>by
  rw[HQ]at h
  by_cases q:(ofF (x.kids.getD 0 .nil) K Γ).2=0
  ·rw[if_pos q]at h
   obtain⟨h1,h2⟩:=Prod.mk.inj h
   obtain⟨a,b⟩:=LC (Prod.ext rfl h2:Cj xs K Γ=((Cj xs K Γ).1,0))
   rw[←h1]
   refine⟨by simp[a],fun i hi=>?_⟩
   cases i with
   | zero=>exact⟨_,Prod.ext rfl q,rfl⟩
   | succ i=>have:=b i (by simpa using hi);simpa using this
  ·rw[if_neg q]at h;exact absurd (Prod.mk.inj h).2 q
theorem MM:∀{xs S:List Tree} {self:Tree} {K Γ ts:List Tree},Ch xs S self K Γ=(ts,0)→ts.length=xs.length∧∀i,i < xs.length→∃X,B5 (inn (S.getD i .nil)) self=(X,0)∧ofF (inn (xs.getD i .nil)) K (X::Γ)=(ts.getD i .nil,0)
 | [],S,self,K,Γ,ts,h=>by rw[Ch]at h;rw[←(Prod.mk.inj h).1];exact⟨rfl,fun i hi=>by simp at hi⟩
 | x::xs,S,self,K,Γ,ts,h=>by
  rw[Ch]at h
  by_cases q1:(B5 ((S.getD 0 .nil).kids.getD 0 .nil) self).2=0
  ·rw[if_pos q1]at h
   by_cases q:(ofF (x.kids.getD 0 .nil) K ((B5 ((S.getD 0 .nil).kids.getD 0 .nil) self).1::Γ)).2=0
   ·rw[if_pos q]at h
    obtain⟨h1,h2⟩:=Prod.mk.inj h
    obtain⟨a,b⟩:=MM (Prod.ext rfl h2:Ch xs (S.drop 1) self K Γ=((Ch xs (S.drop 1) self K Γ).1,0))
    rw[←h1]
    refine⟨by simp only[List.length_cons,a],fun i hi=>?_⟩
    cases i with
    | zero=>exact⟨_,Prod.ext rfl q1,Prod.ext rfl q⟩
    | succ i =>
     obtain⟨X,b1,b2⟩:=b i (by simpa using hi)
     have e:(S.drop 1).getD i .nil=S.getD (i+1) .nil:=by simp[List.getD_eq_getElem?_getD,Nat.add_comm]
     rw[e]at b1
     exact⟨X,b1,by simpa using b2⟩
   ·rw[if_neg q]at h;exact absurd (Prod.mk.inj h).2 q
  ·rw[if_neg q1]at h;exact absurd (Prod.mk.inj h).2 q1
theorem NB {ts:List Tree}{t A:Tree}(h:EC ts t=(A,0)):A=t∧∀x∈ts,x=t:=by
 unfold EC at h
 by_cases q:(ts.any fun s=>!BQ s t)=true
 ·rw[if_pos q]at h;exact absurd (Prod.mk.inj h).2 (by decide)
 ·rw[if_neg q]at h
  refine⟨(Prod.mk.inj h).1.symm,fun x hx=>?_⟩
  apply (Ez x t).1
  cases hs:BQ x t with
  | true=>rfl
  | false=>exact absurd (List.any_eq_true.2 ⟨x,hx,by rw[hs];rfl⟩) q
theorem Sg {k:Int}{l:List Tree}(h2:k=114∨k=117∨k=118→l.length=2)(hf:k=115∨k=121→∀x∈l,x≠.nil∧x.kind=(if k=115 then 116 else 122)∧x.kids.length=1)(hk:∀x∈l,Wf x):Wf (cT k l):=.node (by intro e;cases e) h2 hf hk
theorem Qd (l:List Tree)(j i:Nat):(l.drop j).getD i .nil=l.getD (j+i) .nil:=by simp[List.getD_eq_getElem?_getD]
theorem P0 {T S self:Tree}{j:Nat}{K Γ ts:List Tree}{A:Tree}(hS:Wf S)(hSk:S.kind=121)(hn:S.kids.map Tree.name=(T.kids.drop j).map Tree.name)(h:Ch (T.kids.drop j) S.kids self K Γ=(ts,0))(hall:∀x∈ts,x=A)
  (ih:∀i,i < (T.kids.drop j).length→∀Γ A,ofF (inn (kidT T (j+i))) K Γ=(A,0)→Wf A∧Has K.length (Γ.map toC) (inn (kidT T (j+i))) (toC A)) :
  (T.kids.drop j).length=(S.kids.map toC).length∧(∀i (hi:i < (S.kids.map toC).length),nmOf (S.kids.map toC)[i]=(kidT T (j+i)).name)∧(∀x∈ts,Wf x)∧∃X:Nat→Cn,(∀i (hi:i < (S.kids.map toC).length),Eqv (X i) (inst (CI (S.kids.map toC)[i]) (toC self)))∧∀i (hi:i < (S.kids.map toC).length),Has K.length (X i::Γ.map toC) (inn (kidT T (j+i))) (toC A):=by
 obtain⟨a1,a2⟩:=MM h
 have hlen:S.kids.length=(T.kids.drop j).length:=by have:=congrArg List.length hn;simpa using this
 have hfl:=fun i (hi:i < S.kids.length)=>hS.fld (.inr hSk) (AA hi)
 have hx:∀i,i < S.kids.length→∃X,Eqv X (inst (toC (inn (S.kids.getD i .nil))) (toC self))∧Has K.length (X::Γ.map toC) (inn (kidT T (j+i))) (toC A)∧Wf (ts.getD i .nil):=fun i hi=>by
  obtain⟨X,b1,b2⟩:=a2 i (by omega)
  rw[Qd]at b2
  obtain⟨w,g⟩:=ih i (by omega) _ _ b2
  have e:ts.getD i .nil=A:=hall _ (AA (by omega))
  rw[e]at g
  exact⟨toC X,(EU b1).1.symm,g,w⟩
 have hb:∀i (hi:i < (S.kids.map toC).length),CI (S.kids.map toC)[i]=toC (inn (S.kids.getD i .nil)):=fun i hi=>by
  have hi':i < S.kids.length:=by simpa using hi
  rw[A3,hfl i hi'];rfl
 refine⟨by simp[hlen],fun i hi=>?_,fun x hx2=>?_,fun i=>if hi:i < S.kids.length then (hx i hi).choose else .var 0,fun i hi=>?_,fun i hi=>?_⟩
 ·have hi':i < S.kids.length:=by simpa using hi
  rw[A3,hfl i hi']
  show (S.kids.getD i .nil).name=(T.kids.getD (j+i) .nil).name
  rw[←Qd]
  have:=congrArg (fun l=>l.getD i ByteArray.empty) hn
  simp only[List.getD_eq_getElem?_getD,List.getElem?_map]at this
  rw[List.getElem?_eq_getElem hi',List.getElem?_eq_getElem (show i < (T.kids.drop j).length by omega)]at this
  simp only[List.getD_eq_getElem?_getD]
  rw[List.getElem?_eq_getElem hi',List.getElem?_eq_getElem (show i < (T.kids.drop j).length by omega)]
  simpa using this
 ·obtain⟨i,hi,rfl⟩:=List.getElem_of_mem hx2
  have:=(hx i (by omega)).choose_spec.2.2
  simpa [hi] using this
 ·have hi':i < S.kids.length:=by simpa using hi
  rw[hb i hi]
  dsimp only
  rw[dif_pos hi']
  exact (hx i hi').choose_spec.1
 ·have hi':i < S.kids.length:=by simpa using hi
  dsimp only
  rw[dif_pos hi']
  exact (hx i hi').choose_spec.2.1
theorem Z9 (T:Tree):(AF T=true→∀K Γ A,ofF T K Γ=(A,0)→Wf A∧Has K.length (Γ.map toC) T (toC A))∧∀x∈T.kids,AF x=true→∀K Γ A,ofF x K Γ=(A,0)→Wf A∧Has K.length (Γ.map toC) x (toC A):=by
 induction T using Tree.ind' with
 | h0=>exact⟨fun h=>(by rw[AF]at h;cases h),fun x hx=>by cases hx⟩
 | h1 T hT ih =>
  refine⟨fun hterm K Γ A h=>?_,fun x hx=>(ih x hx).1⟩
  have hh:=(BR hterm).1
  rw[Qg T K Γ hT]at h
  by_cases c1:T.kind=130
  ·rw[if_pos c1]at h
   unfold varR at h
   have hn:=hh.n130 c1
   by_cases q:(Γ.length:Int)≤T.n
   ·rw[if_pos q]at h;exact absurd (Prod.mk.inj h).2 (by decide)
   rw[if_neg q]at h
   obtain⟨r1,_,r3⟩:=Ht h
   refine⟨G1 r3,.conv (.var c1 hn.1 ?_) r1.eqv⟩
   rw[List.getElem?_map,List.getElem?_eq_getElem (show T.n.toNat < Γ.length by omega)]
   simp[List.getD_eq_getElem?_getD,List.getElem?_eq_getElem (show T.n.toNat < Γ.length by omega)]
  rw[if_neg c1]at h
  have leaf:∀k:Int,(k=111∨k=112∨k=113)→Wf (cT k [])∧toC (cT k [])=.op k ByteArray.empty []:=fun k hk=>⟨Sg (fun q=>by omega) (fun q=>by omega) (fun x hx=>by cases hx),by rw[BL (by intro e;cases e) (by show k≠110;omega)];rfl⟩
  by_cases c2:T.kind=131
  ·rw[if_pos c2]at h
   rw[←(Prod.mk.inj h).1]
   obtain⟨l1,l2⟩:=leaf 111 (by omega)
   rw[l2];exact⟨l1,.int c2 _⟩
  rw[if_neg c2]at h
  by_cases c3:T.kind=132
  ·rw[if_pos c3]at h
   rw[←(Prod.mk.inj h).1]
   obtain⟨l1,l2⟩:=leaf 112 (by omega)
   rw[l2];exact⟨l1,.tru c3 _⟩
  rw[if_neg c3]at h
  by_cases c4:T.kind=133
  ·rw[if_pos c4]at h
   rw[←(Prod.mk.inj h).1]
   obtain⟨l1,l2⟩:=leaf 113 (by omega)
   rw[l2];exact⟨l1,.unt c4 _⟩
  rw[if_neg c4]at h
  by_cases c5:T.kind=139
  ·rw[if_pos c5]at h
   obtain⟨tl,t0,t1⟩:=Er hterm c5
   unfold SF at h
   obtain⟨h1,h⟩:=CE h
   obtain⟨h2,h⟩:=AX h
   obtain⟨w,g⟩:=(ih _ (AA (by omega))).1 t1 _ _ _ h2
   rw[Qw h1]at g
   rw[←(Prod.mk.inj h).1]
   have W:Wf (cT 117 [T.kids.getD 0 .nil,(ofF (T.kids.getD 1 .nil) (T.kids.getD 0 .nil::K) (shsR Γ).1).1]):=Sg (fun q=>rfl) (fun q=>by omega) (fun x hx=>by
    rcases B8 rfl hx with e|e
    ·rw[e];exact Sx _ t0
    ·rw[e];exact w)
   refine⟨W,?_⟩
   rw[W.IC (.inr (.inl rfl))]
   exact .tlam c5 _ g
  rw[if_neg c5]at h
  by_cases c6:T.kind=143
  ·rw[if_pos c6]at h
   obtain⟨tl,t0,t1⟩:=A8 hterm (.inr (.inr (.inl c6)))
   unfold letR at h
   obtain⟨h1,h⟩:=AX h
   obtain⟨w1,g1⟩:=(ih _ (AA (by omega))).1 t0 _ _ _ h1
   obtain⟨w2,g2⟩:=(ih _ (AA (by omega))).1 t1 _ _ _ h
   exact⟨w2,.bind c6 g1 g2⟩
  rw[if_neg c6]at h
  unfold Po at h
  by_cases k1:T.kind=134
  ·rw[if_pos k1]at h
   obtain⟨tl,t0,t1⟩:=Bs hterm (.inl k1)
   unfold lamR at h
   obtain⟨h1,h⟩:=AX h
   obtain⟨h2,h⟩:=AX h
   obtain⟨w,g⟩:=(ih _ (AA (by omega))).1 t1 _ _ _ h2
   rw[←(Prod.mk.inj h).1]
   have W:Wf (cT 114 [(tstR K (T.kids.getD 0 .nil)).1,(ofF (T.kids.getD 1 .nil) K ((tstR K (T.kids.getD 0 .nil)).1::Γ)).1]):=Sg (fun q=>rfl) (fun q=>by omega) (fun x hx=>by
    rcases B8 rfl hx with e|e
    ·rw[e];exact G1 (Gk h1).2.2.2.2
    ·rw[e];exact w)
   refine⟨W,?_⟩
   rw[W.IC (.inl rfl)]
   exact .lam k1 _ g
  rw[if_neg k1]at h
  by_cases k2:T.kind=135
  ·rw[if_pos k2]at h
   obtain⟨tl,t0,t1⟩:=A8 hterm (.inl k2)
   unfold appR at h
   obtain⟨h1,h⟩:=AX h
   obtain⟨h2,h⟩:=AX h
   obtain⟨w1,g1⟩:=(ih _ (AA (by omega))).1 t0 _ _ _ h1
   obtain⟨w2,g2⟩:=(ih _ (AA (by omega))).1 t1 _ _ _ h2
   generalize (ofF (T.kids.getD 0 .nil) K Γ).1=f at *
   generalize (ofF (T.kids.getD 1 .nil) K Γ).1=a at *
   by_cases q:f.kind=114∧BQ (f.kids.getD 0 .nil) a=true
   ·rw[if_pos q]at h
    obtain⟨q1,q2⟩:=q
    rw[w1.IC (.inl q1),q1,(Ez _ _).1 q2]at g1
    rw[←(Prod.mk.inj h).1]
    exact⟨w1.kids _ (AA (by have:=w1.two (.inl q1);omega)),.app k2 g1 g2⟩
   ·rw[if_neg q]at h;exact absurd (Prod.mk.inj h).2 (by decide)
  rw[if_neg k2]at h
  by_cases k3:T.kind=136
  ·rw[if_pos k3]at h
   have tf:=(Fq hterm k3).1
   unfold recR at h
   obtain⟨h1,h⟩:=CE h
   rw[←(Prod.mk.inj h).1]
   generalize (Cj T.kids K Γ).1=ts at *
   obtain⟨a1,a2⟩:=LC h1
   have hk:∀i,i < T.kids.length→∃t,ts.getD i .nil=.node 116 0 (T.kids.getD i .nil).name ByteArray.empty [t]∧Wf t∧Has K.length (Γ.map toC) (inn (T.kids.getD i .nil)) (toC t):=fun i hi=>by
    obtain⟨t,b1,b2⟩:=a2 i hi
    obtain⟨q1,q2,q3,q4,q5⟩:=AK (tf _ (AA hi))
    obtain⟨w,g⟩:=(ih _ (AA hi)).2 _ (AA (l:=(T.kids.getD i .nil).kids) (i:=0) (by omega)) q5 _ _ _ b1
    exact⟨t,b2,w,g⟩
   have hmem:∀x∈ts,∃i,i < T.kids.length∧x=ts.getD i .nil:=fun x hx=>by
    obtain⟨i,hi,rfl⟩:=List.getElem_of_mem hx
    exact⟨i,by omega,by simp[hi]⟩
   have W:Wf (cT 115 ts):=Sg (fun q=>by omega) (fun _ x hx=>by
    obtain⟨i,hi,rfl⟩:=hmem x hx
    obtain⟨t,b1,_⟩:=hk i hi
    rw[b1];exact⟨by (intro e;cases e),rfl,rfl⟩) (fun x hx=>by
    obtain⟨i,hi,rfl⟩:=hmem x hx
    obtain⟨t,b1,b2,_⟩:=hk i hi
    rw[b1]
    exact .node (by intro e;cases e) (fun q=>by have q:(116:Int)=114∨(116:Int)=117∨(116:Int)=118:=q;omega) (fun q=>by have q:(116:Int)=115∨(116:Int)=121:=q;omega) (fun y hy=>by rw[FT rfl hy];exact b2))
   refine⟨W,?_⟩
   rw[BL W.ne (by show (115:Int)≠110;decide)]
   show Has _ _ T (.op 115 ByteArray.empty (ts.map toC))
   refine .rcd k3 _ (by simp[a1]) (W.FL (.inl rfl)) (fun i hi=>?_) fun i hi=>?_
   ·obtain⟨t,b1,_⟩:=hk i (by simpa [a1] using hi)
    rw[A3,b1,BL (by intro e;cases e) (by show (116:Int)≠110;decide)];rfl
   ·obtain⟨t,b1,_,b3⟩:=hk i (by simpa [a1] using hi)
    rw[A3,b1,BL (by intro e;cases e) (by show (116:Int)≠110;decide)];exact b3
  rw[if_neg k3]at h
  by_cases k4:T.kind=138
  ·rw[if_pos k4]at h
   obtain⟨tl,t0⟩:=GY hterm k4
   unfold Mu at h
   obtain⟨h1,h⟩:=AX h
   obtain⟨h1,q1⟩:=JG h1
   obtain⟨w1,g1⟩:=(ih _ (AA (by omega))).1 t0 _ _ _ h1
   generalize (asR (ofF (T.kids.getD 0 .nil) K Γ) 115).1=f at *
   cases hp:Af T.name f.kids with
   | none=>rw[hp]at h;exact absurd (Prod.mk.inj h).2 (by decide)
   | some p =>
    rw[hp]at h
    have:=(Prod.mk.inj h).1
    have this:p=A:=this
    subst this
    obtain⟨p1,p2⟩:=w1.part (.inl q1) hp
    rw[BL w1.ne (by omega),q1]at g1
    have hF:=w1.FL (.inl q1)
    rw[if_pos q1]at hF
    exact⟨p2,.proj k4 hF g1 p1⟩
  rw[if_neg k4]at h
  by_cases k5:T.kind=140
  ·rw[if_pos k5]at h
   obtain⟨tl,t0,t1⟩:=Da hterm k5
   unfold My at h
   obtain⟨h1,h⟩:=AX h
   obtain⟨h2,h⟩:=AX h
   obtain⟨w1,g1⟩:=(ih _ (AA (by omega))).1 t0 _ _ _ h1
   obtain⟨f1,f2,f3⟩:=HE (K:=K) (T:=T.kids.getD 1 .nil) (by rw[h2])
   generalize (ofF (T.kids.getD 0 .nil) K Γ).1=f at *
   by_cases q:f.kind=117∧BQ (f.kids.getD 0 .nil) (Ki.CQ K (T.kids.getD 1 .nil)).1=true
   ·rw[if_pos q]at h
    obtain⟨q1,q2⟩:=q
    rw[w1.IC (.inr (.inl q1)),q1]at g1
    obtain⟨r1,r2⟩:=EU h
    exact⟨G1 r2,.conv (.tapp k5 g1 f3 f2 f1) r1⟩
   ·rw[if_neg q]at h;exact absurd (Prod.mk.inj h).2 (by decide)
  rw[if_neg k5]at h
  by_cases k6:T.kind=141
  ·rw[if_pos k6]at h
   obtain⟨tl,t0,t1,t2⟩:=DW hterm k6
   unfold Nh at h
   obtain⟨h1,h⟩:=AX h
   obtain⟨h2,h⟩:=AX h
   obtain⟨h3,h⟩:=AX h
   obtain⟨w1,g1⟩:=(ih _ (AA (by omega))).1 t1 _ _ _ h3
   obtain⟨f1,f2,f3⟩:=HE (K:=K) (T:=T.kids.getD 0 .nil) (by rw[h2])
   have wt:=G1 (Gk h1).2.2.2.2
   generalize (ofF (T.kids.getD 1 .nil) K Γ).1=a at *
   generalize (tstR K (T.kids.getD 2 .nil)).1=t at *
   by_cases q:t.kind=118∧BQ (t.kids.getD 0 .nil) (Ki.CQ K (T.kids.getD 0 .nil)).1=true
   ·rw[if_pos q]at h
    obtain⟨h4,h⟩:=AX h
    by_cases q3:BQ a (B5 (t.kids.getD 1 .nil) (T.kids.getD 0 .nil)).1=true
    ·rw[if_pos q3]at h
     rw[←(Prod.mk.inj h).1]
     obtain⟨r1,r2⟩:=EU h4
     rw[←(Ez _ _).1 q3]at r1
     refine⟨wt,?_⟩
     rw[wt.IC (.inr (.inr q.1)),q.1]
     exact .pack k6 _ f3 f2 f1 (.conv g1 r1.symm)
    ·rw[if_neg q3]at h;exact absurd (Prod.mk.inj h).2 (by decide)
   ·rw[if_neg q]at h;exact absurd (Prod.mk.inj h).2 (by decide)
  rw[if_neg k6]at h
  by_cases k7:T.kind=142
  ·rw[if_pos k7]at h
   obtain⟨tl,t0,t1⟩:=A8 hterm (.inr (.inl k7))
   unfold H4 at h
   obtain⟨h1,h⟩:=AX h
   obtain⟨h2,h⟩:=CE h
   obtain⟨h3,h⟩:=AX h
   obtain⟨h1,q1⟩:=JG h1
   obtain⟨w1,g1⟩:=(ih _ (AA (by omega))).1 t0 _ _ _ h1
   obtain⟨w3,g3⟩:=(ih _ (AA (by omega))).1 t1 _ _ _ h3
   rw[List.map_cons,Qw h2]at g3
   generalize (asR (ofF (T.kids.getD 0 .nil) K Γ) 118).1=f at *
   rw[w1.IC (.inr (.inr q1)),q1]at g1
   by_cases q:Dy (ofF (T.kids.getD 1 .nil) (f.kids.getD 0 .nil::K) (f.kids.getD 1 .nil::(shsR Γ).1)).1 0=true
   ·rw[if_pos q]at h;exact absurd (Prod.mk.inj h).2 (by decide)
   ·rw[if_neg q]at h
    obtain⟨e1,e2⟩:=XT h
    rw[e1]at g3
    exact⟨G1 e2,.unpack k7 g1 g3⟩
  rw[if_neg k7]at h
  by_cases k8:T.kind=144
  ·rw[if_pos k8]at h
   obtain⟨tl,t0,t1,t2⟩:=C0 hterm k8
   unfold JM at h
   obtain⟨h1,h⟩:=CE h
   obtain⟨a1,a2⟩:=NG h1
   generalize (Dt T.kids K Γ).1=ts at *
   obtain⟨w0,g0⟩:=(ih _ (AA (by omega))).1 t0 _ _ _ (a2 0 (by omega))
   obtain⟨w1,g1⟩:=(ih _ (AA (by omega))).1 t1 _ _ _ (a2 1 (by omega))
   obtain⟨w2,g2⟩:=(ih _ (AA (by omega))).1 t2 _ _ _ (a2 2 (by omega))
   by_cases q:(ts.getD 0 .nil).kind=112∧BQ (ts.getD 1 .nil) (ts.getD 2 .nil)=true
   ·rw[if_pos q]at h
    rw[←(Prod.mk.inj h).1]
    rw[←(Ez _ _).1 q.2]at g2
    rw[BL w0.ne (by omega),q.1]at g0
    exact⟨w1,.choice k8 g0 g1 g2⟩
   ·rw[if_neg q]at h;exact absurd (Prod.mk.inj h).2 (by decide)
  rw[if_neg k8]at h
  by_cases k9:T.kind=145
  ·rw[if_pos k9]at h
   obtain⟨tl,t0,t1⟩:=A8 hterm (.inr (.inr (.inr k9)))
   unfold opR at h
   obtain⟨h1,h⟩:=AX h
   obtain⟨h2,h⟩:=AX h
   obtain⟨w0,g0⟩:=(ih _ (AA (by omega))).1 t0 _ _ _ h1
   obtain⟨w1,g1⟩:=(ih _ (AA (by omega))).1 t1 _ _ _ h2
   generalize (ofF (T.kids.getD 0 .nil) K Γ).1=a at *
   generalize (ofF (T.kids.getD 1 .nil) K Γ).1=b at *
   have hn:=hh.n145 k9
   by_cases q:a.kind=111∧b.kind=111
   ·rw[if_pos q]at h
    rw[BL w0.ne (by omega),q.1]at g0
    rw[BL w1.ne (by omega),q.2]at g1
    have g:=Has.opr k9 g0 g1 hn ByteArray.empty
    by_cases q3:T.n≤3
    ·rw[if_pos q3]at h g
     rw[←(Prod.mk.inj h).1]
     obtain⟨l1,l2⟩:=leaf 111 (by omega)
     rw[l2];exact⟨l1,g⟩
    ·rw[if_neg q3]at h g
     rw[←(Prod.mk.inj h).1]
     obtain⟨l1,l2⟩:=leaf 112 (by omega)
     rw[l2];exact⟨l1,g⟩
   ·rw[if_neg q]at h;exact absurd (Prod.mk.inj h).2 (by decide)
  rw[if_neg k9]at h
  by_cases k10:T.kind=146
  ·rw[if_pos k10]at h
   obtain⟨tl,t0,t1⟩:=Bs hterm (.inr k10)
   unfold inR at h
   obtain⟨h1,h⟩:=AX h
   obtain⟨h2,h⟩:=AX h
   obtain⟨w1,g1⟩:=(ih _ (AA (by omega))).1 t1 _ _ _ h2
   obtain⟨f1,f2,f3,f4,f5⟩:=Gk h1
   have ws:=G1 f5
   generalize (ofF (T.kids.getD 1 .nil) K Γ).1=a at *
   generalize (tstR K (T.kids.getD 0 .nil)).1=s at *
   by_cases q:s.kind=121
   ·rw[if_pos q]at h
    cases hp:Af T.name s.kids with
    | none=>rw[hp]at h;exact absurd (Prod.mk.inj h).2 (by decide)
    | some p =>
     rw[hp]at h
     obtain⟨h4,h⟩:=AX h
     by_cases q3:BQ a (B5 p s).1=true
     ·rw[if_pos q3]at h
      rw[←(Prod.mk.inj h).1]
      obtain⟨r1,r2⟩:=EU h4
      rw[←(Ez _ _).1 q3]at r1
      obtain⟨p1,p2⟩:=ws.part (.inr q) hp
      have hF:=ws.FL (.inr q)
      rw[ifn]at hF
      have es:=BL ws.ne (show s.kind≠110 by omega)
      rw[q]at es
      refine⟨ws,?_⟩
      rw[es]at f4 r1 ⊢
      exact .inj k10 f3 f2 f1 f4 hF p1 (.conv g1 r1.symm)
     ·rw[if_neg q3]at h;exact absurd (Prod.mk.inj h).2 (by decide)
   ·rw[if_neg q]at h;exact absurd (Prod.mk.inj h).2 (by decide)
  rw[if_neg k10]at h
  have armsof:∀j,(T.kind=147∧j=1)∨(T.kind=148∧j=2)→∀i,i < (T.kids.drop j).length→∀Γ A,ofF (inn (kidT T (j+i))) K Γ=(A,0)→Wf A∧Has K.length (Γ.map toC) (inn (kidT T (j+i))) (toC A):=fun j hj i hi Γ A hA=>by
   have hi':j+i < T.kids.length:=by simp at hi;omega
   have hf:A9 149 (T.kids.getD (j+i) .nil)=true:=by
    rcases hj with⟨q,rfl⟩|⟨q,rfl⟩
    ·exact (Cg hterm q).2.2 _ (EW (by omega) hi')
    ·exact (CY hterm q).2.2.2 _ (EW (by omega) hi')
   obtain⟨q1,q2,q3,q4,q5⟩:=AK hf
   exact (ih _ (AA hi')).2 _ (AA (l:=(T.kids.getD (j+i) .nil).kids) (i:=0) (by omega)) q5 _ _ _ hA
  by_cases k11:T.kind=147
  ·rw[if_pos k11]at h
   obtain⟨tl,t0,t1⟩:=Cg hterm k11
   unfold Lq at h
   obtain⟨h1,h⟩:=AX h
   obtain⟨h2,h⟩:=CE h
   obtain⟨h1,q1⟩:=JG h1
   obtain⟨w0,g0⟩:=(ih _ (AA (by omega))).1 t0 _ _ _ h1
   generalize (asR (ofF (T.kids.getD 0 .nil) K Γ) 121).1=s at *
   unfold armR at h2 h
   by_cases q:s.kids.map Tree.name=(T.kids.drop 1).map Tree.name
   ·rw[if_pos q]at h2 h
    obtain⟨e1,e2⟩:=NB h
    rw[←e1]at e2
    obtain⟨m1,m2,m3,X,m4,m5⟩:=P0 w0 q1 q h2 e2 (armsof 1 (.inl ⟨k11,rfl⟩))
    have es:=BL w0.ne (show s.kind≠110 by omega)
    rw[q1]at es
    have hF:=w0.FL (.inr q1)
    rw[ifn]at hF
    rw[es]at g0 m4
    have hlen:=(MM h2).1
    refine⟨?_,.cse k11 hF g0 m1 m2 X m4 m5⟩
    have hpos:0 < (Ch (T.kids.drop 1) s.kids s K Γ).1.length:=by rw[hlen];simp;omega
    have:=m3 _ (AA hpos)
    rw[e1];exact this
   ·rw[if_neg q]at h2;exact absurd (Prod.mk.inj h2).2 (by decide)
  rw[if_neg k11]at h
  have hkind:=hh.kind
  have k12:T.kind=148:=by omega
  obtain⟨tl,t0,t1,t2⟩:=CY hterm k12
  unfold La at h
  obtain⟨h1,h⟩:=AX h
  obtain⟨h3,h⟩:=AX h
  obtain⟨h2,h⟩:=CE h
  obtain⟨h1,q1⟩:=JG h1
  obtain⟨w0,g0⟩:=(ih _ (AA (by omega))).1 t0 _ _ _ h1
  have wt:=G1 (Gk h3).2.2.2.2
  generalize (asR (ofF (T.kids.getD 0 .nil) K Γ) 121).1=s at *
  generalize (tstR K (T.kids.getD 1 .nil)).1=t at *
  unfold armR at h2 h
  by_cases q:s.kids.map Tree.name=(T.kids.drop 2).map Tree.name
  ·rw[if_pos q]at h2 h
   obtain⟨e1,e2⟩:=NB h
   subst e1
   obtain⟨m1,m2,m3,X,m4,m5⟩:=P0 w0 q1 q h2 e2 (armsof 2 (.inr ⟨k12,rfl⟩))
   have es:=BL w0.ne (show s.kind≠110 by omega)
   rw[q1]at es
   have hF:=w0.FL (.inr q1)
   rw[ifn]at hF
   rw[es]at g0
   exact⟨wt,.fold k12 hF g0 m1 m2 X m4 m5⟩
  ·rw[if_neg q]at h2;exact absurd (Prod.mk.inj h2).2 (by decide)
theorem NO {d:Nat}{Γ:List Cn}{T:Tree}{A:Cn}(h:Has d Γ T A):(T.kind=135∨T.kind=136∨T.kind=138∨(140≤T.kind∧T.kind≤148))→∀i,(plcF T).1≤i→i < (plcF T).2→∃B,Has d Γ (inF T i) B:=by
 have hin:∀{T:Tree} (i:Nat),T.kind≠136→inF T i=kidT T i:=fun i q=>by unfold inF;rw[if_neg q];rfl
 have p2:∀{T:Tree} {i:Nat},T.kind=135∨T.kind=145→i < (plcF T).2→i=0∨i=1:=fun hk h=>by
  unfold plcF at h;rw[if_pos hk]at h;simp only[]at h;omega
 have p3:∀{T:Tree} {i:Nat},T.kind=141∨T.kind=146→(plcF T).1≤i→i < (plcF T).2→i=1:=fun hk h1 h=>by
  unfold plcF at h h1;rw[ifn,ifn,if_pos hk]at h h1;simp only[]at h h1;omega
 have p1:∀{T:Tree} {i:Nat},¬(T.kind=135∨T.kind=145)→T.kind≠136→¬(T.kind=141∨T.kind=146)→i < (plcF T).2→i=0:=fun h1 h2 h3 h=>by
  unfold plcF at h;rw[if_neg h1,if_neg h2,if_neg h3]at h;simp only[]at h;omega
 induction h with
 | conv _ _ ih=>exact ih
 | var hk=>intro hh;omega
 | int hk=>intro hh;omega
 | tru hk=>intro hh;omega
 | unt hk=>intro hh;omega
 | lam hk=>intro hh;omega
 | tlam hk=>intro hh;omega
 | app hk h h2 =>
  intro _ i h1 h3
  rw[hin i (by omega)]
  rcases p2 (.inl hk) h3 with rfl|rfl
  ·exact⟨_,h⟩
  ·exact⟨_,h2⟩
 | rcd hk nm hl hfl hn h =>
  intro _ i h1 h3
  unfold plcF at h3
  rw[ifn,if_pos hk]at h3
  have h3:i < _:=h3
  unfold inF
  rw[if_pos hk]
  exact⟨_,h i (by omega)⟩
 | proj hk hfl h ha =>
  intro _ i h1 h3
  rw[hin i (by omega),p1 (by omega) (by omega) (by omega) h3];exact⟨_,h⟩
 | tapp hk h =>
  intro _ i h1 h3
  rw[hin i (by omega),p1 (by omega) (by omega) (by omega) h3];exact⟨_,h⟩
 | pack hk nm hc hs hf h =>
  intro _ i h1 h3
  rw[hin i (by omega),p3 (by omega) h1 h3];exact⟨_,h⟩
 | unpack hk h h2 =>
  intro _ i h1 h3
  rw[hin i (by omega),p1 (by omega) (by omega) (by omega) h3];exact⟨_,h⟩
 | bind hk h h2 =>
  intro _ i h1 h3
  rw[hin i (by omega),p1 (by omega) (by omega) (by omega) h3];exact⟨_,h⟩
 | choice hk h =>
  intro _ i h1 h3
  rw[hin i (by omega),p1 (by omega) (by omega) (by omega) h3];exact⟨_,h⟩
 | opr hk h h2 =>
  intro _ i h1 h3
  rw[hin i (by omega)]
  rcases p2 (.inr hk) h3 with rfl|rfl
  ·exact⟨_,h⟩
  ·exact⟨_,h2⟩
 | inj hk hc hs hf he hfl ha h =>
  intro _ i h1 h3
  rw[hin i (by omega),p3 (by omega) h1 h3];exact⟨_,h⟩
 | cse hk hfl h0 =>
  intro _ i h1 h3
  rw[hin i (by omega),p1 (by omega) (by omega) (by omega) h3];exact⟨_,h0⟩
 | fold hk hfl h0 =>
  intro _ i h1 h3
  rw[hin i (by omega),p1 (by omega) (by omega) (by omega) h3];exact⟨_,h0⟩
theorem V0 {d:Nat}{Γ:List Cn}{T:Tree}{A:Cn}(h:Has d Γ T A)(hk:T.kind=148):∃B,Has d Γ (kidT T 0) B:=by
 have:=NO h (by omega) 0 (by unfold plcF;rw[ifn,ifn,ifn];exact Nat.le_refl _) (by unfold plcF;rw[ifn,ifn,ifn];decide)
 unfold inF at this
 rw[ifn]at this
 exact this
theorem Xo {d:Nat}{Γ:List Cn}{T:Tree}{A:Cn}(h:Has d Γ T A):T.kind=146→∃c nm l,conE (kidT T 0)=0∧Fit (toC (kidT T 0))∧Eqv (toC (kidT T 0)) (.op 121 nm l)∧FL 122 l∧fAt T.name l=some c∧Has d Γ (kidT T 1) (inst c (.op 121 nm l)):=by
 induction h with
 | conv _ _ ih=>exact ih
 | inj hk hc hs hf he hfl ha h=>exact fun _=>⟨_,_,_,hc,hf,he,hfl,ha,h⟩
 | var hk=>intro hh;omega
 | int hk=>intro hh;omega
 | tru hk=>intro hh;omega
 | unt hk=>intro hh;omega
 | lam hk=>intro hh;omega
 | tlam hk=>intro hh;omega
 | app hk=>intro hh;omega
 | rcd hk=>intro hh;omega
 | proj hk=>intro hh;omega
 | tapp hk=>intro hh;omega
 | pack hk=>intro hh;omega
 | unpack hk=>intro hh;omega
 | bind hk=>intro hh;omega
 | choice hk=>intro hh;omega
 | opr hk=>intro hh;omega
 | cse hk=>intro hh;omega
 | fold hk=>intro hh;omega
theorem R7 {T:Tree}{A:Cn}(h:Has 0 [] T A)(k:Nat):Snd (bsD k T .nil) A:=by
 have:=(I9 k).1 T .nil 0 [] A h .nil
 have e:sub (envS (AL .nil)) A=A:=E9 A
 rw[e]at this;exact this
theorem Zy {T:Tree}{A:Cn}(h:Has 0 [] T A)(hk:T.kind=148):FoldM T:=by
 intro hk0 k x N c hx hN hp
 obtain⟨B,hB⟩:=V0 h hk
 obtain⟨c0,nm,l,h1,h2,h3,h4,h5,h6⟩:=Xo hB hk0
 have hv:=(R7 h6 k).2 (by rw[hx])
 rw[hx]at hv
 obtain⟨n1,n2⟩:=P4 h4 h2 h3 hN
 obtain⟨c',g1,g2,g3,g4⟩:=n2 h5
 rw[GK,hp]at g1
 have:=Option.some.inj g1
 subst this
 exact ((Ry (fo:=fun _ _ _ _ _=>(.unt,3)) (T:=.nil) (e:=.nil) (nm:=nm) h4 (A:=.var 0) (fun s S p _=>.err (by decide) (by decide)) c).1 g2 g3 x (hv.conv (Eqv.inst g4 (.refl _)))).2
theorem RM {n m A:Tree}(hC:Cd n)(ht:ofF n [] []=(A,0))(hv:AW n=false)(hs:stF n=(m,0)):Like n m∧∀k,(bsD k n .nil).2≠20:=by
 have hH:=((Z9 n).1 hC.term [] [] A ht).2
 refine⟨(Tf (Q:=fun T=>∃A,Has 0 [] T A) (fun T i ⟨A,h⟩ _ hD h1 h2=>NO h hD.kind i h1 h2) (fun T ⟨A,h⟩ _ hk=>Zy h hk) n).1 m hC ⟨_,hH⟩ hv hs,fun k=>(R7 hH k).1⟩
mutual
theorem OP:∀{v v':Vl},VR v v'→∀w,wrV v w=wrV v' w
 | .num n,v',h,w=>by cases h;rfl
 | .tru b,v',h,w=>by cases h;rfl
 | .unt,v',h,w=>by cases h;rfl
 | .rcd ls ps,v',h,w=>by
  cases h with
  | rcd h=>rw[wrV,wrV];simp only[Px h]
 | .tag nm s p,v',h,w=>by
  cases h with
  | tag h=>rw[wrV,wrV];simp only[OP h]
 | .clo _ _ _,v',h,w=>by
  cases h with
  | clo=>rw[wrV,wrV]
 | .pkd _ _,v',h,w=>by
  cases h with
  | pkd=>rw[wrV,wrV]
theorem Px:∀{ps ps':List Vl},L2 VR ps ps'→∀b ls w,wrL b ls ps w=wrL b ls ps' w
 | [],ps',h,b,ls,w=>by cases h;rfl
 | p::ps,ps',h,b,ls,w=>by
  cases h with
  | cons h t=>rw[wrL,wrL];simp only[OP h,Px t]
end
theorem Fv:∀{l:List ByteArray} {s:ByteArray} {e:Int},e≠20→(putF l s e).2≠20
 | [],s,e,h=>h
 | x::l,s,e,h=>by
  rw[putF]
  refine Fv ?_
  by_cases q:16384 < (if e=0 then s++x else s).size
  ·rw[if_pos q];decide
  ·rw[if_neg q];exact h
theorem SZ {w:Wr}(h:w.2≠20):(D1 w).2≠20:=by
 unfold D1
 dsimp only
 split
 ·decide
 ·exact h
mutual
theorem Vq:∀(v:Vl) {w:Wr},w.2≠20→(wrV v w).2≠20
 | .num n,w,h=>by rw[wrV];exact Fv h
 | .tru b,w,h=>by rw[wrV];exact Fv h
 | .unt,w,h=>by rw[wrV];exact Fv h
 | .rcd ls ps,w,h=>by
  rw[wrV]
  have:=Wu ps true ls (w:=putF [sL] w.1 w.2) (Fv h)
  try dsimp only
  split
  ·exact this
  ·exact Fv this
 | .tag nm s p,w,h=>by
  rw[wrV]
  split
  ·exact h
  ·exact Fv (Vq p (w:=putF [nm,sP] w.1 w.2) (Fv h))
 | .clo _ _ _,w,h=>by rw[wrV];exact SZ h
 | .pkd _ _,w,h=>by rw[wrV];exact SZ h
theorem Wu:∀(ps:List Vl) (b:Bool) (ls:List ByteArray) {w:Wr},w.2≠20→(wrL b ls ps w).1.2≠20
 | [],b,ls,w,h=>by rw[wrL];exact h
 | p::ps,b,ls,w,h=>by
  rw[wrL]
  split
  ·exact h
  ·refine Wu ps false _ (Vq p (Fv ?_))
   split
   ·exact h
   ·exact Fv h
end
theorem Ql (T:Tree):conE T≠99:=by
 unfold conE C5
 have:=Pv T 65536
 split
 ·split<;>decide
 ·omega
theorem PX (T b:Tree)(i:Int):(Ax T i b).2≠99:=by
 rw[D5]
 unfold Et
 have h1:=Ql T
 have h2:=Ql b
 by_cases q1:conE T=0
 ·rw[if_pos q1]
  by_cases q2:conE b=0
  ·rw[if_pos q2]
   split
   ·decide
   ·split
    ·decide
    ·split
     ·exact show (0:Int)≠99 by decide
     ·exact show (3:Int)≠99 by decide
  ·rw[if_neg q2];exact h2
 ·rw[if_neg q1];exact h1
theorem YX (T:Tree):∀p,No.Cc T=some p→p.2≠99:=by
 induction T using Tree.ind' with
 | h0=>intro p h;rw[No.Cc]at h;cases h
 | h1 T hT ih =>
  intro p h
  rw[No.F8 hT]at h
  by_cases q:No.Ed T
  ·rw[if_pos q]at h
   rw[←Option.some.inj h]
   exact PX _ _ _
  ·rw[if_neg q]at h
   have hl:∀(l:List Tree),(∀x∈l,x∈T.kids)→∀p,No.Bj l=some p→p.2≠99:=by
    intro l
    induction l with
    | nil=>intro _ p h;rw[No.Bj]at h;cases h
    | cons x l ihl =>
     intro hx p h
     rw[No.Bj]at h
     cases hs:No.Cc x with
     | some z=>rw[hs]at h;rw[←Option.some.inj h];exact ih x (hx x (by simp)) z hs
     | none =>
      rw[hs]at h
      cases hs2:No.Bj l with
      | none=>rw[hs2]at h;cases h
      | some z=>rw[hs2]at h;rw[←Option.some.inj h];exact ihl (fun y hy=>hx y (by simp[hy])) z hs2
   cases hs:No.Bj T.kids with
   | none=>rw[hs]at h;cases h
   | some z=>rw[hs]at h;rw[←Option.some.inj h];exact hl _ (fun x hx=>hx) z hs
theorem Ps (T:Tree):(No.BI T).2.2≠99:=by
 unfold No.BI
 by_cases q:conE T≠0
 ·rw[if_pos q];exact Ql T
 ·rw[if_neg q]
  unfold No.outF
  cases h:No.Cc T with
  | none=>exact show (0:Int)≠99 by decide
  | some p =>
   have:=YX T p h
   dsimp only
   split
   ·exact show (0:Int)≠99 by decide
   ·exact this
theorem Rr:∀(k:Nat) (T:Tree),(No.Di k T).2≠99
 | 0,T=>by
  rw[No.Di]
  split
  ·exact Ps T
  ·split
   ·exact show (18:Int)≠99 by decide
   ·exact show (0:Int)≠99 by decide
 | k+1,T=>by
  rw[No.Di]
  split
  ·exact Ps T
  ·split
   ·exact Rr k _
   ·exact show (0:Int)≠99 by decide
theorem Ma:∀(l:List Tree) (B:Tree),(AN l B).2≠99
 | [],B=>by rw[AN];exact show (0:Int)≠99 by decide
 | c::l,B=>by
  rw[AN]
  split
  ·exact Ma l _
  ·exact PX _ _ _
section
variable {ev : Tree → Ev → Nat → Rs} {fo : Tree → ByteArray → Tree → Vl → Ev → Nat → Rs}
def E99 (ev:Tree→Ev→Nat→Rs):Prop:=∀T ρ f,(ev T ρ f).e≠99
def F99 (fo:Tree→ByteArray→Tree→Vl→Ev→Nat→Rs):Prop:=∀T nm s p ρ f,(fo T nm s p ρ f).e≠99
theorem z99 {v:Vl}{f:Nat}:(⟨v,0,f⟩:Rs).e≠99:=show (0:Int)≠99 by decide
theorem s99 {f:Nat}:(bad 20 f).e≠99:=show (20:Int)≠99 by decide
theorem Sr (h:E99 ev)(ρ:Ev):∀(l:List Tree) (f:Nat) (ls:List ByteArray) (ps:List Vl),(recM ev ρ l f ls ps).e≠99
 | [],f,ls,ps=>by rw[recM];exact z99
 | x::l,f,ls,ps=>by
  rw[recM]
  split
  ·exact Sr h ρ l _ _ _
  ·exact h _ _ _
theorem V8 (h:E99 ev)(T:Tree)(ρ:Ev)(f:Nat):(Ea ev T ρ f).e≠99:=by
 unfold Ea
 dsimp only
 split
 ·split
  ·exact z99
  ·exact Ma _ _
 ·exact h _ _ _
theorem Xc (h:E99 ev)(h2:F99 fo)(T:Tree)(x:Vl)(ρ:Ev)(f:Nat):(useM ev fo T x ρ f).e≠99:=by
 unfold useM
 cases x with
 | rcd ls ps =>
  dsimp only
  cases CN T.name ls ps with
  | none=>exact s99
  | some p=>dsimp only;split;exact z99;exact s99
 | tru b=>dsimp only;split;exact h _ _ _;exact s99
 | clo ty b e =>
  dsimp only
  split
  ·split
   ·exact h _ _ _
   ·exact Ma _ _
  ·exact s99
 | pkd c p=>dsimp only;split;exact h _ _ _;exact s99
 | tag nm s p =>
  dsimp only
  split
  ·cases armF nm (T.kids.drop 1) with
   | none=>exact s99
   | some b=>exact h _ _ _
  ·split
   ·exact h2 _ _ _ _ _ _
   ·exact s99
 | _=>exact s99
theorem aT (n:Int)(x y:Vl)(f:Nat):(opM n x y f).e≠99:=by
 unfold opM
 cases x with
 | num a =>
  cases y with
  | num b =>
   show (ite _ _ _:Rs).e≠99
   refine Be (p:=fun r=>r.e≠99) (fun _=>z99) fun _=>?_
   refine Be (p:=fun r=>r.e≠99) (fun _=>z99) fun _=>?_
   exact Be (p:=fun r=>r.e≠99) (fun _=>show (19:Int)≠99 by decide) fun _=>z99
  | _=>exact s99
 | _=>exact s99
theorem Xl (h:F99 fo)(T:Tree)(ρ:Ev)(c:Tree):(∀x f,(unrM fo T ρ c x f).e≠99)∧∀y∈c.kids,∀x f,(unrM fo T ρ y x f).e≠99:=by
 induction c using Tree.ind' with
 | h0=>exact⟨fun x f=>by rw[unrM];exact z99,fun x hx=>by cases hx⟩
 | h1 c hc ih =>
  refine⟨fun x f=>?_,fun y hy=>(ih y hy).1⟩
  cases c with
  | nil=>exact absurd rfl hc
  | node kk n nm mk l =>
   rw[EK]
   split
   ·split
    ·exact show (18:Int)≠99 by decide
    ·cases x with
     | tag nm s p=>exact h _ _ _ _ _ _
     | _=>exact s99
   ·cases x with
    | rcd ls ps =>
     dsimp only
     split
     ·have key:∀(l':List Tree),(∀y∈l',∀z∈y.kids,∀x f,(unrM fo T ρ z x f).e≠99)→∀(a:List ByteArray) (b:List Vl) (f:Nat) (w:Vl) (al:List ByteArray) (o:List Vl),(Cm fo T ρ l' a b f w al o).e≠99:=by
       intro l'
       induction l' with
       | nil=>intro _ a b f w al o;rw[Cm];exact z99
       | cons y l' ih2 =>
        intro hy0 a b f w al o
        rw[Cm,IE]
        split
        ·split
         ·exact ih2 (fun z hz=>hy0 z (by simp[hz])) _ _ _ _ _ _
         ·cases hk:y.kids with
          | nil=>simp only[List.getD_nil];rw[unrM];exact z99
          | cons z zs=>exact hy0 y (by simp) z (by rw[hk];simp) _ _
        ·exact z99
      exact key l (fun y hy z hz=>(ih y hy).2 z hz) _ _ _ _ _ _
     ·exact z99
    | _=>exact z99
end
theorem OC:∀k,E99 (BZ k)∧F99 (B6 k)
 | 0=>⟨fun T ρ f=>by rw[BZ];exact show (18:Int)≠99 by decide,fun T nm s p ρ f=>by rw[B6];exact show (18:Int)≠99 by decide⟩
 | k+1=>by
  obtain⟨ih1,ih2⟩:=OC k
  refine⟨fun T ρ f=>?_,fun T nm s p ρ f=>?_⟩
  ·rw[BZ]
   refine Be (p:=fun r=>r.e≠99) (fun _=>show (18:Int)≠99 by decide) fun _=>?_
   refine Be (p:=fun r=>r.e≠99) (fun _=>?_) fun _=>?_
   ·cases atE ρ T.n with
    | none=>exact s99
    | some v=>exact z99
   refine Be (p:=fun r=>r.e≠99) (fun _=>z99) fun _=>?_
   refine Be (p:=fun r=>r.e≠99) (fun _=>z99) fun _=>?_
   refine Be (p:=fun r=>r.e≠99) (fun _=>z99) fun _=>?_
   refine Be (p:=fun r=>r.e≠99) (fun _=>z99) fun _=>?_
   refine Be (p:=fun r=>r.e≠99) (fun _=>Sr ih1 _ _ _ _ _) fun _=>?_
   refine Be (p:=fun r=>r.e≠99) (fun _=>V8 ih1 _ _ _) fun _=>?_
   dsimp only
   refine Be (p:=fun r=>r.e≠99) (fun _=>ih1 _ _ _) fun _=>?_
   refine Be (p:=fun r=>r.e≠99) (fun _=>?_) fun _=>?_
   ·refine Be (p:=fun r=>r.e≠99) (fun _=>ih1 _ _ _) fun _=>?_
    refine Be (p:=fun r=>r.e≠99) (fun _=>aT _ _ _ _) fun _=>?_
    cases (BZ k (T.kids.getD 0 .nil) ρ (f - 1)).v with
    | clo ty b e =>
     cases ty with
     | false=>exact ih1 _ _ _
     | true=>exact s99
    | _=>exact s99
   ·refine Be (p:=fun r=>r.e≠99) (fun _=>ih1 _ _ _) fun _=>?_
    exact Xc ih1 ih2 _ _ _ _
  ·rw[B6]
   refine Be (p:=fun r=>r.e≠99) (fun _=>Rr _ _) fun _=>?_
   cases armF nm (T.kids.drop 2) with
   | none=>exact s99
   | some b =>
    dsimp only
    refine Be (p:=fun r=>r.e≠99) (fun _=>s99) fun _=>?_
    cases armF nm (No.Ac s).1.kids with
    | none=>exact s99
    | some c =>
     dsimp only
     refine Be (p:=fun r=>r.e≠99) (fun _=>(Xl ih2 T ρ c).1 _ _) fun _=>?_
     exact ih1 _ _ _
theorem VX {n m:Tree}(hn:fit n)(hm:fit m)(hL:Like n m)(h20:∀k,(bsD k n .nil).2≠20)(F:Nat)(a1:(runF n F).2.1≠18)(a2:(runF n F).2.1≠3)(b1:(runF m F).2.1≠18)(b2:(runF m F).2.1≠3):(runF n F).1=(runF m F).1∧(runF n F).2.1=(runF m F).2.1∧(runF n F).2.1≠20:=by
 have en:=Sw hn F
 have em:=Sw hm F
 rw[en]at a1 a2 ⊢
 rw[em]at b1 b2 ⊢
 have n18:(Bm n F).e≠18:=fun q=>a1 ((Yq _).2 q)
 have m18:(Bm m F).e≠18:=fun q=>b1 ((Yq _).2 q)
 have n3:(Bm n F).e≠3:=fun q=>a2 (by show (finF (Bm n F)).2=3;unfold finF;rw[ifp];exact q)
 have m3:(Bm m F).e≠3:=fun q=>b2 (by show (finF (Bm m F)).2=3;unfold finF;rw[ifp];exact q)
 obtain⟨tn,un⟩:=(N0 (2*F+1)).1 n .nil F n18
 obtain⟨tm,um⟩:=(N0 (2*F+1)).1 m .nil F m18
 have tn:bsD (2*F+1) n .nil=(Bm n F).two:=tn
 have tm:bsD (2*F+1) m .nil=(Bm m F).two:=tm
 have n99:(bsD (2*F+1) n .nil).2≠99:=by rw[tn];exact (OC (2*F+1)).1 n .nil F
 have m99:(bsD (2*F+1) m .nil).2≠99:=by rw[tm];exact (OC (2*F+1)).1 m .nil F
 have n20:(Bm n F).e≠20:=by have:=h20 (2*F+1);rw[tn]at this;exact this
 have key:(Bm m F).e=(Bm n F).e∧((Bm n F).e=0→VR (Bm n F).v (Bm m F).v):=by
  rcases hL _ n99 with h|⟨k',h1,h2⟩
  ·rw[tn]at h
   rcases h with h|h
   ·exact absurd h n3
   ·exact absurd h n18
  ·have h1:(bsD k' m .nil).2≠99:=h1
   have h2:exc (bsD k' m .nil)∨((bsD k' m .nil).2=(bsD (2*F+1) n .nil).2∧((bsD (2*F+1) n .nil).2=0→VR (bsD (2*F+1) n .nil).1 (bsD k' m .nil).1)):=h2
   rw[RW h1 m99,tm,tn]at h2
   rcases h2 with (h|h)|h
   ·exact absurd h m3
   ·exact absurd h m18
   ·exact h
 obtain⟨k1,k2⟩:=key
 show (finF (Bm n F)).1=(finF (Bm m F)).1∧(finF (Bm n F)).2=(finF (Bm m F)).2∧(finF (Bm n F)).2≠20
 unfold finF
 by_cases q:(Bm n F).e=0
 ·rw[if_neg (show ¬(Bm n F).e≠0 from fun h=>h q),if_neg (show ¬(Bm m F).e≠0 from fun h=>h (by rw[k1];exact q)),OP (k2 q)]
  refine⟨rfl,rfl,?_⟩
  have:=Vq (Bm m F).v (w:=(ByteArray.empty,0)) (show (0:Int)≠20 by decide)
  split
  ·exact this
  ·exact show (0:Int)≠20 by decide
 ·rw[if_pos q,if_pos (by rw[k1];exact q)]
  exact⟨rfl,k1.symm,n20⟩
end Mc
end Go.Proofs.YtlgajkoplklkiaaGreat
namespace Go.Proofs.YtlgajkoplklkiaaGreat
namespace Cn
open Go Go.Mq Ki Tm
def mark (j:Nat):Nat→Cn:=fun n=>if n=j then .op 999 ByteArray.empty [] else .var n
theorem Xb (j:Nat):∀n,up (mark j) n=mark (j+1) n
 | 0=>by unfold mark;rw[ifn];rfl
 | n+1=>by
  show ren Nat.succ (mark j n)=_
  unfold mark
  by_cases h:n=j
  ·rw[if_pos h,ifp,B9];rfl
  ·rw[if_neg h,ifn,Cy]
theorem VY (j k:Nat)(hk:k=0∨k=1)(n:Nat):upN k (mark j) n=mark (j+k) n:=by
 rcases hk with rfl|rfl
 ·rfl
 ·exact Xb j n
theorem Mp {i:Int}:∀{l:List Tree} {d:Int},0 < Ah i l d→∃x∈l,0 < AT i x d
 | [],d,h=>by rw[Ah]at h;omega
 | y::l,d,h=>by
  rw[Ah]at h
  by_cases q:0 < AT i y d
  ·exact⟨y,by simp,q⟩
  ·obtain⟨x,hx,h2⟩:=Mp (show 0 < Ah i l d by omega)
   exact⟨x,by simp[hx],h2⟩
theorem VL (j:Nat)(T:Tree):∀d:Nat,Plain T→(d:Int)+AD T≤549755813888→0 < AT j T d→sub (mark (j+d)) (toC T)≠toC T:=by
 induction T using Tree.ind' with
 | h0=>intro d hp;cases hp
 | h1 T hT ih =>
  intro d hp hd h e
  have hlim:lim=1099511627776:=rfl
  have hs:=AI hT
  have hbb:=GL T
  have hb1:=IV T.kind
  cases T with
  | nil=>exact absurd rfl hT
  | node k n nm mk l =>
   rw[AT]at h
   by_cases hk:k=110
   ·obtain⟨_,q2,_⟩:=hp.inv
    obtain⟨_,rfl,q3,q4⟩:=q2 hk
    rw[toC,if_pos hk,CK]at e
    by_cases c:k=110∧(d:Int)≤n∧IntKind.i64.wrap (n - d)=j
    ·obtain⟨_,c1,c2⟩:=c
     rw[wrap64 (by omega) (by omega)]at c2
     unfold mark at e
     rw[ifp]at e
     cases e
    ·rw[if_neg c,Ah]at h;omega
   ·rw[toC,if_neg hk,F3,BE]at e
    injection e with _ _ e
    have h2:0 < Ah j l (IntKind.i64.wrap ((d:Int)+AS (.node k n nm mk l))):=by
     rw[if_neg (fun q=>hk q.1)]at h;omega
    rw[wrap64 (by omega) (by omega),hbb]at h2
    obtain⟨x,hx,h3⟩:=Mp h2
    have s1:=AH hx
    have:=ih x hx (d+bd k) (Ex.B4 hp x hx) (by simp only[Tree.kids,Tree.kind]at *;omega) h3
    apply this
    rw[List.map_map]at e
    have e2:=List.map_inj_left.1 e x hx
    have e3:sub (upN (bd k) (mark (j+d))) (toC x)=toC x:=e2
    rw[←Nat.add_assoc]
    exact (Bl (toC x) fun n=>(VY (j+d) (bd k) hb1 n).symm).trans e3
theorem YU {T:Tree}(hT:conE T=0){d:Nat}(h:Sc d (toC T)):Bv T≤d:=by
 have hz:=Al hT
 have hlim:lim=1099511627776:=rfl
 rw[Hf,IX,if_pos hT]
 obtain⟨_,f2,f3⟩:=F0 T 0 (Aa hT) (by omega) (by omega)
 apply Decidable.byContradiction
 intro hn
 have h3:=f3 (by omega)
 have hj:BY T 0 - 1=(((BY T 0 - 1).toNat:Nat):Int):=by omega
 rw[hj]at h3
 refine VL _ T 0 (Aa hT) (by omega) h3 ?_
 rw[h (mark ((BY T 0 - 1).toNat+0)) Cn.var (fun n hn=>by unfold mark;rw[ifn]),E9]
end Cn
end Go.Proofs.YtlgajkoplklkiaaGreat
namespace Go.Proofs.YtlgajkoplklkiaaGreat
namespace Mc
open Go Go.Mq Cn Tm Sb St
def Z (r:Int×Int):Prop:=r.1≤0∧r.2≤0
theorem P1 (k:Int):∀(l:List Tree) (i:Nat) (c t:Int),(∀p,p < l.length→Z (Ai (l.getD p .nil) (c+(bndF k (i+p)).1) (t+(bndF k (i+p)).2)))→Z (Br k i l c t)
 | [],i,c,t,_=>by rw[Br];exact⟨Int.le_refl _,Int.le_refl _⟩
 | x::l,i,c,t,h=>by
  have h0:=h 0 (by simp)
  have h1:=P1 k l (i+1) c t fun p hp=>by
   have:=h (p+1) (by simpa using hp)
   rw[show i+1+p=i+(p+1) by omega]
   simpa using this
  rw[Br]
  have h0:Z (Ai x (c+(bndF k i).1) (t+(bndF k i).2)):=h0
  unfold Z at *
  simp only[Eh]
  omega
theorem z_of {T:Tree}(hT:T≠.nil)(hk:131≤T.kind){c t:Int}(h:∀i,i < T.kids.length→Z (Ai (T.kids.getD i .nil) (c+(bndF T.kind i).1) (t+(bndF T.kind i).2))):Z (Ai T c t):=by
 rw[Bc hT,ifn,ifn]
 exact P1 _ _ 0 c t fun p hp=>by rw[Nat.zero_add];exact h p hp
theorem IH {T:Tree}(hT:T≠.nil)(hk:131≤T.kind){c t:Int}(h:Z (Ai T c t)){i:Nat}(hi:i < T.kids.length):Z (Ai (T.kids.getD i .nil) (c+(bndF T.kind i).1) (t+(bndF T.kind i).2)):=⟨kid1 hT hk h.1 hi,kid2 hT hk h.2 hi⟩
theorem cD {T:Tree}(hT:T≠.nil)(h1:T.kind≠130)(h2:T.kind < 130){c t t':Int}(h:Z (Ai T c t)):Z (Ai T c t'):=by
 rw[Bc hT,if_neg h1,if_pos h2]at h ⊢;exact h
theorem z_le {T:Tree}:∀(hs:Shw T) (c c' t t':Int),c≤c'→t≤t'→Z (Ai T c t)→Z (Ai T c' t'):=by
 induction T using Tree.ind' with
 | h0=>intro hs;exact absurd rfl hs.ne
 | h1 T hT ih =>
  intro hs c c' t t' hc ht h
  by_cases q:T.kind=130
  ·rw[Bc hT,if_pos q]at h ⊢
   have h2:T.n - t+1≤0:=h.2
   exact⟨Int.le_refl _,show T.n - t'+1≤0 by omega⟩
  by_cases q2:T.kind < 130
  ·rw[Bc hT,if_neg q,if_pos q2]at h ⊢
   have h1:Bv T - c≤0:=h.1
   exact⟨show Bv T - c'≤0 by omega,Int.le_refl _⟩
  exact z_of hT (by omega) fun i hi=>ih _ (AA hi) (G6 hs (by omega) hi) _ _ _ _ (by omega) (by omega) (IH hT (by omega) h hi)
theorem z_in {w:Tree}(hw:Cd w)(T:Tree):∀(t:Int),0≤t→∀c,0≤c→Shw T→Z (Ai T c (t+1))→Z (Ai (inT 0 w T t) c t):=by
 induction T using Tree.ind' with
 | h0=>intro t _ c _ hs;exact absurd rfl hs.ne
 | h1 T hT ih =>
  intro t ht c hc hs h
  by_cases q:T.kind=130
  ·rw[Bc hT,if_pos q]at h
   have h2:T.n - (t+1)+1≤0:=h.2
   rw[Fu hT,if_pos q]
   by_cases q2:T.n < t∨T.n - t < 0
   ·rw[if_pos q2,Bc hT,if_pos q]
    exact⟨Int.le_refl _,show T.n - t+1≤0 by omega⟩
   ·rw[if_neg q2,ifn]
    exact z_le hw.shw 0 c 0 t hc ht ⟨hw.free1,hw.free2⟩
  by_cases q2:T.kind < 130
  ·rw[Fu hT,if_neg q,if_pos q2]
   exact cD hT q q2 h
  rw[LY hs (by omega) 0 w t (fun e=>absurd e q)]
  refine z_of (by intro e;cases e) (by show 131≤T.kind;omega) fun i hi=>?_
  have hi:i < T.kids.length:=by have hi:i < (insT 0 w T.kind 0 T.kids t).length:=hi;rw[F4]at hi;exact hi
  show Z (Ai ((insT 0 w T.kind 0 T.kids t).getD i .nil) (c+(bndF T.kind i).1) (t+(bndF T.kind i).2))
  rw[HD 0 w T.kind T.kids 0 t i hi,Nat.zero_add]
  have hb:=EA T.kind i
  refine ih _ (AA hi) _ (by omega) _ (by omega) (G6 hs (by omega) hi) ?_
  have:=IH hT (by omega) h hi
  rw[show t+(bndF T.kind i).2+1=t+1+(bndF T.kind i).2 by omega]
  exact this
theorem z_rc {b:Tree}(hb:conE b=0)(hbf:Bv b=0)(T:Tree):∀(d:Nat) (t:Int),Shw T→d+AD T≤65536→AD (rC 0 b T d)≤65536→Z (Ai T ((d+1:Nat):Int) t)→Z (Ai (rC 0 b T d) d t):=by
 have hcl:Cl (toC b):=(Gp hb (d:=0) (by omega)).cl
 induction T using Tree.ind' with
 | h0=>intro d t hs;exact absurd rfl hs.ne
 | h1 T hT ih =>
  intro d t hs hz hz2 h
  by_cases q:T.kind=130
  ·rw[Kb hT,if_pos (.inl q)]
   rw[Bc hT,if_pos q]at h ⊢;exact h
  by_cases q2:T.kind < 130
  ·by_cases q3:T.kind < 110
   ·rw[Kb hT,if_pos (.inr q3)]
    have hk:AU T=true:=by
     rcases hs with (w|w)|w|w|w
     ·exfalso
      rw[Am hT,Bool.and_eq_true]at w
      have w2:=w.2
      rw[ifn,ifn,ifn,ifn,ifn,ifn]at w2
      cases w2
     ·exact w
     ·have:=(BR w).1.kind;omega
     ·obtain⟨_,p2,_⟩:=AK w;omega
     ·obtain⟨_,p2,_⟩:=AK w;omega
    have hc:conE T≠0:=fun e=>by
     have w:=(Ak e).2
     rw[Am hT,Bool.and_eq_true]at w
     have w2:=w.2
     rw[ifn,ifn,ifn,ifn,ifn,ifn]at w2
     cases w2
    have hf:Bv T=0:=by unfold Bv;rw[if_neg hc]
    rw[Bc hT,if_neg q,if_pos q2,hf]
    exact⟨show (0:Int) - d≤0 by omega,Int.le_refl _⟩
   ·have hcon:AG T=true:=by
     have:=XG hs (by omega) q2;exact this
    have hE:=Db hcon (by omega)
    have hc:=(RU (V:=fun _ _=>True) hb hbf hcl).con 0 d T (rC 0 b T d) ⟨rfl,hs,hz,hz2,t,h.1⟩ hcon
    obtain⟨_,g2,g3,g4⟩:=hc
    have hsc:Sc d (toC (rC 0 b T d)):=by
     have e1:sub (upN d (envS (AL .nil))) (toC (rC 0 b T d))=toC (rC 0 b T d):=by
      have:∀n,upN d (envS []) n=Cn.var n:=fun n=>OK d n
      show sub (upN d (envS [])) _=_
      rw[Bl _ this,E9]
     rw[e1]at g4
     rw[←g4]
     intro s s' hss
     rw[sub_sub,sub_sub]
     refine g3 _ _ fun n hn=>?_
     have hn:n < d+1:=hn
     by_cases c:n < d
     ·rw[Kx d _ n c,CK,CK];exact hss n c
     ·have:n=d:=by omega
      subst this
      have hd:∀(d:Nat) (s:Nat→Cn),s 0=toC b→upN d s d=toC b:=by
       intro d
       induction d with
       | zero=>intro s hs;exact hs
       | succ d ih =>
        intro s hs
        have hc:∀(d n:Nat) (s:Nat→Cn),upN d (up s) n=up (upN d s) n:=by
         intro d
         induction d with
         | zero=>intro n s;rfl
         | succ d ihd=>intro n s;show upN d (up (up s)) n=up (upN d (up s)) n;rw[ihd]
        show upN d (up s) (d+1)=_
        rw[hc]
        show ren Nat.succ (upN d s d)=_
        rw[ih s hs,FG,hcl]
      rw[hd n (envS (AL (.con b .nil))) (by show envS [b] 0=_;rw[F7,hcl]),hcl,hcl]
    have hf:=YU g2 hsc
    have hn:rC 0 b T d≠.nil:=(Ak g2).1.ne
    obtain⟨k1,k2,k3⟩:=Ld (Ak g2).2
    rw[Bc hn,if_neg k2,if_pos k3]
    exact⟨show Bv (rC 0 b T d) - d≤0 by omega,Int.le_refl _⟩
  rw[OV hs (by omega) 0 b d]at hz2 ⊢
  refine z_of (by intro e;cases e) (by show 131≤T.kind;omega) fun i hi=>?_
  have hi:i < T.kids.length:=by have hi:i < (rsC 0 b T.kind 0 T.kids d).length:=hi;rw[Gv]at hi;exact hi
  have hm:(rsC 0 b T.kind 0 T.kids d).getD i .nil∈rsC 0 b T.kind 0 T.kids d:=AA (by rw[Gv];exact hi)
  have z1:=AH hm
  rw[AD]at hz2
  show Z (Ai ((rsC 0 b T.kind 0 T.kids d).getD i .nil) (d+(bndF T.kind i).1) (t+(bndF T.kind i).2))
  rw[K2 0 b T.kind T.kids 0 d i hi,Nat.zero_add,bnd1]at z1 ⊢
  have hsz:=Cz hs hi
  have hb:=EA T.kind i
  refine ih _ (AA hi) _ _ (G6 hs (by omega) hi) (by omega) (by omega) ?_
  have:=IH hT (by omega) h hi
  rw[bnd1,show d+1+(bndF T.kind i).1.toNat=d+(bndF T.kind i).1.toNat+1 by omega]at this
  exact this
theorem Cd.z {T:Tree}(h:Cd T):Z (Ai T 0 0):=⟨h.free1,h.free2⟩
theorem SJ {nm:ByteArray}{k:Tree}(h:Z (Ai k 0 0)):Z (Ai (EJ nm k) 0 0):=by
 refine z_of (by intro e;cases e) (by show (131:Int)≤137;decide) fun i hi=>?_
 have hi:i < 1:=hi
 have:i=0:=by omega
 subst this
 exact h
theorem U4 {T:Tree}(hC:Cd T){i:Nat}{k:Tree}(hi:i < T.kids.length)(hb:bndF T.kind i=(0,0))(h:Z (Ai k 0 0)):Z (Ai (EY T i k) 0 0):=by
 refine z_of (show EY T i k≠.nil from fun e=>Tree.noConfusion (show Tree.node T.kind T.n T.name T.mark _=.nil from e)) hC.hi fun j hj=>?_
 have hj:j < T.kids.length:=by have hj:j < (T.kids.set i _).length:=hj;simpa using hj
 show Z (Ai ((T.kids.set i _).getD j .nil) (0+(bndF T.kind j).1) (0+(bndF T.kind j).2))
 rw[G4 hi]
 by_cases q:i=j
 ·subst q
  rw[if_pos rfl,hb]
  by_cases c:T.kind=136
  ·rw[if_pos c];exact SJ h
  ·rw[if_neg c];exact h
 ·rw[if_neg q];exact IH (AQ hC.term) hC.hi hC.z hj
theorem Nd {T:Tree}:∀(l vs:List Tree),vs.length=l.length→(Bq T l vs).length=l.length∧∀i,i < l.length→(Bq T l vs).getD i .nil=EJ (vs.getD i .nil).name (BS T (inn (l.getD i .nil)) (inn (vs.getD i .nil)))
 | [],vs,h=>by
  have:vs=[]:=List.length_eq_zero_iff.1 h
  subst this
  rw[Bq];exact⟨rfl,fun i hi=>by simp at hi⟩
 | x::l,[],h=>by simp at h
 | x::l,v::vs,h=>by
  obtain⟨h1,h2⟩:=Nd (T:=T) l vs (by simpa using h)
  have e:Bq T (x::l) (v::vs)=EJ v.name (BS T (inn x) (inn v))::Bq T l vs:=by rw[Bq,MK];rfl
  rw[e]
  refine⟨by simp[h1],fun i hi=>?_⟩
  cases i with
  | zero=>rfl
  | succ i=>have:=h2 i (by simpa using hi);simpa using this
theorem ZU {T:Tree}(hT:Cd T)(hk:T.kind=148)(hl:0 < T.kids.length)(c:Tree):(∀w,Cd w→Z (Ai (BS T c w) 0 0))∧∀y∈c.kids,∀w,Cd w→Z (Ai (BS T y w) 0 0):=by
 induction c using Tree.ind' with
 | h0=>exact⟨fun w hw=>by rw[BS];exact hw.z,fun x hx=>by cases hx⟩
 | h1 c hc ih =>
  refine⟨fun w hw=>?_,fun y hy=>(ih y hy).1⟩
  rw[MD hc]
  by_cases c1:c.kind=110∧c.n=0
  ·rw[if_pos c1]
   exact U4 hT hl (by rw[hk];rfl) hw.z
  rw[if_neg c1]
  by_cases c2:c.kind=115∧w.kind=136∧c.kids.map Tree.name=w.kids.map Tree.name
  ·rw[if_pos c2]
   obtain⟨_,hw6,hn⟩:=c2
   have hlen:w.kids.length=c.kids.length:=by have:=congrArg List.length hn;simpa using this.symm
   obtain⟨r1,r2⟩:=Nd (T:=T) c.kids w.kids hlen
   refine z_of (by intro e;cases e) (by show (131:Int)≤136;decide) fun i hi=>?_
   have hi:i < c.kids.length:=by have hi:i < (Bq T c.kids w.kids).length:=hi;rw[r1]at hi;exact hi
   have hb:bndF 136 i=(0,0):=by unfold bndF;rw[if_neg (by decide)];split<;>rfl
   show Z (Ai ((Bq T c.kids w.kids).getD i .nil) (0+(bndF 136 i).1) (0+(bndF 136 i).2))
   rw[hb,r2 i hi]
   refine SJ ?_
   have hwi:=hw.field hw6 (i:=i) (by omega)
   unfold inn at hwi ⊢
   cases hky:(c.kids.getD i .nil).kids with
   | nil=>simp only[List.getD_nil];rw[BS];exact hwi.z
   | cons z zs=>exact (ih _ (AA hi)).2 z (by rw[hky];simp) _ hwi
  ·rw[if_neg c2];exact hw.z
theorem Yy {T:Tree}(hT:Cd T){j:Nat}(hj:T.kind=147∧j=1∨T.kind=148∧j=2){s:ByteArray}{b:Tree}(hb:Af s (T.kids.drop j)=some b):AF b=true∧Z (Ai b 0 1):=by
 obtain⟨i,i1,i2⟩:=Hc hb
 have hi':j+i < T.kids.length:=by simp at i1;omega
 have e:(T.kids.drop j).getD i .nil=T.kids.getD (j+i) .nil:=by simp[List.getD_eq_getElem?_getD]
 have hf:A9 149 (T.kids.getD (j+i) .nil)=true:=by
  rcases hj with⟨q,rfl⟩|⟨q,rfl⟩
  ·exact (Cg hT.term q).2.2 _ (EW (by omega) hi')
  ·exact (CY hT.term q).2.2.2 _ (EW (by omega) hi')
 obtain⟨q1,q2,q3,q4,q5⟩:=AK hf
 have hb:bndF T.kind (j+i)=(0,0):=by
  unfold bndF
  rcases hj with⟨q,rfl⟩|⟨q,rfl⟩
  ·rw[q,if_neg (by decide)];split<;>rfl
  ·rw[q,if_neg (by decide)];split<;>rfl
 have h1:=IH (AQ hT.term) hT.hi hT.z hi'
 rw[hb]at h1
 have h3:=IH q1 (by omega) h1 (i:=0) (by omega)
 have hb2:bndF (T.kids.getD (j+i) .nil).kind 0=(0,1):=by rw[q2];rfl
 rw[hb2]at h3
 rw[i2,e]
 exact⟨q5,h3⟩
theorem RY {T b m:Tree}(hT:AF T=true)(hw:Cd b)(hz:Z (Ai T 0 1))(h:CO T 0 b=(m,0)):Z (Ai m 0 0):=by
 obtain⟨a1,a2,a3,a4,a5,a6⟩:=Ey h
 rw[a5]
 exact z_in hw T 0 (Int.le_refl 0) 0 (Int.le_refl 0) (.inr (.inl hT)) hz
theorem Z2 {T m:Tree}(hT:Cd T)(hD:StD T)(hv:∀j,(plcF T).1≤j→j < (plcF T).2→AW (inF T j)=true)(hg:HY T=(m,0)):Z (Ai m 0 0):=by
 have hk:=hD.kind
 have hnil:=AQ hT.term
 have herr:∀{e:Int},e≠0→((Tree.nil,e)=(m,(0:Int)))→Z (Ai m 0 0):=fun he h=>absurd (Prod.mk.inj h).2 he
 unfold HY at hg
 by_cases c1:T.kind=135
 ·rw[if_pos c1]at hg
  obtain⟨tl,t0,t1⟩:=A8 hT.term (.inl c1)
  have c0:Cd (kidT T 0):=hT.kid (by omega) (by rw[c1];rfl) t0
  have cc:Cd (kidT T 1):=hT.kid (by omega) (by rw[c1];rfl) t1
  by_cases q:(kidT T 0).kind=134
  ·rw[if_pos q]at hg
   obtain⟨l1,l2,l3⟩:=Bs c0.term (.inl q)
   have:=IH (AQ c0.term) c0.hi c0.z (i:=1) (by omega)
   rw[q]at this
   exact RY l3 cc this hg
  ·rw[if_neg q]at hg;exact herr (by decide) hg
 rw[if_neg c1]at hg
 by_cases c2:T.kind=140
 ·rw[if_pos c2]at hg
  obtain⟨tl,t0,t1⟩:=Da hT.term c2
  have c0:Cd (kidT T 0):=hT.kid (by omega) (by rw[c2];rfl) t0
  by_cases q:(kidT T 0).kind=139
  ·rw[if_pos q]at hg
   obtain⟨l1,l2,l3⟩:=Er c0.term q
   obtain⟨a1,a2,a3,a4,a5,a6⟩:=Iq hg
   have:=IH (AQ c0.term) c0.hi c0.z (i:=1) (by omega)
   rw[q]at this
   rw[a5]at a6 ⊢
   have hz:=(Bo a1).2.1
   exact z_rc a2 (FJ a2 a4) _ 0 0 (.inr (.inl l3)) (by omega) a6 this
  ·rw[if_neg q]at hg;exact herr (by decide) hg
 rw[if_neg c2]at hg
 by_cases c3:T.kind=138
 ·rw[if_pos c3]at hg
  obtain⟨tl,t0⟩:=GY hT.term c3
  have c0:Cd (kidT T 0):=hT.kid (by omega) (by rw[c3];rfl) t0
  by_cases q:(kidT T 0).kind=136∧(Af T.name (kidT T 0).kids).isSome=true
  ·rw[if_pos q]at hg
   obtain⟨q1,q2⟩:=q
   obtain⟨x,hx⟩:=Option.isSome_iff_exists.1 q2
   rw[hx]at hg
   have:=(Prod.mk.inj hg).1
   have this:x=m:=this
   subst this
   obtain⟨i,i1,i2⟩:=Hc hx
   rw[i2]
   exact (c0.field q1 i1).z
  ·rw[if_neg q]at hg;exact herr (by decide) hg
 rw[if_neg c3]at hg
 by_cases c4:T.kind=144
 ·rw[if_pos c4]at hg
  obtain⟨tl,t0,t1,t2⟩:=C0 hT.term c4
  by_cases q:(kidT T 0).kind=132
  ·rw[if_pos q]at hg
   by_cases q2:(kidT T 0).n=1
   ·rw[if_pos q2]at hg;rw[←(Prod.mk.inj hg).1];exact (hT.kid (i:=1) (by omega) (by rw[c4];rfl) t1).z
   ·rw[if_neg q2]at hg;rw[←(Prod.mk.inj hg).1];exact (hT.kid (i:=2) (by omega) (by rw[c4];rfl) t2).z
  ·rw[if_neg q]at hg;exact herr (by decide) hg
 rw[if_neg c4]at hg
 by_cases c5:T.kind=142
 ·rw[if_pos c5]at hg
  obtain⟨tl,t0,t1⟩:=A8 hT.term (.inr (.inl c5))
  have c0:Cd (kidT T 0):=hT.kid (by omega) (by rw[c5];rfl) t0
  by_cases q:(kidT T 0).kind=141
  ·rw[if_pos q]at hg
   obtain⟨pl,p0,p1,p2⟩:=DW c0.term q
   have cw:Cd (kidT (kidT T 0) 1):=c0.kid (by omega) (by rw[q];rfl) p1
   by_cases q2:(CO (kidT T 1) 0 (kidT (kidT T 0) 1)).2≠0
   ·rw[if_pos q2]at hg;exact herr q2 hg
   ·rw[if_neg q2]at hg
    have q2:(CO (kidT T 1) 0 (kidT (kidT T 0) 1)).2=0:=Decidable.byContradiction q2
    obtain⟨a1,a2,a3,a4,a5,a6⟩:=Ey (Prod.ext rfl q2:CO (kidT T 1) 0 (kidT (kidT T 0) 1)=((CO (kidT T 1) 0 (kidT (kidT T 0) 1)).1,0))
    obtain⟨d1,d2,d3,d4,d5,d6⟩:=Iq hg
    have:=IH hnil hT.hi hT.z (i:=1) (by omega)
    rw[c5]at this
    have hmid:Z (Ai (CO (kidT T 1) 0 (kidT (kidT T 0) 1)).1 1 0):=by
     rw[a5]
     exact z_in cw _ 0 (Int.le_refl 0) 1 (by decide) (.inr (.inl t1)) this
    rw[d5]at d6 ⊢
    obtain⟨e1,e2,_⟩:=Bo d1
    exact z_rc d2 (FJ d2 d4) _ 0 0 (.inr (.inl e1)) (by omega) d6 hmid
  ·rw[if_neg q]at hg;exact herr (by decide) hg
 rw[if_neg c5]at hg
 by_cases c6:T.kind=143
 ·rw[if_pos c6]at hg
  obtain⟨tl,t0,t1⟩:=A8 hT.term (.inr (.inr (.inl c6)))
  have c0:Cd (kidT T 0):=hT.kid (by omega) (by rw[c6];rfl) t0
  have:=IH hnil hT.hi hT.z (i:=1) (by omega)
  rw[c6]at this
  exact RY t1 c0 this hg
 rw[if_neg c6]at hg
 by_cases c7:T.kind=145
 ·rw[if_pos c7]at hg
  have hlit:∀k n:Int,k=131∨k=132→Z (Ai (.node k n ByteArray.empty ByteArray.empty []) 0 0):=fun k n hk=>z_of (by intro e;cases e) (by show 131≤k;omega) fun i hi=>by simp[Tree.kids]at hi
  unfold opF at hg
  split at hg
  ·exact herr (by decide) hg
  ·split at hg
   ·rw[←(Prod.mk.inj hg).1];exact hlit _ _ (.inr rfl)
   ·split at hg
    ·rw[←(Prod.mk.inj hg).1];exact hlit _ _ (.inr rfl)
    ·split at hg
     ·exact herr (by decide) hg
     ·rw[←(Prod.mk.inj hg).1];exact hlit _ _ (.inl rfl)
 rw[if_neg c7]at hg
 by_cases c8:T.kind=147
 ·rw[if_pos c8]at hg
  obtain⟨tl,t0,t1⟩:=Cg hT.term c8
  have c0:Cd (kidT T 0):=hT.kid (by omega) (by rw[c8];rfl) t0
  by_cases q:(kidT T 0).kind=146∧(Af (kidT T 0).name (T.kids.drop 1)).isSome=true
  ·rw[if_pos q]at hg
   obtain⟨q1,q2⟩:=q
   obtain⟨x,hx⟩:=Option.isSome_iff_exists.1 q2
   rw[hx]at hg
   obtain⟨pl,p0,p1⟩:=Bs c0.term (.inr q1)
   have cw:Cd (kidT (kidT T 0) 1):=c0.kid (by omega) (by rw[q1];rfl) p1
   obtain⟨f1,f2⟩:=Yy hT (.inl ⟨c8,rfl⟩) hx
   exact RY f1 cw f2 hg
  ·rw[if_neg q]at hg;exact herr (by decide) hg
 rw[if_neg c8]at hg
 by_cases c9:T.kind=148
 ·rw[if_pos c9]at hg
  obtain⟨tl,t0,t1,t2⟩:=CY hT.term c9
  have c0:Cd (kidT T 0):=hT.kid (by omega) (by rw[c9];rfl) t0
  unfold KE at hg
  by_cases h0:(kidT T 0).kind≠146
  ·rw[if_pos h0]at hg;exact herr (by decide) hg
  rw[if_neg h0]at hg
  have h0:(kidT T 0).kind=146:=Decidable.byContradiction h0
  obtain⟨pl,p0,p1⟩:=Bs c0.term (.inr h0)
  have cw:Cd (kidT (kidT T 0) 1):=c0.kid (by omega) (by rw[h0];rfl) p1
  by_cases n0:(No.Ac (kidT (kidT T 0) 0)).2≠0
  ·rw[if_pos n0]at hg;exact herr n0 hg
  rw[if_neg n0]at hg
  by_cases n1:(No.Ac (kidT (kidT T 0) 0)).1.kind≠121∨Af (kidT T 0).name (T.kids.drop 2)=none∨Af (kidT T 0).name (No.Ac (kidT (kidT T 0) 0)).1.kids=none
  ·rw[if_pos n1]at hg;exact herr (by decide) hg
  rw[if_neg n1]at hg
  cases hb:Af (kidT T 0).name (T.kids.drop 2) with
  | none=>exact absurd (.inr (.inl hb)) n1
  | some b =>
   cases hcc:Af (kidT T 0).name (No.Ac (kidT (kidT T 0) 0)).1.kids with
   | none=>exact absurd (.inr (.inr hcc)) n1
   | some c =>
    rw[hb,hcc]at hg
    have hg:(if Au (.node 143 0 ByteArray.empty ByteArray.empty [BS T c (kidT (kidT T 0) 1),b])≠0 then (.nil,_) else (Tree.node 143 0 ByteArray.empty ByteArray.empty [BS T c (kidT (kidT T 0) 1),b],0))=(m,(0:Int)):=hg
    by_cases te:Au (.node 143 0 ByteArray.empty ByteArray.empty [BS T c (kidT (kidT T 0) 1),b])≠0
    ·rw[if_pos te]at hg;exact herr te hg
    rw[if_neg te]at hg
    rw[←(Prod.mk.inj hg).1]
    obtain⟨f1,f2⟩:=Yy hT (.inr ⟨c9,rfl⟩) hb
    refine z_of (by intro e;cases e) (by show (131:Int)≤143;decide) fun i hi=>?_
    have hi:i < 2:=hi
    rcases (show i=0∨i=1 by omega) with rfl|rfl
    ·exact (ZU hT c9 (by omega) c).1 _ cw
    ·exact f2
 ·rw[if_neg c9]at hg;exact herr (by decide) hg
theorem Zr (T:Tree):(∀m,Cd T→AW T=false→stF T=(m,0)→Z (Ai m 0 0))∧∀x∈T.kids,∀m,Cd x→AW x=false→stF x=(m,0)→Z (Ai m 0 0):=by
 induction T using Tree.ind' with
 | h0=>exact⟨fun m h=>absurd rfl (AQ h.term),fun x hx=>by cases hx⟩
 | h1 T hT ih =>
  refine⟨fun m hC hv hs=>?_,fun x hx=>(ih x hx).1⟩
  have hD:=hC.std hv
  obtain⟨pp1,pp2⟩:=hD.Lk
  rcases least (P:=fun j=>AW (inF T j)=true) (fun j=>by cases AW (inF T j)<;>simp) ((plcF T).2 - (plcF T).1) (plcF T).1 with h|⟨i,i1,i2,i3,i4⟩
  ·have h:∀j,(plcF T).1≤j→j < (plcF T).2→AW (inF T j)=true:=fun j h1 h2=>h j h1 (by omega)
   rw[LJ hT h]at hs
   exact Z2 hC hD h hs
  ·have i2:i < (plcF T).2:=by omega
   have i3:AW (inF T i)=false:=by cases hq:AW (inF T i) with
    | true=>exact absurd hq i3
    | false=>rfl
   have hi:i < T.kids.length:=by omega
   rw[RF hT hi ⟨i1,i2⟩ i3 i4]at hs
   by_cases q:(stF (inF T i)).2≠0
   ·rw[if_pos q]at hs;exact absurd (Prod.mk.inj hs).2 q
   rw[if_neg q]at hs
   have q:(stF (inF T i)).2=0:=Decidable.byContradiction q
   rw[←(Prod.mk.inj hs).1]
   have cI:=hC.inner hD i1 i2
   have hst:stF (inF T i)=((stF (inF T i)).1,0):=Prod.ext rfl q
   have hb:bndF T.kind i=(0,0):=by
    have hbn:=Ee (JA hC.term).2 i
    have hb:=EA T.kind i
    rcases J5 hD i1 i2 with k|⟨k,k2,k3,k4⟩
    ·unfold bndF;rw[k,if_neg (by decide)];split<;>rfl
    ·rw[k3,k4]at hbn
     exact Prod.ext (by omega) (by omega)
   refine U4 hC hi hb ?_
   obtain⟨_,_,_,t4⟩:=hD.inner i1 i2
   by_cases k:T.kind=136
   ·have e:inF T i=(T.kids.getD i .nil).kids.getD 0 .nil:=by unfold inF;rw[if_pos k]
    have hm:inF T i∈(T.kids.getD i .nil).kids:=by rw[e];exact AA (t4 k).2
    exact (ih _ (AA hi)).2 _ hm _ cI i3 hst
   ·have e:inF T i=T.kids.getD i .nil:=by unfold inF;rw[if_neg k]
    have hm:inF T i∈T.kids:=by rw[e];exact AA hi
    exact (ih _ hm).1 _ cI i3 hst
end Mc
end Go.Proofs.YtlgajkoplklkiaaGreat
namespace Go.Proofs.YtlgajkoplklkiaaGreat
namespace Mc
open Go Go.Mq Tm Sb St
theorem _root_.Go.Mq.Pure.bK {P:Program}{f:FuncId}{x r:AVal}(h:Mq.Pure P f [.d (.trees []),.d (.trees []),x] r):Mq.Pure P f [.d .nils,.d .nils,x] r:=by
 refine⟨h.1,fun g E I ρ w vs hr ha=>h.2 g E I ρ w vs hr ?_⟩
 obtain⟨vs⟩:=vs
 match vs,ha with
 | [v0,v1,v2],ha =>
  obtain⟨h0,h1,h2,h3⟩:=ha
  have e0:=h0.nils
  have e1:=h1.nils
  subst e0 e1
  exact⟨.d (.trees (.inl ⟨rfl,rfl⟩)),.d (.trees (.inl ⟨rfl,rfl⟩)),h2,h3⟩
theorem UA (T:Tree):Pure P 6 [.d (.tree T)] (Ty.rA (Ty.KX [] [] T)):=by
 have h:=(Ty.Xh [] [] T (by simp) (by simp)).bK
 refine Pure.AB tt [] [2,3] Tryz.func6 rfl rfl rfl lb fun g=>?_
 unfold Ty.rA at h ⊢
 generalize Ty.KX [] [] T=R at h ⊢
 repeat' ((first|refine Ga ?_|refine Gc fun hlen=>?_|refine Ge h ?_|refine Gd (fun hc=>?_) fun hc=>?_)<;>conv=>whnf)
 exact Gg
theorem RH {n m:Tree}(ht:(Ty.KX [] [] n).2=0)(hs:Ff n=(m,true,0)){F:Nat}(a1:(runF n F).2.1≠18)(a2:(runF n F).2.1≠3)(b1:(runF m F).2.1≠18)(b2:(runF m F).2.1≠3):(runF n F).1=(runF m F).1∧(runF n F).2.1=(runF m F).2.1∧(runF n F).2.1≠20:=by
 unfold Ty.KX at ht
 by_cases e1:Au n=0
 ·rw[ifn,if_neg (by rintro (h|h)<;>cases h)]at ht
  unfold Ff at hs
  rw[ifn]at hs
  cases e2:BC n with
  | false=>rw[e2,if_pos rfl]at hs;cases hs
  | true =>
   rw[e2,if_neg (by simp)]at hs
   cases e3:AW n with
   | true=>rw[e3,if_pos rfl]at hs;cases hs
   | false =>
    rw[e3,if_neg (by simp)]at hs
    by_cases e4:(stF n).2≠0
    ·rw[if_pos e4]at hs;cases hs
    rw[if_neg e4]at hs
    by_cases e5:Au (stF n).1≠0
    ·rw[if_pos e5]at hs;cases hs
    rw[if_neg e5]at hs
    have hm:(stF n).1=m:=(Prod.mk.inj hs).1
    have e4:(stF n).2=0:=Decidable.byContradiction e4
    have e5:Au m=0:=by rw[←hm];exact Decidable.byContradiction e5
    obtain⟨t1,t2,t3⟩:=Bo e1
    obtain⟨f1,f2⟩:=KV e1 e2
    have hC:Cd n:=⟨t1,t2,f1,f2⟩
    have hst:stF n=(m,0):=Prod.ext hm e4
    obtain⟨hL,h20⟩:=RM (A:=(Ty.ofF n [] []).1) hC (Prod.ext rfl ht) e3 hst
    obtain⟨z1,z2⟩:=(Zr n).1 m hC e3 hst
    exact VX ⟨e1,e2⟩ ⟨e5,TZ e5 z1 z2⟩ hL h20 F a1 a2 b1 b2
 ·rw[if_pos e1]at ht;exact absurd ht e1
theorem Kh (l:List Cel):Pure P 4 [.agg [.d (cellsD l)]] (.d (.bool true)):=by
 have hfw:=XF l
 generalize Yx l=T at hfw
 have ht:=UA T
 have hst:=OB T
 have hr:=N4 T 262144 (by omega)
 unfold Ty.rA at ht
 refine Pure.AB tt [] [2] Tryz.func4 rfl rfl rfl lb fun g=>?_
 by_cases h0:(Ty.KX [] [] T).2=0
 ·generalize hR:Ff T=R at hst
  obtain⟨m,more,f⟩:=R
  rw[h0]at ht
  by_cases f0:f=0
  ·subst f0
   cases more with
   | false =>
    repeat' ((first|refine Ga ?_|refine Gc fun hlen=>?_|refine Ge hfw ?_|refine Ge ht ?_|refine Ge hst ?_|refine Ge DG ?_|refine Gd (fun hc=>?_) fun hc=>?_)<;>conv=>whnf)
    all_goals exact Gg
   | true =>
    have hrm:=N4 m 262144 (by omega)
    have hsame:=fun a1 a2 b1 b2=>RH (F:=262144) h0 hR a1 a2 b1 b2
    have c1:((262144:Nat):Int)=262144:=rfl
    rw[c1]at hsame
    generalize runF T 262144=A at hr hsame
    generalize runF m 262144=B at hrm hsame
    obtain⟨sa,ea,ua⟩:=A
    obtain⟨sb,eb,ub⟩:=B
    unfold outA at hr hrm
    dsimp only at hr hrm hsame
    by_cases a1:ea=18
    ·subst a1
     repeat' ((first|refine Ga ?_|refine Gc fun hlen=>?_|refine Ge hfw ?_|refine Ge ht ?_|refine Ge hst ?_|refine Ge DG ?_|refine Ge hr ?_|refine Ge hrm ?_|refine Side.mk eqSI ?_|refine Split.Ag (beq_self_eq_true _) ?_|refine Gd (fun hc=>?_) fun hc=>?_)<;>conv=>whnf)
     all_goals exact Gg
    by_cases b1:eb=18
    ·subst b1
     repeat' ((first|refine Ga ?_|refine Gc fun hlen=>?_|refine Ge hfw ?_|refine Ge ht ?_|refine Ge hst ?_|refine Ge DG ?_|refine Ge hr ?_|refine Ge hrm ?_|refine Side.mk eqSI ?_|refine Split.AE (show (ea == 18)=false from by simpa using a1) ?_|refine Split.Ag (beq_self_eq_true _) ?_|refine Gd (fun hc=>?_) fun hc=>?_)<;>conv=>whnf)
     all_goals exact Gg
    by_cases a2:ea=3
    ·subst a2
     repeat' ((first|refine Ga ?_|refine Gc fun hlen=>?_|refine Ge hfw ?_|refine Ge ht ?_|refine Ge hst ?_|refine Ge DG ?_|refine Ge hr ?_|refine Ge hrm ?_|refine Side.mk eqSI ?_|refine Split.AE (show (eb == 18)=false from by simpa using b1) ?_|refine Split.Ag (beq_self_eq_true _) ?_|refine Gd (fun hc=>?_) fun hc=>?_)<;>conv=>whnf)
     all_goals exact Gg
    by_cases b2:eb=3
    ·subst b2
     repeat' ((first|refine Ga ?_|refine Gc fun hlen=>?_|refine Ge hfw ?_|refine Ge ht ?_|refine Ge hst ?_|refine Ge DG ?_|refine Ge hr ?_|refine Ge hrm ?_|refine Side.mk eqSI ?_|refine Split.AE (show (ea == 18)=false from by simpa using a1) ?_|refine Split.AE (show (ea == 3)=false from by simpa using a2) ?_|refine Split.Ag (beq_self_eq_true _) ?_|refine Gd (fun hc=>?_) fun hc=>?_)<;>conv=>whnf)
     all_goals exact Gg
    obtain⟨r1,r2,r3⟩:=hsame a1 a2 b1 b2
    subst r1 r2
    repeat' ((first|refine Ga ?_|refine Gc fun hlen=>?_|refine Ge hfw ?_|refine Ge ht ?_|refine Ge hst ?_|refine Ge DG ?_|refine Ge hr ?_|refine Ge hrm ?_|refine Side.mk eqSI ?_|refine Split.AE (show (ea == 18)=false from by simpa using a1) ?_|refine Split.AE (show (ea == 3)=false from by simpa using a2) ?_|refine Split.Ag (show (decide (sa=sa) && decide (ea=ea))=true from by simp) ?_|refine Split.Ag (show (ea != 20)=true from by simpa using r3) ?_|refine Gd (fun hc=>?_) fun hc=>?_)<;>conv=>whnf)
    all_goals exact Gg
  ·repeat' ((first|refine Ga ?_|refine Gc fun hlen=>?_|refine Ge hfw ?_|refine Ge ht ?_|refine Ge hst ?_|refine Ge DG ?_|refine Split.Ag (show (f != 0)=true from by simpa using f0) ?_|refine Gd (fun hc=>?_) fun hc=>?_)<;>conv=>whnf)
   all_goals exact Gg
 ·generalize Ty.KX [] [] T=R at ht h0
  obtain⟨A,e⟩:=R
  dsimp only at ht h0
  repeat' ((first|refine Ga ?_|refine Gc fun hlen=>?_|refine Ge hfw ?_|refine Ge ht ?_|refine Ge DG ?_|refine Split.Ag (show (e != 0)=true from by simpa using h0) ?_|refine Gd (fun hc=>?_) fun hc=>?_)<;>conv=>whnf)
  all_goals exact Gg
end Mc
end Go.Proofs.YtlgajkoplklkiaaGreat
