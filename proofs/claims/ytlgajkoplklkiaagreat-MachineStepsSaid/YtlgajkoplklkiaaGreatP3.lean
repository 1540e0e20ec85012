/- What the proof stands on, part 3: what functions of the program compute, and plain facts about it. -/
import Derived.Deep.Slices
import Derived.Deep.Fields
import Derived.ChangeSame
import Derived.SizedLaws
import Derived.ProofKit
import Derived.OpenShut
import Derived.Carry
import Derived.Shelf.Spec.SlicesGrow
import Derived.Test.YtlgajkoplklkiaaGreatP2
import Derived.Test.YtlgajkoplklkiaaGreatP1
import Derived.Test.YtlgajkoplklkiaaGreatP0
set_option linter.all false
set_option maxHeartbeats 64000000
set_option maxRecDepth 100000
namespace Go.Proofs.YtlgajkoplklkiaaGreat
namespace Mc
open Go Go.Mq
def putF:List ByteArray→ByteArray→Int→ByteArray×Int
 | [],s,e=>(s,e)
 | x::l,s,e=>putF l (if e=0 then s++x else s) (if 16384 < (if e=0 then s++x else s).size then 3 else e)
def wOK (s:ByteArray)(e:Int):Prop:=(e=0→s.size≤16384)∧s.size≤2000000
theorem J7 {x s:ByteArray}{e:Int}(hx:x.size≤1000000)(h:wOK s e):wOK (if e=0 then s++x else s) (if 16384 < (if e=0 then s++x else s).size then 3 else e):=by
 unfold wOK at *
 have hs:(s++x).size=s.size+x.size:=ByteArray.size_append
 by_cases he:e=0
 ·have:=h.1 he
  rw[if_pos he]
  refine⟨fun q=>?_,by omega⟩
  apply Decidable.byContradiction
  intro hn
  rw[ifp]at q
  cases q
 ·rw[if_neg he]
  refine⟨fun q=>?_,h.2⟩
  by_cases h1:16384 < s.size
  ·rw[if_pos h1]at q;cases q
  ·omega
theorem DO:∀{l:List ByteArray} {s:ByteArray} {e:Int},(∀x∈l,x.size≤1000000)→wOK s e→wOK (putF l s e).1 (putF l s e).2
 | [],s,e,_,h=>h
 | x::l,s,e,hl,h=>by
  rw[putF]
  exact DO (fun y hy=>hl y (by simp[hy])) (J7 (hl x (by simp)) h)
theorem LL {l:List ByteArray}{i:Nat}(h:i < l.length):l.getD i ByteArray.empty∈l:=by
 rw[List.getD_eq_getElem?_getD,List.getElem?_eq_getElem h];exact List.getElem_mem h
theorem Td (l:List ByteArray)(s:ByteArray)(e:Int)(hu:false=true∨(e=0∧0 < l.length))(hl:∀x∈l,x.size≤1000000)(hw:wOK s e) :
  Fun P 176 [.ref 0 0,.row 2 l.length] (WO false s e++[(2,.row 9 (.strs l))]) 3 (.tuple []) (WOi 3 true (putF l s e).1 (putF l s e).2) 4:=by
 generalize hv:putF l s e=R
 refine Fun.AB tt [] [] (Tryz.func176) rfl rfl rfl lb fun g=>?_
 repeat' ((first|refine Ga ?_|refine Gc fun hlen=>?_|refine Gd (fun hc=>?_) fun hc=>?_)<;>conv=>whnf)
 refine AY (α:=Nat×Bool×ByteArray×Int) (fun p=>⟨[(0,.ref 0 0),(6,.row 2 l.length),(7,.d (.int .i64 l.length)),(8,.d (.int .i64 p.1))],31,[(0,WC 3 p.2.1 p.2.2.1 p.2.2.2),(2,.row 9 (.strs l)),(3,WB p.2.2.1)],4,g⟩)
  (fun p=>p.1≤l.length∧(p.2.1=true∨(p.1=0∧p.2.2.2=0∧0 < l.length))∧putF (l.drop p.1) p.2.2.1 p.2.2.2=R∧wOK p.2.2.1 p.2.2.2) (fun p=>l.length - p.1)
  (0,false,s,e) ⟨by simp,(by rcases hu with hu|hu;cases hu;exact .inr ⟨rfl,hu.1,hu.2⟩),hv,hw⟩
  (Ent.mv 1 rfl rfl rfl rfl (by repeat' first|exact trivial|apply And.intro|rfl) (by repeat' first|exact trivial|apply And.intro|rfl)) (fun _=>rfl) fun p hpre=>?_
 obtain⟨i,v,t,f⟩:=p
 obtain⟨hp1,hp2,hp3,hp4⟩:=hpre
 simp only[]at hp1 hp2 hp3 hp4
 by_cases hi:i < l.length
 ·have hx:=hl _ (LL hi)
  rw[Ig hi,putF]at hp3
  have hix:l.getD i ByteArray.empty=l.getD ((i:Int).toNat*1) ByteArray.empty:=by rw[show (i:Int).toNat*1=i by omega]
  rw[hix]at hp3 hx
  have hst:=J7 hx hp4
  have hts:(t++l.getD ((i:Int).toNat*1) ByteArray.empty).size=t.size+(l.getD ((i:Int).toNat*1) ByteArray.empty).size:=ByteArray.size_append
  by_cases hf:f=0
  ·subst hf
   rw[if_pos rfl]at hp3 hst
   have hws:=Ss v t (l.getD ((i:Int).toNat*1) ByteArray.empty) 0 (by unfold maxN;have:=hp4.2;omega)
   have hln:=K6 true (t++l.getD ((i:Int).toNat*1) ByteArray.empty) 0
   have fin:∀e':Int,(if 16384 < (t++l.getD ((i:Int).toNat*1) ByteArray.empty).size then 3 else (0:Int))=e'→True:=fun _ _=>trivial
   cases v
   all_goals
    by_cases hbig:16384 < (t++l.getD ((i:Int).toNat*1) ByteArray.empty).size
    ·rw[if_pos hbig]at hp3 hst
     repeat' ((first|refine Ga ?_|refine Gc fun hlen=>?_|refine AJ.go hws [0,3] ?_|refine AJ.go hln [0,4] ?_|refine Side.mk (show ((i:Int).toNat*1 < l.length) from by omega) ?_|refine Gh ((0:Int)≤(i:Int)∧(i:Int) < (l.length:Int)) ?_|refine Split.Ag (show decide (((t++l.getD ((i:Int).toNat*1) ByteArray.empty).size:Int) > 16384)=true from decide_eq_true (by omega)) ?_|refine Gd (fun hc=>?_) fun hc=>?_)<;>conv=>whnf)
     exact⟨(i+1,true,t++l.getD ((i:Int).toNat*1) ByteArray.empty,3),⟨by simp only[];omega,.inl rfl,hp3,hst⟩,by simp only[];omega,Ent.re [0,1,2,4] rfl rfl rfl rfl rfl rfl (by repeat' first|exact trivial|apply And.intro|rfl|(refine int_eq ?_;rw[wrap64]<;>omega)) (by repeat' first|exact trivial|apply And.intro|rfl)⟩
    ·rw[if_neg hbig]at hp3 hst
     repeat' ((first|refine Ga ?_|refine Gc fun hlen=>?_|refine AJ.go hws [0,3] ?_|refine AJ.go hln [0,4] ?_|refine Side.mk (show ((i:Int).toNat*1 < l.length) from by omega) ?_|refine Gh ((0:Int)≤(i:Int)∧(i:Int) < (l.length:Int)) ?_|refine Split.AE (show decide (((t++l.getD ((i:Int).toNat*1) ByteArray.empty).size:Int) > 16384)=false from decide_eq_false (by omega)) ?_|refine Gd (fun hc=>?_) fun hc=>?_)<;>conv=>whnf)
     exact⟨(i+1,true,t++l.getD ((i:Int).toNat*1) ByteArray.empty,0),⟨by simp only[];omega,.inl rfl,hp3,hst⟩,by simp only[];omega,Ent.re [0,1,2,4] rfl rfl rfl rfl rfl rfl (by repeat' first|exact trivial|apply And.intro|rfl|(refine int_eq ?_;rw[wrap64]<;>omega)) (by repeat' first|exact trivial|apply And.intro|rfl)⟩
  ·rw[if_neg hf]at hp3 hst
   have hvt:v=true:=by rcases hp2 with h|h;exact h;exact absurd h.2.1 hf
   subst hvt
   have hln:=K6 true t f
   by_cases hbig:16384 < t.size
   ·rw[if_pos hbig]at hp3 hst
    repeat' ((first|refine Ga ?_|refine Gc fun hlen=>?_|refine AJ.go hln [0,3] ?_|refine Side.mk (show ((i:Int).toNat*1 < l.length) from by omega) ?_|refine Gh ((0:Int)≤(i:Int)∧(i:Int) < (l.length:Int)) ?_|refine Split.Ag (show decide ((t.size:Int) > 16384)=true from decide_eq_true (by omega)) ?_|refine Gd (fun hc=>?_) fun hc=>?_)<;>conv=>whnf)
    exact⟨(i+1,true,t,3),⟨by simp only[];omega,.inl rfl,hp3,hst⟩,by simp only[];omega,Ent.re [0,1,2,3] rfl rfl rfl rfl rfl rfl (by repeat' first|exact trivial|apply And.intro|rfl|(refine int_eq ?_;rw[wrap64]<;>omega)) (by repeat' first|exact trivial|apply And.intro|rfl)⟩
   ·rw[if_neg hbig]at hp3 hst
    repeat' ((first|refine Ga ?_|refine Gc fun hlen=>?_|refine AJ.go hln [0,3] ?_|refine Side.mk (show ((i:Int).toNat*1 < l.length) from by omega) ?_|refine Gh ((0:Int)≤(i:Int)∧(i:Int) < (l.length:Int)) ?_|refine Split.AE (show decide ((t.size:Int) > 16384)=false from decide_eq_false (by omega)) ?_|refine Gd (fun hc=>?_) fun hc=>?_)<;>conv=>whnf)
    exact⟨(i+1,true,t,f),⟨by simp only[];omega,.inl rfl,hp3,hst⟩,by simp only[];omega,Ent.re [0,1,2,3] rfl rfl rfl rfl rfl rfl (by repeat' first|exact trivial|apply And.intro|rfl|(refine int_eq ?_;rw[wrap64]<;>omega)) (by repeat' first|exact trivial|apply And.intro|rfl)⟩
 ·have hvt:v=true:=by rcases hp2 with h|h;exact h;have:=h.1;omega
  subst hvt
  rw[List.drop_eq_nil_of_le (by omega),putF]at hp3
  rw[←hp3]
  repeat' ((first|refine Ga ?_|refine Gc fun hlen=>?_|refine Gd (fun hc=>?_) fun hc=>?_)<;>conv=>whnf)
  exact AM rfl rfl rfl (by repeat' first|exact trivial|apply And.intro|rfl) (by decide)
theorem V2 (l:List ByteArray)(s:ByteArray)(e:Int)(hu:true=true∨(e=0∧0 < l.length))(hl:∀x∈l,x.size≤1000000)(hw:wOK s e) :
  Fun P 176 [.ref 0 0,.row 2 l.length] (WO true s e++[(2,.row 9 (.strs l))]) 3 (.tuple []) (WOi 3 true (putF l s e).1 (putF l s e).2) 4:=by
 generalize hv:putF l s e=R
 refine Fun.AB tt [] [] (Tryz.func176) rfl rfl rfl lb fun g=>?_
 repeat' ((first|refine Ga ?_|refine Gc fun hlen=>?_|refine Gd (fun hc=>?_) fun hc=>?_)<;>conv=>whnf)
 refine AY (α:=Nat×Bool×ByteArray×Int) (fun p=>⟨[(0,.ref 0 0),(6,.row 2 l.length),(7,.d (.int .i64 l.length)),(8,.d (.int .i64 p.1))],31,[(0,WC 3 p.2.1 p.2.2.1 p.2.2.2),(2,.row 9 (.strs l)),(3,WB p.2.2.1)],4,g⟩)
  (fun p=>p.1≤l.length∧(p.2.1=true∨(p.1=0∧p.2.2.2=0∧0 < l.length))∧putF (l.drop p.1) p.2.2.1 p.2.2.2=R∧wOK p.2.2.1 p.2.2.2) (fun p=>l.length - p.1)
  (0,true,s,e) ⟨by simp,.inl rfl,hv,hw⟩
  (Ent.mv 1 rfl rfl rfl rfl (by repeat' first|exact trivial|apply And.intro|rfl) (by repeat' first|exact trivial|apply And.intro|rfl)) (fun _=>rfl) fun p hpre=>?_
 obtain⟨i,v,t,f⟩:=p
 obtain⟨hp1,hp2,hp3,hp4⟩:=hpre
 simp only[]at hp1 hp2 hp3 hp4
 by_cases hi:i < l.length
 ·have hx:=hl _ (LL hi)
  rw[Ig hi,putF]at hp3
  have hix:l.getD i ByteArray.empty=l.getD ((i:Int).toNat*1) ByteArray.empty:=by rw[show (i:Int).toNat*1=i by omega]
  rw[hix]at hp3 hx
  have hst:=J7 hx hp4
  have hts:(t++l.getD ((i:Int).toNat*1) ByteArray.empty).size=t.size+(l.getD ((i:Int).toNat*1) ByteArray.empty).size:=ByteArray.size_append
  by_cases hf:f=0
  ·subst hf
   rw[if_pos rfl]at hp3 hst
   have hws:=Ss v t (l.getD ((i:Int).toNat*1) ByteArray.empty) 0 (by unfold maxN;have:=hp4.2;omega)
   have hln:=K6 true (t++l.getD ((i:Int).toNat*1) ByteArray.empty) 0
   have fin:∀e':Int,(if 16384 < (t++l.getD ((i:Int).toNat*1) ByteArray.empty).size then 3 else (0:Int))=e'→True:=fun _ _=>trivial
   cases v
   all_goals
    by_cases hbig:16384 < (t++l.getD ((i:Int).toNat*1) ByteArray.empty).size
    ·rw[if_pos hbig]at hp3 hst
     repeat' ((first|refine Ga ?_|refine Gc fun hlen=>?_|refine AJ.go hws [0,3] ?_|refine AJ.go hln [0,4] ?_|refine Side.mk (show ((i:Int).toNat*1 < l.length) from by omega) ?_|refine Gh ((0:Int)≤(i:Int)∧(i:Int) < (l.length:Int)) ?_|refine Split.Ag (show decide (((t++l.getD ((i:Int).toNat*1) ByteArray.empty).size:Int) > 16384)=true from decide_eq_true (by omega)) ?_|refine Gd (fun hc=>?_) fun hc=>?_)<;>conv=>whnf)
     exact⟨(i+1,true,t++l.getD ((i:Int).toNat*1) ByteArray.empty,3),⟨by simp only[];omega,.inl rfl,hp3,hst⟩,by simp only[];omega,Ent.re [0,1,2,4] rfl rfl rfl rfl rfl rfl (by repeat' first|exact trivial|apply And.intro|rfl|(refine int_eq ?_;rw[wrap64]<;>omega)) (by repeat' first|exact trivial|apply And.intro|rfl)⟩
    ·rw[if_neg hbig]at hp3 hst
     repeat' ((first|refine Ga ?_|refine Gc fun hlen=>?_|refine AJ.go hws [0,3] ?_|refine AJ.go hln [0,4] ?_|refine Side.mk (show ((i:Int).toNat*1 < l.length) from by omega) ?_|refine Gh ((0:Int)≤(i:Int)∧(i:Int) < (l.length:Int)) ?_|refine Split.AE (show decide (((t++l.getD ((i:Int).toNat*1) ByteArray.empty).size:Int) > 16384)=false from decide_eq_false (by omega)) ?_|refine Gd (fun hc=>?_) fun hc=>?_)<;>conv=>whnf)
     exact⟨(i+1,true,t++l.getD ((i:Int).toNat*1) ByteArray.empty,0),⟨by simp only[];omega,.inl rfl,hp3,hst⟩,by simp only[];omega,Ent.re [0,1,2,4] rfl rfl rfl rfl rfl rfl (by repeat' first|exact trivial|apply And.intro|rfl|(refine int_eq ?_;rw[wrap64]<;>omega)) (by repeat' first|exact trivial|apply And.intro|rfl)⟩
  ·rw[if_neg hf]at hp3 hst
   have hvt:v=true:=by rcases hp2 with h|h;exact h;exact absurd h.2.1 hf
   subst hvt
   have hln:=K6 true t f
   by_cases hbig:16384 < t.size
   ·rw[if_pos hbig]at hp3 hst
    repeat' ((first|refine Ga ?_|refine Gc fun hlen=>?_|refine AJ.go hln [0,3] ?_|refine Side.mk (show ((i:Int).toNat*1 < l.length) from by omega) ?_|refine Gh ((0:Int)≤(i:Int)∧(i:Int) < (l.length:Int)) ?_|refine Split.Ag (show decide ((t.size:Int) > 16384)=true from decide_eq_true (by omega)) ?_|refine Gd (fun hc=>?_) fun hc=>?_)<;>conv=>whnf)
    exact⟨(i+1,true,t,3),⟨by simp only[];omega,.inl rfl,hp3,hst⟩,by simp only[];omega,Ent.re [0,1,2,3] rfl rfl rfl rfl rfl rfl (by repeat' first|exact trivial|apply And.intro|rfl|(refine int_eq ?_;rw[wrap64]<;>omega)) (by repeat' first|exact trivial|apply And.intro|rfl)⟩
   ·rw[if_neg hbig]at hp3 hst
    repeat' ((first|refine Ga ?_|refine Gc fun hlen=>?_|refine AJ.go hln [0,3] ?_|refine Side.mk (show ((i:Int).toNat*1 < l.length) from by omega) ?_|refine Gh ((0:Int)≤(i:Int)∧(i:Int) < (l.length:Int)) ?_|refine Split.AE (show decide ((t.size:Int) > 16384)=false from decide_eq_false (by omega)) ?_|refine Gd (fun hc=>?_) fun hc=>?_)<;>conv=>whnf)
    exact⟨(i+1,true,t,f),⟨by simp only[];omega,.inl rfl,hp3,hst⟩,by simp only[];omega,Ent.re [0,1,2,3] rfl rfl rfl rfl rfl rfl (by repeat' first|exact trivial|apply And.intro|rfl|(refine int_eq ?_;rw[wrap64]<;>omega)) (by repeat' first|exact trivial|apply And.intro|rfl)⟩
 ·have hvt:v=true:=by rcases hp2 with h|h;exact h;have:=h.1;omega
  subst hvt
  rw[List.drop_eq_nil_of_le (by omega),putF]at hp3
  rw[←hp3]
  repeat' ((first|refine Ga ?_|refine Gc fun hlen=>?_|refine Gd (fun hc=>?_) fun hc=>?_)<;>conv=>whnf)
  exact AM rfl rfl rfl (by repeat' first|exact trivial|apply And.intro|rfl) (by decide)
theorem Fl (u:Bool)(l:List ByteArray)(s:ByteArray)(e:Int)(hu:u=true∨(e=0∧0 < l.length))(hl:∀x∈l,x.size≤1000000)(hw:wOK s e) :
  Fun P 176 [.ref 0 0,.row 2 l.length] (WO u s e++[(2,.row 9 (.strs l))]) 3 (.tuple []) (WOi 3 true (putF l s e).1 (putF l s e).2) 4:=by
 cases u
 ·exact Td l s e hu hl hw
 ·exact V2 l s e hu hl hw
theorem HM (s:Nat→Nat)(f:Nat→Mq.Data):∀l:List Nat,renL s (l.map fun i=>AVal.d (f i))=l.map fun i=>AVal.d (f i)
 | []=>rfl
 | x::l=>by rw[List.map_cons,renL,HM s f l];rfl
theorem W1 (s:Nat→Nat)(y:Mq.Data):(unD y).ren s=unD y:=by
 cases y<;>first|rfl|(show AVal.agg _=AVal.agg _;rw[HM])
theorem L7 (k:Nat)(f:Nat→Mq.Data):∀l:List Nat,DJ k (l.map fun i=>AVal.d (f i))=true
 | []=>rfl
 | x::l=>by rw[List.map_cons,DJ,L7 k f l];rfl
theorem UH (k:Nat)(y:Mq.Data):(unD y).under k=true:=by
 cases y<;>first|rfl|(show DJ k _=true;rw[L7])
theorem HP (s:Nat→Nat)(y:Mq.Data)(a:AVal)(b:AVal)(h:a.ren s=b):renL s [unD y,a]=[unD y,b]:=by
 show [(unD y).ren s,a.ren s]=_
 rw[W1,h]
theorem Fy (y:Mq.Data)(a:AVal)(k:Nat)(h:a.under k=true):DJ k [unD y,a]=true:=by
 show ((unD y).under k && (a.under k && true))=true
 rw[UH,h];rfl
def PO:ByteArray:=⟨#[116,114,117,101]⟩
def Lc:ByteArray:=⟨#[102,97,108,115,101]⟩
def PK:ByteArray:=⟨#[40,32,41]⟩
def sL:ByteArray:=⟨#[123]⟩
def sR:ByteArray:=⟨#[32,125]⟩
def sC:ByteArray:=⟨#[32,44]⟩
def sS:ByteArray:=⟨#[32]⟩
def sE:ByteArray:=⟨#[32,61,32]⟩
def sP:ByteArray:=⟨#[32,40,32]⟩
def sQ:ByteArray:=⟨#[32,41]⟩
abbrev Wr:=ByteArray×Int
def D1 (w:Wr):Wr:=(w.1,if w.2=0 then 25 else w.2)
mutual
def wrV:Vl→Wr→Wr
 | .num n,w=>putF [numF n] w.1 w.2
 | .tru b,w=>putF [if b then PO else Lc] w.1 w.2
 | .unt,w=>putF [PK] w.1 w.2
 | .rcd ls ps,w=>let r:=wrL true ls ps (putF [sL] w.1 w.2);if r.2 then r.1 else putF [sR] r.1.1 r.1.2
 | .tag nm _ p,w=>if w.2≠0 then w else let r:=wrV p (putF [nm,sP] w.1 w.2);putF [sQ] r.1 r.2
 | .clo _ _ _,w=>D1 w
 | .pkd _ _,w=>D1 w
def wrL:Bool→List ByteArray→List Vl→Wr→Wr×Bool
 | _,_,[],w=>(w,false)
 | fst,ls,p::ps,w=>if w.2≠0 then (w,true) else
  let w1:=if fst then w else putF [sC] w.1 w.2
  wrL false (ls.drop 1) ps (wrV p (putF [sS,ls.getD 0 ByteArray.empty,sE] w1.1 w1.2))
end
def shut:Vl→Bool
 | .clo _ _ _=>true
 | .pkd _ _=>true
 | _=>false
structure WrOK (v:Vl):Prop where
 h : ∃ t y f, vD v = .iface t y ∧ MethOK P t "marquetry/machine.write" f ∧ Fx P f ∧ ∀ (u : Bool) (s : ByteArray) (e : Int), (u = true ∨ e = 0) → wOK s e → wOK (wrV v (s, e)).1 (wrV v (s, e)).2 ∧
  Fun P f [unD y,.ref 0 0] (WO u s e) 2 (.tuple []) (WOi 2 (u || !shut v) (wrV v (s,e)).1 (wrV v (s,e)).2) 3
theorem Ic {t:TypeId}{m:String}{f:FuncId}(i:TypeInfo)(mi)(h1:P.info? t=some i)(h2:i.methods.find? (·.name == m)=some mi)(h3:mi.path=#[])(h4:mi.func=some (f,false))(h5:∃d,P.underlying t=some d∧(match d with | .pointer _=>False|_=>True)):MethOK P t m f:=⟨⟨i,mi,h1,h2,h3,h4⟩,h5⟩
theorem Oz : MethOK P 87 "marquetry/machine.write" 175 :=
 Ic ((P.info? 87).getD default) ((((P.info? 87).getD default).methods.find? (·.name == "marquetry/machine.write")).getD default) (by kernel_rfl) (by kernel_rfl) (by kernel_rfl) (by kernel_rfl) ⟨(P.underlying 87).getD default, by kernel_rfl, trivial⟩
theorem Qh : MethOK P 88 "marquetry/machine.write" 178 :=
 Ic ((P.info? 88).getD default) ((((P.info? 88).getD default).methods.find? (·.name == "marquetry/machine.write")).getD default) (by kernel_rfl) (by kernel_rfl) (by kernel_rfl) (by kernel_rfl) ⟨(P.underlying 88).getD default, by kernel_rfl, trivial⟩
theorem UK : MethOK P 90 "marquetry/machine.write" 179 :=
 Ic ((P.info? 90).getD default) ((((P.info? 90).getD default).methods.find? (·.name == "marquetry/machine.write")).getD default) (by kernel_rfl) (by kernel_rfl) (by kernel_rfl) (by kernel_rfl) ⟨(P.underlying 90).getD default, by kernel_rfl, trivial⟩
theorem Pb : MethOK P 126 "marquetry/machine.write" 181 :=
 Ic ((P.info? 126).getD default) ((((P.info? 126).getD default).methods.find? (·.name == "marquetry/machine.write")).getD default) (by kernel_rfl) (by kernel_rfl) (by kernel_rfl) (by kernel_rfl) ⟨(P.underlying 126).getD default, by kernel_rfl, trivial⟩
theorem Py : MethOK P 128 "marquetry/machine.write" 182 :=
 Ic ((P.info? 128).getD default) ((((P.info? 128).getD default).methods.find? (·.name == "marquetry/machine.write")).getD default) (by kernel_rfl) (by kernel_rfl) (by kernel_rfl) (by kernel_rfl) ⟨(P.underlying 128).getD default, by kernel_rfl, trivial⟩
theorem OG : MethOK P 92 "marquetry/machine.write" 180 :=
 Ic ((P.info? 92).getD default) ((((P.info? 92).getD default).methods.find? (·.name == "marquetry/machine.write")).getD default) (by kernel_rfl) (by kernel_rfl) (by kernel_rfl) (by kernel_rfl) ⟨(P.underlying 92).getD default, by kernel_rfl, trivial⟩
theorem Pp : MethOK P 130 "marquetry/machine.write" 183 :=
 Ic ((P.info? 130).getD default) ((((P.info? 130).getD default).methods.find? (·.name == "marquetry/machine.write")).getD default) (by kernel_rfl) (by kernel_rfl) (by kernel_rfl) (by kernel_rfl) ⟨(P.underlying 130).getD default, by kernel_rfl, trivial⟩
theorem one_le {x:ByteArray}(h:x.size≤1000000):∀y∈[x],y.size≤1000000:=by intro y hy;rw[List.mem_singleton]at hy;rw[hy];exact h
theorem Zv (n:Int)(h0 : -1073741824≤n)(h1:n≤1073741824):WrOK (.num n):=by
 refine⟨_,_,_,by rw[vD],Oz,⟨_,Tryz.func175,rfl,rfl⟩,fun u s e hu hw=>?_⟩
 have hnum:=KC n (by omega) (by omega)
 have hns:∀x∈[numF n],x.size≤1000000:=one_le (by have:=Tm.WI h0 h1;omega)
 have hp:=Fl u [numF n] s e (by rcases hu with h|h;exact .inl h;exact .inr ⟨h,by simp⟩) hns hw
 rw[wrV]
 refine⟨DO hns hw,?_⟩
 dsimp only
 generalize putF [numF n] s e=R at hp
 unfold WO at *
 unfold WOi WC WB at *
 cases u
 all_goals
  refine Fun.AB tt [] [] (Tryz.func175) rfl rfl rfl lb fun g=>?_
  repeat' ((first|refine Ga ?_|refine Gc fun hlen=>?_|refine Ge hnum ?_|refine AJ.go hp [0,1,2] ?_|refine Gd (fun hc=>?_) fun hc=>?_)<;>conv=>whnf)
  refine RetS.ent (σ':=⟨[],9,[(0,.cellsT (some 69) [.ref 0 0,.row 2 R.1.size,.d (.int .i64 R.2)]),(2,.row 5 (.ints .u8 (Aw R.1)))],3,g⟩) (Ent.re [0,1,3] rfl rfl rfl rfl rfl rfl (by repeat' first|exact trivial|apply And.intro|rfl|(refine int_eq ?_;rw[wrap64]<;>omega)) (by repeat' first|exact trivial|apply And.intro|rfl)) ?_
  exact AM rfl rfl rfl (by repeat' first|exact trivial|apply And.intro|rfl) (by decide)
theorem aO:WrOK .unt:=by
 refine⟨_,_,_,by rw[vD],UK,⟨_,Tryz.func179,rfl,rfl⟩,fun u s e hu hw=>?_⟩
 have hns:∀x∈[PK],x.size≤1000000:=one_le (by decide)
 have hp:=Fl u [PK] s e (by rcases hu with h|h;exact .inl h;exact .inr ⟨h,by simp⟩) hns hw
 rw[wrV]
 refine⟨DO hns hw,?_⟩
 dsimp only
 generalize putF [PK] s e=R at hp
 unfold WO at *
 unfold WOi WC WB PK at *
 cases u
 all_goals
  refine Fun.AB tt [] [] (Tryz.func179) rfl rfl rfl lb fun g=>?_
  repeat' ((first|refine Ga ?_|refine Gc fun hlen=>?_|refine AJ.go hp [0,1,3] ?_|refine Gd (fun hc=>?_) fun hc=>?_)<;>conv=>whnf)
  refine RetS.ent (σ':=⟨[],7,[(0,.cellsT (some 69) [.ref 0 0,.row 2 R.1.size,.d (.int .i64 R.2)]),(2,.row 5 (.ints .u8 (Aw R.1)))],3,g⟩) (Ent.re [0,1,4] rfl rfl rfl rfl rfl rfl (by repeat' first|exact trivial|apply And.intro|rfl|(refine int_eq ?_;rw[wrap64]<;>omega)) (by repeat' first|exact trivial|apply And.intro|rfl)) ?_
  exact AM rfl rfl rfl (by repeat' first|exact trivial|apply And.intro|rfl) (by decide)
theorem Zt (b:Bool):WrOK (.tru b):=by
 refine⟨_,_,_,by rw[vD],Qh,⟨_,Tryz.func178,rfl,rfl⟩,fun u s e hu hw=>?_⟩
 have hns:∀x∈[if b then PO else Lc],x.size≤1000000:=one_le (by cases b<;>decide)
 have hp:=Fl u [if b then PO else Lc] s e (by rcases hu with h|h;exact .inl h;exact .inr ⟨h,by simp⟩) hns hw
 rw[wrV]
 refine⟨DO hns hw,?_⟩
 dsimp only
 generalize putF [if b then PO else Lc] s e=R at hp
 unfold WO at *
 unfold WOi WC WB PO Lc at *
 cases u<;>cases b
 all_goals
  refine Fun.AB tt [] [] (Tryz.func178) rfl rfl rfl lb fun g=>?_
  repeat' ((first|refine Ga ?_|refine Gc fun hlen=>?_|refine AJ.go hp [0,1,2] ?_|refine Gd (fun hc=>?_) fun hc=>?_)<;>conv=>whnf)
  refine RetS.ent (σ':=⟨[],11,[(0,.cellsT (some 69) [.ref 0 0,.row 2 R.1.size,.d (.int .i64 R.2)]),(2,.row 5 (.ints .u8 (Aw R.1)))],3,g⟩) (Ent.re [0,1,3] rfl rfl rfl rfl rfl rfl (by repeat' first|exact trivial|apply And.intro|rfl|(refine int_eq ?_;rw[wrap64]<;>omega)) (by repeat' first|exact trivial|apply And.intro|rfl)) ?_
  exact AM rfl rfl rfl (by repeat' first|exact trivial|apply And.intro|rfl) (by decide)
theorem O1 {s:ByteArray}{e:Int}(h:wOK s e):wOK (D1 (s,e)).1 (D1 (s,e)).2:=by
 unfold D1 wOK at *
 refine⟨fun q=>?_,h.2⟩
 dsimp only at q
 by_cases he:e=0
 ·rw[if_pos he]at q;cases q
 ·rw[if_neg he]at q;exact absurd q he
theorem SR (u:Bool)(s:ByteArray)(e:Int):Fun P 173 [.ref 0 0] (WO u s e) 2 (.tuple []) (WO u (D1 (s,e)).1 (D1 (s,e)).2) 2:=by
 unfold WO WOi WC WB D1
 by_cases he:e=0
 ·subst he
  dsimp only
  rw[if_pos rfl]
  cases u
  all_goals
   refine Fun.AB tt [] [] (Tryz.func173) rfl rfl rfl lb fun g=>?_
   repeat' ((first|refine Ga ?_|refine Gc fun hlen=>?_|refine Gd (fun hc=>?_) fun hc=>?_)<;>conv=>whnf)
   exact AM rfl rfl rfl (by repeat' first|exact trivial|apply And.intro|rfl) (by decide)
 ·dsimp only
  rw[if_neg he]
  cases u
  all_goals
   refine Fun.AB tt [] [] (Tryz.func173) rfl rfl rfl lb fun g=>?_
   repeat' ((first|refine Ga ?_|refine Gc fun hlen=>?_|refine Gd (fun hc=>?_) fun hc=>?_)<;>conv=>whnf)
   exact AM rfl rfl rfl (by repeat' first|exact trivial|apply And.intro|rfl) (by decide)
theorem ZJ (ty:Bool)(b:Tree)(e0:Ev):WrOK (.clo ty b e0):=by
 refine⟨_,_,_,by rw[vD],OG,⟨_,Tryz.func180,rfl,rfl⟩,fun u s e hu hw=>?_⟩
 have hn:=SR u s e
 rw[wrV]
 refine⟨O1 hw,?_⟩
 generalize D1 (s,e)=R at hn
 unfold WO at *
 unfold WOi WC WB at *
 rcases D7 e0 with hp|⟨q,hp⟩
 all_goals
  rw[hp]
  cases u
  ·refine Fun.AB tt [] [] (Tryz.func180) rfl rfl rfl lb fun g=>?_
   repeat' ((first|refine Ga ?_|refine Gc fun hlen=>?_|refine AJ.go hn [0,1] ?_|refine Gd (fun hc=>?_) fun hc=>?_)<;>conv=>whnf)
   refine RetS.ent (σ':=⟨[],6,[(0,.cellsT (some 69) [.d (.tree .nil),.row 2 R.1.size,.d (.int .i64 R.2)]),(2,.row 5 (.ints .u8 (Aw R.1)))],3,g⟩) (Ent.trans (Ent.re (σ':=⟨[],6,[(0,.cellsT (some 69) [.d (.tree .nil),.row 1 R.1.size,.d (.int .i64 R.2)]),(1,.row 5 (.ints .u8 (Aw R.1)))],2,g⟩) [0,1] rfl rfl rfl rfl rfl rfl (by repeat' first|exact trivial|apply And.intro|rfl|(refine int_eq ?_;rw[wrap64]<;>omega)) (by repeat' first|exact trivial|apply And.intro|rfl)) (Ent.mv 1 rfl rfl rfl rfl (by repeat' first|exact trivial|apply And.intro|rfl) (by repeat' first|exact trivial|apply And.intro|rfl))) ?_
   exact AM rfl rfl rfl (by repeat' first|exact trivial|apply And.intro|rfl) (by decide)
  ·refine Fun.AB tt [] [] (Tryz.func180) rfl rfl rfl lb fun g=>?_
   repeat' ((first|refine Ga ?_|refine Gc fun hlen=>?_|refine AJ.go hn [0,1] ?_|refine Gd (fun hc=>?_) fun hc=>?_)<;>conv=>whnf)
   refine RetS.ent (σ':=⟨[],6,[(0,.cellsT (some 69) [.ref 0 0,.row 2 R.1.size,.d (.int .i64 R.2)]),(2,.row 5 (.ints .u8 (Aw R.1)))],3,g⟩) (Ent.trans (Ent.re (σ':=⟨[],6,[(0,.cellsT (some 69) [.ref 0 0,.row 1 R.1.size,.d (.int .i64 R.2)]),(1,.row 5 (.ints .u8 (Aw R.1)))],2,g⟩) [0,1] rfl rfl rfl rfl rfl rfl (by repeat' first|exact trivial|apply And.intro|rfl|(refine int_eq ?_;rw[wrap64]<;>omega)) (by repeat' first|exact trivial|apply And.intro|rfl)) (Ent.mv 1 rfl rfl rfl rfl (by repeat' first|exact trivial|apply And.intro|rfl) (by repeat' first|exact trivial|apply And.intro|rfl))) ?_
   exact AM rfl rfl rfl (by repeat' first|exact trivial|apply And.intro|rfl) (by decide)
theorem Zm (c:Tree)(p:Vl):WrOK (.pkd c p):=by
 refine⟨_,_,_,by rw[vD],Pp,⟨_,Tryz.func183,rfl,rfl⟩,fun u s e hu hw=>?_⟩
 have hn:=SR u s e
 rw[wrV]
 refine⟨O1 hw,?_⟩
 generalize D1 (s,e)=R at hn
 unfold WO at *
 unfold WOi WC WB at *
 obtain⟨t,y,hy⟩:=Dx p
 all_goals
  rw[hy]
  cases u
  ·refine Fun.AB tt [] [] (Tryz.func183) rfl rfl rfl lb fun g=>?_
   repeat' ((first|refine Ga ?_|refine Gc fun hlen=>?_|refine AJ.go hn [0,1] ?_|refine Gd (fun hc=>?_) fun hc=>?_)<;>conv=>whnf)
   refine RetS.ent (σ':=⟨[],6,[(0,.cellsT (some 69) [.d (.tree .nil),.row 2 R.1.size,.d (.int .i64 R.2)]),(2,.row 5 (.ints .u8 (Aw R.1)))],3,g⟩) (Ent.trans (Ent.re (σ':=⟨[],6,[(0,.cellsT (some 69) [.d (.tree .nil),.row 1 R.1.size,.d (.int .i64 R.2)]),(1,.row 5 (.ints .u8 (Aw R.1)))],2,g⟩) [0,1] rfl rfl rfl rfl rfl rfl (by repeat' first|exact trivial|apply And.intro|rfl|(refine int_eq ?_;rw[wrap64]<;>omega)) (by repeat' first|exact trivial|apply And.intro|rfl)) (Ent.mv 1 rfl rfl rfl rfl (by repeat' first|exact trivial|apply And.intro|rfl) (by repeat' first|exact trivial|apply And.intro|rfl))) ?_
   exact AM rfl rfl rfl (by repeat' first|exact trivial|apply And.intro|rfl) (by decide)
  ·refine Fun.AB tt [] [] (Tryz.func183) rfl rfl rfl lb fun g=>?_
   repeat' ((first|refine Ga ?_|refine Gc fun hlen=>?_|refine AJ.go hn [0,1] ?_|refine Gd (fun hc=>?_) fun hc=>?_)<;>conv=>whnf)
   refine RetS.ent (σ':=⟨[],6,[(0,.cellsT (some 69) [.ref 0 0,.row 2 R.1.size,.d (.int .i64 R.2)]),(2,.row 5 (.ints .u8 (Aw R.1)))],3,g⟩) (Ent.trans (Ent.re (σ':=⟨[],6,[(0,.cellsT (some 69) [.ref 0 0,.row 1 R.1.size,.d (.int .i64 R.2)]),(1,.row 5 (.ints .u8 (Aw R.1)))],2,g⟩) [0,1] rfl rfl rfl rfl rfl rfl (by repeat' first|exact trivial|apply And.intro|rfl|(refine int_eq ?_;rw[wrap64]<;>omega)) (by repeat' first|exact trivial|apply And.intro|rfl)) (Ent.mv 1 rfl rfl rfl rfl (by repeat' first|exact trivial|apply And.intro|rfl) (by repeat' first|exact trivial|apply And.intro|rfl))) ?_
   exact AM rfl rfl rfl (by repeat' first|exact trivial|apply And.intro|rfl) (by decide)
end Mc
end Go.Proofs.YtlgajkoplklkiaaGreat
namespace Go.Proofs.YtlgajkoplklkiaaGreat
namespace Mc
open Go Go.Mq
theorem VN {x z:ByteArray}(h:x.size≤1000000)(h2:z.size≤1000000):∀y∈[x,z],y.size≤1000000:=by
 intro y hy
 rcases List.mem_cons.1 hy with rfl|hy
 ·exact h
 ·exact one_le h2 y hy
theorem Zc (nm:ByteArray)(sm:Tree)(p:Vl)(hnm:nm.size≤1000)(hp:WrOK p):WrOK (.tag nm sm p):=by
 obtain⟨t,y,f,hy,hme,hbo,hI⟩:=hp
 refine⟨_,_,_,by rw[vD],Py,⟨_,Tryz.func182,rfl,rfl⟩,fun u s e hu hw=>?_⟩
 rw[hy,wrV]
 by_cases he:e=0
 ·subst he
  rw[if_neg (by simp)]
  have hn1:∀x∈[nm,sP],x.size≤1000000:=VN (by omega) (by decide)
  have hp1:=Fl u [nm,sP] s 0 (.inr ⟨rfl,by simp⟩) hn1 hw
  have hw1:=DO hn1 hw
  dsimp only
  generalize putF [nm,sP] s 0=R1 at hp1 hw1
  obtain⟨s1,e1⟩:=R1
  dsimp only at hp1 hw1 ⊢
  obtain⟨hw2,hI2⟩:=hI true s1 e1 (.inl rfl) hw1
  generalize wrV p (s1,e1)=R2 at hw2 hI2
  obtain⟨s2,e2⟩:=R2
  dsimp only at hw2 hI2 ⊢
  have hn3:∀x∈[sQ],x.size≤1000000:=one_le (by decide)
  have hp3:=Fl true [sQ] s2 e2 (.inl rfl) hn3 hw2
  refine⟨DO hn3 hw2,?_⟩
  generalize putF [sQ] s2 e2=R3 at hp3
  unfold WO at *
  unfold WOi WC WB sP sQ at *
  cases u
  all_goals
   refine Fun.AB tt [] [] (Tryz.func182) rfl rfl rfl lb fun g=>?_
   repeat' ((first|refine Ga ?_|refine Gc fun hlen=>?_|refine AJ.go hp1 [0,1,3] ?_|refine InvV.mk f rfl hme hbo ?_|refine AJ.fun hI2 [0,4] rfl rfl (HP _ _ _ _ rfl) rfl rfl (Fy _ _ _ rfl) (by repeat' first|exact trivial|apply And.intro|rfl|(refine int_eq ?_;rw[wrap64]<;>omega)) rfl ?_|refine AJ.go hp3 [0,5,6] ?_|refine Gd (fun hc=>?_) fun hc=>?_)<;>conv=>whnf)
   refine RetS.ent (σ':=⟨[],21,[(0,.cellsT (some 69) [.ref 0 0,.row 2 R3.1.size,.d (.int .i64 R3.2)]),(2,.row 5 (.ints .u8 (Aw R3.1)))],3,g⟩) (Ent.re [0,1,7] rfl rfl rfl rfl rfl rfl (by repeat' first|exact trivial|apply And.intro|rfl|(refine int_eq ?_;rw[wrap64]<;>omega)) (by repeat' first|exact trivial|apply And.intro|rfl)) ?_
   exact AM rfl rfl rfl (by repeat' first|exact trivial|apply And.intro|rfl) (by decide)
 ·have hut:u=true:=by rcases hu with h|h;exact h;exact absurd h he
  subst hut
  rw[if_pos he]
  refine⟨hw,?_⟩
  unfold WO at *
  unfold WOi WC WB at *
  refine Fun.AB tt [] [] (Tryz.func182) rfl rfl rfl lb fun g=>?_
  repeat' ((first|refine Ga ?_|refine Gc fun hlen=>?_|refine Gd (fun hc=>?_) fun hc=>?_)<;>conv=>whnf)
  refine RetS.ent (σ':=⟨[],21,[(0,.cellsT (some 69) [.ref 0 0,.row 2 s.size,.d (.int .i64 e)]),(2,.row 5 (.ints .u8 (Aw s)))],3,g⟩) (Ent.trans (Ent.re (σ':=⟨[],21,[(0,.cellsT (some 69) [.ref 0 0,.row 1 s.size,.d (.int .i64 e)]),(1,.row 5 (.ints .u8 (Aw s)))],2,g⟩) [0,1] rfl rfl rfl rfl rfl rfl (by repeat' first|exact trivial|apply And.intro|rfl|(refine int_eq ?_;rw[wrap64]<;>omega)) (by repeat' first|exact trivial|apply And.intro|rfl)) (Ent.mv 1 rfl rfl rfl rfl (by repeat' first|exact trivial|apply And.intro|rfl) (by repeat' first|exact trivial|apply And.intro|rfl))) ?_
  exact AM rfl rfl rfl (by repeat' first|exact trivial|apply And.intro|rfl) (by decide)
end Mc
end Go.Proofs.YtlgajkoplklkiaaGreat
namespace Go.Proofs.YtlgajkoplklkiaaGreat
namespace Mc
open Go Go.Mq
theorem Qn {l:List Vl}{i:Nat}(h:i < l.length):l.drop i=l.getD i .unt::l.drop (i+1):=by
 rw[List.getD_eq_getElem?_getD,List.getElem?_eq_getElem h,List.drop_eq_getElem_cons h];rfl
theorem Pq {x z v:ByteArray}(h:x.size≤1000000)(h2:z.size≤1000000)(h3:v.size≤1000000):∀y∈[x,z,v],y.size≤1000000:=by
 intro y hy
 rcases List.mem_cons.1 hy with rfl|hy
 ·exact h
 ·exact VN h2 h3 y hy
def recD (ls:List ByteArray)(ps:List Vl):AVal:=.agg [.d (.slice ls.length 1 fun i _=>.str (ls.getD i ByteArray.empty)),.d (.slice (ps.map vD).length 1 fun i _=>(ps.map vD).getD i .nils)]
theorem YO (ls:List ByteArray)(ps:List Vl)(hl:ls.length=ps.length)(hz:ls.length≤1048576)(hls:∀l∈ls,l.size≤1000)(hI:∀i,i < ps.length→WrOK (ps.getD i .unt))(u:Bool)(s:ByteArray)(e:Int)(hu:u=true∨e=0)(hw:wOK s e) :
  wOK (wrV (.rcd ls ps) (s,e)).1 (wrV (.rcd ls ps) (s,e)).2∧Fun P 181 [recD ls ps,.ref 0 0] (WO u s e) 2 (.tuple []) (WOi 2 true (wrV (.rcd ls ps) (s,e)).1 (wrV (.rcd ls ps) (s,e)).2) 3:=by
 have hpl:(ps.map vD).length=ps.length:=List.length_map _
 rw[wrV]
 have hn1:∀x∈[sL],x.size≤1000000:=one_le (by decide)
 have hp1:=Fl u [sL] s e (by rcases hu with h|h;exact .inl h;exact .inr ⟨h,by simp⟩) hn1 hw
 have hw1:=DO hn1 hw
 dsimp only
 generalize putF [sL] s e=R1 at hp1 hw1
 obtain⟨s1,e1⟩:=R1
 dsimp only at hp1 hw1 ⊢
 have keep:∀(l:List ByteArray) (q:List Vl) (b:Bool) (w:Wr),(∀v∈q,WrOK v)→(∀x∈l,x.size≤1000)→wOK w.1 w.2→wOK (wrL b l q w).1.1 (wrL b l q w).1.2:=by
  intro l q
  induction q generalizing l with
  | nil=>intro b w _ _ h;rw[wrL];exact h
  | cons v q ih =>
   intro b w hv hl h
   rw[wrL]
   by_cases h0:w.2≠0
   ·rw[if_pos h0];exact h
   ·rw[if_neg h0]
    dsimp only
    refine ih _ _ _ (fun v hv'=>hv v (by simp[hv'])) (fun x hx=>hl x (List.mem_of_mem_drop hx)) ?_
    have hd:(l.getD 0 ByteArray.empty).size≤1000:=by
     cases l with
     | nil=>decide
     | cons x l=>exact hl x (by simp)
    have a1:wOK (if b=true then w else putF [sC] w.1 w.2).1 (if b=true then w else putF [sC] w.1 w.2).2:=by
     split
     ·exact h
     ·exact DO (one_le (by decide)) h
    have a2:=DO (l:=[sS,l.getD 0 ByteArray.empty,sE]) (Pq (by decide) (by omega) (by decide)) a1
    obtain⟨_,_,_,_,_,_,hh⟩:=hv v (by simp)
    exact (hh true _ _ (.inl rfl) a2).1
 have hk:=keep ls ps true (s1,e1) (fun v hv=>by
  obtain⟨i,hi,rfl⟩:=List.getElem_of_mem hv
  have:=hI i hi
  rw[List.getD_eq_getElem?_getD,List.getElem?_eq_getElem hi]at this
  exact this) hls hw1
 generalize hR:wrL true ls ps (s1,e1)=R at hk
 obtain⟨⟨sr,er⟩,br⟩:=R
 dsimp only at hk ⊢
 refine⟨by split;exact hk;exact DO (one_le (by decide)) hk,?_⟩
 generalize hF:(if br=true then (sr,er) else putF [sR] sr er)=F
 obtain⟨sf,ef⟩:=F
 unfold WO at *
 unfold WOi WC WB recD sL at *
 cases u
 all_goals
  refine Fun.AB tt [] [] (Tryz.func181) rfl rfl rfl lb fun g=>?_
  repeat' ((first|refine Ga ?_|refine Gc fun hlen=>?_|refine AJ.go hp1 [0,1,3] ?_|refine Gd (fun hc=>?_) fun hc=>?_)<;>conv=>whnf)
  refine AY (α:=Nat×ByteArray×Int) (fun p=>⟨[(1,.ref 0 0),(2,.ref 2 0),(10,.d (.slice (ps.map vD).length 1 fun i _=>(ps.map vD).getD i .nils)),(11,.d (.int .i64 (ps.map vD).length)),(12,.d (.int .i64 p.1))],42,[(0,.cellsT (some 69) [.ref 0 0,.row 3 p.2.1.size,.d (.int .i64 p.2.2)]),(2,.cells [.d (.slice ls.length 1 fun i _=>.str (ls.getD i ByteArray.empty)),.d (.slice (ps.map vD).length 1 fun i _=>(ps.map vD).getD i .nils)]),(3,.row 5 (.ints .u8 (Aw p.2.1)))],4,g⟩)
   (fun p=>p.1≤ps.length∧wOK p.2.1 p.2.2∧wrL (decide (p.1=0)) (ls.drop p.1) (ps.drop p.1) (p.2.1,p.2.2)=((sr,er),br)) (fun p=>ps.length - p.1)
   (0,s1,e1) ⟨by simp,hw1,hR⟩
   (Ent.re [0,1,2,4] rfl rfl rfl rfl rfl rfl (by repeat' first|exact trivial|apply And.intro|rfl|(refine int_eq ?_;rw[wrap64]<;>omega)) (by repeat' first|exact trivial|apply And.intro|rfl)) (fun _=>rfl) fun p hpre=>?_
  obtain⟨i,t,f⟩:=p
  obtain⟨hp1,hp2,hp3⟩:=hpre
  simp only[]at hp1 hp2 hp3
  by_cases hi:i < ps.length
  ·rw[Qn hi,wrL,Lj,List.drop_drop]at hp3
   try dsimp only at hp3
   by_cases hf:f=0
   ·subst hf
    rw[if_neg (by simp)]at hp3
    obtain⟨ty,y,fm,hy,hme,hbo,hIv⟩:=hI i hi
    have hpi:(ps.map vD).getD i .nils=.iface ty y:=by rw[getD_map hi,hy]
    have hlab:(ls.getD i ByteArray.empty).size≤1000:=hls _ (LL (by omega))
    have hn2:∀x∈[sS,ls.getD i ByteArray.empty,sE],x.size≤1000000:=Pq (by decide) (by omega) (by decide)
    by_cases h0:i=0
    ·subst h0
     rw[if_pos (by simp)]at hp3
     try dsimp only at hp3
     have hq:=Fl true [sS,ls.getD 0 ByteArray.empty,sE] t 0 (.inl rfl) hn2 hp2
     have hqw:=DO hn2 hp2
     generalize putF [sS,ls.getD 0 ByteArray.empty,sE] t 0=R2 at hp3 hq hqw
     obtain⟨s2,e2⟩:=R2
     try dsimp only at hp3
     try dsimp only at hq
     try dsimp only at hqw
     obtain⟨hw3,hI3⟩:=hIv true s2 e2 (.inl rfl) hqw
     generalize wrV (ps.getD 0 .unt) (s2,e2)=R3 at hp3 hw3 hI3
     obtain⟨s3,e3⟩:=R3
     try dsimp only at hp3
     try dsimp only at hw3
     try dsimp only at hI3
     unfold WO at hq hI3
     unfold WOi WC WB sS sE at *
     repeat' ((first|refine Ga ?_|refine Gc fun hlen=>?_|refine AJ.go hq [0,3,4] ?_|refine InvV.mk fm (congrArg AVal.d hpi) hme hbo ?_|refine AJ.fun hI3 [0,5] rfl rfl (HP _ _ _ _ rfl) rfl rfl (Fy _ _ _ rfl) (by repeat' first|exact trivial|apply And.intro|rfl|(refine int_eq ?_;rw[wrap64]<;>omega)) rfl ?_|refine Gh ((0:Int)≤((0:Nat):Int)∧((0:Nat):Int) < ((ps.map vD).length:Int)) ?_|refine Gh ((0:Int)≤((0:Nat):Int)∧((0:Nat):Int) < (ls.length:Int)) ?_|refine Gd (fun hc=>?_) fun hc=>?_)<;>conv=>whnf)
     have e0:decide (0+1=0)=false:=by decide
     exact⟨(0+1,s3,e3),⟨by simp only[];omega,hw3,by simp only[];rw[e0];exact hp3⟩,by simp only[];omega,Ent.re [0,1,2,6] rfl rfl rfl rfl rfl rfl (by repeat' first|exact trivial|apply And.intro|rfl|(refine int_eq ?_;rw[wrap64]<;>omega)) (by repeat' first|exact trivial|apply And.intro|rfl)⟩
    ·rw[if_neg (by simp[h0])]at hp3
     try dsimp only at hp3
     have hn5:∀x∈[sC],x.size≤1000000:=one_le (by decide)
     have hq5:=Fl true [sC] t 0 (.inl rfl) hn5 hp2
     have hqw5:=DO hn5 hp2
     generalize putF [sC] t 0=R5 at hp3 hq5 hqw5
     obtain⟨s5,e5⟩:=R5
     try dsimp only at hp3
     try dsimp only at hq5
     try dsimp only at hqw5
     have hq:=Fl true [sS,ls.getD i ByteArray.empty,sE] s5 e5 (.inl rfl) hn2 hqw5
     have hqw:=DO hn2 hqw5
     generalize putF [sS,ls.getD i ByteArray.empty,sE] s5 e5=R2 at hp3 hq hqw
     obtain⟨s2,e2⟩:=R2
     try dsimp only at hp3
     try dsimp only at hq
     try dsimp only at hqw
     obtain⟨hw3,hI3⟩:=hIv true s2 e2 (.inl rfl) hqw
     generalize wrV (ps.getD i .unt) (s2,e2)=R3 at hp3 hw3 hI3
     obtain⟨s3,e3⟩:=R3
     try dsimp only at hp3
     try dsimp only at hw3
     try dsimp only at hI3
     unfold WO at hq hq5 hI3
     unfold WOi WC WB sC sS sE at *
     repeat' ((first|refine Ga ?_|refine Gc fun hlen=>?_|refine AJ.go hq5 [0,3,4] ?_|refine AJ.go hq [0,5,6] ?_|refine InvV.mk fm (congrArg AVal.d hpi) hme hbo ?_|refine AJ.fun hI3 [0,7] rfl rfl (HP _ _ _ _ rfl) rfl rfl (Fy _ _ _ rfl) (by repeat' first|exact trivial|apply And.intro|rfl|(refine int_eq ?_;rw[wrap64]<;>omega)) rfl ?_|refine Gh ((0:Int)≤(i:Int)∧(i:Int) < ((ps.map vD).length:Int)) ?_|refine Gh ((0:Int)≤(i:Int)∧(i:Int) < (ls.length:Int)) ?_|refine Gd (fun hc=>?_) fun hc=>?_)<;>conv=>whnf)
     have e0:decide (i+1=0)=false:=by simp
     exact⟨(i+1,s3,e3),⟨by simp only[];omega,hw3,by simp only[];rw[e0];exact hp3⟩,by simp only[];omega,Ent.re [0,1,2,8] rfl rfl rfl rfl rfl rfl (by repeat' first|exact trivial|apply And.intro|rfl|(refine int_eq ?_;rw[wrap64]<;>omega)) (by repeat' first|exact trivial|apply And.intro|rfl)⟩
   ·rw[if_pos hf]at hp3
    obtain⟨q1,q2,q3⟩:t=sr∧f=er∧true=br:=by cases hp3;exact⟨rfl,rfl,rfl⟩
    subst q1 q2 q3
    rw[if_pos rfl]at hF
    obtain⟨q4,q5⟩:t=sf∧f=ef:=by cases hF;exact⟨rfl,rfl⟩
    subst q4 q5
    repeat' ((first|refine Ga ?_|refine Gc fun hlen=>?_|refine Gh ((0:Int)≤(i:Int)∧(i:Int) < ((ps.map vD).length:Int)) ?_|refine Gh ((0:Int)≤(i:Int)∧(i:Int) < (ls.length:Int)) ?_|refine Gd (fun hc=>?_) fun hc=>?_)<;>conv=>whnf)
    refine RetS.ent (σ':=⟨[],42,[(0,.cellsT (some 69) [.ref 0 0,.row 2 t.size,.d (.int .i64 f)]),(2,.row 5 (.ints .u8 (Aw t)))],3,g⟩) (Ent.re [0,1,3] rfl rfl rfl rfl rfl rfl (by repeat' first|exact trivial|apply And.intro|rfl|(refine int_eq ?_;rw[wrap64]<;>omega)) (by repeat' first|exact trivial|apply And.intro|rfl)) ?_
    exact AM rfl rfl rfl (by repeat' first|exact trivial|apply And.intro|rfl) (by decide)
  ·rw[List.drop_eq_nil_of_le (show ps.length≤i by omega),wrL]at hp3
   obtain⟨q1,q2,q3⟩:t=sr∧f=er∧false=br:=by cases hp3;exact⟨rfl,rfl,rfl⟩
   subst q1 q2 q3
   rw[if_neg (by decide)]at hF
   have hq:=Fl true [sR] t f (.inl rfl) (one_le (by decide)) hp2
   rw[hF]at hq
   unfold WO at hq
   unfold WOi WC WB sR at *
   repeat' ((first|refine Ga ?_|refine Gc fun hlen=>?_|refine AJ.go hq [0,3,4] ?_|refine Gd (fun hc=>?_) fun hc=>?_)<;>conv=>whnf)
   refine RetS.ent (σ':=⟨[],42,[(0,.cellsT (some 69) [.ref 0 0,.row 2 sf.size,.d (.int .i64 ef)]),(2,.row 5 (.ints .u8 (Aw sf)))],3,g⟩) (Ent.re [0,1,5] rfl rfl rfl rfl rfl rfl (by repeat' first|exact trivial|apply And.intro|rfl|(refine int_eq ?_;rw[wrap64]<;>omega)) (by repeat' first|exact trivial|apply And.intro|rfl)) ?_
   exact AM rfl rfl rfl (by repeat' first|exact trivial|apply And.intro|rfl) (by decide)
theorem aZ (ls:List ByteArray)(ps:List Vl)(hl:ls.length=ps.length)(hz:ls.length≤1048576)(hls:∀l∈ls,l.size≤1000)(hI:∀i,i < ps.length→WrOK (ps.getD i .unt)):WrOK (.rcd ls ps):=by
 refine⟨_,_,_,by rw[vD,FY],Pb,⟨_,Tryz.func181,rfl,rfl⟩,fun u s e hu hw=>?_⟩
 obtain⟨h1,h2⟩:=YO ls ps hl hz hls hI u s e hu hw
 refine⟨h1,?_⟩
 have e1:(u || !shut (.rcd ls ps))=true:=by show (u || !false)=true;simp
 rw[e1]
 exact h2
mutual
theorem Qj {Q:Tree→Prop}{B:Nat}:∀v:Vl,okV Q B v→WrOK v
 | .num n,h=>by rw[okV]at h;exact Zv n h.1 h.2
 | .tru b,_=>Zt b
 | .unt,_=>aO
 | .rcd ls ps,h=>by rw[okV]at h;exact aZ ls ps h.1 h.2.1 h.2.2.2 (Sn ps h.2.2.1)
 | .tag nm sm p,h=>by rw[okV]at h;exact Zc nm sm p h.1 (Qj p h.2)
 | .clo ty b e,_=>ZJ ty b e
 | .pkd c p,_=>Zm c p
theorem Sn {Q:Tree→Prop}{B:Nat}:∀l:List Vl,okVs Q B l→∀i,i < l.length→WrOK (l.getD i .unt)
 | [],_,i,hi=>by simp at hi
 | v::l,h,0,_=>by rw[okVs]at h;exact Qj v h.1
 | v::l,h,i+1,hi=>by rw[okVs]at h;exact Sn l h.2 i (by simpa using hi)
end
end Mc
end Go.Proofs.YtlgajkoplklkiaaGreat
namespace Go.Proofs.YtlgajkoplklkiaaGreat
namespace Mc
open Go Go.Mq Tm Sb St
theorem Mi {I:Imm}{ρ ρ':Nat→RB}{D D':Nat→Prop}(hn:∀id,D id→D' id)(hρ:∀id,D id→ρ' id=ρ id):∀{l:List AVal} {vs:List Value},All2 I ρ D l vs→All2 I ρ' D' l vs
 | [],[],_=>trivial
 | [],_::_,h=>h.elim
 | _::_,[],h=>h.elim
 | _::_,_::_,h=>⟨h.1.mono (Imm.le_refl I) hn hρ,Mi hn hρ h.2⟩
theorem _root_.Go.Mq.Fun.aQ {P:Program}{f:FuncId}{args:List AVal}{L L0 L':List (Nat×AObj)}{k N':Nat}{r:AVal}(h:Fun P f args L (k+1) r L' N')(hst:NW L0 k L):Fun P f args L0 k r L' N':=by
 refine⟨h.1,fun g E I ρ w vs hr hall=>?_⟩
 have hd:¬(k < k):=Nat.lt_irrefl _
 have hD:(fun i=>i < k+1)=dom (fun i=>i < k) k:=by funext i;apply propext;unfold dom;omega
 have hr1:Rel E I (upd ρ k ⟨0,0,true⟩) (fun i=>i < k+1) (sget L) g w:=by
  rw[hD]
  obtain⟨own,h⟩:=hr
  have h:RelO E I ρ (fun i=>i < k) (sget L0) g w own:=h
  refine⟨own,⟨h.env,h.lt,h.imm,fun i o e=>?_,fun i o e=>?_,fun i o e hni=>?_,h.gst⟩⟩
  ·rcases hst.get e with⟨h1,_⟩|⟨_,h1⟩
   ·exact .inl h1
   ·exact .inr (h.key _ _ h1)
  ·rcases hst.get e with⟨h1,e',q,rfl,h2⟩|⟨_,h1⟩
   ·subst h1;exact .inl ⟨by rw[Aj],h2⟩
   ·exact ORel.nil (D:=fun i=>i < k) hd (h.key _ _ h1) (h.obj _ _ h1)
  ·rcases hst.get e with⟨h1,_⟩|⟨_,h1⟩
   ·subst h1;rw[Aj]at hni;cases hni
   ·have hk:=h.key _ _ h1
    rw[Bi (D:=fun i=>i < k) hd i hk]at hni ⊢
    exact h.ownd _ _ h1 hni
 have ha1:All2 I (upd ρ k ⟨0,0,true⟩) (fun i=>i < k+1) args vs.toList:=Mi (D:=fun i=>i < k) (fun id hid=>by omega) (fun id hid=>Bi (D:=fun i=>i < k) hd id hid) hall
 refine (h.2 g E I _ w vs hr1 ha1).mono ?_
 rintro en w' ⟨I',ρ',v,h1,h2,h3,h4,h5⟩
 exact⟨I',ρ',v,h1,fun id hid=>by rw[h2 id (by omega),Bi (D:=fun i=>i < k) hd id hid],h3,h4,h5⟩
theorem CT:∀{l:List ByteArray} {s:ByteArray} {e:Int},s.size≤(putF l s e).1.size∧((putF l s e).2=0→e=0)
 | [],s,e=>⟨Nat.le_refl _,fun h=>h⟩
 | x::l,s,e=>by
  rw[putF]
  obtain⟨h1,h2⟩:=CT (l:=l) (s:=if e=0 then s++x else s) (e:=if 16384 < (if e=0 then s++x else s).size then 3 else e)
  have hs:(s++x).size=s.size+x.size:=ByteArray.size_append
  refine⟨Nat.le_trans ?_ h1,fun h=>?_⟩
  ·by_cases he:e=0
   ·rw[if_pos he];omega
   ·rw[if_neg he];exact Nat.le_refl _
  ·have:=h2 h
   by_cases hb:16384 < (if e=0 then s++x else s).size
   ·rw[if_pos hb]at this;cases this
   ·rw[if_neg hb]at this;exact this
theorem GB {x:ByteArray}{l:List ByteArray}{s:ByteArray}{e:Int}(hx:0 < x.size)(h:(putF (x::l) s e).2=0):0 < (putF (x::l) s e).1.size:=by
 have he:=CT.2 h
 rw[putF]
 have h1:=(CT (l:=l) (s:=if e=0 then s++x else s) (e:=if 16384 < (if e=0 then s++x else s).size then 3 else e)).1
 have hs:(s++x).size=s.size+x.size:=ByteArray.size_append
 rw[if_pos he]at h1 ⊢
 omega
mutual
theorem Ip:∀(v:Vl) (w:Wr),w.1.size≤(wrV v w).1.size∧((wrV v w).2=0→w.2=0)
 | .num n,w=>by rw[wrV];exact CT
 | .tru b,w=>by rw[wrV];exact CT
 | .unt,w=>by rw[wrV];exact CT
 | .rcd ls ps,w=>by
  rw[wrV]
  try dsimp only
  have h1:=CT (l:=[sL]) (s:=w.1) (e:=w.2)
  have h2:=MA ps true ls (putF [sL] w.1 w.2)
  generalize wrL true ls ps (putF [sL] w.1 w.2)=R at h2
  obtain⟨⟨a,b⟩,c⟩:=R
  try dsimp only at h2
  try dsimp only
  cases c
  ·rw[if_neg (by decide)]
   have h3:=CT (l:=[sR]) (s:=a) (e:=b)
   exact⟨by omega,fun h=>h1.2 (h2.2 (h3.2 h))⟩
  ·rw[if_pos rfl]
   exact⟨by have:=h2.1;have:=h1.1;dsimp only;omega,fun h=>h1.2 (h2.2 h)⟩
 | .tag nm _ p,w=>by
  rw[wrV]
  by_cases h0:w.2≠0
  ·rw[if_pos h0];exact⟨Nat.le_refl _,fun h=>h⟩
  ·rw[if_neg h0]
   try dsimp only
   have h1:=CT (l:=[nm,sP]) (s:=w.1) (e:=w.2)
   have h2:=Ip p (putF [nm,sP] w.1 w.2)
   have h3:=CT (l:=[sQ]) (s:=(wrV p (putF [nm,sP] w.1 w.2)).1) (e:=(wrV p (putF [nm,sP] w.1 w.2)).2)
   exact⟨by omega,fun h=>h1.2 (h2.2 (h3.2 h))⟩
 | .clo _ _ _,w=>by rw[wrV];unfold D1;refine⟨Nat.le_refl _,fun h=>?_⟩;dsimp only at h;split at h;cases h;exact h
 | .pkd _ _,w=>by rw[wrV];unfold D1;refine⟨Nat.le_refl _,fun h=>?_⟩;dsimp only at h;split at h;cases h;exact h
theorem MA:∀(ps:List Vl) (b:Bool) (ls:List ByteArray) (w:Wr),w.1.size≤(wrL b ls ps w).1.1.size∧((wrL b ls ps w).1.2=0→w.2=0)
 | [],b,ls,w=>by rw[wrL];exact⟨Nat.le_refl _,fun h=>h⟩
 | p::ps,b,ls,w=>by
  rw[wrL]
  by_cases h0:w.2≠0
  ·rw[if_pos h0];exact⟨Nat.le_refl _,fun h=>h⟩
  ·rw[if_neg h0]
   try dsimp only
   have h1:w.1.size≤(if b=true then w else putF [sC] w.1 w.2).1.size∧((if b=true then w else putF [sC] w.1 w.2).2=0→w.2=0):=by
    split
    ·exact⟨Nat.le_refl _,fun h=>h⟩
    ·exact CT
   generalize (if b=true then w else putF [sC] w.1 w.2)=w1 at h1
   have h2:=CT (l:=[sS,ls.getD 0 ByteArray.empty,sE]) (s:=w1.1) (e:=w1.2)
   have h3:=Ip p (putF [sS,ls.getD 0 ByteArray.empty,sE] w1.1 w1.2)
   have h4:=MA ps false (ls.drop 1) (wrV p (putF [sS,ls.getD 0 ByteArray.empty,sE] w1.1 w1.2))
   exact⟨by omega,fun h=>h1.2 (h2.2 (h3.2 (h4.2 h)))⟩
end
theorem W0:∀(v:Vl) (w:Wr),(wrV v w).2=0→(∀n,0 < (numF n).size)→0 < (wrV v w).1.size
 | .num n,w,h,hn=>by rw[wrV]at h ⊢;exact GB (hn n) h
 | .tru b,w,h,_=>by rw[wrV]at h ⊢;exact GB (by cases b<;>decide) h
 | .unt,w,h,_=>by rw[wrV]at h ⊢;exact GB (by decide) h
 | .rcd ls ps,w,h,_=>by
  have hw:=(Ip (.rcd ls ps) w).2 h
  rw[wrV]at h ⊢
  try dsimp only at h
  try dsimp only
  have h2:=MA ps true ls (putF [sL] w.1 w.2)
  have hp:=fun q=>GB (x:=sL) (l:=[]) (s:=w.1) (e:=w.2) (by decide) q
  generalize wrL true ls ps (putF [sL] w.1 w.2)=R at h2 h
  obtain⟨⟨a,b⟩,c⟩:=R
  try dsimp only at h2
  try dsimp only at h
  try dsimp only
  cases c
  ·rw[if_neg (by decide)]at h ⊢
   exact GB (x:=sR) (by decide) h
  ·rw[if_pos rfl]at h ⊢
   have:=hp (h2.2 h)
   dsimp only;omega
 | .tag nm sm p,w,h,_=>by
  have hw:=(Ip (.tag nm sm p) w).2 h
  rw[wrV,if_neg (by simp[hw])]at h ⊢
  exact GB (x:=sQ) (by decide) h
 | .clo _ _ _,w,h,_=>by rw[wrV]at h;unfold D1 at h;dsimp only at h;split at h;cases h;rename_i q;exact absurd h q
 | .pkd _ _,w,h,_=>by rw[wrV]at h;unfold D1 at h;dsimp only at h;split at h;cases h;rename_i q;exact absurd h q
theorem WV (u:Nat):0 < (digR u).length:=by
 by_cases h:u < 10
 ·rw[digR,dif_pos h];simp
 ·rw[Kp h];simp
theorem Uw (n:Int):0 < (numF n).size:=by
 rw[numF,ByteArray.size_append,En,List.length_reverse]
 have:=WV n.natAbs
 omega
def runF (T:Tree)(fuel:Int):ByteArray×Int×Int :=
 if Au T≠0 then (ByteArray.empty,Au T,0) else if BC T=false∨fuel < 0 then (ByteArray.empty,2,0)
 else if (Bm T fuel.toNat).e≠0 then (ByteArray.empty,(Bm T fuel.toNat).e,fuel - (Bm T fuel.toNat).f)
 else if (wrV (Bm T fuel.toNat).v (ByteArray.empty,0)).2≠0 then (ByteArray.empty,(wrV (Bm T fuel.toNat).v (ByteArray.empty,0)).2,fuel - (Bm T fuel.toNat).f)
 else ((wrV (Bm T fuel.toNat).v (ByteArray.empty,0)).1,0,fuel - (Bm T fuel.toNat).f)
def outA (r:ByteArray×Int×Int):AVal:=.tuple [.agg [.d (.str r.1),.d (.int .i64 r.2.1)],.d (.int .i64 r.2.2)]
theorem N4 (T:Tree)(fuel:Int)(hf:fuel≤500000000):Pure P 12 [.d (.tree T),.d (.int .i64 fuel)] (outA (runF T fuel)):=by
 have hck:=CH T
 have hcl:=Fi T
 generalize hv:runF T fuel=R
 unfold runF at hv
 by_cases h1:Au T=0
 ·rw[if_neg (by simp[h1])]at hv
  obtain⟨ht,hz,hF⟩:=Bo h1
  rw[h1]at hck
  by_cases h2:BC T=true
  ·rw[h2]at hcl
   by_cases h3:fuel < 0
   ·rw[if_pos (.inr h3)]at hv
    subst hv
    refine Pure.DL tt [] [.cell 4 37,.tmp 5] Tryz.func12 rfl rfl rfl lb fun g=>?_
    repeat' ((first|refine Ga ?_|refine Gc fun hlen=>?_|refine Ge hck ?_|refine Ge hcl ?_|refine Gd (fun hc=>?_) fun hc=>?_)<;>conv=>whnf)
    exact Bx htt _ rfl rfl rfl rfl
   ·rw[if_neg (by rintro (h|h);rw[h2]at h;cases h;exact h3 h)]at hv
    have hfn:((fuel.toNat:Nat):Int)=fuel:=by omega
    have hE:=(WY (2*fuel.toNat+1)).1 T .nil fuel.toNat ⟨ht,hz⟩ (by rw[okEv];trivial) (Nat.zero_le _) (by omega) (Nat.le_refl _)
    have hq:=OX (2*fuel.toNat+1) T .nil fuel.toNat ⟨ht,hz⟩ (by rw[okEv];trivial) (Nat.zero_le _) (by omega)
    have hfu:=(Fo (2*fuel.toNat+1)).1 T .nil fuel.toNat
    have hun:Bm T fuel.toNat=BZ (2*fuel.toNat+1) T .nil fuel.toNat:=rfl
    rw[hun]at hv
    generalize BZ (2*fuel.toNat+1) T .nil fuel.toNat=r at hE hq hfu hv
    obtain⟨rv,re,rf⟩:=r
    dsimp only at hE hq hfu hv
    have hwr:IntKind.i64.wrap (fuel - (rf:Int))=fuel - rf:=by rw[wrap64]<;>omega
    unfold rsA MP at hE
    rw[hfn]at hE
    have hed:eD .nil=.tree .nil:=by rw[eD]
    rw[hed]at hE
    dsimp only at hE
    by_cases h4:re=0
    ·subst h4
     rw[if_neg (by simp)]at hv
     rw[if_pos rfl]at hE
     obtain⟨t,y,f,hy,hme,hbo,hI⟩:=Qj rv (hq rfl)
     obtain⟨hw2,hI2⟩:=hI false ByteArray.empty 0 (.inr rfl) ⟨fun _=>by decide,by decide⟩
     have hpos:=W0 rv (ByteArray.empty,0)
     generalize wrV rv (ByteArray.empty,0)=w at hw2 hI2 hpos hv
     obtain⟨s,e⟩:=w
     dsimp only at hw2 hI2 hpos hv
     have hI3:Fun P f [unD y,.ref 0 0] [(0,.cellsT (some 69) [.d (.tree .nil),.d .nils,.d (.int .i64 0)])] 1 (.tuple []) (WOi 2 (false || !shut rv) s e) 3:=hI2.aQ ⟨rfl,rfl,trivial⟩
     rw[hy]at hE
     by_cases h5:e=0
     ·subst h5
      rw[if_neg (by simp)]at hv
      subst hv
      have hpos:=hpos rfl Uw
      have htx:=fun u=>VH u s 0 hpos
      generalize (false || !shut rv)=u at hI3
      have htx:=htx u
      unfold WO at htx
      unfold WOi WC WB at *
      cases u
      all_goals
       refine Pure.DL tt [] [.cell 4 37,.tmp 5] Tryz.func12 rfl rfl rfl lb fun g=>?_
       repeat' ((first|refine Ga ?_|refine Gc fun hlen=>?_|refine Ge hck ?_|refine Ge hcl ?_|refine AJ.go hE [1] ?_|refine InvV.mk f rfl hme hbo ?_|refine AJ.fun hI3 [2] rfl rfl (HP _ _ _ _ rfl) rfl rfl (Fy _ _ _ rfl) (by repeat' first|exact trivial|apply And.intro|rfl|(refine int_eq ?_;rw[wrap64]<;>omega)) rfl ?_|refine AJ.go htx [2,4] ?_|refine Gd (fun hc=>?_) fun hc=>?_)<;>conv=>whnf)
       refine Bx htt [.agg [.d (.str s),.d (.int .i64 0)],.d (.int .i64 (IntKind.i64.wrap (fuel - (rf:Int))))] rfl rfl ?_ rfl
       rw[hwr];rfl
     ·rw[if_pos h5]at hv
      subst hv
      generalize (false || !shut rv)=u at hI3
      unfold WOi WC WB at *
      cases u
      all_goals
       refine Pure.DL tt [] [.cell 4 37,.tmp 5] Tryz.func12 rfl rfl rfl lb fun g=>?_
       repeat' ((first|refine Ga ?_|refine Gc fun hlen=>?_|refine Ge hck ?_|refine Ge hcl ?_|refine AJ.go hE [1] ?_|refine InvV.mk f rfl hme hbo ?_|refine AJ.fun hI3 [2] rfl rfl (HP _ _ _ _ rfl) rfl rfl (Fy _ _ _ rfl) (by repeat' first|exact trivial|apply And.intro|rfl|(refine int_eq ?_;rw[wrap64]<;>omega)) rfl ?_|refine Gd (fun hc=>?_) fun hc=>?_)<;>conv=>whnf)
       refine Bx htt [.agg [.d (.str ByteArray.empty),.d (.int .i64 e)],.d (.int .i64 (IntKind.i64.wrap (fuel - (rf:Int))))] rfl rfl ?_ rfl
       rw[hwr];rfl
    ·rw[if_pos h4]at hv
     rw[if_neg h4]at hE
     subst hv
     refine Pure.DL tt [] [.cell 4 37,.tmp 5] Tryz.func12 rfl rfl rfl lb fun g=>?_
     repeat' ((first|refine Ga ?_|refine Gc fun hlen=>?_|refine Ge hck ?_|refine Ge hcl ?_|refine AJ.go hE [1] ?_|refine Gd (fun hc=>?_) fun hc=>?_)<;>conv=>whnf)
     refine Bx htt [.agg [.d (.str ByteArray.empty),.d (.int .i64 re)],.d (.int .i64 (IntKind.i64.wrap (fuel - (rf:Int))))] rfl rfl ?_ rfl
     rw[hwr];rfl
  ·have h2:BC T=false:=by simpa using h2
   rw[if_pos (.inl h2)]at hv
   rw[h2]at hcl
   subst hv
   refine Pure.DL tt [] [.cell 4 37,.tmp 5] Tryz.func12 rfl rfl rfl lb fun g=>?_
   repeat' ((first|refine Ga ?_|refine Gc fun hlen=>?_|refine Ge hck ?_|refine Ge hcl ?_|refine Gd (fun hc=>?_) fun hc=>?_)<;>conv=>whnf)
   exact Bx htt _ rfl rfl rfl rfl
 ·rw[if_pos h1]at hv
  subst hv
  refine Pure.DL tt [] [.cell 4 37,.tmp 5] Tryz.func12 rfl rfl rfl lb fun g=>?_
  repeat' ((first|refine Ga ?_|refine Gc fun hlen=>?_|refine Ge hck ?_|refine Gd (fun hc=>?_) fun hc=>?_)<;>conv=>whnf)
  exact Bx htt _ rfl rfl rfl rfl
end Mc
end Go.Proofs.YtlgajkoplklkiaaGreat
namespace Go.Proofs.YtlgajkoplklkiaaGreat
namespace Mc
open Go Go.Mq
section
variable {ev ev' : Tree → Ev → Nat → Rs} {fo fo' : Tree → ByteArray → Tree → Vl → Ev → Nat → Rs} {k k' : Nat}
end
section
variable {ev ev' : Tree → Ev → Nat → Rs} {fo fo' : Tree → ByteArray → Tree → Vl → Ev → Nat → Rs} {k k' : Nat}
end
end Mc
end Go.Proofs.YtlgajkoplklkiaaGreat
namespace Go.Proofs.YtlgajkoplklkiaaGreat
open Go Go.Mq Go.ChangeShapes Go.WideShapes Go.Deep Go.RowKit Go.ChangeAt
theorem VQ {W:World}{b o:Nat}{v:Value}(h:W.cell? ⟨b,o,none⟩=some v):(C4 W).cell b o=some v:=by
 unfold World.cell? at h
 split at h
 ·rename_i c T fz hb
  unfold Imm.cell C4
  rw[hb]
  simpa using h
 ·cases h
theorem NY {W:World}{a:Addr}{k:Nat}{v:Value}(hs:a.spot=none)(h:W.cell? (a.add k)=some v):(C4 W).cell a.block (a.off+k)=some v:=by
 obtain⟨b,o,s⟩:=a
 simp only at hs
 subst hs
 rw[Bd]at h
 exact VQ h
theorem QU (a:Addr)(h:(a.add 0).spot=none):a.spot=none:=by
 simpa [Addr.add] using h
section
variable {H : Type} {enc : TypeId × Value → H} {P : Program} {w : World} {base : Nat} {spare : Nat → Bool} {held : Bool}
theorem JU {t e:TypeId}{fs:Array Field}{fuel:Nat}{cs:List Value}{x:DataW H×List MemPlace}(ht:P.underlying t=some (.slice e))(he:P.underlying e=some (.struct fs))
  (hone:oneCellFields P fs=true) (hC:P.cellsOf e=fs.size) (h:DataW.trod enc P w base spare held fuel t cs=some x) :
  (cs=[.slice none 0 0]∧x=(.nil,[])) ∨
  ∃(a:Addr) (len cap m:Nat) (D:Nat→DataW H) (Pl:Nat→List MemPlace),cs=[.slice (some a) len cap]∧base≤a.block∧len≤cap∧cap≤maxLen∧m=(if spare a.block then cap else len) ∧
   x=(.slice ((List.range len).map D) ((List.range (m - len)).map fun j=>D (len+j)),MemPlace.row a (m*fs.size)++(List.range m).flatMap Pl) ∧
   ∀i,i < m→∃(ys:List (DataW H×List MemPlace)) (n:Nat),D i=.agg (ys.map (·.1))∧Pl i=ys.flatMap (·.2)∧ys.length=fs.size ∧
    ∀(j:Nat) (f:Field),fs[j]?=some f→∃(v:Value) (y:DataW H×List MemPlace),w.cell? (a.add (i*fs.size+j))=some v∧ys[j]?=some y∧DataW.trod enc P w base spare held n f.type [v]=some y:=by
 rcases open_slice ht h with h0|⟨a,len,cap,m,n,D,Pl,hcs,hb,hl,hm,hmm,hx,hi⟩
 ·exact .inl h0
 ·refine .inr ⟨a,len,cap,m,D,Pl,hcs,hb,hl,hm,hmm,by rw[hC]at hx;exact hx,fun i him=>?_⟩
  obtain⟨cs',hc,ht'⟩:=hi i him
  rw[hC]at hc
  obtain⟨ys,n',hn',hy,hlen,hyl,hf⟩:=DataW.trod_struct he ht'
  obtain⟨_,hcl,hat⟩:=World.cells?_some hc
  simp only[Prod.mk.injEq]at hy
  refine⟨ys,n',hy.1,hy.2,hyl,fun j f hj=>?_⟩
  obtain⟨ho,hk⟩:=hone_of hone j f hj
  have hjl:j < fs.size:=(Array.getElem?_eq_some_iff.1 hj).1
  have hcell:=hat j hjl
  have hv:cs'[j]?=some (cs'[j]'(by omega)):=List.getElem?_eq_getElem (by omega)
  have h1:=hf j f hj
  rw[ho,hk]at h1
  have hone':(cs'.drop j).take 1=[cs'[j]'(by omega)]:=by
   rw[List.drop_eq_getElem_cons (by omega)]
   rfl
  rw[hone']at h1
  have hys:ys[j]?=some (ys[j]'(by omega)):=List.getElem?_eq_getElem (by omega)
  refine⟨_,_,?_,hys,h1.trans hys⟩
  rw[←Go.Deep.add_add,hcell,hv]
end
theorem Ha {H:Type}{Q:Program}{e:TypeId}:∀{l:List (DataW H)} {d:DataW H} {n:Nat},d∈l→n∈d.weights Q e→n∈DataW.weightsAll Q e l
 | [],_,_,h,_=>by cases h
 | x::l,d,n,h,hn=>by
  simp only[DataW.weightsAll,List.mem_append]
  rcases List.mem_cons.1 h with rfl|h
  ·exact .inl hn
  ·exact .inr (Ha h hn)
theorem Zp:P.cellsOf 3=1:=by kernel_rfl
theorem U0 {H:Type}{enc:TypeId×Value→H}{W:World}{n4 n0 n1 n2 n3:Nat}{v0 v1 v2 v3 v4:Value}{y0 y1 y2 y3 y4:DataW H×List MemPlace}
  (h0:DataW.trod enc P W 0 (fun _=>true) true n0 3 [v0]=some y0) (h1:DataW.trod enc P W 0 (fun _=>true) true n1 3 [v1]=some y1)
  (h2:DataW.trod enc P W 0 (fun _=>true) true n2 9 [v2]=some y2) (h3:DataW.trod enc P W 0 (fun _=>true) true n3 9 [v3]=some y3)
  (h4:DataW.trod enc P W 0 (fun _=>true) true n4 40 [v4]=some y4) (hz:∀n∈y4.1.weights P 40,n≤reachBytes) :
  ∃c:Cel,Cd (C4 W) (GI c 0) v0∧Cd (C4 W) (GI c 1) v1∧Cd (C4 W) (GI c 2) v2∧Cd (C4 W) (GI c 3) v3∧Cd (C4 W) (GI c 4) v4:=by
 obtain⟨k,e0,_,_⟩:=DataW.trod_int Tryz.underlying3 h0
 obtain⟨n,e1,_,_⟩:=DataW.trod_int Tryz.underlying3 h1
 obtain⟨s,e2,_,_⟩:=DataW.trod_string Tryz.underlying9 h2
 obtain⟨m,e3,_,_⟩:=DataW.trod_string Tryz.underlying9 h3
 cases e0;cases e1;cases e2;cases e3
 rcases open_ints Tryz.underlying40 Tryz.underlying3 Zp h4 with⟨e4,_⟩|⟨a,len,cap,zs,e4,_,hl,hc,hzl,hy,hcell,_⟩
 ·cases e4
  exact⟨⟨k,n,s,m,[]⟩,.int,.int,.str,.str,.slice0⟩
 ·cases e4
  simp only[if_true]at hzl
  have hw:=hz ((zs.take len).length*P.bytesOf 3+(zs.drop len).length*P.bytesOf 3) (by
   rw[hy]
   simp[DataW.weights,Tryz.underlying40,lits,Nat.add_mul])
  have hb8:P.bytesOf 3=8:=by kernel_rfl
  have hr:=reachBytes_lt
  rw[hb8,List.length_take]at hw
  have hlm:len≤maxN:=by unfold maxN;omega
  by_cases hc0:cap=0
  ·have hl0:len=0:=by omega
   subst hc0 hl0
   exact⟨⟨k,n,s,m,[]⟩,.int,.int,.str,.str,.sliceE⟩
  ·have hsp:a.spot=none:=QU a (World.cell?_spot (hcell 0 (by omega)))
   obtain⟨b,o,sp⟩:=a
   simp only at hsp
   subst hsp
   have hll:(zs.take len).length=len:=by rw[List.length_take];omega
   refine⟨⟨k,n,s,m,zs.take len⟩,.int,.int,.str,.str,?_⟩
   have key:Cd (C4 W) (.slice len 1 (fun i _=>.int .i64 ((zs.take len).getD i 0))) (.slice (some ⟨b,o,none⟩) len cap):=by
    refine .slice (cs:=fun i _=>.int .i64 ((zs.take len).getD i 0)) hl hlm (fun i j hi hj=>?_) (fun i j hi hj=>.int)
    have:=NY rfl (hcell i (by omega))
    have e:o+i*1+j=o+i:=by omega
    rw[e]
    simp only at this
    rw[this]
    simp[List.getElem?_take,hi]
   show Cd (C4 W) (.slice (zs.take len).length 1 (fun i _=>.int .i64 ((zs.take len).getD i 0))) _
   rw[hll]
   exact key
theorem Mh {α:Type}{D:Nat→α}{n i:Nat}(h:i < n):D i∈(List.range n).map D:=List.mem_map.2 ⟨i,List.mem_range.2 h,rfl⟩
theorem Ri {H:Type}{enc:TypeId×Value→H}{W:World}{fuel:Nat}{v:Value}{y:DataW H×List MemPlace}
  (h:DataW.trod enc P W 0 (fun _=>true) true fuel 22 [v]=some y) (hz:∀n∈y.1.weights P 22,n≤reachBytes):∃l:List Cel,Cd (C4 W) (cellsD l) v:=by
 rcases JU Tryz.underlying22 Tryz.underlying42 (by kernel_rfl) (by kernel_rfl) h with⟨hc,_⟩|⟨a,len,cap,m,D,Pl,hc,_,hl,hm,hmm,hy,hi⟩
 ·cases hc
  exact⟨[],.slice0⟩
 ·cases hc
  simp only[if_true]at hmm
  subst hmm
  have hw:=hz (((List.range len).map D).length*P.bytesOf 42+((List.range (m - len)).map fun j=>D (len+j)).length*P.bytesOf 42) (by
   rw[hy]
   simp[DataW.weights,Tryz.underlying22,Nat.add_mul])
  have hb72:P.bytesOf 42=72:=by kernel_rfl
  have hr:=reachBytes_lt
  rw[hb72,List.length_map,List.length_range]at hw
  have hlm:len≤maxN:=by unfold maxN;omega
  have helem:∀i,i < len→∀n∈(D i).weights P 42,n≤reachBytes:=by
   intro i hil n hn
   refine hz n ?_
   rw[hy]
   simp only[DataW.weights,Tryz.underlying22,List.mem_cons,List.mem_append]
   exact .inr (.inl (Ha (Mh hil) hn))
  by_cases hc0:m=0
  ·have hl0:len=0:=by omega
   subst hc0 hl0
   exact⟨[],.sliceE⟩
  ·have hsp:a.spot=none:=by
    obtain⟨ys,n,_,_,_,hf⟩:=hi 0 (by omega)
    obtain⟨v0,_,hv0,_,_⟩:=hf 0 _ rfl
    exact QU a (World.cell?_spot hv0)
   have each:∀i,i < len→∃p:Cel×(Nat→Value),∀j,j < 5→W.cell? (a.add (i*5+j))=some (p.2 j)∧Cd (C4 W) (GI p.1 j) (p.2 j):=by
    intro i hil
    obtain⟨ys,n,hD,_,hyl,hf⟩:=hi i (by omega)
    obtain⟨v0,y0,c0,g0,t0⟩:=hf 0 _ rfl
    obtain⟨v1,y1,c1,g1,t1⟩:=hf 1 _ rfl
    obtain⟨v2,y2,c2,g2,t2⟩:=hf 2 _ rfl
    obtain⟨v3,y3,c3,g3,t3⟩:=hf 3 _ rfl
    obtain⟨v4,y4,c4,g4,t4⟩:=hf 4 _ rfl
    have hz4:∀n∈y4.1.weights P 40,n≤reachBytes:=by
     intro n hn
     refine helem i hil n ?_
     rw[hD]
     simp only[DataW.weights,Tryz.underlying42]
     exact DataW.weights_mem_each (j:=4) (t:=40) rfl (by rw[List.getElem?_map,g4];rfl) n hn
    obtain⟨c,q0,q1,q2,q3,q4⟩:=U0 t0 t1 t2 t3 t4 hz4
    refine⟨(c,fun j=>if j=0 then v0 else if j=1 then v1 else if j=2 then v2 else if j=3 then v3 else v4),fun j hj=>?_⟩
    match j,hj with
    | 0,_=>exact⟨c0,q0⟩
    | 1,_=>exact⟨c1,q1⟩
    | 2,_=>exact⟨c2,q2⟩
    | 3,_=>exact⟨c3,q3⟩
    | 4,_=>exact⟨c4,q4⟩
   haveI:Inhabited (Cel×(Nat→Value)):=⟨(default,fun _=>undef)⟩
   obtain⟨p,hp⟩:=choose_lt each
   obtain⟨b,o,sp⟩:=a
   simp only at hsp
   subst hsp
   refine⟨(List.range len).map fun i=>(p i).1,?_⟩
   have hll:((List.range len).map fun i=>(p i).1).length=len:=by simp
   have key:Cd (C4 W) (.slice len 5 (fun i j=>GI (((List.range len).map fun i=>(p i).1).getD i default) j)) (.slice (some ⟨b,o,none⟩) len m):=by
    refine .slice (cs:=fun i j=>(p i).2 j) hl hlm (fun i j hil hj=>?_) (fun i j hil hj=>?_)
    ·have:=NY rfl (hp i hil j hj).1
     simp only at this
     rw[←this,Nat.add_assoc]
    ·have:=(hp i hil j hj).2
     have e:((List.range len).map fun i=>(p i).1).getD i default=(p i).1:=by simp[hil]
     rw[e]
     exact this
   show Cd (C4 W) (.slice ((List.range len).map fun i=>(p i).1).length 5 _) _
   rw[hll]
   exact key
theorem T6 {H:Type}{enc:TypeId×Value→H}{W:World}{base:Nat}{v:Value}{d:DataW H}{p:List MemPlace}
  (hv:Value.okWide P W .any base 24 v) (h:DataW.Trod enc P W 0 (fun _=>true) true 24 v d p) (hz:∀n∈d.weights P 24,n≤reachBytes) :
  ∃l:List Cel,∀ρ:Nat→RB,CA (C4 W) ρ (· < 0) (.agg [.d (cellsD l)]) v:=by
 obtain⟨cs,rfl,hcs⟩:=okWide_struct Tryz.underlying24 hv
 obtain⟨fuel,hf⟩:=h
 obtain⟨xs,n,_,hx,hlen,hxl,hfld⟩:=DataW.trod_struct Tryz.underlying24 hf
 have h1:P.cellsOf 24=1:=by kernel_rfl
 obtain⟨cl⟩:=cs
 match cl,hcs.trans h1,xs,hxl with
 | [c0],_,[y0],_ =>
  have h0:DataW.trod enc P W 0 (fun _=>true) true n 22 (((Value.agg #[c0]).cells.toList.drop 0).take (P.cellsOf 22))=some y0:=hfld 0 _ rfl
  have h2:P.cellsOf 22=1:=by kernel_rfl
  have h0':DataW.trod enc P W 0 (fun _=>true) true n 22 [c0]=some y0:=by
   have e:∀k,k=1→((Value.agg #[c0]).cells.toList.drop 0).take k=[c0]:=fun k hk=>by subst hk;rfl
   have h3:=e _ h2
   generalize P.cellsOf 22=k at h0 h3
   rw[←h3]
   exact h0
  obtain⟨l,hl⟩:=Ri h0' (fun m hm=>hz m (by
   cases hx
   simp only[DataW.weights,Tryz.underlying24]
   exact DataW.weights_mem_each (j:=0) (t:=22) rfl rfl m hm))
  refine⟨l,fun ρ=>.agg rfl fun i hi=>?_⟩
  have hi0:i=0:=by simpa using hi
  subst hi0
  exact .d hl
end Go.Proofs.YtlgajkoplklkiaaGreat
namespace Go.Proofs.YtlgajkoplklkiaaGreat
namespace Mc
open Go Go.Mq Tm Sb St
theorem beqB (x y:ByteArray):(x == y)=decide (x=y):=by
 have:(x == y)=(x.data == y.data):=rfl
 rw[this]
 by_cases h:x=y
 ·subst h;simp
 ·have:x.data≠y.data:=fun e=>h (ByteArray.ext e)
  simp[h,this]
theorem eqSI:EqSI P 37:=by
 refine⟨by kernel_rfl,fun a b m n w=>?_⟩
 have h29 : P.underlying 37 = some (.struct #[⟨ "Text", 9, 0, false, "", "", 0⟩, ⟨ "E", 27, 1, false, "", "", 16⟩]) := by kernel_rfl
 have h9:P.underlying 9=some .string:=by kernel_rfl
 have h27:P.underlying 27=some (.int .i64):=by kernel_rfl
 have hs:P.stoodInHeld 37=false:=by kernel_rfl
 have a9:∀w,(isAgg 9).run P w=.ok false w:=Tryz.isAgg9
 have a27:∀w,(isAgg 27).run P w=.ok false w:=Tryz.isAgg27
 have pS:∀(x:ByteArray) (k:Int) (w:World),(part 9 #[Value.string x,.int .i64 k] 0).run P w=.ok (.string x) w:=fun x k w=>by
  simp[part,a9]
 have pI:∀(x:ByteArray) (k:Int) (w:World),(part 27 #[Value.string x,.int .i64 k] 1).run P w=.ok (.int .i64 k) w:=fun x k w=>by
  simp[part,a27]
 have eS:∀(d:Nat) (x y:ByteArray) (w:World),(Op.equalIn (d+1) 9 (.string x) (.string y)).run P w=.ok (decide (x=y)) w:=fun d x y w=>by
  simp only[Op.equalIn,Sem.run_bind,run_underlying h9,Result.andThen_ok,Sem.run_pure]
  rw[beqB]
 have eI:∀(d:Nat) (x y:Int) (w:World),(Op.equalIn (d+1) 27 (.int .i64 x) (.int .i64 y)).run P w=.ok (decide (x=y)) w:=fun d x y w=>by
  simp only[Op.equalIn,Sem.run_bind,run_underlying h27,Result.andThen_ok,if_true,Sem.run_pure];rfl
 unfold Op.equal Op.maxDepth
 generalize hd:9998=d
 have:(10000:Nat)=d+1+1:=by omega
 rw[this]
 unfold Op.equalIn
 simp only[Sem.run_bind,run_underlying h29,Result.andThen_ok]
 simp[pS,pI,eS,eI,hs]
 by_cases h1:a=b<;>by_cases h2:m=n<;>simp[h1,h2]
def wOp:Tree:=.node 145 1 ByteArray.empty ByteArray.empty [.node 131 2 ByteArray.empty ByteArray.empty [],.node 131 3 ByteArray.empty ByteArray.empty []]
def s5:ByteArray:=⟨#[53]⟩
theorem Zf:runF wOp 100=(s5,0,3):=by kernel_rfl
theorem aD:runF wOp 1=(ByteArray.empty,18,1):=by kernel_rfl
theorem DG:Pure P 11 [] (.d (.bool true)):=by
 have h1:=N4 wOp 100 (by decide)
 have h2:=N4 wOp 1 (by decide)
 rw[Zf]at h1
 rw[aD]at h2
 unfold outA wOp s5 at *
 refine Pure.AB tt [7,9,10,12] [0] Tryz.func11 rfl rfl rfl lb fun g=>?_
 repeat' ((first|refine Ga ?_|refine Gc fun hlen=>?_|refine Ge h1 ?_|refine Ge h2 ?_|refine Side.mk eqSI ?_|refine Gd (fun hc=>?_) fun hc=>?_)<;>conv=>whnf)
 all_goals exact Gg
def fit (T:Tree):Prop:=Au T=0∧BC T=true
def finF (r:Rs):ByteArray×Int:=if r.e≠0 then (ByteArray.empty,r.e) else if (wrV r.v (ByteArray.empty,0)).2≠0 then (ByteArray.empty,(wrV r.v (ByteArray.empty,0)).2) else ((wrV r.v (ByteArray.empty,0)).1,0)
theorem Sw {T:Tree}(h:fit T)(f:Nat):runF T (f:Int)=((finF (Bm T f)).1,(finF (Bm T f)).2,(f:Int) - ((Bm T f).f:Int)):=by
 unfold runF finF
 rw[if_neg (by simp[h.1]),if_neg (by rintro (q|q);rw[h.2]at q;cases q;omega),Int.toNat_natCast]
 by_cases h3:(Bm T f).e≠0
 ·rw[if_pos h3,if_pos h3]
 rw[if_neg h3,if_neg h3]
 by_cases h4:(wrV (Bm T f).v (ByteArray.empty,0)).2≠0
 ·rw[if_pos h4,if_pos h4]
 rw[if_neg h4,if_neg h4]
def E3 (e:Int):Prop:=e=0∨e=3∨e=25
theorem Fp:∀{l:List ByteArray} {s:ByteArray} {e:Int},E3 e→E3 (putF l s e).2
 | [],s,e,h=>h
 | x::l,s,e,h=>by
  rw[putF]
  refine Fp ?_
  by_cases hb:16384 < (if e=0 then s++x else s).size
  ·rw[if_pos hb];exact .inr (.inl rfl)
  ·rw[if_neg hb];exact h
mutual
theorem WK:∀(v:Vl) (w:Wr),E3 w.2→E3 (wrV v w).2
 | .num n,w,h=>by rw[wrV];exact Fp h
 | .tru b,w,h=>by rw[wrV];exact Fp h
 | .unt,w,h=>by rw[wrV];exact Fp h
 | .rcd ls ps,w,h=>by
  rw[wrV]
  try dsimp only
  have h2:=ZA ps true ls (putF [sL] w.1 w.2) (Fp h)
  generalize wrL true ls ps (putF [sL] w.1 w.2)=R at h2
  obtain⟨⟨a,b⟩,c⟩:=R
  cases c
  ·rw[if_neg (by simp)];exact Fp h2
  ·rw[if_pos rfl];exact h2
 | .tag nm _ p,w,h=>by
  rw[wrV]
  by_cases h0:w.2≠0
  ·rw[if_pos h0];exact h
  ·rw[if_neg h0]
   exact Fp (WK p _ (Fp h))
 | .clo _ _ _,w,h=>by rw[wrV];unfold D1;dsimp only;split;exact .inr (.inr rfl);exact h
 | .pkd _ _,w,h=>by rw[wrV];unfold D1;dsimp only;split;exact .inr (.inr rfl);exact h
theorem ZA:∀(ps:List Vl) (b:Bool) (ls:List ByteArray) (w:Wr),E3 w.2→E3 (wrL b ls ps w).1.2
 | [],b,ls,w,h=>by rw[wrL];exact h
 | p::ps,b,ls,w,h=>by
  rw[wrL]
  by_cases h0:w.2≠0
  ·rw[if_pos h0];exact h
  ·rw[if_neg h0]
   refine ZA ps false _ _ (WK p _ (Fp ?_))
   split
   ·exact h
   ·exact Fp h
end
theorem Yq (r:Rs):(finF r).2=18↔r.e=18:=by
 unfold finF
 by_cases h3:r.e≠0
 ·rw[if_pos h3]
 ·rw[if_neg h3]
  have h3:r.e=0:=by simpa using h3
  have hw:=WK r.v (ByteArray.empty,0) (.inl rfl)
  unfold E3 at hw
  by_cases h4:(wrV r.v (ByteArray.empty,0)).2≠0
  ·rw[if_pos h4];dsimp only;omega
  ·rw[if_neg h4];dsimp only;omega
end Mc
end Go.Proofs.YtlgajkoplklkiaaGreat
namespace Go.Proofs.YtlgajkoplklkiaaGreat
namespace Mc
open Go Go.Mq Tm Sb St
end Mc
end Go.Proofs.YtlgajkoplklkiaaGreat
namespace Go.Proofs.YtlgajkoplklkiaaGreat
namespace St
open Go Go.Mq Tm Sb
theorem QM {T m:Tree}(h:No.Ac T=(m,0)):AG m=true∧AD m≤65536:=by
 have h1:=No.Jq 1000 T (by show (No.Ac T).2=0;rw[h])
 have e:(No.Di 1000 T).1=m:=by show (No.Ac T).1=m;rw[h]
 rw[e]at h1
 have h2:=(No.Gi h1.2).1
 exact⟨(Ak h2).2,Al h2⟩
theorem J8 {s:ByteArray}:∀{l:List Tree} {x:Tree},Af s l=some x→∃y∈l,x=y.kids.getD 0 .nil
 | [],x,h=>by cases h
 | y::l,x,h=>by
  rw[Af]at h
  split at h
  ·cases h;exact⟨y,by simp,rfl⟩
  ·obtain⟨z,h1,h2⟩:=J8 h
   exact⟨z,by simp[h1],h2⟩
theorem N2 (T:Tree)(hT:AF T=true)(hk:T.kind=148)(hz:AD T≤65536):Pure P 80 [.d (.tree T)] (.tuple [.d (.tree (KE T).1),.d (.int .i64 (KE T).2)]):=by
 have hTn:=AQ hT
 obtain⟨f1,f2,f3,f4⟩:=CY hT hk
 have hsz:=AI hTn
 have hn0:=AQ f2
 have k0:=Gx T hTn 0 (by omega) hn0 146
 have m0:=AA (l:=T.kids) (i:=0) (by omega)
 have s0:=AH m0
 have hse:=AI hn0
 refine Pure.AB tt [79,81] [2,3] Tryz.func80 rfl rfl rfl lb fun g=>?_
 unfold KE
 unfold kidT at *
 by_cases c0:(T.kids.getD 0 .nil).kind=146
 ·rw[decide_eq_true c0]at k0
  rw[ifn]
  obtain⟨g1,g2,g3⟩:=Bs f2 (.inr c0)
  have t1:=AA (l:=(T.kids.getD 0 .nil).kids) (i:=1) (by omega)
  have s1:=AH t1
  have hnm:=No.F2 ((T.kids.getD 0 .nil).kids.getD 0 .nil)
  cases hR:No.Ac ((T.kids.getD 0 .nil).kids.getD 0 .nil) with
  | mk S e =>
  rw[hR]at hnm
  simp only[]
  by_cases he:e=0
  ·subst he
   rw[ifn]
   obtain⟨c1,c2⟩:=QM hR
   have hS:S≠.nil:=by intro q;subst q;rw[AG]at c1;cases c1
   have hp1:=K3 (T.kids.drop 2) (T.kids.getD 0 .nil).name fun x hx=>by
    obtain⟨q1,q2,q3,q4,q5⟩:=AK (f4 x hx)
    exact⟨q1,by omega⟩
   by_cases c3:S.kind=121
   ·have hsf:=PV hS c1 c3
    have hp2:=K3 S.kids (T.kids.getD 0 .nil).name fun x hx=>by
     obtain⟨q1,q2,q3⟩:=Dl (hsf x hx)
     exact⟨q1,by omega⟩
    cases hq1:Af (T.kids.getD 0 .nil).name (T.kids.drop 2) with
    | none =>
     rw[if_pos (.inr (.inl rfl))]
     rw[hq1]at hp1
     repeat' ((first|refine Ga ?_|refine Gc fun hlen=>?_|refine Ge k0 ?_|refine Ge hnm ?_|refine Ge hp1 ?_|refine Side.mk hn0 ?_|refine Side.mk hS ?_|refine Gh ((0:Int)≤0∧(0:Int) < ((T.kids.getD 0 .nil).kids.length:Int)) ?_|refine Gh ((0:Int)≤2∧(2:Int)≤(T.kids.length:Int)) ?_|refine Gd (fun hc=>?_) fun hc=>?_)<;>conv=>whnf)
     exact Gg
    | some A =>
     cases hq2:Af (T.kids.getD 0 .nil).name S.kids with
     | none =>
      rw[if_pos (.inr (.inr rfl))]
      rw[hq1]at hp1
      rw[hq2]at hp2
      repeat' ((first|refine Ga ?_|refine Gc fun hlen=>?_|refine Ge k0 ?_|refine Ge hnm ?_|refine Ge hp1 ?_|refine Ge hp2 ?_|refine Side.mk hn0 ?_|refine Side.mk hS ?_|refine Gh ((0:Int)≤0∧(0:Int) < ((T.kids.getD 0 .nil).kids.length:Int)) ?_|refine Gh ((0:Int)≤2∧(2:Int)≤(T.kids.length:Int)) ?_|refine Gd (fun hc=>?_) fun hc=>?_)<;>conv=>whnf)
      exact Gg
     | some C =>
      rw[if_neg (by simp[c3])]
      rw[hq1]at hp1
      rw[hq2]at hp2
      rw[show oT (some A)=A from rfl]at hp1 ⊢
      rw[show oT (some C)=C from rfl]at hp2 ⊢
      rw[show (some A).isSome=true from rfl]at hp1
      rw[show (some C).isSome=true from rfl]at hp2
      obtain⟨y,hy,rfl⟩:=J8 hq2
      obtain⟨q1,q2,q3⟩:=Dl (hsf y hy)
      have hu:=Tc T hT hk hz _ q3 _ g3 (by omega)
      generalize BS T (y.kids.getD 0 .nil) ((T.kids.getD 0 .nil).kids.getD 1 .nil)=U at *
      have hch:=CH (.node 143 0 ByteArray.empty ByteArray.empty [U,A])
      by_cases hz2:Au (.node 143 0 ByteArray.empty ByteArray.empty [U,A])=0
      ·rw[ifn]
       rw[hz2]at hch
       repeat' ((first|refine Ga ?_|refine Gc fun hlen=>?_|refine Ge k0 ?_|refine Ge hnm ?_|refine Ge hp1 ?_|refine Ge hp2 ?_|refine Ge hu ?_|refine Ge hch ?_|refine Side.mk hn0 ?_|refine Side.mk hS ?_|refine Gh ((0:Int)≤0∧(0:Int) < ((T.kids.getD 0 .nil).kids.length:Int)) ?_|refine Gh ((0:Int)≤1∧(1:Int) < ((T.kids.getD 0 .nil).kids.length:Int)) ?_|refine Gh ((0:Int)≤2∧(2:Int)≤(T.kids.length:Int)) ?_|refine Gd (fun hc=>?_) fun hc=>?_)<;>conv=>whnf)
       exact Gg
      ·rw[ifp]
       generalize Au (.node 143 0 ByteArray.empty ByteArray.empty [U,A])=E at *
       repeat' ((first|refine Ga ?_|refine Gc fun hlen=>?_|refine Ge k0 ?_|refine Ge hnm ?_|refine Ge hp1 ?_|refine Ge hp2 ?_|refine Ge hu ?_|refine Ge hch ?_|refine Side.mk hn0 ?_|refine Side.mk hS ?_|refine Gh ((0:Int)≤0∧(0:Int) < ((T.kids.getD 0 .nil).kids.length:Int)) ?_|refine Gh ((0:Int)≤1∧(1:Int) < ((T.kids.getD 0 .nil).kids.length:Int)) ?_|refine Gh ((0:Int)≤2∧(2:Int)≤(T.kids.length:Int)) ?_|refine Gd (fun hc=>?_) fun hc=>?_)<;>conv=>whnf)
       exact Gg
   ·rw[if_pos (.inl c3)]
    generalize Af (T.kids.getD 0 .nil).name (T.kids.drop 2)=Q at *
    repeat' ((first|refine Ga ?_|refine Gc fun hlen=>?_|refine Ge k0 ?_|refine Ge hnm ?_|refine Ge hp1 ?_|refine Side.mk hn0 ?_|refine Side.mk hS ?_|refine Gh ((0:Int)≤0∧(0:Int) < ((T.kids.getD 0 .nil).kids.length:Int)) ?_|refine Gh ((0:Int)≤2∧(2:Int)≤(T.kids.length:Int)) ?_|refine Gd (fun hc=>?_) fun hc=>?_)<;>conv=>whnf)
    exact Gg
  ·rw[if_pos he]
   repeat' ((first|refine Ga ?_|refine Gc fun hlen=>?_|refine Ge k0 ?_|refine Ge hnm ?_|refine Side.mk hn0 ?_|refine Gh ((0:Int)≤0∧(0:Int) < ((T.kids.getD 0 .nil).kids.length:Int)) ?_|refine Gd (fun hc=>?_) fun hc=>?_)<;>conv=>whnf)
   exact Gg
 ·rw[decide_eq_false c0]at k0
  rw[if_pos c0]
  repeat' ((first|refine Ga ?_|refine Gc fun hlen=>?_|refine Ge k0 ?_|refine Gd (fun hc=>?_) fun hc=>?_)<;>conv=>whnf)
  exact Gg
theorem XR (T:Tree)(hT:AF T=true)(hz:AD T≤65536):Pure P 42 [.d (.tree T)] (.tuple [.d (.tree (HY T).1),.d (.int .i64 (HY T).2)]):=by
 have hTn:=AQ hT
 have hh:=(BR hT).1
 refine Pure.AB tt [] [2,3] Tryz.func42 rfl rfl rfl lb fun g=>?_
 unfold HY
 by_cases k1:T.kind=135
 ·rw[if_pos k1]
  obtain⟨f1,f2,f3⟩:=A8 hT (.inl k1)
  have hn0:=AQ f2
  have k0:=Gx T hTn 0 (by omega) hn0 134
  unfold kidT at *
  by_cases c0:(T.kids.getD 0 .nil).kind=134
  ·rw[decide_eq_true c0]at k0
   rw[if_pos c0]
   obtain⟨g1,g2,g3⟩:=Bs f2 (.inl c0)
   have ht:=H0 ((T.kids.getD 0 .nil).kids.getD 1 .nil) 0 (T.kids.getD 1 .nil)
   generalize CO ((T.kids.getD 0 .nil).kids.getD 1 .nil) 0 (T.kids.getD 1 .nil)=R at *
   repeat' ((first|refine Ga ?_|refine Gc fun hlen=>?_|refine Ge k0 ?_|refine Ge ht ?_|refine Side.mk hn0 ?_|refine Gh ((0:Int)≤1∧(1:Int) < ((T.kids.getD 0 .nil).kids.length:Int)) ?_|refine Gh ((0:Int)≤1∧(1:Int) < (T.kids.length:Int)) ?_|refine Gd (fun hc=>?_) fun hc=>?_)<;>conv=>whnf)
   exact Gg
  ·rw[decide_eq_false c0]at k0
   rw[if_neg c0]
   repeat' ((first|refine Ga ?_|refine Gc fun hlen=>?_|refine Ge k0 ?_|refine Gd (fun hc=>?_) fun hc=>?_)<;>conv=>whnf)
   exact Gg
 rw[if_neg k1]
 by_cases k2:T.kind=140
 ·rw[if_pos k2]
  obtain⟨f1,f2,f3⟩:=Da hT k2
  have hn0:=AQ f2
  have k0:=Gx T hTn 0 (by omega) hn0 139
  unfold kidT at *
  by_cases c0:(T.kids.getD 0 .nil).kind=139
  ·rw[decide_eq_true c0]at k0
   rw[if_pos c0]
   obtain⟨g1,g2,g3⟩:=Er f2 c0
   have ht:=PC ((T.kids.getD 0 .nil).kids.getD 1 .nil) 0 (T.kids.getD 1 .nil)
   generalize conR ((T.kids.getD 0 .nil).kids.getD 1 .nil) 0 (T.kids.getD 1 .nil)=R at *
   repeat' ((first|refine Ga ?_|refine Gc fun hlen=>?_|refine Ge k0 ?_|refine Ge ht ?_|refine Side.mk hn0 ?_|refine Gh ((0:Int)≤1∧(1:Int) < ((T.kids.getD 0 .nil).kids.length:Int)) ?_|refine Gh ((0:Int)≤1∧(1:Int) < (T.kids.length:Int)) ?_|refine Gd (fun hc=>?_) fun hc=>?_)<;>conv=>whnf)
   exact Gg
  ·rw[decide_eq_false c0]at k0
   rw[if_neg c0]
   repeat' ((first|refine Ga ?_|refine Gc fun hlen=>?_|refine Ge k0 ?_|refine Gd (fun hc=>?_) fun hc=>?_)<;>conv=>whnf)
   exact Gg
 rw[if_neg k2]
 by_cases k3:T.kind=138
 ·rw[if_pos k3]
  obtain⟨f1,f2⟩:=GY hT k3
  have hn0:=AQ f2
  have k0:=Gx T hTn 0 (by omega) hn0 136
  unfold kidT at *
  by_cases c0:(T.kids.getD 0 .nil).kind=136
  ·rw[decide_eq_true c0]at k0
   have g1:=(Fq f2 c0).1
   have hp:=K3 (T.kids.getD 0 .nil).kids T.name fun x hx=>by
    obtain⟨q1,q2,q3,q4,q5⟩:=AK (g1 x hx)
    exact⟨q1,by omega⟩
   cases hq:Af T.name (T.kids.getD 0 .nil).kids with
   | none =>
    rw[hq]at hp
    rw[if_neg (by simp)]
    repeat' ((first|refine Ga ?_|refine Gc fun hlen=>?_|refine Ge k0 ?_|refine Ge hp ?_|refine Side.mk hn0 ?_|refine Gd (fun hc=>?_) fun hc=>?_)<;>conv=>whnf)
    exact Gg
   | some x =>
    rw[hq]at hp
    rw[if_pos ⟨c0,rfl⟩]
    repeat' ((first|refine Ga ?_|refine Gc fun hlen=>?_|refine Ge k0 ?_|refine Ge hp ?_|refine Side.mk hn0 ?_|refine Gd (fun hc=>?_) fun hc=>?_)<;>conv=>whnf)
    exact Gg
  ·rw[decide_eq_false c0]at k0
   rw[if_neg (fun q=>c0 q.1)]
   repeat' ((first|refine Ga ?_|refine Gc fun hlen=>?_|refine Ge k0 ?_|refine Gd (fun hc=>?_) fun hc=>?_)<;>conv=>whnf)
   exact Gg
 rw[if_neg k3]
 by_cases k4:T.kind=144
 ·rw[if_pos k4]
  obtain⟨f1,f2,f3,f4⟩:=C0 hT k4
  have hn0:=AQ f2
  have k0:=Gx T hTn 0 (by omega) hn0 132
  unfold kidT at *
  by_cases c0:(T.kids.getD 0 .nil).kind=132
  ·rw[decide_eq_true c0]at k0
   rw[if_pos c0]
   rcases (BR f2).1.n132 c0 with n0|n1
   ·rw[ifn]
    have w:IntKind.i64.wrap (2 - (T.kids.getD 0 .nil).n)=2:=by rw[n0];rfl
    have wn:(IntKind.i64.wrap (2 - (T.kids.getD 0 .nil).n)).toNat=2:=by rw[w];rfl
    repeat' ((first|refine Ga ?_|refine Gc fun hlen=>?_|refine Ge k0 ?_|refine Side.mk hn0 ?_|refine Side.mk (show (0:Int)≤IntKind.i64.wrap (2 - (T.kids.getD 0 .nil).n)∧IntKind.i64.wrap (2 - (T.kids.getD 0 .nil).n) < (T.kids.length:Int) from by rw[w];omega) ?_|refine Gd (fun hc=>?_) fun hc=>?_)<;>conv=>whnf)
    exact Gf rfl (tup2 (A4 (by rw[wn])) rfl) rfl
   ·rw[if_pos n1]
    have w:IntKind.i64.wrap (2 - (T.kids.getD 0 .nil).n)=1:=by rw[n1];rfl
    have wn:(IntKind.i64.wrap (2 - (T.kids.getD 0 .nil).n)).toNat=1:=by rw[w];rfl
    repeat' ((first|refine Ga ?_|refine Gc fun hlen=>?_|refine Ge k0 ?_|refine Side.mk hn0 ?_|refine Side.mk (show (0:Int)≤IntKind.i64.wrap (2 - (T.kids.getD 0 .nil).n)∧IntKind.i64.wrap (2 - (T.kids.getD 0 .nil).n) < (T.kids.length:Int) from by rw[w];omega) ?_|refine Gd (fun hc=>?_) fun hc=>?_)<;>conv=>whnf)
    exact Gf rfl (tup2 (A4 (by rw[wn])) rfl) rfl
  ·rw[decide_eq_false c0]at k0
   rw[if_neg c0]
   repeat' ((first|refine Ga ?_|refine Gc fun hlen=>?_|refine Ge k0 ?_|refine Gd (fun hc=>?_) fun hc=>?_)<;>conv=>whnf)
   exact Gg
 rw[if_neg k4]
 by_cases k5:T.kind=142
 ·rw[if_pos k5]
  obtain⟨f1,f2,f3⟩:=A8 hT (.inr (.inl k5))
  have hn0:=AQ f2
  have k0:=Gx T hTn 0 (by omega) hn0 141
  unfold kidT at *
  by_cases c0:(T.kids.getD 0 .nil).kind=141
  ·rw[decide_eq_true c0]at k0
   rw[if_pos c0]
   obtain⟨g1,g2,g3,g4⟩:=DW f2 c0
   have ht:=H0 (T.kids.getD 1 .nil) 0 ((T.kids.getD 0 .nil).kids.getD 1 .nil)
   have hc:=PC (CO (T.kids.getD 1 .nil) 0 ((T.kids.getD 0 .nil).kids.getD 1 .nil)).1 0 ((T.kids.getD 0 .nil).kids.getD 0 .nil)
   generalize CO (T.kids.getD 1 .nil) 0 ((T.kids.getD 0 .nil).kids.getD 1 .nil)=R at *
   obtain⟨m,e⟩:=R
   simp only[]at ht hc ⊢
   by_cases he:e=0
   ·subst he
    rw[ifn]
    generalize conR m 0 ((T.kids.getD 0 .nil).kids.getD 0 .nil)=S at *
    repeat' ((first|refine Ga ?_|refine Gc fun hlen=>?_|refine Ge k0 ?_|refine Ge ht ?_|refine Ge hc ?_|refine Side.mk hn0 ?_|refine Gh ((0:Int)≤0∧(0:Int) < ((T.kids.getD 0 .nil).kids.length:Int)) ?_|refine Gh ((0:Int)≤1∧(1:Int) < ((T.kids.getD 0 .nil).kids.length:Int)) ?_|refine Gh ((0:Int)≤1∧(1:Int) < (T.kids.length:Int)) ?_|refine Gd (fun hc=>?_) fun hc=>?_)<;>conv=>whnf)
    exact Gg
   ·rw[if_pos he]
    repeat' ((first|refine Ga ?_|refine Gc fun hlen=>?_|refine Ge k0 ?_|refine Ge ht ?_|refine Side.mk hn0 ?_|refine Gh ((0:Int)≤1∧(1:Int) < ((T.kids.getD 0 .nil).kids.length:Int)) ?_|refine Gh ((0:Int)≤1∧(1:Int) < (T.kids.length:Int)) ?_|refine Gd (fun hc=>?_) fun hc=>?_)<;>conv=>whnf)
    exact Gg
  ·rw[decide_eq_false c0]at k0
   rw[if_neg c0]
   repeat' ((first|refine Ga ?_|refine Gc fun hlen=>?_|refine Ge k0 ?_|refine Gd (fun hc=>?_) fun hc=>?_)<;>conv=>whnf)
   exact Gg
 rw[if_neg k5]
 by_cases k6:T.kind=143
 ·rw[if_pos k6]
  obtain⟨f1,f2,f3⟩:=A8 hT (.inr (.inr (.inl k6)))
  unfold kidT at *
  have ht:=H0 (T.kids.getD 1 .nil) 0 (T.kids.getD 0 .nil)
  generalize CO (T.kids.getD 1 .nil) 0 (T.kids.getD 0 .nil)=R at *
  repeat' ((first|refine Ga ?_|refine Gc fun hlen=>?_|refine Ge ht ?_|refine Gh ((0:Int)≤0∧(0:Int) < (T.kids.length:Int)) ?_|refine Gh ((0:Int)≤1∧(1:Int) < (T.kids.length:Int)) ?_|refine Gd (fun hc=>?_) fun hc=>?_)<;>conv=>whnf)
  exact Gg
 rw[if_neg k6]
 by_cases k7:T.kind=145
 ·rw[if_pos k7]
  obtain⟨f1,f2,f3⟩:=A8 hT (.inr (.inr (.inr k7)))
  have ho:=Vp T hTn f1 (AQ f2) (AQ f3) (hh.n145 k7)
  generalize opF T=R at *
  repeat' ((first|refine Ga ?_|refine Gc fun hlen=>?_|refine Ge ho ?_|refine Gd (fun hc=>?_) fun hc=>?_)<;>conv=>whnf)
  exact Gg
 rw[if_neg k7]
 by_cases k8:T.kind=147
 ·rw[if_pos k8]
  obtain⟨f1,f2,f3⟩:=Cg hT k8
  have hn0:=AQ f2
  have k0:=Gx T hTn 0 (by omega) hn0 146
  unfold kidT at *
  by_cases c0:(T.kids.getD 0 .nil).kind=146
  ·rw[decide_eq_true c0]at k0
   obtain⟨g1,g2,g3⟩:=Bs f2 (.inr c0)
   have hp:=K3 (T.kids.drop 1) (T.kids.getD 0 .nil).name fun x hx=>by
    obtain⟨q1,q2,q3,q4,q5⟩:=AK (f3 x hx)
    exact⟨q1,by omega⟩
   cases hq:Af (T.kids.getD 0 .nil).name (T.kids.drop 1) with
   | none =>
    rw[hq]at hp
    rw[if_neg (by simp)]
    repeat' ((first|refine Ga ?_|refine Gc fun hlen=>?_|refine Ge k0 ?_|refine Ge hp ?_|refine Side.mk hn0 ?_|refine Gh ((0:Int)≤1∧(1:Int)≤(T.kids.length:Int)) ?_|refine Gd (fun hc=>?_) fun hc=>?_)<;>conv=>whnf)
    exact Gg
   | some x =>
    rw[hq]at hp
    rw[if_pos ⟨c0,rfl⟩]
    rw[show oT (some x)=x from rfl]at hp ⊢
    rw[show (some x).isSome=true from rfl]at hp
    have ht:=H0 x 0 ((T.kids.getD 0 .nil).kids.getD 1 .nil)
    generalize CO x 0 ((T.kids.getD 0 .nil).kids.getD 1 .nil)=R at *
    repeat' ((first|refine Ga ?_|refine Gc fun hlen=>?_|refine Ge k0 ?_|refine Ge hp ?_|refine Ge ht ?_|refine Side.mk hn0 ?_|refine Gh ((0:Int)≤1∧(1:Int)≤(T.kids.length:Int)) ?_|refine Gh ((0:Int)≤1∧(1:Int) < ((T.kids.getD 0 .nil).kids.length:Int)) ?_|refine Gd (fun hc=>?_) fun hc=>?_)<;>conv=>whnf)
    exact Gg
  ·rw[decide_eq_false c0]at k0
   rw[if_neg (fun q=>c0 q.1)]
   repeat' ((first|refine Ga ?_|refine Gc fun hlen=>?_|refine Ge k0 ?_|refine Gd (fun hc=>?_) fun hc=>?_)<;>conv=>whnf)
   exact Gg
 rw[if_neg k8]
 by_cases k9:T.kind=148
 ·rw[if_pos k9]
  have hf:=N2 T hT k9 hz
  generalize KE T=R at *
  repeat' ((first|refine Ga ?_|refine Gc fun hlen=>?_|refine Ge hf ?_|refine Gd (fun hc=>?_) fun hc=>?_)<;>conv=>whnf)
  exact Gg
 rw[if_neg k9]
 repeat' ((first|refine Ga ?_|refine Gc fun hlen=>?_|refine Gd (fun hc=>?_) fun hc=>?_)<;>conv=>whnf)
 exact Gg
end St
end Go.Proofs.YtlgajkoplklkiaaGreat
namespace Go.Proofs.YtlgajkoplklkiaaGreat
namespace Ty
open Go Go.Mq
def ti76 : TI := ⟨(.struct #[⟨ "kinds", 52, 0, false, "", "marquetry/typing", 0⟩, ⟨ "types", 52, 1, false, "", "marquetry/typing", 24⟩]), 2, 48, (.agg #[(.slice none 0 0), (.slice none 0 0)]), [(0, 1), (1, 1)], true, 0, 0, false⟩
theorem ah:TIok P 76 ti76 where
 und:=by kernel_rfl
 info:=⟨(P.info? 76).getD default,by kernel_rfl,by kernel_rfl,by kernel_rfl,by kernel_rfl⟩
 agg:=rfl
 offm:=fun fs h=>by cases h;kernel_rfl
 offp:=rfl
 offn:=rfl
 elem:=fun e h=>by cases h
 arr:=fun n e h=>by cases h
def Y6:TI:=⟨(.func #[76,25] #[25,27] false),1,8,.nilFunc,[],false,0,0,false⟩
theorem aB:TIok P 105 Y6 where
 und:=by kernel_rfl
 info:=⟨(P.info? 105).getD default,by kernel_rfl,by kernel_rfl,by kernel_rfl,by kernel_rfl⟩
 agg:=rfl
 offm:=fun fs h=>by cases h
 offp:=rfl
 offn:=rfl
 elem:=fun e h=>by cases h
 arr:=fun n e h=>by cases h
def tt:List (Nat×TI):=(76,ti76)::(105,Y6)::Go.Proofs.YtlgajkoplklkiaaGreat.tt
theorem htt:TTok P tt:=.cons ah (.cons aB (Go.Proofs.YtlgajkoplklkiaaGreat.htt))
end Ty
end Go.Proofs.YtlgajkoplklkiaaGreat
namespace Go.Proofs.YtlgajkoplklkiaaGreat
namespace Ki
open Go Go.Mq
def idxF (b:Tree→Bool):Int→List Tree→Int
 | _,[] => -1
 | i,x::l=>if b x=true then i else idxF b (i+1) l
theorem LK (b:Tree→Bool):∀(l:List Tree) (i:Int),0≤i→decide (0≤idxF b i l)=l.any b
 | [],i,_=>by simp[idxF]
 | x::l,i,h=>by
  rw[idxF,List.any_cons]
  split
  ·rename_i hb;rw[hb];simp[h]
  ·rename_i hb
   rw[LK b l (i+1) (by omega)]
   simp only[Bool.not_eq_true]at hb
   rw[hb];rfl
theorem Vr (l:List Tree)(F:Nat)(b:Tree→Bool)(h:∀x∈l,Pure P F [.d (.tree x)] (.d (.bool (b x)))) :
  Pure P 52 [.d (.trees l),.fn F []] (.d (.int .i64 (idxF b 0 l))):=by
 refine Pure.AB tt [] [4] (Tryz.func52) rfl rfl rfl lb fun g=>?_
 repeat' ((first|refine Ga ?_|refine Gc fun hlen=>?_|refine Gd (fun hc=>?_) fun hc=>?_)<;>conv=>whnf)
 refine AY (α:=Nat) (fun p=>⟨[(0,.d (.trees l)),(1,.fn F []),(7,.d (.int .i64 l.length)),(8,.d (.int .i64 p))],19,[],0,g⟩)
   (fun p=>p≤l.length∧idxF b p (l.drop p)=idxF b 0 l) (fun p=>l.length - p) 0 ⟨by omega,rfl⟩
   (Ent.go []) (fun _=>rfl) fun p hpre=>?_
 obtain⟨hp1,hp2⟩:=hpre
 by_cases hp:p < l.length
 ·have hx:=h _ (AA hp)
  rw[AP hp,idxF]at hp2
  cases hb:b (l.getD p .nil) with
  | true =>
   rw[hb]at hx
   rw[if_pos hb]at hp2
   rw[←hp2]
   repeat' ((first|refine Ga ?_|refine Gc fun hlen=>?_|refine Ge hx ?_|refine Gd (fun hc=>?_) fun hc=>?_)<;>conv=>whnf)
   exact Gg
  | false =>
   rw[hb]at hx
   rw[if_neg (by rw[hb];decide)]at hp2
   repeat' ((first|refine Ga ?_|refine Gc fun hlen=>?_|refine Ge hx ?_|refine Gd (fun hc=>?_) fun hc=>?_)<;>conv=>whnf)
   exact⟨p+1,⟨by omega,by rw[←hp2];push_cast;rfl⟩,by omega,Ent.go []⟩
 ·rw[Ab (by omega),idxF]at hp2
  rw[←hp2]
  repeat' ((first|refine Ga ?_|refine Gc fun hlen=>?_|refine Gd (fun hc=>?_) fun hc=>?_)<;>conv=>whnf)
  exact Gg
theorem Kg (l:List Tree)(F:Nat)(b:Tree→Bool)(h:∀x∈l,Pure P F [.d (.tree x)] (.d (.bool (b x)))) :
  Pure P 31 [.d (.trees l),.fn F []] (.d (.bool (l.any b))):=by
 refine Pure.AB tt [] [4] (Tryz.func31) rfl rfl rfl lb fun g=>?_
 repeat' ((first|refine Ga ?_|refine Gc fun hlen=>?_|refine Ge (Vr l F b h) ?_|refine Gd (fun hc=>?_) fun hc=>?_)<;>conv=>whnf)
 exact Gf rfl (AZ (LK b l 0 (Int.le_refl 0))) rfl
theorem RP (T:Tree)(i:Int):Pure P 156 [.d (.tree T),.d (.int .i64 i)] (.d (.bool (Dy T i))):=by
 refine Pure.AB tt [] [4] Tryz.func156 rfl rfl rfl lb fun g=>?_
 repeat' ((first|refine Ga ?_|refine Gc fun hlen=>?_|refine Ge (NV T i) ?_|refine Gd (fun hc=>?_) fun hc=>?_)<;>conv=>whnf)
 exact Gg
mutual
def Cf:Tree→Bool
 | .nil=>false
 | .node k n nm mk l=>if k=110 then true else if k=115 then CX l else !(decide (0 < Dq 0 (.node k n nm mk l) 0))
def CX:List Tree→Bool
 | []=>true
 | x::l=>JL x && CX l
def JL:Tree→Bool
 | .nil=>false
 | .node _ _ _ _ l=>match l with
  | []=>false
  | x::_=>Cf x
end
theorem HL (T:Tree):JL T=Cf (T.kids.getD 0 .nil):=by
 cases T with
 | nil=>rw[JL];simp[Tree.kids,Cf]
 | node k n nm mk l =>
  rw[JL.eq_def]
  cases l with
  | nil=>simp[Tree.kids,Cf]
  | cons=>simp[Tree.kids]
theorem Gl {T:Tree}(h:T≠.nil):Cf T=if T.kind=110 then true else if T.kind=115 then CX T.kids else !(decide (0 < Dq 0 T 0)):=by
 cases T with
 | nil=>exact absurd rfl h
 | node=>rw[Cf];rfl
theorem JD:∀l:List Tree,CX l=!(l.any fun x=>!(Cf (x.kids.getD 0 .nil)))
 | []=>rfl
 | x::l=>by rw[CX,HL,JD l,List.any_cons];cases Cf (x.kids.getD 0 .nil)<;>simp
theorem CF {kind:Int}{x:Tree}(h:BU kind x=true):x≠.nil∧x.kids.length=1∧AG (x.kids.getD 0 .nil)=true:=by
 have hx:x≠.nil:=by intro e;subst e;rw[BU]at h;cases h
 rw[CG hx]at h
 simp only[Bool.and_eq_true,beq_iff_eq]at h
 exact⟨hx,by omega,h.2⟩
theorem GV {T:Tree}(hT:T≠.nil)(h:AG T=true)(hk:T.kind=115):∀x∈T.kids,BU 116 x=true:=by
 rw[Am hT,Bool.and_eq_true]at h
 obtain⟨_,h⟩:=h
 simp[hk]at h
 exact BO h.1
theorem EM {T:Tree}(hT:T≠.nil)(h:AG T=true)(hk:T.kind=121):∀x∈T.kids,BU 122 x=true:=by
 rw[Am hT,Bool.and_eq_true]at h
 obtain⟨_,h⟩:=h
 simp[hk]at h
 exact BO h.1.2
theorem M5 {T:Tree}(h:conE T=0):Dy T 0=decide (0 < Dq 0 T 0):=by
 rw[LQ,Jk,h];simp
theorem Wl {x:Tree}(h:AG x=true)(hz:AD x≤65536):conE x=0:=Db h hz
theorem TT (T:Tree):AG T=true→AD T≤65536→Pure P 148 [.d (.tree T)] (.d (.bool (Cf T))):=by
 suffices h:(AG T=true→AD T≤65536→Pure P 148 [.d (.tree T)] (.d (.bool (Cf T))))∧∀x∈T.kids,AG x=true→AD x≤65536→Pure P 148 [.d (.tree x)] (.d (.bool (Cf x))) from h.1
 induction T using Tree.ind' with
 | h0=>exact⟨fun h=>(by rw[AG]at h;cases h),fun x hx=>(by cases hx)⟩
 | h1 T hT ih=>?_
 refine⟨fun hc hz=>?_,fun x hx=>(ih x hx).1⟩
 have hsz:=AI hT
 have ho:=RP T 0
 rw[M5 (Wl hc hz)]at ho
 have hcon:T.kind=115→Pure P 31 [.d (.trees T.kids),.fn 155 []] (.d (.bool (T.kids.any fun x=>!(Cf (x.kids.getD 0 .nil))))):=fun hk=>by
  refine Kg T.kids 155 _ fun x hx=>?_
  obtain⟨h1,h2,h3⟩:=CF (GV hT hc hk x hx)
  have hs1:=AH hx
  have hs2:=AI h1
  have hs3:=AH (AA (l:=x.kids) (i:=0) (by omega))
  have hp:=(ih x hx).2 (x.kids.getD 0 .nil) (AA (by omega)) h3 (by omega)
  refine Pure.AB tt [] [2] Tryz.func155 rfl rfl rfl lb fun g=>?_
  repeat' ((first|refine Ga ?_|refine Gc fun hlen=>?_|refine Ge hp ?_|refine Gd (fun hc=>?_) fun hc=>?_)<;>conv=>whnf)
  exact Gg
 refine Pure.AB tt [] [2] Tryz.func148 rfl rfl rfl lb fun g=>?_
 repeat' ((first|refine Ga ?_|refine Gc fun hlen=>?_|refine Ge ho ?_|refine Ge (hcon (by assumption)) ?_|refine Gd (fun hc=>?_) fun hc=>?_)<;>conv=>whnf)
 all_goals refine Gf rfl (AZ ?_) rfl
 ·rw[Gl hT,if_pos (by assumption)]
 ·rw[Gl hT,ifn,if_pos (by assumption),JD]
 ·rw[Gl hT,ifn,ifn]
def fitE (l:List Tree):Int:=if CX l=true then 0 else 15
theorem Xp (T:Tree)(hT:T≠.nil)(hc:AG T=true)(hk:T.kind=121)(hz:AD T≤65536):Pure P 126 [.d (.tree T)] (.d (.int .i64 (fitE T.kids))):=by
 have hsz:=AI hT
 refine Pure.AB tt [] [2] Tryz.func126 rfl rfl rfl lb fun g=>?_
 repeat' ((first|refine Ga ?_|refine Gc fun hlen=>?_|refine Gd (fun hc=>?_) fun hc=>?_)<;>conv=>whnf)
 refine AY (α:=Nat) (fun p=>⟨[(8,.d (.trees T.kids)),(9,.d (.int .i64 T.kids.length)),(10,.d (.int .i64 p))],23,[],0,g⟩)
   (fun p=>p≤T.kids.length∧CX (T.kids.drop p)=CX T.kids) (fun p=>T.kids.length - p) 0 ⟨by omega,rfl⟩
   (Ent.go []) (fun _=>rfl) fun p hpre=>?_
 obtain⟨hp1,hp2⟩:=hpre
 unfold fitE
 by_cases hp:p < T.kids.length
 ·have hx:=AA hp
  obtain⟨h1,h2,h3⟩:=CF (EM hT hc hk _ hx)
  have hs1:=AH hx
  have hs2:=AI h1
  have hs3:=AH (AA (l:=(T.kids.getD p .nil).kids) (i:=0) (by omega))
  have hq:=TT ((T.kids.getD p .nil).kids.getD 0 .nil) h3 (by omega)
  rw[AP hp,CX,HL]at hp2
  cases hb:Cf ((T.kids.getD p .nil).kids.getD 0 .nil) with
  | true =>
   rw[hb]at hq hp2
   repeat' ((first|refine Ga ?_|refine Gc fun hlen=>?_|refine Side.mk (show (0:Int)≤0∧(0:Int) < ((T.kids.getD p .nil).kids.length:Int) from by omega) ?_|refine Ge hq ?_|refine Gd (fun hc=>?_) fun hc=>?_)<;>conv=>whnf)
   exact⟨p+1,⟨by omega,by rw[←hp2];rfl⟩,by omega,Ent.go []⟩
  | false =>
   rw[hb]at hq hp2
   rw[←hp2]
   repeat' ((first|refine Ga ?_|refine Gc fun hlen=>?_|refine Side.mk (show (0:Int)≤0∧(0:Int) < ((T.kids.getD p .nil).kids.length:Int) from by omega) ?_|refine Ge hq ?_|refine Gd (fun hc=>?_) fun hc=>?_)<;>conv=>whnf)
   exact Gg
 ·rw[Ab (by omega),CX]at hp2
  rw[←hp2]
  repeat' ((first|refine Ga ?_|refine Gc fun hlen=>?_|refine Gd (fun hc=>?_) fun hc=>?_)<;>conv=>whnf)
  exact Gg
end Ki
end Go.Proofs.YtlgajkoplklkiaaGreat
namespace Go.Proofs.YtlgajkoplklkiaaGreat
open Go Go.Mq Go.RowKit Go.Shelf
def Tryz.Ds:Go.Shelf.Ren:=⟨fun|4=>128|n=>n,fun|0=>0|3=>3|4=>4|9=>9|20=>20|22=>52|25=>25|n=>n,fun|n=>n⟩
theorem Tryz.TC:Go.Proofs.Lays8.n4 Tryz.prog Tryz.Ds:={
 mixed:=by kernel_rfl
 f4:=⟨(Tryz.f128).name,by kernel_rfl,(Tryz.func128).trans (congrArg some (by kernel_rfl))⟩
 t0:=Tryz.underlying0
 a0:=Tryz.isAgg0
 z0:=Tryz.sizeOf0
 v0:=Tryz.zeroValue0
 t3:=Tryz.underlying3
 a3:=Tryz.isAgg3
 z3:=Tryz.sizeOf3
 v3:=Tryz.zeroValue3
 t4:=Tryz.underlying4
 a4:=Tryz.isAgg4
 z4:=Tryz.sizeOf4
 v4:=Tryz.zeroValue4
 t9:=Tryz.underlying9
 a9:=Tryz.isAgg9
 z9:=Tryz.sizeOf9
 v9:=Tryz.zeroValue9
 t20:=Tryz.underlying20
 a20:=Tryz.isAgg20
 z20:=Tryz.sizeOf20
 v20:=Tryz.zeroValue20
 t22:=Tryz.underlying52
 a22:=Tryz.isAgg52
 z22:=Tryz.sizeOf52
 v22:=Tryz.zeroValue52 }
theorem Va (n:Nat)(h0:0 < n)(hn:n≤17592186044416) :
  Fun P (128) [.d .nils,.d (.int .i64 n)] [] 0 (.row 0 0) [(0,.row 25 (.trees []))] 1:=by
 refine⟨⟨_,Tryz.func128,rfl,rfl⟩,fun g E I ρ w vs hr ha=>?_⟩
 obtain⟨vs⟩:=vs
 match vs,ha with
 | [v0,v1],ha =>
  obtain⟨h0',h1,_⟩:=ha
  have e0:=h0'.nils
  have e1:=h1.int
  subst e0 e1
  obtain⟨own,ho⟩:=hr
  have hr:Rel E I ρ (· < 0) (sget []) g w:=⟨own,ho⟩
  have key:=Any8.slices_Grow_grow Tryz.TC ((P.info? 25).getD default) (((P.info? 25).getD default).zero.getD undef) (by kernel_rfl) (by kernel_rfl) (Nat.le_of_ble_eq_true (by kernel_rfl)) none 0 0 n [] w (Nat.le_refl _) (by omega)
   (by
    have:((P.info? 25).getD default).bytes=8:=by kernel_rfl
    rw[this];omega) (by omega) (by simp) (fun _=>rfl) (fun a h=>by cases h)
  refine key.mono ?_
  rintro e w' ⟨rfl,rfl⟩
  have hd:=hr.drew
  have hcap:grownCap w (0+n) 0 (Tryz.Ds.t 25)≤9223372036854775807:=by
   have:=grownCap_le_maxLen w (0+n) 0 (Tryz.Ds.t 25) (by unfold maxLen;omega)
   unfold maxLen at this;omega
  have hge:=grownCap_ge w (0+n) 0 (Tryz.Ds.t 25)
  refine⟨I,upd ρ 0 ⟨w.heap.size,grownCap w (0+n) 0 (Tryz.Ds.t 25),false⟩,_,Imm.le_refl I,fun id hid=>absurd hid (Nat.not_lt_zero _),rfl,?_,?_⟩
  ·have hz:(((P.info? 25).getD default).zero.getD undef).cells.size=1:=by kernel_rfl
   have ha:=hd.alloc (id:=0) (Nat.not_lt_zero 0) (ob:=.cells (([]:List Value).toArray++Builtin.zeroCells (((P.info? 25).getD default).zero.getD undef).cells (0+n - 0)++Builtin.zeroCells (((P.info? 25).getD default).zero.getD undef).cells (grownCap w (0+n) 0 (Tryz.Ds.t 25) - (0+n))) (Tryz.Ds.t 25)) (o:=.row 25 (.trees [])) (cap:=grownCap w (0+n) 0 (Tryz.Ds.t 25)) (fun r hr=>by
    subst hr
    refine .inr ⟨by rw[Aj],Nat.zero_le _,⟨Nat.zero_le _,by rw[Aj];exact hcap⟩,_,by rw[Aj];exact Go.Mq.heap_alloc_new,?_,fun i hi=>absurd hi (by simp[RowC.len])⟩
    rw[Aj]
    simp only[RowC.sz,Nat.mul_one,Array.size_append,size_zeroCells,hz,List.size_toArray,List.length_nil]
    omega)
   have hD:dom (· < 0) 0=(· < 1):=by funext i;simp[dom]
   rw[hD]at ha
   have hG:Objs.upd (sget []) 0 (.row 25 (.trees []))=sget [(0,.row 25 (.trees []))]:=by
    funext i
    simp only[Objs.upd,sget]
    by_cases h:i=0
    ·subst h;rfl
    ·rw[if_neg h,Bk (Ne.symm h)];rfl
   rw[hG]at ha
   exact ha
  ·have:=CA.row (I:=I) (ρ:=upd ρ 0 ⟨w.heap.size,grownCap w (0+n) 0 (Tryz.Ds.t 25),false⟩) (D:=(· < 1)) (id:=0) (n:=0) Nat.zero_lt_one (by rw[Aj]) (Nat.zero_le _) (Nat.zero_le _)
   rw[Aj]at this
   exact this
end Go.Proofs.YtlgajkoplklkiaaGreat
namespace Go.Proofs.YtlgajkoplklkiaaGreat
namespace Ki
open Go Go.Mq
def Sa (a b:List Tree):Mq.Data:=.slice 2 1 fun k j=>[Mq.Data.trees a,Mq.Data.trees b].getD (k*1+j) .nils
theorem Jn (a b:List Tree)(h0:a≠[])(hl:a.length+b.length≤1099511627776):Pure P (90) [.d (Sa a b)] (.d (.trees (a++b))):=by
 have h0':0 < a.length:=by cases a with|nil=>exact absurd rfl h0|cons=>simp
 refine Pure.AB tt [] [2] (Tryz.func90) rfl rfl rfl lb fun g=>?_
 repeat' ((first|refine Ga ?_|refine Gc fun hlen=>?_|refine Gd (fun hc=>?_) fun hc=>?_)<;>conv=>whnf)
 refine AY (α:=Nat×Int) (fun p=>⟨[(0,.d (Sa a b)),(3,.d (.int .i64 p.2)),(9,.d (Sa a b)),(10,.d (.int .i64 2)),(11,.d (.int .i64 p.1))],36,[],0,g⟩)
   (fun p=>(p.1=0∧p.2=0)∨(p.1=1∧p.2=a.length)∨(p.1=2∧p.2=(a.length:Int)+b.length)) (fun p=>2 - p.1) (0,0) (.inl ⟨rfl,rfl⟩)
   (Ent.go []) (fun _=>rfl) fun p hpre=>?_
 obtain⟨i,s⟩:=p
 simp only[]at hpre
 rcases hpre with⟨rfl,rfl⟩|⟨rfl,rfl⟩|⟨rfl,rfl⟩
 ·have hw:IntKind.i64.wrap (0+(a.length:Int))=a.length:=by rw[wrap64]<;>omega
  repeat' ((first|refine Ga ?_|refine Gc fun hlen=>?_|refine Split.AE (show decide (IntKind.i64.wrap (0+(a.length:Int)) < 0)=false from by rw[hw];simp) ?_|refine Gd (fun hc=>?_) fun hc=>?_)<;>conv=>whnf)
  exact⟨(1,(a.length:Int)),.inr (.inl ⟨rfl,rfl⟩),by simp only[];omega,Ent.go []⟩
 ·have hw:IntKind.i64.wrap ((a.length:Int)+(b.length:Int))=(a.length:Int)+b.length:=by rw[wrap64]<;>omega
  repeat' ((first|refine Ga ?_|refine Gc fun hlen=>?_|refine Split.AE (show decide (IntKind.i64.wrap ((a.length:Int)+(b.length:Int)) < 0)=false from by rw[hw];simp;omega) ?_|refine Gd (fun hc=>?_) fun hc=>?_)<;>conv=>whnf)
  exact⟨(2,(a.length:Int)+b.length),.inr (.inr ⟨rfl,rfl⟩),by simp only[];omega,Ent.go []⟩
 have hg:=Va (a.length+b.length) (by omega) (by omega)
 have hg:Fun P (128) [.d .nils,.d (.int .i64 ((a.length:Int)+b.length))] [] 0 (.row 0 0) [(0,.row 25 (.trees []))] 1:=by
  have e:((a.length:Int)+b.length)=((a.length+b.length:Nat):Int):=by push_cast;rfl
  rw[e];exact hg
 repeat' ((first|refine Ga ?_|refine Gc fun hlen=>?_|refine AJ.go hg [] ?_|refine Gd (fun hc=>?_) fun hc=>?_)<;>conv=>whnf)
 refine AY (α:=Nat×List Tree) (fun p=>⟨[(6,.row 0 p.2.length),(25,.d (Sa a b)),(26,.d (.int .i64 2)),(27,.d (.int .i64 p.1))],36,[(0,.row 25 (.trees p.2))],1,g⟩)
   (fun p=>(p.1=0∧p.2=[])∨(p.1=1∧p.2=a)∨(p.1=2∧p.2=a++b)) (fun p=>2 - p.1) (0,[]) (.inl ⟨rfl,rfl⟩)
   (Ent.go [0]) (fun _=>rfl) fun p hpre=>?_
 obtain⟨i,o⟩:=p
 simp only[]at hpre
 rcases hpre with⟨rfl,rfl⟩|⟨rfl,rfl⟩|⟨rfl,rfl⟩
 ·repeat' ((first|refine Ga ?_|refine Gc fun hlen=>?_|refine Side.mk (show (0+a.length≤maxN∧(0+a.length)*8≤140737488355328) from⟨by unfold maxN;omega,by omega⟩) ?_|refine Gd (fun hc=>?_) fun hc=>?_)<;>conv=>whnf)
  exact⟨(1,a),.inr (.inl ⟨rfl,rfl⟩),by simp only[];omega,Ent.re [1] rfl rfl rfl rfl rfl rfl (by repeat' first|exact trivial|apply And.intro|rfl|(show AVal.row 1 (0+a.length)=AVal.row 1 a.length;rw[Nat.zero_add])) (by repeat' first|exact trivial|apply And.intro|rfl|(refine int_eq ?_;rw[wrap64]<;>omega))⟩
 ·repeat' ((first|refine Ga ?_|refine Gc fun hlen=>?_|refine Side.mk (show (o.length+b.length≤maxN∧(o.length+b.length)*8≤140737488355328) from⟨by unfold maxN;omega,by omega⟩) ?_|refine Gd (fun hc=>?_) fun hc=>?_)<;>conv=>whnf)
  exact⟨(2,o++b),.inr (.inr ⟨rfl,rfl⟩),by simp only[];omega,Ent.re [1] rfl rfl rfl rfl rfl rfl (by repeat' first|exact trivial|apply And.intro|rfl|(show AVal.row 1 (o.length+b.length)=AVal.row 1 (o++b).length;rw[List.length_append])) (by repeat' first|exact trivial|apply And.intro|rfl|(refine int_eq ?_;rw[wrap64]<;>omega))⟩
 ·repeat' ((first|refine Ga ?_|refine Gc fun hlen=>?_|refine Gd (fun hc=>?_) fun hc=>?_)<;>conv=>whnf)
  refine RetS.ent (σ':=⟨[(2,.row 0 (a++b).length)],36,[(0,.row 25 (.trees (a++b)))],1,g⟩) (Ent.go [0]) ?_
  refine RetS.ent (Ent.Cu 0 (l:=a++b) rfl (by repeat' first|exact trivial|apply And.intro|rfl|exact hp2.symm|exact Nat.zero_lt_one|omega) (by repeat' first|exact trivial|apply And.intro|rfl|exact hp2.symm|exact Nat.zero_lt_one|omega)) ?_
  exact Gg
theorem JO (k:Tree)(ctx:List Tree)(hl:ctx.length≤549755813888):Pure P 123 [.d (.tree k),.d (.trees ctx)] (.d (.trees (k::ctx))):=by
 have hc:=Jn [k] ctx (by simp) (by simp;omega)
 refine Pure.AB tt [6,8] [4] Tryz.func123 rfl rfl rfl lb fun g=>?_
 repeat' ((first|refine Ga ?_|refine Gc fun hlen=>?_|refine Ge hc ?_|refine Gd (fun hc=>?_) fun hc=>?_)<;>conv=>whnf)
 exact Gg
def Dz:Tree:=.node 100 0 ByteArray.empty ByteArray.empty []
theorem GO:Pure P 125 [] (.d (.tree Dz)):=by
 refine Pure.AB tt [2] [0] Tryz.func125 rfl rfl rfl lb fun g=>?_
 repeat' ((first|refine Ga ?_|refine Gc fun hlen=>?_|refine Gd (fun hc=>?_) fun hc=>?_)<;>conv=>whnf)
 exact Gg
def DS (l:List Tree):List Tree:=l.map fun x=>x.kids.getD 0 .nil
theorem HX (T:Tree)(hT:T≠.nil)(h:∀x∈T.kids,x≠.nil∧x.kids.length=1):Pure P 122 [.d (.tree T)] (.d (.trees (DS T.kids))):=by
 refine Pure.AB tt [] [2] Tryz.func122 rfl rfl rfl lb fun g=>?_
 repeat' ((first|refine Ga ?_|refine Gc fun hlen=>?_|refine Gd (fun hc=>?_) fun hc=>?_)<;>conv=>whnf)
 refine AY (α:=Nat) (fun p=>⟨[(3,.row 0 p),(9,.d (.trees T.kids)),(10,.d (.int .i64 T.kids.length)),(11,.d (.int .i64 p))],26,[(0,.row 25 (.trees (DS (T.kids.take p))))],1,g⟩)
   (fun p=>p≤T.kids.length) (fun p=>T.kids.length - p) 0 (by omega)
   (Ent.nil rfl rfl rfl (by repeat' first|exact trivial|apply And.intro|rfl|(refine int_eq ?_;rw[wrap64]<;>omega)) (by repeat' first|exact trivial|apply And.intro|rfl|(refine int_eq ?_;rw[wrap64]<;>omega))) (fun _=>rfl) fun p hp1=>?_
 have hp2:(DS (T.kids.take p)).length=p:=by unfold DS;simp;omega
 by_cases hp:p < T.kids.length
 ·obtain⟨h1,h2⟩:=h _ (AA hp)
  have hts:DS (T.kids.take (p+1))=DS (T.kids.take p)++[(T.kids.getD p .nil).kids.getD 0 .nil]:=by
   unfold DS;rw[←D8 hp];simp
  repeat' ((first|refine Ga ?_|refine Gc fun hlen=>?_|refine Side.mk (show (0:Int)≤0∧(0:Int) < ((T.kids.getD p .nil).kids.length:Int) from by omega) ?_|refine Gh ((p+1≤17592186044416∧(p+1)*8≤140737488355328)) ?_|refine Gd (fun hc=>?_) fun hc=>?_)<;>conv=>whnf)
  exact⟨p+1,by omega,by omega,Ent.re [2] rfl rfl rfl rfl rfl rfl (by repeat' first|exact trivial|apply And.intro|rfl|(refine int_eq ?_;rw[wrap64]<;>omega)) (by repeat' first|exact trivial|apply And.intro|rfl|(rw[hts];rfl))⟩
 ·have e:T.kids.take p=T.kids:=List.take_of_length_le (by omega)
  rw[e]
  rw[e]at hp2
  repeat' ((first|refine Ga ?_|refine Gc fun hlen=>?_|refine Gd (fun hc=>?_) fun hc=>?_)<;>conv=>whnf)
  refine RetS.ent (Ent.Cu 0 (l:=DS T.kids) rfl (by repeat' first|exact trivial|apply And.intro|rfl|exact hp2.symm|exact Nat.zero_lt_one|omega) (by repeat' first|exact trivial|apply And.intro|rfl|exact hp2.symm|exact Nat.zero_lt_one|omega)) ?_
  exact Gg
def SX (a b:Tree):Tree:=.node 101 0 ByteArray.empty ByteArray.empty [a,b]
def Ek (r:Tree×Int):Int:=if r.2≠0 then r.2 else if r.1.kind≠100 then 10 else 0
def EV (e:Int):Tree×Int:=if e=0 then (Dz,0) else (.nil,e)
def appR (f k:Tree×Int):Tree×Int:=if f.2≠0 then (.nil,f.2) else if k.2≠0 then (.nil,k.2) else if f.1.kind≠101∨BQ (f.1.kids.getD 0 .nil) k.1=false then (.nil,10) else (f.1.kids.getD 1 .nil,0)
mutual
def Bp (ctx:List Tree)(t:Tree):Tree×Int:=match t with
 | .nil=>(.nil,0)
 | .node k n nm mk l =>
  if k=110 then (if (ctx.length:Int)≤n then (.nil,8) else (ctx.getD n.toNat .nil,0))
  else if k=114 then EV (C7 ctx l)
  else if k=115 then EV (DC ctx l)
  else if k=117∨k=118 then EV (Ek (Eb (l.getD 0 .nil::ctx) 1 l))
  else if k=119 then (if (Eb (l.getD 0 .nil::ctx) 1 l).2≠0 then (.nil,(Eb (l.getD 0 .nil::ctx) 1 l).2) else (SX (l.getD 0 .nil) (Eb (l.getD 0 .nil::ctx) 1 l).1,0))
  else if k=120 then appR (Eb ctx 0 l) (Eb ctx 1 l)
  else if k=121 then (if DC (Dz::ctx) l≠0 then (.nil,DC (Dz::ctx) l) else if fitE l≠0 then (.nil,fitE l) else (Dz,0))
  else (Dz,0)
termination_by structural t
def Eb (ctx:List Tree)(i:Nat)(t:List Tree):Tree×Int:=match t with
 | []=>(.nil,0)
 | x::l=>match i with
  | 0=>Bp ctx x
  | i+1=>Eb ctx i l
termination_by structural t
def C7 (ctx:List Tree)(t:List Tree):Int:=match t with
 | []=>0
 | x::l=>if Ek (Bp ctx x)≠0 then Ek (Bp ctx x) else C7 ctx l
termination_by structural t
def DC (ctx:List Tree)(t:List Tree):Int:=match t with
 | []=>0
 | x::l=>if LF ctx x≠0 then LF ctx x else DC ctx l
termination_by structural t
def LF (ctx:List Tree)(t:Tree):Int:=match t with
 | .nil=>0
 | .node _ _ _ _ l=>Ek (Eb ctx 0 l)
termination_by structural t
end
theorem Jt (ctx:List Tree):∀(l:List Tree) (i:Nat),Eb ctx i l=Bp ctx (l.getD i .nil)
 | [],i=>by rw[Eb];simp[Bp]
 | x::l,0=>by rw[Eb];rfl
 | x::l,i+1=>by rw[Eb];exact Jt ctx l i
theorem Ml (ctx:List Tree){T:Tree}(h:T≠.nil):LF ctx T=Ek (Bp ctx (T.kids.getD 0 .nil)):=by
 cases T with
 | nil=>exact absurd rfl h
 | node=>rw[LF,Jt];rfl
theorem IW (ctx:List Tree):∀l:List Tree,(∀x∈l,x≠.nil)→DC ctx l=C7 ctx (DS l)
 | [],_=>by simp[DC,DS,C7]
 | x::l,h=>by
  have:=IW ctx l fun y hy=>h y (by simp[hy])
  unfold DS at *
  rw[DC,List.map_cons,C7,Ml ctx (h x (by simp)),this]
theorem LO (ctx:List Tree){T:Tree}(h:T≠.nil):Bp ctx T =
  if T.kind=110 then (if (ctx.length:Int)≤T.n then (.nil,8) else (ctx.getD T.n.toNat .nil,0))
  else if T.kind=114 then EV (C7 ctx T.kids)
  else if T.kind=115 then EV (DC ctx T.kids)
  else if T.kind=117∨T.kind=118 then EV (Ek (Bp (T.kids.getD 0 .nil::ctx) (T.kids.getD 1 .nil)))
  else if T.kind=119 then (if (Bp (T.kids.getD 0 .nil::ctx) (T.kids.getD 1 .nil)).2≠0 then (.nil,(Bp (T.kids.getD 0 .nil::ctx) (T.kids.getD 1 .nil)).2) else (SX (T.kids.getD 0 .nil) (Bp (T.kids.getD 0 .nil::ctx) (T.kids.getD 1 .nil)).1,0))
  else if T.kind=120 then appR (Bp ctx (T.kids.getD 0 .nil)) (Bp ctx (T.kids.getD 1 .nil))
  else if T.kind=121 then (if DC (Dz::ctx) T.kids≠0 then (.nil,DC (Dz::ctx) T.kids) else if fitE T.kids≠0 then (.nil,fitE T.kids) else (Dz,0))
  else (Dz,0):=by
 cases T with
 | nil=>exact absurd rfl h
 | node k n nm mk l=>rw[Bp];simp only[Jt];rfl
def KZ (ctx:List Tree):Prop:=∀k∈ctx,AU k=true
theorem Ky {k:Tree}(h:AU k=true):k≠.nil:=by intro e;subst e;rw[AU]at h;cases h
theorem H5:AU Dz=true:=by kernel_rfl
theorem TW {a b:Tree}(ha:AU a=true)(hb:AU b=true):AU (SX a b)=true:=by
 unfold SX
 rw[BP (by simp)]
 simp[Tree.kind,Tree.kids,CP,Tree.mark,Tree.name,Tree.n,ha,hb]
theorem QC {k:Tree}(h:AU k=true)(hk:k.kind=101):k.kids.length=2∧AU (k.kids.getD 0 .nil)=true∧AU (k.kids.getD 1 .nil)=true:=by
 rw[BP (Ky h),ifn,if_pos hk]at h
 simp only[Bool.and_eq_true,beq_iff_eq]at h
 exact⟨by omega,h.1.2,h.2⟩
theorem FH {k:Tree}{ctx:List Tree}(h:AU k=true)(hc:KZ ctx):KZ (k::ctx):=by
 intro x hx
 rcases List.mem_cons.1 hx with rfl|hx
 ·exact h
 ·exact hc x hx
theorem Te {ctx:List Tree}(hc:KZ ctx){i:Nat}(hi:i < ctx.length):AU (ctx.getD i .nil)=true:=hc _ (AA hi)
theorem Ie {e:Int}(h:(EV e).2=0):AU (EV e).1=true:=by
 unfold EV at *
 split
 ·exact H5
 ·rename_i he;rw[if_neg he]at h;exact absurd h he
theorem H2 {T:Tree}(hT:T≠.nil)(h:AG T=true)(hk:T.kind=114∨T.kind=120):T.kids.length=2∧AG (T.kids.getD 0 .nil)=true∧AG (T.kids.getD 1 .nil)=true:=by
 rw[Am hT,Bool.and_eq_true]at h
 obtain⟨_,h⟩:=h
 rw[ifn,ifn,if_pos hk]at h
 simp only[Bool.and_eq_true,beq_iff_eq]at h
 exact⟨by omega,h.1.2,h.2⟩
theorem E4 {T:Tree}(hT:T≠.nil)(h:AG T=true)(hk:T.kind=117∨T.kind=118∨T.kind=119):T.kids.length=2∧AU (T.kids.getD 0 .nil)=true∧AG (T.kids.getD 1 .nil)=true:=by
 rw[Am hT,Bool.and_eq_true]at h
 obtain⟨_,h⟩:=h
 rw[ifn,ifn,ifn,ifn,if_pos hk]at h
 simp only[Bool.and_eq_true,beq_iff_eq]at h
 exact⟨by omega,h.1.2,h.2⟩
theorem Kt {T:Tree}(hT:T≠.nil)(h:AG T=true)(hk:T.kind=110):0≤T.n∧T.n≤65536:=by
 rw[Am hT,Bool.and_eq_true]at h
 obtain⟨_,h⟩:=h
 rw[if_pos hk]at h
 simp only[Bool.and_eq_true,decide_eq_true_eq]at h
 exact h.1
theorem Vh {T:Tree}(hT:T≠.nil)(h:AG T=true):T.kind=110∨T.kind=111∨T.kind=112∨T.kind=113∨T.kind=114∨T.kind=115∨T.kind=117∨T.kind=118∨T.kind=119∨T.kind=120∨T.kind=121:=by
 rw[Am hT,Bool.and_eq_true]at h
 obtain⟨_,h⟩:=h
 apply Decidable.byContradiction
 intro hn
 rw[ifn,ifn,ifn,ifn,ifn,ifn]at h
 cases h
theorem GS (T:Tree):AG T=true→∀ctx,KZ ctx→(Bp ctx T).2=0→AU (Bp ctx T).1=true:=by
 induction T using Tree.ind' with
 | h0=>intro h;rw[AG]at h;cases h
 | h1 T hT ih =>
  intro hc ctx hx
  rw[LO ctx hT]
  split
  ·rename_i hk
   have hv:=Kt hT hc hk
   split
   ·intro h;cases h
   ·intro _;exact Te hx (by omega)
  split
  ·exact Ie
  split
  ·exact Ie
  split
  ·exact Ie
  split
  ·rename_i hk
   obtain⟨h1,h2,h3⟩:=E4 hT hc (.inr (.inr hk))
   split
   ·intro h;exact absurd h ‹_›
   ·rename_i he
    intro _
    exact TW h2 (ih _ (AA (by omega)) h3 _ (FH h2 hx) (by simpa using he))
  split
  ·rename_i hk
   obtain⟨h1,h2,h3⟩:=H2 hT hc (.inr hk)
   unfold appR
   split
   ·intro h;exact absurd h ‹_›
   ·rename_i he
    split
    ·intro h;exact absurd h ‹_›
    ·split
     ·intro h;cases h
     ·rename_i hs
      intro _
      have hf:=ih _ (AA (i:=0) (by omega)) h2 ctx hx (by simpa using he)
      exact (QC hf (by apply Decidable.byContradiction;intro h;exact hs (.inl h))).2.2
  split
  ·split
   ·intro h;exact absurd h ‹_›
   ·split
    ·intro h;exact absurd h ‹_›
    ·intro _;exact H5
  ·intro _;exact H5
theorem Wa {R:Tree×Int}(h:R.2=0)(hk:R.1.kind=100):Ek R=0:=by
 unfold Ek;rw[ifn,ifn]
theorem Rc {R:Tree×Int}(h:R.2=0)(hk:R.1.kind≠100):Ek R=10:=by
 unfold Ek;rw[ifn,if_pos hk]
theorem Tk {R:Tree×Int}(h:R.2≠0):Ek R=R.2:=by
 unfold Ek;rw[if_pos h]
def KQ (x:Tree):Prop:=AG x=true→∀ctx:List Tree,KZ ctx→ctx.length+AD x≤274877906944→Pure P 88 [.d (.trees ctx),.d (.tree x)] (.tuple [.d (.tree (Bp ctx x).1),.d (.int .i64 (Bp ctx x).2)])
theorem Hp (ctx l:List Tree)(hx:KZ ctx)(h:∀x∈l,KQ x∧AG x=true∧ctx.length+AD x≤274877906944) :
  Pure P 121 [.d (.trees ctx),.d (.trees l)] (.tuple [.d (.tree (EV (C7 ctx l)).1),.d (.int .i64 (EV (C7 ctx l)).2)]):=by
 refine Pure.AB tt [] [4,5] Tryz.func121 rfl rfl rfl lb fun g=>?_
 repeat' ((first|refine Ga ?_|refine Gc fun hlen=>?_|refine Gd (fun hc=>?_) fun hc=>?_)<;>conv=>whnf)
 refine AY (α:=Nat) (fun p=>⟨[(0,.d (.trees ctx)),(10,.d (.trees l)),(11,.d (.int .i64 l.length)),(12,.d (.int .i64 p))],32,[],0,g⟩)
   (fun p=>p≤l.length∧C7 ctx (l.drop p)=C7 ctx l) (fun p=>l.length - p) 0 ⟨by omega,rfl⟩
   (Ent.go []) (fun _=>rfl) fun p hpre=>?_
 obtain⟨hp1,hp2⟩:=hpre
 by_cases hp:p < l.length
 ·obtain⟨h1,h2,h3⟩:=h _ (AA hp)
  have hk:=h1 h2 ctx hx h3
  have hne:=GS _ h2 ctx hx
  rw[AP hp,C7]at hp2
  generalize Bp ctx (l.getD p .nil)=R at *
  by_cases he:R.2=0
  ·have hne:=Ky (hne he)
   rw[he]at hk
   by_cases hs:R.1.kind=100
   ·rw[Wa he hs,if_neg (by decide)]at hp2
    repeat' ((first|refine Ga ?_|refine Gc fun hlen=>?_|refine Ge hk ?_|refine Gd (fun hc=>?_) fun hc=>?_)<;>conv=>whnf)
    exact⟨p+1,⟨by omega,hp2⟩,by omega,Ent.go []⟩
   ·rw[Rc he hs,if_pos (by decide)]at hp2
    rw[←hp2]
    repeat' ((first|refine Ga ?_|refine Gc fun hlen=>?_|refine Ge hk ?_|refine Gd (fun hc=>?_) fun hc=>?_)<;>conv=>whnf)
    exact Gg
  ·rw[Tk he,if_pos he]at hp2
   rw[←hp2]
   have e:EV R.2=(.nil,R.2):=by unfold EV;rw[if_neg he]
   rw[e]
   repeat' ((first|refine Ga ?_|refine Gc fun hlen=>?_|refine Ge hk ?_|refine Gd (fun hc=>?_) fun hc=>?_)<;>conv=>whnf)
   exact Gg
 ·rw[Ab (by omega),C7]at hp2
  rw[←hp2]
  repeat' ((first|refine Ga ?_|refine Gc fun hlen=>?_|refine Ge GO ?_|refine Gd (fun hc=>?_) fun hc=>?_)<;>conv=>whnf)
  exact Gg
theorem WN (ctx:List Tree)(T:Tree)(hT:T≠.nil)(hx:KZ ctx)(hc:AG T=true)(hk:T.kind=120)(hl:ctx.length+AD T≤274877906944)(h:∀x∈T.kids,KQ x) :
  Pure P 124 [.d (.trees ctx),.d (.tree T)] (.tuple [.d (.tree (appR (Bp ctx (T.kids.getD 0 .nil)) (Bp ctx (T.kids.getD 1 .nil))).1),.d (.int .i64 (appR (Bp ctx (T.kids.getD 0 .nil)) (Bp ctx (T.kids.getD 1 .nil))).2)]):=by
 obtain⟨h1,h2,h3⟩:=H2 hT hc (.inr hk)
 have hsz:=AI hT
 have s0:=AH (AA (l:=T.kids) (i:=0) (by omega))
 have s1:=AH (AA (l:=T.kids) (i:=1) (by omega))
 have k0:=h _ (AA (i:=0) (by omega)) h2 ctx hx (by omega)
 have k1:=h _ (AA (i:=1) (by omega)) h3 ctx hx (by omega)
 have n0:=GS _ h2 ctx hx
 have n1:=GS _ h3 ctx hx
 refine Pure.AB tt [] [4,5] Tryz.func124 rfl rfl rfl lb fun g=>?_
 generalize Bp ctx (T.kids.getD 0 .nil)=F at *
 generalize Bp ctx (T.kids.getD 1 .nil)=K at *
 unfold appR
 by_cases hF:F.2=0
 ·rw[ifn]
  have n0:=n0 hF
  have n0n:=Ky n0
  rw[hF]at k0
  by_cases hK:K.2=0
  ·rw[ifn]
   rw[hK]at k1
   by_cases ha:F.1.kind=101
   ·obtain⟨a1,a2,a3⟩:=QC n0 ha
    have hs:=FV (F.1.kids.getD 0 .nil) K.1
    cases hq:BQ (F.1.kids.getD 0 .nil) K.1 with
    | true =>
     rw[hq]at hs
     rw[if_neg (by rintro (h|h);exact h ha;cases h)]
     repeat' ((first|refine Ga ?_|refine Gc fun hlen=>?_|refine Ge k0 ?_|refine Ge k1 ?_|refine Ge hs ?_|refine Gd (fun hc=>?_) fun hc=>?_)<;>conv=>whnf)
     exact Gg
    | false =>
     rw[hq]at hs
     rw[if_pos (.inr rfl)]
     repeat' ((first|refine Ga ?_|refine Gc fun hlen=>?_|refine Ge k0 ?_|refine Ge k1 ?_|refine Ge hs ?_|refine Gd (fun hc=>?_) fun hc=>?_)<;>conv=>whnf)
     exact Gg
   ·rw[if_pos (.inl ha)]
    repeat' ((first|refine Ga ?_|refine Gc fun hlen=>?_|refine Ge k0 ?_|refine Ge k1 ?_|refine Gd (fun hc=>?_) fun hc=>?_)<;>conv=>whnf)
    exact Gg
  ·rw[if_pos hK]
   repeat' ((first|refine Ga ?_|refine Gc fun hlen=>?_|refine Ge k0 ?_|refine Ge k1 ?_|refine Gd (fun hc=>?_) fun hc=>?_)<;>conv=>whnf)
   exact Gg
 ·rw[if_pos hF]
  repeat' ((first|refine Ga ?_|refine Gc fun hlen=>?_|refine Ge k0 ?_|refine Gd (fun hc=>?_) fun hc=>?_)<;>conv=>whnf)
  exact Gg
end Ki
end Go.Proofs.YtlgajkoplklkiaaGreat
namespace Go.Proofs.YtlgajkoplklkiaaGreat
namespace Ki
open Go Go.Mq
theorem LV (ctx:List Tree)(x:Tree):C7 ctx [x]=Ek (Bp ctx x):=by
 rw[C7,C7]
 split
 ·rfl
 ·rename_i h;apply Eq.symm;simpa using h
theorem NP {kind:Int}{l:List Tree}(h:∀x∈l,BU kind x=true):∀y∈DS l,∃x∈l,y=x.kids.getD 0 .nil∧y∈x.kids∧AG y=true∧AD y≤AV l:=by
 intro y hy
 unfold DS at hy
 obtain⟨x,hx,rfl⟩:=List.mem_map.1 hy
 obtain⟨h1,h2,h3⟩:=CF (h x hx)
 have hm:=AA (l:=x.kids) (i:=0) (by omega)
 have s1:=AH hx
 have s2:=AI h1
 have s3:=AH hm
 exact⟨x,hx,rfl,hm,h3,by omega⟩
theorem Jd (T:Tree):AD T≤65536→KQ T:=by
 suffices h:(AD T≤65536→KQ T)∧∀x∈T.kids,AD x≤65536→KQ x from h.1
 induction T using Tree.ind' with
 | h0=>exact⟨fun _ h=>(by rw[AG]at h;cases h),fun x hx=>(by cases hx)⟩
 | h1 T hT ih=>?_
 refine⟨fun hzz hcon ctx hx hl=>?_,fun x hx=>(ih x hx).1⟩
 have hsz:=AI hT
 have kids:∀i,i < T.kids.length→KQ (T.kids.getD i .nil):=fun i hi=>(ih _ (AA hi)).1 (by have:=AH (AA hi);omega)
 have e:=LO ctx hT
 refine Pure.AB tt [100,102,66] [4,5] Tryz.func88 rfl rfl rfl lb fun g=>?_
 rcases Vh hT hcon with hk|hk|hk|hk|hk|hk|hk|hk|hk|hk|hk
 ·have hv:=Kt hT hcon hk
  rw[if_pos hk]at e
  by_cases hn:(ctx.length:Int)≤T.n
  ·rw[if_pos hn]at e
   rw[e]
   repeat' ((first|refine Ga ?_|refine Gc fun hlen=>?_|refine Gd (fun hc=>?_) fun hc=>?_)<;>conv=>whnf)
   exact Gg
  ·rw[if_neg hn]at e
   rw[e]
   repeat' ((first|refine Ga ?_|refine Gc fun hlen=>?_|refine Gd (fun hc=>?_) fun hc=>?_)<;>conv=>whnf)
   exact Gg
 ·rw[ifn,ifn,ifn,ifn,ifn,ifn,ifn]at e
  rw[e]
  repeat' ((first|refine Ga ?_|refine Gc fun hlen=>?_|refine Ge GO ?_|refine Gd (fun hc=>?_) fun hc=>?_)<;>conv=>whnf)
  exact Gg
 ·rw[ifn,ifn,ifn,ifn,ifn,ifn,ifn]at e
  rw[e]
  repeat' ((first|refine Ga ?_|refine Gc fun hlen=>?_|refine Ge GO ?_|refine Gd (fun hc=>?_) fun hc=>?_)<;>conv=>whnf)
  exact Gg
 ·rw[ifn,ifn,ifn,ifn,ifn,ifn,ifn]at e
  rw[e]
  repeat' ((first|refine Ga ?_|refine Gc fun hlen=>?_|refine Ge GO ?_|refine Gd (fun hc=>?_) fun hc=>?_)<;>conv=>whnf)
  exact Gg
 ·rw[ifn,if_pos hk]at e
  obtain⟨h1,h2,h3⟩:=H2 hT hcon (.inl hk)
  have hs:=Hp ctx T.kids hx (fun x hx=>by
   have:=AH hx
   rcases B8 h1 hx with q|q
   ·exact⟨by rw[q];exact kids 0 (by omega),by rw[q];exact h2,by omega⟩
   ·exact⟨by rw[q];exact kids 1 (by omega),by rw[q];exact h3,by omega⟩)
  rw[e]
  repeat' ((first|refine Ga ?_|refine Gc fun hlen=>?_|refine Ge hs ?_|refine Gd (fun hc=>?_) fun hc=>?_)<;>conv=>whnf)
  exact Gg
 ·rw[ifn,ifn,if_pos hk]at e
  have hf:=GV hT hcon hk
  have hin:=HX T hT (fun x hx=>by obtain⟨q1,q2,_⟩:=CF (hf x hx);exact⟨q1,q2⟩)
  rw[IW ctx T.kids (fun x hx=>(CF (hf x hx)).1)]at e
  have hs:=Hp ctx (DS T.kids) hx (fun y hy=>by
   obtain⟨x,q1,q2,q3,q4,q5⟩:=NP hf y hy
   exact⟨(ih x q1).2 y q3 (by omega),q4,by omega⟩)
  rw[e]
  repeat' ((first|refine Ga ?_|refine Gc fun hlen=>?_|refine Ge hin ?_|refine Ge hs ?_|refine Gd (fun hc=>?_) fun hc=>?_)<;>conv=>whnf)
  exact Gg
 ·rw[ifn,ifn,ifn,if_pos (.inl hk)]at e
  obtain⟨h1,h2,h3⟩:=E4 hT hcon (.inl hk)
  have s1:=AH (AA (l:=T.kids) (i:=1) (by omega))
  have hu:=JO (T.kids.getD 0 .nil) ctx (by omega)
  have hs:=Hp (T.kids.getD 0 .nil::ctx) [T.kids.getD 1 .nil] (FH h2 hx) (fun y hy=>by
   rw[List.mem_singleton]at hy
   subst hy
   exact⟨kids 1 (by omega),h3,by simp only[List.length_cons];omega⟩)
  rw[LV]at hs
  rw[e]
  repeat' ((first|refine Ga ?_|refine Gc fun hlen=>?_|refine Ge hu ?_|refine Ge hs ?_|refine Gd (fun hc=>?_) fun hc=>?_)<;>conv=>whnf)
  exact Gg
 ·rw[ifn,ifn,ifn,if_pos (.inr hk)]at e
  obtain⟨h1,h2,h3⟩:=E4 hT hcon (.inr (.inl hk))
  have s1:=AH (AA (l:=T.kids) (i:=1) (by omega))
  have hu:=JO (T.kids.getD 0 .nil) ctx (by omega)
  have hs:=Hp (T.kids.getD 0 .nil::ctx) [T.kids.getD 1 .nil] (FH h2 hx) (fun y hy=>by
   rw[List.mem_singleton]at hy
   subst hy
   exact⟨kids 1 (by omega),h3,by simp only[List.length_cons];omega⟩)
  rw[LV]at hs
  rw[e]
  repeat' ((first|refine Ga ?_|refine Gc fun hlen=>?_|refine Ge hu ?_|refine Ge hs ?_|refine Gd (fun hc=>?_) fun hc=>?_)<;>conv=>whnf)
  exact Gg
 ·rw[ifn,ifn,ifn,ifn,if_pos hk]at e
  obtain⟨h1,h2,h3⟩:=E4 hT hcon (.inr (.inr hk))
  have s1:=AH (AA (l:=T.kids) (i:=1) (by omega))
  have hu:=JO (T.kids.getD 0 .nil) ctx (by omega)
  have hb:=kids 1 (by omega) h3 (T.kids.getD 0 .nil::ctx) (FH h2 hx) (by simp only[List.length_cons];omega)
  generalize Bp (T.kids.getD 0 .nil::ctx) (T.kids.getD 1 .nil)=R at *
  by_cases hR:R.2=0
  ·rw[ifn]at e
   rw[e]
   repeat' ((first|refine Ga ?_|refine Gc fun hlen=>?_|refine Ge hu ?_|refine Ge hb ?_|refine Gd (fun hc=>?_) fun hc=>?_)<;>conv=>whnf)
   exact Gg
  ·rw[if_pos hR]at e
   rw[e]
   repeat' ((first|refine Ga ?_|refine Gc fun hlen=>?_|refine Ge hu ?_|refine Ge hb ?_|refine Gd (fun hc=>?_) fun hc=>?_)<;>conv=>whnf)
   exact Gg
 ·rw[ifn,ifn,ifn,ifn,ifn,if_pos hk]at e
  obtain⟨h1,h2,h3⟩:=H2 hT hcon (.inr hk)
  have ha:=WN ctx T hT hx hcon hk hl (fun x hx=>by
   rcases B8 h1 hx with q|q
   ·rw[q];exact kids 0 (by omega)
   ·rw[q];exact kids 1 (by omega))
  rw[e]
  repeat' ((first|refine Ga ?_|refine Gc fun hlen=>?_|refine Ge ha ?_|refine Gd (fun hc=>?_) fun hc=>?_)<;>conv=>whnf)
  exact Gg
 ·rw[ifn,ifn,ifn,ifn,ifn,ifn,if_pos hk]at e
  have hf:=EM hT hcon hk
  have hin:=HX T hT (fun x hx=>by obtain⟨q1,q2,_⟩:=CF (hf x hx);exact⟨q1,q2⟩)
  rw[IW (Dz::ctx) T.kids (fun x hx=>(CF (hf x hx)).1)]at e
  have hu:=JO Dz ctx (by omega)
  have hs:=Hp (Dz::ctx) (DS T.kids) (FH H5 hx) (fun y hy=>by
   obtain⟨x,q1,q2,q3,q4,q5⟩:=NP hf y hy
   exact⟨(ih x q1).2 y q3 (by omega),q4,by simp only[List.length_cons];omega⟩)
  have hft:=Xp T hT hcon hk hzz
  generalize C7 (Dz::ctx) (DS T.kids)=S at *
  generalize fitE T.kids=W at *
  by_cases hS:S=0
  ·subst hS
   rw[if_neg (by decide)]at e
   by_cases hW:W=0
   ·rw[ifn]at e
    rw[e]
    repeat' ((first|refine Ga ?_|refine Gc fun hlen=>?_|refine Ge GO ?_|refine Ge hu ?_|refine Ge hin ?_|refine Ge hs ?_|refine Ge hft ?_|refine Gd (fun hc=>?_) fun hc=>?_)<;>conv=>whnf)
    exact Gg
   ·rw[if_pos hW]at e
    rw[e]
    repeat' ((first|refine Ga ?_|refine Gc fun hlen=>?_|refine Ge GO ?_|refine Ge hu ?_|refine Ge hin ?_|refine Ge hs ?_|refine Ge hft ?_|refine Gd (fun hc=>?_) fun hc=>?_)<;>conv=>whnf)
    exact Gg
  ·rw[if_pos hS]at e
   have eS:EV S=(.nil,S):=by unfold EV;rw[if_neg hS]
   rw[eS]at hs
   rw[e]
   repeat' ((first|refine Ga ?_|refine Gc fun hlen=>?_|refine Ge GO ?_|refine Ge hu ?_|refine Ge hin ?_|refine Ge hs ?_|refine Gd (fun hc=>?_) fun hc=>?_)<;>conv=>whnf)
   exact Gg
def ctxE (bad:Int):List Tree→Int
 | []=>bad
 | k::l=>if D0 k=0 then ctxE bad l else if D0 k=1 then 1 else ctxE 2 l
def CQ (ctx:List Tree)(T:Tree):Tree×Int :=
 if ctxE 0 ctx=1 then (.nil,1) else if conE T≠0 then (.nil,conE T) else if ctxE 0 ctx≠0 then (.nil,ctxE 0 ctx) else Bp ctx T
theorem MX:∀(l:List Tree) (b:Int),b≠0→ctxE b l≠0
 | [],b,h=>h
 | k::l,b,h=>by
  rw[ctxE]
  split
  ·exact MX l b h
  ·split
   ·decide
   ·exact MX l 2 (by decide)
theorem Rq:∀l:List Tree,ctxE 0 l=0→∀k∈l,D0 k=0
 | [],_,k,hk=>by cases hk
 | x::l,h,k,hk=>by
  rw[ctxE]at h
  split at h
  ·rename_i hx
   rcases List.mem_cons.1 hk with rfl|hk
   ·exact hx
   ·exact Rq l h k hk
  ·split at h
   ·cases h
   ·exact absurd h (MX l 2 (by decide))
theorem Pf {T:Tree}(h:D0 T=0):AU T=true:=by
 unfold D0 C5 at h
 split at h
 ·cases hk:AU T with
  | true=>rfl
  | false=>rw[hk]at h;cases h
 ·exact absurd h ‹_›
theorem P8 {l:List Tree}(h:ctxE 0 l=0):KZ l:=fun k hk=>Pf (Rq l h k hk)
theorem QE {ctx:List Tree}{T:Tree}(h:(CQ ctx T).2=0):ctxE 0 ctx=0∧conE T=0∧CQ ctx T=Bp ctx T:=by
 unfold CQ at *
 split at h
 ·cases h
 ·rename_i h1
  split at h
  ·exact absurd h ‹_›
  ·rename_i h2
   split at h
   ·exact absurd h ‹_›
   ·rename_i h3
    refine⟨by simpa using h3,by simpa using h2,?_⟩
    rw[if_neg h1,if_neg h2,if_neg h3]
theorem Nz (ctx:List Tree)(T:Tree)(hl:ctx.length≤137438953472):Pure P 51 [.d (.trees ctx),.d (.tree T)] (.tuple [.d (.tree (CQ ctx T).1),.d (.int .i64 (CQ ctx T).2)]):=by
 refine Pure.AB tt [] [4,5] Tryz.func51 rfl rfl rfl lb fun g=>?_
 repeat' ((first|refine Ga ?_|refine Gc fun hlen=>?_|refine Gd (fun hc=>?_) fun hc=>?_)<;>conv=>whnf)
 refine AY (α:=Nat×Int) (fun p=>⟨[(0,.d (.trees ctx)),(1,.d (.tree T)),(6,.d (.int .i64 p.2)),(11,.d (.trees ctx)),(12,.d (.int .i64 ctx.length)),(13,.d (.int .i64 p.1))],39,[],0,g⟩)
   (fun p=>p.1≤ctx.length∧(p.2=0∨p.2=2)∧ctxE p.2 (ctx.drop p.1)=ctxE 0 ctx) (fun p=>ctx.length - p.1) (0,0) ⟨by simp,.inl rfl,rfl⟩
   (Ent.go []) (fun _=>rfl) fun p hpre=>?_
 obtain⟨i,b⟩:=p
 obtain⟨hp1,hb,hp2⟩:=hpre
 simp only[]at hp1 hp2 hb
 by_cases hp:i < ctx.length
 ·have hk:=Go.Proofs.YtlgajkoplklkiaaGreat.Jd (ctx.getD i .nil)
  rw[AP hp,ctxE]at hp2
  generalize D0 (ctx.getD i .nil)=E at *
  by_cases h0:E=0
  ·rw[if_pos h0]at hp2
   repeat' ((first|refine Ga ?_|refine Gc fun hlen=>?_|refine Ge hk ?_|refine Gd (fun hc=>?_) fun hc=>?_)<;>conv=>whnf)
   exact⟨(i+1,b),⟨by simp only[];omega,hb,hp2⟩,by simp only[];omega,Ent.go []⟩
  ·rw[if_neg h0]at hp2
   by_cases h1:E=1
   ·rw[if_pos h1]at hp2
    have e:CQ ctx T=(.nil,1):=by unfold CQ;rw[if_pos hp2.symm]
    rw[e]
    subst h1
    repeat' ((first|refine Ga ?_|refine Gc fun hlen=>?_|refine Ge hk ?_|refine Gd (fun hc=>?_) fun hc=>?_)<;>conv=>whnf)
    exact Gg
   ·rw[if_neg h1]at hp2
    repeat' ((first|refine Ga ?_|refine Gc fun hlen=>?_|refine Ge hk ?_|refine Gd (fun hc=>?_) fun hc=>?_)<;>conv=>whnf)
    exact⟨(i+1,2),⟨by simp only[];omega,.inr rfl,hp2⟩,by simp only[];omega,Ent.go []⟩
 ·rw[Ab (by omega),ctxE]at hp2
  have hc1:ctxE 0 ctx≠1:=by rw[←hp2];rcases hb with h|h<;>rw[h]<;>decide
  by_cases h:conE T=0
  ·have h1:=C3 T
   rw[h]at h1
   have hcon:=(Ak h).2
   by_cases hb0:b=0
   ·subst hb0
    have hx:=P8 hp2.symm
    have hk:=Ki.Jd T (Al h) hcon ctx hx (by have:=Al h;omega)
    have e:CQ ctx T=Bp ctx T:=by unfold CQ;rw[if_neg hc1,ifn,ifn]
    rw[e]
    repeat' ((first|refine Ga ?_|refine Gc fun hlen=>?_|refine Ge h1 ?_|refine Ge hk ?_|refine Gd (fun hc=>?_) fun hc=>?_)<;>conv=>whnf)
    exact Gg
   ·have e:CQ ctx T=(.nil,b):=by unfold CQ;rw[if_neg hc1,ifn,ifp,hp2]
    rw[e]
    repeat' ((first|refine Ga ?_|refine Gc fun hlen=>?_|refine Ge h1 ?_|refine Gd (fun hc=>?_) fun hc=>?_)<;>conv=>whnf)
    exact Gg
  ·have e:CQ ctx T=(.nil,conE T):=by unfold CQ;rw[if_neg hc1,if_pos h]
   rw[e]
   repeat' ((first|refine Ga ?_|refine Gc fun hlen=>?_|refine Ge (C3 T) ?_|refine Gd (fun hc=>?_) fun hc=>?_)<;>conv=>whnf)
   exact Gg
def Hh (ctx:List Tree)(T:Tree):Int:=if (CQ ctx T).2=0∧(CQ ctx T).1.kind≠100 then 10 else (CQ ctx T).2
theorem Ub {ctx:List Tree}{T:Tree}(h:(CQ ctx T).2=0):(CQ ctx T).1≠.nil:=by
 obtain⟨h1,h2,h3⟩:=QE h
 rw[h3]at h ⊢
 exact Ky (GS T (Ak h2).2 ctx (P8 h1) h)
theorem SM (ctx:List Tree)(T:Tree)(hl:ctx.length≤137438953472):Pure P 30 [.d (.trees ctx),.d (.tree T)] (.d (.int .i64 (Hh ctx T))):=by
 have hk:=Nz ctx T hl
 have hn:=Ub (ctx:=ctx) (T:=T)
 unfold Hh
 refine Pure.AB tt [] [4] Tryz.func30 rfl rfl rfl lb fun g=>?_
 generalize CQ ctx T=R at *
 by_cases h:R.2=0
 ·have hn:=hn h
  rw[h]at hk
  by_cases hs:R.1.kind=100
  ·rw[if_neg (by rintro⟨_,q⟩;exact q hs),h]
   repeat' ((first|refine Ga ?_|refine Gc fun hlen=>?_|refine Ge hk ?_|refine Gd (fun hc=>?_) fun hc=>?_)<;>conv=>whnf)
   exact Gg
  ·rw[if_pos ⟨h,hs⟩]
   repeat' ((first|refine Ga ?_|refine Gc fun hlen=>?_|refine Ge hk ?_|refine Gd (fun hc=>?_) fun hc=>?_)<;>conv=>whnf)
   exact Gg
 ·rw[if_neg (by rintro⟨q,_⟩;exact h q)]
  repeat' ((first|refine Ga ?_|refine Gc fun hlen=>?_|refine Ge hk ?_|refine Gd (fun hc=>?_) fun hc=>?_)<;>conv=>whnf)
  exact Gg
end Ki
end Go.Proofs.YtlgajkoplklkiaaGreat
namespace Go.Proofs.YtlgajkoplklkiaaGreat
namespace Ty
open Go Go.Mq Tm Sb St
def cT (k:Int)(l:List Tree):Tree:=.node k 0 ByteArray.empty ByteArray.empty l
def bnd (r:Tree×Int)(f:Tree→Tree×Int):Tree×Int:=if r.2=0 then f r.1 else (.nil,r.2)
def lbnd (r:List Tree×Int)(f:List Tree→Tree×Int):Tree×Int:=if r.2=0 then f r.1 else (.nil,r.2)
def B5 (n b:Tree):Tree×Int:=bnd (Ax n 0 b) No.Ac
def tstR (K:List Tree)(n:Tree):Tree×Int:=if Ki.Hh K n=0 then No.Ac n else (.nil,Ki.Hh K n)
def shsR:List Tree→List Tree×Int
 | []=>([],0)
 | t::l=>if (BK t 1 0).2=0 then ((BK t 1 0).1::(shsR l).1,(shsR l).2) else ([],(BK t 1 0).2)
def asR (r:Tree×Int)(kind:Int):Tree×Int:=if r.2=0∧r.1.kind≠kind then (.nil,11) else r
def EC (l:List Tree)(t:Tree):Tree×Int:=if (l.any fun s=>!BQ s t)=true then (.nil,11) else (t,0)
mutual
def ofF:Tree→List Tree→List Tree→Tree×Int
 | .nil,_,_=>(.nil,0)
 | .node k n nm _ l,K,Γ =>
  if k=130 then (if (Γ.length:Int)≤n then (.nil,8) else No.Ac (Γ.getD n.toNat .nil))
  else if k=131 then (cT 111 [],0)
  else if k=132 then (cT 112 [],0)
  else if k=133 then (cT 113 [],0)
  else if k=139 then lbnd (shsR Γ) fun Δ=>bnd (ofAt 1 l (l.getD 0 .nil::K) Δ) fun t=>(cT 117 [l.getD 0 .nil,t],0)
  else if k=143 then bnd (ofAt 0 l K Γ) fun t=>ofAt 1 l K (t::Γ)
  else if k=134 then bnd (tstR K (l.getD 0 .nil)) fun a=>bnd (ofAt 1 l K (a::Γ)) fun b=>(cT 114 [a,b],0)
  else if k=135 then bnd (ofAt 0 l K Γ) fun f=>bnd (ofAt 1 l K Γ) fun a =>
   if f.kind=114∧BQ (f.kids.getD 0 .nil) a=true then (f.kids.getD 1 .nil,0) else (.nil,11)
  else if k=136 then lbnd (Cj l K Γ) fun ts=>(cT 115 ts,0)
  else if k=138 then bnd (asR (ofAt 0 l K Γ) 115) fun t=>match Af nm t.kids with
   | none=>(.nil,11)
   | some p=>(p,0)
  else if k=140 then bnd (ofAt 0 l K Γ) fun t=>bnd (Ki.CQ K (l.getD 1 .nil)) fun q =>
   if t.kind=117∧BQ (t.kids.getD 0 .nil) q=true then B5 (t.kids.getD 1 .nil) (l.getD 1 .nil) else (.nil,11)
  else if k=141 then bnd (tstR K (l.getD 2 .nil)) fun t=>bnd (Ki.CQ K (l.getD 0 .nil)) fun q=>bnd (ofAt 1 l K Γ) fun a =>
   if t.kind=118∧BQ (t.kids.getD 0 .nil) q=true then bnd (B5 (t.kids.getD 1 .nil) (l.getD 0 .nil)) fun b=>if BQ a b=true then (t,0) else (.nil,11)
   else (.nil,11)
  else if k=142 then bnd (asR (ofAt 0 l K Γ) 118) fun t=>lbnd (shsR Γ) fun Δ=>bnd (ofAt 1 l (t.kids.getD 0 .nil::K) (t.kids.getD 1 .nil::Δ)) fun b =>
   if Dy b 0=true then (.nil,11) else BK b (-1) 0
  else if k=144 then lbnd (Dt l K Γ) fun ts =>
   if (ts.getD 0 .nil).kind=112∧BQ (ts.getD 1 .nil) (ts.getD 2 .nil)=true then (ts.getD 1 .nil,0) else (.nil,11)
  else if k=145 then bnd (ofAt 0 l K Γ) fun a=>bnd (ofAt 1 l K Γ) fun b =>
   if a.kind=111∧b.kind=111 then (if n≤3 then (cT 111 [],0) else (cT 112 [],0)) else (.nil,11)
  else if k=146 then bnd (tstR K (l.getD 0 .nil)) fun s=>bnd (ofAt 1 l K Γ) fun a =>
   if s.kind=121 then (match Af nm s.kids with
    | none=>(.nil,14)
    | some p=>bnd (B5 p s) fun b=>if BQ a b=true then (s,0) else (.nil,11))
   else (.nil,11)
  else if k=147 then bnd (asR (ofAt 0 l K Γ) 121) fun s=>if s.kids.map Tree.name=(l.drop 1).map Tree.name then lbnd (Gm 1 l s.kids s K Γ) fun ts=>EC ts (ts.getD 0 .nil) else (.nil,14)
  else bnd (asR (ofAt 0 l K Γ) 121) fun s=>bnd (tstR K (l.getD 1 .nil)) fun t=>if s.kids.map Tree.name=(l.drop 2).map Tree.name then lbnd (Gm 2 l s.kids t K Γ) fun ts=>EC ts t else (.nil,14)
termination_by structural x=>x
def ofAt (i:Nat):List Tree→List Tree→List Tree→Tree×Int
 | [],_,_=>(.nil,0)
 | x::l,K,Γ=>match i with
  | 0=>ofF x K Γ
  | i+1=>ofAt i l K Γ
termination_by structural x=>x
def ofIn:Tree→List Tree→List Tree→Tree×Int
 | .nil,_,_=>(.nil,0)
 | .node _ _ _ _ l,K,Γ=>ofAt 0 l K Γ
termination_by structural x=>x
def Cj:List Tree→List Tree→List Tree→List Tree×Int
 | [],_,_=>([],0)
 | x::l,K,Γ=>if (ofIn x K Γ).2=0 then (.node 116 0 x.name ByteArray.empty [(ofIn x K Γ).1]::(Cj l K Γ).1,(Cj l K Γ).2) else ([],(ofIn x K Γ).2)
termination_by structural x=>x
def Dt:List Tree→List Tree→List Tree→List Tree×Int
 | [],_,_=>([],0)
 | x::l,K,Γ=>if (ofF x K Γ).2=0 then ((ofF x K Γ).1::(Dt l K Γ).1,(Dt l K Γ).2) else ([],(ofF x K Γ).2)
termination_by structural x=>x
def Gm (i:Nat):List Tree→List Tree→Tree→List Tree→List Tree→List Tree×Int
 | [],_,_,_,_=>([],0)
 | x::l,S,self,K,Γ=>match i with
  | i+1=>Gm i l S self K Γ
  | 0=>if (B5 ((S.getD 0 .nil).kids.getD 0 .nil) self).2=0 then
    (if (ofIn x K ((B5 ((S.getD 0 .nil).kids.getD 0 .nil) self).1::Γ)).2=0 then
     ((ofIn x K ((B5 ((S.getD 0 .nil).kids.getD 0 .nil) self).1::Γ)).1::(Gm 0 l (S.drop 1) self K Γ).1,(Gm 0 l (S.drop 1) self K Γ).2)
    else ([],(ofIn x K ((B5 ((S.getD 0 .nil).kids.getD 0 .nil) self).1::Γ)).2))
   else ([],(B5 ((S.getD 0 .nil).kids.getD 0 .nil) self).2)
termination_by structural x=>x
end
theorem OY:∀(l:List Tree) (i:Nat) (K Γ:List Tree),ofAt i l K Γ=ofF (l.getD i .nil) K Γ
 | [],i,K,Γ=>by rw[ofAt];simp[ofF]
 | x::l,0,K,Γ=>by rw[ofAt];rfl
 | x::l,i+1,K,Γ=>by rw[ofAt,OY l i];rfl
theorem Rt (x:Tree)(K Γ:List Tree):ofIn x K Γ=ofF (x.kids.getD 0 .nil) K Γ:=by
 cases x with
 | nil=>rw[ofIn];simp only[Tree.kids,List.getD_nil];rw[ofF]
 | node=>rw[ofIn,OY];rfl
def Ch:List Tree→List Tree→Tree→List Tree→List Tree→List Tree×Int
 | [],_,_,_,_=>([],0)
 | x::l,S,self,K,Γ=>if (B5 ((S.getD 0 .nil).kids.getD 0 .nil) self).2=0 then
    (if (ofF (x.kids.getD 0 .nil) K ((B5 ((S.getD 0 .nil).kids.getD 0 .nil) self).1::Γ)).2=0 then
     ((ofF (x.kids.getD 0 .nil) K ((B5 ((S.getD 0 .nil).kids.getD 0 .nil) self).1::Γ)).1::(Ch l (S.drop 1) self K Γ).1,(Ch l (S.drop 1) self K Γ).2)
    else ([],(ofF (x.kids.getD 0 .nil) K ((B5 ((S.getD 0 .nil).kids.getD 0 .nil) self).1::Γ)).2))
   else ([],(B5 ((S.getD 0 .nil).kids.getD 0 .nil) self).2)
theorem KA:∀(l:List Tree) (i:Nat) (S:List Tree) (self:Tree) (K Γ:List Tree),Gm i l S self K Γ=Ch (l.drop i) S self K Γ
 | [],i,S,self,K,Γ=>by rw[Gm];simp[Ch]
 | x::l,0,S,self,K,Γ=>by
  rw[Gm,List.drop_zero,Ch]
  simp only[Rt]
  have:=KA l 0 (S.drop 1) self K Γ
  rw[List.drop_zero]at this
  rw[this]
 | x::l,i+1,S,self,K,Γ=>by rw[Gm,KA l i];rfl
theorem HQ (x:Tree)(l K Γ:List Tree):Cj (x::l) K Γ=if (ofF (x.kids.getD 0 .nil) K Γ).2=0 then (.node 116 0 x.name ByteArray.empty [(ofF (x.kids.getD 0 .nil) K Γ).1]::(Cj l K Γ).1,(Cj l K Γ).2) else ([],(ofF (x.kids.getD 0 .nil) K Γ).2):=by
 rw[Cj];simp only[Rt]
section
variable (T : Tree) (K Γ : List Tree)
def varR:Tree×Int:=if (Γ.length:Int)≤T.n then (.nil,8) else No.Ac (Γ.getD T.n.toNat .nil)
def SF:Tree×Int:=lbnd (shsR Γ) fun Δ=>bnd (ofF (T.kids.getD 1 .nil) (T.kids.getD 0 .nil::K) Δ) fun t=>(cT 117 [T.kids.getD 0 .nil,t],0)
def letR:Tree×Int:=bnd (ofF (T.kids.getD 0 .nil) K Γ) fun t=>ofF (T.kids.getD 1 .nil) K (t::Γ)
def lamR:Tree×Int:=bnd (tstR K (T.kids.getD 0 .nil)) fun a=>bnd (ofF (T.kids.getD 1 .nil) K (a::Γ)) fun b=>(cT 114 [a,b],0)
def appR:Tree×Int:=bnd (ofF (T.kids.getD 0 .nil) K Γ) fun f=>bnd (ofF (T.kids.getD 1 .nil) K Γ) fun a =>
   if f.kind=114∧BQ (f.kids.getD 0 .nil) a=true then (f.kids.getD 1 .nil,0) else (.nil,11)
def recR:Tree×Int:=lbnd (Cj T.kids K Γ) fun ts=>(cT 115 ts,0)
def Mu:Tree×Int:=bnd (asR (ofF (T.kids.getD 0 .nil) K Γ) 115) fun t=>match Af T.name t.kids with
   | none=>(.nil,11)
   | some p=>(p,0)
def My:Tree×Int:=bnd (ofF (T.kids.getD 0 .nil) K Γ) fun t=>bnd (Ki.CQ K (T.kids.getD 1 .nil)) fun q =>
   if t.kind=117∧BQ (t.kids.getD 0 .nil) q=true then B5 (t.kids.getD 1 .nil) (T.kids.getD 1 .nil) else (.nil,11)
def Nh:Tree×Int:=bnd (tstR K (T.kids.getD 2 .nil)) fun t=>bnd (Ki.CQ K (T.kids.getD 0 .nil)) fun q=>bnd (ofF (T.kids.getD 1 .nil) K Γ) fun a =>
   if t.kind=118∧BQ (t.kids.getD 0 .nil) q=true then bnd (B5 (t.kids.getD 1 .nil) (T.kids.getD 0 .nil)) fun b=>if BQ a b=true then (t,0) else (.nil,11)
   else (.nil,11)
def H4:Tree×Int:=bnd (asR (ofF (T.kids.getD 0 .nil) K Γ) 118) fun t=>lbnd (shsR Γ) fun Δ=>bnd (ofF (T.kids.getD 1 .nil) (t.kids.getD 0 .nil::K) (t.kids.getD 1 .nil::Δ)) fun b =>
   if Dy b 0=true then (.nil,11) else BK b (-1) 0
def JM:Tree×Int:=lbnd (Dt T.kids K Γ) fun ts =>
   if (ts.getD 0 .nil).kind=112∧BQ (ts.getD 1 .nil) (ts.getD 2 .nil)=true then (ts.getD 1 .nil,0) else (.nil,11)
def opR:Tree×Int:=bnd (ofF (T.kids.getD 0 .nil) K Γ) fun a=>bnd (ofF (T.kids.getD 1 .nil) K Γ) fun b =>
   if a.kind=111∧b.kind=111 then (if T.n≤3 then (cT 111 [],0) else (cT 112 [],0)) else (.nil,11)
def inR:Tree×Int:=bnd (tstR K (T.kids.getD 0 .nil)) fun s=>bnd (ofF (T.kids.getD 1 .nil) K Γ) fun a =>
   if s.kind=121 then (match Af T.name s.kids with
    | none=>(.nil,14)
    | some p=>bnd (B5 p s) fun b=>if BQ a b=true then (s,0) else (.nil,11))
   else (.nil,11)
def armR (S:List Tree)(self:Tree)(l:List Tree):List Tree×Int:=if S.map Tree.name=l.map Tree.name then Ch l S self K Γ else ([],14)
def Lq:Tree×Int:=bnd (asR (ofF (T.kids.getD 0 .nil) K Γ) 121) fun s=>lbnd (armR K Γ s.kids s (T.kids.drop 1)) fun ts=>EC ts (ts.getD 0 .nil)
def La:Tree×Int:=bnd (asR (ofF (T.kids.getD 0 .nil) K Γ) 121) fun s=>bnd (tstR K (T.kids.getD 1 .nil)) fun t=>lbnd (armR K Γ s.kids t (T.kids.drop 2)) fun ts=>EC ts t
def Po:Tree×Int:=if T.kind=134 then lamR T K Γ else if T.kind=135 then appR T K Γ else if T.kind=136 then recR T K Γ else if T.kind=138 then Mu T K Γ
  else if T.kind=140 then My T K Γ else if T.kind=141 then Nh T K Γ else if T.kind=142 then H4 T K Γ else if T.kind=144 then JM T K Γ
  else if T.kind=145 then opR T K Γ else if T.kind=146 then inR T K Γ else if T.kind=147 then Lq T K Γ else La T K Γ
theorem Zk (S:List Tree)(self:Tree)(l:List Tree)(f:List Tree→Tree×Int):lbnd (armR K Γ S self l) f=if S.map Tree.name=l.map Tree.name then lbnd (Ch l S self K Γ) f else (.nil,14):=by
 unfold armR
 split
 ·rfl
 ·unfold lbnd;rw[if_neg (by simp)]
theorem Qg (h:T≠.nil):ofF T K Γ=if T.kind=130 then varR T Γ else if T.kind=131 then (cT 111 [],0) else if T.kind=132 then (cT 112 [],0) else if T.kind=133 then (cT 113 [],0)
  else if T.kind=139 then SF T K Γ else if T.kind=143 then letR T K Γ else Po T K Γ:=by
 cases T with
 | nil=>exact absurd rfl h
 | node k n nm mk l =>
  rw[ofF]
  simp only[OY,KA]
  unfold Po Lq La
  simp only[Zk]
  rfl
end
end Ty
end Go.Proofs.YtlgajkoplklkiaaGreat
namespace Go.Proofs.YtlgajkoplklkiaaGreat
namespace Ty
open Go Go.Mq Tm Sb St
abbrev cxA (K Γ:List Tree):AVal:=.agg [.d (.trees K),.d (.trees Γ)]
abbrev rA (r:Tree×Int):AVal:=.tuple [.d (.tree r.1),.d (.int .i64 r.2)]
abbrev lA (r:List Tree×Int):AVal:=.tuple [.d (.trees r.1),.d (.int .i64 r.2)]
theorem Uy (k:Int)(l:List Tree):Pure P 54 [.d (.int .i64 k),.d (.trees l)] (.d (.tree (cT k l))):=by
 refine Pure.AB tt [8] [4] Tryz.func54 rfl rfl rfl lb fun g=>?_
 repeat' ((first|refine Ga ?_|refine Gc fun hlen=>?_|refine Gd (fun hc=>?_) fun hc=>?_)<;>conv=>whnf)
 exact Gg
theorem JI (k:Int):Pure P 54 [.d (.int .i64 k),.d .nils] (.d (.tree (cT k []))):=by
 refine Pure.AB tt [8] [4] Tryz.func54 rfl rfl rfl lb fun g=>?_
 repeat' ((first|refine Ga ?_|refine Gc fun hlen=>?_|refine Gd (fun hc=>?_) fun hc=>?_)<;>conv=>whnf)
 exact Gg
theorem H7 (n b:Tree):Pure P 134 [.d (.tree n),.d (.tree b)] (rA (B5 n b)):=by
 have h1:=Jc n 0 b
 refine Pure.AB tt [] [4,5] Tryz.func134 rfl rfl rfl lb fun g=>?_
 unfold B5 bnd
 generalize Ax n 0 b=r at *
 obtain⟨m,e⟩:=r
 have h2:=No.F2 m
 simp only[]at h1
 by_cases h:e=0
 ·rw[if_pos h]
  subst h
  repeat' ((first|refine Ga ?_|refine Gc fun hlen=>?_|refine Ge h1 ?_|refine Ge h2 ?_|refine Gd (fun hc=>?_) fun hc=>?_)<;>conv=>whnf)
  exact Gg
 ·rw[if_neg h]
  repeat' ((first|refine Ga ?_|refine Gc fun hlen=>?_|refine Ge h1 ?_|refine Gd (fun hc=>?_) fun hc=>?_)<;>conv=>whnf)
  exact Gg
theorem Gk (K Γ:List Tree)(n:Tree)(hl:K.length≤137438953472):Pure P 131 [cxA K Γ,.d (.tree n)] (rA (tstR K n)):=by
 have h1:=Ki.SM K n hl
 have h2:=No.F2 n
 refine Pure.AB tt [] [4,5] (Tryz.func131) rfl rfl rfl lb fun g=>?_
 unfold tstR
 generalize Ki.Hh K n=e at *
 by_cases h:e=0
 ·rw[if_pos h]
  subst h
  repeat' ((first|refine Ga ?_|refine Gc fun hlen=>?_|refine Ge h1 ?_|refine Ge h2 ?_|refine Gd (fun hc=>?_) fun hc=>?_)<;>conv=>whnf)
  exact Gg
 ·rw[if_neg h]
  repeat' ((first|refine Ga ?_|refine Gc fun hlen=>?_|refine Ge h1 ?_|refine Gd (fun hc=>?_) fun hc=>?_)<;>conv=>whnf)
  exact Gg
theorem JG (K Γ:List Tree)(n:Tree)(kind:Int)(r:Tree×Int)(h1:Pure P 32 [cxA K Γ,.d (.tree n)] (rA r))(hn:r.2=0→r.1≠.nil) :
  Pure P 132 [cxA K Γ,.d (.tree n),.d (.int .i64 kind)] (rA (asR r kind)):=by
 refine Pure.AB tt [] [6,7] (Tryz.func132) rfl rfl rfl lb fun g=>?_
 unfold asR
 obtain⟨m,e⟩:=r
 simp only[]at h1 hn
 by_cases h:e=0
 ·subst h
  have hn:=hn rfl
  by_cases hk:m.kind=kind
  ·rw[if_neg (by rintro⟨_,h⟩;exact h hk)]
   repeat' ((first|refine Ga ?_|refine Gc fun hlen=>?_|refine Ge h1 ?_|refine Split.AE (show (m.kind != kind)=false from by simpa using hk) ?_|refine Gd (fun hc=>?_) fun hc=>?_)<;>conv=>whnf)
   exact Gg
  ·rw[if_pos ⟨rfl,hk⟩]
   repeat' ((first|refine Ga ?_|refine Gc fun hlen=>?_|refine Ge h1 ?_|refine Split.Ag (show (m.kind != kind)=true from by simpa using hk) ?_|refine Gd (fun hc=>?_) fun hc=>?_)<;>conv=>whnf)
   exact Gg
 ·rw[if_neg (by rintro⟨h2,_⟩;exact h h2)]
  repeat' ((first|refine Ga ?_|refine Gc fun hlen=>?_|refine Ge h1 ?_|refine Gd (fun hc=>?_) fun hc=>?_)<;>conv=>whnf)
  exact Gg
theorem OQ (K Γ:List Tree)(t:Tree)(hl:Γ.length≤549755813888):Pure P 56 [cxA K Γ,.d (.tree t)] (cxA K (t::Γ)):=by
 have h1:=Ki.Jn [t] Γ (by simp) (by simp;omega)
 refine Pure.DL tt [8,11] [.cell 4 76] (Tryz.func56) rfl rfl rfl lb fun g=>?_
 repeat' ((first|refine Ga ?_|refine Gc fun hlen=>?_|refine Ge h1 ?_|refine Gd (fun hc=>?_) fun hc=>?_)<;>conv=>whnf)
 exact Bx htt _ rfl rfl rfl rfl
def kcx (K Γ:List Tree)(k:Tree):AVal:=if (shsR Γ).2=0 then cxA (k::K) (shsR Γ).1 else cxA K Γ
theorem Ug (K Γ:List Tree)(k:Tree)(hk:K.length≤549755813888)(hl:Γ.length≤549755813888):Pure P 55 [cxA K Γ,.d (.tree k)] (.tuple [kcx K Γ k,.d (.int .i64 (shsR Γ).2)]):=by
 have h1:=Ki.Jn [k] K (by simp) (by simp;omega)
 refine Pure.DL tt [12,15,37] [.cell 4 76,.tmp 5] (Tryz.func55) rfl rfl rfl lb fun g=>?_
 repeat' ((first|refine Ga ?_|refine Gc fun hlen=>?_|refine Ge h1 ?_|refine Gd (fun hc=>?_) fun hc=>?_)<;>conv=>whnf)
 refine AY (α:=Nat×List Tree) (fun p=>⟨[(2,.ref 0 0),(4,.ref 1 0),(6,.ref 2 0),(19,.d (.trees Γ)),(20,.d (.int .i64 Γ.length)),(21,.d (.int .i64 p.1))],42,[(0,.cells [.d (.trees K),.d (.trees Γ)]),(1,.cells [.d .nils,.d .nils]),(2,.cells [.d (.trees (k::K)),.row 3 p.1]),(3,.row 25 (.trees p.2))],4,g⟩)
   (fun p=>p.1≤Γ.length∧p.2.length=p.1∧shsR Γ=(if (shsR (Γ.drop p.1)).2=0 then (p.2++(shsR (Γ.drop p.1)).1,0) else ((shsR Γ).1,(shsR (Γ.drop p.1)).2))) (fun p=>Γ.length - p.1) (0,[]) ⟨by simp,rfl,by simp only[List.drop_zero];split<;>(rename_i hq;exact Prod.ext rfl (by simp[hq]))⟩
   (Ent.nil rfl rfl rfl (by repeat' first|exact trivial|apply And.intro|rfl|(refine int_eq ?_;rw[wrap64]<;>omega)) (by repeat' first|exact trivial|apply And.intro|rfl|(refine int_eq ?_;rw[wrap64]<;>omega))) (fun _=>rfl) fun p hpre=>?_
 obtain⟨i,out⟩:=p
 obtain⟨hp1,hp2,hp3⟩:=hpre
 simp only[]at hp1 hp2 hp3
 unfold kcx
 by_cases hi:i < Γ.length
 ·rw[AP hi,shsR]at hp3
  have hs:=LH (Γ.getD i .nil) 1 0
  generalize BK (Γ.getD i .nil) 1 0=r at hs hp3
  obtain⟨m,e⟩:=r
  simp only[]at hs hp3
  by_cases he:e=0
  ·subst he
   rw[if_pos rfl]at hp3
   repeat' ((first|refine Ga ?_|refine Gc fun hlen=>?_|refine Ge hs ?_|refine Side.mk (show (i+1≤maxN∧(i+1)*8≤140737488355328) from⟨by unfold maxN;omega,by omega⟩) ?_|refine Gd (fun hc=>?_) fun hc=>?_)<;>conv=>whnf)
   refine⟨(i+1,out++[m]),⟨by simp only[];omega,by simp[hp2],?_⟩,by simp only[];omega,Ent.go [0,1,2,4]⟩
   refine hp3.trans ?_
   simp only[List.append_assoc,List.singleton_append]
  ·rw[if_neg he,if_neg he]at hp3
   have e2:(shsR Γ).2=e:=by rw[hp3]
   rw[if_neg (by rw[e2];exact he),e2]
   repeat' ((first|refine Ga ?_|refine Gc fun hlen=>?_|refine Ge hs ?_|refine Gd (fun hc=>?_) fun hc=>?_)<;>conv=>whnf)
   exact Bx htt _ rfl rfl rfl rfl
 ·rw[Ab (by omega),shsR,if_pos rfl,List.append_nil]at hp3
  rw[hp3,if_pos rfl]
  repeat' ((first|refine Ga ?_|refine Gc fun hlen=>?_|refine Gd (fun hc=>?_) fun hc=>?_)<;>conv=>whnf)
  refine RetR.ent (Ent.Cu 3 (l:=out) rfl (by repeat' first|exact trivial|apply And.intro|rfl|exact hp2.symm|exact Nat.zero_lt_one|omega) (by repeat' first|exact trivial|apply And.intro|rfl|exact hp2.symm|exact Nat.zero_lt_one|omega)) ?_
  exact Bx htt _ rfl rfl rfl rfl
theorem Qa (T:Tree)(hT:T≠.nil)(s:ByteArray)(h:∀x∈T.kids,x≠.nil∧0 < x.kids.length):Pure P 133 [.d (.tree T),.d (.str s)] (.tuple [.d (.tree (oT (Af s T.kids))),.d (.bool (Af s T.kids).isSome)]):=by
 refine Pure.AB tt [] [4,5] Tryz.func133 rfl rfl rfl lb fun g=>?_
 repeat' ((first|refine Ga ?_|refine Gc fun hlen=>?_|refine Gd (fun hc=>?_) fun hc=>?_)<;>conv=>whnf)
 refine AY (α:=Nat) (fun p=>⟨[(1,.d (.str s)),(11,.d (.trees T.kids)),(12,.d (.int .i64 T.kids.length)),(13,.d (.int .i64 p))],30,[],0,g⟩) (fun p=>p≤T.kids.length∧Af s (T.kids.drop p)=Af s T.kids) (fun p=>T.kids.length - p) 0 ⟨by omega,rfl⟩
  (Ent.go []) (fun _=>rfl) fun p hpre=>?_
 obtain⟨hp1,hp2⟩:=hpre
 by_cases hlt:p < T.kids.length
 ·obtain⟨h1,h2⟩:=h _ (AA hlt)
  by_cases hs:(T.kids.getD p .nil).name=s
  ·rw[AP hlt,Af,if_pos hs]at hp2
   rw[←hp2]
   repeat' ((first|refine Ga ?_|refine Gc fun hlen=>?_|refine Gh ((0:Int)≤(p:Int)∧(p:Int) < (T.kids.length:Int)) ?_|refine Side.mk h1 ?_|refine Gh ((0:Int)≤0∧(0:Int) < ((T.kids.getD p .nil).kids.length:Int)) ?_|refine Gd (fun hc=>?_) fun hc=>?_)<;>conv=>whnf)
   exact Gg
  ·rw[LZ hlt hs]at hp2
   repeat' ((first|refine Ga ?_|refine Gc fun hlen=>?_|refine Gh ((0:Int)≤(p:Int)∧(p:Int) < (T.kids.length:Int)) ?_|refine Side.mk h1 ?_|refine Gd (fun hc=>?_) fun hc=>?_)<;>conv=>whnf)
   exact⟨p+1,⟨by omega,hp2⟩,by omega,Ent.go []⟩
 ·rw[Ab (by omega),Af]at hp2
  rw[←hp2]
  repeat' ((first|refine Ga ?_|refine Gc fun hlen=>?_|refine Gd (fun hc=>?_) fun hc=>?_)<;>conv=>whnf)
  exact Gg
theorem Rd (x y:Tree)(hx:x≠.nil)(hy:y≠.nil):Pure P 151 [.d (.tree x),.d (.tree y)] (.d (.bool (decide (x.name=y.name)))):=by
 refine Pure.AB tt [] [4] (Tryz.func151) rfl rfl rfl lb fun g=>?_
 repeat' ((first|refine Ga ?_|refine Gc fun hlen=>?_|refine Gd (fun hc=>?_) fun hc=>?_)<;>conv=>whnf)
 exact Gf rfl (AZ (by rw[F5])) rfl
theorem QR (l l':List Tree)(h:∀x∈l,x≠.nil)(h':∀x∈l',x≠.nil) :
  Pure P 23 [.d (.trees l),.d (.trees l'),.fn 151 []] (.d (.bool (D2 l l'))):=by
 refine Pure.AB tt [] [6] (Tryz.func23) rfl rfl rfl lb fun g=>?_
 by_cases hl:l.length=l'.length
 ·repeat' ((first|refine Ga ?_|refine Gc fun hlen=>?_|refine Gd (fun hc=>?_) fun hc=>?_)<;>conv=>whnf)
  refine AY (α:=Nat) (fun p=>⟨[(1,.d (.trees l')),(2,.fn 151 []),(15,.d (.trees l)),(16,.d (.int .i64 l.length)),(17,.d (.int .i64 p))],32,[],0,g⟩) (fun p=>p≤l.length∧D2 (l.drop p) (l'.drop p)=D2 l l') (fun p=>l.length - p) 0 ⟨by omega,rfl⟩
   (Ent.go []) (fun _=>rfl) fun p hpre=>?_
  obtain⟨hp1,hp2⟩:=hpre
  by_cases hlt:p < l.length
  ·have hq:=Rd (l.getD p .nil) (l'.getD p .nil) (h _ (AA hlt)) (h' _ (AA (by omega)))
   rw[AP hlt,AP (l:=l') (by omega),D2]at hp2
   by_cases e:(l.getD p .nil).name=(l'.getD p .nil).name
   ·rw[decide_eq_true e]at hq hp2
    rw[Bool.true_and]at hp2
    repeat' ((first|refine Ga ?_|refine Gc fun hlen=>?_|refine Gh ((0:Int)≤(p:Int)∧(p:Int) < (l.length:Int)) ?_|refine Gh ((0:Int)≤(p:Int)∧(p:Int) < (l'.length:Int)) ?_|refine Ge hq ?_|refine Gd (fun hc=>?_) fun hc=>?_)<;>conv=>whnf)
    exact⟨p+1,⟨by omega,hp2⟩,by omega,Ent.go []⟩
   ·rw[decide_eq_false e]at hq hp2
    rw[←hp2]
    repeat' ((first|refine Ga ?_|refine Gc fun hlen=>?_|refine Gh ((0:Int)≤(p:Int)∧(p:Int) < (l.length:Int)) ?_|refine Gh ((0:Int)≤(p:Int)∧(p:Int) < (l'.length:Int)) ?_|refine Ge hq ?_|refine Gd (fun hc=>?_) fun hc=>?_)<;>conv=>whnf)
    exact Gg
  ·rw[Ab (by omega),Ab (l:=l') (by omega),D2]at hp2
   rw[←hp2]
   repeat' ((first|refine Ga ?_|refine Gc fun hlen=>?_|refine Gd (fun hc=>?_) fun hc=>?_)<;>conv=>whnf)
   exact Gg
 ·have hs:D2 l l'=false:=by
   rw[GA]
   apply decide_eq_false
   intro e
   have:=congrArg List.length e
   simp at this
   exact hl this
  repeat' ((first|refine Ga ?_|refine Gc fun hlen=>?_|refine Gd (fun hc=>?_) fun hc=>?_)<;>conv=>whnf)
  exact Gf rfl (AZ (by rw[hs])) rfl
theorem Tb (l:List Tree)(F:Nat)(D:Mq.Data)(b:Tree→Bool)(h:∀x∈l,Fun P F [.d (.tree x),.ref 0 0] [(0,.cells [.d D])] 1 (.d (.bool (b x))) [(0,.cells [.d D])] 1) :
  Fun P 52 [.d (.trees l),.fn F [.ref 0 0]] [(0,.cells [.d D])] 1 (.d (.int .i64 (Ki.idxF b 0 l))) [(0,.cells [.d D])] 1:=by
 refine Fun.AB tt [] [4] (Tryz.func52) rfl rfl rfl lb fun g=>?_
 repeat' ((first|refine Ga ?_|refine Gc fun hlen=>?_|refine Gd (fun hc=>?_) fun hc=>?_)<;>conv=>whnf)
 refine AY (α:=Nat) (fun p=>⟨[(0,.d (.trees l)),(1,.fn F [.ref 0 0]),(7,.d (.int .i64 l.length)),(8,.d (.int .i64 p))],19,[(0,.cells [.d D])],1,g⟩)
   (fun p=>p≤l.length∧Ki.idxF b p (l.drop p)=Ki.idxF b 0 l) (fun p=>l.length - p) 0 ⟨by omega,rfl⟩
   (Ent.go [0]) (fun _=>rfl) fun p hpre=>?_
 obtain⟨hp1,hp2⟩:=hpre
 by_cases hp:p < l.length
 ·have hx:=h _ (AA hp)
  rw[AP hp,Ki.idxF]at hp2
  cases hb:b (l.getD p .nil) with
  | true =>
   rw[hb]at hx
   rw[if_pos hb]at hp2
   rw[←hp2]
   repeat' ((first|refine Ga ?_|refine Gc fun hlen=>?_|refine AJ.go hx [0] ?_|refine Gd (fun hc=>?_) fun hc=>?_)<;>conv=>whnf)
   exact Aq rfl rfl rfl
  | false =>
   rw[hb]at hx
   rw[if_neg (by rw[hb];decide)]at hp2
   repeat' ((first|refine Ga ?_|refine Gc fun hlen=>?_|refine AJ.go hx [0] ?_|refine Gd (fun hc=>?_) fun hc=>?_)<;>conv=>whnf)
   exact⟨p+1,⟨by omega,by rw[←hp2];push_cast;rfl⟩,by omega,Ent.go [0]⟩
 ·rw[Ab (by omega),Ki.idxF]at hp2
  rw[←hp2]
  repeat' ((first|refine Ga ?_|refine Gc fun hlen=>?_|refine Gd (fun hc=>?_) fun hc=>?_)<;>conv=>whnf)
  exact Aq rfl rfl rfl
theorem JN (l:List Tree)(F:Nat)(D:Mq.Data)(b:Tree→Bool)(h:∀x∈l,Fun P F [.d (.tree x),.ref 0 0] [(0,.cells [.d D])] 1 (.d (.bool (b x))) [(0,.cells [.d D])] 1) :
  Fun P 31 [.d (.trees l),.fn F [.ref 0 0]] [(0,.cells [.d D])] 1 (.d (.bool (l.any b))) [(0,.cells [.d D])] 1:=by
 have hi:=Tb l F D b h
 refine Fun.AB tt [] [4] (Tryz.func31) rfl rfl rfl lb fun g=>?_
 repeat' ((first|refine Ga ?_|refine Gc fun hlen=>?_|refine AJ.go hi [0] ?_|refine Gd (fun hc=>?_) fun hc=>?_)<;>conv=>whnf)
 exact AM rfl rfl (AZ (Ki.LK b l 0 (Int.le_refl 0))) (by repeat' first|exact trivial|apply And.intro|rfl|(refine int_eq ?_;rw[wrap64]<;>omega)) (Nat.le_refl _)
theorem Tx (x t:Tree):Fun P 152 [.d (.tree x),.ref 0 0] [(0,.cells [.d (.tree t)])] 1 (.d (.bool (!BQ x t))) [(0,.cells [.d (.tree t)])] 1:=by
 have h1:=FV x t
 refine Fun.AB tt [] [3] (Tryz.func152) rfl rfl rfl lb fun g=>?_
 repeat' ((first|refine Ga ?_|refine Gc fun hlen=>?_|refine Ge h1 ?_|refine Gd (fun hc=>?_) fun hc=>?_)<;>conv=>whnf)
 exact Aq rfl rfl rfl
theorem PZ (l:List Tree)(t:Tree):Pure P 137 [.d (.trees l),.d (.tree t)] (rA (EC l t)):=by
 have h1:=JN l 152 (.tree t) (fun s=>!BQ s t) fun x _=>Tx x t
 refine Pure.AB tt [] [4,5] Tryz.func137 rfl rfl rfl lb fun g=>?_
 unfold EC
 cases hb:l.any fun s=>!BQ s t with
 | true =>
  rw[hb]at h1
  repeat' ((first|refine Ga ?_|refine Gc fun hlen=>?_|refine AJ.go h1 [0] ?_|refine Gd (fun hc=>?_) fun hc=>?_)<;>conv=>whnf)
  exact Gg
 | false =>
  rw[hb]at h1
  repeat' ((first|refine Ga ?_|refine Gc fun hlen=>?_|refine AJ.go h1 [0] ?_|refine Gd (fun hc=>?_) fun hc=>?_)<;>conv=>whnf)
  exact Gg
theorem Vn (T:Tree)(hT:T≠.nil)(hk:T.kind=134):Pure P 57 [.d (.tree T)] (.fn 92 []):=by
 refine Pure.AB tt [] [2] Tryz.func57 rfl rfl rfl lb fun g=>?_
 repeat' ((first|refine Ga ?_|refine Gc fun hlen=>?_|refine Gd (fun hc=>?_) fun hc=>?_)<;>conv=>whnf)
 exact Gg
theorem Wi (T:Tree)(hT:T≠.nil)(hk:T.kind=135):Pure P 57 [.d (.tree T)] (.fn 93 []):=by
 refine Pure.AB tt [] [2] Tryz.func57 rfl rfl rfl lb fun g=>?_
 repeat' ((first|refine Ga ?_|refine Gc fun hlen=>?_|refine Gd (fun hc=>?_) fun hc=>?_)<;>conv=>whnf)
 exact Gg
theorem U9 (T:Tree)(hT:T≠.nil)(hk:T.kind=136):Pure P 57 [.d (.tree T)] (.fn 94 []):=by
 refine Pure.AB tt [] [2] Tryz.func57 rfl rfl rfl lb fun g=>?_
 repeat' ((first|refine Ga ?_|refine Gc fun hlen=>?_|refine Gd (fun hc=>?_) fun hc=>?_)<;>conv=>whnf)
 exact Gg
theorem TV (T:Tree)(hT:T≠.nil)(hk:T.kind=138):Pure P 57 [.d (.tree T)] (.fn 95 []):=by
 refine Pure.AB tt [] [2] Tryz.func57 rfl rfl rfl lb fun g=>?_
 repeat' ((first|refine Ga ?_|refine Gc fun hlen=>?_|refine Gd (fun hc=>?_) fun hc=>?_)<;>conv=>whnf)
 exact Gg
theorem TO (T:Tree)(hT:T≠.nil)(hk:T.kind=140):Pure P 57 [.d (.tree T)] (.fn 96 []):=by
 refine Pure.AB tt [] [2] Tryz.func57 rfl rfl rfl lb fun g=>?_
 repeat' ((first|refine Ga ?_|refine Gc fun hlen=>?_|refine Gd (fun hc=>?_) fun hc=>?_)<;>conv=>whnf)
 exact Gg
theorem UG (T:Tree)(hT:T≠.nil)(hk:T.kind=141):Pure P 57 [.d (.tree T)] (.fn 97 []):=by
 refine Pure.AB tt [] [2] Tryz.func57 rfl rfl rfl lb fun g=>?_
 repeat' ((first|refine Ga ?_|refine Gc fun hlen=>?_|refine Gd (fun hc=>?_) fun hc=>?_)<;>conv=>whnf)
 exact Gg
theorem PB (T:Tree)(hT:T≠.nil)(hk:T.kind=142):Pure P 57 [.d (.tree T)] (.fn 98 []):=by
 refine Pure.AB tt [] [2] Tryz.func57 rfl rfl rfl lb fun g=>?_
 repeat' ((first|refine Ga ?_|refine Gc fun hlen=>?_|refine Gd (fun hc=>?_) fun hc=>?_)<;>conv=>whnf)
 exact Gg
theorem PG (T:Tree)(hT:T≠.nil)(hk:T.kind=144):Pure P 57 [.d (.tree T)] (.fn 99 []):=by
 refine Pure.AB tt [] [2] Tryz.func57 rfl rfl rfl lb fun g=>?_
 repeat' ((first|refine Ga ?_|refine Gc fun hlen=>?_|refine Gd (fun hc=>?_) fun hc=>?_)<;>conv=>whnf)
 exact Gg
theorem YY (T:Tree)(hT:T≠.nil)(hk:T.kind=145):Pure P 57 [.d (.tree T)] (.fn 100 []):=by
 refine Pure.AB tt [] [2] Tryz.func57 rfl rfl rfl lb fun g=>?_
 repeat' ((first|refine Ga ?_|refine Gc fun hlen=>?_|refine Gd (fun hc=>?_) fun hc=>?_)<;>conv=>whnf)
 exact Gg
theorem XD (T:Tree)(hT:T≠.nil)(hk:T.kind=146):Pure P 57 [.d (.tree T)] (.fn 101 []):=by
 refine Pure.AB tt [] [2] Tryz.func57 rfl rfl rfl lb fun g=>?_
 repeat' ((first|refine Ga ?_|refine Gc fun hlen=>?_|refine Gd (fun hc=>?_) fun hc=>?_)<;>conv=>whnf)
 exact Gg
theorem Rh (T:Tree)(hT:T≠.nil)(hk:T.kind=147):Pure P 57 [.d (.tree T)] (.fn 102 []):=by
 refine Pure.AB tt [] [2] Tryz.func57 rfl rfl rfl lb fun g=>?_
 repeat' ((first|refine Ga ?_|refine Gc fun hlen=>?_|refine Gd (fun hc=>?_) fun hc=>?_)<;>conv=>whnf)
 exact Gg
theorem UL (T:Tree)(hT:T≠.nil)(h134:T.kind≠134)(h135:T.kind≠135)(h136:T.kind≠136)(h138:T.kind≠138)(h140:T.kind≠140)(h141:T.kind≠141)(h142:T.kind≠142)(h144:T.kind≠144)(h145:T.kind≠145)(h146:T.kind≠146)(h147:T.kind≠147):Pure P 57 [.d (.tree T)] (.fn 103 []):=by
 refine Pure.AB tt [] [2] Tryz.func57 rfl rfl rfl lb fun g=>?_
 repeat' ((first|refine Ga ?_|refine Gc fun hlen=>?_|refine Gd (fun hc=>?_) fun hc=>?_)<;>conv=>whnf)
 exact Gg
theorem DQ {T:Tree}(h:AG T=true):T≠.nil:=by intro e;subst e;rw[AG]at h;cases h
theorem AX {r:Tree×Int}{f:Tree→Tree×Int}(h:(bnd r f).2=0):r.2=0∧bnd r f=f r.1∧(f r.1).2=0:=by
 unfold bnd at *
 by_cases h0:r.2=0
 ·rw[if_pos h0]at h ⊢;exact⟨h0,rfl,h⟩
 ·rw[if_neg h0]at h;exact absurd h h0
theorem CE {r:List Tree×Int}{f:List Tree→Tree×Int}(h:(lbnd r f).2=0):r.2=0∧lbnd r f=f r.1∧(f r.1).2=0:=by
 unfold lbnd at *
 by_cases h0:r.2=0
 ·rw[if_pos h0]at h ⊢;exact⟨h0,rfl,h⟩
 ·rw[if_neg h0]at h;exact absurd h h0
theorem Iz {r:Tree×Int}{k:Int}(h:(asR r k).2=0):r.2=0∧r.1.kind=k∧asR r k=r:=by
 unfold asR at *
 split at h
 ·simp at h
 ·rename_i hn
  rw[if_neg hn]
  have h1:r.2=0:=h
  refine⟨h1,?_,rfl⟩
  exact Decidable.of_not_not fun e=>hn ⟨h1,e⟩
theorem EH {T:Tree}(h:(No.Ac T).2=0):AG (No.Ac T).1=true∧AD (No.Ac T).1≤65536:=QM (m:=(No.Ac T).1) (by rw[←h])
theorem HI {K:List Tree}{T:Tree}(h:(tstR K T).2=0):Ki.Hh K T=0∧tstR K T=No.Ac T∧(No.Ac T).2=0:=by
 unfold tstR at *
 by_cases h0:Ki.Hh K T=0
 ·rw[if_pos h0]at h ⊢;exact⟨h0,rfl,h⟩
 ·rw[if_neg h0]at h;exact absurd h h0
theorem Ta {n b:Tree}(h:(B5 n b).2=0):(Ax n 0 b).2=0∧B5 n b=No.Ac (Ax n 0 b).1∧(No.Ac (Ax n 0 b).1).2=0:=AX h
theorem RA {T:Tree}{b:Int}(h:(BK T b 0).2=0):conE T=0∧vmap (fM b 0) T 0=some (BK T b 0).1:=by
 by_cases hc:conE T=0
 ·refine⟨hc,?_⟩
  rw[Ke hc (by omega)]at h ⊢
  cases hv:vmap (fM b 0) T 0 with
  | none=>rw[hv]at h;simp at h
  | some m=>rfl
 ·unfold BK at h
  rw[if_neg hc]at h
  exact absurd h hc
theorem T4 {T:Tree}{b:Int}(h:(BK T b 0).2=0):AG (BK T b 0).1=true:=by
 obtain⟨h1,h2⟩:=RA h
 exact (Ak (IF (SW b 0) h1 h2)).2
theorem MG:∀{l:List Tree},(shsR l).2=0→(∀x∈l,(BK x 1 0).2=0)∧(shsR l).1=l.map fun x=>(BK x 1 0).1
 | [],_=>⟨by simp,rfl⟩
 | x::l,h=>by
  rw[shsR]at h ⊢
  by_cases h0:(BK x 1 0).2=0
  ·rw[if_pos h0]at h ⊢
   obtain⟨h1,h2⟩:=MG (l:=l) h
   refine⟨fun y hy=>?_,by simp only[List.map_cons];rw[h2]⟩
   rcases List.mem_cons.1 hy with rfl|hy
   ·exact h0
   ·exact h1 y hy
  ·rw[if_neg h0]at h;exact absurd h h0
theorem all_zero {K Γ:List Tree}:∀{l:List Tree},(Dt l K Γ).2=0→(∀x∈l,(ofF x K Γ).2=0)∧(Dt l K Γ).1=l.map fun x=>(ofF x K Γ).1
 | [],_=>by rw[Dt];exact⟨by simp,rfl⟩
 | x::l,h=>by
  rw[Dt]at h ⊢
  by_cases h0:(ofF x K Γ).2=0
  ·rw[if_pos h0]at h ⊢
   obtain⟨h1,h2⟩:=all_zero (l:=l) h
   refine⟨fun y hy=>?_,by simp only[List.map_cons];rw[h2]⟩
   rcases List.mem_cons.1 hy with rfl|hy
   ·exact h0
   ·exact h1 y hy
  ·rw[if_neg h0]at h;exact absurd h h0
def fldT (nm:ByteArray)(t:Tree):Tree:=.node 116 0 nm ByteArray.empty [t]
theorem Mr {K Γ:List Tree}:∀{l:List Tree},(Cj l K Γ).2=0→(∀x∈l,(ofF (x.kids.getD 0 .nil) K Γ).2=0)∧(Cj l K Γ).1=l.map fun x=>fldT x.name (ofF (x.kids.getD 0 .nil) K Γ).1
 | [],_=>by rw[Cj];exact⟨by simp,rfl⟩
 | x::l,h=>by
  rw[HQ]at h ⊢
  by_cases h0:(ofF (x.kids.getD 0 .nil) K Γ).2=0
  ·rw[if_pos h0]at h ⊢
   obtain⟨h1,h2⟩:=Mr (l:=l) h
   refine⟨fun y hy=>?_,by simp only[List.map_cons];rw[h2];rfl⟩
   rcases List.mem_cons.1 hy with rfl|hy
   ·exact h0
   ·exact h1 y hy
  ·rw[if_neg h0]at h;exact absurd h h0
def armA (S:List Tree)(self:Tree)(i:Nat):Tree:=(B5 ((S.getD i .nil).kids.getD 0 .nil) self).1
theorem Jm {self:Tree}{K Γ:List Tree}:∀{l S:List Tree},(Ch l S self K Γ).2=0→(Ch l S self K Γ).1.length=l.length∧∀i,i < l.length→(B5 ((S.getD i .nil).kids.getD 0 .nil) self).2=0 ∧
   (ofF ((l.getD i .nil).kids.getD 0 .nil) K (armA S self i::Γ)).2=0∧(Ch l S self K Γ).1.getD i .nil=(ofF ((l.getD i .nil).kids.getD 0 .nil) K (armA S self i::Γ)).1
 | [],S,_=>by rw[Ch];exact⟨rfl,fun i hi=>by simp at hi⟩
 | x::l,S,h=>by
  rw[Ch]at h ⊢
  by_cases h0:(B5 ((S.getD 0 .nil).kids.getD 0 .nil) self).2=0
  ·rw[if_pos h0]at h ⊢
   by_cases h1:(ofF (x.kids.getD 0 .nil) K ((B5 ((S.getD 0 .nil).kids.getD 0 .nil) self).1::Γ)).2=0
   ·rw[if_pos h1]at h ⊢
    obtain⟨h2,h3⟩:=Jm (l:=l) (S:=S.drop 1) h
    refine⟨by simp only[List.length_cons];rw[h2],fun i hi=>?_⟩
    cases i with
    | zero=>exact⟨h0,h1,rfl⟩
    | succ i =>
     have h4:=h3 i (by simpa using hi)
     have e:(S.drop 1).getD i .nil=S.getD (i+1) .nil:=by
      rw[List.getD_eq_getElem?_getD,List.getD_eq_getElem?_getD,List.getElem?_drop,Nat.add_comm]
     unfold armA at *
     rw[e]at h4
     exact h4
   ·rw[if_neg h1]at h;exact absurd h h1
  ·rw[if_neg h0]at h;exact absurd h h0
theorem ME {l:List Tree}{t:Tree}(h:(EC l t).2=0):EC l t=(t,0)∧∀x∈l,x=t:=by
 unfold EC at *
 by_cases h0:(l.any fun s=>!BQ s t)=true
 ·rw[if_pos h0]at h;simp at h
 ·rw[if_neg h0]
  refine⟨rfl,fun x hx=>?_⟩
  rw[Bool.not_eq_true,List.any_eq_false]at h0
  have:=h0 x hx
  simp only[Bool.not_eq_true',Bool.not_eq_false]at this
  exact (Ez x t).1 this
theorem Xi {ts:List Tree}(h:∀x∈ts,BU 116 x=true)(hr:Ba ts=true):AG (cT 115 ts)=true:=by
 rw[Am (by simp[cT])]
 have:Bg 116 ts=true:=by
  clear hr
  induction ts with
  | nil=>rw[Bg]
  | cons x l ih=>rw[Bg,h x (by simp),ih fun y hy=>h y (by simp[hy])];rfl
 simp[cT,Tree.kind,Tree.kids,Tree.n,CP,Tree.mark,Tree.name,this,hr]
theorem YV {pre l:List Tree}(h:Cv true pre l=true):Ba l=true∧∀y∈pre,∀x∈l.head?,ltB y.name x.name=true:=by
 induction l generalizing pre with
 | nil=>exact⟨by rw[Ba],by simp⟩
 | cons x l ih =>
  rw[Cv,Bool.and_eq_true]at h
  obtain⟨h1,h2⟩:=ih h.2
  have h3:∀y∈pre,ltB y.name x.name=true:=by
   intro y hy
   have:=(List.all_eq_true.1 h.1) y hy
   unfold ED at this
   simp only[Bool.and_eq_true,Bool.not_eq_true',decide_eq_false_iff_not,Bool.not_true,Bool.false_or,Bool.or_eq_true,decide_eq_true_eq]at this
   rcases this.2 with h|h
   ·exact h
   ·exact absurd h this.1
  refine⟨?_,fun y hy z hz=>by simp at hz;subst hz;exact h3 y hy⟩
  cases l with
  | nil=>rw[Ba]
  | cons z l=>rw[Ba,h1,h2 x (by simp) z (by simp)];rfl
theorem I6:∀(l m:List Tree),l.map Tree.name=m.map Tree.name→Ba l=Ba m
 | [],[],_=>rfl
 | [a],[b],_=>by rw[Ba,Ba]
 | a::b::l,c::d::m,h=>by
  simp only[List.map_cons,List.cons.injEq]at h
  rw[Ba,Ba,h.1,h.2.1,I6 (b::l) (d::m) (by simp[h.2.1,h.2.2])]
 | [],_::_,h=>by simp at h
 | _::_,[],h=>by simp at h
 | [a],_::_::_,h=>by simp at h
 | _::_::_,[b],h=>by simp at h
theorem bV {s:ByteArray}{T p:Tree}(hT:AG T=true)(hk:T.kind=115∨T.kind=121)(h:Af s T.kids=some p):AG p=true:=by
 have hne:T≠.nil:=by intro e;subst e;rw[AG]at hT;cases hT
 obtain⟨y,h1,rfl⟩:=J8 h
 rcases hk with hk|hk
 ·exact (Ki.CF (Ki.GV hne hT hk y h1)).2.2
 ·exact (Ki.CF (Ki.EM hne hT hk y h1)).2.2
theorem Dc {k:Int}{x:Tree}(h:A9 k x=true):x≠.nil∧x.name≠ByteArray.empty∧DR x.name=true∧x.kids.length=1∧AF (x.kids.getD 0 .nil)=true:=by
 have hT:x≠.nil:=by intro e;subst e;rw[A9]at h;cases h
 rw[D9 hT]at h
 simp only[Bool.and_eq_true,decide_eq_true_eq]at h
 refine⟨hT,?_,h.1.1.2,h.1.2,h.2⟩
 intro e
 have:=h.1.1.2
 rw[e]at this
 exact absurd this (by decide)
theorem Yg {nm:ByteArray}{t:Tree}(h1:nm≠ByteArray.empty)(h2:DR nm=true)(h3:AG t=true):BU 116 (fldT nm t)=true:=by
 rw[CG (by simp[fldT])]
 simp[fldT,Tree.kind,Tree.name,Tree.kids,CP,Tree.n,Tree.mark,h1,h2,h3]
theorem Ec:∀(n:Nat) (T:Tree),AD T≤n→AF T=true→∀K Γ:List Tree,(ofF T K Γ).2=0→AG (ofF T K Γ).1=true:=by
 intro n
 induction n with
 | zero=>intro T hz hT;have:=AI (AQ hT);omega
 | succ n ih =>
  intro T hz hT K Γ h
  have hTn:=AQ hT
  have hsz:=AI hTn
  have sz:∀i,i < T.kids.length→AD (T.kids.getD i .nil)≤n:=fun i hi=>by have:=AH (AA (l:=T.kids) hi);omega
  have szx:∀x∈T.kids,x≠.nil→x.kids.length=1→AD (x.kids.getD 0 .nil)≤n:=fun x hx hn h1=>by
   have h2:=AH hx
   have h3:=AI hn
   have h4:=AH (AA (l:=x.kids) (i:=0) (by omega))
   omega
  rw[Qg T K Γ hTn]at h ⊢
  by_cases k130:T.kind=130
  ·rw[if_pos k130]at h ⊢
   unfold varR at *
   split at h
   ·simp at h
   ·rename_i hq;rw[if_neg hq];exact (EH h).1
  rw[if_neg k130]at h ⊢
  by_cases k131:T.kind=131
  ·rw[if_pos k131];rfl
  rw[if_neg k131]at h ⊢
  by_cases k132:T.kind=132
  ·rw[if_pos k132];rfl
  rw[if_neg k132]at h ⊢
  by_cases k133:T.kind=133
  ·rw[if_pos k133];rfl
  rw[if_neg k133]at h ⊢
  by_cases k139:T.kind=139
  ·rw[if_pos k139]at h ⊢
   obtain⟨t1,t2,t3⟩:=Er hT k139
   obtain⟨h1,h2,h3⟩:=CE h
   unfold SF
   rw[h2]
   obtain⟨h4,h5,h6⟩:=AX h3
   rw[h5]
   exact No.Xt (.inl rfl) t2 (ih _ (sz 1 (by omega)) t3 _ _ h4)
  rw[if_neg k139]at h ⊢
  by_cases k143:T.kind=143
  ·rw[if_pos k143]at h ⊢
   obtain⟨t1,t2,t3⟩:=A8 hT (.inr (.inr (.inl k143)))
   obtain⟨h1,h2,h3⟩:=AX h
   unfold letR
   rw[h2]
   exact ih _ (sz 1 (by omega)) t3 _ _ h3
  rw[if_neg k143]at h ⊢
  unfold Po at *
  by_cases k134:T.kind=134
  ·rw[if_pos k134]at h ⊢
   obtain⟨t1,t2,t3⟩:=Bs hT (.inl k134)
   obtain⟨h1,h2,h3⟩:=AX h
   unfold lamR
   rw[h2]
   obtain⟨h4,h5,h6⟩:=AX h3
   rw[h5]
   obtain⟨_,e1,e2⟩:=HI h1
   exact No.Xv (.inl rfl) (by rw[e1];exact (EH e2).1) (ih _ (sz 1 (by omega)) t3 _ _ h4)
  rw[if_neg k134]at h ⊢
  by_cases k135:T.kind=135
  ·rw[if_pos k135]at h ⊢
   obtain⟨t1,t2,t3⟩:=A8 hT (.inl k135)
   obtain⟨h1,h2,h3⟩:=AX h
   unfold appR
   rw[h2]
   obtain⟨h4,h5,h6⟩:=AX h3
   rw[h5]
   have c1:=ih _ (sz 0 (by omega)) t2 _ _ h1
   split at h6
   ·rename_i hq
    rw[if_pos hq]
    exact (Ki.H2 (DQ c1) c1 (.inl hq.1)).2.2
   ·simp at h6
  rw[if_neg k135]at h ⊢
  by_cases k136:T.kind=136
  ·rw[if_pos k136]at h ⊢
   obtain⟨t1,t2⟩:=Fq hT k136
   obtain⟨h1,h2,h3⟩:=CE h
   unfold recR
   rw[h2]
   obtain⟨e1,e2⟩:=Mr h1
   rw[e2]
   refine Xi (fun y hy=>?_) ?_
   ·obtain⟨x,hx,rfl⟩:=List.mem_map.1 hy
    obtain⟨a1,a2,a3,a4,a5⟩:=Dc (t1 x hx)
    have c1:=ih _ (szx x hx a1 a4) a5 _ _ (e1 x hx)
    exact Yg a2 a3 c1
   ·rw[I6 _ T.kids (by simp[fldT,Tree.name,List.map_map,Function.comp_def])]
    exact (YV t2).1
  rw[if_neg k136]at h ⊢
  by_cases k138:T.kind=138
  ·rw[if_pos k138]at h ⊢
   obtain⟨t1,t2⟩:=GY hT k138
   obtain⟨h1,h2,h3⟩:=AX h
   unfold Mu
   rw[h2]
   obtain⟨a1,a2,a3⟩:=Iz h1
   rw[a3]at h3 ⊢
   cases hp:Af T.name (ofF (T.kids.getD 0 .nil) K Γ).1.kids with
   | none=>rw[hp]at h3;simp at h3
   | some p=>exact bV (ih _ (sz 0 (by omega)) t2 _ _ a1) (.inl a2) hp
  rw[if_neg k138]at h ⊢
  by_cases k140:T.kind=140
  ·rw[if_pos k140]at h ⊢
   obtain⟨t1,t2,t3⟩:=Da hT k140
   obtain⟨h1,h2,h3⟩:=AX h
   unfold My
   rw[h2]
   obtain⟨h4,h5,h6⟩:=AX h3
   rw[h5]
   split at h6
   ·rename_i hq
    rw[if_pos hq]
    obtain⟨_,e1,e2⟩:=Ta h6
    rw[e1];exact (EH e2).1
   ·simp at h6
  rw[if_neg k140]at h ⊢
  by_cases k141:T.kind=141
  ·rw[if_pos k141]at h ⊢
   obtain⟨h1,h2,h3⟩:=AX h
   unfold Nh
   rw[h2]
   obtain⟨h4,h5,h6⟩:=AX h3
   rw[h5]
   obtain⟨h7,h8,h9⟩:=AX h6
   rw[h8]
   obtain⟨_,e1,e2⟩:=HI h1
   split at h9
   ·rename_i hq
    rw[if_pos hq]
    obtain⟨b1,b2,b3⟩:=AX h9
    rw[b2]
    split at b3
    ·rename_i hs;rw[if_pos hs,e1];exact (EH e2).1
    ·simp at b3
   ·simp at h9
  rw[if_neg k141]at h ⊢
  by_cases k142:T.kind=142
  ·rw[if_pos k142]at h ⊢
   obtain⟨h1,h2,h3⟩:=AX h
   unfold H4
   rw[h2]
   obtain⟨h4,h5,h6⟩:=CE h3
   rw[h5]
   obtain⟨h7,h8,h9⟩:=AX h6
   rw[h8]
   split at h9
   ·simp at h9
   ·rename_i hq
    rw[if_neg hq]
    exact T4 h9
  rw[if_neg k142]at h ⊢
  by_cases k144:T.kind=144
  ·rw[if_pos k144]at h ⊢
   obtain⟨t1,t2,t3,t4⟩:=C0 hT k144
   obtain⟨h1,h2,h3⟩:=CE h
   unfold JM
   rw[h2]
   obtain⟨e1,e2⟩:=all_zero h1
   split at h3
   ·rename_i hq
    rw[if_pos hq,e2]
    have:(T.kids.map fun x=>(ofF x K Γ).1).getD 1 .nil=(ofF (T.kids.getD 1 .nil) K Γ).1:=by
     rw[List.getD_eq_getElem?_getD,List.getD_eq_getElem?_getD,List.getElem?_map,List.getElem?_eq_getElem (show 1 < T.kids.length by omega)];rfl
    simp only[]
    rw[this]
    exact ih _ (sz 1 (by omega)) t3 _ _ (e1 _ (AA (by omega)))
   ·simp at h3
  rw[if_neg k144]at h ⊢
  by_cases k145:T.kind=145
  ·rw[if_pos k145]at h ⊢
   obtain⟨h1,h2,h3⟩:=AX h
   unfold opR
   rw[h2]
   obtain⟨h4,h5,h6⟩:=AX h3
   rw[h5]
   split at h6
   ·rename_i hq
    rw[if_pos hq]
    split<;>rfl
   ·simp at h6
  rw[if_neg k145]at h ⊢
  by_cases k146:T.kind=146
  ·rw[if_pos k146]at h ⊢
   obtain⟨h1,h2,h3⟩:=AX h
   unfold inR
   rw[h2]
   obtain⟨h4,h5,h6⟩:=AX h3
   rw[h5]
   obtain⟨_,e1,e2⟩:=HI h1
   split at h6
   ·rename_i hq
    rw[if_pos hq]
    cases hp:Af T.name (tstR K (T.kids.getD 0 .nil)).1.kids with
    | none=>rw[hp]at h6;simp at h6
    | some p =>
     rw[hp]at h6
     obtain⟨b1,b2,b3⟩:=AX h6
     simp only[]
     rw[b2]
     split at b3
     ·rename_i hs;rw[if_pos hs,e1];exact (EH e2).1
     ·simp at b3
   ·simp at h6
  rw[if_neg k146]at h ⊢
  by_cases k147:T.kind=147
  ·rw[if_pos k147]at h ⊢
   obtain⟨t1,t2,t3⟩:=Cg hT k147
   obtain⟨h1,h2,h3⟩:=AX h
   unfold Lq
   rw[h2]
   obtain⟨h4,h5,h6⟩:=CE h3
   rw[h5]
   rw[(ME h6).1]
   unfold armR at *
   split at h4
   ·rename_i hq
    rw[if_pos hq]
    obtain⟨b1,b2⟩:=Jm h4
    have hl:0 < (T.kids.drop 1).length:=by rw[List.length_drop];omega
    obtain⟨b3,b4,b5⟩:=b2 0 hl
    simp only[]
    rw[b5]
    have hm:=AA (l:=T.kids.drop 1) (i:=0) hl
    obtain⟨a1,a2,a3,a4,a5⟩:=Dc (t3 _ hm)
    exact ih _ (szx _ (List.mem_of_mem_drop hm) a1 a4) a5 _ _ b4
   ·simp at h4
  ·rw[if_neg k147]at h ⊢
   obtain⟨h1,h2,h3⟩:=AX h
   unfold La
   rw[h2]
   obtain⟨h4,h5,h6⟩:=AX h3
   rw[h5]
   obtain⟨h7,h8,h9⟩:=CE h6
   rw[h8,(ME h9).1]
   obtain⟨_,e1,e2⟩:=HI h4
   simp only[]
   rw[e1];exact (EH e2).1
def OfP (T:Tree):Prop:=∀K Γ:List Tree,AF T=true→Full T→K.length+AD T≤1073741824→Γ.length+AD T≤1073741824 →
 Pure P 32 [cxA K Γ,.d (.tree T)] (rA (ofF T K Γ))
theorem CB {a b:Int}(h:a=b):(a != b)=false:=by simpa using h
theorem FA {a b:Int}(h:a≠b):(a != b)=true:=by simpa using h
theorem SU {K:List Tree}{n:Tree}(h:(tstR K n).2=0):AG (tstR K n).1=true:=by
 obtain⟨_,e1,e2⟩:=HI h
 rw[e1];exact (EH e2).1
theorem Oc {c d:Prop} [Decidable c] [Decidable d]{α:Type}{a b:α}(h:¬c):(if c∧d then a else b)=b:=if_neg fun e=>h e.1
theorem Ku {c:Prop} [Decidable c]{x:Bool}{α:Type}{a b:α}(h:x=false):(if c∧x=true then a else b)=b:=if_neg fun e=>by rw[h]at e;cases e.2
theorem K4 {c:Prop} [Decidable c]{x:Bool}{α:Type}{a b:α}(h:c)(h':x=true):(if c∧x=true then a else b)=a:=if_pos ⟨h,h'⟩
theorem Oa (T:Tree)(hT:AF T=true)(hF:Full T)(hk:T.kind=135)(ih:∀U,AD U < AD T→OfP U)(K Γ:List Tree)(hK:K.length+AD T≤1073741824)(hΓ:Γ.length+AD T≤1073741824) :
  Pure P 93 [cxA K Γ,.d (.tree T)] (rA (appR T K Γ)):=by
 have hTn:=AQ hT
 have hsz:=AI hTn
 obtain⟨t1,t2,t3⟩:=A8 hT (.inl hk)
 have m0:=AA (l:=T.kids) (i:=0) (by omega)
 have s0:=AH m0
 have m1:=AA (l:=T.kids) (i:=1) (by omega)
 have s1:=AH m1
 have c0:=ih (T.kids.getD 0 .nil) (by omega) K Γ t2 (hF.kid (by omega)) (by omega) (by omega)
 have qc0:=Ec _ _ (Nat.le_refl (AD (T.kids.getD 0 .nil))) t2 K Γ
 have c1:=ih (T.kids.getD 1 .nil) (by omega) K Γ t3 (hF.kid (by omega)) (by omega) (by omega)
 have qc1:=Ec _ _ (Nat.le_refl (AD (T.kids.getD 1 .nil))) t3 K Γ
 refine Pure.AB tt [] [4,5] (Tryz.func93) rfl rfl rfl lb fun g=>?_
 generalize hv:appR T K Γ=v
 unfold appR bnd at hv
 generalize ofF (T.kids.getD 0 .nil) K Γ=r0 at *
 generalize ofF (T.kids.getD 1 .nil) K Γ=r1 at *
 obtain⟨f,e0⟩:=r0
 obtain⟨a,e1⟩:=r1
 try dsimp only at c0
 try dsimp only at c1
 try dsimp only at c2
 try dsimp only at c3
 try dsimp only at cf
 try dsimp only at qc0
 try dsimp only at qc1
 try dsimp only at qc2
 try dsimp only at z1
 try dsimp only at hv
 by_cases h0:e0=0
 ·subst h0
  rw[if_pos rfl]at hv
  try dsimp only at hv
  by_cases h1:e1=0
  ·subst h1
   rw[if_pos rfl]at hv
   try dsimp only at hv
   have qf:=qc0 rfl
   have n0:=DQ qf
   have cs:=FV (f.kids.getD 0 .nil) a
   by_cases hk2:f.kind=114
   ·obtain⟨l1,l2,l3⟩:=Ki.H2 n0 qf (.inl hk2)
    cases hb:BQ (f.kids.getD 0 .nil) a with
    | true =>
     rw[hb]at cs hv
     rw[K4 hk2 rfl]at hv
     try dsimp only at hv
     subst hv
     repeat' ((first|refine Ga ?_|refine Gc fun hlen=>?_|refine Ge c0 ?_|refine Ge c1 ?_|refine Gh ((0:Int)≤0∧(0:Int) < (T.kids.length:Int)) ?_|refine Gh ((0:Int)≤1∧(1:Int) < (T.kids.length:Int)) ?_|refine Ge cs ?_|refine Side.mk n0 ?_|refine Split.AE (CB hk2) ?_|refine Gh ((0:Int)≤0∧(0:Int) < (f.kids.length:Int)) ?_|refine Gh ((0:Int)≤1∧(1:Int) < (f.kids.length:Int)) ?_|refine Gd (fun hc=>?_) fun hc=>?_)<;>conv=>whnf)
     exact Gg
    | false =>
     rw[hb]at cs hv
     rw[Ku rfl]at hv
     try dsimp only at hv
     subst hv
     repeat' ((first|refine Ga ?_|refine Gc fun hlen=>?_|refine Ge c0 ?_|refine Ge c1 ?_|refine Gh ((0:Int)≤0∧(0:Int) < (T.kids.length:Int)) ?_|refine Gh ((0:Int)≤1∧(1:Int) < (T.kids.length:Int)) ?_|refine Ge cs ?_|refine Side.mk n0 ?_|refine Split.AE (CB hk2) ?_|refine Gh ((0:Int)≤0∧(0:Int) < (f.kids.length:Int)) ?_|refine Gh ((0:Int)≤1∧(1:Int) < (f.kids.length:Int)) ?_|refine Gd (fun hc=>?_) fun hc=>?_)<;>conv=>whnf)
     exact Gg
   ·rw[Oc hk2]at hv
    try dsimp only at hv
    subst hv
    repeat' ((first|refine Ga ?_|refine Gc fun hlen=>?_|refine Ge c0 ?_|refine Ge c1 ?_|refine Gh ((0:Int)≤0∧(0:Int) < (T.kids.length:Int)) ?_|refine Gh ((0:Int)≤1∧(1:Int) < (T.kids.length:Int)) ?_|refine Side.mk n0 ?_|refine Split.Ag (FA hk2) ?_|refine Gd (fun hc=>?_) fun hc=>?_)<;>conv=>whnf)
    exact Gg
  ·rw[if_neg h1]at hv
   try dsimp only at hv
   subst hv
   repeat' ((first|refine Ga ?_|refine Gc fun hlen=>?_|refine Ge c0 ?_|refine Ge c1 ?_|refine Gh ((0:Int)≤0∧(0:Int) < (T.kids.length:Int)) ?_|refine Gh ((0:Int)≤1∧(1:Int) < (T.kids.length:Int)) ?_|refine Gd (fun hc=>?_) fun hc=>?_)<;>conv=>whnf)
   exact Gg
 ·rw[if_neg h0]at hv
  try dsimp only at hv
  subst hv
  repeat' ((first|refine Ga ?_|refine Gc fun hlen=>?_|refine Ge c0 ?_|refine Ge c1 ?_|refine Gh ((0:Int)≤0∧(0:Int) < (T.kids.length:Int)) ?_|refine Gh ((0:Int)≤1∧(1:Int) < (T.kids.length:Int)) ?_|refine Gd (fun hc=>?_) fun hc=>?_)<;>conv=>whnf)
  exact Gg
theorem Zj (T:Tree)(hT:AF T=true)(hF:Full T)(hk:T.kind=134)(ih:∀U,AD U < AD T→OfP U)(K Γ:List Tree)(hK:K.length+AD T≤1073741824)(hΓ:Γ.length+AD T≤1073741824) :
  Pure P 92 [cxA K Γ,.d (.tree T)] (rA (lamR T K Γ)):=by
 have hTn:=AQ hT
 have hsz:=AI hTn
 obtain⟨t1,t2,t3⟩:=Bs hT (.inl hk)
 have m0:=AA (l:=T.kids) (i:=0) (by omega)
 have s0:=AH m0
 have m1:=AA (l:=T.kids) (i:=1) (by omega)
 have s1:=AH m1
 have c0:=Gk K Γ (T.kids.getD 0 .nil) (by omega)
 refine Pure.AB tt [41] [4,5] (Tryz.func92) rfl rfl rfl lb fun g=>?_
 generalize hv:lamR T K Γ=v
 unfold lamR bnd at hv
 generalize tstR K (T.kids.getD 0 .nil)=r0 at *
 obtain⟨a,e0⟩:=r0
 try dsimp only at c0
 try dsimp only at c1
 try dsimp only at c2
 try dsimp only at c3
 try dsimp only at cf
 try dsimp only at qc0
 try dsimp only at qc1
 try dsimp only at qc2
 try dsimp only at z1
 try dsimp only at hv
 by_cases h0:e0=0
 ·subst h0
  rw[if_pos rfl]at hv
  try dsimp only at hv
  have c1:=OQ K Γ a (by omega)
  have c2:=ih (T.kids.getD 1 .nil) (by omega) K (a::Γ) t3 (hF.kid (by omega)) (by omega) (by rw[List.length_cons];omega)
  generalize ofF (T.kids.getD 1 .nil) K (a::Γ)=r1 at *
  obtain⟨b,e1⟩:=r1
  try dsimp only at c0
  try dsimp only at c1
  try dsimp only at c2
  try dsimp only at c3
  try dsimp only at cf
  try dsimp only at qc0
  try dsimp only at qc1
  try dsimp only at qc2
  try dsimp only at z1
  try dsimp only at hv
  by_cases h1:e1=0
  ·subst h1
   rw[if_pos rfl]at hv
   try dsimp only at hv
   have c3:=Uy 114 [a,b]
   subst hv
   repeat' ((first|refine Ga ?_|refine Gc fun hlen=>?_|refine Ge c0 ?_|refine Ge c1 ?_|refine Ge c2 ?_|refine Ge c3 ?_|refine Gh ((0:Int)≤0∧(0:Int) < (T.kids.length:Int)) ?_|refine Gh ((0:Int)≤1∧(1:Int) < (T.kids.length:Int)) ?_|refine Gd (fun hc=>?_) fun hc=>?_)<;>conv=>whnf)
   exact Gg
  ·rw[if_neg h1]at hv
   try dsimp only at hv
   subst hv
   repeat' ((first|refine Ga ?_|refine Gc fun hlen=>?_|refine Ge c0 ?_|refine Ge c1 ?_|refine Ge c2 ?_|refine Gh ((0:Int)≤0∧(0:Int) < (T.kids.length:Int)) ?_|refine Gh ((0:Int)≤1∧(1:Int) < (T.kids.length:Int)) ?_|refine Gd (fun hc=>?_) fun hc=>?_)<;>conv=>whnf)
   exact Gg
 ·rw[if_neg h0]at hv
  try dsimp only at hv
  subst hv
  repeat' ((first|refine Ga ?_|refine Gc fun hlen=>?_|refine Ge c0 ?_|refine Gh ((0:Int)≤0∧(0:Int) < (T.kids.length:Int)) ?_|refine Gh ((0:Int)≤1∧(1:Int) < (T.kids.length:Int)) ?_|refine Gd (fun hc=>?_) fun hc=>?_)<;>conv=>whnf)
  exact Gg
theorem Xm (T:Tree)(hT:AF T=true)(hF:Full T)(hk:T.kind=138)(ih:∀U,AD U < AD T→OfP U)(K Γ:List Tree)(hK:K.length+AD T≤1073741824)(hΓ:Γ.length+AD T≤1073741824) :
  Pure P 95 [cxA K Γ,.d (.tree T)] (rA (Mu T K Γ)):=by
 have hTn:=AQ hT
 have hsz:=AI hTn
 obtain⟨t1,t2⟩:=GY hT hk
 have m0:=AA (l:=T.kids) (i:=0) (by omega)
 have s0:=AH m0
 have c0:=ih (T.kids.getD 0 .nil) (by omega) K Γ t2 (hF.kid (by omega)) (by omega) (by omega)
 have qc0:=Ec _ _ (Nat.le_refl (AD (T.kids.getD 0 .nil))) t2 K Γ
 refine Pure.AB tt [] [4,5] (Tryz.func95) rfl rfl rfl lb fun g=>?_
 have n0:(ofF (T.kids.getD 0 .nil) K Γ).2=0→(ofF (T.kids.getD 0 .nil) K Γ).1≠.nil:=fun h=>DQ (qc0 h)
 have c1:=JG K Γ (T.kids.getD 0 .nil) 115 _ c0 n0
 have z1:(asR (ofF (T.kids.getD 0 .nil) K Γ) 115).2=0→(asR (ofF (T.kids.getD 0 .nil) K Γ) 115).1.kind=115∧AG (asR (ofF (T.kids.getD 0 .nil) K Γ) 115).1=true:=fun h=>by
  obtain⟨a1,a2,a3⟩:=Iz h
  rw[a3];exact⟨a2,qc0 a1⟩
 generalize hv:Mu T K Γ=v
 unfold Mu bnd at hv
 generalize asR (ofF (T.kids.getD 0 .nil) K Γ) 115=r0 at *
 obtain⟨t,e0⟩:=r0
 try dsimp only at c0
 try dsimp only at c1
 try dsimp only at c2
 try dsimp only at c3
 try dsimp only at cf
 try dsimp only at qc0
 try dsimp only at qc1
 try dsimp only at qc2
 try dsimp only at z1
 try dsimp only at hv
 by_cases h0:e0=0
 ·subst h0
  rw[if_pos rfl]at hv
  try dsimp only at hv
  obtain⟨z2,z3⟩:=z1 rfl
  have nt:=DQ z3
  have c2:=Qa t nt T.name fun x hx=>by have:=Ki.CF (Ki.GV nt z3 z2 x hx);exact⟨this.1,by omega⟩
  cases hp:Af T.name t.kids with
  | none =>
   rw[hp]at c2 hv
   subst hv
   repeat' ((first|refine Ga ?_|refine Gc fun hlen=>?_|refine Ge c1 ?_|refine Ge c2 ?_|refine Gh ((0:Int)≤0∧(0:Int) < (T.kids.length:Int)) ?_|refine Gh ((0:Int)≤1∧(1:Int) < (T.kids.length:Int)) ?_|refine Gd (fun hc=>?_) fun hc=>?_)<;>conv=>whnf)
   exact Gg
  | some p =>
   rw[hp]at c2 hv
   subst hv
   repeat' ((first|refine Ga ?_|refine Gc fun hlen=>?_|refine Ge c1 ?_|refine Ge c2 ?_|refine Gh ((0:Int)≤0∧(0:Int) < (T.kids.length:Int)) ?_|refine Gh ((0:Int)≤1∧(1:Int) < (T.kids.length:Int)) ?_|refine Gd (fun hc=>?_) fun hc=>?_)<;>conv=>whnf)
   exact Gg
 ·rw[if_neg h0]at hv
  try dsimp only at hv
  subst hv
  repeat' ((first|refine Ga ?_|refine Gc fun hlen=>?_|refine Ge c1 ?_|refine Gh ((0:Int)≤0∧(0:Int) < (T.kids.length:Int)) ?_|refine Gh ((0:Int)≤1∧(1:Int) < (T.kids.length:Int)) ?_|refine Gd (fun hc=>?_) fun hc=>?_)<;>conv=>whnf)
  exact Gg
theorem YM (T:Tree)(hT:AF T=true)(hF:Full T)(hk:T.kind=140)(ih:∀U,AD U < AD T→OfP U)(K Γ:List Tree)(hK:K.length+AD T≤1073741824)(hΓ:Γ.length+AD T≤1073741824) :
  Pure P 96 [cxA K Γ,.d (.tree T)] (rA (My T K Γ)):=by
 have hTn:=AQ hT
 have hsz:=AI hTn
 obtain⟨t1,t2,t3⟩:=Da hT hk
 have m0:=AA (l:=T.kids) (i:=0) (by omega)
 have s0:=AH m0
 have m1:=AA (l:=T.kids) (i:=1) (by omega)
 have s1:=AH m1
 have c0:=ih (T.kids.getD 0 .nil) (by omega) K Γ t2 (hF.kid (by omega)) (by omega) (by omega)
 have qc0:=Ec _ _ (Nat.le_refl (AD (T.kids.getD 0 .nil))) t2 K Γ
 have c1:=Ki.Nz K (T.kids.getD 1 .nil) (by omega)
 refine Pure.AB tt [] [4,5] (Tryz.func96) rfl rfl rfl lb fun g=>?_
 generalize hv:My T K Γ=v
 unfold My bnd at hv
 generalize ofF (T.kids.getD 0 .nil) K Γ=r0 at *
 generalize Ki.CQ K (T.kids.getD 1 .nil)=r1 at *
 obtain⟨f,e0⟩:=r0
 obtain⟨a,e1⟩:=r1
 try dsimp only at c0
 try dsimp only at c1
 try dsimp only at c2
 try dsimp only at c3
 try dsimp only at cf
 try dsimp only at qc0
 try dsimp only at qc1
 try dsimp only at qc2
 try dsimp only at z1
 try dsimp only at hv
 by_cases h0:e0=0
 ·subst h0
  rw[if_pos rfl]at hv
  try dsimp only at hv
  by_cases h1:e1=0
  ·subst h1
   rw[if_pos rfl]at hv
   try dsimp only at hv
   have qf:=qc0 rfl
   have n0:=DQ qf
   have cs:=FV (f.kids.getD 0 .nil) a
   by_cases hk2:f.kind=117
   ·obtain⟨l1,l2,l3⟩:=Ki.E4 n0 qf (.inl hk2)
    have cf:=H7 (f.kids.getD 1 .nil) (T.kids.getD 1 .nil)
    cases hb:BQ (f.kids.getD 0 .nil) a with
    | true =>
     rw[hb]at cs hv
     rw[K4 hk2 rfl]at hv
     try dsimp only at hv
     subst hv
     repeat' ((first|refine Ga ?_|refine Gc fun hlen=>?_|refine Ge c0 ?_|refine Ge c1 ?_|refine Gh ((0:Int)≤0∧(0:Int) < (T.kids.length:Int)) ?_|refine Gh ((0:Int)≤1∧(1:Int) < (T.kids.length:Int)) ?_|refine Ge cs ?_|refine Ge cf ?_|refine Side.mk n0 ?_|refine Split.AE (CB hk2) ?_|refine Gh ((0:Int)≤0∧(0:Int) < (f.kids.length:Int)) ?_|refine Gh ((0:Int)≤1∧(1:Int) < (f.kids.length:Int)) ?_|refine Gd (fun hc=>?_) fun hc=>?_)<;>conv=>whnf)
     exact Gg
    | false =>
     rw[hb]at cs hv
     rw[Ku rfl]at hv
     try dsimp only at hv
     subst hv
     repeat' ((first|refine Ga ?_|refine Gc fun hlen=>?_|refine Ge c0 ?_|refine Ge c1 ?_|refine Gh ((0:Int)≤0∧(0:Int) < (T.kids.length:Int)) ?_|refine Gh ((0:Int)≤1∧(1:Int) < (T.kids.length:Int)) ?_|refine Ge cs ?_|refine Side.mk n0 ?_|refine Split.AE (CB hk2) ?_|refine Gh ((0:Int)≤0∧(0:Int) < (f.kids.length:Int)) ?_|refine Gh ((0:Int)≤1∧(1:Int) < (f.kids.length:Int)) ?_|refine Gd (fun hc=>?_) fun hc=>?_)<;>conv=>whnf)
     exact Gg
   ·rw[Oc hk2]at hv
    try dsimp only at hv
    subst hv
    repeat' ((first|refine Ga ?_|refine Gc fun hlen=>?_|refine Ge c0 ?_|refine Ge c1 ?_|refine Gh ((0:Int)≤0∧(0:Int) < (T.kids.length:Int)) ?_|refine Gh ((0:Int)≤1∧(1:Int) < (T.kids.length:Int)) ?_|refine Side.mk n0 ?_|refine Split.Ag (FA hk2) ?_|refine Gd (fun hc=>?_) fun hc=>?_)<;>conv=>whnf)
    exact Gg
  ·rw[if_neg h1]at hv
   try dsimp only at hv
   subst hv
   repeat' ((first|refine Ga ?_|refine Gc fun hlen=>?_|refine Ge c0 ?_|refine Ge c1 ?_|refine Gh ((0:Int)≤0∧(0:Int) < (T.kids.length:Int)) ?_|refine Gh ((0:Int)≤1∧(1:Int) < (T.kids.length:Int)) ?_|refine Gd (fun hc=>?_) fun hc=>?_)<;>conv=>whnf)
   exact Gg
 ·rw[if_neg h0]at hv
  try dsimp only at hv
  subst hv
  repeat' ((first|refine Ga ?_|refine Gc fun hlen=>?_|refine Ge c0 ?_|refine Ge c1 ?_|refine Gh ((0:Int)≤0∧(0:Int) < (T.kids.length:Int)) ?_|refine Gh ((0:Int)≤1∧(1:Int) < (T.kids.length:Int)) ?_|refine Gd (fun hc=>?_) fun hc=>?_)<;>conv=>whnf)
  exact Gg
theorem Xn (T:Tree)(hT:AF T=true)(hF:Full T)(hk:T.kind=141)(ih:∀U,AD U < AD T→OfP U)(K Γ:List Tree)(hK:K.length+AD T≤1073741824)(hΓ:Γ.length+AD T≤1073741824) :
  Pure P 97 [cxA K Γ,.d (.tree T)] (rA (Nh T K Γ)):=by
 have hTn:=AQ hT
 have hsz:=AI hTn
 obtain⟨t1,t2,t3,t4⟩:=DW hT hk
 have m0:=AA (l:=T.kids) (i:=0) (by omega)
 have s0:=AH m0
 have m1:=AA (l:=T.kids) (i:=1) (by omega)
 have s1:=AH m1
 have m2:=AA (l:=T.kids) (i:=2) (by omega)
 have s2:=AH m2
 have c0:=Gk K Γ (T.kids.getD 2 .nil) (by omega)
 have qc0:=SU (K:=K) (n:=T.kids.getD 2 .nil)
 have c1:=Ki.Nz K (T.kids.getD 0 .nil) (by omega)
 have c2:=ih (T.kids.getD 1 .nil) (by omega) K Γ t3 (hF.kid (by omega)) (by omega) (by omega)
 have qc2:=Ec _ _ (Nat.le_refl (AD (T.kids.getD 1 .nil))) t3 K Γ
 refine Pure.AB tt [] [4,5] (Tryz.func97) rfl rfl rfl lb fun g=>?_
 generalize hv:Nh T K Γ=v
 unfold Nh bnd at hv
 generalize tstR K (T.kids.getD 2 .nil)=r0 at *
 generalize Ki.CQ K (T.kids.getD 0 .nil)=r1 at *
 generalize ofF (T.kids.getD 1 .nil) K Γ=r2 at *
 obtain⟨f,e0⟩:=r0
 obtain⟨q,e1⟩:=r1
 obtain⟨a,e2⟩:=r2
 try dsimp only at c0
 try dsimp only at c1
 try dsimp only at c2
 try dsimp only at c3
 try dsimp only at cf
 try dsimp only at qc0
 try dsimp only at qc1
 try dsimp only at qc2
 try dsimp only at z1
 try dsimp only at hv
 by_cases h0:e0=0
 ·subst h0
  rw[if_pos rfl]at hv
  try dsimp only at hv
  by_cases h1:e1=0
  ·subst h1
   rw[if_pos rfl]at hv
   try dsimp only at hv
   by_cases h2:e2=0
   ·subst h2
    rw[if_pos rfl]at hv
    try dsimp only at hv
    have qf:=qc0 rfl
    have n0:=DQ qf
    have cs:=FV (f.kids.getD 0 .nil) q
    by_cases hk2:f.kind=118
    ·obtain⟨l1,l2,l3⟩:=Ki.E4 n0 qf (.inr (.inl hk2))
     have cf:=H7 (f.kids.getD 1 .nil) (T.kids.getD 0 .nil)
     cases hb:BQ (f.kids.getD 0 .nil) q with
     | true =>
      rw[hb]at cs hv
      rw[K4 hk2 rfl]at hv
      try dsimp only at hv
      generalize B5 (f.kids.getD 1 .nil) (T.kids.getD 0 .nil)=r3 at *
      obtain⟨b,e3⟩:=r3
      try dsimp only at c0
      try dsimp only at c1
      try dsimp only at c2
      try dsimp only at c3
      try dsimp only at cf
      try dsimp only at qc0
      try dsimp only at qc1
      try dsimp only at qc2
      try dsimp only at z1
      try dsimp only at hv
      by_cases h3:e3=0
      ·subst h3
       rw[if_pos rfl]at hv
       try dsimp only at hv
       have cs2:=FV a b
       cases hb2:BQ a b with
       | true =>
        rw[hb2]at cs2 hv
        rw[if_pos rfl]at hv
        try dsimp only at hv
        subst hv
        repeat' ((first|refine Ga ?_|refine Gc fun hlen=>?_|refine Ge c0 ?_|refine Ge c1 ?_|refine Ge c2 ?_|refine Gh ((0:Int)≤0∧(0:Int) < (T.kids.length:Int)) ?_|refine Gh ((0:Int)≤1∧(1:Int) < (T.kids.length:Int)) ?_|refine Gh ((0:Int)≤2∧(2:Int) < (T.kids.length:Int)) ?_|refine Ge cs ?_|refine Ge cf ?_|refine Ge cs2 ?_|refine Side.mk n0 ?_|refine Split.AE (CB hk2) ?_|refine Gh ((0:Int)≤0∧(0:Int) < (f.kids.length:Int)) ?_|refine Gh ((0:Int)≤1∧(1:Int) < (f.kids.length:Int)) ?_|refine Gd (fun hc=>?_) fun hc=>?_)<;>conv=>whnf)
        exact Gg
       | false =>
        rw[hb2]at cs2 hv
        rw[if_neg (by decide)]at hv
        try dsimp only at hv
        subst hv
        repeat' ((first|refine Ga ?_|refine Gc fun hlen=>?_|refine Ge c0 ?_|refine Ge c1 ?_|refine Ge c2 ?_|refine Gh ((0:Int)≤0∧(0:Int) < (T.kids.length:Int)) ?_|refine Gh ((0:Int)≤1∧(1:Int) < (T.kids.length:Int)) ?_|refine Gh ((0:Int)≤2∧(2:Int) < (T.kids.length:Int)) ?_|refine Ge cs ?_|refine Ge cf ?_|refine Ge cs2 ?_|refine Side.mk n0 ?_|refine Split.AE (CB hk2) ?_|refine Gh ((0:Int)≤0∧(0:Int) < (f.kids.length:Int)) ?_|refine Gh ((0:Int)≤1∧(1:Int) < (f.kids.length:Int)) ?_|refine Gd (fun hc=>?_) fun hc=>?_)<;>conv=>whnf)
        exact Gg
      ·rw[if_neg h3]at hv
       try dsimp only at hv
       subst hv
       repeat' ((first|refine Ga ?_|refine Gc fun hlen=>?_|refine Ge c0 ?_|refine Ge c1 ?_|refine Ge c2 ?_|refine Gh ((0:Int)≤0∧(0:Int) < (T.kids.length:Int)) ?_|refine Gh ((0:Int)≤1∧(1:Int) < (T.kids.length:Int)) ?_|refine Gh ((0:Int)≤2∧(2:Int) < (T.kids.length:Int)) ?_|refine Ge cs ?_|refine Ge cf ?_|refine Side.mk n0 ?_|refine Split.AE (CB hk2) ?_|refine Gh ((0:Int)≤0∧(0:Int) < (f.kids.length:Int)) ?_|refine Gh ((0:Int)≤1∧(1:Int) < (f.kids.length:Int)) ?_|refine Gd (fun hc=>?_) fun hc=>?_)<;>conv=>whnf)
       exact Gg
     | false =>
      rw[hb]at cs hv
      rw[Ku rfl]at hv
      try dsimp only at hv
      subst hv
      repeat' ((first|refine Ga ?_|refine Gc fun hlen=>?_|refine Ge c0 ?_|refine Ge c1 ?_|refine Ge c2 ?_|refine Gh ((0:Int)≤0∧(0:Int) < (T.kids.length:Int)) ?_|refine Gh ((0:Int)≤1∧(1:Int) < (T.kids.length:Int)) ?_|refine Gh ((0:Int)≤2∧(2:Int) < (T.kids.length:Int)) ?_|refine Ge cs ?_|refine Side.mk n0 ?_|refine Split.AE (CB hk2) ?_|refine Gh ((0:Int)≤0∧(0:Int) < (f.kids.length:Int)) ?_|refine Gh ((0:Int)≤1∧(1:Int) < (f.kids.length:Int)) ?_|refine Gd (fun hc=>?_) fun hc=>?_)<;>conv=>whnf)
      exact Gg
    ·rw[Oc hk2]at hv
     try dsimp only at hv
     subst hv
     repeat' ((first|refine Ga ?_|refine Gc fun hlen=>?_|refine Ge c0 ?_|refine Ge c1 ?_|refine Ge c2 ?_|refine Gh ((0:Int)≤0∧(0:Int) < (T.kids.length:Int)) ?_|refine Gh ((0:Int)≤1∧(1:Int) < (T.kids.length:Int)) ?_|refine Gh ((0:Int)≤2∧(2:Int) < (T.kids.length:Int)) ?_|refine Side.mk n0 ?_|refine Split.Ag (FA hk2) ?_|refine Gd (fun hc=>?_) fun hc=>?_)<;>conv=>whnf)
     exact Gg
   ·rw[if_neg h2]at hv
    try dsimp only at hv
    subst hv
    repeat' ((first|refine Ga ?_|refine Gc fun hlen=>?_|refine Ge c0 ?_|refine Ge c1 ?_|refine Ge c2 ?_|refine Gh ((0:Int)≤0∧(0:Int) < (T.kids.length:Int)) ?_|refine Gh ((0:Int)≤1∧(1:Int) < (T.kids.length:Int)) ?_|refine Gh ((0:Int)≤2∧(2:Int) < (T.kids.length:Int)) ?_|refine Gd (fun hc=>?_) fun hc=>?_)<;>conv=>whnf)
    exact Gg
  ·rw[if_neg h1]at hv
   try dsimp only at hv
   subst hv
   repeat' ((first|refine Ga ?_|refine Gc fun hlen=>?_|refine Ge c0 ?_|refine Ge c1 ?_|refine Ge c2 ?_|refine Gh ((0:Int)≤0∧(0:Int) < (T.kids.length:Int)) ?_|refine Gh ((0:Int)≤1∧(1:Int) < (T.kids.length:Int)) ?_|refine Gh ((0:Int)≤2∧(2:Int) < (T.kids.length:Int)) ?_|refine Gd (fun hc=>?_) fun hc=>?_)<;>conv=>whnf)
   exact Gg
 ·rw[if_neg h0]at hv
  try dsimp only at hv
  subst hv
  repeat' ((first|refine Ga ?_|refine Gc fun hlen=>?_|refine Ge c0 ?_|refine Ge c1 ?_|refine Ge c2 ?_|refine Gh ((0:Int)≤0∧(0:Int) < (T.kids.length:Int)) ?_|refine Gh ((0:Int)≤1∧(1:Int) < (T.kids.length:Int)) ?_|refine Gh ((0:Int)≤2∧(2:Int) < (T.kids.length:Int)) ?_|refine Gd (fun hc=>?_) fun hc=>?_)<;>conv=>whnf)
  exact Gg
theorem Vp (T:Tree)(hT:AF T=true)(hF:Full T)(hk:T.kind=145)(ih:∀U,AD U < AD T→OfP U)(K Γ:List Tree)(hK:K.length+AD T≤1073741824)(hΓ:Γ.length+AD T≤1073741824) :
  Pure P 100 [cxA K Γ,.d (.tree T)] (rA (opR T K Γ)):=by
 have hTn:=AQ hT
 have hsz:=AI hTn
 obtain⟨t1,t2,t3⟩:=A8 hT (.inr (.inr (.inr hk)))
 have m0:=AA (l:=T.kids) (i:=0) (by omega)
 have s0:=AH m0
 have m1:=AA (l:=T.kids) (i:=1) (by omega)
 have s1:=AH m1
 have c0:=ih (T.kids.getD 0 .nil) (by omega) K Γ t2 (hF.kid (by omega)) (by omega) (by omega)
 have qc0:=Ec _ _ (Nat.le_refl (AD (T.kids.getD 0 .nil))) t2 K Γ
 have c1:=ih (T.kids.getD 1 .nil) (by omega) K Γ t3 (hF.kid (by omega)) (by omega) (by omega)
 have qc1:=Ec _ _ (Nat.le_refl (AD (T.kids.getD 1 .nil))) t3 K Γ
 have ci:=JI 111
 have cb:=JI 112
 refine Pure.AB tt [] [4,5] (Tryz.func100) rfl rfl rfl lb fun g=>?_
 generalize hv:opR T K Γ=v
 unfold opR bnd at hv
 generalize ofF (T.kids.getD 0 .nil) K Γ=r0 at *
 generalize ofF (T.kids.getD 1 .nil) K Γ=r1 at *
 obtain⟨f,e0⟩:=r0
 obtain⟨a,e1⟩:=r1
 try dsimp only at c0
 try dsimp only at c1
 try dsimp only at c2
 try dsimp only at c3
 try dsimp only at cf
 try dsimp only at qc0
 try dsimp only at qc1
 try dsimp only at qc2
 try dsimp only at z1
 try dsimp only at hv
 by_cases h0:e0=0
 ·subst h0
  rw[if_pos rfl]at hv
  try dsimp only at hv
  by_cases h1:e1=0
  ·subst h1
   rw[if_pos rfl]at hv
   try dsimp only at hv
   have n0:=DQ (qc0 rfl)
   have n1:=DQ (qc1 rfl)
   by_cases hk2:f.kind=111
   ·by_cases hk3:a.kind=111
    ·rw[if_pos ⟨hk2,hk3⟩]at hv
     try dsimp only at hv
     by_cases hn:T.n≤3
     ·rw[if_pos hn]at hv
      try dsimp only at hv
      subst hv
      repeat' ((first|refine Ga ?_|refine Gc fun hlen=>?_|refine Ge c0 ?_|refine Ge c1 ?_|refine Gh ((0:Int)≤0∧(0:Int) < (T.kids.length:Int)) ?_|refine Gh ((0:Int)≤1∧(1:Int) < (T.kids.length:Int)) ?_|refine Ge ci ?_|refine Side.mk n0 ?_|refine Side.mk n1 ?_|refine Split.AE (CB hk2) ?_|refine Split.AE (CB hk3) ?_|refine Split.Ag (decide_eq_true hn) ?_|refine Gd (fun hc=>?_) fun hc=>?_)<;>conv=>whnf)
      exact Gg
     ·rw[if_neg hn]at hv
      try dsimp only at hv
      subst hv
      repeat' ((first|refine Ga ?_|refine Gc fun hlen=>?_|refine Ge c0 ?_|refine Ge c1 ?_|refine Gh ((0:Int)≤0∧(0:Int) < (T.kids.length:Int)) ?_|refine Gh ((0:Int)≤1∧(1:Int) < (T.kids.length:Int)) ?_|refine Ge cb ?_|refine Side.mk n0 ?_|refine Side.mk n1 ?_|refine Split.AE (CB hk2) ?_|refine Split.AE (CB hk3) ?_|refine Split.AE (decide_eq_false hn) ?_|refine Gd (fun hc=>?_) fun hc=>?_)<;>conv=>whnf)
      exact Gg
    ·rw[if_neg fun h=>hk3 h.2]at hv
     try dsimp only at hv
     subst hv
     repeat' ((first|refine Ga ?_|refine Gc fun hlen=>?_|refine Ge c0 ?_|refine Ge c1 ?_|refine Gh ((0:Int)≤0∧(0:Int) < (T.kids.length:Int)) ?_|refine Gh ((0:Int)≤1∧(1:Int) < (T.kids.length:Int)) ?_|refine Side.mk n0 ?_|refine Side.mk n1 ?_|refine Split.AE (CB hk2) ?_|refine Split.Ag (FA hk3) ?_|refine Gd (fun hc=>?_) fun hc=>?_)<;>conv=>whnf)
     exact Gg
   ·rw[if_neg fun h=>hk2 h.1]at hv
    try dsimp only at hv
    subst hv
    repeat' ((first|refine Ga ?_|refine Gc fun hlen=>?_|refine Ge c0 ?_|refine Ge c1 ?_|refine Gh ((0:Int)≤0∧(0:Int) < (T.kids.length:Int)) ?_|refine Gh ((0:Int)≤1∧(1:Int) < (T.kids.length:Int)) ?_|refine Side.mk n0 ?_|refine Side.mk n1 ?_|refine Split.Ag (FA hk2) ?_|refine Gd (fun hc=>?_) fun hc=>?_)<;>conv=>whnf)
    exact Gg
  ·rw[if_neg h1]at hv
   try dsimp only at hv
   subst hv
   repeat' ((first|refine Ga ?_|refine Gc fun hlen=>?_|refine Ge c0 ?_|refine Ge c1 ?_|refine Gh ((0:Int)≤0∧(0:Int) < (T.kids.length:Int)) ?_|refine Gh ((0:Int)≤1∧(1:Int) < (T.kids.length:Int)) ?_|refine Gd (fun hc=>?_) fun hc=>?_)<;>conv=>whnf)
   exact Gg
 ·rw[if_neg h0]at hv
  try dsimp only at hv
  subst hv
  repeat' ((first|refine Ga ?_|refine Gc fun hlen=>?_|refine Ge c0 ?_|refine Ge c1 ?_|refine Gh ((0:Int)≤0∧(0:Int) < (T.kids.length:Int)) ?_|refine Gh ((0:Int)≤1∧(1:Int) < (T.kids.length:Int)) ?_|refine Gd (fun hc=>?_) fun hc=>?_)<;>conv=>whnf)
  exact Gg
theorem ax (T:Tree)(hT:AF T=true)(hF:Full T)(hk:T.kind=146)(ih:∀U,AD U < AD T→OfP U)(K Γ:List Tree)(hK:K.length+AD T≤1073741824)(hΓ:Γ.length+AD T≤1073741824) :
  Pure P 101 [cxA K Γ,.d (.tree T)] (rA (inR T K Γ)):=by
 have hTn:=AQ hT
 have hsz:=AI hTn
 obtain⟨t1,t2,t3⟩:=Bs hT (.inr hk)
 have m0:=AA (l:=T.kids) (i:=0) (by omega)
 have s0:=AH m0
 have m1:=AA (l:=T.kids) (i:=1) (by omega)
 have s1:=AH m1
 have c0:=Gk K Γ (T.kids.getD 0 .nil) (by omega)
 have qc0:=SU (K:=K) (n:=T.kids.getD 0 .nil)
 have c1:=ih (T.kids.getD 1 .nil) (by omega) K Γ t3 (hF.kid (by omega)) (by omega) (by omega)
 have qc1:=Ec _ _ (Nat.le_refl (AD (T.kids.getD 1 .nil))) t3 K Γ
 refine Pure.AB tt [] [4,5] (Tryz.func101) rfl rfl rfl lb fun g=>?_
 generalize hv:inR T K Γ=v
 unfold inR bnd at hv
 generalize tstR K (T.kids.getD 0 .nil)=r0 at *
 generalize ofF (T.kids.getD 1 .nil) K Γ=r1 at *
 obtain⟨f,e0⟩:=r0
 obtain⟨a,e1⟩:=r1
 try dsimp only at c0
 try dsimp only at c1
 try dsimp only at c2
 try dsimp only at c3
 try dsimp only at cf
 try dsimp only at qc0
 try dsimp only at qc1
 try dsimp only at qc2
 try dsimp only at z1
 try dsimp only at hv
 by_cases h0:e0=0
 ·subst h0
  rw[if_pos rfl]at hv
  try dsimp only at hv
  by_cases h1:e1=0
  ·subst h1
   rw[if_pos rfl]at hv
   try dsimp only at hv
   have qf:=qc0 rfl
   have n0:=DQ qf
   by_cases hk2:f.kind=121
   ·rw[if_pos hk2]at hv
    try dsimp only at hv
    have c2:=Qa f n0 T.name fun x hx=>by have:=Ki.CF (Ki.EM n0 qf hk2 x hx);exact⟨this.1,by omega⟩
    cases hp:Af T.name f.kids with
    | none =>
     rw[hp]at c2 hv
     subst hv
     repeat' ((first|refine Ga ?_|refine Gc fun hlen=>?_|refine Ge c0 ?_|refine Ge c1 ?_|refine Gh ((0:Int)≤0∧(0:Int) < (T.kids.length:Int)) ?_|refine Gh ((0:Int)≤1∧(1:Int) < (T.kids.length:Int)) ?_|refine Ge c2 ?_|refine Side.mk n0 ?_|refine Split.AE (CB hk2) ?_|refine Gd (fun hc=>?_) fun hc=>?_)<;>conv=>whnf)
     exact Gg
    | some p =>
     rw[hp]at c2 hv
     have cf:=H7 p f
     try dsimp only at hv
     generalize B5 p f=r3 at *
     obtain⟨b,e3⟩:=r3
     try dsimp only at c0
     try dsimp only at c1
     try dsimp only at c2
     try dsimp only at c3
     try dsimp only at cf
     try dsimp only at qc0
     try dsimp only at qc1
     try dsimp only at qc2
     try dsimp only at z1
     try dsimp only at hv
     by_cases h3:e3=0
     ·subst h3
      rw[if_pos rfl]at hv
      try dsimp only at hv
      have cs2:=FV a b
      cases hb2:BQ a b with
      | true =>
       rw[hb2]at cs2 hv
       rw[if_pos rfl]at hv
       try dsimp only at hv
       subst hv
       repeat' ((first|refine Ga ?_|refine Gc fun hlen=>?_|refine Ge c0 ?_|refine Ge c1 ?_|refine Gh ((0:Int)≤0∧(0:Int) < (T.kids.length:Int)) ?_|refine Gh ((0:Int)≤1∧(1:Int) < (T.kids.length:Int)) ?_|refine Ge c2 ?_|refine Ge cf ?_|refine Ge cs2 ?_|refine Side.mk n0 ?_|refine Split.AE (CB hk2) ?_|refine Gd (fun hc=>?_) fun hc=>?_)<;>conv=>whnf)
       exact Gg
      | false =>
       rw[hb2]at cs2 hv
       rw[if_neg (by decide)]at hv
       try dsimp only at hv
       subst hv
       repeat' ((first|refine Ga ?_|refine Gc fun hlen=>?_|refine Ge c0 ?_|refine Ge c1 ?_|refine Gh ((0:Int)≤0∧(0:Int) < (T.kids.length:Int)) ?_|refine Gh ((0:Int)≤1∧(1:Int) < (T.kids.length:Int)) ?_|refine Ge c2 ?_|refine Ge cf ?_|refine Ge cs2 ?_|refine Side.mk n0 ?_|refine Split.AE (CB hk2) ?_|refine Gd (fun hc=>?_) fun hc=>?_)<;>conv=>whnf)
       exact Gg
     ·rw[if_neg h3]at hv
      try dsimp only at hv
      subst hv
      repeat' ((first|refine Ga ?_|refine Gc fun hlen=>?_|refine Ge c0 ?_|refine Ge c1 ?_|refine Gh ((0:Int)≤0∧(0:Int) < (T.kids.length:Int)) ?_|refine Gh ((0:Int)≤1∧(1:Int) < (T.kids.length:Int)) ?_|refine Ge c2 ?_|refine Ge cf ?_|refine Side.mk n0 ?_|refine Split.AE (CB hk2) ?_|refine Gd (fun hc=>?_) fun hc=>?_)<;>conv=>whnf)
      exact Gg
   ·rw[if_neg hk2]at hv
    try dsimp only at hv
    subst hv
    repeat' ((first|refine Ga ?_|refine Gc fun hlen=>?_|refine Ge c0 ?_|refine Ge c1 ?_|refine Gh ((0:Int)≤0∧(0:Int) < (T.kids.length:Int)) ?_|refine Gh ((0:Int)≤1∧(1:Int) < (T.kids.length:Int)) ?_|refine Side.mk n0 ?_|refine Split.Ag (FA hk2) ?_|refine Gd (fun hc=>?_) fun hc=>?_)<;>conv=>whnf)
    exact Gg
  ·rw[if_neg h1]at hv
   try dsimp only at hv
   subst hv
   repeat' ((first|refine Ga ?_|refine Gc fun hlen=>?_|refine Ge c0 ?_|refine Ge c1 ?_|refine Gh ((0:Int)≤0∧(0:Int) < (T.kids.length:Int)) ?_|refine Gh ((0:Int)≤1∧(1:Int) < (T.kids.length:Int)) ?_|refine Gd (fun hc=>?_) fun hc=>?_)<;>conv=>whnf)
   exact Gg
 ·rw[if_neg h0]at hv
  try dsimp only at hv
  subst hv
  repeat' ((first|refine Ga ?_|refine Gc fun hlen=>?_|refine Ge c0 ?_|refine Ge c1 ?_|refine Gh ((0:Int)≤0∧(0:Int) < (T.kids.length:Int)) ?_|refine Gh ((0:Int)≤1∧(1:Int) < (T.kids.length:Int)) ?_|refine Gd (fun hc=>?_) fun hc=>?_)<;>conv=>whnf)
  exact Gg
theorem YL (k:Int):Fun P 54 [.d (.int .i64 k),.d .nils] [] 0 (.ref 0 0) [(0,.cells [.d (.int .i64 k),.d (.int .i64 0),.d (.str ByteArray.empty),.d (.str ByteArray.empty),.d .nils])] 1:=by
 refine Fun.AB tt [] [4] Tryz.func54 rfl rfl rfl lb fun g=>?_
 repeat' ((first|refine Ga ?_|refine Gc fun hlen=>?_|refine Gd (fun hc=>?_) fun hc=>?_)<;>conv=>whnf)
 exact AM rfl rfl rfl (by repeat' first|exact trivial|apply And.intro|rfl|(refine int_eq ?_;rw[wrap64]<;>omega)) (Nat.le_succ _)
def run1 (a r:List Tree×Int)(out:List Tree):List Tree×Int:=if r.2=0 then (out++r.1,0) else (a.1,r.2)
theorem Ih (a:List Tree×Int):a=run1 a a []:=by
 unfold run1
 split
 ·rename_i h;exact Prod.ext rfl h
 ·rfl
theorem MZ {a:List Tree×Int}{out:List Tree}(h:a=run1 a ([],0) out):a=(out,0):=by
 rw[h];simp[run1]
theorem Ja {a:List Tree×Int}{out:List Tree}{e:Int}(h:a=run1 a ([],e) out)(he:e≠0):a.2=e:=by
 rw[h];simp[run1,he]
theorem J9 {a r:List Tree×Int}{out:List Tree}{m:Tree}(h:a=run1 a (m::r.1,r.2) out):a=run1 a r (out++[m]):=by
 refine h.trans ?_
 unfold run1
 simp only[List.append_assoc,List.singleton_append]
theorem ZZ (T:Tree)(hT:AF T=true)(hF:Full T)(hk:T.kind=136)(ih:∀U,AD U < AD T→OfP U)(K Γ:List Tree)(hK:K.length+AD T≤1073741824)(hΓ:Γ.length+AD T≤1073741824) :
  Pure P 94 [cxA K Γ,.d (.tree T)] (rA (recR T K Γ)):=by
 have hTn:=AQ hT
 have hsz:=AI hTn
 obtain⟨t1,t2⟩:=Fq hT hk
 have co:=YL 115
 refine Pure.AB tt [45,47,48] [4,5] (Tryz.func94) rfl rfl rfl lb fun g=>?_
 unfold recR
 repeat' ((first|refine Ga ?_|refine Gc fun hlen=>?_|refine AJ.go co [] ?_|refine Gd (fun hc=>?_) fun hc=>?_)<;>conv=>whnf)
 refine AY (α:=Nat×List Tree) (fun p=>⟨[(2,.ref 0 0),(6,.ref 1 0),(15,.d (.trees T.kids)),(16,.d (.int .i64 T.kids.length)),(17,.d (.int .i64 p.1))],54,[(0,.cells [.d (.trees K),.d (.trees Γ)]),(1,.cells [.d (.int .i64 115),.d (.int .i64 0),.d (.str ByteArray.empty),.d (.str ByteArray.empty),.row 2 p.1]),(2,.row 25 (.trees p.2))],3,g⟩)
   (fun p=>p.1≤T.kids.length∧p.2.length=p.1∧Cj T.kids K Γ=run1 (Cj T.kids K Γ) (Cj (T.kids.drop p.1) K Γ) p.2) (fun p=>T.kids.length - p.1) (0,[]) ⟨by simp,rfl,Ih _⟩
   (Ent.nil rfl rfl rfl (by repeat' first|exact trivial|apply And.intro|rfl|(refine int_eq ?_;rw[wrap64]<;>omega)) (by repeat' first|exact trivial|apply And.intro|rfl|(refine int_eq ?_;rw[wrap64]<;>omega))) (fun _=>rfl) fun p hpre=>?_
 obtain⟨i,out⟩:=p
 obtain⟨hp1,hp2,hp3⟩:=hpre
 simp only[]at hp1 hp2 hp3
 by_cases hi:i < T.kids.length
 ·rw[AP hi,HQ]at hp3
  have hx0:=AA (l:=T.kids) hi
  obtain⟨a1,a2,a3,a4,a5⟩:=Dc (t1 _ hx0)
  have s1:=AH hx0
  have s2:=AI a1
  have s3:=AH (AA (l:=(T.kids.getD i .nil).kids) (i:=0) (by omega))
  have c0:=ih ((T.kids.getD i .nil).kids.getD 0 .nil) (by omega) K Γ a5 ((hF.kid hi).kid (by omega)) (by omega) (by omega)
  generalize ofF ((T.kids.getD i .nil).kids.getD 0 .nil) K Γ=r at c0 hp3
  obtain⟨m,e⟩:=r
  try dsimp only at c0
  try dsimp only at hp3
  by_cases he:e=0
  ·subst he
   rw[if_pos rfl]at hp3
   repeat' ((first|refine Ga ?_|refine Gc fun hlen=>?_|refine Ge c0 ?_|refine Side.mk a1 ?_|refine Gh ((0:Int)≤(i:Int)∧(i:Int) < (T.kids.length:Int)) ?_|refine Gh ((0:Int)≤0∧(0:Int) < ((T.kids.getD i .nil).kids.length:Int)) ?_|refine Side.mk (show (i+1≤maxN∧(i+1)*8≤140737488355328) from⟨by unfold maxN;omega,by omega⟩) ?_|refine Gd (fun hc=>?_) fun hc=>?_)<;>conv=>whnf)
   exact⟨(i+1,out++[fldT (T.kids.getD i .nil).name m]),⟨by simp only[];omega,by simp[hp2],J9 hp3⟩,by simp only[];omega,Ent.go [0,1,3]⟩
  ·rw[if_neg he]at hp3
   have e2:=Ja hp3 he
   unfold lbnd
   rw[if_neg (by rw[e2];exact he),e2]
   repeat' ((first|refine Ga ?_|refine Gc fun hlen=>?_|refine Ge c0 ?_|refine Side.mk a1 ?_|refine Gh ((0:Int)≤(i:Int)∧(i:Int) < (T.kids.length:Int)) ?_|refine Gh ((0:Int)≤0∧(0:Int) < ((T.kids.getD i .nil).kids.length:Int)) ?_|refine Gd (fun hc=>?_) fun hc=>?_)<;>conv=>whnf)
   exact Gg
 ·rw[Ab (by omega),Cj]at hp3
  rw[MZ hp3]
  repeat' ((first|refine Ga ?_|refine Gc fun hlen=>?_|refine Gd (fun hc=>?_) fun hc=>?_)<;>conv=>whnf)
  refine RetS.ent (Ent.Cu 2 (l:=out) rfl (by repeat' first|exact trivial|apply And.intro|rfl|exact hp2.symm|exact Nat.zero_lt_one|omega) (by repeat' first|exact trivial|apply And.intro|rfl|exact hp2.symm|exact Nat.zero_lt_one|omega)) ?_
  refine RetS.ent (Ent.Cq 1 rfl rfl (by repeat' first|exact trivial|apply And.intro|rfl|exact hp2.symm|exact Nat.zero_lt_one|omega) (by repeat' first|exact trivial|apply And.intro|rfl|exact hp2.symm|exact Nat.zero_lt_one|omega)) ?_
  exact Gg
theorem UM (T:Tree)(hT:AF T=true)(hF:Full T)(hk:T.kind=144)(ih:∀U,AD U < AD T→OfP U)(K Γ:List Tree)(hK:K.length+AD T≤1073741824)(hΓ:Γ.length+AD T≤1073741824) :
  Pure P 99 [cxA K Γ,.d (.tree T)] (rA (JM T K Γ)):=by
 have hTn:=AQ hT
 have hsz:=AI hTn
 obtain⟨t1,t2,t3,t4⟩:=C0 hT hk
 have tk:∀i,i < T.kids.length→AF (T.kids.getD i .nil)=true:=fun i hi=>by
  match i,hi with
  | 0,_=>exact t2
  | 1,_=>exact t3
  | 2,_=>exact t4
  | n+3,hi=>omega
 refine Pure.AB tt [31] [4,5] (Tryz.func99) rfl rfl rfl lb fun g=>?_
 unfold JM
 repeat' ((first|refine Ga ?_|refine Gc fun hlen=>?_|refine Gd (fun hc=>?_) fun hc=>?_)<;>conv=>whnf)
 refine AY (α:=Nat×List Tree) (fun p=>⟨[(2,.ref 0 0),(6,.row 1 p.1),(14,.d (.trees T.kids)),(15,.d (.int .i64 T.kids.length)),(16,.d (.int .i64 p.1))],54,[(0,.cells [.d (.trees K),.d (.trees Γ)]),(1,.row 25 (.trees p.2))],2,g⟩)
   (fun p=>p.1≤T.kids.length∧p.2.length=p.1∧Dt T.kids K Γ=run1 (Dt T.kids K Γ) (Dt (T.kids.drop p.1) K Γ) p.2) (fun p=>T.kids.length - p.1) (0,[]) ⟨by simp,rfl,Ih _⟩
   (Ent.nil rfl rfl rfl (by repeat' first|exact trivial|apply And.intro|rfl|(refine int_eq ?_;rw[wrap64]<;>omega)) (by repeat' first|exact trivial|apply And.intro|rfl|(refine int_eq ?_;rw[wrap64]<;>omega))) (fun _=>rfl) fun p hpre=>?_
 obtain⟨i,out⟩:=p
 obtain⟨hp1,hp2,hp3⟩:=hpre
 simp only[]at hp1 hp2 hp3
 by_cases hi:i < T.kids.length
 ·rw[AP hi,Dt]at hp3
  have hx0:=AA (l:=T.kids) hi
  have s1:=AH hx0
  have c0:=ih (T.kids.getD i .nil) (by omega) K Γ (tk i hi) (hF.kid hi) (by omega) (by omega)
  generalize ofF (T.kids.getD i .nil) K Γ=r at c0 hp3
  obtain⟨m,e⟩:=r
  try dsimp only at c0
  try dsimp only at hp3
  by_cases he:e=0
  ·subst he
   rw[if_pos rfl]at hp3
   repeat' ((first|refine Ga ?_|refine Gc fun hlen=>?_|refine Ge c0 ?_|refine Gh ((0:Int)≤(i:Int)∧(i:Int) < (T.kids.length:Int)) ?_|refine Side.mk (show (i+1≤maxN∧(i+1)*8≤140737488355328) from⟨by unfold maxN;omega,by omega⟩) ?_|refine Gd (fun hc=>?_) fun hc=>?_)<;>conv=>whnf)
   exact⟨(i+1,out++[m]),⟨by simp only[];omega,by simp[hp2],J9 hp3⟩,by simp only[];omega,Ent.go [0,2]⟩
  ·rw[if_neg he]at hp3
   have e2:=Ja hp3 he
   unfold lbnd
   rw[if_neg (by rw[e2];exact he),e2]
   repeat' ((first|refine Ga ?_|refine Gc fun hlen=>?_|refine Ge c0 ?_|refine Gh ((0:Int)≤(i:Int)∧(i:Int) < (T.kids.length:Int)) ?_|refine Gd (fun hc=>?_) fun hc=>?_)<;>conv=>whnf)
   exact Gg
 ·rw[Ab (by omega),Dt]at hp3
  have hp4:=MZ hp3
  have hz:=all_zero (K:=K) (Γ:=Γ) (l:=T.kids) (by rw[hp4])
  rw[hp4]
  obtain⟨z1,z2⟩:=hz
  rw[hp4]at z2
  have z2:out=T.kids.map fun x=>(ofF x K Γ).1:=z2
  have hn:out.getD 0 .nil≠.nil:=by
   rw[z2,List.getD_eq_getElem?_getD,List.getElem?_map,List.getElem?_eq_getElem (show 0 < T.kids.length by omega)]
   have hx0:=AA (l:=T.kids) (i:=0) (by omega)
   have:=Ec _ _ (Nat.le_refl _) t2 K Γ (z1 _ hx0)
   rw[List.getD_eq_getElem?_getD,List.getElem?_eq_getElem (show 0 < T.kids.length by omega)]at this
   exact DQ this
  clear z2
  have cs:=FV (out.getD 1 .nil) (out.getD 2 .nil)
  have hi3:i=3:=by omega
  subst hi3
  generalize hv:(lbnd (out,0) fun ts=>if (ts.getD 0 .nil).kind=112∧BQ (ts.getD 1 .nil) (ts.getD 2 .nil)=true then (ts.getD 1 .nil,0) else (.nil,11))=v
  unfold lbnd at hv
  rw[if_pos rfl]at hv
  dsimp only at hv
  by_cases hk2:(out.getD 0 .nil).kind=112
  ·cases hb:BQ (out.getD 1 .nil) (out.getD 2 .nil) with
   | true =>
    rw[hb]at cs hv
    rw[K4 hk2 rfl]at hv
    subst hv
    repeat' ((first|refine Ga ?_|refine Gc fun hlen=>?_|refine Ge cs ?_|refine Side.mk hn ?_|refine Split.AE (CB hk2) ?_|refine Side.mk (show Int.toNat 0*1 < out.length from by rw[hp2];decide) ?_|refine Side.mk (show Int.toNat 1*1 < out.length from by rw[hp2];decide) ?_|refine Side.mk (show Int.toNat 2*1 < out.length from by rw[hp2];decide) ?_|refine Gh ((0:Int)≤0∧(0:Int) < ((3:Nat):Int)) ?_|refine Gh ((0:Int)≤1∧(1:Int) < ((3:Nat):Int)) ?_|refine Gh ((0:Int)≤2∧(2:Int) < ((3:Nat):Int)) ?_|refine Gd (fun hc=>?_) fun hc=>?_)<;>conv=>whnf)
    all_goals first|exact Gg|trace_state
   | false =>
    rw[hb]at cs hv
    rw[Ku rfl]at hv
    subst hv
    repeat' ((first|refine Ga ?_|refine Gc fun hlen=>?_|refine Ge cs ?_|refine Side.mk hn ?_|refine Split.AE (CB hk2) ?_|refine Side.mk (show Int.toNat 0*1 < out.length from by rw[hp2];decide) ?_|refine Side.mk (show Int.toNat 1*1 < out.length from by rw[hp2];decide) ?_|refine Side.mk (show Int.toNat 2*1 < out.length from by rw[hp2];decide) ?_|refine Gh ((0:Int)≤0∧(0:Int) < ((3:Nat):Int)) ?_|refine Gh ((0:Int)≤1∧(1:Int) < ((3:Nat):Int)) ?_|refine Gh ((0:Int)≤2∧(2:Int) < ((3:Nat):Int)) ?_|refine Gd (fun hc=>?_) fun hc=>?_)<;>conv=>whnf)
    all_goals first|exact Gg|trace_state
  ·rw[Oc hk2]at hv
   subst hv
   repeat' ((first|refine Ga ?_|refine Gc fun hlen=>?_|refine Side.mk hn ?_|refine Split.Ag (FA hk2) ?_|refine Side.mk (show Int.toNat 0*1 < out.length from by rw[hp2];decide) ?_|refine Side.mk (show Int.toNat 1*1 < out.length from by rw[hp2];decide) ?_|refine Side.mk (show Int.toNat 2*1 < out.length from by rw[hp2];decide) ?_|refine Gh ((0:Int)≤0∧(0:Int) < ((3:Nat):Int)) ?_|refine Gd (fun hc=>?_) fun hc=>?_)<;>conv=>whnf)
   all_goals first|exact Gg|trace_state
def nrmL (r:List Tree×Int):List Tree×Int:=if r.2=0 then r else ([],r.2)
theorem QW (r:List Tree×Int)(f:List Tree→Tree×Int):lbnd r f=lbnd (nrmL r) f:=by
 unfold lbnd nrmL
 by_cases h:r.2=0
 ·rw[if_pos h,if_pos h,if_pos h]
 ·rw[if_neg h,if_neg h,if_neg h]
theorem Ur {r:List Tree×Int}(h:(nrmL r).2=0):r.2=0∧nrmL r=r:=by
 unfold nrmL at *
 by_cases h0:r.2=0
 ·rw[if_pos h0];exact⟨h0,rfl⟩
 ·rw[if_neg h0]at h;exact absurd h h0
theorem JQ (S self:Tree)(l K Γ:List Tree)(hS:S≠.nil)(hs:∀x∈S.kids,x≠.nil∧0 < x.kids.length)(hl:∀x∈l,x≠.nil∧0 < x.kids.length)
  (hΓ:Γ.length≤1073741824) (ho:∀x∈l,∀a,Pure P 32 [cxA K (a::Γ),.d (.tree (x.kids.getD 0 .nil))] (rA (ofF (x.kids.getD 0 .nil) K (a::Γ)))) :
  Pure P 136 [cxA K Γ,.d (.tree S),.d (.tree self),.d (.trees l)] (lA (nrmL (armR K Γ S.kids self l))):=by
 have ce:=QR S.kids l (fun x hx=>(hs x hx).1) (fun x hx=>(hl x hx).1)
 rw[GA]at ce
 refine Pure.AB tt [68] [8,9] (Tryz.func136) rfl rfl rfl lb fun g=>?_
 unfold armR
 by_cases hn:S.kids.map Tree.name=l.map Tree.name
 ·rw[if_pos hn]
  rw[decide_eq_true hn]at ce
  have hln:S.kids.length=l.length:=by have:=congrArg List.length hn;simpa using this
  repeat' ((first|refine Ga ?_|refine Gc fun hlen=>?_|refine Ge ce ?_|refine Gd (fun hc=>?_) fun hc=>?_)<;>conv=>whnf)
  refine AY (α:=Nat×List Tree) (fun p=>⟨[(1,.d (.tree S)),(2,.d (.tree self)),(4,.ref 0 0),(10,.row 1 p.1),(23,.d (.trees l)),(24,.d (.int .i64 l.length)),(25,.d (.int .i64 p.1))],72,[(0,.cells [.d (.trees K),.d (.trees Γ)]),(1,.row 25 (.trees p.2))],2,g⟩)
   (fun p=>p.1≤l.length∧p.2.length=p.1∧Ch l S.kids self K Γ=run1 (Ch l S.kids self K Γ) (Ch (l.drop p.1) (S.kids.drop p.1) self K Γ) p.2) (fun p=>l.length - p.1) (0,[]) ⟨by simp,rfl,Ih _⟩
   (Ent.nil rfl rfl rfl (by repeat' first|exact trivial|apply And.intro|rfl|(refine int_eq ?_;rw[wrap64]<;>omega)) (by repeat' first|exact trivial|apply And.intro|rfl|(refine int_eq ?_;rw[wrap64]<;>omega))) (fun _=>rfl) fun p hpre=>?_
  obtain⟨i,out⟩:=p
  obtain⟨hp1,hp2,hp3⟩:=hpre
  simp only[]at hp1 hp2 hp3
  by_cases hi:i < l.length
  ·have e1:(S.kids.drop i).getD 0 .nil=S.kids.getD i .nil:=by rw[List.getD_eq_getElem?_getD,List.getD_eq_getElem?_getD,List.getElem?_drop,Nat.add_zero]
   have e2:(S.kids.drop i).drop 1=S.kids.drop (i+1):=by rw[List.drop_drop]
   rw[AP hi,Ch,e1,e2]at hp3
   have hx0:=AA (l:=l) hi
   have hx1:=AA (l:=S.kids) (i:=i) (by omega)
   obtain⟨a1,a2⟩:=hl _ hx0
   obtain⟨a3,a4⟩:=hs _ hx1
   have cf:=H7 ((S.kids.getD i .nil).kids.getD 0 .nil) self
   generalize B5 ((S.kids.getD i .nil).kids.getD 0 .nil) self=r0 at cf hp3
   obtain⟨a,e0⟩:=r0
   try dsimp only at cf
   try dsimp only at hp3
   by_cases h0:e0=0
   ·subst h0
    rw[if_pos rfl]at hp3
    have ct:=OQ K Γ a (by omega)
    have c0:=ho _ hx0 a
    generalize ofF ((l.getD i .nil).kids.getD 0 .nil) K (a::Γ)=r1 at c0 hp3
    obtain⟨m,e⟩:=r1
    try dsimp only at c0
    try dsimp only at hp3
    by_cases he:e=0
    ·subst he
     rw[if_pos rfl]at hp3
     repeat' ((first|refine Ga ?_|refine Gc fun hlen=>?_|refine Ge cf ?_|refine Ge ct ?_|refine Ge c0 ?_|refine Side.mk a1 ?_|refine Side.mk a3 ?_|refine Gh ((0:Int)≤(i:Int)∧(i:Int) < (l.length:Int)) ?_|refine Gh ((0:Int)≤(i:Int)∧(i:Int) < (S.kids.length:Int)) ?_|refine Gh ((0:Int)≤0∧(0:Int) < ((l.getD i .nil).kids.length:Int)) ?_|refine Gh ((0:Int)≤0∧(0:Int) < ((S.kids.getD i .nil).kids.length:Int)) ?_|refine Side.mk (show (i+1≤maxN∧(i+1)*8≤140737488355328) from⟨by unfold maxN;omega,by omega⟩) ?_|refine Gd (fun hc=>?_) fun hc=>?_)<;>conv=>whnf)
     exact⟨(i+1,out++[m]),⟨by simp only[];omega,by simp[hp2],J9 hp3⟩,by simp only[];omega,Ent.go [0,2]⟩
    ·rw[if_neg he]at hp3
     have e3:=Ja hp3 he
     have e4:nrmL (Ch l S.kids self K Γ)=([],e):=by unfold nrmL;rw[if_neg (by rw[e3];exact he),e3]
     rw[e4]
     repeat' ((first|refine Ga ?_|refine Gc fun hlen=>?_|refine Ge cf ?_|refine Ge ct ?_|refine Ge c0 ?_|refine Side.mk a1 ?_|refine Side.mk a3 ?_|refine Gh ((0:Int)≤(i:Int)∧(i:Int) < (l.length:Int)) ?_|refine Gh ((0:Int)≤(i:Int)∧(i:Int) < (S.kids.length:Int)) ?_|refine Gh ((0:Int)≤0∧(0:Int) < ((l.getD i .nil).kids.length:Int)) ?_|refine Gh ((0:Int)≤0∧(0:Int) < ((S.kids.getD i .nil).kids.length:Int)) ?_|refine Gd (fun hc=>?_) fun hc=>?_)<;>conv=>whnf)
     refine RetS.ent (σ':=⟨[(8,.row 2 0),(9,.d (.int .i64 e))],72,[(2,.row 25 (.trees []))],3,g⟩) (Ent.nil rfl rfl rfl (by repeat' first|exact trivial|apply And.intro|rfl|(refine int_eq ?_;rw[wrap64]<;>omega)) (by repeat' first|exact trivial|apply And.intro|rfl|(refine int_eq ?_;rw[wrap64]<;>omega))) ?_
     refine RetS.ent (Ent.Cu 2 (l:=[]) rfl (by repeat' first|exact trivial|apply And.intro|rfl|exact hp2.symm|exact Nat.zero_lt_one|omega) (by repeat' first|exact trivial|apply And.intro|rfl|exact hp2.symm|exact Nat.zero_lt_one|omega)) ?_
     exact Gg
   ·rw[if_neg h0]at hp3
    have e3:=Ja hp3 h0
    have e4:nrmL (Ch l S.kids self K Γ)=([],e0):=by unfold nrmL;rw[if_neg (by rw[e3];exact h0),e3]
    rw[e4]
    repeat' ((first|refine Ga ?_|refine Gc fun hlen=>?_|refine Ge cf ?_|refine Side.mk a1 ?_|refine Side.mk a3 ?_|refine Gh ((0:Int)≤(i:Int)∧(i:Int) < (l.length:Int)) ?_|refine Gh ((0:Int)≤(i:Int)∧(i:Int) < (S.kids.length:Int)) ?_|refine Gh ((0:Int)≤0∧(0:Int) < ((l.getD i .nil).kids.length:Int)) ?_|refine Gh ((0:Int)≤0∧(0:Int) < ((S.kids.getD i .nil).kids.length:Int)) ?_|refine Gd (fun hc=>?_) fun hc=>?_)<;>conv=>whnf)
    refine RetS.ent (σ':=⟨[(8,.row 2 0),(9,.d (.int .i64 e0))],72,[(2,.row 25 (.trees []))],3,g⟩) (Ent.nil rfl rfl rfl (by repeat' first|exact trivial|apply And.intro|rfl|(refine int_eq ?_;rw[wrap64]<;>omega)) (by repeat' first|exact trivial|apply And.intro|rfl|(refine int_eq ?_;rw[wrap64]<;>omega))) ?_
    refine RetS.ent (Ent.Cu 2 (l:=[]) rfl (by repeat' first|exact trivial|apply And.intro|rfl|exact hp2.symm|exact Nat.zero_lt_one|omega) (by repeat' first|exact trivial|apply And.intro|rfl|exact hp2.symm|exact Nat.zero_lt_one|omega)) ?_
    exact Gg
  ·rw[Ab (l:=l) (by omega),Ch]at hp3
   have e4:nrmL (Ch l S.kids self K Γ)=(out,0):=by rw[MZ hp3];rfl
   rw[e4]
   repeat' ((first|refine Ga ?_|refine Gc fun hlen=>?_|refine Gd (fun hc=>?_) fun hc=>?_)<;>conv=>whnf)
   refine RetS.ent (Ent.Cu 1 (l:=out) rfl (by repeat' first|exact trivial|apply And.intro|rfl|exact hp2.symm|exact Nat.zero_lt_one|omega) (by repeat' first|exact trivial|apply And.intro|rfl|exact hp2.symm|exact Nat.zero_lt_one|omega)) ?_
   exact Gg
 ·rw[if_neg hn]
  rw[decide_eq_false hn]at ce
  repeat' ((first|refine Ga ?_|refine Gc fun hlen=>?_|refine Ge ce ?_|refine Gd (fun hc=>?_) fun hc=>?_)<;>conv=>whnf)
  refine RetS.ent (σ':=⟨[(8,.row 1 0),(9,.d (.int .i64 14))],72,[(1,.row 25 (.trees []))],2,g⟩) (Ent.nil rfl rfl rfl (by repeat' first|exact trivial|apply And.intro|rfl|(refine int_eq ?_;rw[wrap64]<;>omega)) (by repeat' first|exact trivial|apply And.intro|rfl|(refine int_eq ?_;rw[wrap64]<;>omega))) ?_
  refine RetS.ent (Ent.Cu 1 (l:=[]) rfl (by repeat' first|exact trivial|apply And.intro|rfl|exact hp2.symm|exact Nat.zero_lt_one|omega) (by repeat' first|exact trivial|apply And.intro|rfl|exact hp2.symm|exact Nat.zero_lt_one|omega)) ?_
  exact Gg
theorem S7 (T:Tree)(hT:AF T=true)(hF:Full T)(hk:T.kind=142)(ih:∀U,AD U < AD T→OfP U)(K Γ:List Tree)(hK:K.length+AD T≤1073741824)(hΓ:Γ.length+AD T≤1073741824) :
  Pure P 98 [cxA K Γ,.d (.tree T)] (rA (H4 T K Γ)):=by
 have hTn:=AQ hT
 have hsz:=AI hTn
 obtain⟨t1,t2,t3⟩:=A8 hT (.inr (.inl hk))
 have m0:=AA (l:=T.kids) (i:=0) (by omega)
 have s0:=AH m0
 have m1:=AA (l:=T.kids) (i:=1) (by omega)
 have s1:=AH m1
 have c0:=ih (T.kids.getD 0 .nil) (by omega) K Γ t2 (hF.kid (by omega)) (by omega) (by omega)
 have qc0:=Ec _ _ (Nat.le_refl (AD (T.kids.getD 0 .nil))) t2 K Γ
 have n0:(ofF (T.kids.getD 0 .nil) K Γ).2=0→(ofF (T.kids.getD 0 .nil) K Γ).1≠.nil:=fun h=>DQ (qc0 h)
 have c1:=JG K Γ (T.kids.getD 0 .nil) 118 _ c0 n0
 have z1:(asR (ofF (T.kids.getD 0 .nil) K Γ) 118).2=0→(asR (ofF (T.kids.getD 0 .nil) K Γ) 118).1.kind=118∧AG (asR (ofF (T.kids.getD 0 .nil) K Γ) 118).1=true:=fun h=>by
  obtain⟨a1,a2,a3⟩:=Iz h
  rw[a3];exact⟨a2,qc0 a1⟩
 refine Pure.AB tt [] [4,5] (Tryz.func98) rfl rfl rfl lb fun g=>?_
 generalize hv:H4 T K Γ=v
 unfold H4 bnd lbnd at hv
 generalize asR (ofF (T.kids.getD 0 .nil) K Γ) 118=r0 at *
 obtain⟨f,e0⟩:=r0
 try dsimp only at c0
 try dsimp only at c1
 try dsimp only at c2
 try dsimp only at c3
 try dsimp only at cf
 try dsimp only at qc0
 try dsimp only at qc1
 try dsimp only at qc2
 try dsimp only at z1
 try dsimp only at hv
 by_cases h0:e0=0
 ·subst h0
  rw[if_pos rfl]at hv
  try dsimp only at hv
  obtain⟨z2,z3⟩:=z1 rfl
  have nt:=DQ z3
  obtain⟨l1,l2,l3⟩:=Ki.E4 nt z3 (.inr (.inl z2))
  have ck:=Ug K Γ (f.kids.getD 0 .nil) (by omega) (by omega)
  have hz:=MG (l:=Γ)
  unfold kcx at ck
  generalize shsR Γ=r1 at *
  obtain⟨Δ,e1⟩:=r1
  try dsimp only at c0
  try dsimp only at c1
  try dsimp only at c2
  try dsimp only at c3
  try dsimp only at cf
  try dsimp only at qc0
  try dsimp only at qc1
  try dsimp only at qc2
  try dsimp only at z1
  try dsimp only at hv
  try dsimp only at ck
  try dsimp only at hz
  by_cases h1:e1=0
  ·subst h1
   rw[if_pos rfl]at ck
   rw[if_pos rfl]at hv
   try dsimp only at hv
   have hd:Δ.length=Γ.length:=by rw[(hz rfl).2,List.length_map]
   have ct:=OQ (f.kids.getD 0 .nil::K) Δ (f.kids.getD 1 .nil) (by omega)
   have c2:=ih (T.kids.getD 1 .nil) (by omega) (f.kids.getD 0 .nil::K) (f.kids.getD 1 .nil::Δ) t3 (hF.kid (by omega)) (by rw[List.length_cons];omega) (by rw[List.length_cons];omega)
   generalize ofF (T.kids.getD 1 .nil) (f.kids.getD 0 .nil::K) (f.kids.getD 1 .nil::Δ)=r2 at *
   obtain⟨b,e2⟩:=r2
   try dsimp only at c0
   try dsimp only at c1
   try dsimp only at c2
   try dsimp only at c3
   try dsimp only at cf
   try dsimp only at qc0
   try dsimp only at qc1
   try dsimp only at qc2
   try dsimp only at z1
   try dsimp only at hv
   by_cases h2:e2=0
   ·subst h2
    rw[if_pos rfl]at hv
    try dsimp only at hv
    have cq:=NV b 0
    have csh:=LH b (-1) 0
    cases hb:Dy b 0 with
    | true =>
     rw[hb]at cq hv
     rw[if_pos rfl]at hv
     try dsimp only at hv
     subst hv
     repeat' ((first|refine Ga ?_|refine Gc fun hlen=>?_|refine Ge c1 ?_|refine Gh ((0:Int)≤0∧(0:Int) < (T.kids.length:Int)) ?_|refine Gh ((0:Int)≤1∧(1:Int) < (T.kids.length:Int)) ?_|refine Ge ck ?_|refine Ge ct ?_|refine Ge c2 ?_|refine Ge cq ?_|refine Side.mk nt ?_|refine Gh ((0:Int)≤0∧(0:Int) < (f.kids.length:Int)) ?_|refine Gh ((0:Int)≤1∧(1:Int) < (f.kids.length:Int)) ?_|refine Gd (fun hc=>?_) fun hc=>?_)<;>conv=>whnf)
     exact Gg
    | false =>
     rw[hb]at cq hv
     rw[if_neg (by decide)]at hv
     try dsimp only at hv
     subst hv
     repeat' ((first|refine Ga ?_|refine Gc fun hlen=>?_|refine Ge c1 ?_|refine Gh ((0:Int)≤0∧(0:Int) < (T.kids.length:Int)) ?_|refine Gh ((0:Int)≤1∧(1:Int) < (T.kids.length:Int)) ?_|refine Ge ck ?_|refine Ge ct ?_|refine Ge c2 ?_|refine Ge cq ?_|refine Ge csh ?_|refine Side.mk nt ?_|refine Gh ((0:Int)≤0∧(0:Int) < (f.kids.length:Int)) ?_|refine Gh ((0:Int)≤1∧(1:Int) < (f.kids.length:Int)) ?_|refine Gd (fun hc=>?_) fun hc=>?_)<;>conv=>whnf)
     exact Gg
   ·rw[if_neg h2]at hv
    try dsimp only at hv
    subst hv
    repeat' ((first|refine Ga ?_|refine Gc fun hlen=>?_|refine Ge c1 ?_|refine Gh ((0:Int)≤0∧(0:Int) < (T.kids.length:Int)) ?_|refine Gh ((0:Int)≤1∧(1:Int) < (T.kids.length:Int)) ?_|refine Ge ck ?_|refine Ge ct ?_|refine Ge c2 ?_|refine Side.mk nt ?_|refine Gh ((0:Int)≤0∧(0:Int) < (f.kids.length:Int)) ?_|refine Gh ((0:Int)≤1∧(1:Int) < (f.kids.length:Int)) ?_|refine Gd (fun hc=>?_) fun hc=>?_)<;>conv=>whnf)
    exact Gg
  ·rw[if_neg h1]at ck
   rw[if_neg h1]at hv
   try dsimp only at hv
   subst hv
   repeat' ((first|refine Ga ?_|refine Gc fun hlen=>?_|refine Ge c1 ?_|refine Gh ((0:Int)≤0∧(0:Int) < (T.kids.length:Int)) ?_|refine Gh ((0:Int)≤1∧(1:Int) < (T.kids.length:Int)) ?_|refine Ge ck ?_|refine Side.mk nt ?_|refine Gh ((0:Int)≤0∧(0:Int) < (f.kids.length:Int)) ?_|refine Gh ((0:Int)≤1∧(1:Int) < (f.kids.length:Int)) ?_|refine Gd (fun hc=>?_) fun hc=>?_)<;>conv=>whnf)
   exact Gg
 ·rw[if_neg h0]at hv
  try dsimp only at hv
  subst hv
  repeat' ((first|refine Ga ?_|refine Gc fun hlen=>?_|refine Ge c1 ?_|refine Gh ((0:Int)≤0∧(0:Int) < (T.kids.length:Int)) ?_|refine Gh ((0:Int)≤1∧(1:Int) < (T.kids.length:Int)) ?_|refine Gd (fun hc=>?_) fun hc=>?_)<;>conv=>whnf)
  exact Gg
theorem VP (T:Tree)(hT:AF T=true)(hF:Full T)(hk:T.kind=147)(ih:∀U,AD U < AD T→OfP U)(K Γ:List Tree)(hK:K.length+AD T≤1073741824)(hΓ:Γ.length+AD T≤1073741824) :
  Pure P 102 [cxA K Γ,.d (.tree T)] (rA (Lq T K Γ)):=by
 have hTn:=AQ hT
 have hsz:=AI hTn
 obtain⟨t1,t2,t3⟩:=Cg hT hk
 have m0:=AA (l:=T.kids) (i:=0) (by omega)
 have s0:=AH m0
 have c0:=ih (T.kids.getD 0 .nil) (by omega) K Γ t2 (hF.kid (by omega)) (by omega) (by omega)
 have qc0:=Ec _ _ (Nat.le_refl (AD (T.kids.getD 0 .nil))) t2 K Γ
 have n0:(ofF (T.kids.getD 0 .nil) K Γ).2=0→(ofF (T.kids.getD 0 .nil) K Γ).1≠.nil:=fun h=>DQ (qc0 h)
 have c1:=JG K Γ (T.kids.getD 0 .nil) 121 _ c0 n0
 have z1:(asR (ofF (T.kids.getD 0 .nil) K Γ) 121).2=0→(asR (ofF (T.kids.getD 0 .nil) K Γ) 121).1.kind=121∧AG (asR (ofF (T.kids.getD 0 .nil) K Γ) 121).1=true:=fun h=>by
  obtain⟨a1,a2,a3⟩:=Iz h
  rw[a3];exact⟨a2,qc0 a1⟩
 have hl:∀x∈T.kids.drop 1,x≠.nil∧0 < x.kids.length:=fun x hx=>by
  obtain⟨b1,b2,b3,b4,b5⟩:=Dc (t3 x hx)
  exact⟨b1,by omega⟩
 have ho:∀x∈T.kids.drop 1,∀a,Pure P 32 [cxA K (a::Γ),.d (.tree (x.kids.getD 0 .nil))] (rA (ofF (x.kids.getD 0 .nil) K (a::Γ))):=fun x hx a=>by
  obtain⟨b1,b2,b3,b4,b5⟩:=Dc (t3 x hx)
  have hx1:=List.mem_of_mem_drop hx
  have s2:=AH hx1
  have s3:=AI b1
  have s4:=AH (AA (l:=x.kids) (i:=0) (by omega))
  exact ih _ (by omega) K (a::Γ) b5 ((hF.kids x hx1).kid (by omega)) (by omega) (by rw[List.length_cons];omega)
 have hdl:(T.kids.drop 1).length+1=T.kids.length:=by rw[List.length_drop];omega
 refine Pure.AB tt [] [4,5] (Tryz.func102) rfl rfl rfl lb fun g=>?_
 generalize hv:Lq T K Γ=v
 unfold Lq bnd lbnd at hv
 generalize asR (ofF (T.kids.getD 0 .nil) K Γ) 121=r0 at *
 obtain⟨f,e0⟩:=r0
 try dsimp only at c0
 try dsimp only at c1
 try dsimp only at c2
 try dsimp only at c3
 try dsimp only at cf
 try dsimp only at qc0
 try dsimp only at qc1
 try dsimp only at qc2
 try dsimp only at z1
 try dsimp only at hv
 by_cases h0:e0=0
 ·subst h0
  rw[if_pos rfl]at hv
  try dsimp only at hv
  obtain⟨z2,z3⟩:=z1 rfl
  have nt:=DQ z3
  have hs:∀x∈f.kids,x≠.nil∧0 < x.kids.length:=fun x hx=>by have:=Ki.CF (Ki.EM nt z3 z2 x hx);exact⟨this.1,by omega⟩
  have ca:=JQ f f (T.kids.drop 1) K Γ nt hs hl (by omega) ho
  have hzr:(nrmL (armR K Γ f.kids f (T.kids.drop 1))).2=0→(nrmL (armR K Γ f.kids f (T.kids.drop 1))).1.length=(T.kids.drop 1).length:=fun h=>by
   obtain⟨y1,y2⟩:=Ur h
   rw[y2]
   unfold armR at y1 ⊢
   split at y1
   ·rename_i hq;rw[if_pos hq];exact (Jm y1).1
   ·simp at y1
  have hvn:lbnd (armR K Γ f.kids f (T.kids.drop 1)) (fun ts=>EC ts (ts.getD 0 .nil))=v:=hv
  rw[QW]at hvn
  clear hv
  generalize nrmL (armR K Γ f.kids f (T.kids.drop 1))=r1 at *
  obtain⟨ts,e1⟩:=r1
  try dsimp only at c0
  try dsimp only at c1
  try dsimp only at c2
  try dsimp only at c3
  try dsimp only at cf
  try dsimp only at qc0
  try dsimp only at qc1
  try dsimp only at qc2
  try dsimp only at z1
  try dsimp only at hv
  try dsimp only at ca
  try dsimp only at hzr
  unfold lbnd at hvn
  by_cases h1:e1=0
  ·subst h1
   rw[if_pos rfl]at hvn
   dsimp only at hvn
   have hts:=hzr rfl
   have cl:=PZ ts (ts.getD 0 .nil)
   subst hvn
   repeat' ((first|refine Ga ?_|refine Gc fun hlen=>?_|refine Ge c1 ?_|refine Gh ((0:Int)≤0∧(0:Int) < (T.kids.length:Int)) ?_|refine Gh ((0:Int)≤1∧(1:Int) < (T.kids.length:Int)) ?_|refine Gh ((0:Int)≤1∧(1:Int)≤(T.kids.length:Int)) ?_|refine Ge ca ?_|refine Ge cl ?_|refine Gh ((0:Int)≤0∧(0:Int) < (ts.length:Int)) ?_|refine Gd (fun hc=>?_) fun hc=>?_)<;>conv=>whnf)
   exact Gg
  ·rw[if_neg h1]at hvn
   subst hvn
   repeat' ((first|refine Ga ?_|refine Gc fun hlen=>?_|refine Ge c1 ?_|refine Gh ((0:Int)≤0∧(0:Int) < (T.kids.length:Int)) ?_|refine Gh ((0:Int)≤1∧(1:Int) < (T.kids.length:Int)) ?_|refine Gh ((0:Int)≤1∧(1:Int)≤(T.kids.length:Int)) ?_|refine Ge ca ?_|refine Gd (fun hc=>?_) fun hc=>?_)<;>conv=>whnf)
   exact Gg
 ·rw[if_neg h0]at hv
  try dsimp only at hv
  subst hv
  repeat' ((first|refine Ga ?_|refine Gc fun hlen=>?_|refine Ge c1 ?_|refine Gh ((0:Int)≤0∧(0:Int) < (T.kids.length:Int)) ?_|refine Gh ((0:Int)≤1∧(1:Int) < (T.kids.length:Int)) ?_|refine Gh ((0:Int)≤1∧(1:Int)≤(T.kids.length:Int)) ?_|refine Gd (fun hc=>?_) fun hc=>?_)<;>conv=>whnf)
  exact Gg
theorem N2 (T:Tree)(hT:AF T=true)(hF:Full T)(hk:T.kind=148)(ih:∀U,AD U < AD T→OfP U)(K Γ:List Tree)(hK:K.length+AD T≤1073741824)(hΓ:Γ.length+AD T≤1073741824) :
  Pure P 103 [cxA K Γ,.d (.tree T)] (rA (La T K Γ)):=by
 have hTn:=AQ hT
 have hsz:=AI hTn
 obtain⟨t1,t2,t2c,t3⟩:=CY hT hk
 have m0:=AA (l:=T.kids) (i:=0) (by omega)
 have s0:=AH m0
 have c0:=ih (T.kids.getD 0 .nil) (by omega) K Γ t2 (hF.kid (by omega)) (by omega) (by omega)
 have qc0:=Ec _ _ (Nat.le_refl (AD (T.kids.getD 0 .nil))) t2 K Γ
 have cst:=Gk K Γ (T.kids.getD 1 .nil) (by omega)
 have n0:(ofF (T.kids.getD 0 .nil) K Γ).2=0→(ofF (T.kids.getD 0 .nil) K Γ).1≠.nil:=fun h=>DQ (qc0 h)
 have c1:=JG K Γ (T.kids.getD 0 .nil) 121 _ c0 n0
 have z1:(asR (ofF (T.kids.getD 0 .nil) K Γ) 121).2=0→(asR (ofF (T.kids.getD 0 .nil) K Γ) 121).1.kind=121∧AG (asR (ofF (T.kids.getD 0 .nil) K Γ) 121).1=true:=fun h=>by
  obtain⟨a1,a2,a3⟩:=Iz h
  rw[a3];exact⟨a2,qc0 a1⟩
 have hl:∀x∈T.kids.drop 2,x≠.nil∧0 < x.kids.length:=fun x hx=>by
  obtain⟨b1,b2,b3,b4,b5⟩:=Dc (t3 x hx)
  exact⟨b1,by omega⟩
 have ho:∀x∈T.kids.drop 2,∀a,Pure P 32 [cxA K (a::Γ),.d (.tree (x.kids.getD 0 .nil))] (rA (ofF (x.kids.getD 0 .nil) K (a::Γ))):=fun x hx a=>by
  obtain⟨b1,b2,b3,b4,b5⟩:=Dc (t3 x hx)
  have hx1:=List.mem_of_mem_drop hx
  have s2:=AH hx1
  have s3:=AI b1
  have s4:=AH (AA (l:=x.kids) (i:=0) (by omega))
  exact ih _ (by omega) K (a::Γ) b5 ((hF.kids x hx1).kid (by omega)) (by omega) (by rw[List.length_cons];omega)
 have hdl:(T.kids.drop 2).length+2=T.kids.length:=by rw[List.length_drop];omega
 refine Pure.AB tt [] [4,5] (Tryz.func103) rfl rfl rfl lb fun g=>?_
 generalize hv:La T K Γ=v
 unfold La bnd lbnd at hv
 generalize asR (ofF (T.kids.getD 0 .nil) K Γ) 121=r0 at *
 obtain⟨f,e0⟩:=r0
 try dsimp only at c0
 try dsimp only at c1
 try dsimp only at c2
 try dsimp only at c3
 try dsimp only at cf
 try dsimp only at qc0
 try dsimp only at qc1
 try dsimp only at qc2
 try dsimp only at z1
 try dsimp only at hv
 by_cases h0:e0=0
 ·subst h0
  rw[if_pos rfl]at hv
  try dsimp only at hv
  obtain⟨z2,z3⟩:=z1 rfl
  have nt:=DQ z3
  have hs:∀x∈f.kids,x≠.nil∧0 < x.kids.length:=fun x hx=>by have:=Ki.CF (Ki.EM nt z3 z2 x hx);exact⟨this.1,by omega⟩
  generalize tstR K (T.kids.getD 1 .nil)=r3 at *
  obtain⟨t,e3⟩:=r3
  try dsimp only at c0
  try dsimp only at c1
  try dsimp only at c2
  try dsimp only at c3
  try dsimp only at cf
  try dsimp only at qc0
  try dsimp only at qc1
  try dsimp only at qc2
  try dsimp only at z1
  try dsimp only at hv
  try dsimp only at cst
  by_cases h3:e3=0
  ·subst h3
   rw[if_pos rfl]at hv
   try dsimp only at hv
   have ca:=JQ f t (T.kids.drop 2) K Γ nt hs hl (by omega) ho
   have hvn:lbnd (armR K Γ f.kids t (T.kids.drop 2)) (fun ts=>EC ts t)=v:=hv
   rw[QW]at hvn
   clear hv
   generalize nrmL (armR K Γ f.kids t (T.kids.drop 2))=r1 at *
   obtain⟨ts,e1⟩:=r1
   try dsimp only at c0
   try dsimp only at c1
   try dsimp only at c2
   try dsimp only at c3
   try dsimp only at cf
   try dsimp only at qc0
   try dsimp only at qc1
   try dsimp only at qc2
   try dsimp only at z1
   try dsimp only at hv
   try dsimp only at ca
   unfold lbnd at hvn
   by_cases h1:e1=0
   ·subst h1
    rw[if_pos rfl]at hvn
    dsimp only at hvn
    have cl:=PZ ts t
    subst hvn
    repeat' ((first|refine Ga ?_|refine Gc fun hlen=>?_|refine Ge c1 ?_|refine Gh ((0:Int)≤0∧(0:Int) < (T.kids.length:Int)) ?_|refine Gh ((0:Int)≤1∧(1:Int) < (T.kids.length:Int)) ?_|refine Gh ((0:Int)≤2∧(2:Int)≤(T.kids.length:Int)) ?_|refine Ge cst ?_|refine Ge ca ?_|refine Ge cl ?_|refine Gd (fun hc=>?_) fun hc=>?_)<;>conv=>whnf)
    exact Gg
   ·rw[if_neg h1]at hvn
    subst hvn
    repeat' ((first|refine Ga ?_|refine Gc fun hlen=>?_|refine Ge c1 ?_|refine Gh ((0:Int)≤0∧(0:Int) < (T.kids.length:Int)) ?_|refine Gh ((0:Int)≤1∧(1:Int) < (T.kids.length:Int)) ?_|refine Gh ((0:Int)≤2∧(2:Int)≤(T.kids.length:Int)) ?_|refine Ge cst ?_|refine Ge ca ?_|refine Gd (fun hc=>?_) fun hc=>?_)<;>conv=>whnf)
    exact Gg
  ·rw[if_neg h3]at hv
   try dsimp only at hv
   subst hv
   repeat' ((first|refine Ga ?_|refine Gc fun hlen=>?_|refine Ge c1 ?_|refine Gh ((0:Int)≤0∧(0:Int) < (T.kids.length:Int)) ?_|refine Gh ((0:Int)≤1∧(1:Int) < (T.kids.length:Int)) ?_|refine Gh ((0:Int)≤2∧(2:Int)≤(T.kids.length:Int)) ?_|refine Ge cst ?_|refine Gd (fun hc=>?_) fun hc=>?_)<;>conv=>whnf)
   exact Gg
 ·rw[if_neg h0]at hv
  try dsimp only at hv
  subst hv
  repeat' ((first|refine Ga ?_|refine Gc fun hlen=>?_|refine Ge c1 ?_|refine Gh ((0:Int)≤0∧(0:Int) < (T.kids.length:Int)) ?_|refine Gh ((0:Int)≤1∧(1:Int) < (T.kids.length:Int)) ?_|refine Gh ((0:Int)≤2∧(2:Int)≤(T.kids.length:Int)) ?_|refine Gd (fun hc=>?_) fun hc=>?_)<;>conv=>whnf)
  exact Gg
theorem Sz (a b:Int):(a != b)=decide (a≠b):=by
 by_cases h:a=b
 ·subst h;simp
 ·rw[decide_eq_true h];simpa using h
theorem IS {T:Tree}(h:AF T=true):T.kind=130∨T.kind=131∨T.kind=132∨T.kind=133∨T.kind=134∨T.kind=146∨T.kind=139∨T.kind=135∨T.kind=142∨T.kind=143∨T.kind=145∨T.kind=136∨T.kind=138∨T.kind=140∨T.kind=141∨T.kind=144∨T.kind=147∨T.kind=148:=by
 rw[At (AQ h),Bool.and_eq_true]at h
 obtain⟨hh,h⟩:=h
 apply Decidable.byContradiction
 intro hn
 rw[ifn,ifn,ifn,ifn,ifn,ifn,ifn,ifn,ifn,ifn,ifn]at h
 cases h
theorem Uk {T:Tree}(h:AF T=true)(hk:T.kind=130):0≤T.n∧T.n≤65536:=by
 rw[At (AQ h),Bool.and_eq_true]at h
 have hh:=h.1
 unfold FZ at hh
 simp only[Bool.and_eq_true]at hh
 have:=hh.2
 unfold numT at this
 rw[if_pos hk]at this
 simpa using this
theorem bJ:∀(n:Nat) (T:Tree),AD T≤n→OfP T:=by
 intro n
 induction n with
 | zero=>intro T hz K Γ hT;have:=AI (AQ hT);omega
 | succ n ihn=>?_
 intro T hz K Γ hT hF hK hΓ
 have ih:∀U,AD U < AD T→OfP U:=fun U h=>ihn U (by omega)
 have hTn:=AQ hT
 have hsz:=AI hTn
 refine Pure.AB tt [82] [4,5] (Tryz.func32) rfl rfl rfl lb fun g=>?_
 generalize hv:ofF T K Γ=v
 rw[Qg T K Γ hTn]at hv
 by_cases k130:T.kind=130
 ·rw[if_pos k130]at hv
  have hn:=(Uk hT) k130
  unfold varR at hv
  have cn:=No.F2 (Γ.getD T.n.toNat .nil)
  by_cases hl:(Γ.length:Int)≤T.n
  ·rw[if_pos hl]at hv
   subst hv
   repeat' ((first|refine Ga ?_|refine Gc fun hlen=>?_|refine Gd (fun hc=>?_) fun hc=>?_)<;>conv=>whnf)
   all_goals first|exact Gg|(exfalso;omega)
  ·rw[if_neg hl]at hv
   subst hv
   repeat' ((first|refine Ga ?_|refine Gc fun hlen=>?_|refine Ge cn ?_|refine Gh ((0:Int)≤T.n∧T.n < (Γ.length:Int)) ?_|refine Gd (fun hc=>?_) fun hc=>?_)<;>conv=>whnf)
   all_goals first|exact Gg|(exfalso;omega)
 rw[if_neg k130]at hv
 by_cases k131:T.kind=131
 ·rw[if_pos k131]at hv
  have cn:=JI 111
  subst hv
  repeat' ((first|refine Ga ?_|refine Gc fun hlen=>?_|refine Ge cn ?_|refine Gd (fun hc=>?_) fun hc=>?_)<;>conv=>whnf)
  exact Gg
 rw[if_neg k131]at hv
 by_cases k132:T.kind=132
 ·rw[if_pos k132]at hv
  have cn:=JI 112
  subst hv
  repeat' ((first|refine Ga ?_|refine Gc fun hlen=>?_|refine Ge cn ?_|refine Gd (fun hc=>?_) fun hc=>?_)<;>conv=>whnf)
  exact Gg
 rw[if_neg k132]at hv
 by_cases k133:T.kind=133
 ·rw[if_pos k133]at hv
  have cn:=JI 113
  subst hv
  repeat' ((first|refine Ga ?_|refine Gc fun hlen=>?_|refine Ge cn ?_|refine Gd (fun hc=>?_) fun hc=>?_)<;>conv=>whnf)
  exact Gg
 rw[if_neg k133]at hv
 by_cases k139:T.kind=139
 ·rw[if_pos k139]at hv
  obtain⟨t1,t2,t3⟩:=Er hT k139
  have s1:=AH (AA (l:=T.kids) (i:=1) (by omega))
  unfold SF lbnd bnd at hv
  have ck:=Ug K Γ (T.kids.getD 0 .nil) (by omega) (by omega)
  have hz2:=MG (l:=Γ)
  unfold kcx at ck
  generalize shsR Γ=r1 at *
  obtain⟨Δ,e1⟩:=r1
  try dsimp only at ck
  try dsimp only at hz2
  try dsimp only at hv
  by_cases h1:e1=0
  ·subst h1
   rw[if_pos rfl]at ck
   rw[if_pos rfl]at hv
   have hd:Δ.length=Γ.length:=by rw[(hz2 rfl).2,List.length_map]
   have c2:=ih (T.kids.getD 1 .nil) (by omega) (T.kids.getD 0 .nil::K) Δ t3 (hF.kid (by omega)) (by rw[List.length_cons];omega) (by omega)
   generalize ofF (T.kids.getD 1 .nil) (T.kids.getD 0 .nil::K) Δ=r2 at *
   obtain⟨b,e2⟩:=r2
   try dsimp only at c2
   try dsimp only at hv
   by_cases h2:e2=0
   ·subst h2
    rw[if_pos rfl]at hv
    have c3:=Uy 117 [T.kids.getD 0 .nil,b]
    subst hv
    repeat' ((first|refine Ga ?_|refine Gc fun hlen=>?_|refine Ge ck ?_|refine Ge c2 ?_|refine Ge c3 ?_|refine Gh ((0:Int)≤0∧(0:Int) < (T.kids.length:Int)) ?_|refine Gh ((0:Int)≤1∧(1:Int) < (T.kids.length:Int)) ?_|refine Gd (fun hc=>?_) fun hc=>?_)<;>conv=>whnf)
    exact Gg
   ·rw[if_neg h2]at hv
    subst hv
    repeat' ((first|refine Ga ?_|refine Gc fun hlen=>?_|refine Ge ck ?_|refine Ge c2 ?_|refine Gh ((0:Int)≤0∧(0:Int) < (T.kids.length:Int)) ?_|refine Gh ((0:Int)≤1∧(1:Int) < (T.kids.length:Int)) ?_|refine Gd (fun hc=>?_) fun hc=>?_)<;>conv=>whnf)
    exact Gg
  ·rw[if_neg h1]at ck
   rw[if_neg h1]at hv
   subst hv
   repeat' ((first|refine Ga ?_|refine Gc fun hlen=>?_|refine Ge ck ?_|refine Gh ((0:Int)≤0∧(0:Int) < (T.kids.length:Int)) ?_|refine Gh ((0:Int)≤1∧(1:Int) < (T.kids.length:Int)) ?_|refine Gd (fun hc=>?_) fun hc=>?_)<;>conv=>whnf)
   exact Gg
 rw[if_neg k139]at hv
 by_cases k143:T.kind=143
 ·rw[if_pos k143]at hv
  obtain⟨t1,t2,t3⟩:=A8 hT (.inr (.inr (.inl k143)))
  have s0:=AH (AA (l:=T.kids) (i:=0) (by omega))
  have s1:=AH (AA (l:=T.kids) (i:=1) (by omega))
  have c0:=ih (T.kids.getD 0 .nil) (by omega) K Γ t2 (hF.kid (by omega)) (by omega) (by omega)
  unfold letR bnd at hv
  generalize ofF (T.kids.getD 0 .nil) K Γ=r0 at *
  obtain⟨t,e0⟩:=r0
  try dsimp only at c0
  try dsimp only at hv
  by_cases h0:e0=0
  ·subst h0
   rw[if_pos rfl]at hv
   have ct:=OQ K Γ t (by omega)
   have c1:=ih (T.kids.getD 1 .nil) (by omega) K (t::Γ) t3 (hF.kid (by omega)) (by omega) (by rw[List.length_cons];omega)
   subst hv
   repeat' ((first|refine Ga ?_|refine Gc fun hlen=>?_|refine Ge c0 ?_|refine Ge ct ?_|refine Ge c1 ?_|refine Gh ((0:Int)≤0∧(0:Int) < (T.kids.length:Int)) ?_|refine Gh ((0:Int)≤1∧(1:Int) < (T.kids.length:Int)) ?_|refine Gd (fun hc=>?_) fun hc=>?_)<;>conv=>whnf)
   exact Gg
  ·rw[if_neg h0]at hv
   subst hv
   repeat' ((first|refine Ga ?_|refine Gc fun hlen=>?_|refine Ge c0 ?_|refine Gh ((0:Int)≤0∧(0:Int) < (T.kids.length:Int)) ?_|refine Gh ((0:Int)≤1∧(1:Int) < (T.kids.length:Int)) ?_|refine Gd (fun hc=>?_) fun hc=>?_)<;>conv=>whnf)
   exact Gg
 rw[if_neg k143]at hv
 unfold Po at hv
 by_cases k134:T.kind=134
 ·rw[if_pos k134]at hv
  have cr:=Vn T hTn k134
  have c0:=Zj T hT hF k134 ih K Γ hK hΓ
  subst hv
  repeat' ((first|refine Ga ?_|refine Gc fun hlen=>?_|refine Ge cr ?_|refine Ge c0 ?_|refine Gd (fun hc=>?_) fun hc=>?_)<;>conv=>whnf)
  exact Gg
 rw[if_neg k134]at hv
 by_cases k135:T.kind=135
 ·rw[if_pos k135]at hv
  have cr:=Wi T hTn k135
  have c0:=Oa T hT hF k135 ih K Γ hK hΓ
  subst hv
  repeat' ((first|refine Ga ?_|refine Gc fun hlen=>?_|refine Ge cr ?_|refine Ge c0 ?_|refine Gd (fun hc=>?_) fun hc=>?_)<;>conv=>whnf)
  exact Gg
 rw[if_neg k135]at hv
 by_cases k136:T.kind=136
 ·rw[if_pos k136]at hv
  have cr:=U9 T hTn k136
  have c0:=ZZ T hT hF k136 ih K Γ hK hΓ
  subst hv
  repeat' ((first|refine Ga ?_|refine Gc fun hlen=>?_|refine Ge cr ?_|refine Ge c0 ?_|refine Gd (fun hc=>?_) fun hc=>?_)<;>conv=>whnf)
  exact Gg
 rw[if_neg k136]at hv
 by_cases k138:T.kind=138
 ·rw[if_pos k138]at hv
  have cr:=TV T hTn k138
  have c0:=Xm T hT hF k138 ih K Γ hK hΓ
  subst hv
  repeat' ((first|refine Ga ?_|refine Gc fun hlen=>?_|refine Ge cr ?_|refine Ge c0 ?_|refine Gd (fun hc=>?_) fun hc=>?_)<;>conv=>whnf)
  exact Gg
 rw[if_neg k138]at hv
 by_cases k140:T.kind=140
 ·rw[if_pos k140]at hv
  have cr:=TO T hTn k140
  have c0:=YM T hT hF k140 ih K Γ hK hΓ
  subst hv
  repeat' ((first|refine Ga ?_|refine Gc fun hlen=>?_|refine Ge cr ?_|refine Ge c0 ?_|refine Gd (fun hc=>?_) fun hc=>?_)<;>conv=>whnf)
  exact Gg
 rw[if_neg k140]at hv
 by_cases k141:T.kind=141
 ·rw[if_pos k141]at hv
  have cr:=UG T hTn k141
  have c0:=Xn T hT hF k141 ih K Γ hK hΓ
  subst hv
  repeat' ((first|refine Ga ?_|refine Gc fun hlen=>?_|refine Ge cr ?_|refine Ge c0 ?_|refine Gd (fun hc=>?_) fun hc=>?_)<;>conv=>whnf)
  exact Gg
 rw[if_neg k141]at hv
 by_cases k142:T.kind=142
 ·rw[if_pos k142]at hv
  have cr:=PB T hTn k142
  have c0:=S7 T hT hF k142 ih K Γ hK hΓ
  subst hv
  repeat' ((first|refine Ga ?_|refine Gc fun hlen=>?_|refine Ge cr ?_|refine Ge c0 ?_|refine Gd (fun hc=>?_) fun hc=>?_)<;>conv=>whnf)
  exact Gg
 rw[if_neg k142]at hv
 by_cases k144:T.kind=144
 ·rw[if_pos k144]at hv
  have cr:=PG T hTn k144
  have c0:=UM T hT hF k144 ih K Γ hK hΓ
  subst hv
  repeat' ((first|refine Ga ?_|refine Gc fun hlen=>?_|refine Ge cr ?_|refine Ge c0 ?_|refine Gd (fun hc=>?_) fun hc=>?_)<;>conv=>whnf)
  exact Gg
 rw[if_neg k144]at hv
 by_cases k145:T.kind=145
 ·rw[if_pos k145]at hv
  have cr:=YY T hTn k145
  have c0:=Vp T hT hF k145 ih K Γ hK hΓ
  subst hv
  repeat' ((first|refine Ga ?_|refine Gc fun hlen=>?_|refine Ge cr ?_|refine Ge c0 ?_|refine Gd (fun hc=>?_) fun hc=>?_)<;>conv=>whnf)
  exact Gg
 rw[if_neg k145]at hv
 by_cases k146:T.kind=146
 ·rw[if_pos k146]at hv
  have cr:=XD T hTn k146
  have c0:=ax T hT hF k146 ih K Γ hK hΓ
  subst hv
  repeat' ((first|refine Ga ?_|refine Gc fun hlen=>?_|refine Ge cr ?_|refine Ge c0 ?_|refine Gd (fun hc=>?_) fun hc=>?_)<;>conv=>whnf)
  exact Gg
 rw[if_neg k146]at hv
 by_cases k147:T.kind=147
 ·rw[if_pos k147]at hv
  have cr:=Rh T hTn k147
  have c0:=VP T hT hF k147 ih K Γ hK hΓ
  subst hv
  repeat' ((first|refine Ga ?_|refine Gc fun hlen=>?_|refine Ge cr ?_|refine Ge c0 ?_|refine Gd (fun hc=>?_) fun hc=>?_)<;>conv=>whnf)
  exact Gg
 rw[if_neg k147]at hv
 have k148:T.kind=148:=by
  have:=IS hT
  omega
 have cr:=UL T hTn k134 k135 k136 k138 k140 k141 k142 k144 k145 k146 k147
 have c0:=N2 T hT hF k148 ih K Γ hK hΓ
 subst hv
 repeat' ((first|refine Ga ?_|refine Gc fun hlen=>?_|refine Ge cr ?_|refine Ge c0 ?_|refine Gd (fun hc=>?_) fun hc=>?_)<;>conv=>whnf)
 exact Gg
def MV (K:List Tree)(t:Tree):Bool:=decide (Ki.Hh K t≠0)
def KX (K Γ:List Tree)(T:Tree):Tree×Int:=if Au T≠0 then (.nil,Au T) else if (K.any fun k=>decide (D0 k≠0))=true∨(Γ.any (MV K))=true then (.nil,2) else ofF T K Γ
theorem aM (k:Tree):Pure P 27 [.d (.tree k)] (.d (.bool (decide (D0 k≠0)))):=by
 have h:=Jd k
 refine Pure.AB tt [] [2] (Tryz.func27) rfl rfl rfl lb fun g=>?_
 repeat' ((first|refine Ga ?_|refine Gc fun hlen=>?_|refine Ge h ?_|refine Gd (fun hc=>?_) fun hc=>?_)<;>conv=>whnf)
 exact Gf rfl (AZ (by rw[Sz])) rfl
theorem VI (K:List Tree)(hl:K.length≤137438953472)(t:Tree):Fun P 29 [.d (.tree t),.ref 0 0] [(0,.cells [.d (.trees K)])] 1 (.d (.bool (MV K t))) [(0,.cells [.d (.trees K)])] 1:=by
 have h:=Ki.SM K t hl
 refine Fun.AB tt [] [3] (Tryz.func29) rfl rfl rfl lb fun g=>?_
 repeat' ((first|refine Ga ?_|refine Gc fun hlen=>?_|refine Ge h ?_|refine Gd (fun hc=>?_) fun hc=>?_)<;>conv=>whnf)
 exact AM rfl rfl (AZ (by unfold MV;rw[Sz])) (by repeat' first|exact trivial|apply And.intro|rfl|(refine int_eq ?_;rw[wrap64]<;>omega)) (Nat.le_refl _)
theorem Xh (K Γ:List Tree)(T:Tree)(hK:K.length≤1048576)(hΓ:Γ.length≤1048576):Pure P 14 [.d (.trees K),.d (.trees Γ),.d (.tree T)] (rA (KX K Γ T)):=by
 have c0:=CH T
 have c1:=Ki.Kg K 27 (fun k=>decide (D0 k≠0)) fun x _=>aM x
 have c2:=JN Γ 29 (.trees K) (MV K) fun x _=>VI K (by omega) x
 refine Pure.AB tt [] [6,7] Tryz.func14 rfl rfl rfl lb fun g=>?_
 unfold KX
 by_cases h0:Au T=0
 ·rw[ifn]
  obtain⟨h1,h2,h3⟩:=Bo h0
  have c3:=bJ _ T (Nat.le_refl _) K Γ h1 h3 (by omega) (by omega)
  rw[h0]at c0
  cases hb:K.any fun k=>decide (D0 k≠0) with
  | true =>
   rw[hb]at c1
   rw[if_pos (.inl rfl)]
   repeat' ((first|refine Ga ?_|refine Gc fun hlen=>?_|refine Ge c0 ?_|refine Ge c1 ?_|refine AJ.go c2 [0] ?_|refine Gd (fun hc=>?_) fun hc=>?_)<;>conv=>whnf)
   exact Gg
  | false =>
   rw[hb]at c1
   cases hb2:Γ.any (MV K) with
   | true =>
    rw[hb2]at c2
    rw[if_pos (.inr rfl)]
    repeat' ((first|refine Ga ?_|refine Gc fun hlen=>?_|refine Ge c0 ?_|refine Ge c1 ?_|refine AJ.go c2 [0] ?_|refine Gd (fun hc=>?_) fun hc=>?_)<;>conv=>whnf)
    exact Gg
   | false =>
    rw[hb2]at c2
    rw[if_neg (by rintro (h|h)<;>cases h)]
    repeat' ((first|refine Ga ?_|refine Gc fun hlen=>?_|refine Ge c0 ?_|refine Ge c1 ?_|refine AJ.go c2 [0] ?_|refine Ge c3 ?_|refine Gd (fun hc=>?_) fun hc=>?_)<;>conv=>whnf)
    exact Gg
 ·rw[if_pos h0]
  repeat' ((first|refine Ga ?_|refine Gc fun hlen=>?_|refine Ge c0 ?_|refine Gd (fun hc=>?_) fun hc=>?_)<;>conv=>whnf)
  exact Gg
end Ty
end Go.Proofs.YtlgajkoplklkiaaGreat
namespace Go.Proofs.YtlgajkoplklkiaaGreat
namespace Mc
open Go Go.Mq
abbrev R2:=Vl×Int
section
variable (ev : Tree → Ev → R2) (fo : Tree → ByteArray → Tree → Vl → Ev → R2)
def recB (ρ:Ev):List Tree→List ByteArray→List Vl→R2
 | [],ls,ps=>(.rcd ls ps,0)
 | x::l,ls,ps=>if (ev (x.kids.getD 0 .nil) ρ).2=0 then recB ρ l (ls++[x.name]) (ps++[(ev (x.kids.getD 0 .nil) ρ).1]) else (.unt,(ev (x.kids.getD 0 .nil) ρ).2)
def D4 (T:Tree)(ρ:Ev):R2 :=
 if (ev (T.kids.getD 1 .nil) ρ).2=0 then
  (if (AN (AL ρ) (T.kids.getD 0 .nil)).2=0 then (if T.kind=146 then .tag T.name (AN (AL ρ) (T.kids.getD 0 .nil)).1 (ev (T.kids.getD 1 .nil) ρ).1 else .pkd (AN (AL ρ) (T.kids.getD 0 .nil)).1 (ev (T.kids.getD 1 .nil) ρ).1,0)
  else (.unt,(AN (AL ρ) (T.kids.getD 0 .nil)).2))
 else (.unt,(ev (T.kids.getD 1 .nil) ρ).2)
def opB (n:Int):Vl→Vl→R2
 | .num a,.num b =>
  if n=4 then (.tru (decide (a=b)),0) else if n≠1∧n≠2∧n≠3 then (.tru (decide (a < b)),0)
  else if IntKind.i64.wrap (if n=1 then a+b else if n=2 then a - b else a*b) < -1073741824∨1073741824 < IntKind.i64.wrap (if n=1 then a+b else if n=2 then a - b else a*b) then (.unt,19)
   else (.num (IntKind.i64.wrap (if n=1 then a+b else if n=2 then a - b else a*b)),0)
 | _,_=>(.unt,20)
def useB (T:Tree)(x:Vl)(ρ:Ev):R2 :=
 match x with
 | .rcd ls ps=>match CN T.name ls ps with
  | some p=>if T.kind=138 then (p,0) else (.unt,20)
  | none=>(.unt,20)
 | .tru b=>if T.kind=144 then ev (T.kids.getD (if b then 1 else 2) .nil) ρ else (.unt,20)
 | .clo ty b e=>if T.kind=140∧ty=true then
   (if (AN (AL ρ) (T.kids.getD 1 .nil)).2=0 then ev b (.con (AN (AL ρ) (T.kids.getD 1 .nil)).1 e) else (.unt,(AN (AL ρ) (T.kids.getD 1 .nil)).2))
  else (.unt,20)
 | .pkd c p=>if T.kind=142 then ev (T.kids.getD 1 .nil) (.val p (.con c ρ)) else (.unt,20)
 | .tag nm s p=>if T.kind=147 then (match armF nm (T.kids.drop 1) with
   | some b=>ev b (.val p ρ)
   | none=>(.unt,20))
  else if T.kind=148 then fo T nm s p ρ else (.unt,20)
 | _=>(.unt,20)
mutual
def unrB (T:Tree)(ρ:Ev):Tree→Vl→R2
 | .nil,x=>(x,0)
 | .node k n _ _ l,x=>if k=110∧n=0 then (match x with
   | .tag nm s p=>fo T nm s p ρ
   | _=>(.unt,20))
  else match x with
   | .rcd ls ps=>if k=115∧l.length=ps.length then BG T ρ l ls ps x ls [] else (x,0)
   | x=>(x,0)
def BG (T:Tree)(ρ:Ev):List Tree→List ByteArray→List Vl→Vl→List ByteArray→List Vl→R2
 | [],_,_,_,all,out=>(.rcd all out,0)
 | x::l,ls,ps,whole,all,out=>if x.name=ls.getD 0 ByteArray.empty then
   (if (NT T ρ x (ps.getD 0 .unt)).2=0 then BG T ρ l (ls.drop 1) (ps.drop 1) whole all (out++[(NT T ρ x (ps.getD 0 .unt)).1])
   else (.unt,(NT T ρ x (ps.getD 0 .unt)).2))
  else (whole,0)
def NT (T:Tree)(ρ:Ev):Tree→Vl→R2
 | .nil,x=>(x,0)
 | .node _ _ _ _ l,x=>Ru T ρ l x
def Ru (T:Tree)(ρ:Ev):List Tree→Vl→R2
 | [],x=>(x,0)
 | c::_,x=>unrB T ρ c x
end
end
section
variable (ev : Tree → Ev → R2) (fo : Tree → ByteArray → Tree → Vl → Ev → R2)
def As (T:Tree)(ρ:Ev):R2 :=
  if T.kind=130 then (match atE ρ T.n with
   | some v=>(v,0)
   | none=>(.unt,20))
  else if T.kind=131 then (.num T.n,0)
  else if T.kind=132 then (.tru (decide (T.n=1)),0)
  else if T.kind=133 then (.unt,0)
  else if T.kind=134∨T.kind=139 then (.clo (decide (T.kind=139)) (T.kids.getD 1 .nil) ρ,0)
  else if T.kind=136 then recB ev ρ T.kids [] []
  else if T.kind=146∨T.kind=141 then D4 ev T ρ
  else if (ev (T.kids.getD 0 .nil) ρ).2≠0 then (.unt,(ev (T.kids.getD 0 .nil) ρ).2)
  else if T.kind=135∨T.kind=145 then
    (if (ev (T.kids.getD 1 .nil) ρ).2≠0 then (.unt,(ev (T.kids.getD 1 .nil) ρ).2)
    else if T.kind=145 then opB T.n (ev (T.kids.getD 0 .nil) ρ).1 (ev (T.kids.getD 1 .nil) ρ).1
    else match (ev (T.kids.getD 0 .nil) ρ).1 with
     | .clo false body e=>ev body (.val (ev (T.kids.getD 1 .nil) ρ).1 e)
     | _=>(.unt,20))
  else if T.kind=143 then ev (T.kids.getD 1 .nil) (.val (ev (T.kids.getD 0 .nil) ρ).1 ρ)
  else useB ev fo T (ev (T.kids.getD 0 .nil) ρ).1 ρ
def Fa (T:Tree)(nm:ByteArray)(sum:Tree)(p:Vl)(ρ:Ev):R2 :=
  if (No.Ac sum).2≠0 then (.unt,(No.Ac sum).2)
  else match armF nm (T.kids.drop 2) with
   | none=>(.unt,20)
   | some b=>if (No.Ac sum).1.kind≠121 then (.unt,20) else match armF nm (No.Ac sum).1.kids with
    | none=>(.unt,20)
    | some c=>if (unrB fo T ρ c p).2≠0 then (.unt,(unrB fo T ρ c p).2) else ev b (.val (unrB fo T ρ c p).1 ρ)
end
mutual
def bsD:Nat→Tree→Ev→R2
 | 0,_,_=>(.unt,99)
 | k+1,T,ρ=>As (bsD k) (foD k) T ρ
def foD:Nat→Tree→ByteArray→Tree→Vl→Ev→R2
 | 0,_,_,_,_,_=>(.unt,99)
 | k+1,T,nm,sum,p,ρ=>Fa (bsD k) (foD k) T nm sum p ρ
end
theorem BH (k:Nat)(T:Tree)(ρ:Ev):bsD (k+1) T ρ=As (bsD k) (foD k) T ρ:=by rw[bsD]
theorem IK (k:Nat)(T:Tree)(nm:ByteArray)(sum:Tree)(p:Vl)(ρ:Ev):foD (k+1) T nm sum p ρ=Fa (bsD k) (foD k) T nm sum p ρ:=by rw[foD]
theorem VD (fo:Tree→ByteArray→Tree→Vl→Ev→R2)(T:Tree)(ρ:Ev)(l:List Tree)(x:Vl):Ru fo T ρ l x=unrB fo T ρ (l.getD 0 .nil) x:=by
 cases l with
 | nil=>rw[Ru];simp only[List.getD_nil];rw[unrB]
 | cons c l=>rw[Ru];rfl
theorem DH (fo:Tree→ByteArray→Tree→Vl→Ev→R2)(T:Tree)(ρ:Ev)(x:Tree)(v:Vl):NT fo T ρ x v=unrB fo T ρ (x.kids.getD 0 .nil) v:=by
 cases x with
 | nil=>rw[NT];simp only[Tree.kids,List.getD_nil];rw[unrB]
 | node=>rw[NT,VD];rfl
theorem Dk (fo:Tree→ByteArray→Tree→Vl→Ev→R2)(T:Tree)(ρ:Ev)(k n:Int)(nm mk:ByteArray)(l:List Tree)(x:Vl):unrB fo T ρ (.node k n nm mk l) x=if k=110∧n=0 then (match x with
   | .tag nm s p=>fo T nm s p ρ
   | _=>(.unt,20))
  else match x with
   | .rcd ls ps=>if k=115∧l.length=ps.length then BG fo T ρ l ls ps x ls [] else (x,0)
   | x=>(x,0):=by
 cases x<;>rw[unrB]<;>(intros;contradiction)
def Rs.two (r:Rs):R2:=(r.v,r.e)
section
variable {ev : Tree → Ev → Nat → Rs} {fo : Tree → ByteArray → Tree → Vl → Ev → Nat → Rs} {ev' : Tree → Ev → R2} {fo' : Tree → ByteArray → Tree → Vl → Ev → R2}
def Unt (r:Rs):Prop:=r.e≠0→r.v=.unt
def EvTo (ev:Tree→Ev→Nat→Rs)(ev':Tree→Ev→R2):Prop:=∀T ρ f,(ev T ρ f).e≠18→ev' T ρ=(ev T ρ f).two∧Unt (ev T ρ f)
def FoTo (fo:Tree→ByteArray→Tree→Vl→Ev→Nat→Rs)(fo':Tree→ByteArray→Tree→Vl→Ev→R2):Prop:=∀T nm s p ρ f,(fo T nm s p ρ f).e≠18→fo' T nm s p ρ=(fo T nm s p ρ f).two∧Unt (fo T nm s p ρ f)
theorem Sp (h:EvTo ev ev')(ρ:Ev):∀(l:List Tree) (f:Nat) (ls:List ByteArray) (ps:List Vl),(recM ev ρ l f ls ps).e≠18→recB ev' ρ l ls ps=(recM ev ρ l f ls ps).two∧Unt (recM ev ρ l f ls ps)
 | [],f,ls,ps,_=>by rw[recM,recB];exact⟨rfl,fun h=>absurd rfl h⟩
 | x::l,f,ls,ps,hg=>by
  rw[recM]at hg ⊢
  rw[recB]
  by_cases h0:(ev (x.kids.getD 0 .nil) ρ f).e=0
  ·rw[if_pos h0]at hg ⊢
   have hx:=(h (x.kids.getD 0 .nil) ρ f (by rw[h0];decide)).1
   rw[hx,if_pos (show (ev (x.kids.getD 0 .nil) ρ f).two.2=0 from h0)]
   exact Sp h ρ l _ _ _ hg
  ·rw[if_neg h0]at hg ⊢
   obtain⟨hx,hu⟩:=h (x.kids.getD 0 .nil) ρ f hg
   rw[hx,if_neg (show ¬(ev (x.kids.getD 0 .nil) ρ f).two.2=0 from h0)]
   refine⟨?_,hu⟩
   show _=((ev (x.kids.getD 0 .nil) ρ f).v,_)
   rw[hu h0];rfl
theorem Ve (h:EvTo ev ev')(T:Tree)(ρ:Ev)(f:Nat)(hg:(Ea ev T ρ f).e≠18):D4 ev' T ρ=(Ea ev T ρ f).two∧Unt (Ea ev T ρ f):=by
 unfold Ea at hg ⊢
 unfold D4
 dsimp only at hg ⊢
 have hx:=h (T.kids.getD 1 .nil) ρ f
 generalize ev (T.kids.getD 1 .nil) ρ f=x at hx hg ⊢
 by_cases h0:x.e=0
 ·rw[(hx (by rw[h0];decide)).1]
  rw[if_pos h0]at hg ⊢
  rw[if_pos (show x.two.2=0 from h0)]
  by_cases hc:(AN (AL ρ) (T.kids.getD 0 .nil)).2=0
  ·rw[if_pos hc,if_pos hc];exact⟨rfl,fun h=>absurd rfl h⟩
  ·rw[if_neg hc,if_neg hc];exact⟨rfl,fun _=>rfl⟩
 ·rw[if_neg h0]at hg ⊢
  rw[(hx hg).1]
  rw[if_neg (show ¬x.two.2=0 from h0)];exact⟨rfl,fun _=>rfl⟩
theorem XM (h:EvTo ev ev')(h2:FoTo fo fo')(T:Tree)(x:Vl)(ρ:Ev)(f:Nat)(hg:(useM ev fo T x ρ f).e≠18):useB ev' fo' T x ρ=(useM ev fo T x ρ f).two∧Unt (useM ev fo T x ρ f):=by
 have hb:∀e f,(.unt,e)=(bad e f).two∧Unt (bad e f):=fun e f=>⟨rfl,fun _=>rfl⟩
 unfold useM at hg ⊢
 unfold useB
 cases x with
 | rcd ls ps =>
  dsimp only
  cases CN T.name ls ps with
  | none=>exact hb _ _
  | some p =>
   dsimp only
   by_cases hk:T.kind=138
   ·rw[if_pos hk,if_pos hk];exact⟨rfl,fun h=>absurd rfl h⟩
   ·rw[if_neg hk,if_neg hk];exact hb _ _
 | tru b =>
  dsimp only at hg ⊢
  by_cases hk:T.kind=144
  ·rw[if_pos hk]at hg ⊢;rw[if_pos hk];exact h _ _ _ hg
  ·rw[if_neg hk,if_neg hk];exact hb _ _
 | clo ty b e =>
  dsimp only at hg ⊢
  by_cases hk:T.kind=140∧ty=true
  ·rw[if_pos hk]at hg ⊢;rw[if_pos hk]
   by_cases hc:(AN (AL ρ) (T.kids.getD 1 .nil)).2=0
   ·rw[if_pos hc]at hg ⊢;rw[if_pos hc];exact h _ _ _ hg
   ·rw[if_neg hc,if_neg hc];exact hb _ _
  ·rw[if_neg hk,if_neg hk];exact hb _ _
 | pkd c p =>
  dsimp only at hg ⊢
  by_cases hk:T.kind=142
  ·rw[if_pos hk]at hg ⊢;rw[if_pos hk];exact h _ _ _ hg
  ·rw[if_neg hk,if_neg hk];exact hb _ _
 | tag nm s p =>
  dsimp only at hg ⊢
  by_cases hk:T.kind=147
  ·rw[if_pos hk]at hg ⊢;rw[if_pos hk]
   cases ha:armF nm (T.kids.drop 1) with
   | none=>exact hb _ _
   | some b=>rw[ha]at hg;exact h _ _ _ hg
  ·rw[if_neg hk]at hg ⊢;rw[if_neg hk]
   by_cases hk8:T.kind=148
   ·rw[if_pos hk8]at hg ⊢;rw[if_pos hk8];exact h2 _ _ _ _ _ _ hg
   ·rw[if_neg hk8,if_neg hk8];exact hb _ _
 | _=>exact hb _ _
theorem aN (n:Int)(x y:Vl)(f:Nat):opB n x y=(opM n x y f).two∧Unt (opM n x y f):=by
 have hz:(.unt,20)=(bad 20 f).two∧Unt (bad 20 f):=⟨rfl,fun _=>rfl⟩
 unfold opM opB
 cases x with
 | num a =>
   cases y with
   | num b =>
  show (ite _ _ _:R2)=(ite _ _ _:Rs).two∧Unt (ite _ _ _:Rs)
  by_cases h1:n=4
  ·rw[if_pos h1,if_pos h1];exact⟨rfl,fun h=>absurd rfl h⟩
  rw[if_neg h1,if_neg h1]
  by_cases h2:n≠1∧n≠2∧n≠3
  ·rw[if_pos h2,if_pos h2];exact⟨rfl,fun h=>absurd rfl h⟩
  rw[if_neg h2,if_neg h2]
  show (ite _ _ _:R2)=(ite _ _ _:Rs).two∧Unt (ite _ _ _:Rs)
  by_cases h3:IntKind.i64.wrap (if n=1 then a+b else if n=2 then a - b else a*b) < -1073741824∨1073741824 < IntKind.i64.wrap (if n=1 then a+b else if n=2 then a - b else a*b)
  ·rw[if_pos h3,if_pos h3];exact⟨rfl,fun _=>rfl⟩
  ·rw[if_neg h3,if_neg h3];exact⟨rfl,fun h=>absurd rfl h⟩
   | _=>exact hz
 | _=>exact hz
theorem XH (h:FoTo fo fo')(T:Tree)(ρ:Ev)(c:Tree) :
  (∀x f,(unrM fo T ρ c x f).e≠18→unrB fo' T ρ c x=(unrM fo T ρ c x f).two∧Unt (unrM fo T ρ c x f)) ∧
  ∀y∈c.kids,∀x f,(unrM fo T ρ y x f).e≠18→unrB fo' T ρ y x=(unrM fo T ρ y x f).two∧Unt (unrM fo T ρ y x f):=by
 induction c using Tree.ind' with
 | h0=>exact⟨fun x f _=>by rw[unrM,unrB];exact⟨rfl,fun h=>absurd rfl h⟩,fun x hx=>by cases hx⟩
 | h1 c hc ih =>
  refine⟨fun x f hg=>?_,fun y hy=>(ih y hy).1⟩
  cases c with
  | nil=>exact absurd rfl hc
  | node kk n nm mk l =>
   rw[EK]at hg ⊢
   rw[Dk]
   by_cases hv:kk=110∧n=0
   ·rw[if_pos hv]at hg ⊢
    rw[if_pos hv]
    by_cases f0:f=0
    ·rw[if_pos f0]at hg
     exact absurd rfl hg
    ·rw[if_neg f0]at hg ⊢
     cases x with
     | tag nm s p=>exact h T nm s p ρ (f - 1) hg
     | _=>exact⟨rfl,fun _=>rfl⟩
   ·rw[if_neg hv]at hg ⊢
    rw[if_neg hv]
    cases x with
    | rcd ls ps =>
     dsimp only at hg ⊢
     by_cases hl:kk=115∧l.length=ps.length
     ·rw[if_pos hl]at hg ⊢
      rw[if_pos hl]
      have key:∀(l':List Tree),(∀y∈l',∀z∈y.kids,∀x f,(unrM fo T ρ z x f).e≠18→unrB fo' T ρ z x=(unrM fo T ρ z x f).two∧Unt (unrM fo T ρ z x f)) →
        ∀(a:List ByteArray) (b:List Vl) (f:Nat) (w:Vl) (al:List ByteArray) (o:List Vl),(Cm fo T ρ l' a b f w al o).e≠18→BG fo' T ρ l' a b w al o=(Cm fo T ρ l' a b f w al o).two∧Unt (Cm fo T ρ l' a b f w al o):=by
       intro l'
       induction l' with
       | nil=>intro _ a b f w al o _;rw[Cm,BG];exact⟨rfl,fun h=>absurd rfl h⟩
       | cons y l' ih2 =>
        intro hy0 a b f w al o hg
        rw[Cm]at hg ⊢
        rw[BG]
        by_cases hn:y.name=a.getD 0 ByteArray.empty
        ·rw[if_pos hn]at hg ⊢
         rw[if_pos hn]
         rw[IE]at hg ⊢
         rw[DH]
         have hz:∀x f,(unrM fo T ρ (y.kids.getD 0 .nil) x f).e≠18→unrB fo' T ρ (y.kids.getD 0 .nil) x=(unrM fo T ρ (y.kids.getD 0 .nil) x f).two∧Unt (unrM fo T ρ (y.kids.getD 0 .nil) x f):=by
          cases hk:y.kids with
          | nil=>intro x f _;simp only[List.getD_nil];rw[unrM,unrB];exact⟨rfl,fun h=>absurd rfl h⟩
          | cons z zs=>exact hy0 y (by simp) z (by rw[hk];simp)
         by_cases h0:(unrM fo T ρ (y.kids.getD 0 .nil) (b.getD 0 .unt) f).e=0
         ·rw[if_pos h0]at hg ⊢
          rw[(hz _ _ (by rw[h0];decide)).1]
          rw[if_pos (show (unrM fo T ρ (y.kids.getD 0 .nil) (b.getD 0 .unt) f).two.2=0 from h0)]
          exact ih2 (fun z hz=>hy0 z (by simp[hz])) _ _ _ _ _ _ hg
         ·rw[if_neg h0]at hg ⊢
          obtain⟨q1,q2⟩:=hz _ _ hg
          rw[q1,if_neg (show ¬(unrM fo T ρ (y.kids.getD 0 .nil) (b.getD 0 .unt) f).two.2=0 from h0)]
          refine⟨?_,q2⟩
          show _=((unrM fo T ρ (y.kids.getD 0 .nil) (b.getD 0 .unt) f).v,_)
          rw[q2 h0];rfl
        ·rw[if_neg hn,if_neg hn];exact⟨rfl,fun h=>absurd rfl h⟩
      exact key l (fun y hy z hz=>(ih y hy).2 z hz) _ _ _ _ _ _ hg
     ·rw[if_neg hl,if_neg hl];exact⟨rfl,fun h=>absurd rfl h⟩
    | _=>exact⟨rfl,fun h=>absurd rfl h⟩
end
theorem N0:∀k,EvTo (BZ k) (bsD k)∧FoTo (B6 k) (foD k)
 | 0=>⟨fun T ρ f h=>by rw[BZ]at h;exact absurd rfl h,fun T nm s p ρ f h=>by rw[B6]at h;exact absurd rfl h⟩
 | k+1=>by
  obtain⟨ih1,ih2⟩:=N0 k
  have hb:∀e f,(.unt,e)=(bad e f).two∧Unt (bad e f):=fun e f=>⟨rfl,fun _=>rfl⟩
  refine⟨fun T ρ f h=>?_,fun T nm s p ρ f h=>?_⟩
  ·rw[BZ]at h ⊢
   rw[BH]
   unfold As
   by_cases f0:f=0
   ·rw[if_pos f0]at h;exact absurd rfl h
   rw[if_neg f0]at h ⊢
   by_cases c0:T.kind=130
   ·rw[if_pos c0,if_pos c0]
    cases atE ρ T.n with
    | none=>exact hb _ _
    | some v=>exact⟨rfl,fun h=>absurd rfl h⟩
   rw[if_neg c0]at h ⊢;rw[if_neg c0]
   by_cases c1:T.kind=131
   ·rw[if_pos c1,if_pos c1];exact⟨rfl,fun h=>absurd rfl h⟩
   rw[if_neg c1]at h ⊢;rw[if_neg c1]
   by_cases c2:T.kind=132
   ·rw[if_pos c2,if_pos c2];exact⟨rfl,fun h=>absurd rfl h⟩
   rw[if_neg c2]at h ⊢;rw[if_neg c2]
   by_cases c3:T.kind=133
   ·rw[if_pos c3,if_pos c3];exact⟨rfl,fun h=>absurd rfl h⟩
   rw[if_neg c3]at h ⊢;rw[if_neg c3]
   by_cases c4:T.kind=134∨T.kind=139
   ·rw[if_pos c4,if_pos c4];exact⟨rfl,fun h=>absurd rfl h⟩
   rw[if_neg c4]at h ⊢;rw[if_neg c4]
   by_cases c5:T.kind=136
   ·rw[if_pos c5]at h ⊢;rw[if_pos c5];exact Sp ih1 ρ _ _ _ _ h
   rw[if_neg c5]at h ⊢;rw[if_neg c5]
   by_cases c6:T.kind=146∨T.kind=141
   ·rw[if_pos c6]at h ⊢;rw[if_pos c6];exact Ve ih1 T ρ _ h
   rw[if_neg c6]at h ⊢;rw[if_neg c6]
   dsimp only at h ⊢
   have ha:=ih1 (T.kids.getD 0 .nil) ρ (f - 1)
   generalize BZ k (T.kids.getD 0 .nil) ρ (f - 1)=a at ha h ⊢
   by_cases a0:a.e=0
   ·rw[if_neg (show ¬(a.e≠0) from fun q=>q a0)]at h ⊢
    rw[(ha (by rw[a0];decide)).1]
    rw[if_neg (show ¬a.two.2≠0 from fun q=>q a0)]
    by_cases c7:T.kind=135∨T.kind=145
    ·rw[if_pos c7]at h ⊢;rw[if_pos c7]
     have hbb:=ih1 (T.kids.getD 1 .nil) ρ a.f
     generalize BZ k (T.kids.getD 1 .nil) ρ a.f=b at hbb h ⊢
     by_cases b0:b.e=0
     ·rw[if_neg (show ¬(b.e≠0) from fun q=>q b0)]at h ⊢
      rw[(hbb (by rw[b0];decide)).1]
      rw[if_neg (show ¬b.two.2≠0 from fun q=>q b0)]
      by_cases c8:T.kind=145
      ·rw[if_pos c8,if_pos c8];exact aN _ _ _ _
      rw[if_neg c8]at h ⊢;rw[if_neg c8]
      have e1:a.two.1=a.v:=rfl
      have e2:b.two.1=b.v:=rfl
      rw[e1,e2]
      generalize a.v=av at h ⊢
      cases av with
      | clo ty body e =>
       cases ty with
       | false=>exact ih1 _ _ _ h
       | true=>exact hb _ _
      | _=>exact hb _ _
     ·rw[if_pos b0]at h ⊢
      rw[(hbb h).1]
      rw[if_pos (show b.two.2≠0 from b0)];exact hb _ _
    rw[if_neg c7]at h ⊢;rw[if_neg c7]
    by_cases c9:T.kind=143
    ·rw[if_pos c9]at h ⊢;rw[if_pos c9];exact ih1 _ _ _ h
    rw[if_neg c9]at h ⊢;rw[if_neg c9]
    exact XM ih1 ih2 T _ ρ _ h
   ·rw[if_pos a0]at h ⊢
    rw[(ha h).1]
    rw[if_pos (show a.two.2≠0 from a0)];exact hb _ _
  ·rw[B6]at h ⊢
   rw[IK]
   unfold Fa
   by_cases n0:(No.Ac s).2=0
   ·rw[if_neg (show ¬((No.Ac s).2≠0) from fun q=>q n0)]at h ⊢;rw[if_neg (show ¬((No.Ac s).2≠0) from fun q=>q n0)]
    cases hb1:armF nm (T.kids.drop 2) with
    | none=>exact hb _ _
    | some b =>
     rw[hb1]at h
     dsimp only at h ⊢
     by_cases n1:(No.Ac s).1.kind=121
     ·rw[if_neg (show ¬((No.Ac s).1.kind≠121) from fun q=>q n1)]at h ⊢;rw[if_neg (show ¬((No.Ac s).1.kind≠121) from fun q=>q n1)]
      cases hc1:armF nm (No.Ac s).1.kids with
      | none=>exact hb _ _
      | some c =>
       rw[hc1]at h
       dsimp only at h ⊢
       have hy:=(XH ih2 T ρ c).1 p f
       generalize unrM (B6 k) T ρ c p f=y at hy h ⊢
       by_cases y0:y.e=0
       ·rw[if_neg (show ¬(y.e≠0) from fun q=>q y0)]at h ⊢
        rw[(hy (by rw[y0];decide)).1]
        rw[if_neg (show ¬y.two.2≠0 from fun q=>q y0)]
        exact ih1 _ _ _ h
       ·rw[if_pos y0]at h ⊢
        rw[(hy h).1]
        rw[if_pos (show y.two.2≠0 from y0)];exact hb _ _
     ·rw[if_pos n1,if_pos n1];exact hb _ _
   ·rw[if_pos n0,if_pos n0];exact hb _ _
end Mc
end Go.Proofs.YtlgajkoplklkiaaGreat
namespace Go.Proofs.YtlgajkoplklkiaaGreat
namespace Mc
open Go Go.Mq
section
variable {ev ev' : Tree → Ev → R2} {fo fo' : Tree → ByteArray → Tree → Vl → Ev → R2}
def EvLe (ev ev':Tree→Ev→R2):Prop:=∀T ρ,(ev T ρ).2≠99→ev' T ρ=ev T ρ
def FoLe (fo fo':Tree→ByteArray→Tree→Vl→Ev→R2):Prop:=∀T nm s p ρ,(fo T nm s p ρ).2≠99→fo' T nm s p ρ=fo T nm s p ρ
theorem n99 {e:Int}(h:e=0):e≠99:=by omega
theorem JX (h:EvLe ev ev')(ρ:Ev):∀(l:List Tree) (ls:List ByteArray) (ps:List Vl),(recB ev ρ l ls ps).2≠99→recB ev' ρ l ls ps=recB ev ρ l ls ps
 | [],ls,ps,_=>by rw[recB,recB]
 | x::l,ls,ps,hg=>by
  rw[recB]at hg ⊢
  rw[recB]
  by_cases h0:(ev (x.kids.getD 0 .nil) ρ).2=0
  ·rw[if_pos h0]at hg ⊢
   rw[h _ _ (n99 h0),if_pos h0]
   exact JX h ρ l _ _ hg
  ·rw[if_neg h0]at hg ⊢
   rw[h _ _ hg,if_neg h0]
theorem Vs (h:EvLe ev ev')(T:Tree)(ρ:Ev)(hg:(D4 ev T ρ).2≠99):D4 ev' T ρ=D4 ev T ρ:=by
 unfold D4 at hg ⊢
 by_cases h0:(ev (T.kids.getD 1 .nil) ρ).2=0
 ·rw[h _ _ (n99 h0)]
 ·rw[if_neg h0]at hg
  rw[h _ _ hg]
theorem Sv (h:EvLe ev ev')(h2:FoLe fo fo')(T:Tree)(x:Vl)(ρ:Ev)(hg:(useB ev fo T x ρ).2≠99):useB ev' fo' T x ρ=useB ev fo T x ρ:=by
 unfold useB at hg ⊢
 cases x with
 | tru b =>
  dsimp only at hg ⊢
  by_cases hk:T.kind=144
  ·rw[if_pos hk]at hg;rw[if_pos hk,if_pos hk];exact h _ _ hg
  ·rw[if_neg hk,if_neg hk]
 | clo ty b e =>
  dsimp only at hg ⊢
  by_cases hk:T.kind=140∧ty=true
  ·rw[if_pos hk]at hg;rw[if_pos hk,if_pos hk]
   by_cases hc:(AN (AL ρ) (T.kids.getD 1 .nil)).2=0
   ·rw[if_pos hc]at hg;rw[if_pos hc,if_pos hc];exact h _ _ hg
   ·rw[if_neg hc,if_neg hc]
  ·rw[if_neg hk,if_neg hk]
 | pkd c p =>
  dsimp only at hg ⊢
  by_cases hk:T.kind=142
  ·rw[if_pos hk]at hg;rw[if_pos hk,if_pos hk];exact h _ _ hg
  ·rw[if_neg hk,if_neg hk]
 | tag nm s p =>
  dsimp only at hg ⊢
  by_cases hk:T.kind=147
  ·rw[if_pos hk]at hg;rw[if_pos hk,if_pos hk]
   cases ha:armF nm (T.kids.drop 1) with
   | none=>rfl
   | some b=>rw[ha]at hg;exact h _ _ hg
  ·rw[if_neg hk]at hg;rw[if_neg hk,if_neg hk]
   by_cases hk8:T.kind=148
   ·rw[if_pos hk8]at hg;rw[if_pos hk8,if_pos hk8];exact h2 _ _ _ _ _ hg
   ·rw[if_neg hk8,if_neg hk8]
 | _=>rfl
theorem H8 (h:FoLe fo fo')(T:Tree)(ρ:Ev)(c:Tree) :
  (∀x,(unrB fo T ρ c x).2≠99→unrB fo' T ρ c x=unrB fo T ρ c x) ∧
  ∀y∈c.kids,∀x,(unrB fo T ρ y x).2≠99→unrB fo' T ρ y x=unrB fo T ρ y x:=by
 induction c using Tree.ind' with
 | h0=>exact⟨fun x _=>by rw[unrB,unrB],fun x hx=>by cases hx⟩
 | h1 c hc ih =>
  refine⟨fun x hg=>?_,fun y hy=>(ih y hy).1⟩
  cases c with
  | nil=>exact absurd rfl hc
  | node kk n nm mk l =>
   rw[Dk]at hg ⊢
   rw[Dk]
   by_cases hv:kk=110∧n=0
   ·rw[if_pos hv]at hg
    rw[if_pos hv,if_pos hv]
    cases x with
    | tag nm s p=>exact h T nm s p ρ hg
    | _=>rfl
   ·rw[if_neg hv]at hg
    rw[if_neg hv,if_neg hv]
    cases x with
    | rcd ls ps =>
     dsimp only at hg ⊢
     by_cases hl:kk=115∧l.length=ps.length
     ·rw[if_pos hl]at hg
      rw[if_pos hl,if_pos hl]
      have key:∀(l':List Tree),(∀y∈l',∀z∈y.kids,∀x,(unrB fo T ρ z x).2≠99→unrB fo' T ρ z x=unrB fo T ρ z x) →
        ∀(a:List ByteArray) (b:List Vl) (w:Vl) (al:List ByteArray) (o:List Vl),(BG fo T ρ l' a b w al o).2≠99→BG fo' T ρ l' a b w al o=BG fo T ρ l' a b w al o:=by
       intro l'
       induction l' with
       | nil=>intro _ a b w al o _;rw[BG,BG]
       | cons y l' ih2 =>
        intro hy0 a b w al o hg
        rw[BG]at hg ⊢
        rw[BG]
        by_cases hn:y.name=a.getD 0 ByteArray.empty
        ·rw[if_pos hn]at hg
         rw[if_pos hn,if_pos hn]
         rw[DH]at hg ⊢
         rw[DH]
         have hz:∀x,(unrB fo T ρ (y.kids.getD 0 .nil) x).2≠99→unrB fo' T ρ (y.kids.getD 0 .nil) x=unrB fo T ρ (y.kids.getD 0 .nil) x:=by
          cases hk:y.kids with
          | nil=>intro x _;simp only[List.getD_nil];rw[unrB,unrB]
          | cons z zs=>exact hy0 y (by simp) z (by rw[hk];simp)
         by_cases h0:(unrB fo T ρ (y.kids.getD 0 .nil) (b.getD 0 .unt)).2=0
         ·rw[if_pos h0]at hg
          rw[hz _ (n99 h0)]
          rw[if_pos h0,if_pos h0]
          exact ih2 (fun z hz=>hy0 z (by simp[hz])) _ _ _ _ _ hg
         ·rw[if_neg h0]at hg
          rw[hz _ hg,if_neg h0,if_neg h0]
        ·rw[if_neg hn,if_neg hn]
      exact key l (fun y hy z hz=>(ih y hy).2 z hz) _ _ _ _ _ hg
     ·rw[if_neg hl,if_neg hl]
    | _=>rfl
theorem PE (h:FoLe fo fo')(T:Tree)(ρ:Ev):∀(l:List Tree) (a:List ByteArray) (b:List Vl) (w:Vl) (al:List ByteArray) (o:List Vl),(BG fo T ρ l a b w al o).2≠99→BG fo' T ρ l a b w al o=BG fo T ρ l a b w al o
 | [],a,b,w,al,o,_=>by rw[BG,BG]
 | y::l,a,b,w,al,o,hg=>by
  rw[BG]at hg ⊢
  rw[BG]
  by_cases hn:y.name=a.getD 0 ByteArray.empty
  ·rw[if_pos hn]at hg
   rw[if_pos hn,if_pos hn]
   rw[DH]at hg ⊢
   rw[DH]
   by_cases h0:(unrB fo T ρ (y.kids.getD 0 .nil) (b.getD 0 .unt)).2=0
   ·rw[if_pos h0]at hg
    rw[(H8 h T ρ _).1 _ (n99 h0),if_pos h0,if_pos h0]
    exact PE h T ρ l _ _ _ _ _ hg
   ·rw[if_neg h0]at hg
    rw[(H8 h T ρ _).1 _ hg,if_neg h0,if_neg h0]
  ·rw[if_neg hn,if_neg hn]
theorem VO (h1:EvLe ev ev')(h2:FoLe fo fo')(T:Tree)(ρ:Ev)(h:(As ev fo T ρ).2≠99):As ev' fo' T ρ=As ev fo T ρ:=by
 unfold As at h ⊢
 by_cases c0:T.kind=130
 ·rw[if_pos c0,if_pos c0]
 rw[if_neg c0]at h;rw[if_neg c0,if_neg c0]
 by_cases c1:T.kind=131
 ·rw[if_pos c1,if_pos c1]
 rw[if_neg c1]at h;rw[if_neg c1,if_neg c1]
 by_cases c2:T.kind=132
 ·rw[if_pos c2,if_pos c2]
 rw[if_neg c2]at h;rw[if_neg c2,if_neg c2]
 by_cases c3:T.kind=133
 ·rw[if_pos c3,if_pos c3]
 rw[if_neg c3]at h;rw[if_neg c3,if_neg c3]
 by_cases c4:T.kind=134∨T.kind=139
 ·rw[if_pos c4,if_pos c4]
 rw[if_neg c4]at h;rw[if_neg c4,if_neg c4]
 by_cases c5:T.kind=136
 ·rw[if_pos c5]at h;rw[if_pos c5,if_pos c5];exact JX h1 ρ _ _ _ h
 rw[if_neg c5]at h;rw[if_neg c5,if_neg c5]
 by_cases c6:T.kind=146∨T.kind=141
 ·rw[if_pos c6]at h;rw[if_pos c6,if_pos c6];exact Vs h1 T ρ h
 rw[if_neg c6]at h;rw[if_neg c6,if_neg c6]
 by_cases a0:(ev (T.kids.getD 0 .nil) ρ).2=0
 ·rw[if_neg (show ¬(ev (T.kids.getD 0 .nil) ρ).2≠0 from fun q=>q a0)]at h
  rw[h1 _ _ (n99 a0)]
  rw[if_neg (show ¬(ev (T.kids.getD 0 .nil) ρ).2≠0 from fun q=>q a0),if_neg (show ¬(ev (T.kids.getD 0 .nil) ρ).2≠0 from fun q=>q a0)]
  by_cases c7:T.kind=135∨T.kind=145
  ·rw[if_pos c7]at h;rw[if_pos c7,if_pos c7]
   by_cases b0:(ev (T.kids.getD 1 .nil) ρ).2=0
   ·rw[if_neg (show ¬(ev (T.kids.getD 1 .nil) ρ).2≠0 from fun q=>q b0)]at h
    rw[h1 _ _ (n99 b0)]
    rw[if_neg (show ¬(ev (T.kids.getD 1 .nil) ρ).2≠0 from fun q=>q b0),if_neg (show ¬(ev (T.kids.getD 1 .nil) ρ).2≠0 from fun q=>q b0)]
    by_cases c8:T.kind=145
    ·rw[if_pos c8,if_pos c8]
    rw[if_neg c8]at h;rw[if_neg c8,if_neg c8]
    generalize (ev (T.kids.getD 0 .nil) ρ).1=av at h ⊢
    cases av with
    | clo ty body e =>
     cases ty with
     | false=>exact h1 _ _ h
     | true=>rfl
    | _=>rfl
   ·rw[if_pos b0]at h
    rw[h1 _ _ h,if_pos b0,if_pos b0]
  rw[if_neg c7]at h;rw[if_neg c7,if_neg c7]
  by_cases c9:T.kind=143
  ·rw[if_pos c9]at h;rw[if_pos c9,if_pos c9];exact h1 _ _ h
  rw[if_neg c9]at h;rw[if_neg c9,if_neg c9]
  exact Sv h1 h2 T _ ρ h
 ·rw[if_pos a0]at h
  rw[h1 _ _ h,if_pos a0,if_pos a0]
theorem WG (h1:EvLe ev ev')(h2:FoLe fo fo')(T:Tree)(nm:ByteArray)(s:Tree)(p:Vl)(ρ:Ev)(h:(Fa ev fo T nm s p ρ).2≠99):Fa ev' fo' T nm s p ρ=Fa ev fo T nm s p ρ:=by
 unfold Fa at h ⊢
 by_cases n0:(No.Ac s).2=0
 ·rw[if_neg (show ¬(No.Ac s).2≠0 from fun q=>q n0)]at h
  rw[if_neg (show ¬(No.Ac s).2≠0 from fun q=>q n0),if_neg (show ¬(No.Ac s).2≠0 from fun q=>q n0)]
  cases hb1:armF nm (T.kids.drop 2) with
  | none=>rfl
  | some b =>
   rw[hb1]at h
   dsimp only at h ⊢
   by_cases n1:(No.Ac s).1.kind=121
   ·rw[if_neg (show ¬(No.Ac s).1.kind≠121 from fun q=>q n1)]at h
    rw[if_neg (show ¬(No.Ac s).1.kind≠121 from fun q=>q n1),if_neg (show ¬(No.Ac s).1.kind≠121 from fun q=>q n1)]
    cases hc1:armF nm (No.Ac s).1.kids with
    | none=>rfl
    | some c =>
     rw[hc1]at h
     dsimp only at h ⊢
     by_cases y0:(unrB fo T ρ c p).2=0
     ·rw[if_neg (show ¬(unrB fo T ρ c p).2≠0 from fun q=>q y0)]at h
      rw[(H8 h2 T ρ c).1 _ (n99 y0)]
      rw[if_neg (show ¬(unrB fo T ρ c p).2≠0 from fun q=>q y0),if_neg (show ¬(unrB fo T ρ c p).2≠0 from fun q=>q y0)]
      exact h1 _ _ h
     ·rw[if_pos y0]at h
      rw[(H8 h2 T ρ c).1 _ h,if_pos y0,if_pos y0]
   ·rw[if_pos n1,if_pos n1]
 ·rw[if_pos n0,if_pos n0]
end
theorem Ou:∀k,EvLe (bsD k) (bsD (k+1))∧FoLe (foD k) (foD (k+1))
 | 0=>⟨fun T ρ h=>by rw[bsD]at h;exact absurd rfl h,fun T nm s p ρ h=>by rw[foD]at h;exact absurd rfl h⟩
 | k+1=>by
  obtain⟨ih1,ih2⟩:=Ou k
  refine⟨fun T ρ h=>?_,fun T nm s p ρ h=>?_⟩
  ·rw[BH]at h;rw[BH,BH k];exact VO ih1 ih2 T ρ h
  ·rw[IK]at h;rw[IK,IK k];exact WG ih1 ih2 T nm s p ρ h
theorem Eg {k:Nat}{T:Tree}{ρ:Ev}(h:(bsD k T ρ).2≠99):∀d,bsD (k+d) T ρ=bsD k T ρ
 | 0=>rfl
 | d+1=>by
  have:=Eg h d
  rw[←this]
  exact (Ou (k+d)).1 T ρ (by rw[this];exact h)
theorem Wn {k:Nat}{T:Tree}{nm:ByteArray}{s:Tree}{p:Vl}{ρ:Ev}(h:(foD k T nm s p ρ).2≠99):∀d,foD (k+d) T nm s p ρ=foD k T nm s p ρ
 | 0=>rfl
 | d+1=>by
  have:=Wn h d
  rw[←this]
  exact (Ou (k+d)).2 T nm s p ρ (by rw[this];exact h)
theorem JY (k d:Nat):EvLe (bsD k) (bsD (k+d)):=fun T ρ h=>Eg h d
theorem Iv (k d:Nat):FoLe (foD k) (foD (k+d)):=fun T nm s p ρ h=>Wn h d
theorem RW {k k':Nat}{T:Tree}{ρ:Ev}(h:(bsD k T ρ).2≠99)(h':(bsD k' T ρ).2≠99):bsD k T ρ=bsD k' T ρ:=by
 rcases Nat.le_total k k' with q|q
 ·obtain⟨d,rfl⟩:=Nat.exists_eq_add_of_le q;exact (Eg h d).symm
 ·obtain⟨d,rfl⟩:=Nat.exists_eq_add_of_le q;exact Eg h' d
end Mc
end Go.Proofs.YtlgajkoplklkiaaGreat
namespace Go.Proofs.YtlgajkoplklkiaaGreat
namespace Cn
open Go
inductive Cn where
 | var (n:Nat)
 | op (k:Int) (nm:ByteArray) (l:List Cn)
instance:Inhabited Cn:=⟨.var 0⟩
theorem Cn.ind {p:Cn→Prop}(hv:∀n,p (.var n))(ho:∀k nm l,(∀x∈l,p x)→p (.op k nm l))(c:Cn):p c :=
 Cn.rec (motive_1:=p) (motive_2:=fun l=>∀x∈l,p x) hv (fun k nm l h=>ho k nm l h) (fun x hx=>by cases hx) (fun a l ha hl x hx=>by rcases List.mem_cons.1 hx with rfl|hx;exact ha;exact hl x hx) c
def bd (k:Int):Nat:=if k=117∨k=118∨k=119∨k=121 then 1 else 0
def upr (r:Nat→Nat):Nat→Nat
 | 0=>0
 | n+1=>r n+1
def uprN:Nat→(Nat→Nat)→Nat→Nat
 | 0,r=>r
 | d+1,r=>uprN d (upr r)
mutual
def ren (r:Nat→Nat):Cn→Cn
 | .var n=>.var (r n)
 | .op k nm l=>.op k nm (renL (uprN (bd k) r) l)
def renL (r:Nat→Nat):List Cn→List Cn
 | []=>[]
 | x::l=>ren r x::renL r l
end
theorem HM (r:Nat→Nat):∀l,renL r l=l.map (ren r)
 | []=>by rw[renL];rfl
 | x::l=>by rw[renL,HM r l];rfl
theorem B9 (r:Nat→Nat)(k:Int)(nm:ByteArray)(l:List Cn):ren r (.op k nm l)=.op k nm (l.map (ren (uprN (bd k) r))):=by rw[ren,HM]
def up (s:Nat→Cn):Nat→Cn
 | 0=>.var 0
 | n+1=>ren Nat.succ (s n)
def upN:Nat→(Nat→Cn)→Nat→Cn
 | 0,s=>s
 | d+1,s=>upN d (up s)
mutual
def sub (s:Nat→Cn):Cn→Cn
 | .var n=>s n
 | .op k nm l=>.op k nm (subL (upN (bd k) s) l)
def subL (s:Nat→Cn):List Cn→List Cn
 | []=>[]
 | x::l=>sub s x::subL s l
end
theorem QB (s:Nat→Cn):∀l,subL s l=l.map (sub s)
 | []=>by rw[subL];rfl
 | x::l=>by rw[subL,QB s l];rfl
theorem BE (s:Nat→Cn)(k:Int)(nm:ByteArray)(l:List Cn):sub s (.op k nm l)=.op k nm (l.map (sub (upN (bd k) s))):=by rw[sub,QB]
theorem CK (s:Nat→Cn)(n:Nat):sub s (.var n)=s n:=by rw[sub]
theorem Cy (r:Nat→Nat)(n:Nat):ren r (.var n)=.var (r n):=by rw[ren]
theorem Xd {a b:Nat→Nat}(h:∀n,a n=b n):∀n,upr a n=upr b n
 | 0=>rfl
 | n+1=>by show a n+1=b n+1;rw[h]
theorem MN {a b:Nat→Nat}(h:∀n,a n=b n):∀d n,uprN d a n=uprN d b n
 | 0,n=>h n
 | d+1,n=>MN (Xd h) d n
theorem Zi {a b:Nat→Cn}(h:∀n,a n=b n):∀n,up a n=up b n
 | 0=>rfl
 | n+1=>by show ren _ (a n)=ren _ (b n);rw[h]
theorem GM {a b:Nat→Cn}(h:∀n,a n=b n):∀d n,upN d a n=upN d b n
 | 0,n=>h n
 | d+1,n=>GM (Zi h) d n
theorem EP (c:Cn):∀{a b:Nat→Nat},(∀n,a n=b n)→ren a c=ren b c:=by
 induction c using Cn.ind with
 | hv n=>intro a b h;rw[ren,ren,h]
 | ho k nm l ih =>
  intro a b h
  rw[B9,B9]
  congr 1
  exact List.map_congr_left fun x hx=>ih x hx (MN h _)
theorem Bl (c:Cn):∀{a b:Nat→Cn},(∀n,a n=b n)→sub a c=sub b c:=by
 induction c using Cn.ind with
 | hv n=>intro a b h;rw[sub,sub,h]
 | ho k nm l ih =>
  intro a b h
  rw[BE,BE]
  congr 1
  exact List.map_congr_left fun x hx=>ih x hx (GM h _)
theorem Xs (a b:Nat→Nat):∀n,upr a (upr b n)=upr (fun n=>a (b n)) n
 | 0=>rfl
 | n+1=>rfl
theorem Np (a b:Nat→Nat):∀d n,uprN d a (uprN d b n)=uprN d (fun n=>a (b n)) n
 | 0,n=>rfl
 | d+1,n=>by
  show uprN d (upr a) (uprN d (upr b) n)=uprN d (upr fun n=>a (b n)) n
  rw[Np (upr a) (upr b) d n]
  exact MN (Xs a b) d n
theorem JZ (c:Cn):∀(a b:Nat→Nat),ren a (ren b c)=ren (fun n=>a (b n)) c:=by
 induction c using Cn.ind with
 | hv n=>intro a b;rw[ren,ren,ren]
 | ho k nm l ih =>
  intro a b
  rw[B9,B9,B9,List.map_map]
  congr 1
  refine List.map_congr_left fun x hx=>?_
  show ren _ (ren _ x)=_
  rw[ih x hx]
  exact EP x (Np a b _)
theorem aH (s:Nat→Cn)(r:Nat→Nat):∀n,up s (upr r n)=up (fun n=>s (r n)) n
 | 0=>rfl
 | n+1=>rfl
theorem Pn (s:Nat→Cn)(r:Nat→Nat):∀d n,upN d s (uprN d r n)=upN d (fun n=>s (r n)) n
 | 0,n=>rfl
 | d+1,n=>by
  show upN d (up s) (uprN d (upr r) n)=upN d (up fun n=>s (r n)) n
  rw[Pn (up s) (upr r) d n]
  exact GM (aH s r) d n
theorem G7 (c:Cn):∀(s:Nat→Cn) (r:Nat→Nat),sub s (ren r c)=sub (fun n=>s (r n)) c:=by
 induction c using Cn.ind with
 | hv n=>intro s r;rw[ren,sub,sub]
 | ho k nm l ih =>
  intro s r
  rw[B9,BE,BE,List.map_map]
  congr 1
  refine List.map_congr_left fun x hx=>?_
  show sub _ (ren _ x)=_
  rw[ih x hx]
  exact Bl x (Pn s r _)
theorem ZM (r:Nat→Nat)(s:Nat→Cn):∀n,ren (upr r) (up s n)=up (fun n=>ren r (s n)) n
 | 0=>by show ren _ (.var 0)=.var 0;rw[ren];rfl
 | n+1=>by
  show ren (upr r) (ren Nat.succ (s n))=ren Nat.succ (ren r (s n))
  rw[JZ,JZ]
  exact EP _ fun n=>rfl
theorem PQ (r:Nat→Nat)(s:Nat→Cn):∀d n,ren (uprN d r) (upN d s n)=upN d (fun n=>ren r (s n)) n
 | 0,n=>rfl
 | d+1,n=>by
  show ren (uprN d (upr r)) (upN d (up s) n)=upN d (up fun n=>ren r (s n)) n
  rw[PQ (upr r) (up s) d n]
  exact GM (ZM r s) d n
theorem Ks (c:Cn):∀(r:Nat→Nat) (s:Nat→Cn),ren r (sub s c)=sub (fun n=>ren r (s n)) c:=by
 induction c using Cn.ind with
 | hv n=>intro r s;rw[sub,sub]
 | ho k nm l ih =>
  intro r s
  rw[BE,B9,BE,List.map_map]
  congr 1
  refine List.map_congr_left fun x hx=>?_
  show ren _ (sub _ x)=_
  rw[ih x hx]
  exact Bl x (PQ r s _)
theorem aq (a b:Nat→Cn):∀n,sub (up a) (up b n)=up (fun n=>sub a (b n)) n
 | 0=>by show sub _ (.var 0)=.var 0;rw[sub];rfl
 | n+1=>by
  show sub (up a) (ren Nat.succ (b n))=ren Nat.succ (sub a (b n))
  rw[G7,Ks]
  exact Bl _ fun n=>rfl
theorem Nw (a b:Nat→Cn):∀d n,sub (upN d a) (upN d b n)=upN d (fun n=>sub a (b n)) n
 | 0,n=>rfl
 | d+1,n=>by
  show sub (upN d (up a)) (upN d (up b) n)=upN d (up fun n=>sub a (b n)) n
  rw[Nw (up a) (up b) d n]
  exact GM (aq a b) d n
theorem sub_sub (c:Cn):∀(a b:Nat→Cn),sub a (sub b c)=sub (fun n=>sub a (b n)) c:=by
 induction c using Cn.ind with
 | hv n=>intro a b;rw[sub,sub]
 | ho k nm l ih =>
  intro a b
  rw[BE,BE,BE,List.map_map]
  congr 1
  refine List.map_congr_left fun x hx=>?_
  show sub _ (sub _ x)=_
  rw[ih x hx]
  exact Bl x (Nw a b _)
theorem b8:∀n,up Cn.var n=Cn.var n
 | 0=>rfl
 | n+1=>by show ren _ (.var n)=_;rw[ren]
theorem OK:∀d n,upN d Cn.var n=Cn.var n
 | 0,n=>rfl
 | d+1,n=>by
  show upN d (up Cn.var) n=_
  rw[GM b8 d n,OK d n]
theorem E9 (c:Cn):sub Cn.var c=c:=by
 induction c using Cn.ind with
 | hv n=>rw[sub]
 | ho k nm l ih =>
  rw[BE]
  congr 1
  conv=>rhs;rw[←List.map_id l]
  refine List.map_congr_left fun x hx=>?_
  rw[Bl x (OK _),ih x hx];rfl
theorem FG (c:Cn)(r:Nat→Nat):ren r c=sub (fun n=>.var (r n)) c:=by
 have:=Ks c r Cn.var
 rw[E9]at this
 rw[this]
 exact Bl c fun n=>by rw[ren]
def s0 (a:Cn):Nat→Cn
 | 0=>a
 | n+1=>.var n
def inst (b a:Cn):Cn:=sub (s0 a) b
theorem Im (b a:Cn):inst (ren Nat.succ b) a=b:=by
 unfold inst
 rw[G7]
 conv=>rhs;rw[←E9 b]
 exact Bl b fun n=>rfl
theorem GG (s:Nat→Cn)(b a:Cn):sub s (inst b a)=inst (sub (up s) b) (sub s a):=by
 unfold inst
 rw[sub_sub,sub_sub]
 refine Bl b fun n=>?_
 cases n with
 | zero=>show sub s a=sub _ (.var 0);rw[sub];rfl
 | succ n =>
  show sub s (.var n)=sub (s0 (sub s a)) (ren Nat.succ (s n))
  rw[sub,G7]
  conv=>lhs;rw[←E9 (s n)]
  exact Bl _ fun n=>rfl
theorem Pd (r:Nat→Nat)(b a:Cn):ren r (inst b a)=inst (ren (upr r) b) (ren r a):=by
 unfold inst
 rw[Ks,G7]
 refine Bl b fun n=>?_
 cases n with
 | zero=>rfl
 | succ n=>show ren r (.var n)=.var (r n);rw[ren]
inductive Par:Cn→Cn→Prop
 | var (n:Nat):Par (.var n) (.var n)
 | op {k:Int} {nm:ByteArray} {l l':List Cn} (hl:l'.length=l.length) (h:∀i (h1:i < l.length) (h2:i < l'.length),Par l[i] l'[i]):Par (.op k nm l) (.op k nm l')
 | beta {nm nm':ByteArray} {K B A B' A':Cn} (hB:Par B B') (hA:Par A A'):Par (.op 120 nm [.op 119 nm' [K,B],A]) (inst B' A')
theorem Par.refl (c:Cn):Par c c:=by
 induction c using Cn.ind with
 | hv n=>exact .var n
 | ho k nm l ih=>exact .op rfl fun i h1 h2=>ih _ (List.getElem_mem h1)
theorem Qz:bd 120=0:=by unfold bd;rw[if_neg (by decide)]
theorem Le:bd 119=1:=by unfold bd;rw[if_pos (by decide)]
theorem Par.ren {c d:Cn}(h:Par c d):∀r:Nat→Nat,Par (ren r c) (ren r d):=by
 induction h with
 | var n=>intro r;exact .refl _
 | @op k nm l l' hl h ih =>
  intro r
  rw[B9,B9]
  refine .op (by simpa using hl) fun i h1 h2=>?_
  simp only[List.getElem_map]
  exact ih i (by simpa using h1) (by simpa using h2) _
 | @beta nm nm' K B A B' A' hB hA ihB ihA =>
  intro r
  rw[B9,Pd]
  simp only[List.map_cons,List.map_nil]
  rw[B9]
  simp only[List.map_cons,List.map_nil,Qz,Le]
  exact .beta (ihB _) (ihA _)
theorem Par.up {a b:Nat→Cn}(h:∀n,Par (a n) (b n)):∀n,Par (up a n) (up b n)
 | 0=>.refl _
 | n+1=>(h n).ren _
theorem Par.upN:∀(d:Nat) {a b:Nat→Cn} (h:∀n,Par (a n) (b n)) (n:Nat),Par (upN d a n) (upN d b n)
 | 0,_,_,h,n=>h n
 | d+1,_,_,h,n=>Par.upN d (Par.up h) n
theorem Par.sub {c d:Cn}(h:Par c d):∀{a b:Nat→Cn},(∀n,Par (a n) (b n))→Par (sub a c) (sub b d):=by
 induction h with
 | var n=>intro a b hs;rw[CK,CK];exact hs n
 | @op k nm l l' hl h ih =>
  intro a b hs
  rw[BE,BE]
  refine .op (by simpa using hl) fun i h1 h2=>?_
  simp only[List.getElem_map]
  exact ih i (by simpa using h1) (by simpa using h2) (Par.upN _ hs)
 | @beta nm nm' K B A B' A' hB hA ihB ihA =>
  intro a b hs
  rw[BE,GG]
  simp only[List.map_cons,List.map_nil]
  rw[BE]
  simp only[List.map_cons,List.map_nil,Qz,Le]
  exact .beta (ihB (Par.up hs)) (ihA hs)
theorem Par.inst {B B' A A':Cn}(hB:Par B B')(hA:Par A A'):Par (inst B A) (inst B' A') :=
 hB.sub fun n=>by cases n with
  | zero=>exact hA
  | succ n=>exact .refl _
inductive Dev:Cn→Cn→Prop
 | var (n:Nat):Dev (.var n) (.var n)
 | op {k:Int} {nm:ByteArray} {l l':List Cn} (hr:¬∃nm' K B A,k=120∧l=[.op 119 nm' [K,B],A]) (hl:l'.length=l.length) (h:∀i (h1:i < l.length) (h2:i < l'.length),Dev l[i] l'[i]):Dev (.op k nm l) (.op k nm l')
 | beta {nm nm':ByteArray} {K B A B' A':Cn} (hB:Dev B B') (hA:Dev A A'):Dev (.op 120 nm [.op 119 nm' [K,B],A]) (inst B' A')
theorem devL {l:List Cn}(h:∀x∈l,∃d,Dev x d):∃l':List Cn,l'.length=l.length∧∀i (h1:i < l.length) (h2:i < l'.length),Dev l[i] l'[i]:=by
 induction l with
 | nil=>exact⟨[],rfl,fun i h1=>by simp at h1⟩
 | cons x l ih =>
  obtain⟨d,hd⟩:=h x (by simp)
  obtain⟨l',h1,h2⟩:=ih fun y hy=>h y (by simp[hy])
  refine⟨d::l',by simp[h1],fun i g1 g2=>?_⟩
  cases i with
  | zero=>exact hd
  | succ i=>exact h2 i (by simpa using g1) (by simpa using g2)
mutual
def szC:Cn→Nat
 | .var _=>1
 | .op _ _ l=>szL l+1
def szL:List Cn→Nat
 | []=>0
 | x::l=>szC x+szL l
end
theorem UX (k:Int)(nm:ByteArray)(l:List Cn):szC (.op k nm l)=szL l+1:=by rw[szC]
theorem Sq {x:Cn}:∀{l:List Cn},x∈l→szC x≤szL l
 | [],h=>by cases h
 | y::l,h=>by
  rw[szL]
  rcases List.mem_cons.1 h with rfl|h
  ·omega
  ·have:=Sq h;omega
theorem Su {x:Cn}{k:Int}{nm:ByteArray}{l:List Cn}(h:x∈l):szC x < szC (.op k nm l):=by
 rw[UX];have:=Sq h;omega
theorem Nv:∀(n:Nat) (c:Cn),szC c≤n→∃d,Dev c d
 | 0,c,h=>by
  cases c with
  | var n=>exact⟨_,.var n⟩
  | op k nm l=>rw[UX]at h;omega
 | n+1,c,h=>by
  cases c with
  | var m=>exact⟨_,.var m⟩
  | op k nm l =>
   have hk:∀x∈l,szC x≤n:=fun x hx=>by have:=Su (k:=k) (nm:=nm) hx;omega
   by_cases hr:∃nm' K B A,k=120∧l=[.op 119 nm' [K,B],A]
   ·obtain⟨nm',K,B,A,rfl,rfl⟩:=hr
    have h1:=hk (.op 119 nm' [K,B]) (by simp)
    have h2:=Su (x:=B) (k:=119) (nm:=nm') (l:=[K,B]) (by simp)
    obtain⟨B',hB⟩:=Nv n B (by omega)
    obtain⟨A',hA⟩:=Nv n A (hk A (by simp))
    exact⟨_,.beta hB hA⟩
   ·obtain⟨l',h1,h2⟩:=devL fun x hx=>Nv n x (hk x hx)
    exact⟨_,.op hr h1 h2⟩
theorem SE {nm':ByteArray}{K B x:Cn}(h:Par (.op 119 nm' [K,B]) x):∃K' B',x=.op 119 nm' [K',B']∧Par B B':=by
 cases h with
 | @op _ _ _ l' hl h =>
  match l',hl with
  | [K',B'],_=>exact⟨K',B',rfl,h 1 (by simp) (by simp)⟩
theorem SD {t d:Cn}(hd:Dev t d):∀{u:Cn},Par t u→Par u d:=by
 induction hd with
 | var n=>intro u hp;cases hp;exact .var n
 | @op k nm l l' hr hl h ih =>
  intro u hp
  cases hp with
  | @op _ _ _ l2 hl2 h2 =>
   refine .op (by omega) fun i h1 h3=>?_
   exact ih i (by omega) h3 (h2 i (by omega) h1)
  | beta hB hA=>exact absurd ⟨_,_,_,_,rfl,rfl⟩ hr
 | @beta nm nm' K B A B' A' hB hA ihB ihA =>
  intro u hp
  cases hp with
  | @op _ _ _ l2 hl2 h2 =>
   match l2,hl2 with
   | [x,A2],_ =>
    have hx:=h2 0 (by simp) (by simp)
    have hA2:=h2 1 (by simp) (by simp)
    obtain⟨K',B2,rfl,hB2⟩:=SE hx
    exact .beta (ihB hB2) (ihA hA2)
  | beta hB2 hA2=>exact (ihB hB2).inst (ihA hA2)
inductive Red:Cn→Cn→Prop
 | refl (c:Cn):Red c c
 | step {a b c:Cn} (h:Par a b) (r:Red b c):Red a c
theorem Red.trans {a b c:Cn}(h:Red a b)(h2:Red b c):Red a c:=by
 induction h with
 | refl=>exact h2
 | step h _ ih=>exact .step h (ih h2)
theorem XA {a b c:Cn}(h1:Par a b)(h2:Par a c):∃d,Par b d∧Par c d:=by
 obtain⟨d,hd⟩:=Nv (szC a) a (Nat.le_refl _)
 exact⟨d,SD hd h1,SD hd h2⟩
theorem strip {a b c:Cn}(h1:Par a b)(h2:Red a c):∃d,Red b d∧Par c d:=by
 induction h2 generalizing b with
 | refl=>exact⟨b,.refl _,h1⟩
 | step h _ ih =>
  obtain⟨d,g1,g2⟩:=XA h1 h
  obtain⟨e,q1,q2⟩:=ih g2
  exact⟨e,.step g1 q1,q2⟩
theorem cC {a b c:Cn}(h1:Red a b)(h2:Red a c):∃d,Red b d∧Red c d:=by
 induction h1 generalizing c with
 | refl=>exact⟨c,h2,.refl _⟩
 | step h _ ih =>
  obtain⟨d,g1,g2⟩:=strip h h2
  obtain⟨e,q1,q2⟩:=ih g1
  exact⟨e,q1,.step g2 q2⟩
def Eqv (a b:Cn):Prop:=∃c,Red a c∧Red b c
theorem Eqv.refl (a:Cn):Eqv a a:=⟨a,.refl _,.refl _⟩
theorem Eqv.symm {a b:Cn}(h:Eqv a b):Eqv b a:=by obtain⟨c,h1,h2⟩:=h;exact⟨c,h2,h1⟩
theorem Eqv.trans {a b c:Cn}(h:Eqv a b)(h2:Eqv b c):Eqv a c:=by
 obtain⟨d,h1,h3⟩:=h
 obtain⟨e,h4,h5⟩:=h2
 obtain⟨f,g1,g2⟩:=cC h3 h4
 exact⟨f,h1.trans g1,h5.trans g2⟩
theorem Red.eqv {a b:Cn}(h:Red a b):Eqv a b:=⟨b,h,.refl _⟩
theorem Red.sub {c d:Cn}(h:Red c d)(s:Nat→Cn):Red (sub s c) (sub s d):=by
 induction h with
 | refl=>exact .refl _
 | step h _ ih=>exact .step (h.sub fun n=>.refl _) ih
theorem Eqv.sub {c d:Cn}(h:Eqv c d)(s:Nat→Cn):Eqv (sub s c) (sub s d):=by
 obtain⟨e,h1,h2⟩:=h
 exact⟨_,h1.sub s,h2.sub s⟩
theorem Q5 {k:Int}{nm:ByteArray}{l:List Cn}{x:Cn}(hk:k≠120)(h:Red (.op k nm l) x):∃l',x=.op k nm l'∧l'.length=l.length∧∀i (h1:i < l.length) (h2:i < l'.length),Red l[i] l'[i]:=by
 generalize ha:Cn.op k nm l=a at h
 induction h generalizing l with
 | refl=>subst ha;exact⟨l,rfl,rfl,fun i h1 h2=>.refl _⟩
 | step h _ ih =>
  subst ha
  cases h with
  | @op _ _ _ l2 hl h =>
   obtain⟨l3,e,h3,h4⟩:=ih rfl
   exact⟨l3,e,by omega,fun i h1 h2=>.step (h i h1 (by omega)) (h4 i (by omega) h2)⟩
  | beta=>exact absurd rfl hk
theorem IT {k k':Int}{nm nm':ByteArray}{l l':List Cn}(hk:k≠120)(hk':k'≠120)(h:Eqv (.op k nm l) (.op k' nm' l')):k=k'∧nm=nm'∧l'.length=l.length∧∀i (h1:i < l.length) (h2:i < l'.length),Eqv l[i] l'[i]:=by
 obtain⟨c,h1,h2⟩:=h
 obtain⟨a,e1,e2,e3⟩:=Q5 hk h1
 obtain⟨b,f1,f2,f3⟩:=Q5 hk' h2
 rw[e1]at f1
 cases f1
 exact⟨rfl,rfl,by omega,fun i g1 g2=>⟨_,e3 i g1 (by omega),f3 i g2 (by omega)⟩⟩
end Cn
end Go.Proofs.YtlgajkoplklkiaaGreat
namespace Go.Proofs.YtlgajkoplklkiaaGreat
namespace Ki
open Go Go.Mq
theorem UI {f g:Tree×Int}(h0:(appR f g).2=0):f.2=0∧g.2=0:=by
 unfold appR at h0
 by_cases hf:f.2=0
 ·rw[ifn]at h0
  by_cases hg:g.2=0
  ·exact⟨hf,hg⟩
  ·rw[if_pos hg]at h0;exact absurd h0 hg
 ·rw[if_pos hf]at h0;exact absurd h0 hf
def lamK (K N:Tree):Tree:=.node 119 0 ByteArray.empty ByteArray.empty [K,N]
def appK (K N B:Tree):Tree:=.node 120 0 ByteArray.empty ByteArray.empty [lamK K N,B]
def WC (M:List Tree)(d:Int)(Γ Γ':List Tree):Prop:=∃Δ Γ0:List Tree,Γ=Δ++Γ0∧Γ'=Δ++(M++Γ0)∧d=Δ.length
theorem NF {N B s:Tree}{i:Int}(h:Ax N i B=(s,0)):conE N=0∧conE B=0∧0≤i∧BM i B N 0=some s:=by
 rw[D5]at h
 unfold Et at h
 by_cases h1:conE N=0
 ·rw[if_pos h1]at h
  by_cases h2:conE B=0
  ·rw[if_pos h2]at h
   split at h
   ·exact absurd (Prod.mk.inj h).2 (by decide)
   split at h
   ·exact absurd (Prod.mk.inj h).2 (by decide)
   split at h
   ·rename_i hi _ hs
    have:=(Prod.mk.inj h).1
    refine⟨h1,h2,by omega,?_⟩
    cases hr:BM i B N 0 with
    | none=>rw[hr]at hs;cases hs
    | some z=>rw[hr]at this;rw[←this];rfl
   ·exact absurd (Prod.mk.inj h).2 (by decide)
  ·rw[if_neg h2]at h;exact absurd (Prod.mk.inj h).2 h2
 ·rw[if_neg h1]at h;exact absurd (Prod.mk.inj h).2 h1
theorem Nc:∀{l l':List Tree} {e:Int},No.Bj l=some (l',e)→∃(i:Nat) (x':Tree),i < l.length∧No.Cc (l.getD i .nil)=some (x',e)∧l'=l.set i x'
 | [],l',e,h=>by rw[No.Bj]at h;cases h
 | x::l,l',e,h=>by
  rw[No.Bj]at h
  cases hx:No.Cc x with
  | some p =>
   rw[hx]at h
   cases h
   exact⟨0,p.1,by simp,by rw[List.getD_cons_zero,hx],rfl⟩
  | none =>
   rw[hx]at h
   cases hr:No.Bj l with
   | none=>rw[hr]at h;cases h
   | some q =>
    rw[hr]at h
    cases h
    obtain⟨i,x',h1,h2,h3⟩:=Nc hr
    exact⟨i+1,x',by simpa using h1,by rw[List.getD_cons_succ];exact h2,by rw[List.set_cons_succ,←h3]⟩
theorem G4 {l:List Tree}{i j:Nat}{x:Tree}:(l.set i x).getD j .nil=if i=j∧j < l.length then x else l.getD j .nil:=by
 simp only[List.getD_eq_getElem?_getD,List.getElem?_set]
 by_cases h:i=j
 ·subst h
  by_cases h2:i < l.length
  ·simp[h2]
  ·simp[h2,List.getElem?_eq_none (show l.length≤i by omega)]
 ·simp[h]
end Ki
end Go.Proofs.YtlgajkoplklkiaaGreat
namespace Go.Proofs.YtlgajkoplklkiaaGreat
namespace Cn
open Go Go.Mq
mutual
def toC:Tree→Cn
 | .nil=>.var 0
 | .node k n nm mk l=>if k=110 then .var n.toNat else .op k nm (toCs l)
def toCs:List Tree→List Cn
 | []=>[]
 | x::l=>toC x::toCs l
end
theorem F3:∀l,toCs l=l.map toC
 | []=>by rw[toCs];rfl
 | x::l=>by rw[toCs,F3 l];rfl
theorem V7 {T:Tree}(h:T≠.nil):toC T=if T.kind=110 then .var T.n.toNat else .op T.kind T.name (T.kids.map toC):=by
 cases T with
 | nil=>exact absurd rfl h
 | node k n nm mk l=>rw[toC,F3];rfl
theorem DA {T:Tree}(h:T≠.nil)(hk:T.kind=110):toC T=.var T.n.toNat:=by rw[V7 h,if_pos hk]
theorem BL {T:Tree}(h:T≠.nil)(hk:T.kind≠110):toC T=.op T.kind T.name (T.kids.map toC):=by rw[V7 h,if_neg hk]
theorem GL (T:Tree):AS T=(bd T.kind:Int):=by
 unfold AS bd
 by_cases h1:T.kind=117
 ·rw[if_pos h1,if_pos (.inl h1)];rfl
 rw[if_neg h1]
 by_cases h2:T.kind=118
 ·rw[if_pos h2,if_pos (.inr (.inl h2))];rfl
 rw[if_neg h2]
 by_cases h3:T.kind=119
 ·rw[if_pos h3,if_pos (.inr (.inr (.inl h3)))];rfl
 rw[if_neg h3]
 by_cases h4:T.kind=121
 ·rw[if_pos h4,if_pos (.inr (.inr (.inr h4)))];rfl
 rw[if_neg h4,if_neg (by rintro (h|h|h|h)<;>contradiction)];rfl
theorem IV (k:Int):bd k=0∨bd k=1:=by unfold bd;split<;>simp
theorem Lo {l l':List Tree}{f:Cn→Cn}(hl:l'.length=l.length)(h:∀i,i < l.length→toC (l'.getD i .nil)=f (toC (l.getD i .nil))):l'.map toC=(l.map toC).map f:=by
 apply List.ext_getElem
 ·simp[hl]
 ·intro i h1 h2
  have hi:i < l.length:=by simpa using h2
  have hi':i < l'.length:=by omega
  have:=h i hi
  simpa [List.getD_eq_getElem?_getD,hi,hi'] using this
def shAt (m d:Nat):Nat→Nat:=fun n=>if n < d then n else n+m
theorem UW (m d:Nat):∀n,upr (shAt m d) n=shAt m (d+1) n
 | 0=>by unfold shAt;rw[ifp];rfl
 | n+1=>by
  show shAt m d n+1=_
  unfold shAt
  by_cases h:n < d
  ·rw[if_pos h,ifp]
  ·rw[if_neg h,ifn];omega
theorem NM (m d k:Nat)(hk:k=0∨k=1)(n:Nat):uprN k (shAt m d) n=shAt m (d+k) n:=by
 rcases hk with rfl|rfl
 ·rfl
 ·exact UW m d n
theorem QJ (m:Nat)(T:Tree):∀(d:Nat) (y:Tree),Plain T→(d:Int)+AD T≤lim→vmap (fM m 0) T d=some y→toC y=ren (shAt m d) (toC T):=by
 induction T using Tree.ind' with
 | h0=>intro d y hp;cases hp
 | h1 T hT ih =>
  intro d y hp hd h
  obtain⟨v1,v2,v3,v4,v5,v6⟩:=I4 h
  have hs:=AI hT
  by_cases hk:T.kind=110
  ·have v6:=(v6 hk).1
   have hn:0≤T.n:=by
    cases T with
    | nil=>exact absurd rfl hT
    | node k n nm mk l=>exact ((hp.inv.2.1 hk).2.2).1
   rw[DA v1 (by rw[v2];exact hk),DA hT hk,Cy]
   congr 1
   unfold fM at v6
   unfold shAt
   by_cases c:(d:Int)≤T.n
   ·rw[if_pos ⟨c,by omega⟩]at v6
    split at v6
    ·cases v6
    ·have:=Option.some.inj v6
     rw[ifn];omega
   ·rw[ifn]at v6
    have:=Option.some.inj v6
    rw[ifp];omega
  ·obtain⟨_,v5⟩:=v5 hk
   obtain⟨u1,u2⟩:=Fz v5
   rw[BL v1 (by rw[v2];exact hk),BL hT hk,B9,v2,v3]
   congr 1
   refine Lo u1 fun i hi=>?_
   have hm:=AA hi
   have s1:=AH hm
   have hb:=GL T
   have hb1:=IV T.kind
   have:=ih _ hm (d+bd T.kind) _ (Ex.B4 hp _ hm) (by omega) (by have:=u2 i hi;rwa [hb]at this)
   rw[this]
   exact EP _ fun n=>(NM m d _ hb1 n).symm
def sAt (i d:Nat)(b:Cn):Nat→Cn:=fun n=>if n < d then .var n else if n - d < i then .var n else if n - d=i then ren (fun n=>n+d) b else .var (n - 1)
theorem aF (i d:Nat)(b:Cn):∀n,up (sAt i d b) n=sAt i (d+1) b n
 | 0=>by unfold sAt;rw[ifp];rfl
 | n+1=>by
  show ren Nat.succ (sAt i d b n)=_
  unfold sAt
  by_cases h1:n < d
  ·rw[if_pos h1,ifp,Cy]
  rw[if_neg h1,if_neg (show ¬n+1 < d+1 by omega)]
  by_cases h2:n - d < i
  ·rw[if_pos h2,ifp,Cy]
  rw[if_neg h2,if_neg (show ¬n+1 - (d+1) < i by omega)]
  by_cases h3:n - d=i
  ·rw[if_pos h3,ifp,JZ]
   exact EP b fun m=>by show m+d+1=m+(d+1);omega
  ·rw[if_neg h3,ifn,Cy]
   congr 1
   show n - 1+1=n+1 - 1
   omega
theorem YE (i d:Nat)(b:Cn)(k:Nat)(hk:k=0∨k=1)(n:Nat):upN k (sAt i d b) n=sAt i (d+k) b n:=by
 rcases hk with rfl|rfl
 ·rfl
 ·exact aF i d b n
theorem Vc {D:Int}{s T y:Tree}{d:Int}(hp:Plain T)(hk:T.kind=110)(hd:0≤d∧d≤lim)(h:BM D s T d=some y) :
  (d≤T.n∧T.n - d=D∧Bb d 0 s 0=some y)∨(d≤T.n∧D < T.n - d∧y≠.nil∧y.kind=110∧y.n=T.n - 1)∨(¬(d≤T.n∧D≤T.n - d)∧y=T):=by
 cases T with
 | nil=>cases hp
 | node k n nm mk l =>
  have hlim:lim=1099511627776:=rfl
  obtain⟨q1,q2,_⟩:=hp.inv
  have hk:k=110:=hk
  obtain⟨rfl,rfl,q3,q4⟩:=q2 hk
  subst q1 hk
  have hw:d≤n→IntKind.i64.wrap (n - d)=n - d:=fun _=>by rw[wrap64]<;>omega
  rw[BM]at h
  show (d≤n∧n - d=D∧_)∨(d≤n∧D < n - d∧_∧_∧y.n=n - 1)∨(¬(d≤n∧D≤n - d)∧_)
  by_cases c1:pHit D (.node 110 n ByteArray.empty ByteArray.empty []) d
  ·rw[if_pos c1]at h
   obtain⟨_,e1,e2⟩:=c1
   have e1:d≤n:=e1
   have e2:IntKind.i64.wrap (n - d)=D:=e2
   rw[hw e1]at e2
   exact .inl ⟨e1,e2,h⟩
  ·rw[if_neg c1]at h
   by_cases c2:IY D (.node 110 n ByteArray.empty ByteArray.empty []) d
   ·rw[if_pos c2]at h
    obtain⟨_,e1,e2⟩:=c2
    have e1:d≤n:=e1
    have e2:D < IntKind.i64.wrap (n - d):=e2
    rw[hw e1]at e2
    rw[BD]at h
    cases h
    refine .inr (.inl ⟨e1,e2,by simp,rfl,?_⟩)
    show IntKind.i64.wrap (n - 1)=n - 1
    rw[wrap64]<;>omega
   ·rw[if_neg c2,BD]at h
    cases h
    refine .inr (.inr ⟨fun⟨e1,e2⟩=>?_,rfl⟩)
    by_cases e3:n - d=D
    ·exact c1 ⟨rfl,e1,by show IntKind.i64.wrap (n - d)=D;rw[hw e1];exact e3⟩
    ·exact c2 ⟨rfl,e1,by show D < IntKind.i64.wrap (n - d);rw[hw e1];omega⟩
theorem OR (b:Cn):ren (fun n=>n+0) b=b:=by
 rw[FG]
 conv=>rhs;rw[←E9 b]
 exact Bl b fun n=>rfl
theorem J2 (m:Nat)(n:Nat):shAt m 0 n=n+m:=by unfold shAt;rw[ifn]
theorem R9 (i:Nat)(hi:i≤65536)(B:Tree)(hB:Plain B)(hz:AD B≤65536)(T:Tree):∀(d:Nat) (y:Tree),Plain T→(d:Int)+AD T≤549755813888→BM i B T d=some y→toC y=sub (sAt i d (toC B)) (toC T):=by
 induction T using Tree.ind' with
 | h0=>intro d y hp;cases hp
 | h1 T hT ih =>
  intro d y hp hd h
  have hlim:lim=1099511627776:=rfl
  have hs:=AI hT
  by_cases hk:T.kind=110
  ·have hn:0≤T.n:=by
    cases T with
    | nil=>exact absurd rfl hT
    | node k n nm mk l=>exact ((hp.inv.2.1 hk).2.2).1
   rw[DA hT hk,CK]
   unfold sAt
   rcases Vc hp hk ⟨by omega,by omega⟩ h with⟨h1,h2,h3⟩|⟨h1,h2,h3,h4,h5⟩|⟨h1,h2⟩
   ·rw[ifn,ifn,ifp]
    rw[Dm d 0 B 0 hB (by omega) (by omega)]at h3
    rw[QJ d B 0 y hB (by omega) h3]
    exact EP _ fun n=>J2 d n
   ·rw[ifn,ifn,ifn,DA h3 h4,h5]
    congr 1
    omega
   ·rw[h2,DA hT hk]
    by_cases c:T.n.toNat < d
    ·rw[if_pos c]
    ·rw[if_neg c,ifp]
  ·obtain⟨p1,p2,p3,p4,p5,_⟩:=Ex.ID hp hk h
   obtain⟨u1,u2⟩:=Ex.I5 hp hk ⟨by omega,by omega⟩ h
   rw[BL p1 (by rw[p2];exact hk),BL hT hk,BE,p2,p4]
   congr 1
   refine Lo u1 fun j hj=>?_
   have hm:=AA hj
   have s1:=AH hm
   have hb:=GL T
   have hb1:=IV T.kind
   have:=ih _ hm (d+bd T.kind) _ (Ex.B4 hp _ hm) (by omega) (by have:=u2 j hj;rwa [hb]at this)
   rw[this]
   exact Bl _ fun n=>(YE i d _ _ hb1 n).symm
theorem Up (b:Cn):∀n,sAt 0 0 b n=s0 b n
 | 0=>by unfold sAt;rw[ifn,ifn,if_pos rfl,OR];rfl
 | n+1=>by unfold sAt;rw[ifn,ifn,ifn];rfl
theorem Ju {N B s:Tree}(h:Ax N 0 B=(s,0)):toC s=inst (toC N) (toC B):=by
 obtain⟨h1,h2,_,h4⟩:=Ki.NF h
 have z1:=Al h1
 have z2:=Al h2
 have:=R9 0 (by omega) B (Aa h2) (by omega) N 0 s (Aa h1) (by omega) h4
 rw[this]
 exact Bl _ (Up _)
end Cn
end Go.Proofs.YtlgajkoplklkiaaGreat
