/- What the proof stands on, part 2: what functions of the program compute, and plain facts about it. -/
import Derived.Shelf.Spec.SlicesGrow
import Derived.Test.YtlgajkoplklkiaaGreatP1
import Derived.Test.YtlgajkoplklkiaaGreatP0
set_option linter.all false
set_option maxHeartbeats 64000000
set_option maxRecDepth 100000
namespace Go.Proofs.YtlgajkoplklkiaaGreat
open Go Go.Mq
def cStar:ByteArray:=⟨#[42]⟩
def cArrow:ByteArray:=⟨#[32,45,62,32]⟩
def cPar:ByteArray:=⟨#[40,32]⟩
def cEnd:ByteArray:=⟨#[32,41]⟩
def cBlank:ByteArray:=⟨#[32]⟩
def cAll:ByteArray:=⟨#[40,32,97,108,108,32]⟩
def cEx:ByteArray:=⟨#[40,32,101,120,32]⟩
def cFn:ByteArray:=⟨#[40,32,102,110,32]⟩
def cDot:ByteArray:=⟨#[32,46,32]⟩
def cInt:ByteArray:=⟨#[105,110,116]⟩
def cBool:ByteArray:=⟨#[98,111,111,108]⟩
def cUnit:ByteArray:=⟨#[117,110,105,116]⟩
def cDollar:ByteArray:=⟨#[36]⟩
def cMu:ByteArray:=⟨#[109,117,32]⟩
def cOpen:ByteArray:=⟨#[123,32]⟩
def cClose:ByteArray:=⟨#[32,125]⟩
def cEmpty:ByteArray:=⟨#[123,32,125]⟩
def cOf:ByteArray:=⟨#[32,111,102,32]⟩
def cEq:ByteArray:=⟨#[32,61,32]⟩
def cBar:ByteArray:=⟨#[32,124,32]⟩
def cComma:ByteArray:=⟨#[32,44,32]⟩
mutual
def textF:Tree→ByteArray
 | .nil=>ByteArray.empty
 | .node k n nm mk l =>
  if k=100 then cStar
  else if k=101∨k=114 then (cPar++((textAt 0 l++cArrow)++textAt 1 l))++cEnd
  else if k=120 then (cPar++((textAt 0 l++cBlank)++textAt 1 l))++cEnd
  else if k=117 then (cAll++((textAt 0 l++cDot)++textAt 1 l))++cEnd
  else if k=118 then (cEx++((textAt 0 l++cDot)++textAt 1 l))++cEnd
  else if k=119 then (cFn++((textAt 0 l++cDot)++textAt 1 l))++cEnd
  else if k=111 then cInt
  else if k=112 then cBool
  else if k=113 then cUnit
  else if k=110 then cDollar++numF n
  else if k=121 then ((cMu++cOpen)++joinF (itemsF cOf l) cBar)++cClose
  else if l.length=0 then cEmpty else ((ByteArray.empty++cOpen)++joinF (itemsF cEq l) cComma)++cClose
def textAt (i:Nat):List Tree→ByteArray
 | []=>ByteArray.empty
 | x::l=>match i with
  | 0=>textF x
  | i+1=>textAt i l
def itemsF (sign:ByteArray):List Tree→List ByteArray
 | []=>[]
 | x::l=>itemF sign x::itemsF sign l
def itemF (sign:ByteArray):Tree→ByteArray
 | .nil=>ByteArray.empty
 | .node _ _ nm _ l=>(nm++sign)++textAt 0 l
end
theorem textAt_eq:∀(l:List Tree) (i:Nat),textAt i l=textF (l.getD i .nil)
 | [],i=>by rw[textAt];simp[textF]
 | x::l,0=>by rw[textAt];rfl
 | x::l,i+1=>by rw[textAt];exact textAt_eq l i
theorem itemF_eq {T:Tree}(h:T≠.nil)(sign:ByteArray):itemF sign T=(T.name++sign)++textF (T.kids.getD 0 .nil):=by
 cases T with
 | nil=>exact absurd rfl h
 | node=>rw[itemF,textAt_eq];rfl
theorem itemsF_map (sign:ByteArray):∀l:List Tree,itemsF sign l=l.map (itemF sign)
 | []=>by rw[itemsF];rfl
 | x::l=>by rw[itemsF,itemsF_map sign l];rfl
theorem textF_eq {T:Tree}(h:T≠.nil):textF T =
  if T.kind=100 then cStar
  else if T.kind=101∨T.kind=114 then (cPar++((textF (T.kids.getD 0 .nil)++cArrow)++textF (T.kids.getD 1 .nil)))++cEnd
  else if T.kind=120 then (cPar++((textF (T.kids.getD 0 .nil)++cBlank)++textF (T.kids.getD 1 .nil)))++cEnd
  else if T.kind=117 then (cAll++((textF (T.kids.getD 0 .nil)++cDot)++textF (T.kids.getD 1 .nil)))++cEnd
  else if T.kind=118 then (cEx++((textF (T.kids.getD 0 .nil)++cDot)++textF (T.kids.getD 1 .nil)))++cEnd
  else if T.kind=119 then (cFn++((textF (T.kids.getD 0 .nil)++cDot)++textF (T.kids.getD 1 .nil)))++cEnd
  else if T.kind=111 then cInt
  else if T.kind=112 then cBool
  else if T.kind=113 then cUnit
  else if T.kind=110 then cDollar++numF T.n
  else if T.kind=121 then ((cMu++cOpen)++joinF (T.kids.map (itemF cOf)) cBar)++cClose
  else if T.kids.length=0 then cEmpty else ((ByteArray.empty++cOpen)++joinF (T.kids.map (itemF cEq)) cComma)++cClose:=by
 cases T with
 | nil=>exact absurd rfl h
 | node=>rw[textF];simp only[textAt_eq,itemsF_map];rfl
def Sh (T:Tree):Prop:=isConF T=true∨isKindF T=true
structure ShF (x:Tree):Prop where
 ne:x≠.nil
 name:x.name.size≤160
 len:x.kids.length=1
 kid:Sh (x.kids.getD 0 .nil)
theorem shF_of {kind:Int}{x:Tree}(h:fieldF kind x=true):ShF x:=by
 have hx:x≠.nil:=by intro e;subst e;rw[fieldF]at h;cases h
 rw[fieldF_eq hx]at h
 simp only[Bool.and_eq_true,beq_iff_eq]at h
 obtain⟨⟨⟨⟨h1,h2⟩,h3⟩,h4⟩,h5⟩:=h
 unfold labelF at h3
 simp only[Bool.and_eq_true,decide_eq_true_eq]at h3
 exact⟨hx,by omega,by omega,.inl h5⟩
structure ShN (T:Tree):Prop where
 ne:T≠.nil
 ks:T.kind=100∨T.kind=101∨T.kind=110∨T.kind=111∨T.kind=112∨T.kind=113∨T.kind=114∨T.kind=115∨T.kind=117∨T.kind=118∨T.kind=119∨T.kind=120∨T.kind=121
 two:T.kind=101∨T.kind=114∨T.kind=117∨T.kind=118∨T.kind=119∨T.kind=120→T.kids.length=2∧Sh (T.kids.getD 0 .nil)∧Sh (T.kids.getD 1 .nil)
 num:T.kind=110→0≤T.n∧T.n≤65536
 fld:T.kind=115∨T.kind=121→∀x∈T.kids,ShF x
 sum:T.kind=121→0 < T.kids.length
theorem Sh.n {T:Tree}(h:Sh T):ShN T:=by
 rcases h with h|h
 ·have hT:T≠.nil:=by intro e;subst e;rw[isConF]at h;cases h
  rw[isConF_eq hT,Bool.and_eq_true]at h
  obtain⟨_,h⟩:=h
  split at h
  ·rename_i hk
   simp only[Bool.and_eq_true,beq_iff_eq,decide_eq_true_eq]at h
   exact⟨hT,by omega,fun e=>by omega,fun _=>⟨h.1.1,h.1.2⟩,fun e=>by omega,fun e=>by omega⟩
  split at h
  ·exact⟨hT,by omega,fun e=>by omega,fun e=>by omega,fun e=>by omega,fun e=>by omega⟩
  split at h
  ·simp only[Bool.and_eq_true,beq_iff_eq]at h
   exact⟨hT,by omega,fun _=>⟨by omega,.inl h.1.2,.inl h.2⟩,fun e=>by omega,fun e=>by omega,fun e=>by omega⟩
  split at h
  ·simp only[Bool.and_eq_true]at h
   exact⟨hT,by omega,fun e=>by omega,fun e=>by omega,fun _ x hx=>shF_of (fieldsF_mem h.1 x hx),fun e=>by omega⟩
  split at h
  ·simp only[Bool.and_eq_true,beq_iff_eq]at h
   exact⟨hT,by omega,fun _=>⟨by omega,.inr h.1.2,.inl h.2⟩,fun e=>by omega,fun e=>by omega,fun e=>by omega⟩
  split at h
  ·simp only[Bool.and_eq_true,decide_eq_true_eq]at h
   exact⟨hT,by omega,fun e=>by omega,fun e=>by omega,fun _ x hx=>shF_of (fieldsF_mem h.1.2 x hx),fun _=>by omega⟩
  ·cases h
 ·have hT:T≠.nil:=by intro e;subst e;rw[isKindF]at h;cases h
  rw[isKindF_eq hT]at h
  split at h
  ·exact⟨hT,by omega,fun e=>by omega,fun e=>by omega,fun e=>by omega,fun e=>by omega⟩
  ·split at h
   ·simp only[Bool.and_eq_true,beq_iff_eq]at h
    exact⟨hT,by omega,fun _=>⟨by omega,.inr h.1.2,.inr h.2⟩,fun e=>by omega,fun e=>by omega,fun e=>by omega⟩
   ·cases h
theorem digR_len2 (k:Nat):∀u:Nat,u < 10 ^ (k+1)→(digR u).length≤k+1:=by
 induction k with
 | zero=>intro u h;rw[digR_lo (by omega)];simp
 | succ k ih =>
  intro u h
  by_cases hl:u < 10
  ·rw[digR_lo hl];simp
  ·rw[digR_hi hl]
   have:=ih (u / 10) (by rw[Nat.pow_succ]at h;omega)
   simp;omega
theorem numF_size2 {n:Int}(h0:0≤n)(h1:n≤65536):(numF n).size≤7:=by
 have h2:=sign_size n
 have h3:=bytesOf_size (digR n.natAbs).reverse
 have h4:=digR_len2 5 n.natAbs (by omega)
 rw[List.length_reverse]at h3
 rw[numF,ByteArray.size_append]
 omega
def tailB (sep:ByteArray):List ByteArray→ByteArray
 | []=>ByteArray.empty
 | y::r=>(sep++y)++tailB sep r
theorem joinF_size (l:List ByteArray)(sep:ByteArray):(joinF l sep).size=(Lib.join (l.map (·.data.toList)) sep.data.toList).length:=by
 simp[joinF,ByteArray.size]
theorem mk_append (a b:List UInt8):(⟨(a++b).toArray⟩:ByteArray)=⟨a.toArray⟩++⟨b.toArray⟩:=by
 apply ByteArray.ext;simp[ByteArray.data_append]
theorem mk_list (x:ByteArray):(⟨x.data.toList.toArray⟩:ByteArray)=x:=by
 apply ByteArray.ext;simp
theorem tail_mk (sep:ByteArray):∀r:List ByteArray,(⟨(Lib.joinTail sep.data.toList (r.map (·.data.toList))).toArray⟩:ByteArray)=tailB sep r
 | []=>rfl
 | y::r=>by
  have e:Lib.joinTail sep.data.toList ((y::r).map (·.data.toList))=(sep.data.toList++y.data.toList)++Lib.joinTail sep.data.toList (r.map (·.data.toList)):=by simp[Lib.joinTail]
  rw[e,mk_append,mk_append,mk_list,mk_list,tail_mk sep r,tailB]
theorem joinF_nil (sep:ByteArray):joinF [] sep=ByteArray.empty:=rfl
theorem joinF_cons (x:ByteArray)(r:List ByteArray)(sep:ByteArray):joinF (x::r) sep=x++tailB sep r:=by
 rw[joinF,List.map_cons,Lib.join_cons,mk_append,mk_list,tail_mk]
def sumB:List ByteArray→Nat
 | []=>0
 | x::l=>x.size+sumB l
theorem tailB_sum (sep:ByteArray):∀(r:List ByteArray),(tailB sep r).size=sumB r+r.length*sep.size
 | []=>by simp[tailB,sumB]
 | y::r=>by
  rw[tailB,ByteArray.size_append,ByteArray.size_append,tailB_sum sep r,sumB,List.length_cons,Nat.add_mul,Nat.one_mul]
  omega
theorem joinF_sum (l:List ByteArray)(sep:ByteArray):(joinF l sep).size≤sumB l+l.length*sep.size:=by
 cases l with
 | nil=>simp[joinF_nil,sumB]
 | cons x r =>
  rw[joinF_cons,ByteArray.size_append,tailB_sum,sumB,List.length_cons,Nat.add_mul,Nat.one_mul]
  omega
end Go.Proofs.YtlgajkoplklkiaaGreat
namespace Go.Proofs.YtlgajkoplklkiaaGreat
open Go Go.Mq
theorem sizesN_two {l:List Tree}(h:l.length=2):sizesN l=sizeN (l.getD 0 .nil)+sizeN (l.getD 1 .nil):=by
 match l,h with
 | [a,b],_=>simp[sizesN]
theorem sizesN_one {l:List Tree}(h:l.length=1):sizesN l=sizeN (l.getD 0 .nil):=by
 match l,h with
 | [a],_=>simp[sizesN]
theorem items_size (sign:ByteArray)(hs:sign.size≤4):∀l:List Tree,(∀x∈l,ShF x)→(∀x∈l,(textF (x.kids.getD 0 .nil)).size≤400*sizeN (x.kids.getD 0 .nil))→sumB (l.map (itemF sign))+l.length*3≤400*sizesN l
 | [],_,_=>by simp[sumB,sizesN]
 | x::l,h,ht=>by
  have h1:=items_size sign hs l (fun y hy=>h y (by simp[hy])) (fun y hy=>ht y (by simp[hy]))
  have hx:=h x (by simp)
  have hk:=ht x (by simp)
  have hz:sizeN x=1+sizeN (x.kids.getD 0 .nil):=by rw[sizeN_kids hx.ne,sizesN_one hx.len]
  have hn:=hx.name
  rw[List.map_cons,sumB,itemF_eq hx.ne,ByteArray.size_append,ByteArray.size_append,List.length_cons,sizesN,hz]
  omega
theorem text_size (T:Tree):Sh T→(textF T).size≤400*sizeN T:=by
 suffices h:(Sh T→(textF T).size≤400*sizeN T)∧∀x∈T.kids,Sh x→(textF x).size≤400*sizeN x from h.1
 induction T using Tree.ind' with
 | h0=>exact⟨fun h=>absurd rfl h.n.ne,fun x hx=>by cases hx⟩
 | h1 T hT ih =>
  refine⟨fun h=>?_,fun x hx=>(ih x hx).1⟩
  have hn:=h.n
  have hz:=sizeN_kids hT
  have e:cStar.size=1∧cArrow.size=4∧cPar.size=2∧cEnd.size=2∧cBlank.size=1∧cAll.size=6∧cEx.size=5∧cFn.size=5∧cDot.size=3∧cInt.size=3∧cBool.size=4∧cUnit.size=4∧cDollar.size=1∧cMu.size=3∧cOpen.size=2∧cClose.size=2∧cEmpty.size=3∧cOf.size=4∧cEq.size=3∧cBar.size=3∧cComma.size=3∧ByteArray.empty.size=0:=⟨rfl,rfl,rfl,rfl,rfl,rfl,rfl,rfl,rfl,rfl,rfl,rfl,rfl,rfl,rfl,rfl,rfl,rfl,rfl,rfl,rfl,rfl⟩
  obtain⟨e1,e2,e3,e4,e5,e6,e7,e8,e9,e10,e11,e12,e13,e14,e15,e16,e17,e18,e19,e20,e21,e22⟩:=e
  have two:∀a b c:ByteArray,a.size≤6→b.size≤4→c.size≤2→(T.kind=101∨T.kind=114∨T.kind=117∨T.kind=118∨T.kind=119∨T.kind=120)→((a++((textF (T.kids.getD 0 .nil)++b)++textF (T.kids.getD 1 .nil)))++c).size≤400*sizeN T:=by
   intro a b c ha hb hc hk
   obtain⟨hl,s0,s1⟩:=hn.two hk
   have t0:=(ih _ (getD_mem (by omega:0 < T.kids.length))).1 s0
   have t1:=(ih _ (getD_mem (by omega:1 < T.kids.length))).1 s1
   rw[hz,sizesN_two hl]
   simp only[ByteArray.size_append]
   omega
  have rec':∀a b c sign sep:ByteArray,a.size≤3→b.size≤2→c.size≤2→sign.size≤4→sep.size≤3→(T.kind=115∨T.kind=121)→(((a++b)++joinF (T.kids.map (itemF sign)) sep)++c).size≤400*sizeN T:=by
   intro a b c sign sep ha hb hc hsg hsp hk
   have hf:=hn.fld hk
   have hi:=items_size sign hsg T.kids hf (fun x hx=>(ih x hx).2 _ (getD_mem (by have:=(hf x hx).len;omega)) (hf x hx).kid)
   have hj:=joinF_sum (T.kids.map (itemF sign)) sep
   rw[List.length_map]at hj
   have hm:T.kids.length*sep.size≤T.kids.length*3:=Nat.mul_le_mul_left _ hsp
   rw[hz]
   simp only[ByteArray.size_append]
   omega
  rw[textF_eq hT]
  by_cases h0:T.kind=100
  ·rw[if_pos h0];omega
  rw[if_neg h0]
  by_cases h1:T.kind=101∨T.kind=114
  ·rw[if_pos h1];exact two _ _ _ (by omega) (by omega) (by omega) (by omega)
  rw[if_neg h1]
  by_cases h2:T.kind=120
  ·rw[if_pos h2];exact two _ _ _ (by omega) (by omega) (by omega) (by omega)
  rw[if_neg h2]
  by_cases h3:T.kind=117
  ·rw[if_pos h3];exact two _ _ _ (by omega) (by omega) (by omega) (by omega)
  rw[if_neg h3]
  by_cases h4:T.kind=118
  ·rw[if_pos h4];exact two _ _ _ (by omega) (by omega) (by omega) (by omega)
  rw[if_neg h4]
  by_cases h5:T.kind=119
  ·rw[if_pos h5];exact two _ _ _ (by omega) (by omega) (by omega) (by omega)
  rw[if_neg h5]
  by_cases h6:T.kind=111
  ·rw[if_pos h6];omega
  rw[if_neg h6]
  by_cases h7:T.kind=112
  ·rw[if_pos h7];omega
  rw[if_neg h7]
  by_cases h8:T.kind=113
  ·rw[if_pos h8];omega
  rw[if_neg h8]
  by_cases h9:T.kind=110
  ·rw[if_pos h9];(have:=hn.num h9;have:=numF_size2 this.1 this.2;rw[ByteArray.size_append];omega)
  rw[if_neg h9]
  by_cases h10:T.kind=121
  ·rw[if_pos h10];exact rec' _ _ _ _ _ (by omega) (by omega) (by omega) (by omega) (by omega) (by omega)
  rw[if_neg h10]
  by_cases h11:T.kids.length=0
  ·rw[if_pos h11];omega
  rw[if_neg h11]
  have hk:T.kind=115:=by have:=hn.ks;omega
  exact rec' _ _ _ _ _ (by omega) (by omega) (by omega) (by omega) (by omega) (.inl hk)
theorem show1_ok (T:Tree)(hT:T≠.nil)(hl:T.kids.length=2)(h0:Pure P 104 [.d (.tree (T.kids.getD 0 .nil))] (.d (.str (textF (T.kids.getD 0 .nil)))))
  (h1:Pure P 104 [.d (.tree (T.kids.getD 1 .nil))] (.d (.str (textF (T.kids.getD 1 .nil))))) (b0:(textF (T.kids.getD 0 .nil)).size≤4398046511104) (b1:(textF (T.kids.getD 1 .nil)).size≤4398046511104)
  (sep:ByteArray) (hs:sep.size≤1000):Fun P 138 [.d (.str sep),.ref 0 0] [(0,.cells [.d (.tree T)])] 1 (.d (.str ((textF (T.kids.getD 0 .nil)++sep)++textF (T.kids.getD 1 .nil)))) [(0,.cells [.d (.tree T)])] 1:=by
 have ha:(textF (T.kids.getD 0 .nil)++sep).size=(textF (T.kids.getD 0 .nil)).size+sep.size:=ByteArray.size_append
 refine Fun.of_body tt [] [3] Tryz.func138 rfl rfl rfl lb fun g=>?_
 repeat' ((first|refine Ga ?_|refine Gc fun hlen=>?_|refine Ge h0 ?_|refine Ge h1 ?_|refine Side.mk (show (textF (T.kids.getD 0 .nil)).size+sep.size≤9223372036854775807 from by omega) ?_|refine Side.mk (show (textF (T.kids.getD 0 .nil)++sep).size+(textF (T.kids.getD 1 .nil)).size≤9223372036854775807 from by omega) ?_|refine Gd (fun hc=>?_) fun hc=>?_)<;>conv=>whnf)
 exact ret_objs rfl rfl (str_eq rfl) ⟨rfl,trivial⟩ (Nat.le_refl _)
theorem cs:cStar.size=1∧cArrow.size=4∧cPar.size=2∧cEnd.size=2∧cBlank.size=1∧cAll.size=6∧cEx.size=5∧cFn.size=5∧cDot.size=3∧cInt.size=3∧cBool.size=4∧cUnit.size=4∧cDollar.size=1∧cMu.size=3∧cOpen.size=2∧cClose.size=2∧cEmpty.size=3∧cOf.size=4∧cEq.size=3∧cBar.size=3∧cComma.size=3∧ByteArray.empty.size=0:=⟨rfl,rfl,rfl,rfl,rfl,rfl,rfl,rfl,rfl,rfl,rfl,rfl,rfl,rfl,rfl,rfl,rfl,rfl,rfl,rfl,rfl,rfl⟩
theorem take_map_step {α:Type}(f:Tree→α){l:List Tree}{i:Nat}(h:i < l.length):(l.take i).map f++[f (l.getD i .nil)]=(l.take (i+1)).map f:=by
 rw[←take_step h];simp
def ShowP (T:Tree):Prop:=Sh T→sizeN T≤65536→Pure P 104 [.d (.tree T)] (.d (.str (textF T)))
theorem show_two (T:Tree)(hT:T≠.nil)(hn:ShN T)(hz:sizeN T≤65536)(ih:∀x∈T.kids,ShowP x)(h115:T.kind≠115)(h121:T.kind≠121):Pure P 104 [.d (.tree T)] (.d (.str (textF T))):=by
 have hks:=hn.ks
 have hzz:=sizeN_kids hT
 obtain⟨e1,e2,e3,e4,e5,e6,e7,e8,e9,e10,e11,e12,e13,e14,e15,e16,e17,e18,e19,e20,e21,e22⟩:=cs
 have hte:=textF_eq hT
 by_cases hk2:T.kind=101∨T.kind=114∨T.kind=117∨T.kind=118∨T.kind=119∨T.kind=120
 ·obtain⟨hl,s0,s1⟩:=hn.two hk2
  have hs2:=sizesN_two hl
  have t0:=text_size _ s0
  have t1:=text_size _ s1
  have p0:=ih _ (getD_mem (by omega:0 < T.kids.length)) s0 (by omega)
  have p1:=ih _ (getD_mem (by omega:1 < T.kids.length)) s1 (by omega)
  have hcl:∀sep:ByteArray,sep.size≤1000→Fun P 138 [.d (.str sep),.ref 0 0] [(0,.cells [.d (.tree T)])] 1 (.d (.str ((textF (T.kids.getD 0 .nil)++sep)++textF (T.kids.getD 1 .nil)))) [(0,.cells [.d (.tree T)])] 1 :=
   fun sep hs=>show1_ok T hT hl p0 p1 (by omega) (by omega) sep hs
  have hsz:∀sep:ByteArray,sep.size≤1000→((textF (T.kids.getD 0 .nil)++sep)++textF (T.kids.getD 1 .nil)).size≤4398046511104:=by
   intro sep hs;simp only[ByteArray.size_append];omega
  have hsum:∀a b c:ByteArray,a.size≤1000→b.size≤4398046511104→c.size≤1000→a.size+b.size≤9223372036854775807∧(a++b).size+c.size≤9223372036854775807:=by
   intro a b c h1 h2 h3;simp only[ByteArray.size_append];omega
  clear t0 t1 hs2 hzz p0 p1 ih
  refine Pure.of_body tt [] [2] Tryz.func104 rfl rfl rfl lb fun g=>?_
  repeat' ((first|refine Ga ?_|refine Gc fun hlen=>?_|refine CallG.go (hcl cArrow (by decide)) [0] ?_|refine CallG.go (hcl cBlank (by decide)) [0] ?_|refine CallG.go (hcl cDot (by decide)) [0] ?_|refine Side.mk (hsum _ _ cEnd (by decide) (hsz _ (by decide)) (by decide)).1 ?_|refine Side.mk (hsum _ _ _ (by decide) (hsz _ (by decide)) (by decide)).2 ?_|refine Gd (fun hc=>?_) fun hc=>?_)<;>conv=>whnf)
  all_goals
   refine Gf rfl (str_eq ?_) rfl
   rw[hte]
   repeat first|rw[ifp]|rw[ifn]
   rfl
 ·have hnum:T.kind=110→Pure P 59 [.d (.int .i64 T.n)] (.d (.str (numF T.n))):=fun hk=>number_ok T.n (by have:=hn.num hk;omega) (by have:=hn.num hk;omega)
  have hnsz:T.kind=110→cDollar.size+(numF T.n).size≤9223372036854775807:=fun hk=>by
   have:=numF_size2 (hn.num hk).1 (hn.num hk).2
   omega
  clear hzz ih
  refine Pure.of_body tt [] [2] Tryz.func104 rfl rfl rfl lb fun g=>?_
  repeat' ((first|refine Ga ?_|refine Gc fun hlen=>?_|refine Ge (hnum (by omega)) ?_|refine Side.mk (hnsz (by omega)) ?_|refine Gd (fun hc=>?_) fun hc=>?_)<;>conv=>whnf)
  all_goals
   refine Gf rfl (str_eq ?_) rfl
   rw[hte]
   repeat first|rw[ifp]|rw[ifn]
   rfl
theorem len_sizes:∀{l:List Tree},(∀x∈l,ShF x)→l.length≤sizesN l
 | [],_=>by simp
 | x::l,h=>by
  have h1:=len_sizes (l:=l) (fun y hy=>h y (by simp[hy]))
  have hx:=h x (by simp)
  have h2:=sizeN_kids hx.ne
  rw[sizesN,List.length_cons]
  omega
theorem show_115 (T:Tree)(hT:T≠.nil)(hn:ShN T)(hz:sizeN T≤65536)(ih:∀x∈T.kids,∀y∈x.kids,ShowP y)(hk:T.kind=115):Pure P 104 [.d (.tree T)] (.d (.str (textF T))):=by
 have hzz:=sizeN_kids hT
 have hf:=hn.fld (by omega)
 obtain⟨e1,e2,e3,e4,e5,e6,e7,e8,e9,e10,e11,e12,e13,e14,e15,e16,e17,e18,e19,e20,e21,e22⟩:=cs
 have hte:=textF_eq hT
 have hkl:T.kids.length≤65536:=by have:=len_sizes hf;omega
 have hkid:∀p,p < T.kids.length→ShF (T.kids.getD p .nil)∧Pure P 104 [.d (.tree ((T.kids.getD p .nil).kids.getD 0 .nil))] (.d (.str (textF ((T.kids.getD p .nil).kids.getD 0 .nil))))∧(textF ((T.kids.getD p .nil).kids.getD 0 .nil)).size≤400*65536:=by
  intro p hp
  have hm:=getD_mem hp
  have hx:=hf _ hm
  have h1:=sizesN_mem hm
  have h2:sizeN (T.kids.getD p .nil)=1+sizeN ((T.kids.getD p .nil).kids.getD 0 .nil):=by rw[sizeN_kids hx.ne,sizesN_one hx.len]
  have h3:=text_size _ hx.kid
  exact⟨hx,ih _ hm _ (getD_mem (by rw[hx.len];omega)) hx.kid (by omega),by omega⟩
 have hitems:=items_size cEq (by omega) T.kids hf (fun x hx=>text_size _ (hf x hx).kid)
 have hjs:=joinF_sum (T.kids.map (itemF cEq)) cComma
 rw[List.length_map]at hjs
 refine Pure.of_body tt [] [2] Tryz.func104 rfl rfl rfl lb fun g=>?_
 repeat' ((first|refine Ga ?_|refine Gc fun hlen=>?_|refine Gd (fun hc=>?_) fun hc=>?_)<;>conv=>whnf)
 refine loop_go (α:=Nat×List ByteArray) (fun p=>⟨[(4,.d (.str cComma)),(5,.d (.str cEq)),(6,.d (.str ByteArray.empty)),(7,.row 1 p.1),(70,.d (.trees T.kids)),(71,.d (.int .i64 T.kids.length)),(72,.d (.int .i64 p.1))],104,[(0,.cells [.d (.tree T)]),(1,.row 9 (.strs p.2))],2,g⟩)
    (fun p=>p.1≤T.kids.length∧p.2.length=p.1∧p.2=(T.kids.take p.1).map (itemF cEq)) (fun p=>T.kids.length - p.1) (0,[]) ⟨by simp,rfl,by simp⟩
    (Ent.nil rfl rfl rfl (by repeat' first|exact trivial|apply And.intro|rfl|(refine int_eq ?_;rw[wrap64]<;>omega)) (by repeat' first|exact trivial|apply And.intro|rfl|(refine int_eq ?_;rw[wrap64]<;>omega))) (fun _=>rfl) fun p hpre=>?_
 obtain⟨p,out⟩:=p
 obtain⟨hp1,hp2,hp3⟩:=hpre
 simp only[]at hp1 hp2 hp3
 by_cases hlt:p < T.kids.length
 ·obtain⟨hx,hsh,hsz⟩:=hkid p hlt
  have hnm:=hx.name
  have hxl:=hx.len
  have hns:((T.kids.getD p .nil).name++cEq).size=(T.kids.getD p .nil).name.size+(cEq).size:=ByteArray.size_append
  have hie:=itemF_eq hx.ne cEq
  repeat' ((first|refine Ga ?_|refine Gc fun hlen=>?_|refine Gh ((0:Int)≤(p:Int)∧(p:Int) < (T.kids.length:Int)) ?_|refine Side.mk hx.ne ?_|refine Gh ((0:Int)≤0∧(0:Int) < ((T.kids.getD p .nil).kids.length:Int)) ?_|refine Side.mk (show (T.kids.getD p .nil).name.size+(cEq).size≤9223372036854775807 from by omega) ?_|refine Ge hsh ?_|refine Side.mk (show ((T.kids.getD p .nil).name++cEq).size+(textF ((T.kids.getD p .nil).kids.getD 0 .nil)).size≤9223372036854775807 from by omega) ?_|refine Gh ((p+1≤17592186044416∧(p+1)*16≤140737488355328)) ?_|refine Gd (fun hc=>?_) fun hc=>?_)<;>conv=>whnf)
  exact⟨(p+1,out++[((T.kids.getD p .nil).name++cEq)++textF ((T.kids.getD p .nil).kids.getD 0 .nil)]),⟨by simp only[];omega,by simp[hp2],by simp only[];rw[←hie,hp3,take_map_step _ hlt]⟩,by simp only[];omega,Ent.go [0,3]⟩
 ·have hpe:p=T.kids.length:=by omega
  rw[hpe,List.take_length]at hp3
  subst hp3
  have hjo:=joinF_size (T.kids.map (itemF cEq)) cComma
  have hjc:Fun P 61 [.row 0 p,.d (.str cComma)] [(0,.row 9 (.strs (T.kids.map (itemF cEq))))] 1 (.d (.str (joinF (T.kids.map (itemF cEq)) cComma))) [(0,.row 9 (.strs (T.kids.map (itemF cEq))))] 1:=by
   have:=join_ok 9 (T.kids.map (itemF cEq)) cComma (by rw[←hjo];have:T.kids.length*(cComma).size≤65536*3:=Nat.mul_le_mul hkl (by omega);omega)
   rw[List.length_map,←hpe]at this
   exact this
  have hjz:(joinF (T.kids.map (itemF cEq)) cComma).size≤1099511627776:=by
   have:T.kids.length*(cComma).size≤65536*3:=Nat.mul_le_mul hkl (by omega)
   omega
  have hho:(ByteArray.empty++cOpen).size=(ByteArray.empty).size+cOpen.size:=ByteArray.size_append
  have hhj:((ByteArray.empty++cOpen)++joinF (T.kids.map (itemF cEq)) cComma).size=(ByteArray.empty++cOpen).size+(joinF (T.kids.map (itemF cEq)) cComma).size:=ByteArray.size_append
  repeat' ((first|refine Ga ?_|refine Gc fun hlen=>?_|refine Side.mk (show (ByteArray.empty).size+cOpen.size≤9223372036854775807 from by omega) ?_|refine CallG.go hjc [1] ?_|refine Side.mk (show (ByteArray.empty++cOpen).size+(joinF (T.kids.map (itemF cEq)) cComma).size≤9223372036854775807 from by omega) ?_|refine Side.mk (show ((ByteArray.empty++cOpen)++joinF (T.kids.map (itemF cEq)) cComma).size+cClose.size≤9223372036854775807 from by omega) ?_|refine Gd (fun hc=>?_) fun hc=>?_)<;>conv=>whnf)
  all_goals first
   | (exfalso;have:=hn.sum (by omega);omega)
   | (refine Gf rfl (str_eq ?_) rfl;rw[hte];(repeat first|rw[ifp]|rw[ifn]);rfl)
theorem show_121 (T:Tree)(hT:T≠.nil)(hn:ShN T)(hz:sizeN T≤65536)(ih:∀x∈T.kids,∀y∈x.kids,ShowP y)(hk:T.kind=121):Pure P 104 [.d (.tree T)] (.d (.str (textF T))):=by
 have hzz:=sizeN_kids hT
 have hf:=hn.fld (by omega)
 obtain⟨e1,e2,e3,e4,e5,e6,e7,e8,e9,e10,e11,e12,e13,e14,e15,e16,e17,e18,e19,e20,e21,e22⟩:=cs
 have hte:=textF_eq hT
 have hkl:T.kids.length≤65536:=by have:=len_sizes hf;omega
 have hkid:∀p,p < T.kids.length→ShF (T.kids.getD p .nil)∧Pure P 104 [.d (.tree ((T.kids.getD p .nil).kids.getD 0 .nil))] (.d (.str (textF ((T.kids.getD p .nil).kids.getD 0 .nil))))∧(textF ((T.kids.getD p .nil).kids.getD 0 .nil)).size≤400*65536:=by
  intro p hp
  have hm:=getD_mem hp
  have hx:=hf _ hm
  have h1:=sizesN_mem hm
  have h2:sizeN (T.kids.getD p .nil)=1+sizeN ((T.kids.getD p .nil).kids.getD 0 .nil):=by rw[sizeN_kids hx.ne,sizesN_one hx.len]
  have h3:=text_size _ hx.kid
  exact⟨hx,ih _ hm _ (getD_mem (by rw[hx.len];omega)) hx.kid (by omega),by omega⟩
 have hitems:=items_size cOf (by omega) T.kids hf (fun x hx=>text_size _ (hf x hx).kid)
 have hjs:=joinF_sum (T.kids.map (itemF cOf)) cBar
 rw[List.length_map]at hjs
 refine Pure.of_body tt [] [2] Tryz.func104 rfl rfl rfl lb fun g=>?_
 repeat' ((first|refine Ga ?_|refine Gc fun hlen=>?_|refine Gd (fun hc=>?_) fun hc=>?_)<;>conv=>whnf)
 refine loop_go (α:=Nat×List ByteArray) (fun p=>⟨[(4,.d (.str cBar)),(5,.d (.str cOf)),(6,.d (.str cMu)),(7,.row 1 p.1),(70,.d (.trees T.kids)),(71,.d (.int .i64 T.kids.length)),(72,.d (.int .i64 p.1))],104,[(0,.cells [.d (.tree T)]),(1,.row 9 (.strs p.2))],2,g⟩)
    (fun p=>p.1≤T.kids.length∧p.2.length=p.1∧p.2=(T.kids.take p.1).map (itemF cOf)) (fun p=>T.kids.length - p.1) (0,[]) ⟨by simp,rfl,by simp⟩
    (Ent.nil rfl rfl rfl (by repeat' first|exact trivial|apply And.intro|rfl|(refine int_eq ?_;rw[wrap64]<;>omega)) (by repeat' first|exact trivial|apply And.intro|rfl|(refine int_eq ?_;rw[wrap64]<;>omega))) (fun _=>rfl) fun p hpre=>?_
 obtain⟨p,out⟩:=p
 obtain⟨hp1,hp2,hp3⟩:=hpre
 simp only[]at hp1 hp2 hp3
 by_cases hlt:p < T.kids.length
 ·obtain⟨hx,hsh,hsz⟩:=hkid p hlt
  have hnm:=hx.name
  have hxl:=hx.len
  have hns:((T.kids.getD p .nil).name++cOf).size=(T.kids.getD p .nil).name.size+(cOf).size:=ByteArray.size_append
  have hie:=itemF_eq hx.ne cOf
  repeat' ((first|refine Ga ?_|refine Gc fun hlen=>?_|refine Gh ((0:Int)≤(p:Int)∧(p:Int) < (T.kids.length:Int)) ?_|refine Side.mk hx.ne ?_|refine Gh ((0:Int)≤0∧(0:Int) < ((T.kids.getD p .nil).kids.length:Int)) ?_|refine Side.mk (show (T.kids.getD p .nil).name.size+(cOf).size≤9223372036854775807 from by omega) ?_|refine Ge hsh ?_|refine Side.mk (show ((T.kids.getD p .nil).name++cOf).size+(textF ((T.kids.getD p .nil).kids.getD 0 .nil)).size≤9223372036854775807 from by omega) ?_|refine Gh ((p+1≤17592186044416∧(p+1)*16≤140737488355328)) ?_|refine Gd (fun hc=>?_) fun hc=>?_)<;>conv=>whnf)
  exact⟨(p+1,out++[((T.kids.getD p .nil).name++cOf)++textF ((T.kids.getD p .nil).kids.getD 0 .nil)]),⟨by simp only[];omega,by simp[hp2],by simp only[];rw[←hie,hp3,take_map_step _ hlt]⟩,by simp only[];omega,Ent.go [0,3]⟩
 ·have hpe:p=T.kids.length:=by omega
  rw[hpe,List.take_length]at hp3
  subst hp3
  have hjo:=joinF_size (T.kids.map (itemF cOf)) cBar
  have hjc:Fun P 61 [.row 0 p,.d (.str cBar)] [(0,.row 9 (.strs (T.kids.map (itemF cOf))))] 1 (.d (.str (joinF (T.kids.map (itemF cOf)) cBar))) [(0,.row 9 (.strs (T.kids.map (itemF cOf))))] 1:=by
   have:=join_ok 9 (T.kids.map (itemF cOf)) cBar (by rw[←hjo];have:T.kids.length*(cBar).size≤65536*3:=Nat.mul_le_mul hkl (by omega);omega)
   rw[List.length_map,←hpe]at this
   exact this
  have hjz:(joinF (T.kids.map (itemF cOf)) cBar).size≤1099511627776:=by
   have:T.kids.length*(cBar).size≤65536*3:=Nat.mul_le_mul hkl (by omega)
   omega
  have hho:(cMu++cOpen).size=(cMu).size+cOpen.size:=ByteArray.size_append
  have hhj:((cMu++cOpen)++joinF (T.kids.map (itemF cOf)) cBar).size=(cMu++cOpen).size+(joinF (T.kids.map (itemF cOf)) cBar).size:=ByteArray.size_append
  repeat' ((first|refine Ga ?_|refine Gc fun hlen=>?_|refine Side.mk (show (cMu).size+cOpen.size≤9223372036854775807 from by omega) ?_|refine CallG.go hjc [1] ?_|refine Side.mk (show (cMu++cOpen).size+(joinF (T.kids.map (itemF cOf)) cBar).size≤9223372036854775807 from by omega) ?_|refine Side.mk (show ((cMu++cOpen)++joinF (T.kids.map (itemF cOf)) cBar).size+cClose.size≤9223372036854775807 from by omega) ?_|refine Gd (fun hc=>?_) fun hc=>?_)<;>conv=>whnf)
  all_goals first
   | (exfalso;have:=hn.sum (by omega);omega)
   | (refine Gf rfl (str_eq ?_) rfl;rw[hte];(repeat first|rw[ifp]|rw[ifn]);rfl)
theorem show_ok (T:Tree):ShowP T:=by
 suffices h:ShowP T∧(∀x∈T.kids,ShowP x) from h.1
 induction T using Tree.ind' with
 | h0=>exact⟨fun h=>absurd rfl h.n.ne,fun x hx=>by cases hx⟩
 | h1 T hT ih =>
  refine⟨fun h hz=>?_,fun x hx=>(ih x hx).1⟩
  by_cases h115:T.kind=115
  ·exact show_115 T hT h.n hz (fun x hx=>(ih x hx).2) h115
  ·by_cases h121:T.kind=121
   ·exact show_121 T hT h.n hz (fun x hx=>(ih x hx).2) h121
   ·exact show_two T hT h.n hz (fun x hx=>(ih x hx).1) h115 h121
theorem kindE_full {T:Tree}(h:kindE T=0):Full T∧isKindF T=true:=by
 unfold kindE checkF at h
 split at h
 ·refine⟨wholeF_full T _ ‹_›,?_⟩
  cases hc:isKindF T
  ·rw[hc]at h;simp at h
  ·rfl
 ·exact absurd h ‹_›
theorem kindE_size {T:Tree}(h:kindE T=0):sizeN T≤65536:=by
 unfold kindE checkF at h
 split at h
 ·have:=(wholeF_size T 65536 (by omega) ‹_›).2;omega
 ·exact absurd h ‹_›
def showR (T:Tree):ByteArray:=if conE T≠0∧kindE T≠0 then ByteArray.empty else textF T
theorem showR_sh {T:Tree}(h:¬(conE T≠0∧kindE T≠0)):Sh T∧sizeN T≤65536:=by
 by_cases hc:conE T=0
 ·exact⟨.inl (conE_full hc).2,conE_size hc⟩
 ·have hk:kindE T=0:=by omega
  exact⟨.inr (kindE_full hk).2,kindE_size hk⟩
theorem Show_ok (T:Tree):Pure P 58 [.d (.tree T)] (.d (.str (showR T))):=by
 refine Pure.of_body tt [] [2] Tryz.func58 rfl rfl rfl lb fun g=>?_
 by_cases h:conE T≠0∧kindE T≠0
 ·repeat' ((first|refine Ga ?_|refine Gc fun hlen=>?_|refine Ge (check_ok T) ?_|refine Ge (kind_ok T) ?_|refine Gd (fun hc=>?_) fun hc=>?_)<;>conv=>whnf)
  exact Gf rfl (str_eq (by rw[showR,if_pos h];rfl)) rfl
 ·have hs:=showR_sh h
  have hp:=show_ok T hs.1 hs.2
  repeat' ((first|refine Ga ?_|refine Gc fun hlen=>?_|refine Ge (check_ok T) ?_|refine Ge (kind_ok T) ?_|refine Ge hp ?_|refine Gd (fun hc=>?_) fun hc=>?_)<;>conv=>whnf)
  all_goals exact Gf rfl (str_eq (by rw[showR,if_neg h])) rfl
end Go.Proofs.YtlgajkoplklkiaaGreat
namespace Go.Proofs.YtlgajkoplklkiaaGreat
namespace No
open Go Go.Mq
def normF:Nat→Tree→Tree×Int
 | 0,T=>if (nstepR T).2.2≠0 then (.nil,(nstepR T).2.2) else if (nstepR T).2.1=true then (.nil,18) else (T,0)
 | k+1,T=>if (nstepR T).2.2≠0 then (.nil,(nstepR T).2.2) else if (nstepR T).2.1=true then normF k (nstepR T).1 else (T,0)
def normR (T:Tree):Tree×Int:=normF 1000 T
theorem Normal_ok (T:Tree):Pure P 53 [.d (.tree T)] (.tuple [.d (.tree (normR T).1),.d (.int .i64 (normR T).2)]):=by
 refine Pure.of_body tt [] [2,3] Tryz.func53 rfl rfl rfl lb fun g=>?_
 repeat' ((first|refine Ga ?_|refine Gc fun hlen=>?_|refine Gd (fun hc=>?_) fun hc=>?_)<;>conv=>whnf)
 refine loop_go (α:=Nat×Tree) (fun p=>⟨[(0,.d (.tree p.2)),(10,.d (.int .i64 p.1))],39,[],0,g⟩)
   (fun p=>p.1≤1000∧normF (1000 - p.1) p.2=normR T) (fun p=>1000 - p.1) (0,T) ⟨by simp,rfl⟩
   (Ent.go []) (fun _=>rfl) fun p hpre=>?_
 obtain⟨i,U⟩:=p
 obtain⟨hp1,hp2⟩:=hpre
 simp only[]at hp1 hp2
 have hs:=Step_ok U
 by_cases hi:i < 1000
 ·obtain⟨k,hk⟩:∃k,1000 - i=k+1:=⟨1000 - i - 1,by omega⟩
  rw[hk,normF]at hp2
  generalize nstepR U=R at *
  obtain⟨m,b,e⟩:=R
  simp only[]at hs hp2
  by_cases he:e=0
  ·rw[ifn]at hp2
   subst he
   cases b with
   | true =>
    repeat' ((first|refine Ga ?_|refine Gc fun hlen=>?_|refine Ge hs ?_|refine Gd (fun hc=>?_) fun hc=>?_)<;>conv=>whnf)
    exact⟨(i+1,m),⟨by simp only[];omega,by rw[←hp2,if_pos rfl];congr 1;simp only[];omega⟩,by simp only[];omega,Ent.go []⟩
   | false =>
    rw[←hp2]
    repeat' ((first|refine Ga ?_|refine Gc fun hlen=>?_|refine Ge hs ?_|refine Gd (fun hc=>?_) fun hc=>?_)<;>conv=>whnf)
    exact Gg
  ·rw[if_pos he]at hp2
   rw[←hp2]
   repeat' ((first|refine Ga ?_|refine Gc fun hlen=>?_|refine Ge hs ?_|refine Gd (fun hc=>?_) fun hc=>?_)<;>conv=>whnf)
   exact Gg
 ·rw[show 1000 - i=0 by omega,normF]at hp2
  generalize nstepR U=R at *
  obtain⟨m,b,e⟩:=R
  simp only[]at hs hp2
  by_cases he:e=0
  ·rw[ifn]at hp2
   subst he
   rw[←hp2]
   cases b with
   | true =>
    repeat' ((first|refine Ga ?_|refine Gc fun hlen=>?_|refine Ge hs ?_|refine Gd (fun hc=>?_) fun hc=>?_)<;>conv=>whnf)
    exact Gg
   | false =>
    repeat' ((first|refine Ga ?_|refine Gc fun hlen=>?_|refine Ge hs ?_|refine Gd (fun hc=>?_) fun hc=>?_)<;>conv=>whnf)
    exact Gg
  ·rw[if_pos he]at hp2
   rw[←hp2]
   repeat' ((first|refine Ga ?_|refine Gc fun hlen=>?_|refine Ge hs ?_|refine Gd (fun hc=>?_) fun hc=>?_)<;>conv=>whnf)
   exact Gg
end No
end Go.Proofs.YtlgajkoplklkiaaGreat
namespace Go.Proofs.YtlgajkoplklkiaaGreat
namespace Mc
open Go Go.Mq
mutual
inductive Vl where
 | num (n:Int)
 | tru (b:Bool)
 | unt
 | rcd (ls:List ByteArray) (ps:List Vl)
 | tag (nm:ByteArray) (sum:Tree) (part:Vl)
 | clo (ty:Bool) (body:Tree) (env:Ev)
 | pkd (con:Tree) (part:Vl)
inductive Ev where
 | nil
 | val (v:Vl) (e:Ev)
 | con (c:Tree) (e:Ev)
end
mutual
def vD:Vl→Mq.Data
 | .num n=>.iface 87 (.int .i64 n)
 | .tru b=>.iface 88 (.bool b)
 | .unt=>.iface 90 (.agg 0 fun _=>.nils)
 | .rcd ls ps=>.iface 126 (.agg 2 fun i=>[Mq.Data.slice ls.length 1 fun i _=>.str (ls.getD i ByteArray.empty),Mq.Data.slice (vsD ps).length 1 fun i _=>(vsD ps).getD i .nils].getD i .nils)
 | .tag nm s p=>.iface 128 (.agg 3 fun i=>[Mq.Data.str nm,.tree s,vD p].getD i .nils)
 | .clo ty b e=>.iface 92 (.agg 3 fun i=>[Mq.Data.bool ty,.tree b,eD e].getD i .nils)
 | .pkd c p=>.iface 130 (.agg 2 fun i=>[Mq.Data.tree c,vD p].getD i .nils)
def vsD:List Vl→List Mq.Data
 | []=>[]
 | v::l=>vD v::vsD l
def eD:Ev→Mq.Data
 | .nil=>.tree .nil
 | .val v e=>.ptr 3 (fun i=>[Mq.Data.tree .nil,vD v,eD e].getD i .nils) 0
 | .con c e=>.ptr 3 (fun i=>[Mq.Data.tree c,.nilI,eD e].getD i .nils) 0
end
def consE:Ev→List Tree
 | .nil=>[]
 | .val _ e=>consE e
 | .con c e=>c::consE e
def atE:Ev→Int→Option Vl
 | .nil,_=>none
 | .con _ e,i=>atE e i
 | .val v e,i=>if i=0 then some v else atE e (i - 1)
def closeL:List Tree→Tree→Tree×Int
 | [],n=>(n,0)
 | c::l,n=>if (substR n 0 c).2=0 then closeL l (substR n 0 c).1 else (.nil,(substR n 0 c).2)
def armF (s:ByteArray):List Tree→Option Tree
 | []=>none
 | x::l=>if x.name=s then some (x.kids.getD 0 .nil) else armF s l
structure Rs where
 v:Vl
 e:Int
 f:Nat
def bad (e:Int)(f:Nat):Rs:=⟨.unt,e,f⟩
def lookM (s:ByteArray):List ByteArray→List Vl→Option Vl
 | l::ls,p::ps=>if l=s then some p else lookM s ls ps
 | _,_=>none
section
variable (ev : Tree → Ev → Nat → Rs) (fo : Tree → ByteArray → Tree → Vl → Ev → Nat → Rs)
end
end Mc
end Go.Proofs.YtlgajkoplklkiaaGreat
namespace Go.Proofs.YtlgajkoplklkiaaGreat
namespace Mc
open Go Go.Mq
def rowD (ds:List Mq.Data):RowC:=.gen ds.length 1 (fun i=>.d (ds.getD i .nils))
end Mc
end Go.Proofs.YtlgajkoplklkiaaGreat
namespace Go.Proofs.YtlgajkoplklkiaaGreat
namespace Mc
open Go Go.Mq
section
variable (Q : Tree → Prop)
end
end Mc
end Go.Proofs.YtlgajkoplklkiaaGreat
namespace Go.Proofs.YtlgajkoplklkiaaGreat
namespace Mc
open Go Go.Mq
end Mc
end Go.Proofs.YtlgajkoplklkiaaGreat
namespace Go.Proofs.YtlgajkoplklkiaaGreat
namespace Tm
open Go Go.Mq
theorem twhole_ok (T:Tree):∀(left:Int),0≤left→left≤65536→Fun P 34 [.d (.tree T),.ref 0 0] [(0,.cells [.d (.int .i64 left)])] 1 (.d (.int .i64 (wholeF left T).1)) [(0,.cells [.d (.int .i64 (wholeF left T).2)])] 1:=by
 induction T using Tree.ind' with
 | h0=>?_
 | h1 T hT ih=>?_
 ·intro left h1 h2
  refine Fun.of_body tt [] [4] Tryz.func34 rfl rfl rfl lb fun g=>?_
  repeat' ((first|refine Ga ?_|refine Gc fun hlen=>?_|refine Gd (fun hc=>?_) fun hc=>?_)<;>conv=>whnf)
  exact ret_objs rfl rfl (int_eq (by rw[wholeF])) ⟨cell_int (by rw[wholeF]),trivial⟩ (Nat.le_refl _)
 ·intro left h1 h2
  have hw:IntKind.i64.wrap (left - 1)=left - 1:=wrap64 (by omega) (by omega)
  refine Fun.of_body tt [] [4] Tryz.func34 rfl rfl rfl lb fun g=>?_
  repeat' ((first|refine Ga ?_|refine Gc fun hlen=>?_|(refine Split.mk (fun hc=>?_) (fun hc=>?_)<;>(try simp only[bytes_eq,bytes_ne,empty_bytes,bytes_bne,bytes_bne']at hc)<;>(try simp only[decide_eq_true_eq,decide_eq_false_iff_not,beq_iff_eq,beq_eq_false_iff_ne,bne_iff_ne,bne_eq_false_iff_eq,Bool.not_eq_true',Bool.not_eq_false',Tree.isNil_iff,Tree.isNil_not,Int.not_lt,Int.not_le,gt_iff_lt,ge_iff_le,ne_eq,Decidable.not_not,Int.toNat_natCast,Int.toNat_zero,Int.toNat_one,hw]at hc)))<;>conv=>whnf)
  ·exact ret_objs rfl rfl (int_eq (by rw[wholeF_kids hT,ifp])) ⟨cell_int (by rw[wholeF_kids hT,ifp,hw]),trivial⟩ (Nat.le_refl _)
  ·refine loop_go (α:=Nat×Int) (fun p=>⟨[(1,.ref 0 0),(22,.d (.trees T.kids)),(23,.d (.int .i64 T.kids.length)),(24,.d (.int .i64 p.1))],35,[(0,.cells [.d (.int .i64 p.2)])],1,g⟩)
    (fun p=>p.1≤T.kids.length∧(0≤p.2∧p.2≤65536)∧wholesF p.2 (T.kids.drop p.1)=wholesF (left - 1) T.kids) (fun p=>T.kids.length - p.1) (0,IntKind.i64.wrap (left - 1)) ⟨by omega,by rw[hw];simp only[];omega,by rw[hw];rfl⟩
    (Ent.go [0]) (fun _=>rfl) fun p hpre=>?_
   obtain⟨hp1,hp2,hp3⟩:=hpre
   repeat' ((first|refine Ga ?_|refine Gc fun hlen=>?_|refine CallG.fun (ih (T.kids.getD p.1 .nil) (getD_mem (by omega)) p.2 (by omega) (by omega)) [0] rfl rfl rfl rfl rfl rfl ⟨⟨rfl,rfl,rfl⟩,trivial⟩ rfl ?_|refine Gd (fun hc=>?_) fun hc=>?_)<;>conv=>whnf)
   ·have hs:=whole_bound (T.kids.getD p.1 .nil) p.2 hp2.1
    rw[drop_step (by omega),wholesF,if_neg hc]at hp3
    exact ret_objs rfl rfl (int_eq (by rw[wholeF_kids hT,ifn,←hp3])) ⟨cell_int (by rw[wholeF_kids hT,ifn,←hp3]),trivial⟩ (Nat.le_refl _)
   ·have hs:=whole_bound (T.kids.getD p.1 .nil) p.2 hp2.1
    rw[drop_step (by omega),wholesF,if_pos hc]at hp3
    exact⟨(p.1+1,(wholeF p.2 (T.kids.getD p.1 .nil)).2),⟨by simp only[];omega,⟨hs.2 hc,by simp only[];omega⟩,hp3⟩,by simp only[];omega,Ent.go [0]⟩
   ·rw[drop_end (by omega),wholesF]at hp3
    exact ret_objs rfl rfl (int_eq (by rw[wholeF_kids hT,ifn,←hp3])) ⟨cell_int (by rw[wholeF_kids hT,ifn,←hp3]),trivial⟩ (Nat.le_refl _)
theorem con_dec {x:Tree}(hz:sizeN x≤65536):(conE x == 0)=isConF x:=by
 cases h:isConF x with
 | true =>
  have:conE x=0:=conE_of h hz
  rw[this];rfl
 | false =>
  have:conE x≠0:=fun e=>by rw[(conE_full e).2]at h;cases h
  simpa using this
theorem kind_dec {x:Tree}(hz:sizeN x≤65536):(kindE x == 0)=isKindF x:=by
 cases h:isKindF x with
 | true =>
  have:kindE x=0:=by
   unfold kindE checkF
   rw[whole_full x (isKindF_plain x h).full 65536 (by omega),if_pos rfl,h];rfl
  rw[this];rfl
 | false =>
  have:kindE x≠0:=fun e=>by rw[(kindE_full e).2]at h;cases h
  simpa using this
theorem tcon_ok (x:Tree)(hz:sizeN x≤65536):Pure P 65 [.d (.tree x)] (.d (.bool (isConF x))):=by
 refine Pure.of_body tt [] [2] Tryz.func65 rfl rfl rfl lb fun g=>?_
 repeat' ((first|refine Ga ?_|refine Gc fun hlen=>?_|refine Ge (check_ok x) ?_|refine Gd (fun hc=>?_) fun hc=>?_)<;>conv=>whnf)
 exact Gf rfl (bool_eq (con_dec hz)) rfl
theorem tkind_ok (x:Tree)(hz:sizeN x≤65536):Pure P 66 [.d (.tree x)] (.d (.bool (isKindF x))):=by
 refine Pure.of_body tt [] [2] Tryz.func66 rfl rfl rfl lb fun g=>?_
 repeat' ((first|refine Ga ?_|refine Gc fun hlen=>?_|refine Ge (kind_ok x) ?_|refine Gd (fun hc=>?_) fun hc=>?_)<;>conv=>whnf)
 exact Gf rfl (bool_eq (kind_dec hz)) rfl
theorem tlabel_ok (s:ByteArray):Pure P 62 [.d (.str s)] (.d (.bool (labelF s))):=by
 refine Pure.of_body tt [] [2] Tryz.func62 rfl rfl rfl lb fun g=>?_
 repeat' ((first|refine Ga ?_|refine Gc fun hlen=>?_|refine Gd (fun hc=>?_) fun hc=>?_)<;>conv=>whnf)
 all_goals refine Gf rfl (bool_eq ?_) rfl
 all_goals (simp_all [-List.getD_eq_getElem?_getD,int_dec,labelF]<;>omega)
def numT (T:Tree):Bool :=
 if T.kind=130 then decide (0≤T.n) && decide (T.n≤65536)
 else if T.kind=131 then decide (-1073741824≤T.n) && decide (T.n≤1073741824)
 else if T.kind=132 then decide (T.n=0) || decide (T.n=1)
 else if T.kind=145 then decide (1≤T.n) && decide (T.n≤5)
 else decide (T.n=0)
theorem number_ok (T:Tree)(hT:T≠.nil):Pure P 63 [.d (.tree T)] (.d (.bool (numT T))):=by
 refine Pure.of_body tt [] [2] Tryz.func63 rfl rfl rfl lb fun g=>?_
 repeat' ((first|refine Ga ?_|refine Gc fun hlen=>?_|refine Gd (fun hc=>?_) fun hc=>?_)<;>conv=>whnf)
 all_goals refine Gf rfl (bool_eq ?_) rfl
 all_goals (unfold numT;simp_all [int_dec]<;>omega)
def allB (b:Nat→Bool):Nat→Nat→Bool
 | _,0=>true
 | i,k+1=>b i && allB b (i+1) k
theorem fns_ren {e n:Nat}{s:Nat→Nat}(fs:List Nat):some (AObj.row e (.gen n 1 fun i=>(fs.map fun f=>AVal.fn f []).getD i .any))=some ((AObj.row e (.gen n 1 fun i=>(fs.map fun f=>AVal.fn f []).getD i .any)).ren s):=by
 have:(fun i=>(fs.map fun f=>AVal.fn f []).getD i .any)=fun i=>((fs.map fun f=>AVal.fn f []).getD i .any).ren s:=by
  funext i
  by_cases h:i < fs.length
  ·simp[h,AVal.ren,renL]
  ·simp[List.getElem?_eq_none (show fs.length≤i by omega),AVal.ren]
 simp only[AObj.ren,RowC.ren]
 rw[←this]
theorem fns_under {k:Nat}(fs:List Nat)(i:Nat):((fs.map fun f=>AVal.fn f []).getD i .any).under k=true:=by
 by_cases h:i < fs.length
 ·simp[h,AVal.under,underL]
 ·simp[List.getElem?_eq_none (show fs.length≤i by omega),AVal.under]
theorem kids_ok (T:Tree)(hT:T≠.nil)(more:Bool)(fs:List Nat)(b:Nat→Bool)(hl:fs.length≤8)(h:∀i,i < fs.length→i < T.kids.length→Pure P (fs.getD i 0) [.d (.tree (T.kids.getD i .nil))] (.d (.bool (b i)))) :
  Fun P 64 [.d (.tree T),.d (.bool more),.row 0 fs.length] [(0,.row 33 (.gen fs.length 1 fun i=>(fs.map fun f=>AVal.fn f []).getD i .any))] 1
   (.d (.bool (decide (fs.length≤T.kids.length) && (more || decide (T.kids.length≤fs.length)) && allB b 0 fs.length))) [] 1:=by
 refine Fun.of_body tt [] [6] Tryz.func64 rfl rfl rfl lb fun g=>?_
 refine then_ent (Ent.regen 0 (.gen fs.length 1 fun i=>.fn (fs.getD i 0) []) rfl rfl rfl ?_) ?_
 ·intro i hi
  have hi:i < fs.length:=by simpa [RowC.len,RowC.sz] using hi
  simp[RowC.cell,hi]
 generalize hn:fs.length=n at *
 repeat' ((first|refine Ga ?_|refine Gc fun hlen=>?_|refine Gd (fun hc=>?_) fun hc=>?_)<;>conv=>whnf)
 ·refine ret_objs rfl rfl (bool_eq ?_) trivial (Nat.le_refl _)
  rw[decide_eq_false (by omega)];rfl
 ·refine ret_objs rfl rfl (bool_eq ?_) trivial (Nat.le_refl _)
  rw[show more=false by assumption,decide_eq_false (show ¬T.kids.length≤n by omega)];simp
 all_goals
  have e:(decide (n≤T.kids.length) && (more || decide (T.kids.length≤n)) && allB b 0 n)=allB b 0 n:=by
   rw[decide_eq_true (by omega:n≤T.kids.length)]
   simp_all
  rw[e]
  refine loop_go (α:=Nat) (fun p=>⟨[(0,.d (.tree T)),(31,.row 0 n),(32,.d (.int .i64 n)),(33,.d (.int .i64 p))],49,[(0,.row 33 (.gen n 1 fun i=>.fn (fs.getD i 0) []))],1,g⟩)
    (fun p=>p≤n∧allB b p (n - p)=allB b 0 n) (fun p=>n - p) 0 ⟨by omega,rfl⟩
    (Ent.re [0] rfl rfl rfl rfl rfl rfl (by repeat' first|exact trivial|apply And.intro|rfl|(refine int_eq ?_;rw[wrap64]<;>omega)) (by repeat' first|exact trivial|apply And.intro|rfl|exact fun i=>rfl)) (fun _=>rfl) fun p hpre=>?_
  obtain⟨hp1,hp2⟩:=hpre
  by_cases hp:p < n
  ·have hx:Pure P (fs.getD (p*1) 0) [.d (.tree (T.kids.getD p .nil))] (.d (.bool (b p))):=by
    rw[Nat.mul_one];exact h p (by omega) (by omega)
   obtain⟨k,hk⟩:∃k,n - p=k+1:=⟨n - p - 1,by omega⟩
   rw[hk,allB]at hp2
   generalize b p=bp at *
   cases bp with
   | true =>
    repeat' ((first|refine Ga ?_|refine Gc fun hlen=>?_|refine Side.mk (show (p:Int).toNat*1 < n from by omega) ?_|refine Ge hx ?_|refine Gd (fun hc=>?_) fun hc=>?_)<;>conv=>whnf)
    exact⟨p+1,⟨by omega,by rw[←hp2,Bool.true_and];congr 1;omega⟩,by omega,Ent.re [0] rfl rfl rfl rfl rfl rfl (by repeat' first|exact trivial|apply And.intro|rfl|(refine int_eq ?_;rw[wrap64]<;>omega)) (by repeat' first|exact trivial|apply And.intro|rfl|exact fun i=>rfl)⟩
   | false =>
    rw[←hp2]
    repeat' ((first|refine Ga ?_|refine Gc fun hlen=>?_|refine Side.mk (show (p:Int).toNat*1 < n from by omega) ?_|refine Ge hx ?_|refine Gd (fun hc=>?_) fun hc=>?_)<;>conv=>whnf)
    exact ret_objs rfl rfl (bool_eq rfl) trivial (Nat.le_refl _)
  ·rw[show n - p=0 by omega]at hp2
   rw[←hp2]
   repeat' ((first|refine Ga ?_|refine Gc fun hlen=>?_|refine Gd (fun hc=>?_) fun hc=>?_)<;>conv=>whnf)
   exact ret_objs rfl rfl (bool_eq rfl) trivial (Nat.le_refl _)
theorem kids0_ok (T:Tree)(hT:T≠.nil):Pure P 64 [.d (.tree T),.d (.bool false),.d .nils] (.d (.bool (decide (T.kids.length=0)))):=by
 refine Pure.of_body tt [] [6] Tryz.func64 rfl rfl rfl lb fun g=>?_
 repeat' ((first|refine Ga ?_|refine Gc fun hlen=>?_|refine Gd (fun hc=>?_) fun hc=>?_)<;>conv=>whnf)
 ·refine Gf rfl (bool_eq ?_) rfl
  rw[decide_eq_false (by omega)]
 ·refine loop_go (α:=Nat) (fun p=>⟨[(32,.d (.int .i64 0)),(33,.d (.int .i64 0))],49,[],0,g⟩) (fun p=>True) (fun p=>0) 0 trivial
    (Ent.go []) (fun _=>rfl) fun p hpre=>?_
  repeat' ((first|refine Ga ?_|refine Gc fun hlen=>?_|refine Gd (fun hc=>?_) fun hc=>?_)<;>conv=>whnf)
  refine Gf rfl (bool_eq ?_) rfl
  rw[decide_eq_true (by omega)]
def pairsF (rise:Bool)(pre:List Tree):List Tree→Bool
 | []=>true
 | x::l=>pre.all (fun y=>okPair rise y.name x.name) && pairsF rise (pre++[x]) l
def namedT (k:Int):Bool:=decide (k=138) || decide (k=146)
def headF (T:Tree):Bool:=decide (T.mark=ByteArray.empty) && (namedT T.kind == !decide (T.name=ByteArray.empty)) && (!namedT T.kind || labelF T.name) && numT T
mutual
def isTermF:Tree→Bool
 | .nil=>false
 | .node k n nm mk l=>headF (.node k n nm mk l) &&
  (if k=130∨k=131∨k=132∨k=133 then decide (l.length=0)
    else if k=134∨k=146 then decide (l.length=2) && isConF (l.getD 0 .nil) && termAt 1 l
    else if k=139 then decide (l.length=2) && isKindF (l.getD 0 .nil) && termAt 1 l
    else if k=135∨k=142∨k=143∨k=145 then decide (l.length=2) && termAt 0 l && termAt 1 l
    else if k=136 then tfieldsAt 137 0 l && pairsF true [] l
    else if k=138 then decide (l.length=1) && termAt 0 l
    else if k=140 then decide (l.length=2) && termAt 0 l && isConF (l.getD 1 .nil)
    else if k=141 then decide (l.length=3) && isConF (l.getD 0 .nil) && termAt 1 l && isConF (l.getD 2 .nil)
    else if k=144 then decide (l.length=3) && termAt 0 l && termAt 1 l && termAt 2 l
    else if k=147 then decide (1 < l.length) && termAt 0 l && tfieldsAt 149 1 l && pairsF false [] (l.drop 1)
    else if k=148 then decide (2 < l.length) && termAt 0 l && isConF (l.getD 1 .nil) && tfieldsAt 149 2 l && pairsF false [] (l.drop 2)
    else false)
def termAt (i:Nat):List Tree→Bool
 | []=>false
 | x::l=>match i with
  | 0=>isTermF x
  | i+1=>termAt i l
def tfieldsAt (kind:Int)(i:Nat):List Tree→Bool
 | []=>true
 | x::l=>match i with
  | 0=>tfieldF kind x && tfieldsAt kind 0 l
  | i+1=>tfieldsAt kind i l
def tfieldF (kind:Int):Tree→Bool
 | .nil=>false
 | .node k n nm mk l=>decide (k=kind) && decide (n=0) && decide (mk=ByteArray.empty) && labelF nm && decide (l.length=1) && termAt 0 l
end
theorem termAt_eq:∀(l:List Tree) (i:Nat),termAt i l=isTermF (l.getD i .nil)
 | [],i=>by rw[termAt];simp[isTermF]
 | x::l,0=>by rw[termAt];rfl
 | x::l,i+1=>by rw[termAt];exact termAt_eq l i
def tfieldsF (kind:Int):List Tree→Bool
 | []=>true
 | x::l=>tfieldF kind x && tfieldsF kind l
theorem tfieldsAt_eq (kind:Int):∀(l:List Tree) (i:Nat),tfieldsAt kind i l=tfieldsF kind (l.drop i)
 | [],i=>by rw[tfieldsAt];simp[tfieldsF]
 | x::l,0=>by rw[tfieldsAt,tfieldsAt_eq kind l 0];rfl
 | x::l,i+1=>by rw[tfieldsAt];exact tfieldsAt_eq kind l i
theorem tfieldF_eq {T:Tree}(h:T≠.nil)(kind:Int):tfieldF kind T=(decide (T.kind=kind) && decide (T.n=0) && decide (T.mark=ByteArray.empty) && labelF T.name && decide (T.kids.length=1) && isTermF (T.kids.getD 0 .nil)):=by
 cases T with
 | nil=>exact absurd rfl h
 | node k n nm mk l=>rw[tfieldF,termAt_eq];rfl
theorem isTermF_eq {T:Tree}(h:T≠.nil):isTermF T=(headF T &&
  (if T.kind=130∨T.kind=131∨T.kind=132∨T.kind=133 then decide (T.kids.length=0)
    else if T.kind=134∨T.kind=146 then decide (T.kids.length=2) && isConF (T.kids.getD 0 .nil) && isTermF (T.kids.getD 1 .nil)
    else if T.kind=139 then decide (T.kids.length=2) && isKindF (T.kids.getD 0 .nil) && isTermF (T.kids.getD 1 .nil)
    else if T.kind=135∨T.kind=142∨T.kind=143∨T.kind=145 then decide (T.kids.length=2) && isTermF (T.kids.getD 0 .nil) && isTermF (T.kids.getD 1 .nil)
    else if T.kind=136 then tfieldsF 137 T.kids && pairsF true [] T.kids
    else if T.kind=138 then decide (T.kids.length=1) && isTermF (T.kids.getD 0 .nil)
    else if T.kind=140 then decide (T.kids.length=2) && isTermF (T.kids.getD 0 .nil) && isConF (T.kids.getD 1 .nil)
    else if T.kind=141 then decide (T.kids.length=3) && isConF (T.kids.getD 0 .nil) && isTermF (T.kids.getD 1 .nil) && isConF (T.kids.getD 2 .nil)
    else if T.kind=144 then decide (T.kids.length=3) && isTermF (T.kids.getD 0 .nil) && isTermF (T.kids.getD 1 .nil) && isTermF (T.kids.getD 2 .nil)
    else if T.kind=147 then decide (1 < T.kids.length) && isTermF (T.kids.getD 0 .nil) && tfieldsF 149 (T.kids.drop 1) && pairsF false [] (T.kids.drop 1)
    else if T.kind=148 then decide (2 < T.kids.length) && isTermF (T.kids.getD 0 .nil) && isConF (T.kids.getD 1 .nil) && tfieldsF 149 (T.kids.drop 2) && pairsF false [] (T.kids.drop 2)
    else false)):=by
 cases T with
 | nil=>exact absurd rfl h
 | node k n nm mk l=>rw[isTermF];simp only[termAt_eq,tfieldsAt_eq];rfl
def labT (kind:Int)(rise:Bool)(pre:List Tree):List Tree→Bool
 | []=>true
 | x::l=>tfieldF kind x && pre.all (fun y=>okPair rise y.name x.name) && labT kind rise (pre++[x]) l
theorem labT_eq (kind:Int)(rise:Bool):∀(l pre:List Tree),labT kind rise pre l=(tfieldsF kind l && pairsF rise pre l)
 | [],pre=>rfl
 | x::l,pre=>by
  rw[labT,tfieldsF,pairsF,labT_eq kind rise l]
  cases tfieldF kind x<;>cases tfieldsF kind l<;>cases pre.all (fun y=>okPair rise y.name x.name)<;>rfl
def lastN (pre:List Tree):ByteArray:=(pre.getLast?.map Tree.name).getD ByteArray.empty
theorem ltB_empty (x:ByteArray):ltB x ByteArray.empty=false:=by
 unfold ltB
 have:ByteArray.empty.toList=[]:=by kernel_rfl
 rw[this]
 cases x.toList<;>rfl
def topN (rise:Bool)(pre:List Tree):Prop:=rise=true→∀y∈pre,y.name=lastN pre∨ltB y.name (lastN pre)=true
theorem lastN_snoc (pre:List Tree)(x:Tree):lastN (pre++[x])=x.name:=by simp[lastN]
def namesR (pre:List Tree):List ByteArray:=(pre.map Tree.name).reverse
theorem memB_names {pre:List Tree}{s:ByteArray}:memB s (namesR pre)=pre.any fun y=>decide (y.name=s):=by
 rw[Bool.eq_iff_iff,memB_iff,List.any_eq_true]
 unfold namesR
 simp only[List.mem_reverse,List.mem_map,decide_eq_true_eq]
theorem bl_total:∀a b:List UInt8,a≠b→Op.bytesLess a b=true∨Op.bytesLess b a=true
 | [],[],h=>absurd rfl h
 | [],_::_,_=>.inl rfl
 | _::_,[],_=>.inr rfl
 | x::a,y::b,h=>by
  simp only[Op.bytesLess,Bool.or_eq_true,Bool.and_eq_true,decide_eq_true_eq,beq_iff_eq]
  by_cases hxy:x=y
  ·subst hxy
   rcases bl_total a b (fun e=>h (by rw[e])) with h1|h1
   ·exact .inl (.inr ⟨rfl,h1⟩)
   ·exact .inr (.inr ⟨rfl,h1⟩)
  ·rcases UInt8.lt_or_lt_of_ne hxy with h1|h1
   ·exact .inl (.inl h1)
   ·exact .inr (.inl h1)
theorem ltB_irr (a:ByteArray):ltB a a=false:=bl_irr _
theorem ltB_total {a b:ByteArray}(h:a≠b):ltB a b=true∨ltB b a=true:=bl_total _ _ (fun e=>h (bytes_eq.1 (by rw[e];exact beq_self_eq_true _)))
theorem lastN_mem {pre:List Tree}(h:pre≠[]):lastN pre∈namesR pre:=by
 unfold lastN namesR
 rw[List.getLast?_eq_some_getLast h]
 simp only[Option.map_some,Option.getD_some,List.mem_reverse,List.mem_map]
 exact⟨_,List.getLast_mem h,rfl⟩
theorem pair_split {rise:Bool}{pre:List Tree}{s:ByteArray}(ht:topN rise pre):pre.all (fun y=>okPair rise y.name s)=(!(memB s (namesR pre)) && (!rise || !(ltB s (lastN pre)))):=by
 rw[memB_names]
 cases rise with
 | false =>
  rw[List.not_any_eq_all_not]
  simp[okPair]
 | true =>
  simp only[okPair_rise,Bool.not_true,Bool.false_or]
  rw[Bool.eq_iff_iff,List.all_eq_true,Bool.and_eq_true,Bool.not_eq_true',Bool.not_eq_true',List.any_eq_false]
  simp only[decide_eq_true_eq]
  constructor
  ·intro h
   refine⟨fun y hy e=>?_,?_⟩
   ·have:=h y hy;rw[e,ltB_irr]at this;cases this
   ·by_cases hp:pre=[]
    ·subst hp;exact ltB_empty s
    ·have hm:=lastN_mem hp
     unfold namesR at hm
     simp only[List.mem_reverse,List.mem_map]at hm
     obtain⟨y,hy,e⟩:=hm
     have:=h y hy
     rw[e]at this
     cases hq:ltB s (lastN pre) with
     | false=>rfl
     | true=>have:=ltB_trans this hq;rw[ltB_irr]at this;cases this
  ·rintro⟨h1,h2⟩ y hy
   have hp:pre≠[]:=by intro e;rw[e]at hy;cases hy
   have hm:=lastN_mem hp
   unfold namesR at hm
   simp only[List.mem_reverse,List.mem_map]at hm
   obtain⟨z,hz,e⟩:=hm
   have hne:lastN pre≠s:=fun e2=>h1 z hz (by rw[e,e2])
   have hlt:ltB (lastN pre) s=true:=by
    rcases ltB_total hne with h|h
    ·exact h
    ·rw[h]at h2;cases h2
   rcases ht rfl y hy with e2|e2
   ·rw[e2];exact hlt
   ·exact ltB_trans e2 hlt
theorem topN_snoc {rise:Bool}{pre:List Tree}{x:Tree}(h:pre.all (fun y=>okPair rise y.name x.name)=true):topN rise (pre++[x]):=by
 intro hr y hy
 rw[lastN_snoc]
 subst hr
 rcases List.mem_append.1 hy with hy|hy
 ·have:=List.all_eq_true.1 h y hy
  rw[okPair_rise]at this
  exact .inr this
 ·exact .inl (by rw[List.mem_singleton.1 hy])
theorem namesR_snoc (pre:List Tree)(x:Tree):namesR (pre++[x])=x.name::namesR pre:=by simp[namesR]
theorem labelled_ok (l:List Tree)(hF:∀x∈l,Full x)(kind:Int)(rise:Bool)(ih:∀x∈l,∀y∈x.kids,Pure P 35 [.d (.tree y)] (.d (.bool (isTermF y)))) :
  Pure P 67 [.d (.trees l),.d (.int .i64 kind),.d (.bool rise)] (.d (.bool (labT kind rise [] l))):=by
 refine Pure.of_body tt [] [6] Tryz.func67 rfl rfl rfl lb fun g=>?_
 repeat' ((first|refine Ga ?_|refine Gc fun hlen=>?_|refine Gd (fun hc=>?_) fun hc=>?_)<;>conv=>whnf)
 refine loop_go (α:=Nat) (fun p=>⟨[(1,.d (.int .i64 kind)),(2,.d (.bool rise)),(7,.mp 0),(8,.d (.str (lastN (l.take p)))),(12,.d (.trees l)),(13,.d (.int .i64 l.length)),(14,.d (.int .i64 p))],83,[(0,.set (namesR (l.take p)))],1,g⟩)
    (fun p=>p≤l.length∧topN rise (l.take p)∧labT kind rise (l.take p) (l.drop p)=labT kind rise [] l) (fun p=>l.length - p) 0 ⟨by omega,fun _ y hy=>by simp at hy,rfl⟩
    (Ent.go [0]) (fun _=>rfl) fun p hpre=>?_
 obtain⟨hp1,hp2,hp3⟩:=hpre
 by_cases hlt:p < l.length
 ·have hmem:=getD_mem hlt
  have hx:=hF _ hmem
  rw[drop_step hlt,labT,tfieldF_eq hx.ne,take_step hlt,pair_split hp2]at hp3
  have hk:=kids_ok (l.getD p .nil) hx.ne false [35] (fun _=>isTermF ((l.getD p .nil).kids.getD 0 .nil)) (by decide) (fun i hi hi2=>by
   have:i=0:=by simp only[List.length_singleton]at hi;omega
   subst this
   exact ih _ hmem _ (getD_mem hi2))
  have hkb:(decide ([35].length≤(l.getD p .nil).kids.length) && (false || decide ((l.getD p .nil).kids.length≤[35].length)) && allB (fun _=>isTermF ((l.getD p .nil).kids.getD 0 .nil)) 0 [35].length)=(decide ((l.getD p .nil).kids.length=1) && isTermF ((l.getD p .nil).kids.getD 0 .nil)):=by
   rw[Bool.eq_iff_iff]
   simp only[List.length_singleton,allB,Bool.and_eq_true,decide_eq_true_eq,Bool.or_eq_true,Bool.and_true]
   constructor
   ·rintro⟨⟨h1,h2⟩,h3⟩
    exact⟨by
     rcases h2 with h2|h2;· cases h2
     ·omega,h3⟩
   ·rintro⟨h1,h2⟩
    exact⟨⟨by omega,.inr (by omega)⟩,h2⟩
  rw[hkb]at hk
  have hps:=pair_split (s:=(l.getD p .nil).name) hp2
  have hln:lastN (l.take (p+1))=(l.getD p .nil).name:=by rw[←take_step hlt,lastN_snoc]
  have hnm:namesR (l.take (p+1))=(l.getD p .nil).name::namesR (l.take p):=by rw[←take_step hlt,namesR_snoc]
  repeat' ((first|refine Ga ?_|refine Gc fun hlen=>?_|refine Side.mk hx.ne ?_|refine Ge (tlabel_ok _) ?_|refine CallG.fun hk [1] rfl rfl rfl rfl rfl rfl ⟨⟨rfl,fns_ren [35],fns_under [35]⟩,trivial⟩ rfl ?_|refine Gd (fun hc=>?_) fun hc=>?_)<;>conv=>whnf)
  all_goals first
   | (refine Gf rfl (bool_eq ?_) rfl;rw[←hp3];simp_all [-List.getD_eq_getElem?_getD,int_dec,ltB];done)
   | (refine Gf rfl (bool_eq ?_) rfl;rw[←hp3];simp_all [-List.getD_eq_getElem?_getD,int_dec,ltB];omega)
   | (refine⟨p+1,⟨by omega,(by rw[←take_step hlt];refine topN_snoc ?_;rw[hps];simp_all [-List.getD_eq_getElem?_getD,int_dec,ltB]),(by rw[←hp3];simp_all [-List.getD_eq_getElem?_getD,int_dec,ltB])⟩,by omega,Ent.re [0] rfl rfl rfl rfl rfl rfl (by repeat' first|exact trivial|apply And.intro|rfl|(rw[hln];rfl)|(refine int_eq ?_;rw[wrap64]<;>omega)) (by repeat' first|exact trivial|apply And.intro|rfl|(rw[hnm];rfl))⟩;done)
   | trace_state
 ·repeat' ((first|refine Ga ?_|refine Gc fun hlen=>?_|refine Gd (fun hc=>?_) fun hc=>?_)<;>conv=>whnf)
  refine Gf rfl (bool_eq ?_) rfl
  rw[←hp3,drop_end (by omega),labT]
end Tm
end Go.Proofs.YtlgajkoplklkiaaGreat
namespace Go.Proofs.YtlgajkoplklkiaaGreat
namespace Tm
open Go Go.Mq
theorem lenq (n k:Nat):(decide (k≤n) && decide (n≤k))=decide (n=k):=by
 rw[Bool.eq_iff_iff];simp;omega
theorem arms_ok (T:Tree)(hF:Full T)(i:Nat)(hi:i≤8)(ih:∀x∈T.kids,∀y∈x.kids,Pure P 35 [.d (.tree y)] (.d (.bool (isTermF y)))) :
  Pure P 68 [.d (.tree T),.d (.int .i64 i)] (.d (.bool (decide (i < T.kids.length) && labT 149 false [] (T.kids.drop i)))):=by
 have hT:=hF.ne
 have hl:=labelled_ok (T.kids.drop i) (fun x hx=>hF.kids x (List.mem_of_mem_drop hx)) 149 false (fun x hx=>ih x (List.mem_of_mem_drop hx))
 refine Pure.of_body tt [] [4] Tryz.func68 rfl rfl rfl lb fun g=>?_
 repeat' ((first|refine Ga ?_|refine Gc fun hlen=>?_|refine Side.mk (show (0:Int)≤(i:Int)∧(i:Int)≤(T.kids.length:Int) from by omega) ?_|refine Ge hl ?_|refine Gd (fun hc=>?_) fun hc=>?_)<;>conv=>whnf)
 ·refine Gf rfl (bool_eq ?_) rfl
  rw[decide_eq_true (by omega),Bool.true_and]
 ·refine Gf rfl (bool_eq ?_) rfl
  rw[decide_eq_false (by omega)];rfl
theorem isTerm_ok (T:Tree)(hF:Full T)(hz:sizeN T≤65536):Pure P 35 [.d (.tree T)] (.d (.bool (isTermF T))):=by
 suffices h:Pure P 35 [.d (.tree T)] (.d (.bool (isTermF T)))∧∀x∈T.kids,Pure P 35 [.d (.tree x)] (.d (.bool (isTermF x))) from h.1
 induction T using Tree.ind' with
 | h0=>exact absurd rfl hF.ne
 | h1 T hT ih=>?_
 have hsz:=sizeN_kids hT
 have hzx:∀x∈T.kids,sizeN x≤65536:=fun x hx=>by have:=sizesN_mem hx;omega
 refine⟨?_,fun x hx=>(ih x hx (hF.kids x hx) (hzx x hx)).1⟩
 have ih1:∀x∈T.kids,Pure P 35 [.d (.tree x)] (.d (.bool (isTermF x))):=fun x hx=>(ih x hx (hF.kids x hx) (hzx x hx)).1
 have ih2:∀x∈T.kids,∀y∈x.kids,Pure P 35 [.d (.tree y)] (.d (.bool (isTermF y))):=fun x hx=>(ih x hx (hF.kids x hx) (hzx x hx)).2
 have hl:=labelled_ok T.kids hF.kids 137 true ih2
 have ha1:=arms_ok T hF 1 (by decide) ih2
 have ha2:=arms_ok T hF 2 (by decide) ih2
 clear ih
 have k0:=kids0_ok T hT
 have kc:∀i,i < T.kids.length→Pure P 65 [.d (.tree (T.kids.getD i .nil))] (.d (.bool (isConF (T.kids.getD i .nil)))):=fun i hi=>tcon_ok _ (hzx _ (getD_mem hi))
 have kk:∀i,i < T.kids.length→Pure P 66 [.d (.tree (T.kids.getD i .nil))] (.d (.bool (isKindF (T.kids.getD i .nil)))):=fun i hi=>tkind_ok _ (hzx _ (getD_mem hi))
 have kt:∀i,i < T.kids.length→Pure P 35 [.d (.tree (T.kids.getD i .nil))] (.d (.bool (isTermF (T.kids.getD i .nil)))):=fun i hi=>ih1 _ (getD_mem hi)
 have K1:=fun more=>kids_ok T hT more [35] (fun i=>isTermF (T.kids.getD i .nil)) (by decide) (fun i hi h2=>by
  simp only[List.length_cons,List.length_nil]at hi
  match i,hi with
  | 0,_=>exact kt 0 h2)
 have Kct:=fun more=>kids_ok T hT more [65,35] (fun i=>if i=0 then isConF (T.kids.getD i .nil) else isTermF (T.kids.getD i .nil)) (by decide) (fun i hi h2=>by
  simp only[List.length_cons,List.length_nil]at hi
  match i,hi with
  | 0,_=>exact kc 0 h2
  | 1,_=>exact kt 1 h2)
 have Kkt:=fun more=>kids_ok T hT more [66,35] (fun i=>if i=0 then isKindF (T.kids.getD i .nil) else isTermF (T.kids.getD i .nil)) (by decide) (fun i hi h2=>by
  simp only[List.length_cons,List.length_nil]at hi
  match i,hi with
  | 0,_=>exact kk 0 h2
  | 1,_=>exact kt 1 h2)
 have Ktt:=fun more=>kids_ok T hT more [35,35] (fun i=>isTermF (T.kids.getD i .nil)) (by decide) (fun i hi h2=>by
  simp only[List.length_cons,List.length_nil]at hi
  match i,hi with
  | 0,_=>exact kt 0 h2
  | 1,_=>exact kt 1 h2)
 have Ktc:=fun more=>kids_ok T hT more [35,65] (fun i=>if i=0 then isTermF (T.kids.getD i .nil) else isConF (T.kids.getD i .nil)) (by decide) (fun i hi h2=>by
  simp only[List.length_cons,List.length_nil]at hi
  match i,hi with
  | 0,_=>exact kt 0 h2
  | 1,_=>exact kc 1 h2)
 have Kctc:=fun more=>kids_ok T hT more [65,35,65] (fun i=>if i=1 then isTermF (T.kids.getD i .nil) else isConF (T.kids.getD i .nil)) (by decide) (fun i hi h2=>by
  simp only[List.length_cons,List.length_nil]at hi
  match i,hi with
  | 0,_=>exact kc 0 h2
  | 1,_=>exact kt 1 h2
  | 2,_=>exact kc 2 h2)
 have Kttt:=fun more=>kids_ok T hT more [35,35,35] (fun i=>isTermF (T.kids.getD i .nil)) (by decide) (fun i hi h2=>by
  simp only[List.length_cons,List.length_nil]at hi
  match i,hi with
  | 0,_=>exact kt 0 h2
  | 1,_=>exact kt 1 h2
  | 2,_=>exact kt 2 h2)
 clear ih1 ih2 kc kk kt
 have hnum:=number_ok T hT
 simp only[List.length_cons,List.length_nil]at K1 Kct Kkt Ktt Ktc Kctc Kttt
 refine Pure.of_body tt [] [2] Tryz.func35 rfl rfl rfl lb fun g=>?_
 repeat' ((first|refine Ga ?_|refine Gc fun hlen=>?_|refine Ge (tlabel_ok _) ?_|refine Ge hnum ?_|refine Ge k0 ?_|refine Ge hl ?_|refine Ge ha1 ?_|refine Ge ha2 ?_|refine CallG.fun (K1 _) [0] rfl rfl rfl rfl rfl rfl ⟨⟨rfl,fns_ren [35],fns_under [35]⟩,trivial⟩ rfl ?_|refine CallG.fun (Kct _) [0] rfl rfl rfl rfl rfl rfl ⟨⟨rfl,fns_ren [65,35],fns_under [65,35]⟩,trivial⟩ rfl ?_|refine CallG.fun (Kkt _) [0] rfl rfl rfl rfl rfl rfl ⟨⟨rfl,fns_ren [66,35],fns_under [66,35]⟩,trivial⟩ rfl ?_|refine CallG.fun (Ktt _) [0] rfl rfl rfl rfl rfl rfl ⟨⟨rfl,fns_ren [35,35],fns_under [35,35]⟩,trivial⟩ rfl ?_|refine CallG.fun (Ktc _) [0] rfl rfl rfl rfl rfl rfl ⟨⟨rfl,fns_ren [35,65],fns_under [35,65]⟩,trivial⟩ rfl ?_|refine CallG.fun (Kctc _) [0] rfl rfl rfl rfl rfl rfl ⟨⟨rfl,fns_ren [65,35,65],fns_under [65,35,65]⟩,trivial⟩ rfl ?_|refine CallG.fun (Kttt _) [0] rfl rfl rfl rfl rfl rfl ⟨⟨rfl,fns_ren [35,35,35],fns_under [35,35,35]⟩,trivial⟩ rfl ?_|refine Gd (fun hc=>?_) fun hc=>?_)<;>conv=>whnf)
 all_goals refine Gf rfl (bool_eq ?_) rfl
 all_goals clear k0 hl ha1 ha2 K1 Kct Kkt Ktt Ktc Kctc Kttt hnum hsz hzx
 all_goals rw[isTermF_eq hT]
 all_goals first
  | (simp only[bytes_dec]at *;simp_all [-List.getD_eq_getElem?_getD,int_dec,headF,namedT,allB,labT_eq,lenq,Bool.and_assoc];done)
  | (simp_all [-List.getD_eq_getElem?_getD,int_dec,headF];done)
  | (simp only[bytes_dec]at *;simp_all [-List.getD_eq_getElem?_getD,int_dec,headF,namedT,allB,labT_eq,lenq,Bool.and_assoc];intro h1;have h2:=(show 1≤T.kids.length→isTermF (T.kids.getD 0 .nil)=false from by assumption) (by omega);simp_all;done)
  | (simp only[bytes_dec]at *;simp_all [-List.getD_eq_getElem?_getD,int_dec,headF,namedT,allB,labT_eq,lenq,Bool.and_assoc];intro h1 h3;have h2:=(show 2≤T.kids.length→isTermF (T.kids.getD 0 .nil)=true→isConF (T.kids.getD 1 .nil)=false from by assumption) (by omega) h3;simp_all;done)
def Shw (T:Tree):Prop:=Sh T∨isTermF T=true∨tfieldF 137 T=true∨tfieldF 149 T=true
theorem Shw.ne {T:Tree}(h:Shw T):T≠.nil:=by
 intro e
 subst e
 rcases h with (h|h)|h|h|h
 ·rw[isConF]at h;cases h
 ·rw[isKindF]at h;cases h
 ·rw[isTermF]at h;cases h
 ·rw[tfieldF]at h;cases h
 ·rw[tfieldF]at h;cases h
theorem con_lt {T:Tree}(h:Sh T):T.kind < 130:=by
 rcases h with h|h
 ·have hT:T≠.nil:=by intro e;subst e;rw[isConF]at h;cases h
  rw[isConF_eq hT,Bool.and_eq_true]at h
  obtain⟨_,h⟩:=h
  apply Decidable.byContradiction
  intro hn
  rw[ifn,ifn,ifn,ifn,ifn,ifn]at h
  cases h
 ·have hT:T≠.nil:=by intro e;subst e;rw[isKindF]at h;cases h
  rw[isKindF_eq hT]at h
  apply Decidable.byContradiction
  intro hn
  rw[ifn,ifn]at h
  cases h
structure HeadP (T:Tree):Prop where
 ne:T≠.nil
 kind:130≤T.kind∧T.kind≤148∧T.kind≠137
 n130:T.kind=130→0≤T.n∧T.n≤65536
 n131:T.kind=131 → -1073741824≤T.n∧T.n≤1073741824
 n132:T.kind=132→T.n=0∨T.n=1
 n145:T.kind=145→1≤T.n∧T.n≤5
 size:T.name.size≤160
 name:(T.kind=138∨T.kind=146)↔T.name≠ByteArray.empty
theorem tfieldsF_mem {kind:Int}:∀{l:List Tree},tfieldsF kind l=true→∀x∈l,tfieldF kind x=true
 | [],_,x,hx=>by cases hx
 | y::l,h,x,hx=>by
  rw[tfieldsF,Bool.and_eq_true]at h
  rcases List.mem_cons.1 hx with rfl|hx
  ·exact h.1
  ·exact tfieldsF_mem h.2 x hx
theorem mem_three {l:List Tree}(h:l.length=3){x:Tree}(hx:x∈l):x=l.getD 0 .nil∨x=l.getD 1 .nil∨x=l.getD 2 .nil:=by
 match l,h with
 | [a,b,c],_=>simpa using hx
theorem mem_dropped {l:List Tree}{x:Tree}(hx:x∈l)(k:Nat)(hk:k≤l.length):(∃i,i < k∧x=l.getD i .nil)∨x∈l.drop k:=by
 rw[←List.take_append_drop k l]at hx
 rcases List.mem_append.1 hx with hx|hx
 ·obtain⟨i,hi,rfl⟩:=List.getElem_of_mem hx
  have hi':i < k:=by simp at hi;omega
  refine .inl ⟨i,hi',?_⟩
  rw[List.getElem_take,List.getD_eq_getElem?_getD,List.getElem?_eq_getElem (by omega)];rfl
 ·exact .inr hx
theorem label_size {s:ByteArray}(h:labelF s=true):1≤s.size∧s.size≤160:=by
 unfold labelF at h
 simp only[Bool.and_eq_true,decide_eq_true_eq]at h
 omega
theorem term_head {T:Tree}(h:isTermF T=true):HeadP T∧∀x∈T.kids,Shw x:=by
 have hT:T≠.nil:=by intro e;subst e;rw[isTermF]at h;cases h
 rw[isTermF_eq hT,Bool.and_eq_true]at h
 obtain⟨hh,h⟩:=h
 unfold headF at hh
 simp only[Bool.and_eq_true,decide_eq_true_eq,beq_iff_eq,Bool.or_eq_true]at hh
 obtain⟨⟨⟨h1,h2⟩,h3⟩,h4⟩:=hh
 have hkind:T.kind=130∨T.kind=131∨T.kind=132∨T.kind=133∨T.kind=134∨T.kind=146∨T.kind=139∨T.kind=135∨T.kind=142∨T.kind=143∨T.kind=145∨T.kind=136∨T.kind=138∨T.kind=140∨T.kind=141∨T.kind=144∨T.kind=147∨T.kind=148:=by
  apply Decidable.byContradiction
  intro hn
  rw[ifn,ifn,ifn,ifn,ifn,ifn,ifn,ifn,ifn,ifn,ifn]at h
  cases h
 have hnm:(T.kind=138∨T.kind=146)↔T.name≠ByteArray.empty:=by
  unfold namedT at h2
  by_cases hq:T.name=ByteArray.empty
  ·rw[decide_eq_true hq]at h2
   simp only[Bool.not_true,Bool.or_eq_false_iff,decide_eq_false_iff_not]at h2
   exact⟨fun hk=>absurd hk (by omega),fun hk=>absurd hq hk⟩
  ·rw[decide_eq_false hq]at h2
   simp only[Bool.not_false,Bool.or_eq_true,decide_eq_true_eq]at h2
   exact⟨fun _=>hq,fun _=>h2⟩
 have hsz:T.name.size≤160:=by
  by_cases hq:T.name=ByteArray.empty
  ·rw[hq];decide
  ·have hk:=hnm.2 hq
   have:namedT T.kind=true:=by unfold namedT;simpa using hk
   rw[this]at h3
   rcases h3 with h3|h3
   ·cases h3
   ·exact (label_size h3).2
 unfold numT at h4
 refine⟨⟨hT,by omega,fun hk=>?_,fun hk=>?_,fun hk=>?_,fun hk=>?_,hsz,hnm⟩,fun x hx=>?_⟩
 ·rw[if_pos hk]at h4;simpa using h4
 ·rw[ifn,if_pos hk]at h4;simpa using h4
 ·rw[ifn,ifn,if_pos hk]at h4;simpa using h4
 ·rw[ifn,ifn,ifn,if_pos hk]at h4;simpa using h4
 ·clear h1 h2 h3 h4 hnm hsz
  rcases hkind with hk|hk|hk|hk|hk|hk|hk|hk|hk|hk|hk|hk|hk|hk|hk|hk|hk|hk
  all_goals simp[hk,-List.getD_eq_getElem?_getD]at h
  all_goals first
   | (rw[h]at hx;cases hx;done)
   | (rw[mem_one h.1 hx];exact .inr (.inl h.2))
   | (rcases mem_two h.1.1 hx with e|e
      ·rw[e];first|exact .inl (.inl h.1.2)|exact .inl (.inr h.1.2)|exact .inr (.inl h.1.2)
      ·rw[e];first|exact .inl (.inl h.2)|exact .inr (.inl h.2))
   | exact .inr (.inr (.inl (tfieldsF_mem h.1 x hx)))
   | (rcases mem_three h.1.1.1 hx with e|e|e
      ·rw[e];first|exact .inl (.inl h.1.1.2)|exact .inr (.inl h.1.1.2)
      ·rw[e];exact .inr (.inl h.1.2)
      ·rw[e];first|exact .inl (.inl h.2)|exact .inr (.inl h.2))
   | skip
  ·rcases mem_dropped hx 1 (by omega) with⟨i,hi,e⟩|hx
   ·have:i=0:=by omega
    subst this
    rw[e];exact .inr (.inl h.1.1.2)
   ·exact .inr (.inr (.inr (tfieldsF_mem h.1.2 x (by simpa using hx))))
  ·rcases mem_dropped hx 2 (by omega) with⟨i,hi,e⟩|hx
   ·match i,hi with
    | 0,_=>rw[e];exact .inr (.inl h.1.1.1.2)
    | 1,_=>rw[e];exact .inl (.inl h.1.1.2)
   ·exact .inr (.inr (.inr (tfieldsF_mem h.1.2 x hx)))
theorem tfield_parts {kind:Int}{T:Tree}(h:tfieldF kind T=true):T≠.nil∧T.kind=kind∧T.name.size≤160∧T.kids.length=1∧isTermF (T.kids.getD 0 .nil)=true:=by
 have hT:T≠.nil:=by intro e;subst e;rw[tfieldF]at h;cases h
 rw[tfieldF_eq hT]at h
 simp only[Bool.and_eq_true,decide_eq_true_eq]at h
 exact⟨hT,h.1.1.1.1.1,(label_size h.1.1.2).2,h.1.2,h.2⟩
def cPct:ByteArray:=⟨#[37]⟩
def cTrue:ByteArray:=⟨#[116,114,117,101]⟩
def cFalse:ByteArray:=⟨#[102,97,108,115,101]⟩
def cUnitV:ByteArray:=⟨#[40,32,41]⟩
def cBr:ByteArray:=⟨#[91,32]⟩
def cKet:ByteArray:=⟨#[93]⟩
def wordK (k:Int):ByteArray :=
 if k=134 then⟨#[108,97,109]⟩ else if k=135 then⟨#[97,112,112]⟩ else if k=136 then⟨#[114,101,99]⟩ else if k=138 then⟨#[112,114,111,106,32]⟩ else if k=139 then⟨#[116,108,97,109]⟩ else if k=140 then⟨#[116,97,112,112]⟩
 else if k=141 then⟨#[112,97,99,107]⟩ else if k=142 then⟨#[117,110,112,97,99,107]⟩ else if k=143 then⟨#[108,101,116]⟩ else if k=144 then⟨#[105,102]⟩ else if k=145 then⟨#[111,112,32]⟩ else if k=146 then⟨#[105,110,32]⟩ else if k=147 then⟨#[99,97,115,101]⟩ else if k=148 then⟨#[102,111,108,100]⟩ else ByteArray.empty
theorem wordK_size (k:Int):(wordK k).size≤6:=by
 unfold wordK
 by_cases h134:k=134
 ·rw[if_pos h134];decide
 rw[if_neg h134]
 by_cases h135:k=135
 ·rw[if_pos h135];decide
 rw[if_neg h135]
 by_cases h136:k=136
 ·rw[if_pos h136];decide
 rw[if_neg h136]
 by_cases h138:k=138
 ·rw[if_pos h138];decide
 rw[if_neg h138]
 by_cases h139:k=139
 ·rw[if_pos h139];decide
 rw[if_neg h139]
 by_cases h140:k=140
 ·rw[if_pos h140];decide
 rw[if_neg h140]
 by_cases h141:k=141
 ·rw[if_pos h141];decide
 rw[if_neg h141]
 by_cases h142:k=142
 ·rw[if_pos h142];decide
 rw[if_neg h142]
 by_cases h143:k=143
 ·rw[if_pos h143];decide
 rw[if_neg h143]
 by_cases h144:k=144
 ·rw[if_pos h144];decide
 rw[if_neg h144]
 by_cases h145:k=145
 ·rw[if_pos h145];decide
 rw[if_neg h145]
 by_cases h146:k=146
 ·rw[if_pos h146];decide
 rw[if_neg h146]
 by_cases h147:k=147
 ·rw[if_pos h147];decide
 rw[if_neg h147]
 by_cases h148:k=148
 ·rw[if_pos h148];decide
 rw[if_neg h148]
 decide
theorem side_word {w nm:ByteArray}(hw:w.size≤6)(hn:nm.size≤160):w.size+nm.size≤9223372036854775807:=by omega
theorem side_word2 {w nm q:ByteArray}(hw:w.size≤6)(hn:nm.size≤160)(hq:q.size≤7):(w++nm).size+q.size≤9223372036854775807:=by rw[ByteArray.size_append];omega
def wordF (T:Tree):ByteArray:=if T.kind=145 then (wordK T.kind++T.name)++numF T.n else wordK T.kind++T.name
theorem numF_five {n:Int}(h0:1≤n)(h1:n≤5):(numF n).size≤7:=numF_size2 (by omega) (by omega)
theorem numF_big {n:Int}(h0 : -1073741824≤n)(h1:n≤1073741824):(numF n).size≤11:=by
 have h2:=sign_size n
 have h3:=bytesOf_size (digR n.natAbs).reverse
 have h4:=digR_len2 9 n.natAbs (by omega)
 rw[List.length_reverse]at h3
 rw[numF,ByteArray.size_append]
 omega
theorem wordF_size {T:Tree}(h:HeadP T):(wordF T).size≤173:=by
 have h1:=wordK_size T.kind
 have h2:=h.size
 unfold wordF
 split
 ·rename_i hk
  have:=h.n145 hk
  have:=numF_five this.1 this.2
  rw[ByteArray.size_append,ByteArray.size_append];omega
 ·rw[ByteArray.size_append];omega
theorem word_ok (T:Tree)(h:HeadP T)(hk:134≤T.kind):Pure P 60 [.d (.tree T)] (.d (.str (wordF T))):=by
 have hh:=h
 obtain⟨h1,h2,_,_,_,h6,h7,_⟩:=h
 have hkk:T.kind=134∨T.kind=135∨T.kind=136∨T.kind=138∨T.kind=139∨T.kind=140∨T.kind=141∨T.kind=142∨T.kind=143∨T.kind=144∨T.kind=145∨T.kind=146∨T.kind=147∨T.kind=148:=by omega
 cases T with
 | nil=>exact absurd rfl h1
 | node k n nm mk l =>
  simp only[Tree.kind,Tree.n,Tree.name]at h6 h7 hkk
  clear h2 hk
  refine Pure.of_body tt [] [2] Tryz.func60 rfl rfl rfl lb fun g=>?_
  rcases hkk with rfl|rfl|rfl|rfl|rfl|rfl|rfl|rfl|rfl|rfl|rfl|rfl|rfl|rfl
  ·repeat' ((first|refine Ga ?_|refine Gc fun hlen=>?_|refine Side.mk (show (0:Int)≤IntKind.i64.wrap (134 - 134)∧IntKind.i64.wrap (134 - 134) < 15 from by decide) ?_|refine Side.mk (side_word (by decide) h7) ?_|refine Gd (fun hc=>?_) fun hc=>?_)<;>conv=>whnf)
   exact Gg
  ·repeat' ((first|refine Ga ?_|refine Gc fun hlen=>?_|refine Side.mk (show (0:Int)≤IntKind.i64.wrap (135 - 134)∧IntKind.i64.wrap (135 - 134) < 15 from by decide) ?_|refine Side.mk (side_word (by decide) h7) ?_|refine Gd (fun hc=>?_) fun hc=>?_)<;>conv=>whnf)
   exact Gg
  ·repeat' ((first|refine Ga ?_|refine Gc fun hlen=>?_|refine Side.mk (show (0:Int)≤IntKind.i64.wrap (136 - 134)∧IntKind.i64.wrap (136 - 134) < 15 from by decide) ?_|refine Side.mk (side_word (by decide) h7) ?_|refine Gd (fun hc=>?_) fun hc=>?_)<;>conv=>whnf)
   exact Gg
  ·repeat' ((first|refine Ga ?_|refine Gc fun hlen=>?_|refine Side.mk (show (0:Int)≤IntKind.i64.wrap (138 - 134)∧IntKind.i64.wrap (138 - 134) < 15 from by decide) ?_|refine Side.mk (side_word (by decide) h7) ?_|refine Gd (fun hc=>?_) fun hc=>?_)<;>conv=>whnf)
   exact Gg
  ·repeat' ((first|refine Ga ?_|refine Gc fun hlen=>?_|refine Side.mk (show (0:Int)≤IntKind.i64.wrap (139 - 134)∧IntKind.i64.wrap (139 - 134) < 15 from by decide) ?_|refine Side.mk (side_word (by decide) h7) ?_|refine Gd (fun hc=>?_) fun hc=>?_)<;>conv=>whnf)
   exact Gg
  ·repeat' ((first|refine Ga ?_|refine Gc fun hlen=>?_|refine Side.mk (show (0:Int)≤IntKind.i64.wrap (140 - 134)∧IntKind.i64.wrap (140 - 134) < 15 from by decide) ?_|refine Side.mk (side_word (by decide) h7) ?_|refine Gd (fun hc=>?_) fun hc=>?_)<;>conv=>whnf)
   exact Gg
  ·repeat' ((first|refine Ga ?_|refine Gc fun hlen=>?_|refine Side.mk (show (0:Int)≤IntKind.i64.wrap (141 - 134)∧IntKind.i64.wrap (141 - 134) < 15 from by decide) ?_|refine Side.mk (side_word (by decide) h7) ?_|refine Gd (fun hc=>?_) fun hc=>?_)<;>conv=>whnf)
   exact Gg
  ·repeat' ((first|refine Ga ?_|refine Gc fun hlen=>?_|refine Side.mk (show (0:Int)≤IntKind.i64.wrap (142 - 134)∧IntKind.i64.wrap (142 - 134) < 15 from by decide) ?_|refine Side.mk (side_word (by decide) h7) ?_|refine Gd (fun hc=>?_) fun hc=>?_)<;>conv=>whnf)
   exact Gg
  ·repeat' ((first|refine Ga ?_|refine Gc fun hlen=>?_|refine Side.mk (show (0:Int)≤IntKind.i64.wrap (143 - 134)∧IntKind.i64.wrap (143 - 134) < 15 from by decide) ?_|refine Side.mk (side_word (by decide) h7) ?_|refine Gd (fun hc=>?_) fun hc=>?_)<;>conv=>whnf)
   exact Gg
  ·repeat' ((first|refine Ga ?_|refine Gc fun hlen=>?_|refine Side.mk (show (0:Int)≤IntKind.i64.wrap (144 - 134)∧IntKind.i64.wrap (144 - 134) < 15 from by decide) ?_|refine Side.mk (side_word (by decide) h7) ?_|refine Gd (fun hc=>?_) fun hc=>?_)<;>conv=>whnf)
   exact Gg
  ·have hn:=Go.Proofs.YtlgajkoplklkiaaGreat.number_ok n (by have:=h6 rfl;omega) (by have:=h6 rfl;omega)
   have hnz:=numF_five (h6 rfl).1 (h6 rfl).2
   repeat' ((first|refine Ga ?_|refine Gc fun hlen=>?_|refine Side.mk (show (0:Int)≤IntKind.i64.wrap (145 - 134)∧IntKind.i64.wrap (145 - 134) < 15 from by decide) ?_|refine Side.mk (side_word (by decide) h7) ?_|refine Side.mk (side_word2 (by decide) h7 hnz) ?_|refine Ge hn ?_|refine Gd (fun hc=>?_) fun hc=>?_)<;>conv=>whnf)
   exact Gg
  ·repeat' ((first|refine Ga ?_|refine Gc fun hlen=>?_|refine Side.mk (show (0:Int)≤IntKind.i64.wrap (146 - 134)∧IntKind.i64.wrap (146 - 134) < 15 from by decide) ?_|refine Side.mk (side_word (by decide) h7) ?_|refine Gd (fun hc=>?_) fun hc=>?_)<;>conv=>whnf)
   exact Gg
  ·repeat' ((first|refine Ga ?_|refine Gc fun hlen=>?_|refine Side.mk (show (0:Int)≤IntKind.i64.wrap (147 - 134)∧IntKind.i64.wrap (147 - 134) < 15 from by decide) ?_|refine Side.mk (side_word (by decide) h7) ?_|refine Gd (fun hc=>?_) fun hc=>?_)<;>conv=>whnf)
   exact Gg
  ·repeat' ((first|refine Ga ?_|refine Gc fun hlen=>?_|refine Side.mk (show (0:Int)≤IntKind.i64.wrap (148 - 134)∧IntKind.i64.wrap (148 - 134) < 15 from by decide) ?_|refine Side.mk (side_word (by decide) h7) ?_|refine Gd (fun hc=>?_) fun hc=>?_)<;>conv=>whnf)
   exact Gg
mutual
def ttextF:Tree→ByteArray
 | .nil=>ByteArray.empty
 | .node k n nm mk l =>
  if k < 130 then textF (.node k n nm mk l)
  else if k=137∨k=149 then (nm++cEq)++ttextAt l
  else if k=130 then cPct++numF n
  else if k=131 then numF n
  else if k=132 then (if n=1 then cTrue else cFalse)
  else if k=133 then cUnitV
  else (cBr++wordF (.node k n nm mk l))++restF l
def ttextAt:List Tree→ByteArray
 | []=>ByteArray.empty
 | x::_=>ttextF x
def restF:List Tree→ByteArray
 | []=>cBlank++cKet
 | x::l=>(cBlank++ttextF x)++restF l
end
theorem ttextAt_eq:∀l:List Tree,ttextAt l=ttextF (l.getD 0 .nil)
 | []=>by rw[ttextAt];simp[ttextF]
 | x::l=>by rw[ttextAt];rfl
theorem ttextF_eq {T:Tree}(h:T≠.nil):ttextF T =
  if T.kind < 130 then textF T
  else if T.kind=137∨T.kind=149 then (T.name++cEq)++ttextF (T.kids.getD 0 .nil)
  else if T.kind=130 then cPct++numF T.n
  else if T.kind=131 then numF T.n
  else if T.kind=132 then (if T.n=1 then cTrue else cFalse)
  else if T.kind=133 then cUnitV
  else (cBr++wordF T)++restF T.kids:=by
 cases T with
 | nil=>exact absurd rfl h
 | node=>rw[ttextF,ttextAt_eq];rfl
theorem cs3:cPct.size=1∧cTrue.size=4∧cFalse.size=5∧cUnitV.size=3∧cBr.size=2∧cKet.size=1∧cBlank.size=1∧cEq.size=3:=⟨rfl,rfl,rfl,rfl,rfl,rfl,rfl,rfl⟩
theorem rest_size:∀l:List Tree,(∀x∈l,(ttextF x).size+1≤500*sizeN x)→(restF l).size≤2+500*sizesN l
 | [],_=>by rw[restF];decide
 | x::l,hx=>by
  have h1:=hx x (by simp)
  have h2:=rest_size l fun y hy=>hx y (by simp[hy])
  have h3:cBlank.size=1:=rfl
  rw[restF,ByteArray.size_append,ByteArray.size_append,sizesN]
  omega
theorem ttext_size (T:Tree):Shw T→(ttextF T).size+1≤500*sizeN T:=by
 obtain⟨c1,c2,c3,c4,c5,c6,c7,c8⟩:=cs3
 induction T using Tree.ind' with
 | h0=>intro h;exact absurd rfl h.ne
 | h1 T hT ih =>
  intro h
  have hsz:=sizeN_kids hT
  rw[ttextF_eq hT]
  rcases h with h|h|h|h
  ·rw[if_pos (con_lt h)];have:=text_size T h;omega
  ·obtain⟨hh,hk⟩:=term_head h
   obtain⟨k1,k2,k3⟩:=hh.kind
   rw[ifn,if_neg (by have:=hh.kind;rintro (q|q)<;>omega)]
   split
   ·rename_i q
    have:=hh.n130 q
    have:=numF_size2 this.1 this.2
    rw[ByteArray.size_append];omega
   split
   ·rename_i q
    have:=hh.n131 q
    have:=numF_big this.1 this.2
    omega
   split
   ·split<;>omega
   split
   ·omega
   ·have hw:=wordF_size hh
    have hr:=rest_size T.kids fun x hx=>ih x hx (hk x hx)
    rw[ByteArray.size_append,ByteArray.size_append]
    omega
  ·obtain⟨p1,p2,p3,p4,p5⟩:=tfield_parts h
   have hm:=getD_mem (l:=T.kids) (i:=0) (by omega)
   have s1:=sizesN_mem hm
   have:=ih _ hm (.inr (.inl p5))
   rw[ifn,ifp,ByteArray.size_append,ByteArray.size_append]
   omega
  ·obtain⟨p1,p2,p3,p4,p5⟩:=tfield_parts h
   have hm:=getD_mem (l:=T.kids) (i:=0) (by omega)
   have s1:=sizesN_mem hm
   have:=ih _ hm (.inr (.inl p5))
   rw[ifn,ifp,ByteArray.size_append,ByteArray.size_append]
   omega
theorem len_sizes':∀{l:List Tree},(∀x∈l,x≠.nil)→l.length≤sizesN l
 | [],_=>by simp[sizesN]
 | x::l,h=>by
  have h1:=len_sizes' (l:=l) fun y hy=>h y (by simp[hy])
  have h2:=sizeN_kids (h x (by simp))
  rw[sizesN,List.length_cons];omega
theorem showR_text {T:Tree}(h:Sh T)(hz:sizeN T≤65536):showR T=textF T:=by
 unfold showR
 rw[if_neg]
 rintro⟨h1,h2⟩
 rcases h with h|h
 ·exact h1 (conE_of h hz)
 ·have:=kind_dec (x:=T) hz
  rw[h]at this
  exact h2 (by simpa using this)
theorem tail_rest:∀l:List Tree,tailB cBlank (l.map ttextF++[cKet])=restF l
 | []=>by rw[restF];simp[tailB]
 | x::l=>by rw[restF,List.map_cons,List.cons_append,tailB,tail_rest l]
def TShowP (T:Tree):Prop:=Shw T→sizeN T≤65536→Pure P 33 [.d (.tree T)] (.d (.str (ttextF T)))
theorem tshow_ok (T:Tree):TShowP T:=by
 obtain⟨c1,c2,c3,c4,c5,c6,c7,c8⟩:=cs3
 induction T using Tree.ind' with
 | h0=>intro h;exact absurd rfl h.ne
 | h1 T hT ih=>?_
 intro h hz
 have hsz:=sizeN_kids hT
 have hte:=ttextF_eq hT
 rcases h with h|h|h|h
 ·have hl:=con_lt h
  rw[if_pos hl]at hte
  have hs:=Show_ok T
  rw[showR_text h hz]at hs
  rw[hte]
  refine Pure.of_body tt [] [2] Tryz.func33 rfl rfl rfl lb fun g=>?_
  repeat' ((first|refine Ga ?_|refine Gc fun hlen=>?_|refine Ge hs ?_|refine Gd (fun hc=>?_) fun hc=>?_)<;>conv=>whnf)
  exact Gg
 ·obtain⟨hh,hk⟩:=term_head h
  obtain⟨k1,k2,k3⟩:=hh.kind
  have k4:T.kind≠149:=by omega
  rw[ifn,ifn]at hte
  by_cases q0:T.kind=130
  ·have hb:=hh.n130 q0
   have hn:=Go.Proofs.YtlgajkoplklkiaaGreat.number_ok T.n (by omega) (by omega)
   have hnz:=numF_size2 hb.1 hb.2
   rw[if_pos q0]at hte
   rw[hte]
   refine Pure.of_body tt [] [2] Tryz.func33 rfl rfl rfl lb fun g=>?_
   repeat' ((first|refine Ga ?_|refine Gc fun hlen=>?_|refine Side.mk (show cPct.size+(numF T.n).size≤9223372036854775807 from by omega) ?_|refine Ge hn ?_|refine Gd (fun hc=>?_) fun hc=>?_)<;>conv=>whnf)
   exact Gg
  by_cases q1:T.kind=131
  ·have hb:=hh.n131 q1
   have hn:=Go.Proofs.YtlgajkoplklkiaaGreat.number_ok T.n (by omega) (by omega)
   rw[if_neg q0,if_pos q1]at hte
   rw[hte]
   refine Pure.of_body tt [] [2] Tryz.func33 rfl rfl rfl lb fun g=>?_
   repeat' ((first|refine Ga ?_|refine Gc fun hlen=>?_|refine Ge hn ?_|refine Gd (fun hc=>?_) fun hc=>?_)<;>conv=>whnf)
   exact Gg
  by_cases q2:T.kind=132
  ·rw[if_neg q0,if_neg q1,if_pos q2]at hte
   rw[hte]
   refine Pure.of_body tt [] [2] Tryz.func33 rfl rfl rfl lb fun g=>?_
   repeat' ((first|refine Ga ?_|refine Gc fun hlen=>?_|refine Gd (fun hc=>?_) fun hc=>?_)<;>conv=>whnf)
   ·rw[if_pos (by assumption)]
    exact Gg
   ·rw[if_neg (by assumption)]
    exact Gg
  by_cases q3:T.kind=133
  ·rw[if_neg q0,if_neg q1,if_neg q2,if_pos q3]at hte
   rw[hte]
   refine Pure.of_body tt [] [2] Tryz.func33 rfl rfl rfl lb fun g=>?_
   repeat' ((first|refine Ga ?_|refine Gc fun hlen=>?_|refine Gd (fun hc=>?_) fun hc=>?_)<;>conv=>whnf)
   exact Gg
  rw[if_neg q0,if_neg q1,if_neg q2,if_neg q3]at hte
  rw[hte]
  have hw:=word_ok T hh (by omega)
  have hwz:=wordF_size hh
  have hrz:=rest_size T.kids fun x hx=>ttext_size x (hk x hx)
  have hkl:=len_sizes' fun x hx=>(hk x hx).ne
  have hjo:joinF ((cBr++wordF T)::(T.kids.map ttextF++[cKet])) cBlank=(cBr++wordF T)++restF T.kids:=by rw[joinF_cons,tail_rest]
  have hjz:(joinF ((cBr++wordF T)::(T.kids.map ttextF++[cKet])) cBlank).size≤1099511627776:=by
   rw[hjo,ByteArray.size_append,ByteArray.size_append];omega
  have hjc:=join_ok 9 ((cBr++wordF T)::(T.kids.map ttextF++[cKet])) cBlank (by rw[←joinF_size];omega)
  rw[hjo]at hjc
  have hll:((cBr++wordF T)::(T.kids.map ttextF++[cKet])).length=T.kids.length+1+1:=by simp
  rw[hll]at hjc
  refine Pure.of_body tt [] [2] Tryz.func33 rfl rfl rfl lb fun g=>?_
  repeat' ((first|refine Ga ?_|refine Gc fun hlen=>?_|refine Side.mk (show cBr.size+(wordF T).size≤9223372036854775807 from by omega) ?_|refine Ge hw ?_|refine Gd (fun hc=>?_) fun hc=>?_)<;>conv=>whnf)
  refine loop_go (α:=Nat×List ByteArray) (fun p=>⟨[(3,.row 0 (p.1+1)),(75,.d (.trees T.kids)),(76,.d (.int .i64 T.kids.length)),(77,.d (.int .i64 p.1))],91,[(0,.row 9 (.strs p.2))],1,g⟩)
    (fun p=>p.1≤T.kids.length∧p.2=(cBr++wordF T)::(T.kids.take p.1).map ttextF) (fun p=>T.kids.length - p.1) (0,[cBr++wordF T]) ⟨by simp,by simp⟩
    (Ent.go [0]) (fun _=>rfl) fun p hpre=>?_
  obtain⟨p,out⟩:=p
  obtain⟨hp1,hp3⟩:=hpre
  simp only[]at hp1 hp3
  have hp2:out.length=p+1:=by rw[hp3];simp;omega
  by_cases hlt:p < T.kids.length
  ·have hmx:=getD_mem hlt
   have s1:=sizesN_mem hmx
   have hsh:=ih _ hmx (hk _ hmx) (by omega)
   repeat' ((first|refine Ga ?_|refine Gc fun hlen=>?_|refine Gh ((p+1+1≤17592186044416∧(p+1+1)*16≤140737488355328)) ?_|refine Ge hsh ?_|refine Gd (fun hc=>?_) fun hc=>?_)<;>conv=>whnf)
   exact⟨(p+1,out++[ttextF (T.kids.getD p .nil)]),⟨by simp only[];omega,by simp only[];rw[hp3,List.cons_append,take_map_step _ hlt]⟩,by simp only[];omega,Ent.go [2]⟩
  ·have hpe:p=T.kids.length:=by omega
   rw[hpe,List.take_length]at hp3
   subst hp3
   rw[←hpe]at hjc
   repeat' ((first|refine Ga ?_|refine Gc fun hlen=>?_|refine Gh ((p+1+1≤17592186044416∧(p+1+1)*16≤140737488355328)) ?_|refine CallG.go hjc [2] ?_|refine Gd (fun hc=>?_) fun hc=>?_)<;>conv=>whnf)
   exact Gg
 ·obtain⟨p1,p2,p3,p4,p5⟩:=tfield_parts h
  have hmx:=getD_mem (l:=T.kids) (i:=0) (by omega)
  have s1:=sizesN_mem hmx
  have hsh:=ih _ hmx (.inr (.inl p5)) (by omega)
  have hsz2:=ttext_size (T.kids.getD 0 .nil) (.inr (.inl p5))
  have hns:(T.name++cEq).size=T.name.size+cEq.size:=ByteArray.size_append
  rw[ifn,ifp]at hte
  rw[hte]
  refine Pure.of_body tt [] [2] Tryz.func33 rfl rfl rfl lb fun g=>?_
  repeat' ((first|refine Ga ?_|refine Gc fun hlen=>?_|refine Side.mk (show T.name.size+cEq.size≤9223372036854775807 from by omega) ?_|refine Side.mk (show (T.name++cEq).size+(ttextF (T.kids.getD 0 .nil)).size≤9223372036854775807 from by omega) ?_|refine Ge hsh ?_|refine Gd (fun hc=>?_) fun hc=>?_)<;>conv=>whnf)
  exact Gg
 ·obtain⟨p1,p2,p3,p4,p5⟩:=tfield_parts h
  have hmx:=getD_mem (l:=T.kids) (i:=0) (by omega)
  have s1:=sizesN_mem hmx
  have hsh:=ih _ hmx (.inr (.inl p5)) (by omega)
  have hsz2:=ttext_size (T.kids.getD 0 .nil) (.inr (.inl p5))
  have hns:(T.name++cEq).size=T.name.size+cEq.size:=ByteArray.size_append
  rw[ifn,ifp]at hte
  rw[hte]
  refine Pure.of_body tt [] [2] Tryz.func33 rfl rfl rfl lb fun g=>?_
  repeat' ((first|refine Ga ?_|refine Gc fun hlen=>?_|refine Side.mk (show T.name.size+cEq.size≤9223372036854775807 from by omega) ?_|refine Side.mk (show (T.name++cEq).size+(ttextF (T.kids.getD 0 .nil)).size≤9223372036854775807 from by omega) ?_|refine Ge hsh ?_|refine Gd (fun hc=>?_) fun hc=>?_)<;>conv=>whnf)
  exact Gg
end Tm
end Go.Proofs.YtlgajkoplklkiaaGreat
namespace Go.Proofs.YtlgajkoplklkiaaGreat
open Go Go.Mq
end Go.Proofs.YtlgajkoplklkiaaGreat
namespace Go.Proofs.YtlgajkoplklkiaaGreat
namespace Tm
open Go Go.Mq
def termE (T:Tree):Int:=checkF (isTermF T) T
theorem termE_ok {T:Tree}(h:termE T=0):isTermF T=true∧sizeN T≤65536∧Full T:=by
 unfold termE checkF at h
 split at h
 ·rename_i hw
  refine⟨?_,?_,wholeF_full T _ hw⟩
  ·cases hc:isTermF T with
   | true=>rfl
   | false=>rw[hc]at h;simp at h
  ·have:=(wholeF_size T 65536 (by omega) hw).2;omega
 ·exact absurd h ‹_›
theorem tCheck_ok (T:Tree):Pure P 19 [.d (.tree T)] (.d (.int .i64 (termE T))):=by
 have hwf:=wholeF_full T 65536
 have hws:=wholeF_size T 65536 (by omega)
 refine Pure.of_body tt [] [2] Tryz.func19 rfl rfl rfl lb fun g=>?_
 repeat' ((first|refine Ga ?_|refine Gc fun hlen=>?_|refine CallG.fun (twhole_ok T 65536 (by omega) (by omega)) [0] rfl rfl rfl rfl rfl rfl ⟨⟨rfl,rfl,rfl⟩,trivial⟩ rfl ?_|refine Ge (isTerm_ok T (hwf (by assumption)) (by have:=(hws (by assumption)).2;omega)) ?_|refine Gd (fun hc=>?_) fun hc=>?_)<;>conv=>whnf)
 all_goals refine Gf rfl (int_eq ?_) rfl
 all_goals (unfold termE;simp_all [-List.getD_eq_getElem?_getD,int_dec,checkF]<;>omega)
def tshowR (T:Tree):ByteArray:=if termE T≠0 then ByteArray.empty else ttextF T
theorem tShow_ok (T:Tree):Pure P 18 [.d (.tree T)] (.d (.str (tshowR T))):=by
 refine Pure.of_body tt [] [2] Tryz.func18 rfl rfl rfl lb fun g=>?_
 unfold tshowR
 by_cases h:termE T=0
 ·have h1:=tCheck_ok T
  rw[h]at h1
  obtain⟨h2,h3,h4⟩:=termE_ok h
  have h5:=tshow_ok T (.inr (.inl h2)) h3
  rw[ifn]
  repeat' ((first|refine Ga ?_|refine Gc fun hlen=>?_|refine Ge h1 ?_|refine Ge h5 ?_|refine Gd (fun hc=>?_) fun hc=>?_)<;>conv=>whnf)
  exact Gg
 ·rw[if_pos h]
  repeat' ((first|refine Ga ?_|refine Gc fun hlen=>?_|refine Ge (tCheck_ok T) ?_|refine Gd (fun hc=>?_) fun hc=>?_)<;>conv=>whnf)
  exact Gg
mutual
def valueF:Tree→Bool
 | .nil=>false
 | .node k n nm mk l=>if k=131∨k=132∨k=133∨k=134∨k=139 then true else if k=141∨k=146 then valueAt 1 l else if k=136 then valuesF l else false
def valueAt (i:Nat):List Tree→Bool
 | []=>false
 | x::l=>match i with
  | 0=>valueF x
  | i+1=>valueAt i l
def valuesF:List Tree→Bool
 | []=>true
 | x::l=>valueIn x && valuesF l
def valueIn:Tree→Bool
 | .nil=>false
 | .node _ _ _ _ l=>valueAt 0 l
end
theorem valueAt_eq:∀(l:List Tree) (i:Nat),valueAt i l=valueF (l.getD i .nil)
 | [],i=>by rw[valueAt];simp[valueF]
 | x::l,0=>by rw[valueAt];rfl
 | x::l,i+1=>by rw[valueAt];exact valueAt_eq l i
theorem valueIn_eq (T:Tree):valueIn T=valueF (T.kids.getD 0 .nil):=by
 cases T with
 | nil=>rw[valueIn];simp[Tree.kids,valueF]
 | node=>rw[valueIn,valueAt_eq];rfl
theorem valueF_eq {T:Tree}(h:T≠.nil):valueF T=if T.kind=131∨T.kind=132∨T.kind=133∨T.kind=134∨T.kind=139 then true else if T.kind=141∨T.kind=146 then valueF (T.kids.getD 1 .nil) else if T.kind=136 then valuesF T.kids else false:=by
 cases T with
 | nil=>exact absurd rfl h
 | node=>rw[valueF,valueAt_eq];rfl
theorem term_at {T:Tree}(h:isTermF T=true):(T.kind=141→T.kids.length=3∧isTermF (T.kids.getD 1 .nil)=true)∧(T.kind=146→T.kids.length=2∧isTermF (T.kids.getD 1 .nil)=true)∧(T.kind=136→∀x∈T.kids,tfieldF 137 x=true):=by
 have hT:T≠.nil:=by intro e;subst e;rw[isTermF]at h;cases h
 rw[isTermF_eq hT,Bool.and_eq_true]at h
 obtain⟨_,h⟩:=h
 refine⟨fun hk=>?_,fun hk=>?_,fun hk=>?_⟩
 ·simp[hk,-List.getD_eq_getElem?_getD]at h
  exact⟨h.1.1.1,h.1.2⟩
 ·simp[hk,-List.getD_eq_getElem?_getD]at h
  exact⟨h.1.1,h.2⟩
 ·simp[hk,-List.getD_eq_getElem?_getD]at h
  exact tfieldsF_mem h.1
theorem value_ok (T:Tree):isTermF T=true→Pure P 22 [.d (.tree T)] (.d (.bool (valueF T))):=by
 suffices h:(isTermF T=true→Pure P 22 [.d (.tree T)] (.d (.bool (valueF T))))∧∀x∈T.kids,isTermF x=true→Pure P 22 [.d (.tree x)] (.d (.bool (valueF x))) from h.1
 induction T using Tree.ind' with
 | h0=>exact⟨fun h=>(by rw[isTermF]at h;cases h),fun x hx=>(by cases hx)⟩
 | h1 T hT ih=>?_
 refine⟨fun hco=>?_,fun x hx=>(ih x hx).1⟩
 obtain⟨t1,t2,t3⟩:=term_at hco
 have hv:T.kind=141∨T.kind=146→2≤T.kids.length∧Pure P 22 [.d (.tree (T.kids.getD 1 .nil))] (.d (.bool (valueF (T.kids.getD 1 .nil)))):=fun hk=>by
  rcases hk with hk|hk
  ·obtain⟨a,b⟩:=t1 hk
   exact⟨by omega,(ih _ (getD_mem (by omega))).1 b⟩
  ·obtain⟨a,b⟩:=t2 hk
   exact⟨by omega,(ih _ (getD_mem (by omega))).1 b⟩
 refine Pure.of_body tt [] [2] Tryz.func22 rfl rfl rfl lb fun g=>?_
 by_cases k1:T.kind=141∨T.kind=146
 ·obtain⟨hl,hv⟩:=hv k1
  have e:valueF T=valueF (T.kids.getD 1 .nil):=by rw[valueF_eq hT,ifn,if_pos k1]
  rw[e]
  repeat' ((first|refine Ga ?_|refine Gc fun hlen=>?_|refine Side.mk (show (0:Int)≤1∧(1:Int) < (T.kids.length:Int) from by omega) ?_|refine Ge hv ?_|refine Gd (fun hc=>?_) fun hc=>?_)<;>conv=>whnf)
  all_goals exact Gg
 by_cases k2:T.kind=136
 ·have hf:=t3 k2
  have e:valueF T=valuesF T.kids:=by rw[valueF_eq hT,ifn,ifn,if_pos k2]
  rw[e]
  repeat' ((first|refine Ga ?_|refine Gc fun hlen=>?_|refine Gd (fun hc=>?_) fun hc=>?_)<;>conv=>whnf)
  refine loop_go (α:=Nat) (fun p=>⟨[(30,.d (.trees T.kids)),(31,.d (.int .i64 T.kids.length)),(32,.d (.int .i64 p))],45,[],0,g⟩)
    (fun p=>p≤T.kids.length∧valuesF (T.kids.drop p)=valuesF T.kids) (fun p=>T.kids.length - p) 0 ⟨by omega,rfl⟩
    (Ent.go []) (fun _=>rfl) fun p hpre=>?_
  obtain⟨hp1,hp2⟩:=hpre
  by_cases hp:p < T.kids.length
  ·have hx:=getD_mem hp
   obtain⟨q1,q2,q3,q4,q5⟩:=tfield_parts (hf _ hx)
   have hq:=(ih _ hx).2 _ (getD_mem (i:=0) (by omega)) q5
   rw[drop_step hp,valuesF,valueIn_eq]at hp2
   cases hb:valueF ((T.kids.getD p .nil).kids.getD 0 .nil) with
   | true =>
    rw[hb]at hq hp2
    repeat' ((first|refine Ga ?_|refine Gc fun hlen=>?_|refine Side.mk (show (0:Int)≤0∧(0:Int) < ((T.kids.getD p .nil).kids.length:Int) from by omega) ?_|refine Ge hq ?_|refine Gd (fun hc=>?_) fun hc=>?_)<;>conv=>whnf)
    exact⟨p+1,⟨by omega,by rw[←hp2];rfl⟩,by omega,Ent.go []⟩
   | false =>
    rw[hb]at hq hp2
    rw[←hp2]
    repeat' ((first|refine Ga ?_|refine Gc fun hlen=>?_|refine Side.mk (show (0:Int)≤0∧(0:Int) < ((T.kids.getD p .nil).kids.length:Int) from by omega) ?_|refine Ge hq ?_|refine Gd (fun hc=>?_) fun hc=>?_)<;>conv=>whnf)
    exact Gg
  ·rw[drop_end (by omega),valuesF]at hp2
   rw[←hp2]
   repeat' ((first|refine Ga ?_|refine Gc fun hlen=>?_|refine Gd (fun hc=>?_) fun hc=>?_)<;>conv=>whnf)
   exact Gg
 repeat' ((first|refine Ga ?_|refine Gc fun hlen=>?_|refine Gd (fun hc=>?_) fun hc=>?_)<;>conv=>whnf)
 all_goals refine Gf rfl (bool_eq ?_) rfl
 all_goals first
  | (rw[valueF_eq hT,ifp];done)
  | (rw[valueF_eq hT,ifn,ifn,ifn];done)
def tvalueR (T:Tree):Bool:=decide (termE T=0) && valueF T
theorem tValue_ok (T:Tree):Pure P 9 [.d (.tree T)] (.d (.bool (tvalueR T))):=by
 refine Pure.of_body tt [] [2] Tryz.func9 rfl rfl rfl lb fun g=>?_
 unfold tvalueR
 by_cases h:termE T=0
 ·have h1:=tCheck_ok T
  rw[h]at h1
  have h5:=value_ok T (termE_ok h).1
  rw[decide_eq_true h,Bool.true_and]
  repeat' ((first|refine Ga ?_|refine Gc fun hlen=>?_|refine Ge h1 ?_|refine Ge h5 ?_|refine Gd (fun hc=>?_) fun hc=>?_)<;>conv=>whnf)
  exact Gg
 ·rw[decide_eq_false h]
  repeat' ((first|refine Ga ?_|refine Gc fun hlen=>?_|refine Ge (tCheck_ok T) ?_|refine Gd (fun hc=>?_) fun hc=>?_)<;>conv=>whnf)
  exact Gg
end Tm
end Go.Proofs.YtlgajkoplklkiaaGreat
namespace Go.Proofs.YtlgajkoplklkiaaGreat
namespace Tm
open Go Go.Mq
def listF (kind:Int)(l:List Tree):Bool:=labT kind (decide (kind=137)) [] l && (decide (kind=137) || decide (0 < l.length))
def sgn (c:UInt8)(x:Tree):Bool:=if c=99 then isConF x else if c=107 then isKindF x else isTermF x
def tailsL (c:UInt8)(f:List Tree→Bool):List Tree→Bool
 | []=>false
 | x::l'=>sgn c x && f l'
def partsL:List UInt8→List Tree→Bool
 | [],l=>decide (l.length=0)
 | c::r,l=>if c::r=[102] then listF 137 l else if c::r=[97] then listF 149 l else tailsL c (partsL r) l
theorem partsL_cons (c:UInt8)(r:List UInt8)(l:List Tree):partsL (c::r) l=if c::r=[102] then listF 137 l else if c::r=[97] then listF 149 l else tailsL c (partsL r) l:=rfl
end Tm
end Go.Proofs.YtlgajkoplklkiaaGreat
namespace Go.Mq
open Go
def rvV (tt:List (Nat×TI))(σ:AState):ResultVar→Option AVal
 | .tmp t=>some (look σ.tm t)
 | .cell a t=>match look σ.tm a with
  | .ref id off=>match sget σ.st id,ttl tt t with
   | some (.cellsT _ vs),some i=>bif Nat.beq off 0 then (bif i.agg then (bif Nat.beq i.size vs.length then some (.agg vs) else none) else vs[0]?) else none
   | _,_=>none
  | _=>none
def rvsV (tt:List (Nat×TI))(σ:AState):List ResultVar→Option (List AVal)
 | []=>some []
 | r::rs=>match rvV tt σ r,rvsV tt σ rs with
  | some x,some l=>some (x::l)
  | _,_=>none
def oneOf:List AVal→AVal
 | [x]=>x
 | l=>.tuple l
def RetR (P:Program)(nb:Nat)(rs:List ResultVar)(r:AVal)(L':List (Nat×AObj))(N':Nat)(g':Ghost)(σ:AState):Prop :=
 ∀E I ρ a w,E.nb=nb→RelT E I ρ σ.fs a w→∃I' ρ' v,I.le I'∧(∀id,id < E.nb→ρ' id=E.ρb id)∧Rel E I' ρ' (· < N') (sget L') g' w∧CA I' ρ' (· < N') r v∧∀fn:Func,fn.results.toList=rs→(results fn a.tmps).run P w=.ok v w
def retKR (P:Program)(nb:Nat)(rs:List ResultVar)(r:AVal)(L':List (Nat×AObj))(N':Nat)(g':Ghost):Exit→AState→Prop:=fun e σ=>match e with
 | .ret=>RetR P nb rs r L' N' g' σ
 | .normal=>RetR P nb rs r L' N' g' σ
 | _=>False
theorem RetR.ent {P:Program}{nb:Nat}{rs:List ResultVar}{r:AVal}{L':List (Nat×AObj)}{N':Nat}{g':Ghost}{σ σ':AState}(he:Ent nb σ σ')(h:RetR P nb rs r L' N' g' σ'):RetR P nb rs r L' N' g' σ:=by
 intro E I ρ a w hE hr
 obtain⟨I',ρ',h1,h2⟩:=he.2 E I ρ a w hE hr
 obtain⟨I2,ρ2,v,g1,g2⟩:=h E I' ρ' a w hE h2
 exact⟨I2,ρ2,v,Imm.le_trans h1 g1,g2⟩
def resF (tmps:Array Value):ResultVar→Sem Value
 | .tmp t=>Pure.pure (tmps.getD t undef)
 | .cell a t=>do loadVar t (←asAddr (tmps.getD a undef))
theorem rv_ok {P:Program}{tt:List (Nat×TI)}(htt:TTok P tt){E:Env}{I:Imm}{ρ:Nat→RB}{σ:AState}{a:Act}{w:World}(h:RelT E I ρ σ.fs a w)(rv:ResultVar){x:AVal}(hx:rvV tt σ rv=some x) :
  ∃v,(resF a.tmps rv).run P w=.ok v w∧CA I ρ (· < σ.nx) x v:=by
 cases rv with
 | tmp t =>
  simp only[rvV,Option.some.injEq]at hx
  subst hx
  exact⟨_,by simp[resF],h.slot t⟩
 | cell a' t =>
  simp only[rvV]at hx
  split at hx
  ·rename_i id off hl
   have hv:=h.slot a'
   rw[show σ.fs.T a'=.ref id off from hl]at hv
   obtain⟨hD,hv⟩:=hv.ref_inv
   split at hx
   ·rename_i vs i hs hi
    have hT:=htt t i hi
    rw[Bool.cond_eq_ite]at hx
    split at hx
    ·rename_i ho
     obtain rfl:off=0:=Nat.eq_of_beq_eq_true ho
     obtain⟨o1,cs,T,o2,o3,o4⟩:=rel_obj h hs
     have hcell:∀j,j < vs.length→w.cell? ⟨(ρ id).blk,0+j,none⟩=some (cs.getD j undef):=fun j hj=>by
      simp only[World.cell?,o2]
      rw[Nat.zero_add]
      simp[show j < cs.size by omega]
     rw[Bool.cond_eq_ite]at hx
     split at hx
     ·rename_i hag
      rw[Bool.cond_eq_ite]at hx
      split at hx
      ·rename_i hsz
       have hsz:=Nat.eq_of_beq_eq_true hsz
       cases hx
       have:=run_loadAt_agg (w:=w) hT hag (b:=(ρ id).blk) (o:=0) (f:=fun j=>cs.getD j undef) (fun j hj=>hcell j (by omega))
       refine⟨.agg ((List.range i.size).map fun j=>cs.getD j undef).toArray,?_,.agg (by simp[hsz]) fun j hj=>?_⟩
       ·simp only[Instr.loadAt,Instr.sureAddr,Sem.run_bind,Sem.run_pure,Result.andThen_ok]at this
        simp only[resF,hv,asAddr,Sem.run_bind,Sem.run_pure,Result.andThen_ok]
        exact this
       ·have:CA I ρ (· < σ.nx) vs[j] (cs.getD j undef):=o4 j hj
        simpa [show j < i.size by omega] using this
      ·cases hx
     ·rename_i hag
      have hag:i.agg=false:=by simpa using hag
      have hl0:0 < vs.length:=by
       cases vs with
       | nil=>simp at hx
       | cons=>simp
      have:=run_loadAt_cell (w:=w) hT hag (b:=(ρ id).blk) (o:=0) (hcell 0 hl0)
      refine⟨cs.getD 0 undef,?_,?_⟩
      ·simp only[Instr.loadAt,Instr.sureAddr,Sem.run_bind,Sem.run_pure,Result.andThen_ok]at this
       simp only[resF,hv,asAddr,Sem.run_bind,Sem.run_pure,Result.andThen_ok]
       exact this
      ·have:=o4 0 hl0
       rw[List.getElem?_eq_getElem hl0]at hx
       cases hx
       exact this
    ·cases hx
   ·cases hx
  ·cases hx
theorem rvs_ok {P:Program}{tt:List (Nat×TI)}(htt:TTok P tt){E:Env}{I:Imm}{ρ:Nat→RB}{σ:AState}{a:Act}{w:World}(h:RelT E I ρ σ.fs a w):∀(rs:List ResultVar) {l:List AVal},rvsV tt σ rs=some l →
  ∃vs:List Value,(rs.mapM (resF a.tmps)).run P w=.ok vs w∧vs.length=l.length∧∀i (hi:i < l.length),CA I ρ (· < σ.nx) l[i] (vs.getD i undef)
 | [],l,hl=>by
  cases hl
  exact⟨[],by simp,rfl,fun i hi=>by simp at hi⟩
 | r::rs,l,hl=>by
  simp only[rvsV]at hl
  split at hl
  ·rename_i x l' hx hl'
   cases hl
   obtain⟨v,h1,h2⟩:=rv_ok htt h r hx
   obtain⟨vs,h3,h4,h5⟩:=rvs_ok htt h rs hl'
   refine⟨v::vs,by simp[List.mapM_cons,h1,h3],by simp[h4],fun i hi=>?_⟩
   cases i with
   | zero=>simpa using h2
   | succ i=>simpa using h5 i (by simpa using hi)
  ·cases hl
theorem retR_val {P:Program}{tt:List (Nat×TI)}(htt:TTok P tt){E:Env}{I:Imm}{ρ:Nat→RB}{σ:AState}{a:Act}{w:World}(h:RelT E I ρ σ.fs a w){rs:List ResultVar}{l:List AVal}(hl:rvsV tt σ rs=some l) :
  ∃v,CA I ρ (· < σ.nx) (oneOf l) v∧∀fn:Func,fn.results.toList=rs→(results fn a.tmps).run P w=.ok v w:=by
 obtain⟨vs,h1,h2,h3⟩:=rvs_ok htt h rs hl
 have hF:∀(F:ResultVar→Sem Value),(∀r,F r=resF a.tmps r)→(rs.mapM F).run P w=.ok vs w:=fun F h=>by rw[funext h];exact h1
 have hrun:∀fn:Func,fn.results.toList=rs→(results fn a.tmps).run P w=.ok (if h:vs.toArray.size=1 then vs.toArray[0] else .tuple vs.toArray) w:=by
  intro fn hf
  unfold results
  rw[Array.mapM_eq_mapM_toList,hf]
  rw[Sem.run_bind,Sem.run_map]
  rw[hF _ (fun r=>by cases r<;>rfl)]
  simp
 refine⟨_,?_,hrun⟩
 clear hrun hF h1
 match l,vs,h2,h3 with
 | [x],[v],_,h3=>simpa [oneOf] using h3 0 (by simp)
 | [],[],_,_=>exact .tuple rfl fun i hi=>by simp at hi
 | x::y::l,u::v::vs,h2,h3 =>
  have e:(if h:(u::v::vs).toArray.size=1 then (u::v::vs).toArray[0] else Value.tuple (u::v::vs).toArray)=.tuple (u::v::vs).toArray:=by simp
  rw[e]
  refine .tuple (by simpa using h2) fun i hi=>?_
  have:=h3 i hi
  simpa using this
theorem retR_closed {P:Program}{tt:List (Nat×TI)}(htt:TTok P tt){nb:Nat}{rs:List ResultVar}{r:AVal}{g':Ghost}{σ:AState}(l:List AVal)(hg:σ.g=g')(hl:rvsV tt σ rs=some l)(hr:oneOf l=r)(hc:r.closed=true):RetR P nb rs r [] 0 g' σ:=by
 intro E I ρ a w _ h
 subst hg
 obtain⟨v,h1,h2⟩:=retR_val htt h hl
 rw[hr]at h1
 exact⟨I,ρ,v,Imm.le_refl I,h.bas,h.rel.drop,h1.unbind hc,h2⟩
theorem CallC.of_bodyR {P:Program}{tt:List (Nat×TI)}{fz:List Nat}{f:FuncId}{fn:Func}{body:Code}{args:List AVal}{rs:List ResultVar}{L L':List (Nat×AObj)}{N N':Nat}{g g':Ghost}{r:AVal}
  (hf:P.funcs[f]?=some fn) (hb:fn.body=some body) (hres:fn.results.toList=rs) (hsz:args.length≤fn.ntmps)
  (h:Then ⟨P,tt,fz,N⟩ body (retKR P N rs r L' N' g') ⟨argTm 0 args,fn.ntmps,L,N,g⟩):CallC P f args (sget L) N g r (sget L') N' g':=by
 intro E I ρ w vs hr ha
 let E':Env:=⟨E.base,N,ρ⟩
 have hlen:vs.size=args.length:=by have:=ha.len;simpa using this.symm
 have hr':Rel E' I ρ (· < N) (sget L) g w:=by
  obtain⟨own,hr⟩:=hr
  exact⟨own,⟨hr.env,hr.lt,hr.imm,hr.key,hr.obj,hr.ownd,hr.gst⟩⟩
 have harg:∀(l:List AVal) (us:List Value),All2 I ρ (· < N) l us→∀i,CA I ρ (· < N) (l.getD i .any) (us.getD i undef):=by
  intro l
  induction l with
  | nil=>intro us _ i;simp;exact .any
  | cons x l ih =>
   intro us hu i
   cases us with
   | nil=>exact hu.elim
   | cons u us =>
    cases i with
    | zero=>exact hu.1
    | succ i=>simpa using ih us hu.2 i
 have hT:RelT E' I ρ (AState.fs ⟨argTm 0 args,fn.ntmps,L,N,g⟩) { tmps:=vs++Array.replicate (fn.ntmps - vs.size) undef,defers:=[] } w:=by
  refine⟨hr',rfl,?_,fun t=>?_,fun id h=>h,fun id h=>rfl⟩
  ·simp[AState.fs];omega
  ·show CA I ρ (· < N) (look (argTm 0 args) t) _
   rw[look_argTm]
   simp only[Nat.zero_le,if_true,Nat.sub_zero]
   by_cases ht:t < vs.size
   ·have:=harg args vs.toList ha t
    simpa [Array.getElem?_append_left,ht] using this
   ·have:args.getD t .any=.any:=by simp[List.getElem?_eq_none (show args.length≤t by omega)]
    rw[this];exact .any
 unfold Then WPc at h
 refine calls_of_wp hf hb (wp_mono (h E' I ρ _ w rfl hT) ?_)
 rintro e a' w' ⟨I',ρ',σ',h1,h2,h3,h4⟩
 have fin:RetR P N rs r L' N' g' σ'→a'.defers=[]∧∃v,(results fn a'.tmps).run P w'=.ok v w'∧∃I' ρ' v',I.le I'∧(∀id,id < N→ρ' id=ρ id)∧Ending.returned v=.returned v'∧Rel E I' ρ' (· < N') (sget L') g' w'∧CA I' ρ' (· < N') r v':=by
  intro hret
  obtain⟨I2,ρ2,v,q1,q2,q3,q4,q5⟩:=hret E' I' ρ' a' w' rfl h4
  refine⟨h4.defs,v,q5 fn hres,I2,ρ2,v,Imm.le_trans h1 q1,q2,rfl,?_,q4⟩
  obtain⟨own,q3⟩:=q3
  exact⟨own,⟨q3.env,q3.lt,q3.imm,q3.key,q3.obj,q3.ownd,q3.gst⟩⟩
 cases e with
 | normal=>exact fin h2
 | ret=>exact fin h2
 | exit id=>exact h2.elim
 | goto l=>exact h2.elim
 | panic ch=>exact h2.elim
 | outgrown=>exact h2.elim
theorem Pure.of_bodyR {P:Program}(tt:List (Nat×TI))(fz:List Nat){f:FuncId}{fn:Func}{body:Code}{args:List AVal}(rs:List ResultVar){r:AVal}
  (hf : P.funcs[f]? = some fn) (hnm : (fn.name == "runtime.NumGoroutine") = false) (hb : fn.body = some body) (hres : fn.results.toList = rs) (hsz : args.length ≤ fn.ntmps)
  (h:∀g,Then ⟨P,tt,fz,0⟩ body (retKR P 0 rs r [] 0 g) ⟨argTm 0 args,fn.ntmps,[],0,g⟩):Pure P f args r :=
 ⟨⟨fn,hf,hnm,by rw[hb];rfl⟩,fun g=>CallC.of_bodyR (L:=[]) (L':=[]) hf hb hres hsz (h g)⟩
attribute [irreducible] RetR
end Go.Mq
namespace Go.Proofs.YtlgajkoplklkiaaGreat
namespace Tm
open Go Go.Mq
structure Rw where
 kind:Int
 word:ByteArray
 lo:Int
 hi:Int
 label:Bool
 kids:ByteArray
instance:Inhabited Rw:=⟨⟨0,ByteArray.empty,0,0,false,ByteArray.empty⟩⟩
def rowD (r:Rw):Nat→Mq.Data
 | 0=>.int .i64 r.kind
 | 1=>.str r.word
 | 2=>.int .i64 r.lo
 | 3=>.int .i64 r.hi
 | 4=>.bool r.label
 | _=>.str r.kids
def rowsL:List Rw:=[
 ⟨130,ByteArray.empty,0,65536,false,ByteArray.empty⟩,⟨131,ByteArray.empty,-1073741824,1073741824,false,ByteArray.empty⟩,⟨132,ByteArray.empty,0,1,false,ByteArray.empty⟩,⟨133,ByteArray.empty,0,0,false,ByteArray.empty⟩,
 ⟨134,⟨#[108,97,109]⟩,0,0,false,⟨#[99,88]⟩⟩,⟨135,⟨#[97,112,112]⟩,0,0,false,⟨#[120,120]⟩⟩,⟨136,⟨#[114,101,99]⟩,0,0,false,⟨#[102]⟩⟩,⟨138,⟨#[112,114,111,106]⟩,0,0,true,⟨#[120]⟩⟩,
 ⟨139,⟨#[116,108,97,109]⟩,0,0,false,⟨#[107,84]⟩⟩,⟨140,⟨#[116,97,112,112]⟩,0,0,false,⟨#[120,99]⟩⟩,⟨141,⟨#[112,97,99,107]⟩,0,0,false,⟨#[99,120,99]⟩⟩,⟨142,⟨#[117,110,112,97,99,107]⟩,0,0,false,⟨#[120,66]⟩⟩,
 ⟨143,⟨#[108,101,116]⟩,0,0,false,⟨#[120,88]⟩⟩,⟨144,⟨#[105,102]⟩,0,0,false,⟨#[120,120,120]⟩⟩,⟨145,⟨#[111,112]⟩,1,5,false,⟨#[120,120]⟩⟩,⟨146,⟨#[105,110]⟩,0,0,true,⟨#[99,120]⟩⟩,
 ⟨147,⟨#[99,97,115,101]⟩,0,0,false,⟨#[120,97]⟩⟩,⟨148,⟨#[102,111,108,100]⟩,0,0,false,⟨#[120,99,97]⟩⟩]
def flatR:List Rw→List Mq.Data
 | []=>[]
 | r::l=>rowD r 0::rowD r 1::rowD r 2::rowD r 3::rowD r 4::rowD r 5::flatR l
def findR (kind:Int):List Rw→Option Rw
 | []=>none
 | r::l=>if r.kind=kind then some r else findR kind l
theorem parts0 (l:List Tree):partsL [] l=decide (l.length=0):=rfl
theorem partsF1 (l:List Tree):partsL [102] l=labT 137 true [] l:=by
 have:partsL [102] l=listF 137 l:=rfl
 rw[this,listF];simp
theorem partsA1 (l:List Tree):partsL [97] l=(labT 149 false [] l && decide (0 < l.length)):=by
 have:partsL [97] l=listF 149 l:=rfl
 rw[this,listF];simp
theorem parts1 (a:UInt8)(h1:a≠102)(h2:a≠97)(l:List Tree):partsL [a] l=(decide (l.length=1) && sgn a (l.getD 0 .nil)):=by
 rw[partsL_cons,if_neg (by simpa using h1),if_neg (by simpa using h2)]
 match l with
 | []=>rw[tailsL];simp
 | [x]=>rw[tailsL,parts0];simp
 | x::y::l=>rw[tailsL,parts0];simp
theorem partsS (a b:UInt8)(r:List UInt8)(l:List Tree):partsL (a::b::r) l=(decide (1≤l.length) && sgn a (l.getD 0 .nil) && partsL (b::r) (l.drop 1)):=by
 rw[partsL_cons,if_neg (by simp),if_neg (by simp)]
 match l with
 | []=>rw[tailsL];simp
 | x::l=>rw[tailsL];simp
theorem getD_drop1 (l:List Tree)(i k:Nat):(l.drop k).getD i .nil=l.getD (k+i) .nil:=by
 simp[List.getD_eq_getElem?_getD]
theorem parts2 (a b:UInt8)(h1:b≠102)(h2:b≠97)(l:List Tree):partsL [a,b] l=(decide (l.length=2) && sgn a (l.getD 0 .nil) && sgn b (l.getD 1 .nil)):=by
 rw[partsS,parts1 b h1 h2,getD_drop1,List.length_drop]
 by_cases h:l.length=2
 ·rw[decide_eq_true h,decide_eq_true (show 1≤l.length by omega),decide_eq_true (show l.length - 1=1 by omega)];simp
 ·rw[decide_eq_false h,decide_eq_false (show ¬l.length - 1=1 by omega)];simp
theorem parts3 (a b c:UInt8)(h1:c≠102)(h2:c≠97)(l:List Tree):partsL [a,b,c] l=(decide (l.length=3) && sgn a (l.getD 0 .nil) && sgn b (l.getD 1 .nil) && sgn c (l.getD 2 .nil)):=by
 rw[partsS,parts2 b c h1 h2,getD_drop1,getD_drop1,List.length_drop]
 by_cases h:l.length=3
 ·rw[decide_eq_true h,decide_eq_true (show 1≤l.length by omega),decide_eq_true (show l.length - 1=2 by omega)];simp[Bool.and_assoc]
 ·rw[decide_eq_false h,decide_eq_false (show ¬l.length - 1=2 by omega)];simp
theorem partsA2 (a:UInt8)(l:List Tree):partsL [a,97] l=(decide (1 < l.length) && sgn a (l.getD 0 .nil) && labT 149 false [] (l.drop 1)):=by
 rw[partsS,partsA1,List.length_drop]
 by_cases h:1 < l.length
 ·rw[decide_eq_true h,decide_eq_true (show 1≤l.length by omega),decide_eq_true (show 0 < l.length - 1 by omega)];simp
 ·rw[decide_eq_false h,decide_eq_false (show ¬0 < l.length - 1 by omega)];simp
theorem partsA3 (a b:UInt8)(l:List Tree):partsL [a,b,97] l=(decide (2 < l.length) && sgn a (l.getD 0 .nil) && sgn b (l.getD 1 .nil) && labT 149 false [] (l.drop 2)):=by
 rw[partsS,partsA2,List.length_drop,getD_drop1,List.drop_drop]
 by_cases h:2 < l.length
 ·rw[decide_eq_true h,decide_eq_true (show 1≤l.length by omega),decide_eq_true (show 1 < l.length - 1 by omega)];simp[Bool.and_assoc]
 ·rw[decide_eq_false h,decide_eq_false (show ¬1 < l.length - 1 by omega)];simp
theorem sgn_c (x:Tree):sgn 99 x=isConF x:=rfl
theorem sgn_x (x:Tree):sgn 120 x=isTermF x:=rfl
theorem head_plain {T:Tree}(h:T.kind≠138∧T.kind≠146):headF T=(decide (T.mark=ByteArray.empty) && decide (T.name=ByteArray.empty) && numT T):=by
 unfold headF namedT
 rw[decide_eq_false h.1,decide_eq_false h.2]
 cases decide (T.name=ByteArray.empty)<;>simp
theorem head_named {T:Tree}(h:T.kind=138∨T.kind=146):headF T=(decide (T.mark=ByteArray.empty) && labelF T.name && numT T):=by
 unfold headF namedT
 have:(decide (T.kind=138) || decide (T.kind=146))=true:=by simpa using h
 rw[this]
 cases hl:labelF T.name with
 | false=>simp
 | true =>
  have:T.name≠ByteArray.empty:=by intro e;rw[e]at hl;revert hl;decide
  simp[this]
def rowF (T:Tree):Option Rw→Bool
 | none=>false
 | some r=>decide (T.mark=ByteArray.empty) && (decide (r.lo≤T.n) && decide (T.n≤r.hi)) && (if r.label then labelF T.name else decide (T.name=ByteArray.empty)) && partsL r.kids.data.toList T.kids
theorem num0 (n:Int):decide (n=0)=(decide (0≤n) && decide (n≤0)):=by rw[Bool.eq_iff_iff];simp;omega
theorem num1 (n:Int):(decide (n=0) || decide (n=1))=(decide (0≤n) && decide (n≤1)):=by rw[Bool.eq_iff_iff];simp;omega
theorem kinds18 (k:Int):(k=130∨k=131∨k=132∨k=133∨k=134∨k=135∨k=136∨k=138∨k=139∨k=140∨k=141∨k=142∨k=143∨k=144∨k=145∨k=146∨k=147∨k=148)∨(k≠130∧k≠131∧k≠132∧k≠133∧k≠134∧k≠135∧k≠136∧k≠138∧k≠139∧k≠140∧k≠141∧k≠142∧k≠143∧k≠144∧k≠145∧k≠146∧k≠147∧k≠148):=by omega
theorem findR_none {k:Int}(h:k≠130∧k≠131∧k≠132∧k≠133∧k≠134∧k≠135∧k≠136∧k≠138∧k≠139∧k≠140∧k≠141∧k≠142∧k≠143∧k≠144∧k≠145∧k≠146∧k≠147∧k≠148):findR k rowsL=none:=by
 unfold rowsL
 simp only[findR]
 rw[ifn,ifn,ifn,ifn,ifn,ifn,ifn,ifn,ifn,ifn,ifn,ifn,ifn,ifn,ifn,ifn,ifn,ifn]
theorem and4 (a b c d:Bool):(a && b && c && d)=(a && c && b && d):=by cases a<;>cases b<;>cases c<;>rfl
theorem isTerm_rows {T:Tree}(hT:T≠.nil):isTermF T=rowF T (findR T.kind rowsL):=by
 rw[isTermF_eq hT]
 rcases kinds18 T.kind with h|h
 ·rcases h with h|h|h|h|h|h|h|h|h|h|h|h|h|h|h|h|h|h
  ·have e:findR T.kind rowsL=some ⟨130,ByteArray.empty,0,65536,false,ByteArray.empty⟩:=by rw[h];rfl
   have hk:numT T=(decide (0≤T.n) && decide (T.n≤65536)):=by unfold numT;rw[if_pos h]
   have hb:(decide (T.kids.length=0))=partsL [] T.kids:=rfl
   rw[e,head_plain (by omega),hk,ifp,hb,and4]
   rfl
  ·have e:findR T.kind rowsL=some ⟨131,ByteArray.empty,-1073741824,1073741824,false,ByteArray.empty⟩:=by rw[h];rfl
   have hk:numT T=(decide (-1073741824≤T.n) && decide (T.n≤1073741824)):=by unfold numT;rw[ifn,if_pos h]
   have hb:(decide (T.kids.length=0))=partsL [] T.kids:=rfl
   rw[e,head_plain (by omega),hk,ifp,hb,and4]
   rfl
  ·have e:findR T.kind rowsL=some ⟨132,ByteArray.empty,0,1,false,ByteArray.empty⟩:=by rw[h];rfl
   have hk:numT T=(decide (0≤T.n) && decide (T.n≤1)):=by unfold numT;rw[ifn,ifn,if_pos h,num1]
   have hb:(decide (T.kids.length=0))=partsL [] T.kids:=rfl
   rw[e,head_plain (by omega),hk,ifp,hb,and4]
   rfl
  ·have e:findR T.kind rowsL=some ⟨133,ByteArray.empty,0,0,false,ByteArray.empty⟩:=by rw[h];rfl
   have hk:numT T=(decide (0≤T.n) && decide (T.n≤0)):=by unfold numT;rw[ifn,ifn,ifn,ifn,num0]
   have hb:(decide (T.kids.length=0))=partsL [] T.kids:=rfl
   rw[e,head_plain (by omega),hk,ifp,hb,and4]
   rfl
  ·have e:findR T.kind rowsL=some ⟨134,⟨#[108,97,109]⟩,0,0,false,⟨#[99,88]⟩⟩:=by rw[h];rfl
   have hk:numT T=(decide (0≤T.n) && decide (T.n≤0)):=by unfold numT;rw[ifn,ifn,ifn,ifn,num0]
   have hb:(decide (T.kids.length=2) && isConF (T.kids.getD 0 .nil) && isTermF (T.kids.getD 1 .nil))=partsL [99,88] T.kids:=by rw[parts2 _ _ (by decide) (by decide)];rfl
   rw[e,head_plain (by omega),hk,ifn,ifp,hb,and4]
   rfl
  ·have e:findR T.kind rowsL=some ⟨135,⟨#[97,112,112]⟩,0,0,false,⟨#[120,120]⟩⟩:=by rw[h];rfl
   have hk:numT T=(decide (0≤T.n) && decide (T.n≤0)):=by unfold numT;rw[ifn,ifn,ifn,ifn,num0]
   have hb:(decide (T.kids.length=2) && isTermF (T.kids.getD 0 .nil) && isTermF (T.kids.getD 1 .nil))=partsL [120,120] T.kids:=by rw[parts2 _ _ (by decide) (by decide)];rfl
   rw[e,head_plain (by omega),hk,ifn,ifn,ifn,ifp,hb,and4]
   rfl
  ·have e:findR T.kind rowsL=some ⟨136,⟨#[114,101,99]⟩,0,0,false,⟨#[102]⟩⟩:=by rw[h];rfl
   have hk:numT T=(decide (0≤T.n) && decide (T.n≤0)):=by unfold numT;rw[ifn,ifn,ifn,ifn,num0]
   have hb:(tfieldsF 137 T.kids && pairsF true [] T.kids)=partsL [102] T.kids:=by rw[partsF1,labT_eq]
   rw[e,head_plain (by omega),hk,ifn,ifn,ifn,ifn,ifp,hb,and4]
   rfl
  ·have e:findR T.kind rowsL=some ⟨138,⟨#[112,114,111,106]⟩,0,0,true,⟨#[120]⟩⟩:=by rw[h];rfl
   have hk:numT T=(decide (0≤T.n) && decide (T.n≤0)):=by unfold numT;rw[ifn,ifn,ifn,ifn,num0]
   have hb:(decide (T.kids.length=1) && isTermF (T.kids.getD 0 .nil))=partsL [120] T.kids:=by rw[parts1 _ (by decide) (by decide)];rfl
   rw[e,head_named (by omega),hk,ifn,ifn,ifn,ifn,ifn,ifp,hb,and4]
   rfl
  ·have e:findR T.kind rowsL=some ⟨139,⟨#[116,108,97,109]⟩,0,0,false,⟨#[107,84]⟩⟩:=by rw[h];rfl
   have hk:numT T=(decide (0≤T.n) && decide (T.n≤0)):=by unfold numT;rw[ifn,ifn,ifn,ifn,num0]
   have hb:(decide (T.kids.length=2) && isKindF (T.kids.getD 0 .nil) && isTermF (T.kids.getD 1 .nil))=partsL [107,84] T.kids:=by rw[parts2 _ _ (by decide) (by decide)];rfl
   rw[e,head_plain (by omega),hk,ifn,ifn,ifp,hb,and4]
   rfl
  ·have e:findR T.kind rowsL=some ⟨140,⟨#[116,97,112,112]⟩,0,0,false,⟨#[120,99]⟩⟩:=by rw[h];rfl
   have hk:numT T=(decide (0≤T.n) && decide (T.n≤0)):=by unfold numT;rw[ifn,ifn,ifn,ifn,num0]
   have hb:(decide (T.kids.length=2) && isTermF (T.kids.getD 0 .nil) && isConF (T.kids.getD 1 .nil))=partsL [120,99] T.kids:=by rw[parts2 _ _ (by decide) (by decide)];rfl
   rw[e,head_plain (by omega),hk,ifn,ifn,ifn,ifn,ifn,ifn,ifp,hb,and4]
   rfl
  ·have e:findR T.kind rowsL=some ⟨141,⟨#[112,97,99,107]⟩,0,0,false,⟨#[99,120,99]⟩⟩:=by rw[h];rfl
   have hk:numT T=(decide (0≤T.n) && decide (T.n≤0)):=by unfold numT;rw[ifn,ifn,ifn,ifn,num0]
   have hb:(decide (T.kids.length=3) && isConF (T.kids.getD 0 .nil) && isTermF (T.kids.getD 1 .nil) && isConF (T.kids.getD 2 .nil))=partsL [99,120,99] T.kids:=by rw[parts3 _ _ _ (by decide) (by decide)];rfl
   rw[e,head_plain (by omega),hk,ifn,ifn,ifn,ifn,ifn,ifn,ifn,ifp,hb,and4]
   rfl
  ·have e:findR T.kind rowsL=some ⟨142,⟨#[117,110,112,97,99,107]⟩,0,0,false,⟨#[120,66]⟩⟩:=by rw[h];rfl
   have hk:numT T=(decide (0≤T.n) && decide (T.n≤0)):=by unfold numT;rw[ifn,ifn,ifn,ifn,num0]
   have hb:(decide (T.kids.length=2) && isTermF (T.kids.getD 0 .nil) && isTermF (T.kids.getD 1 .nil))=partsL [120,66] T.kids:=by rw[parts2 _ _ (by decide) (by decide)];rfl
   rw[e,head_plain (by omega),hk,ifn,ifn,ifn,ifp,hb,and4]
   rfl
  ·have e:findR T.kind rowsL=some ⟨143,⟨#[108,101,116]⟩,0,0,false,⟨#[120,88]⟩⟩:=by rw[h];rfl
   have hk:numT T=(decide (0≤T.n) && decide (T.n≤0)):=by unfold numT;rw[ifn,ifn,ifn,ifn,num0]
   have hb:(decide (T.kids.length=2) && isTermF (T.kids.getD 0 .nil) && isTermF (T.kids.getD 1 .nil))=partsL [120,88] T.kids:=by rw[parts2 _ _ (by decide) (by decide)];rfl
   rw[e,head_plain (by omega),hk,ifn,ifn,ifn,ifp,hb,and4]
   rfl
  ·have e:findR T.kind rowsL=some ⟨144,⟨#[105,102]⟩,0,0,false,⟨#[120,120,120]⟩⟩:=by rw[h];rfl
   have hk:numT T=(decide (0≤T.n) && decide (T.n≤0)):=by unfold numT;rw[ifn,ifn,ifn,ifn,num0]
   have hb:(decide (T.kids.length=3) && isTermF (T.kids.getD 0 .nil) && isTermF (T.kids.getD 1 .nil) && isTermF (T.kids.getD 2 .nil))=partsL [120,120,120] T.kids:=by rw[parts3 _ _ _ (by decide) (by decide)];rfl
   rw[e,head_plain (by omega),hk,ifn,ifn,ifn,ifn,ifn,ifn,ifn,ifn,ifp,hb,and4]
   rfl
  ·have e:findR T.kind rowsL=some ⟨145,⟨#[111,112]⟩,1,5,false,⟨#[120,120]⟩⟩:=by rw[h];rfl
   have hk:numT T=(decide (1≤T.n) && decide (T.n≤5)):=by unfold numT;rw[ifn,ifn,ifn,if_pos h]
   have hb:(decide (T.kids.length=2) && isTermF (T.kids.getD 0 .nil) && isTermF (T.kids.getD 1 .nil))=partsL [120,120] T.kids:=by rw[parts2 _ _ (by decide) (by decide)];rfl
   rw[e,head_plain (by omega),hk,ifn,ifn,ifn,ifp,hb,and4]
   rfl
  ·have e:findR T.kind rowsL=some ⟨146,⟨#[105,110]⟩,0,0,true,⟨#[99,120]⟩⟩:=by rw[h];rfl
   have hk:numT T=(decide (0≤T.n) && decide (T.n≤0)):=by unfold numT;rw[ifn,ifn,ifn,ifn,num0]
   have hb:(decide (T.kids.length=2) && isConF (T.kids.getD 0 .nil) && isTermF (T.kids.getD 1 .nil))=partsL [99,120] T.kids:=by rw[parts2 _ _ (by decide) (by decide)];rfl
   rw[e,head_named (by omega),hk,ifn,ifp,hb,and4]
   rfl
  ·have e:findR T.kind rowsL=some ⟨147,⟨#[99,97,115,101]⟩,0,0,false,⟨#[120,97]⟩⟩:=by rw[h];rfl
   have hk:numT T=(decide (0≤T.n) && decide (T.n≤0)):=by unfold numT;rw[ifn,ifn,ifn,ifn,num0]
   have hb:(decide (1 < T.kids.length) && isTermF (T.kids.getD 0 .nil) && tfieldsF 149 (T.kids.drop 1) && pairsF false [] (T.kids.drop 1))=partsL [120,97] T.kids:=by rw[partsA2,labT_eq];rw[sgn_x];simp only[Bool.and_assoc]
   rw[e,head_plain (by omega),hk,ifn,ifn,ifn,ifn,ifn,ifn,ifn,ifn,ifn,ifp,hb,and4]
   rfl
  ·have e:findR T.kind rowsL=some ⟨148,⟨#[102,111,108,100]⟩,0,0,false,⟨#[120,99,97]⟩⟩:=by rw[h];rfl
   have hk:numT T=(decide (0≤T.n) && decide (T.n≤0)):=by unfold numT;rw[ifn,ifn,ifn,ifn,num0]
   have hb:(decide (2 < T.kids.length) && isTermF (T.kids.getD 0 .nil) && isConF (T.kids.getD 1 .nil) && tfieldsF 149 (T.kids.drop 2) && pairsF false [] (T.kids.drop 2))=partsL [120,99,97] T.kids:=by rw[partsA3,labT_eq];rw[sgn_x];rw[sgn_c];simp only[Bool.and_assoc]
   rw[e,head_plain (by omega),hk,ifn,ifn,ifn,ifn,ifn,ifn,ifn,ifn,ifn,ifn,ifp,hb,and4]
   rfl
 ·rw[findR_none h,ifn,ifn,ifn,ifn,ifn,ifn,ifn,ifn,ifn,ifn,ifn]
  simp[rowF]
end Tm
end Go.Proofs.YtlgajkoplklkiaaGreat
namespace Go.Proofs.YtlgajkoplklkiaaGreat
open Go Go.Mq
end Go.Proofs.YtlgajkoplklkiaaGreat
namespace Go.Proofs.YtlgajkoplklkiaaGreat
namespace Tm
open Go Go.Mq
def fewL3 (l:List Cel):List Cel:=(l.take 80).map cutC
def fewF3 (l:List Cel):Tree:=(openF (fewL3 l)).1
theorem fewL3_cell (l:List Cel)(i j:Nat)(hi:i < (fewL3 l).length)(hj:j < 5):rowG l (i*5+j)=.d (cellD ((fewL3 l).getD i default) j):=by
 have h1:(i*5+j) / 5=i:=by omega
 have h2:(i*5+j) % 5=j:=by omega
 unfold rowG
 rw[h1,h2]
 have h60:i < 80∧i < l.length:=by simp[fewL3]at hi;omega
 have e:(fewL3 l).getD i default=cutC (l.getD i default):=by
  simp[fewL3,List.getElem?_take,h60.1,h60.2]
 rw[e]
theorem few3_ok (l:List Cel):Pure P 5 [.agg [.d (cellsD l)]] (.d (.tree (fewF3 l))):=by
 refine Pure.of_body tt [] [2] Tryz.func5 rfl rfl rfl lb fun g=>?_
 repeat' ((first|refine Ga ?_|refine Gc fun hlen=>?_|refine Gd (fun hc=>?_) fun hc=>?_)<;>conv=>whnf)
 refine loop_go (α:=Nat) (fun p=>⟨[(1,.ref 0 0),(3,.ref 1 0),(4,.d (.int .i64 p))],62,[(0,.cells [.d (cellsD l)]),(1,.cells [.row 2 p]),(2,.row 42 (.gen p 5 (rowG l)))],3,g⟩)
    (fun p=>p≤l.length∧p≤80) (fun p=>l.length - p) 0 ⟨by simp,by simp⟩
    (Ent.nil rfl rfl rfl (by repeat' first|exact trivial|apply And.intro|rfl|(refine int_eq ?_;rw[wrap64]<;>omega)) (by repeat' first|exact trivial|apply And.intro|rfl|(refine int_eq ?_;rw[wrap64]<;>omega))) (fun _=>rfl) fun p hpre=>?_
 obtain⟨hp1,hp2⟩:=hpre
 by_cases hlt:p < l.length∧p < 80
 ·obtain⟨hl1,hl2⟩:=hlt
  have hn:=loF_le 165 (l.getD p default).name.size (by omega) (by omega)
  have hmk:=loF_le 20 (l.getD p default).mark.size (by omega) (by omega)
  have hkd:=loF_le 12 (l.getD p default).kids.length (by omega) (by omega)
  obtain rfl|⟨k,rfl⟩:p=0∨∃k,p=k+1:=by cases p;exact .inl rfl;exact .inr ⟨_,rfl⟩
  ·repeat' ((first|refine Ga ?_|refine Gc fun hlen=>?_|refine Gh ((0:Int)≤(0:Int)∧(0:Int) < (l.length:Int)) ?_|refine Gh ((0:Int)≤loF 165 (l.getD 0 default).name.size∧loF 165 (l.getD 0 default).name.size≤(l.getD 0 default).name.size) ?_|refine Gh ((0:Int)≤loF 20 (l.getD 0 default).mark.size∧loF 20 (l.getD 0 default).mark.size≤(l.getD 0 default).mark.size) ?_|refine Gh ((0:Int)≤loF 12 (l.getD 0 default).kids.length∧loF 12 (l.getD 0 default).kids.length≤(l.getD 0 default).kids.length) ?_|refine Gh ((0+(loF 12 (l.getD 0 default).kids.length).toNat≤17592186044416∧(0+(loF 12 (l.getD 0 default).kids.length).toNat)*8≤140737488355328)) ?_|refine Gh ((0+1≤17592186044416∧(0+1)*72≤140737488355328)) ?_|refine Side.mk (show RowC.allOne _ from fun i _=>rfl) ?_|refine Side.mk (show RowC.allOne _ from fun i hi=>by have hi:i < 5:=hi;match i,hi with|0,_=>rfl|1,_=>rfl|2,_=>rfl|3,_=>rfl|4,_=>rfl) ?_|refine Gd (fun hc=>?_) fun hc=>?_)<;>conv=>whnf)
   refine⟨1,⟨by omega,by omega⟩,by omega,Ent.trans (Ent.fz_slice 5 (n:=(cutC (l.getD 0 default)).kids.length) (sz:=1) (f:=fun i _=>.int .i64 ((cutC (l.getD 0 default)).kids.getD i 0)) rfl ?_ rfl ?_ ?_ ?_) (Ent.trans (Ent.regen 7 (.gen 1 5 (rowG l)) rfl rfl rfl ?_) (Ent.re [0,1,7] rfl rfl rfl rfl rfl rfl (by repeat' first|exact trivial|apply And.intro|rfl|(refine int_eq ?_;rw[wrap64]<;>omega)) (by repeat' first|exact trivial|apply And.intro|rfl|exact fun i=>rfl)))⟩
   ·exact cutC_len (l.getD 0 default)
   ·intro i j hi hj
    exact cutC_cell (l.getD 0 default) i j hi hj
   ·repeat' first|exact trivial|apply And.intro|rfl|exact cutC_len (l.getD 0 default)|exact cutC_len0 (l.getD 0 default)
   ·repeat' first|exact trivial|apply And.intro|rfl|exact cutC_len0 (l.getD 0 default)|(refine fun i=>getD_fzOk ?_ i)
   ·intro i hi
    have hi:i < 1*5:=hi
    match i,hi with
    | 0,_=>rfl
    | 1,_=>rfl
    | 2,_=>rfl
    | 3,_=>rfl
    | 4,_=>rfl
  ·repeat' ((first|refine Ga ?_|refine Gc fun hlen=>?_|refine Gh ((0:Int)≤((k+1:Nat):Int)∧((k+1:Nat):Int) < (l.length:Int)) ?_|refine Gh ((0:Int)≤loF 165 (l.getD (k+1) default).name.size∧loF 165 (l.getD (k+1) default).name.size≤(l.getD (k+1) default).name.size) ?_|refine Gh ((0:Int)≤loF 20 (l.getD (k+1) default).mark.size∧loF 20 (l.getD (k+1) default).mark.size≤(l.getD (k+1) default).mark.size) ?_|refine Gh ((0:Int)≤loF 12 (l.getD (k+1) default).kids.length∧loF 12 (l.getD (k+1) default).kids.length≤(l.getD (k+1) default).kids.length) ?_|refine Gh ((0+(loF 12 (l.getD (k+1) default).kids.length).toNat≤17592186044416∧(0+(loF 12 (l.getD (k+1) default).kids.length).toNat)*8≤140737488355328)) ?_|refine Gh (((k+1)+1≤17592186044416∧((k+1)+1)*72≤140737488355328)) ?_|refine Side.mk (show RowC.allOne _ from fun i _=>rfl) ?_|refine Side.mk (show RowC.allOne _ from fun i hi=>by have hi:i < 5:=hi;match i,hi with|0,_=>rfl|1,_=>rfl|2,_=>rfl|3,_=>rfl|4,_=>rfl) ?_|refine Gd (fun hc=>?_) fun hc=>?_)<;>conv=>whnf)
   refine⟨k+2,⟨by omega,by omega⟩,by omega,Ent.trans (Ent.fz_slice 5 (n:=(cutC (l.getD (k+1) default)).kids.length) (sz:=1) (f:=fun i _=>.int .i64 ((cutC (l.getD (k+1) default)).kids.getD i 0)) rfl ?_ rfl ?_ ?_ ?_) (Ent.trans (Ent.regen 7 (.gen (k+1+1) 5 (rowG l)) rfl rfl rfl ?_) (Ent.re [0,1,7] rfl rfl rfl rfl rfl rfl (by repeat' first|exact trivial|apply And.intro|rfl|(refine int_eq ?_;rw[wrap64]<;>omega)) (by repeat' first|exact trivial|apply And.intro|rfl|exact fun i=>rfl)))⟩
   ·exact cutC_len (l.getD (k+1) default)
   ·intro i j hi hj
    exact cutC_cell (l.getD (k+1) default) i j hi hj
   ·repeat' first|exact trivial|apply And.intro|rfl|exact cutC_len (l.getD (k+1) default)|exact cutC_len0 (l.getD (k+1) default)
   ·repeat' first|exact trivial|apply And.intro|rfl|exact cutC_len0 (l.getD (k+1) default)|(refine fun i=>getD_fzOk ?_ i)|(refine fun i=>ite_fzOk ?_ (getD_fzOk ?_ _))
   ·intro i hi
    have hi:i < (k+1+1)*5:=hi
    show rowG l i=AVal.fz 5 _ _ (ite (i < (k+1)*5) _ _)
    by_cases hik:i < (k+1)*5
    ·rw[if_pos hik];rfl
    ·rw[if_neg hik]
     obtain⟨j,rfl⟩:∃j,i=(k+1)*5+j:=⟨i - (k+1)*5,by omega⟩
     have hj:j < 5:=by omega
     have h1:((k+1)*5+j) / 5=k+1:=by omega
     have h2:((k+1)*5+j) % 5=j:=by omega
     have h3:(k+1)*5+j - (k+1)*5=j:=by omega
     unfold rowG
     rw[h1,h2,h3]
     match j,hj with
     | 0,_=>rfl
     | 1,_=>rfl
     | 2,_=>rfl
     | 3,_=>rfl
     | 4,_=>rfl
 ·have hfl:p=(fewL3 l).length:=by simp[fewL3];omega
  have hcell:∀i j,i < (fewL3 l).length→j < 5→rowG l (i*5+j)=.d (cellD ((fewL3 l).getD i default) j):=fun i j hi hj=>fewL3_cell l i j hi hj
  by_cases hpl:p=l.length
  ·refine then_go hm htt ?_
   conv=>whnf
   repeat' ((first|refine Gb ?_|refine Gc fun hlen=>?_|refine Gd (fun hc=>?_) fun hc=>?_)<;>conv=>whnf)
   refine then_go hm htt ?_
   conv=>whnf
   repeat' ((first|refine Gb ?_|refine Gc fun hlen=>?_|refine Gd (fun hc=>?_) fun hc=>?_)<;>conv=>whnf)
   refine then_go hm htt ?_
   conv=>whnf
   refine then_ent (Ent.fz_slice 2 (n:=(fewL3 l).length) (sz:=5) (f:=fun i j=>cellD ((fewL3 l).getD i default) j) rfl hfl rfl hcell ?_ ?_) ?_
   ·repeat' first|exact trivial|apply And.intro|rfl|exact hfl
   ·repeat' first|exact trivial|apply And.intro|rfl|exact hfl
   repeat' ((first|refine Ga ?_|refine Gc fun hlen=>?_|refine Ge (open_ok (fewL3 l)) ?_|refine Gd (fun hc=>?_) fun hc=>?_)<;>conv=>whnf)
   exact Gf rfl (tree_eq rfl) rfl
  ·have hpl2:p < l.length:=by omega
   have hp60:¬p < 80:=by omega
   refine then_go hm htt ?_
   conv=>whnf
   repeat' ((first|refine Gb ?_|refine Gc fun hlen=>?_|refine Gd (fun hc=>?_) fun hc=>?_)<;>conv=>whnf)
   refine then_go hm htt ?_
   conv=>whnf
   repeat' ((first|refine Gb ?_|refine Gc fun hlen=>?_|refine Gd (fun hc=>?_) fun hc=>?_)<;>conv=>whnf)
   refine then_go hm htt ?_
   conv=>whnf
   refine then_ent (Ent.fz_slice 2 (n:=(fewL3 l).length) (sz:=5) (f:=fun i j=>cellD ((fewL3 l).getD i default) j) rfl hfl rfl hcell ?_ ?_) ?_
   ·repeat' first|exact trivial|apply And.intro|rfl|exact hfl
   ·repeat' first|exact trivial|apply And.intro|rfl|exact hfl
   repeat' ((first|refine Ga ?_|refine Gc fun hlen=>?_|refine Ge (open_ok (fewL3 l)) ?_|refine Gd (fun hc=>?_) fun hc=>?_)<;>conv=>whnf)
   exact Gf rfl (tree_eq rfl) rfl
def mx (a b:Int):Int:=if b > a then b else a
theorem mx_eq (a b:Int):mx a b=max a b:=by unfold mx;split<;>omega
def bndF (k:Int)(i:Nat):Int×Int:=if k=149 then (0,1) else if i≠1 then (0,0) else if k=139 then (1,0) else if k=142 then (1,1) else if k=134∨k=143 then (0,1) else (0,0)
theorem bnd_cases (k:Int)(i:Nat):bndF k i=(0,0)∨bndF k i=(0,1)∨bndF k i=(1,0)∨bndF k i=(1,1):=by
 unfold bndF
 repeat' split
 all_goals simp
theorem bnd_le (k:Int)(i:Nat):0≤(bndF k i).1∧(bndF k i).1≤1∧0≤(bndF k i).2∧(bndF k i).2≤1:=by
 rcases bnd_cases k i with h|h|h|h<;>rw[h]<;>decide
theorem tbinds_ok (T:Tree)(hT:T≠.nil)(i:Nat):Pure P 73 [.d (.tree T),.d (.int .i64 i)] (.tuple [.d (.int .i64 (bndF T.kind i).1),.d (.int .i64 (bndF T.kind i).2)]):=by
 refine Pure.of_body tt [] [4,5] Tryz.func73 rfl rfl rfl lb fun g=>?_
 unfold bndF
 by_cases k1:T.kind=149
 ·rw[if_pos k1]
  repeat' ((first|refine Ga ?_|refine Gc fun hlen=>?_|refine Gd (fun hc=>?_) fun hc=>?_)<;>conv=>whnf)
  exact Gg
 rw[if_neg k1]
 by_cases k2:i=1
 ·rw[ifn]
  subst k2
  by_cases k3:T.kind=139
  ·rw[if_pos k3]
   repeat' ((first|refine Ga ?_|refine Gc fun hlen=>?_|refine Gd (fun hc=>?_) fun hc=>?_)<;>conv=>whnf)
   exact Gg
  rw[if_neg k3]
  by_cases k4:T.kind=142
  ·rw[if_pos k4]
   repeat' ((first|refine Ga ?_|refine Gc fun hlen=>?_|refine Gd (fun hc=>?_) fun hc=>?_)<;>conv=>whnf)
   exact Gg
  rw[if_neg k4]
  by_cases k5:T.kind=134∨T.kind=143
  ·rw[if_pos k5]
   repeat' ((first|refine Ga ?_|refine Gc fun hlen=>?_|refine Gd (fun hc=>?_) fun hc=>?_)<;>conv=>whnf)
   all_goals exact Gg
  ·rw[if_neg k5]
   repeat' ((first|refine Ga ?_|refine Gc fun hlen=>?_|refine Gd (fun hc=>?_) fun hc=>?_)<;>conv=>whnf)
   all_goals exact Gg
 ·rw[if_pos k2]
  repeat' ((first|refine Ga ?_|refine Gc fun hlen=>?_|refine Gd (fun hc=>?_) fun hc=>?_)<;>conv=>whnf)
  exact Gg
mutual
def freeT:Tree→Int→Int→Int×Int
 | .nil,_,_=>(0,0)
 | .node k n nm mk l,c,t=>if k=130 then (0,n - t+1) else if k < 130 then (freeR (.node k n nm mk l) - c,0) else freesT k 0 l c t
def freesT (k:Int)(i:Nat):List Tree→Int→Int→Int×Int
 | [],_,_=>(0,0)
 | x::l,c,t=>(mx (freesT k (i+1) l c t).1 (freeT x (c+(bndF k i).1) (t+(bndF k i).2)).1,mx (freesT k (i+1) l c t).2 (freeT x (c+(bndF k i).1) (t+(bndF k i).2)).2)
end
theorem freeT_eq {T:Tree}(h:T≠.nil)(c t:Int):freeT T c t=if T.kind=130 then (0,T.n - t+1) else if T.kind < 130 then (freeR T - c,0) else freesT T.kind 0 T.kids c t:=by
 cases T with
 | nil=>exact absurd rfl h
 | node=>rw[freeT];rfl
theorem freesT_pos (k:Int):∀(l:List Tree) (i:Nat) (c t:Int),0≤(freesT k i l c t).1∧0≤(freesT k i l c t).2
 | [],i,c,t=>by rw[freesT];exact⟨Int.le_refl _,Int.le_refl _⟩
 | x::l,i,c,t=>by
  have h:=freesT_pos k l (i+1) c t
  rw[freesT]
  simp only[mx_eq]
  omega
theorem freeR_le (T:Tree):0≤freeR T∧freeR T≤65537:=by
 rw[freeR_eq,rfreeR]
 split
 ·rename_i h
  have hz:=conE_size h
  have hl:lim=1099511627776:=rfl
  have h1:=free_bound T 0 (conE_plain h) (by omega) (by omega)
  have h2:=(free_hits T 0 (conE_plain h) (by omega) (by omega)).2.1
  omega
 ·omega
theorem cellI {a b:Int}(h:a=b):some (AObj.cells [AVal.d (.int .i64 a)])=some (AObj.cells [AVal.d (.int .i64 b)]):=by rw[h]
def walkC:Int→Int→List (Nat×AObj):=fun A B=>[(0,.cells [.d (.int .i64 B)]),(1,.cells [.d (.int .i64 A)]),(2,.cells [.fn 72 [.ref 0 0,.ref 1 0,.ref 2 0]])]
theorem shw_kids {T:Tree}(h:Shw T):T.kind < 130∨((130≤T.kind)∧(T.kind=130→0≤T.n∧T.n≤65536)∧∀x∈T.kids,Shw x):=by
 rcases h with h|h|h|h
 ·exact .inl (con_lt h)
 ·obtain⟨hh,hk⟩:=term_head h
  exact .inr ⟨hh.kind.1,hh.n130,hk⟩
 ·obtain⟨p1,p2,p3,p4,p5⟩:=tfield_parts h
  refine .inr ⟨by omega,fun q=>by omega,fun x hx=>?_⟩
  rw[mem_one p4 hx];exact .inr (.inl p5)
 ·obtain⟨p1,p2,p3,p4,p5⟩:=tfield_parts h
  refine .inr ⟨by omega,fun q=>by omega,fun x hx=>?_⟩
  rw[mem_one p4 hx];exact .inr (.inl p5)
theorem twalk_ok (T:Tree):∀(c t A B:Int),Shw T→0≤c→c+sizeN T≤1099511627776→0≤t→t+sizeN T≤1099511627776→0≤A→0≤B →
  Fun P 72 [.d (.tree T),.d (.int .i64 c),.d (.int .i64 t),.ref 0 0,.ref 1 0,.ref 2 0] (walkC A B) 3 (.tuple []) (walkC (mx A (freeT T c t).1) (mx B (freeT T c t).2)) 3:=by
 induction T using Tree.ind' with
 | h0=>intro c t A B h;exact absurd rfl h.ne
 | h1 T hT ih=>?_
 intro c t A B hs hc0 hc1 ht0 ht1 hA hB
 have hsz:=sizeN_kids hT
 have hfe:=freeT_eq hT c t
 unfold walkC
 refine Fun.of_body tt [] [] Tryz.func72 rfl rfl rfl lb fun g=>?_
 rcases shw_kids hs with hk|⟨hk,hn,hkids⟩
 ·rw[ifn,if_pos hk]at hfe
  rw[hfe]
  have hfr:=freeR_le T
  repeat' ((first|refine Ga ?_|refine Gc fun hlen=>?_|refine Ge (free_ok T) ?_|refine Gd (fun hc=>?_) fun hc=>?_)<;>conv=>whnf)
  refine ret_objs rfl rfl rfl ?_ (Nat.le_refl _)
  have e:IntKind.i64.wrap (freeR T - c)=freeR T - c:=wrap64 (by omega) (by omega)
  refine⟨cellI ?_,cellI ?_,rfl,trivial⟩
  ·simp only[mx_eq];omega
  ·rw[e];rfl
 by_cases q:T.kind=130
 ·rw[if_pos q]at hfe
  rw[hfe]
  have hb:=hn q
  repeat' ((first|refine Ga ?_|refine Gc fun hlen=>?_|refine Gd (fun hc=>?_) fun hc=>?_)<;>conv=>whnf)
  refine ret_objs rfl rfl rfl ?_ (Nat.le_refl _)
  have e:IntKind.i64.wrap (T.n - t)=T.n - t:=wrap64 (by omega) (by omega)
  have e2:IntKind.i64.wrap (IntKind.i64.wrap (T.n - t)+1)=T.n - t+1:=by rw[e];exact wrap64 (by omega) (by omega)
  refine⟨cellI ?_,cellI ?_,rfl,trivial⟩
  ·rw[e2];rfl
  ·simp only[mx_eq];omega
 rw[if_neg q,ifn]at hfe
 rw[hfe]
 repeat' ((first|refine Ga ?_|refine Gc fun hlen=>?_|refine Gd (fun hc=>?_) fun hc=>?_)<;>conv=>whnf)
 refine loop_go (α:=Nat×Int×Int) (fun p=>⟨[(0,.d (.tree T)),(1,.d (.int .i64 c)),(2,.d (.int .i64 t)),(3,.ref 0 0),(4,.ref 1 0),(5,.ref 2 0),(43,.d (.trees T.kids)),(44,.d (.int .i64 T.kids.length)),(45,.d (.int .i64 p.1))],66,[(0,.cells [.d (.int .i64 p.2.2)]),(1,.cells [.d (.int .i64 p.2.1)]),(2,.cells [.fn 72 [.ref 0 0,.ref 1 0,.ref 2 0]])],3,g⟩)
   (fun p=>p.1≤T.kids.length∧0≤p.2.1∧0≤p.2.2∧mx p.2.1 (freesT T.kind p.1 (T.kids.drop p.1) c t).1=mx A (freesT T.kind 0 T.kids c t).1∧mx p.2.2 (freesT T.kind p.1 (T.kids.drop p.1) c t).2=mx B (freesT T.kind 0 T.kids c t).2) (fun p=>T.kids.length - p.1) (0,A,B) ⟨by simp,hA,hB,rfl,rfl⟩
   (Ent.go [0,1,2]) (fun _=>rfl) fun p hpre=>?_
 obtain⟨p,A',B'⟩:=p
 obtain⟨hp1,hp2,hp3,hp4,hp5⟩:=hpre
 simp only[]at hp1 hp2 hp3 hp4 hp5
 by_cases hlt:p < T.kids.length
 ·have hmx:=getD_mem hlt
  have s1:=sizesN_mem hmx
  rw[drop_step hlt,freesT]at hp4 hp5
  have hbl:=bnd_le T.kind p
  have hbi:=tbinds_ok T hT p
  generalize bndF T.kind p=b at *
  obtain⟨b1,b2⟩:=b
  simp only[]at hbl hbi hp4 hp5
  have hih:=ih _ hmx (c+b1) (t+b2) A' B' (hkids _ hmx) (by omega) (by omega) (by omega) (by omega) hp2 hp3
  have hq:=freesT_pos T.kind (T.kids.drop (p+1)) (p+1) c t
  have w1:IntKind.i64.wrap (c+b1)=c+b1:=wrap64 (by omega) (by omega)
  have w2:IntKind.i64.wrap (t+b2)=t+b2:=wrap64 (by omega) (by omega)
  generalize freeT (T.kids.getD p .nil) (c+b1) (t+b2)=F at *
  rw[←w1,←w2]at hih
  unfold walkC at hih
  repeat' ((first|refine Ga ?_|refine Gc fun hlen=>?_|refine Ge hbi ?_|refine CallG.go hih [0,1,2] ?_|refine Gd (fun hc=>?_) fun hc=>?_)<;>conv=>whnf)
  exact⟨(p+1,mx A' F.1,mx B' F.2),⟨by simp only[];omega,by simp only[mx_eq];omega,by simp only[mx_eq];omega,by simp only[];rw[←hp4];simp only[mx_eq];omega,by simp only[];rw[←hp5];simp only[mx_eq];omega⟩,by simp only[];omega,Ent.go [0,1,2]⟩
 ·rw[drop_end (by omega),freesT]at hp4 hp5
  repeat' ((first|refine Ga ?_|refine Gc fun hlen=>?_|refine Gd (fun hc=>?_) fun hc=>?_)<;>conv=>whnf)
  refine ret_objs rfl rfl rfl ?_ (Nat.le_refl _)
  refine⟨cellI ?_,cellI ?_,rfl,trivial⟩
  ·rw[←hp5];simp only[mx_eq];omega
  ·rw[←hp4];simp only[mx_eq];omega
def tfreeR (T:Tree):Int×Int:=if termE T=0 then (mx 0 (freeT T 0 0).1,mx 0 (freeT T 0 0).2) else (0,0)
theorem tFree_ok (T:Tree):Pure P 38 [.d (.tree T)] (.tuple [.d (.int .i64 (tfreeR T).1),.d (.int .i64 (tfreeR T).2)]):=by
 refine Pure.of_bodyR tt [] [.cell 2 3,.cell 3 3] Tryz.func38 rfl rfl rfl lb fun g=>?_
 unfold tfreeR
 by_cases h:termE T=0
 ·have h1:=tCheck_ok T
  rw[h]at h1
  obtain⟨h2,h3,h4⟩:=termE_ok h
  have h5:=twalk_ok T 0 0 0 0 (.inr (.inl h2)) (by omega) (by omega) (by omega) (by omega) (by omega) (by omega)
  rw[if_pos h]
  unfold walkC at h5
  repeat' ((first|refine Ga ?_|refine Gc fun hlen=>?_|refine Ge h1 ?_|refine CallG.go h5 [1,0,2] ?_|refine Gd (fun hc=>?_) fun hc=>?_)<;>conv=>whnf)
  exact retR_closed htt _ rfl rfl rfl rfl
 ·rw[if_neg h]
  repeat' ((first|refine Ga ?_|refine Gc fun hlen=>?_|refine Ge (tCheck_ok T) ?_|refine Gd (fun hc=>?_) fun hc=>?_)<;>conv=>whnf)
  exact retR_closed htt _ rfl rfl rfl rfl
end Tm
end Go.Proofs.YtlgajkoplklkiaaGreat
namespace Go.Proofs.YtlgajkoplklkiaaGreat
namespace Tm
open Go Go.Mq
theorem termE_of {T:Tree}(h:isTermF T=true)(hF:Full T)(hz:sizeN T≤65536):termE T=0:=by
 have hw:=whole_full T hF 65536 (by omega)
 unfold termE checkF
 rw[hw,h];simp
theorem tfreeR_of {T:Tree}(h:termE T=0):tfreeR T=(mx 0 (freeT T 0 0).1,mx 0 (freeT T 0 0).2):=by unfold tfreeR;rw[if_pos h]
end Tm
end Go.Proofs.YtlgajkoplklkiaaGreat
namespace Go.Mq
open Go
end Go.Mq
namespace Go.Proofs.YtlgajkoplklkiaaGreat
namespace Tm
open Go Go.Mq
end Tm
end Go.Proofs.YtlgajkoplklkiaaGreat
namespace Go.Proofs.YtlgajkoplklkiaaGreat
namespace Sb
open Go Go.Mq Tm
mutual
def inT (i:Int)(b:Tree):Tree→Int→Tree
 | .nil,_=>.nil
 | .node k n nm mk l,t=>if k=130 then (if n < t∨n - t < i then .node k n nm mk l else if i < n - t then .node 130 (n - 1) ByteArray.empty ByteArray.empty [] else b)
  else if k < 130 then .node k n nm mk l else .node k n nm mk (insT i b k 0 l t)
def insT (i:Int)(b:Tree)(k:Int)(p:Nat):List Tree→Int→List Tree
 | [],_=>[]
 | x::l,t=>inT i b x (t+(bndF k p).2)::insT i b k (p+1) l t
end
theorem inT_eq {T:Tree}(h:T≠.nil)(i:Int)(b:Tree)(t:Int):inT i b T t=if T.kind=130 then (if T.n < t∨T.n - t < i then T else if i < T.n - t then .node 130 (T.n - 1) ByteArray.empty ByteArray.empty [] else b)
  else if T.kind < 130 then T else .node T.kind T.n T.name T.mark (insT i b T.kind 0 T.kids t):=by
 cases T with
 | nil=>exact absurd rfl h
 | node=>rw[inT];rfl
theorem insT_len (i:Int)(b:Tree)(k:Int):∀(l:List Tree) (p:Nat) (t:Int),(insT i b k p l t).length=l.length
 | [],p,t=>by rw[insT]
 | x::l,p,t=>by rw[insT];simp[insT_len i b k l (p+1) t]
mutual
def cntF:Tree→Int→Int
 | .nil,r=>r
 | .node _ _ _ _ l,r=>cntsF l (r - 1)
def cntsF:List Tree→Int→Int
 | [],r=>r
 | x::l,r=>if 0≤r then cntsF l (cntF x r) else cntsF l r
end
theorem cntF_kids {T:Tree}(h:T≠.nil)(r:Int):cntF T r=cntsF T.kids (r - 1):=by
 cases T with
 | nil=>exact absurd rfl h
 | node=>rw[cntF];rfl
theorem cnt_eq (T:Tree):Full T→∀r:Int,0≤r→cntF T r=if (sizeN T:Int)≤r then r - sizeN T else -1:=by
 induction T using Tree.ind' with
 | h0=>intro h;exact absurd rfl h.ne
 | h1 T hT ih =>
  intro hF r hr
  have hsz:=sizeN_kids hT
  rw[cntF_kids hT]
  have h:∀(l:List Tree) (q:Int),(∀x∈l,x∈T.kids) → -1≤q→cntsF l q=if (sizesN l:Int)≤q then q - sizesN l else -1:=by
   intro l
   induction l with
   | nil =>
    intro q _ hq
    rw[cntsF,sizesN]
    split<;>omega
   | cons x l ihl =>
    intro q hx hq
    rw[cntsF,sizesN]
    push_cast
    have hxm:=hx x (by simp)
    have hx1:=sizeN_kids (hF.kids x hxm).ne
    by_cases h0:0≤q
    ·rw[if_pos h0,ih x hxm (hF.kids x hxm) q h0]
     by_cases h1:(sizeN x:Int)≤q
     ·rw[if_pos h1,ihl _ (fun y hy=>hx y (by simp[hy])) (by omega)]
      by_cases h2:(sizesN l:Int)≤q - sizeN x
      ·rw[if_pos h2,ifp];omega
      ·rw[if_neg h2,ifn]
     ·rw[if_neg h1,ihl _ (fun y hy=>hx y (by simp[hy])) (by omega),ifn,ifn]
    ·rw[if_neg h0,ihl _ (fun y hy=>hx y (by simp[hy])) (by omega),ifn,ifn]
  rw[h T.kids (r - 1) (fun x hx=>hx) (by omega)]
  by_cases h1:(sizeN T:Int)≤r
  ·rw[if_pos h1,ifp];omega
  ·rw[if_neg h1,ifn]
def closedF (T:Tree):Bool:=if conE T=0 then decide (freeR T=0) else decide (termE T=0) && (decide ((tfreeR T).1=0) && decide ((tfreeR T).2=0))
def sizedR (T:Tree):Tree×Int:=if 65536 < sizeN T then (.nil,3) else (T,0)
def termR (T:Tree)(i:Int)(b:Tree):Tree×Int :=
 if termE T≠0 then (.nil,termE T) else if termE b≠0 then (.nil,termE b) else if i < 0∨closedF b=false then (.nil,2) else sizedR (inT i b T 0)
end Sb
end Go.Proofs.YtlgajkoplklkiaaGreat
namespace Go.Proofs.YtlgajkoplklkiaaGreat
namespace Sb
open Go Go.Mq Tm
structure Rp (x y:Tree):Prop where
 con:isConF x=true→isConF y=true
 kind:isKindF x=true→isKindF y=true
 term:isTermF x=true→isTermF y=true
 field:∀kind,tfieldF kind x=true→tfieldF kind y=true
 name:(∃kind,tfieldF kind x=true)→y.name=x.name
theorem pairs_map:∀{l l':List Tree} (rise:Bool) (pre pre':List Tree),pre'.map Tree.name=pre.map Tree.name→l'.map Tree.name=l.map Tree.name→pairsF rise pre' l'=pairsF rise pre l
 | [],[],_,_,_,_,_=>rfl
 | [],_::_,_,_,_,_,h=>by simp at h
 | _::_,[],_,_,_,_,h=>by simp at h
 | x::l,x'::l',rise,pre,pre',hp,h=>by
  simp only[List.map_cons,List.cons.injEq]at h
  have e:(pre'.all fun y=>okPair rise y.name x'.name)=pre.all fun y=>okPair rise y.name x.name:=by
   rw[h.1]
   have g:∀(q:List Tree),(q.all fun y=>okPair rise y.name x.name)=(q.map Tree.name).all fun s=>okPair rise s x.name:=fun q=>by rw[List.all_map];rfl
   rw[g,g,hp]
  rw[pairsF,pairsF,e,pairs_map rise (pre++[x]) (pre'++[x']) (by simp[hp,h.1]) h.2]
theorem tfields_map {kind:Int}:∀{l l':List Tree},l'.length=l.length→(∀i,i < l.length→Rp (l.getD i .nil) (l'.getD i .nil))→tfieldsF kind l=true→tfieldsF kind l'=true∧l'.map Tree.name=l.map Tree.name
 | [],[],_,_,_=>⟨rfl,rfl⟩
 | [],_::_,h,_,_=>by simp at h
 | _::_,[],h,_,_=>by simp at h
 | x::l,x'::l',hl,h,hf=>by
  rw[tfieldsF,Bool.and_eq_true]at hf
  have h0:=h 0 (by simp)
  obtain⟨a1,a2⟩:=tfields_map (kind:=kind) (l:=l) (l':=l') (by simpa using hl) (fun i hi=>by have:=h (i+1) (by simpa using hi);simpa only[List.getD_cons_succ] using this) hf.2
  refine⟨?_,?_⟩
  ·rw[tfieldsF,a1,Bool.and_true];exact h0.field kind hf.1
  ·rw[List.map_cons,List.map_cons,a2]
   congr 1
   exact h0.name ⟨kind,hf.1⟩
theorem list_map {kind:Int}{l l':List Tree}(hl:l'.length=l.length)(h:∀i,i < l.length→Rp (l.getD i .nil) (l'.getD i .nil))(hf:listF kind l=true):listF kind l'=true:=by
 unfold listF at hf ⊢
 rw[labT_eq]at hf ⊢
 simp only[Bool.and_eq_true]at hf ⊢
 obtain⟨a1,a2⟩:=tfields_map hl h hf.1.1
 rw[pairs_map _ [] [] rfl a2,hl]
 exact⟨⟨a1,hf.1.2⟩,hf.2⟩
theorem sgn_map {c:UInt8}{x y:Tree}(h:Rp x y)(hs:sgn c x=true):sgn c y=true:=by
 unfold sgn at hs ⊢
 split
 ·rename_i q;rw[if_pos q]at hs;exact h.con hs
 ·rename_i q
  rw[if_neg q]at hs
  split
  ·rename_i q2;rw[if_pos q2]at hs;exact h.kind hs
  ·rename_i q2;rw[if_neg q2]at hs;exact h.term hs
theorem parts_map:∀(b:List UInt8) {l l':List Tree},l'.length=l.length→(∀i,i < l.length→Rp (l.getD i .nil) (l'.getD i .nil))→partsL b l=true→partsL b l'=true
 | [],l,l',hl,_,hp=>by rw[partsL]at hp ⊢;rw[hl];exact hp
 | c::r,l,l',hl,h,hp=>by
  rw[partsL_cons]at hp ⊢
  split
  ·rename_i q;rw[if_pos q]at hp;exact list_map hl h hp
  ·rename_i q
   rw[if_neg q]at hp
   split
   ·rename_i q2;rw[if_pos q2]at hp;exact list_map hl h hp
   ·rename_i q2
    rw[if_neg q2]at hp
    match l,l',hl,h,hp with
    | [],l',hl,h,hp=>cases hp
    | x::l,[],hl,h,hp=>simp at hl
    | x::l,x'::l',hl,h,hp =>
     have hp:(sgn c x && partsL r l)=true:=hp
     show (sgn c x' && partsL r l')=true
     rw[Bool.and_eq_true]at hp ⊢
     exact⟨sgn_map (h 0 (by simp)) hp.1,parts_map r (by simpa using hl) (fun i hi=>by have:=h (i+1) (by simpa using hi);simpa only[List.getD_cons_succ] using this) hp.2⟩
theorem term_kids {T:Tree}{l':List Tree}(hl:l'.length=T.kids.length)(h:∀i,i < T.kids.length→Rp (T.kids.getD i .nil) (l'.getD i .nil))(ht:isTermF T=true):isTermF (.node T.kind T.n T.name T.mark l')=true:=by
 have hT:T≠.nil:=by intro e;subst e;rw[isTermF]at ht;cases ht
 rw[isTerm_rows hT]at ht
 rw[isTerm_rows (by simp)]
 show rowF (.node T.kind T.n T.name T.mark l') (findR T.kind rowsL)=true
 cases hr:findR T.kind rowsL with
 | none=>rw[hr]at ht;cases ht
 | some r =>
  rw[hr]at ht
  simp only[rowF,Bool.and_eq_true]at ht ⊢
  exact⟨ht.1,parts_map _ hl h ht.2⟩
theorem insT_get (i:Int)(b:Tree)(k:Int):∀(l:List Tree) (p:Nat) (t:Int) (j:Nat),j < l.length→(insT i b k p l t).getD j .nil=inT i b (l.getD j .nil) (t+(bndF k (p+j)).2)
 | [],p,t,j,h=>by simp at h
 | x::l,p,t,0,h=>by rw[insT];rfl
 | x::l,p,t,j+1,h=>by
  rw[insT,List.getD_cons_succ,List.getD_cons_succ,insT_get i b k l (p+1) t j (by simpa using h),show p+1+j=p+(j+1) by omega]
theorem var_head {n:Int}(h:0≤n∧n≤65536):headF (.node 130 n ByteArray.empty ByteArray.empty [])=true:=by
 rw[head_plain (T:=.node 130 n ByteArray.empty ByteArray.empty []) ⟨show (130:Int)≠138 by decide,show (130:Int)≠146 by decide⟩]
 unfold numT
 rw[if_pos (show (Tree.node 130 n ByteArray.empty ByteArray.empty []).kind=130 from rfl)]
 have g1:decide (0≤(Tree.node 130 n ByteArray.empty ByteArray.empty []).n)=true:=decide_eq_true (show 0≤n from h.1)
 have g2:decide ((Tree.node 130 n ByteArray.empty ByteArray.empty []).n≤65536)=true:=decide_eq_true (show n≤65536 from h.2)
 rw[g1,g2]
 rfl
theorem in_term (i:Int)(b:Tree)(hi:0≤i)(hb:isTermF b=true)(T:Tree):∀t:Int,0≤t→Shw T→Rp T (inT i b T t):=by
 induction T using Tree.ind' with
 | h0=>intro t _ h;exact absurd rfl h.ne
 | h1 T hT ih =>
  intro t ht hs
  rw[inT_eq hT]
  by_cases q:T.kind=130
  ·rw[if_pos q]
   have hcon:isConF T=true→False:=fun h=>by have:=con_lt (.inl h);omega
   have hkin:isKindF T=true→False:=fun h=>by have:=con_lt (.inr h);omega
   have hfie:∀kind,(tfieldF kind T=true)→Shw T→kind=130∨False:=fun kind h _=>by
    obtain⟨_,p2,_⟩:=tfield_parts h;left;omega
   by_cases c1:T.n < t∨T.n - t < i
   ·rw[if_pos c1]
    exact⟨id,id,id,fun _=>id,fun _=>rfl⟩
   ·rw[if_neg c1]
    have ht':isTermF T=true:=by
     rcases hs with h|h|h|h
     ·have:=con_lt h;omega
     ·exact h
     ·obtain⟨_,p2,_⟩:=tfield_parts h;omega
     ·obtain⟨_,p2,_⟩:=tfield_parts h;omega
    have hh:=term_head ht'
    have hk0:T.kids.length=0:=by
     rw[isTermF_eq hT,Bool.and_eq_true,if_pos (.inl q)]at ht'
     exact of_decide_eq_true ht'.2
    have hfx:∀kind,tfieldF kind T=true→False:=fun kind h=>by
     obtain⟨_,_,_,p4,_⟩:=tfield_parts h;omega
    have hb':=hh.1.n130 q
    by_cases c2:i < T.n - t
    ·rw[if_pos c2]
     refine⟨fun h=>(hcon h).elim,fun h=>(hkin h).elim,fun _=>?_,fun k h=>(hfx k h).elim,fun⟨k,h⟩=>(hfx k h).elim⟩
     rw[isTermF_eq (by simp)]
     have e:=var_head (n:=T.n - 1) (by omega)
     rw[e]
     simp[Tree.kind,Tree.kids]
    ·rw[if_neg c2]
     exact⟨fun h=>(hcon h).elim,fun h=>(hkin h).elim,fun _=>hb,fun k h=>(hfx k h).elim,fun⟨k,h⟩=>(hfx k h).elim⟩
  rw[if_neg q]
  by_cases q2:T.kind < 130
  ·rw[if_pos q2]
   exact⟨id,id,id,fun _=>id,fun _=>rfl⟩
  rw[if_neg q2]
  have hk:∀x∈T.kids,Shw x:=by
   rcases shw_kids hs with w|⟨_,_,w⟩
   ·exact absurd w q2
   ·exact w
  have hl:=insT_len i b T.kind T.kids 0 t
  have hr:∀j,j < T.kids.length→Rp (T.kids.getD j .nil) ((insT i b T.kind 0 T.kids t).getD j .nil):=fun j hj=>by
   rw[insT_get i b T.kind T.kids 0 t j hj]
   have hm:=getD_mem hj
   have hbl:=bnd_le T.kind (0+j)
   exact ih _ hm _ (by omega) (hk _ hm)
  refine⟨fun h=>absurd (con_lt (.inl h)) q2,fun h=>absurd (con_lt (.inr h)) q2,fun h=>term_kids hl hr h,fun kind h=>?_,fun _=>rfl⟩
  obtain⟨_,p2,_,p4,_⟩:=tfield_parts h
  rw[tfieldF_eq hT]at h
  rw[tfieldF_eq (by simp)]
  simp only[Bool.and_eq_true,decide_eq_true_eq]at h ⊢
  exact⟨⟨h.1.1,by show (insT i b T.kind 0 T.kids t).length=1;rw[hl];exact p4⟩,(hr 0 (by omega)).term h.2⟩
end Sb
end Go.Proofs.YtlgajkoplklkiaaGreat
namespace Go.Proofs.YtlgajkoplklkiaaGreat
open Go Go.Mq
end Go.Proofs.YtlgajkoplklkiaaGreat
namespace Go.Proofs.YtlgajkoplklkiaaGreat
namespace Ex
open Go Go.Mq
inductive EB:Tree→Prop
 | node {k n:Int} {nm mk:ByteArray} {l:List Tree} (hv:k=110→0≤n∧n≤65536) (hb:k=164∨k=165→0≤n∧n≤8192) (h:∀x∈l,EB x):EB (.node k n nm mk l)
theorem EB.of {T:Tree}(hT:T≠.nil)(hv:T.kind=110→0≤T.n∧T.n≤65536)(hb:T.kind=164∨T.kind=165→0≤T.n∧T.n≤8192)(hk:∀x∈T.kids,EB x):EB T:=by
 cases T with
 | nil=>exact absurd rfl hT
 | node=>exact .node hv hb hk
theorem EB.k {T:Tree}(h:EB T):∀x∈T.kids,EB x:=by cases h;assumption
theorem EB.full {T:Tree}(h:EB T):Full T:=by
 induction T using Tree.ind with
 | h0=>cases h
 | h1 k n nm mk l ih=>exact .node fun x hx=>ih x hx (h.k x hx)
theorem kind_EB (T:Tree):isKindF T=true→EB T:=by
 induction T using Tree.ind' with
 | h0=>intro h;rw[isKindF]at h;cases h
 | h1 T hT ih =>
  intro h
  rw[isKindF_eq hT]at h
  split at h
  ·rename_i hk
   rw[Bool.and_eq_true]at h
   have hl:T.kids=[]:=by have:=h.2;rw[beq_iff_eq]at this;exact List.length_eq_zero_iff.1 (by omega)
   exact .of hT (fun e=>by omega) (fun e=>by omega) (fun x hx=>by rw[hl]at hx;cases hx)
  ·split at h
   ·rename_i hk
    simp only[Bool.and_eq_true,beq_iff_eq]at h
    obtain⟨⟨⟨h1,h2⟩,h3⟩,h4⟩:=h
    refine .of hT (fun e=>by omega) (fun e=>by omega) (fun x hx=>?_)
    rcases mem_two (by omega:T.kids.length=2) hx with e|e
    ·exact ih x hx (by rw[e];exact h3)
    ·exact ih x hx (by rw[e];exact h4)
   ·cases h
abbrev ctx (k:Nat)(cons:List Tree)(T:Tree)(d:Int):List (Nat×AObj):=[(0,.cells [.row 1 k]),(1,.row 25 (.trees cons)),(2,.cells [.ref 0 0]),(3,.cells [.d (.tree T)]),(4,.cells [.d (.int .i64 d)])]
end Ex
end Go.Proofs.YtlgajkoplklkiaaGreat
namespace Go.Proofs.YtlgajkoplklkiaaGreat
namespace Sb
open Go Go.Mq Tm
theorem shw_full (T:Tree):Shw T→Full T:=by
 induction T using Tree.ind' with
 | h0=>intro h;exact absurd rfl h.ne
 | h1 T hT ih =>
  intro h
  rcases shw_kids h with hk|⟨_,_,hk⟩
  ·rcases h with h|h|h|h
   ·rcases h with h|h
    ·exact (isConF_plain T h).full
    ·exact (Ex.kind_EB T h).full
   ·have:=(term_head h).1.kind;omega
   ·obtain⟨_,p2,_⟩:=tfield_parts h;omega
   ·obtain⟨_,p2,_⟩:=tfield_parts h;omega
  ·exact Full.of hT fun x hx=>ih x hx (hk x hx)
theorem term_full {T:Tree}(h:isTermF T=true):Full T:=shw_full T (.inr (.inl h))
theorem term_notcon {T:Tree}(h:isTermF T=true):conE T≠0:=by
 intro e
 have h1:=(term_head h).1.kind
 have h2:=con_lt (.inl (conE_full e).2)
 omega
theorem closed_free {a:Tree}(h:termE a=0)(hc:closedF a=true):(freeT a 0 0).1≤0∧(freeT a 0 0).2≤0:=by
 unfold closedF at hc
 rw[if_neg (term_notcon (termE_ok h).1),tfreeR_of h]at hc
 simp only[Bool.and_eq_true,decide_eq_true_eq,mx_eq]at hc
 omega
theorem closed_of {a:Tree}(h:termE a=0)(h1:(freeT a 0 0).1≤0)(h2:(freeT a 0 0).2≤0):closedF a=true:=by
 unfold closedF
 rw[if_neg (term_notcon (termE_ok h).1),tfreeR_of h]
 simp only[Bool.and_eq_true,decide_eq_true_eq,mx_eq]
 omega
theorem termR_inv {T b m:Tree}{i:Int}(h:termR T i b=(m,0)):termE T=0∧termE b=0∧0≤i∧closedF b=true∧m=inT i b T 0∧sizeN m≤65536:=by
 unfold termR at h
 by_cases h1:termE T=0
 ·rw[if_neg (by simp[h1])]at h
  by_cases h2:termE b=0
  ·rw[if_neg (by simp[h2])]at h
   by_cases h3:i < 0∨closedF b=false
   ·rw[if_pos h3]at h;exact absurd (Prod.mk.inj h).2 (by decide)
   ·rw[if_neg h3]at h
    unfold sizedR at h
    have h3':0≤i∧closedF b=true:=by
     refine⟨by omega,?_⟩
     cases hc:closedF b with
     | true=>rfl
     | false=>exact absurd (.inr hc) h3
    by_cases h4:65536 < sizeN (inT i b T 0)
    ·rw[if_pos h4]at h;exact absurd (Prod.mk.inj h).2 (by decide)
    ·rw[if_neg h4]at h
     have e:=(Prod.mk.inj h).1
     exact⟨h1,h2,h3'.1,h3'.2,e.symm,by rw[←e];omega⟩
  ·rw[if_pos h2]at h;exact absurd (Prod.mk.inj h).2 h2
 ·rw[if_pos h1]at h;exact absurd (Prod.mk.inj h).2 h1
theorem termR_of {T b:Tree}{i:Int}(h1:termE T=0)(h2:termE b=0)(h3:0≤i)(h4:closedF b=true):termR T i b=sizedR (inT i b T 0):=by
 unfold termR
 rw[if_neg (by simp[h1]),if_neg (by simp[h2]),if_neg (by simp[h4];omega)]
end Sb
end Go.Proofs.YtlgajkoplklkiaaGreat
namespace Go.Proofs.YtlgajkoplklkiaaGreat
namespace Ex
open Go Go.Mq
end Ex
end Go.Proofs.YtlgajkoplklkiaaGreat
namespace Go.Proofs.YtlgajkoplklkiaaGreat
open Go Go.Mq
end Go.Proofs.YtlgajkoplklkiaaGreat
namespace Go.Proofs.YtlgajkoplklkiaaGreat
namespace Ex
open Go Go.Mq
end Ex
end Go.Proofs.YtlgajkoplklkiaaGreat
namespace Go.Proofs.YtlgajkoplklkiaaGreat
open Go Go.Mq
def m5 (b:Int):Int:=(IntKind.i64.wrap (b.tmod 5+5)).tmod 5
end Go.Proofs.YtlgajkoplklkiaaGreat
namespace Go.Proofs.YtlgajkoplklkiaaGreat
namespace Ex
open Go Go.Mq
end Ex
end Go.Proofs.YtlgajkoplklkiaaGreat
namespace Go.Proofs.YtlgajkoplklkiaaGreat
open Go Go.Mq
section
variable (con : Tree → Int → Tree × Int)
end
end Go.Proofs.YtlgajkoplklkiaaGreat
namespace Go.Proofs.YtlgajkoplklkiaaGreat
namespace Ex
open Go Go.Mq
theorem puts_get {D:Int}{s:Tree}:∀{l ys:List Tree} {d:Int},rputsF D s l d=some ys→ys.length=l.length∧∀i,i < l.length→rputF D s (l.getD i .nil) d=some (ys.getD i .nil)
 | [],ys,d,h=>by rw[rputsF]at h;cases h;exact⟨rfl,fun i hi=>by simp at hi⟩
 | x::l,ys,d,h=>by
  rw[rputsF]at h
  split at h
  ·cases h
  ·rename_i x' hq
   cases hr:rputsF D s l d with
   | none=>rw[hr]at h;cases h
   | some l' =>
    rw[hr]at h
    cases h
    obtain⟨h1,h2⟩:=puts_get hr
    refine⟨by simp[h1],fun i hi=>?_⟩
    cases i with
    | zero=>exact hq
    | succ i=>exact h2 i (by simpa using hi)
theorem put_inv {D:Int}{s T y:Tree}{d:Int}(hp:Plain T)(hk:T.kind≠110)(h:rputF D s T d=some y) :
  y≠.nil∧y.kind=T.kind∧y.n=T.n∧y.name=T.name∧y.mark=T.mark∧rputsF D s T.kids (IntKind.i64.wrap (d+bindsF T))=some y.kids:=by
 cases T with
 | nil=>cases hp
 | node k n nm mk l =>
  have hk:k≠110:=hk
  obtain⟨hm,_,_⟩:=hp.inv
  rw[rputF,if_neg (fun q=>hk (pHit_node.1 q).1),if_neg (fun q=>hk (pAbove_node.1 q).1)]at h
  cases hr:rputsF D s l (IntKind.i64.wrap (d+bindsF (.node k n nm mk l))) with
  | none=>rw[hr]at h;cases h
  | some l' =>
   rw[hr]at h
   cases h
   exact⟨by simp,rfl,rfl,rfl,hm.symm,hr⟩
theorem put_var {D:Int}{s T y:Tree}{d:Int}(hp:Plain T)(hk:T.kind=110)(hd:0≤d∧d≤lim)(hn:¬(d≤T.n∧D+1≤T.n - d))(h:rputF D s T d=some y) :
  (d≤T.n∧T.n - d=D∧rmovedF d 0 s 0=some y)∨(¬(d≤T.n∧T.n - d=D)∧y=T):=by
 cases T with
 | nil=>cases hp
 | node k n nm mk l =>
  have hk:k=110:=hk
  subst hk
  obtain⟨rfl,hv,_⟩:=hp.inv
  obtain⟨rfl,rfl,h0,h1⟩:=hv rfl
  have hn:¬(d≤n∧D+1≤n - d):=hn
  have hlim:lim=1099511627776:=rfl
  have w:IntKind.i64.wrap (n - d)=n - d:=wrap64 (by omega) (by omega)
  by_cases q:d≤n∧n - d=D
  ·rw[rputF,if_pos (pHit_node.2 ⟨rfl,q.1,by rw[w];exact q.2⟩)]at h
   exact .inl ⟨q.1,q.2,h⟩
  ·rw[rputF,if_neg (fun z=>q ⟨(pHit_node.1 z).2.1,by have:=(pHit_node.1 z).2.2;rw[w]at this;exact this⟩),if_neg (fun z=>hn (by have:=(pAbove_node.1 z).2;rw[w]at this;omega)),rputsF]at h
   cases h
   exact .inr ⟨q,rfl⟩
theorem put_kids {D d:Int}{s T y:Tree}(hp:Plain T)(hk:T.kind≠110)(hd:0≤d∧d≤lim)(h:rputF D s T d=some y):y.kids.length=T.kids.length∧∀i,i < T.kids.length→rputF D s (T.kids.getD i .nil) (d+bindsF T)=some (y.kids.getD i .nil):=by
 obtain⟨p0,p1,p2,p3,p4,p5⟩:=put_inv hp hk h
 have hlim:lim=1099511627776:=rfl
 have hbd:=bindsF_b T
 rw[wrap64 (by omega) (by omega)]at p5
 exact puts_get p5
theorem plain_kids {T:Tree}(hp:Plain T):∀x∈T.kids,Plain x:=by
 cases T with
 | nil=>cases hp
 | node k n nm mk l=>exact hp.inv.2.2
theorem bare_put {D d:Int}{s T y:Tree}{a:Bool}(hp:Plain T)(hk:T.kind≠110)(h:rputF D s T d=some y):bareF y a false=bareF T a false:=by
 obtain⟨p0,p1,p2,p3,p4,p5⟩:=put_inv hp hk h
 exact bareF_same p4 p3 (.inr p2)
def KindP (D:Int)(s T:Tree):Prop:=isKindF T=true→∀(d:Int) y,Plain T→0≤d→d+sizeN T≤549755813888→rputF D s T d=some y→isKindF y=true
theorem kind_put {D:Int}{s:Tree}(T:Tree):KindP D s T:=by
 induction T using Tree.ind' with
 | h0=>intro h;rw[isKindF]at h;cases h
 | h1 T hT ih =>
  intro h d y hp h0 h1 hy
  have hlim:lim=1099511627776:=rfl
  have hsz:=sizeN_kids hT
  have hk:T.kind≠110:=by
   intro e;rw[isKindF_eq hT,ifn,ifn]at h;cases h
  obtain⟨p0,p1,p2,p3,p4,p5⟩:=put_inv hp hk hy
  obtain⟨u1,u2⟩:=put_kids hp hk ⟨h0,by omega⟩ hy
  have hb:=bare_put (a:=false) hp hk hy
  have hbd:=bindsF_b T
  rw[isKindF_eq hT]at h
  rw[isKindF_eq p0,p1,hb,u1]
  by_cases k1:T.kind=100
  ·rw[if_pos k1]at h ⊢;exact h
  rw[if_neg k1]at h ⊢
  by_cases k2:T.kind=101
  ·rw[if_pos k2]at h ⊢
   simp only[Bool.and_eq_true,beq_iff_eq]at h ⊢
   obtain⟨⟨⟨h1,h2⟩,h3⟩,h4⟩:=h
   have m0:=getD_mem (l:=T.kids) (i:=0) (by omega)
   have m1:=getD_mem (l:=T.kids) (i:=1) (by omega)
   have z0:=sizesN_mem m0
   have z1:=sizesN_mem m1
   exact⟨⟨⟨h1,h2⟩,ih _ m0 h3 _ _ (plain_kids hp _ m0) (by omega) (by omega) (u2 0 (by omega))⟩,ih _ m1 h4 _ _ (plain_kids hp _ m1) (by omega) (by omega) (u2 1 (by omega))⟩
  ·rw[if_neg k2]at h;cases h
end Ex
end Go.Proofs.YtlgajkoplklkiaaGreat
namespace Go.Proofs.YtlgajkoplklkiaaGreat
namespace Sb
open Go Go.Mq Tm
def conStep (i:Int)(b:Tree)(T:Tree)(c:Int)(s:Bool):Tree×Bool :=
 if s=true∨65536 - c < i then (T,s) else if (substR T (c+i) b).2≠0 then (T,true) else ((substR T (c+i) b).1,false)
mutual
def inC (i:Int)(b:Tree):Tree→Int→Bool→Tree×Bool
 | .nil,_,s=>(.nil,s)
 | .node k n nm mk l,c,s=>if k=130∨k < 110 then (.node k n nm mk l,s) else if k < 130 then conStep i b (.node k n nm mk l) c s
  else (.node k n nm mk (insC i b k 0 l c s).1,(insC i b k 0 l c s).2)
def insC (i:Int)(b:Tree)(k:Int)(p:Nat):List Tree→Int→Bool→List Tree×Bool
 | [],_,s=>([],s)
 | x::l,c,s=>((inC i b x (c+(bndF k p).1) s).1::(insC i b k (p+1) l c (inC i b x (c+(bndF k p).1) s).2).1,(insC i b k (p+1) l c (inC i b x (c+(bndF k p).1) s).2).2)
end
theorem inC_eq {T:Tree}(h:T≠.nil)(i:Int)(b:Tree)(c:Int)(s:Bool):inC i b T c s=if T.kind=130∨T.kind < 110 then (T,s) else if T.kind < 130 then conStep i b T c s
  else (.node T.kind T.n T.name T.mark (insC i b T.kind 0 T.kids c s).1,(insC i b T.kind 0 T.kids c s).2):=by
 cases T with
 | nil=>exact absurd rfl h
 | node=>rw[inC];rfl
mutual
def rC (i:Int)(b:Tree):Tree→Int→Tree
 | .nil,_=>.nil
 | .node k n nm mk l,c=>if k=130∨k < 110 then .node k n nm mk l else if k < 130 then (if 65536 - c < i then .node k n nm mk l else oT (rputF (c+i) b (.node k n nm mk l) 0))
  else .node k n nm mk (rsC i b k 0 l c)
def rsC (i:Int)(b:Tree)(k:Int)(p:Nat):List Tree→Int→List Tree
 | [],_=>[]
 | x::l,c=>rC i b x (c+(bndF k p).1)::rsC i b k (p+1) l c
end
theorem rC_eq {T:Tree}(h:T≠.nil)(i:Int)(b:Tree)(c:Int):rC i b T c=if T.kind=130∨T.kind < 110 then T else if T.kind < 130 then (if 65536 - c < i then T else oT (rputF (c+i) b T 0))
  else .node T.kind T.n T.name T.mark (rsC i b T.kind 0 T.kids c):=by
 cases T with
 | nil=>exact absurd rfl h
 | node=>rw[rC];rfl
theorem nohits_vmap {B:Int}(T:Tree):∀d:Int,Plain T→0≤d→d+sizeN T≤549755813888→(∀j:Int,0≤j→hitsN j T d=0)→vmap (fM B 0) T d=some T:=by
 induction T using Tree.ind with
 | h0=>intro d h;cases h
 | h1 k n nm mk l ih =>
  intro d hp h0 h1 hh
  obtain⟨hm,hv,hk⟩:=hp.inv
  subst hm
  rw[sizeN]at h1
  push_cast at h1
  have hlim:lim=1099511627776:=rfl
  have hb:=bindsF_b (.node k n nm ByteArray.empty l)
  by_cases hk1:k=110
  ·subst hk1
   obtain⟨rfl,rfl,hn0,hn1⟩:=hv rfl
   rw[vmap,if_pos rfl,fM,if_neg]
   ·rfl
   ·rintro⟨q1,q2⟩
    have:=hh (n - d) (by omega)
    rw[hitsN,if_pos ⟨rfl,q1,wrap64 (by omega) (by omega)⟩]at this
    omega
  ·have hwb:IntKind.i64.wrap (d+bindsF (.node k n nm ByteArray.empty l))=d+bindsF (.node k n nm ByteArray.empty l):=wrap64 (by omega) (by omega)
   have hl:∀l:List Tree,(∀x∈l,∀d:Int,Plain x→0≤d→d+sizeN x≤549755813888→(∀j:Int,0≤j→hitsN j x d=0)→vmap (fM B 0) x d=some x)→(∀x∈l,Plain x)→∀d:Int,0≤d→d+sizesN l≤549755813888→(∀j:Int,0≤j→hitssN j l d=0)→vmaps (fM B 0) l d=some l:=by
    intro l
    induction l with
    | nil=>intro _ _ d _ _ _;rw[vmaps]
    | cons x l ihl =>
     intro hx hp d h0 h1 hh
     rw[sizesN]at h1
     push_cast at h1
     have g:∀j:Int,0≤j→hitsN j x d=0∧hitssN j l d=0:=fun j hj=>by have:=hh j hj;rw[hitssN]at this;omega
     rw[vmaps,hx x (by simp) d (hp x (by simp)) h0 (by omega) fun j hj=>(g j hj).1]
     simp only[]
     rw[ihl (fun y hy=>hx y (by simp[hy])) (fun y hy=>hp y (by simp[hy])) d h0 (by omega) fun j hj=>(g j hj).2]
     rfl
   rw[vmap,if_neg hk1,hl l ih hk _ (by omega) (by omega) fun j hj=>by have:=hh j hj;rw[hitsN,hwb]at this;omega]
   rfl
theorem con_fixed {b:Tree}(hb:conE b=0)(hc:freeR b=0)(B:Int):vmap (fM B 0) b 0=some b:=by
 have hz:=conE_size hb
 have hl:lim=1099511627776:=rfl
 rw[freeR_eq,rfreeR,if_pos hb]at hc
 obtain⟨f1,_,_⟩:=free_hits b 0 (conE_plain hb) (by omega) (by omega)
 exact nohits_vmap b 0 (conE_plain hb) (by omega) (by omega) fun j hj=>f1 j (by omega)
theorem put_some {b:Tree}(hb:conE b=0)(hc:freeR b=0)(i:Int)(T:Tree):∀d:Int,Plain T→0≤d→d+sizeN T≤549755813888→∃y,rputF i b T d=some y:=by
 have hz:=conE_size hb
 have hlim:lim=1099511627776:=rfl
 induction T using Tree.ind with
 | h0=>intro d h;cases h
 | h1 k n nm mk l ih =>
  intro d hp h0 h1
  obtain⟨hm,hv,hk⟩:=hp.inv
  subst hm
  rw[sizeN]at h1
  push_cast at h1
  have hbd:=bindsF_b (.node k n nm ByteArray.empty l)
  have hwb:IntKind.i64.wrap (d+bindsF (.node k n nm ByteArray.empty l))=d+bindsF (.node k n nm ByteArray.empty l):=wrap64 (by omega) (by omega)
  have hl:∀l:List Tree,(∀x∈l,∀d:Int,Plain x→0≤d→d+sizeN x≤549755813888→∃y,rputF i b x d=some y)→(∀x∈l,Plain x)→∀d:Int,0≤d→d+sizesN l≤549755813888→∃ys,rputsF i b l d=some ys:=by
   intro l
   induction l with
   | nil=>intro _ _ d _ _;exact⟨[],by rw[rputsF]⟩
   | cons x l ihl =>
    intro hx hp d h0 h1
    rw[sizesN]at h1
    push_cast at h1
    obtain⟨y,hy⟩:=hx x (by simp) d (hp x (by simp)) h0 (by omega)
    obtain⟨ys,hys⟩:=ihl (fun y hy=>hx y (by simp[hy])) (fun y hy=>hp y (by simp[hy])) d h0 (by omega)
    exact⟨y::ys,by rw[rputsF,hy];simp only[];rw[hys];rfl⟩
  obtain⟨ys,hys⟩:=hl l ih hk _ (show 0≤d+bindsF (.node k n nm ByteArray.empty l) by omega) (by omega)
  rw[rputF,hwb,hys]
  split
  ·rw[rmoved_vmap d 0 b 0 (conE_plain hb) (by omega) (by omega)]
   exact⟨b,con_fixed hb hc d⟩
  ·split
   ·exact⟨_,rfl⟩
   ·exact⟨_,rfl⟩
theorem step_con {b T:Tree}{i:Int}(hb:conE b=0)(hc:freeR b=0)(hT:conE T=0)(hi:0≤i)(hi2:i≤65536) :
  ∃y,rputF i b T 0=some y∧((substR T i b=(y,0)∧sizeN y≤65536)∨((substR T i b).2≠0∧65536 < sizeN y)):=by
 have hz:=conE_size hb
 have hzT:=conE_size hT
 have hlim:lim=1099511627776:=rfl
 obtain⟨y,hy⟩:=put_some hb hc i T 0 (conE_plain hT) (by omega) (by omega)
 refine⟨y,hy,?_⟩
 have hsz:=rputF_size i b T 0 y hy (conE_plain hT)
 have hh:=hitsN_le i T 0
 have hm:((hitsN i T 0*sizeN b:Nat):Int)=(hitsN i T 0:Int)*(sizeN b:Int):=by push_cast;rfl
 by_cases hle:sizeN y≤65536
 ·refine .inl ⟨subst_of hT hb hi ⟨by omega,by omega⟩ hy,hle⟩
 ·refine .inr ⟨?_,by omega⟩
  have e1:=countF_hits i T 0 (by omega)
  have e2:=sizeF_sizeN b (by omega)
  have e3:=sizeF_sizeN T (by omega)
  have m0:(hitsN i T 0:Int)*sizeN b≤65536*65536:=by
   have:hitsN i T 0*sizeN b≤65536*65536:=Nat.mul_le_mul (by omega) (by omega)
   omega
  have hn:rsLong T i b:=by
   unfold rsLong
   rw[e1,e2,e3]
   refine .inr ?_
   rw[wrap64 (x:=(hitsN i T 0:Int)*sizeN b) (by omega) (by omega),wrap64 (x:=(sizeN T:Int) - hitsN i T 0) (by omega) (by omega),wrap64 (x:=(sizeN T:Int) - hitsN i T 0+_) (by omega) (by omega)]
   omega
  rw[substR_eq,rsubstR,if_pos hT,if_pos hb,ifn,if_pos hn]
  decide
end Sb
end Go.Proofs.YtlgajkoplklkiaaGreat
namespace Go.Proofs.YtlgajkoplklkiaaGreat
namespace Sb
open Go Go.Mq Tm
theorem inC_true (i:Int)(b:Tree)(T:Tree):∀c:Int,(inC i b T c true).2=true:=by
 induction T using Tree.ind' with
 | h0=>intro c;rw[inC]
 | h1 T hT ih =>
  intro c
  rw[inC_eq hT]
  split
  ·rfl
  split
  ·unfold conStep;rw[if_pos (.inl rfl)]
  ·have h:∀(l:List Tree) (p:Nat),(∀x∈l,x∈T.kids)→(insC i b T.kind p l c true).2=true:=by
    intro l
    induction l with
    | nil=>intro p _;rw[insC]
    | cons x l ihl =>
     intro p hx
     rw[insC]
     simp only[]
     rw[ih x (hx x (by simp)) _]
     exact ihl (p+1) fun y hy=>hx y (by simp[hy])
   exact h T.kids 0 fun x hx=>hx
def WalkP (i:Int)(b T:Tree):Prop:=∀c:Int,Shw T→sizeN T≤65536→0≤c→c+sizeN T≤549755813888 →
  ((inC i b T c false).2=false∧(inC i b T c false).1=rC i b T c)∨((inC i b T c false).2=true∧65536 < sizeN (rC i b T c))
theorem walk_con {i:Int}{b:Tree}(hi:0≤i)(hb:conE b=0)(hc:freeR b=0)(T:Tree):WalkP i b T:=by
 induction T using Tree.ind' with
 | h0=>intro c h;exact absurd rfl h.ne
 | h1 T hT ih =>
  intro c hs hz hc0 hc1
  have hsz:=sizeN_kids hT
  rw[inC_eq hT,rC_eq hT]
  by_cases q:T.kind=130∨T.kind < 110
  ·rw[if_pos q,if_pos q];exact .inl ⟨rfl,rfl⟩
  rw[if_neg q,if_neg q]
  by_cases q2:T.kind < 130
  ·rw[if_pos q2,if_pos q2]
   have hco:isConF T=true:=by
    rcases hs with h|h|h|h
    ·rcases h with h|h
     ·exact h
     ·exfalso
      rw[isKindF_eq hT,ifn,ifn]at h;cases h
    ·have:=(term_head h).1.kind;omega
    ·obtain⟨_,p2,_⟩:=tfield_parts h;omega
    ·obtain⟨_,p2,_⟩:=tfield_parts h;omega
   have hcE:=conE_of hco hz
   unfold conStep
   by_cases q3:65536 - c < i
   ·rw[if_pos (.inr q3),if_pos q3];exact .inl ⟨rfl,rfl⟩
   ·rw[if_neg (by simp;omega),if_neg q3]
    obtain⟨y,hy,⟨h1,h2⟩|⟨h1,h2⟩⟩:=step_con hb hc hcE (show 0≤c+i by omega) (by omega)
    ·rw[h1,hy,if_neg (by simp)];exact .inl ⟨rfl,rfl⟩
    ·rw[if_pos h1,hy];exact .inr ⟨rfl,h2⟩
  ·rw[if_neg q2,if_neg q2]
   have hk:∀x∈T.kids,Shw x:=by
    rcases shw_kids hs with w|⟨_,_,w⟩
    ·exact absurd w q2
    ·exact w
   have h:∀(l:List Tree) (p:Nat),(∀x∈l,x∈T.kids)→((insC i b T.kind p l c false).2=false∧(insC i b T.kind p l c false).1=rsC i b T.kind p l c)∨((insC i b T.kind p l c false).2=true∧65536 < sizesN (rsC i b T.kind p l c)):=by
    intro l
    induction l with
    | nil=>intro p _;rw[insC,rsC];exact .inl ⟨rfl,rfl⟩
    | cons x l ihl =>
     intro p hx
     have hm:=hx x (by simp)
     have s1:=sizesN_mem hm
     have hbl:=bnd_le T.kind p
     have ih2:=ihl (p+1) fun y hy=>hx y (by simp[hy])
     rw[insC,rsC]
     simp only[]
     rcases ih x hm (c+(bndF T.kind p).1) (hk x hm) (by omega) (by omega) (by omega) with⟨g1,g2⟩|⟨g1,g2⟩
     ·rw[g1,g2]
      rcases ih2 with⟨f1,f2⟩|⟨f1,f2⟩
      ·rw[f1,f2];exact .inl ⟨rfl,rfl⟩
      ·rw[f1,sizesN];exact .inr ⟨rfl,by omega⟩
     ·refine .inr ⟨?_,by rw[sizesN];omega⟩
      rw[g1]
      have hall:∀(l:List Tree) (p:Nat),(insC i b T.kind p l c true).2=true:=by
       intro l
       induction l with
       | nil=>intro p;rw[insC]
       | cons x l ihl=>intro p;rw[insC];simp only[];rw[inC_true];exact ihl (p+1)
      exact hall l (p+1)
   rcases h T.kids 0 fun x hx=>hx with⟨g1,g2⟩|⟨g1,g2⟩
   ·rw[g1,g2];exact .inl ⟨rfl,rfl⟩
   ·rw[g1,sizeN];exact .inr ⟨rfl,by omega⟩
def conR (T:Tree)(i:Int)(b:Tree):Tree×Int :=
 if termE T≠0 then (.nil,termE T) else if conE b≠0 then (.nil,conE b) else if i < 0∨closedF b=false then (.nil,2)
 else if (inC i b T 0 false).2=true then (.nil,3) else sizedR (inC i b T 0 false).1
def rconR (T:Tree)(i:Int)(b:Tree):Tree×Int :=
 if termE T≠0 then (.nil,termE T) else if conE b≠0 then (.nil,conE b) else if i < 0∨closedF b=false then (.nil,2) else sizedR (rC i b T 0)
theorem conR_eq (T:Tree)(i:Int)(b:Tree):conR T i b=rconR T i b:=by
 unfold conR rconR
 by_cases h1:termE T≠0
 ·rw[if_pos h1,if_pos h1]
 rw[if_neg h1,if_neg h1]
 by_cases h2:conE b≠0
 ·rw[if_pos h2,if_pos h2]
 rw[if_neg h2,if_neg h2]
 by_cases h3:i < 0∨closedF b=false
 ·rw[if_pos h3,if_pos h3]
 rw[if_neg h3,if_neg h3]
 have hb:conE b=0:=by omega
 have hT:termE T=0:=by omega
 obtain⟨t1,t2,t3⟩:=termE_ok hT
 have hc:freeR b=0:=by
  cases hq:closedF b with
  | false=>exact absurd (.inr hq) h3
  | true=>unfold closedF at hq;rw[if_pos hb]at hq;exact of_decide_eq_true hq
 rcases walk_con (show 0≤i by omega) hb hc T 0 (.inr (.inl t1)) t2 (by omega) (by omega) with⟨g1,g2⟩|⟨g1,g2⟩
 ·rw[g1,g2,if_neg (by simp)]
 ·rw[if_pos g1]
  unfold sizedR
  rw[if_pos g2]
theorem nohits_gen {f:Int→Int→Option Int}{i0:Int}(h0i:0≤i0)(hf:∀n d:Int,¬(d≤n∧i0≤n - d)→f n d=some n)(T:Tree):∀d:Int,Plain T→0≤d→d+sizeN T≤549755813888→(∀j:Int,i0≤j→hitsN j T d=0)→vmap f T d=some T:=by
 induction T using Tree.ind with
 | h0=>intro d h;cases h
 | h1 k n nm mk l ih =>
  intro d hp h0 h1 hh
  obtain⟨hm,hv,hk⟩:=hp.inv
  subst hm
  rw[sizeN]at h1
  push_cast at h1
  have hlim:lim=1099511627776:=rfl
  have hb:=bindsF_b (.node k n nm ByteArray.empty l)
  by_cases hk1:k=110
  ·subst hk1
   obtain⟨rfl,rfl,hn0,hn1⟩:=hv rfl
   rw[vmap,if_pos rfl,hf n d]
   ·rfl
   ·rintro⟨q1,q2⟩
    have:=hh (n - d) (by omega)
    rw[hitsN,if_pos ⟨rfl,q1,wrap64 (by omega) (by omega)⟩]at this
    omega
  ·have hwb:IntKind.i64.wrap (d+bindsF (.node k n nm ByteArray.empty l))=d+bindsF (.node k n nm ByteArray.empty l):=wrap64 (by omega) (by omega)
   have hl:∀l:List Tree,(∀x∈l,∀d:Int,Plain x→0≤d→d+sizeN x≤549755813888→(∀j:Int,i0≤j→hitsN j x d=0)→vmap f x d=some x)→(∀x∈l,Plain x)→∀d:Int,0≤d→d+sizesN l≤549755813888→(∀j:Int,i0≤j→hitssN j l d=0)→vmaps f l d=some l:=by
    intro l
    induction l with
    | nil=>intro _ _ d _ _ _;rw[vmaps]
    | cons x l ihl =>
     intro hx hp d h0 h1 hh
     rw[sizesN]at h1
     push_cast at h1
     have g:∀j:Int,i0≤j→hitsN j x d=0∧hitssN j l d=0:=fun j hj=>by have:=hh j hj;rw[hitssN]at this;omega
     rw[vmaps,hx x (by simp) d (hp x (by simp)) h0 (by omega) fun j hj=>(g j hj).1]
     simp only[]
     rw[ihl (fun y hy=>hx y (by simp[hy])) (fun y hy=>hp y (by simp[hy])) d h0 (by omega) fun j hj=>(g j hj).2]
     rfl
   rw[vmap,if_neg hk1,hl l ih hk _ (by omega) (by omega) fun j hj=>by have:=hh j hj;rw[hitsN,hwb]at this;omega]
   rfl
theorem con_stays {T b:Tree}{i:Int}(hT:conE T=0)(hb:conE b=0)(hi:freeR T≤i):substR T i b=(T,0):=by
 have hz:=conE_size hT
 have hlim:lim=1099511627776:=rfl
 have h0:=freeR_le T
 rw[freeR_eq,rfreeR,if_pos hT]at hi h0
 obtain⟨f1,_,_⟩:=free_hits T 0 (conE_plain hT) (by omega) (by omega)
 have hh:∀j:Int,i≤j→hitsN j T 0=0:=fun j hj=>f1 j (by omega)
 have hput:rputF i b T 0=some T:=by
  rw[rput_vmap0 i b T 0 (conE_plain hT) (by omega) (by omega) (hh i (by omega))]
  exact nohits_gen (i0:=i) (by omega) (fun n d h=>by unfold fQ;rw[ifn]) T 0 (conE_plain hT) (by omega) (by omega) hh
 exact subst_of hT hb (by omega) ⟨by rw[hh i (by omega)];simp,by rw[hh i (by omega)];simp;omega⟩ hput
theorem sbClosed_ok (T:Tree):Pure P 20 [.d (.tree T)] (.d (.bool (closedF T))):=by
 have h1:=check_ok T
 have h2:=free_ok T
 have h3:=tCheck_ok T
 have h4:=tFree_ok T
 unfold closedF
 refine Pure.of_body tt [] [2] Tryz.func20 rfl rfl rfl lb fun g=>?_
 by_cases c1:conE T=0
 ·rw[if_pos c1]
  rw[c1]at h1
  repeat' ((first|refine Ga ?_|refine Gc fun hlen=>?_|refine Ge h1 ?_|refine Ge h2 ?_|refine Gd (fun hc=>?_) fun hc=>?_)<;>conv=>whnf)
  all_goals refine Gf rfl (bool_eq ?_) rfl
  all_goals simp_all [int_dec]
 ·rw[if_neg c1]
  by_cases c2:termE T=0
  ·rw[decide_eq_true c2,Bool.true_and]
   rw[c2]at h3
   repeat' ((first|refine Ga ?_|refine Gc fun hlen=>?_|refine Ge h1 ?_|refine Ge h3 ?_|refine Ge h4 ?_|refine Gd (fun hc=>?_) fun hc=>?_)<;>conv=>whnf)
   all_goals refine Gf rfl (bool_eq ?_) rfl
   all_goals simp_all [int_dec]
  ·rw[decide_eq_false c2,Bool.false_and]
   repeat' ((first|refine Ga ?_|refine Gc fun hlen=>?_|refine Ge h1 ?_|refine Ge h3 ?_|refine Gd (fun hc=>?_) fun hc=>?_)<;>conv=>whnf)
   all_goals exact Gg
theorem bnd_two {T:Tree}(h:isTermF T=true)(hk:T.kind=134∨T.kind=139∨T.kind=142∨T.kind=143):T.kids.length=2:=by
 have hT:T≠.nil:=by intro e;subst e;rw[isTermF]at h;cases h
 rw[isTermF_eq hT,Bool.and_eq_true]at h
 obtain⟨_,h⟩:=h
 rcases hk with k|k|k|k<;>simp[k,-List.getD_eq_getElem?_getD]at h
 all_goals exact h.1.1
theorem sbBinds_ok (T:Tree)(hs:Shw T)(p:Nat)(hp:p < T.kids.length):Pure P 143 [.d (.tree T),.d (.int .i64 p)] (.tuple [.d (.int .i64 (bndF T.kind p).1),.d (.int .i64 (bndF T.kind p).2)]):=by
 have hT:=hs.ne
 have two:T.kind=134∨T.kind=139∨T.kind=142∨T.kind=143→p=0∨p=1:=fun hk=>by
  rcases hs with h|h|h|h
  ·have:=con_lt h;omega
  ·have:=bnd_two h hk;omega
  ·obtain⟨_,p2,_⟩:=tfield_parts h;omega
  ·obtain⟨_,p2,_⟩:=tfield_parts h;omega
 refine Pure.of_body tt [] [4,5] Tryz.func143 rfl rfl rfl lb fun g=>?_
 by_cases k1:T.kind=149
 ·have e:bndF T.kind p=(0,1):=by unfold bndF;rw[if_pos k1]
  rw[e]
  repeat' ((first|refine Ga ?_|refine Gc fun hlen=>?_|refine Gd (fun hc=>?_) fun hc=>?_)<;>conv=>whnf)
  exact Gg
 by_cases k2:T.kind=139
 ·have e:bndF T.kind p=((p:Int),0):=by rw[k2];rcases two (by omega) with q|q<;>rw[q]<;>rfl
  rw[e]
  repeat' ((first|refine Ga ?_|refine Gc fun hlen=>?_|refine Gd (fun hc=>?_) fun hc=>?_)<;>conv=>whnf)
  exact Gg
 by_cases k3:T.kind=142
 ·have e:bndF T.kind p=((p:Int),(p:Int)):=by rw[k3];rcases two (by omega) with q|q<;>rw[q]<;>rfl
  rw[e]
  repeat' ((first|refine Ga ?_|refine Gc fun hlen=>?_|refine Gd (fun hc=>?_) fun hc=>?_)<;>conv=>whnf)
  exact Gg
 by_cases k4:T.kind=134∨T.kind=143
 ·have e:bndF T.kind p=(0,(p:Int)):=by rcases k4 with k4|k4<;>rw[k4]<;>rcases two (by omega) with q|q<;>rw[q]<;>rfl
  rw[e]
  repeat' ((first|refine Ga ?_|refine Gc fun hlen=>?_|refine Gd (fun hc=>?_) fun hc=>?_)<;>conv=>whnf)
  all_goals exact Gg
 ·have e:bndF T.kind p=(0,0):=by unfold bndF;rw[if_neg k1,if_neg k2,if_neg k3,if_neg k4];split<;>rfl
  rw[e]
  repeat' ((first|refine Ga ?_|refine Gc fun hlen=>?_|refine Gd (fun hc=>?_) fun hc=>?_)<;>conv=>whnf)
  exact Gg
theorem stays_ok (T:Tree)(c:Int):Pure P 115 [.d (.tree T),.d (.int .i64 c)] (.d (.tree T)):=by
 refine Pure.of_body tt [] [4] Tryz.func115 rfl rfl rfl lb fun g=>?_
 repeat' ((first|refine Ga ?_|refine Gc fun hlen=>?_|refine Gd (fun hc=>?_) fun hc=>?_)<;>conv=>whnf)
 exact Gg
theorem termV_ok (i:Int)(b T:Tree)(t:Int)(hT:T≠.nil)(hk:T.kind=130)(hn:0≤T.n∧T.n≤65536)(ht:0≤t∧t≤1099511627776) :
  Fun P 114 [.d (.tree T),.d (.int .i64 t),.ref 0 0,.ref 1 0] [(0,.cells [.d (.int .i64 i)]),(1,.cells [.d (.tree b)])] 2 (.d (.tree (inT i b T t))) [(0,.cells [.d (.int .i64 i)]),(1,.cells [.d (.tree b)])] 2:=by
 have e:=inT_eq hT i b t
 rw[if_pos hk]at e
 rw[e]
 have w1:IntKind.i64.wrap (T.n - t)=T.n - t:=wrap64 (by omega) (by omega)
 have w2:IntKind.i64.wrap (T.n - 1)=T.n - 1:=wrap64 (by omega) (by omega)
 refine Fun.of_body tt [40] [6] Tryz.func114 rfl rfl rfl lb fun g=>?_
 by_cases c1:T.n < t
 ·rw[if_pos (.inl c1)]
  repeat' ((first|refine Ga ?_|refine Gc fun hlen=>?_|refine Gd (fun hc=>?_) fun hc=>?_)<;>conv=>whnf)
  exact ret_o rfl rfl rfl
 ·by_cases c2:T.n - t < i
  ·rw[if_pos (.inr c2)]
   have c2':IntKind.i64.wrap (T.n - t) < i:=by rw[w1];exact c2
   repeat' ((first|refine Ga ?_|refine Gc fun hlen=>?_|refine Gd (fun hc=>?_) fun hc=>?_)<;>conv=>whnf)
   exact ret_o rfl rfl rfl
  ·have c2':¬IntKind.i64.wrap (T.n - t) < i:=by rw[w1];exact c2
   rw[ifn]
   by_cases c3:i < T.n - t
   ·have c3':i < IntKind.i64.wrap (T.n - t):=by rw[w1];exact c3
    rw[if_pos c3,←w2]
    repeat' ((first|refine Ga ?_|refine Gc fun hlen=>?_|refine Gd (fun hc=>?_) fun hc=>?_)<;>conv=>whnf)
    exact ret_o rfl rfl rfl
   ·have c3':¬i < IntKind.i64.wrap (T.n - t):=by rw[w1];exact c3
    rw[if_neg c3]
    repeat' ((first|refine Ga ?_|refine Gc fun hlen=>?_|refine Gd (fun hc=>?_) fun hc=>?_)<;>conv=>whnf)
    exact ret_o rfl rfl rfl
theorem sbWalkT_ok (i:Int)(b T:Tree):∀(c t:Int),Shw T→0≤t→t+sizeN T≤1099511627776 →
  Fun P 113 [.d (.tree T),.d (.int .i64 c),.d (.int .i64 t),.fn 114 [.ref 0 0,.ref 1 0],.fn 115 []] [(0,.cells [.d (.int .i64 i)]),(1,.cells [.d (.tree b)])] 2 (.d (.tree (inT i b T t))) [(0,.cells [.d (.int .i64 i)]),(1,.cells [.d (.tree b)])] 2:=by
 induction T using Tree.ind' with
 | h0=>intro c t h;exact absurd rfl h.ne
 | h1 T hT ih=>?_
 intro c t hs ht0 ht1
 have hsz:=sizeN_kids hT
 have hse:=inT_eq hT i b t
 by_cases k1:T.kind=130
 ·have hn:0≤T.n∧T.n≤65536:=by
   rcases shw_kids hs with h|⟨_,h,_⟩
   ·omega
   ·exact h k1
  have hv:=termV_ok i b T t hT k1 hn ⟨ht0,by omega⟩
  refine Fun.of_body tt [83] [10] Tryz.func113 rfl rfl rfl lb fun g=>?_
  repeat' ((first|refine Ga ?_|refine Gc fun hlen=>?_|refine CallG.go hv [0,1] ?_|refine Gd (fun hc=>?_) fun hc=>?_)<;>conv=>whnf)
  exact ret_o rfl rfl rfl
 rw[if_neg k1]at hse
 by_cases k2:T.kind < 130
 ·rw[if_pos k2]at hse
  rw[hse]
  refine Fun.of_body tt [83] [10] Tryz.func113 rfl rfl rfl lb fun g=>?_
  repeat' ((first|refine Ga ?_|refine Gc fun hlen=>?_|refine Ge (stays_ok T c) ?_|refine Gd (fun hc=>?_) fun hc=>?_)<;>conv=>whnf)
  all_goals exact ret_o rfl rfl rfl
 rw[if_neg k2]at hse
 rw[hse]
 have hkids:∀x∈T.kids,Shw x:=by
  rcases shw_kids hs with h|⟨_,_,h⟩
  ·exact absurd h k2
  ·exact h
 by_cases k3:T.kids.length=0
 ·have e:(Tree.node T.kind T.n T.name T.mark (insT i b T.kind 0 T.kids t))=T:=by
   rw[List.length_eq_zero_iff.1 k3,insT]
   cases T with
   | nil=>exact absurd rfl hT
   | node k n nm mk l =>
    have:l=[]:=List.length_eq_zero_iff.1 k3
    subst this;rfl
  rw[e]
  refine Fun.of_body tt [83] [10] Tryz.func113 rfl rfl rfl lb fun g=>?_
  repeat' ((first|refine Ga ?_|refine Gc fun hlen=>?_|refine Gd (fun hc=>?_) fun hc=>?_)<;>conv=>whnf)
  exact ret_o rfl rfl rfl
 refine Fun.of_body tt [83] [10] Tryz.func113 rfl rfl rfl lb fun g=>?_
 repeat' ((first|refine Ga ?_|refine Gc fun hlen=>?_|refine Gd (fun hc=>?_) fun hc=>?_)<;>conv=>whnf)
 refine loop_go (α:=Nat×List Tree) (fun p=>⟨[(0,.d (.tree T)),(1,.d (.int .i64 c)),(2,.d (.int .i64 t)),(3,.fn 114 [.ref 0 0,.ref 1 0]),(4,.fn 115 []),(11,.ref 2 0),(58,.d (.trees T.kids)),(59,.d (.int .i64 T.kids.length)),(60,.d (.int .i64 p.1))],87,[(0,.cells [.d (.int .i64 i)]),(1,.cells [.d (.tree b)]),(2,.cells [.d (.int .i64 T.kind),.d (.int .i64 T.n),.d (.str T.name),.d (.str T.mark),.row 3 p.1]),(3,.row 25 (.trees p.2))],4,g⟩)
    (fun p=>p.1≤T.kids.length∧p.2.length=p.1∧insT i b T.kind 0 T.kids t=p.2++insT i b T.kind p.1 (T.kids.drop p.1) t) (fun p=>T.kids.length - p.1) (0,[]) ⟨by simp,rfl,rfl⟩
    (Ent.nil rfl rfl rfl (by repeat' first|exact trivial|apply And.intro|rfl|(refine int_eq ?_;rw[wrap64]<;>omega)) (by repeat' first|exact trivial|apply And.intro|rfl|(refine int_eq ?_;rw[wrap64]<;>omega))) (fun _=>rfl) fun p hpre=>?_
 obtain⟨p,out⟩:=p
 obtain⟨hp1,hp2,hp3⟩:=hpre
 simp only[]at hp1 hp2 hp3
 by_cases hlt:p < T.kids.length
 ·have hmx:=getD_mem hlt
  have s1:=sizesN_mem hmx
  have hbl:=bnd_le T.kind p
  have hbi:=sbBinds_ok T hs p hlt
  rw[drop_step hlt,insT]at hp3
  have hrec:=ih _ hmx (IntKind.i64.wrap (c+(bndF T.kind p).1)) (t+(bndF T.kind p).2) (hkids _ hmx) (by omega) (by omega)
  have w2:IntKind.i64.wrap (t+(bndF T.kind p).2)=t+(bndF T.kind p).2:=wrap64 (by omega) (by omega)
  generalize inT i b (T.kids.getD p .nil) (t+(bndF T.kind p).2)=Y at *
  generalize bndF T.kind p=bb at *
  rw[←w2]at hrec
  repeat' ((first|refine Ga ?_|refine Gc fun hlen=>?_|refine Gh ((p+1≤17592186044416∧(p+1)*8≤140737488355328)) ?_|refine Ge hbi ?_|refine CallG.go hrec [0,1] ?_|refine Gd (fun hc=>?_) fun hc=>?_)<;>conv=>whnf)
  exact⟨(p+1,out++[Y]),⟨by simp only[];omega,by simp[hp2],by rw[hp3];simp⟩,by simp only[];omega,Ent.go [0,1,2,4]⟩
 ·rw[drop_end (by omega),insT,List.append_nil]at hp3
  rw[hp3]
  repeat' ((first|refine Ga ?_|refine Gc fun hlen=>?_|refine Gd (fun hc=>?_) fun hc=>?_)<;>conv=>whnf)
  refine RetS.ent (Ent.fz_row 3 (l:=out) rfl (by repeat' first|exact trivial|apply And.intro|rfl|exact hp2.symm|exact Nat.zero_lt_one|omega) (by repeat' first|exact trivial|apply And.intro|rfl|exact hp2.symm|exact Nat.zero_lt_one|omega)) ?_
  refine RetS.ent (Ent.fz_node 2 rfl rfl (by repeat' first|exact trivial|apply And.intro|rfl|exact hp2.symm|exact Nat.zero_lt_one|omega) (by repeat' first|exact trivial|apply And.intro|rfl|exact hp2.symm|exact Nat.zero_lt_one|omega)) ?_
  refine RetS.ent (σ':=⟨[(10,.d (.tree (.node T.kind T.n T.name T.mark out)))],87,[(0,.cells [.d (.int .i64 i)]),(1,.cells [.d (.tree b)])],2,g⟩) (Ent.go [0,1]) ?_
  exact ret_o rfl rfl rfl
end Sb
end Go.Proofs.YtlgajkoplklkiaaGreat
namespace Go.Proofs.YtlgajkoplklkiaaGreat
namespace Sb
open Go Go.Mq
def ti164:TI:=⟨(.func #[25] #[] false),1,8,.nilFunc,[],false,0,0,false⟩
theorem tok164:TIok P 164 ti164 where
 und:=by kernel_rfl
 info:=⟨(P.info? 164).getD default,by kernel_rfl,by kernel_rfl,by kernel_rfl,by kernel_rfl⟩
 agg:=rfl
 offm:=fun fs h=>by cases h
 offp:=rfl
 offn:=rfl
 elem:=fun e h=>by cases h
 arr:=fun n e h=>by cases h
def tt:List (Nat×TI):=(164,ti164)::Go.Proofs.YtlgajkoplklkiaaGreat.tt
theorem htt:TTok P tt:=.cons tok164 (Go.Proofs.YtlgajkoplklkiaaGreat.htt)
end Sb
end Go.Proofs.YtlgajkoplklkiaaGreat
namespace Go.Proofs.YtlgajkoplklkiaaGreat
namespace Sb
open Go Go.Mq Tm
theorem count_ok (T:Tree):Full T→∀r:Int,0≤r→r≤65536→Fun P 142 [.d (.tree T),.ref 0 0,.ref 1 0] [(0,.cells [.d (.int .i64 r)]),(1,.cells [.fn 142 [.ref 0 0,.ref 1 0]])] 2 (.tuple []) [(0,.cells [.d (.int .i64 (cntF T r))]),(1,.cells [.fn 142 [.ref 0 0,.ref 1 0]])] 2:=by
 induction T using Tree.ind' with
 | h0=>intro h;exact absurd rfl h.ne
 | h1 T hT ih=>?_
 intro hF r hr0 hr1
 have w:IntKind.i64.wrap (r - 1)=r - 1:=wrap64 (by omega) (by omega)
 rw[cntF_kids hT]
 refine Fun.of_body tt [] [] Tryz.func142 rfl rfl rfl lb fun g=>?_
 repeat' ((first|refine Ga ?_|refine Gc fun hlen=>?_|refine Gd (fun hc=>?_) fun hc=>?_)<;>conv=>whnf)
 refine loop_go (α:=Nat×Int) (fun p=>⟨[(1,.ref 0 0),(2,.ref 1 0),(11,.d (.trees T.kids)),(12,.d (.int .i64 T.kids.length)),(13,.d (.int .i64 p.1))],23,[(0,.cells [.d (.int .i64 p.2)]),(1,.cells [.fn 142 [.ref 0 0,.ref 1 0]])],2,g⟩)
   (fun p=>p.1≤T.kids.length ∧ -1≤p.2∧p.2≤65536∧cntsF (T.kids.drop p.1) p.2=cntsF T.kids (r - 1)) (fun p=>T.kids.length - p.1) (0,r - 1) ⟨by simp,by simp only[];omega,by simp only[];omega,rfl⟩
   (Ent.re [0,1] rfl rfl rfl rfl rfl rfl (by repeat' first|exact trivial|apply And.intro|rfl|(refine int_eq ?_;rw[wrap64]<;>omega)) (by repeat' first|exact trivial|apply And.intro|rfl|exact cellI w)) (fun _=>rfl) fun p hpre=>?_
 obtain⟨p,q⟩:=p
 obtain⟨hp1,hp2,hp3,hp4⟩:=hpre
 simp only[]at hp1 hp2 hp3 hp4
 by_cases hlt:p < T.kids.length
 ·have hmx:=getD_mem hlt
  have hFx:=hF.kids _ hmx
  rw[drop_step hlt,cntsF]at hp4
  by_cases hq:0≤q
  ·rw[if_pos hq]at hp4
   have hrec:=ih _ hmx hFx q hq hp3
   have hce:=cnt_eq _ hFx q hq
   generalize cntF (T.kids.getD p .nil) q=Y at *
   have hY : -1≤Y∧Y≤65536:=by rw[hce];split<;>omega
   repeat' ((first|refine Ga ?_|refine Gc fun hlen=>?_|refine CallG.go hrec [0,1] ?_|refine Gd (fun hc=>?_) fun hc=>?_)<;>conv=>whnf)
   exact⟨(p+1,Y),⟨by simp only[];omega,hY.1,hY.2,hp4⟩,by simp only[];omega,Ent.go [0,1]⟩
  ·rw[if_neg hq]at hp4
   repeat' ((first|refine Ga ?_|refine Gc fun hlen=>?_|refine Gd (fun hc=>?_) fun hc=>?_)<;>conv=>whnf)
   exact⟨(p+1,q),⟨by simp only[];omega,hp2,hp3,hp4⟩,by simp only[];omega,Ent.go [0,1]⟩
 ·rw[drop_end (by omega),cntsF]at hp4
  rw[←hp4]
  repeat' ((first|refine Ga ?_|refine Gc fun hlen=>?_|refine Gd (fun hc=>?_) fun hc=>?_)<;>conv=>whnf)
  exact ret_o rfl rfl rfl
theorem sbSized_ok (T:Tree)(hF:Full T):Pure P 112 [.d (.tree T)] (.tuple [.d (.tree (sizedR T).1),.d (.int .i64 (sizedR T).2)]):=by
 have hc:=count_ok T hF 65536 (by omega) (by omega)
 have hce:=cnt_eq T hF 65536 (by omega)
 refine Pure.of_body tt [] [2,3] Tryz.func112 rfl rfl rfl lb fun g=>?_
 unfold sizedR
 by_cases h:65536 < sizeN T
 ·rw[if_pos h]
  rw[ifn]at hce
  rw[hce]at hc
  repeat' ((first|refine Ga ?_|refine Gc fun hlen=>?_|refine CallG.go hc [0,1] ?_|refine Gd (fun hc=>?_) fun hc=>?_)<;>conv=>whnf)
  exact Gg
 ·rw[if_neg h]
  have hnn:¬cntF T 65536 < 0:=by rw[hce,ifp];omega
  generalize cntF T 65536=Y at *
  repeat' ((first|refine Ga ?_|refine Gc fun hlen=>?_|refine CallG.go hc [0,1] ?_|refine Gd (fun hc=>?_) fun hc=>?_)<;>conv=>whnf)
  exact Gg
theorem sbTerm_ok (T:Tree)(i:Int)(b:Tree):Pure P 76 [.d (.tree T),.d (.int .i64 i),.d (.tree b)] (.tuple [.d (.tree (termR T i b).1),.d (.int .i64 (termR T i b).2)]):=by
 have h1:=tCheck_ok T
 have h2:=tCheck_ok b
 have h3:=sbClosed_ok b
 unfold termR
 refine Pure.of_body tt [] [6,7] Tryz.func76 rfl rfl rfl lb fun g=>?_
 by_cases e1:termE T=0
 ·rw[if_neg (by simp[e1])]
  rw[e1]at h1
  by_cases e2:termE b=0
  ·rw[if_neg (by simp[e2])]
   rw[e2]at h2
   by_cases e3:i < 0
   ·rw[if_pos (.inl e3)]
    repeat' ((first|refine Ga ?_|refine Gc fun hlen=>?_|refine Ge h1 ?_|refine Ge h2 ?_|refine Gd (fun hc=>?_) fun hc=>?_)<;>conv=>whnf)
    exact Gg
   ·cases e4:closedF b with
    | false =>
     rw[if_pos (.inr rfl)]
     rw[e4]at h3
     repeat' ((first|refine Ga ?_|refine Gc fun hlen=>?_|refine Ge h1 ?_|refine Ge h2 ?_|refine Ge h3 ?_|refine Gd (fun hc=>?_) fun hc=>?_)<;>conv=>whnf)
     exact Gg
    | true =>
     rw[if_neg (by simp;omega)]
     rw[e4]at h3
     obtain⟨t1,t2,t3⟩:=termE_ok e1
     have h4:=sbWalkT_ok i b T 0 0 (.inr (.inl t1)) (by omega) (by omega)
     have h5:=sbSized_ok (inT i b T 0) (term_full ((in_term i b (by omega) (termE_ok e2).1 T 0 (by omega) (.inr (.inl t1))).term t1))
     repeat' ((first|refine Ga ?_|refine Gc fun hlen=>?_|refine Ge h1 ?_|refine Ge h2 ?_|refine Ge h3 ?_|refine CallG.go h4 [0,1] ?_|refine Ge h5 ?_|refine Gd (fun hc=>?_) fun hc=>?_)<;>conv=>whnf)
     exact Gg
  ·rw[if_pos e2]
   repeat' ((first|refine Ga ?_|refine Gc fun hlen=>?_|refine Ge h1 ?_|refine Ge h2 ?_|refine Gd (fun hc=>?_) fun hc=>?_)<;>conv=>whnf)
   exact Gg
 ·rw[if_pos e1]
  repeat' ((first|refine Ga ?_|refine Gc fun hlen=>?_|refine Ge h1 ?_|refine Gd (fun hc=>?_) fun hc=>?_)<;>conv=>whnf)
  exact Gg
theorem sbSame_self (X:Tree):Pure P 10 [.d (.tree X),.d (.tree X)] (.d (.bool true)):=by
 have:=same_ok X X
 rwa [(sameF_iff X X).2 rfl]at this
end Sb
end Go.Proofs.YtlgajkoplklkiaaGreat
namespace Go.Proofs.YtlgajkoplklkiaaGreat
namespace St
open Go Go.Mq Tm Sb
def placeB (k:Int)(p:Nat):Bool:=if k=135∨k=145 then decide (p < 2) else if k=141∨k=146 then decide (p=1) else decide (p=0)
def fieldT (nm:ByteArray)(k:Tree):Tree:=.node 137 0 nm ByteArray.empty [k]
def withT (T:Tree)(i:Nat)(k:Tree):Tree:=.node T.kind T.n T.name T.mark (T.kids.set i (if T.kind=136 then fieldT (T.kids.getD i .nil).name k else k))
def kidT (T:Tree)(i:Nat):Tree:=T.kids.getD i .nil
def partF (s:ByteArray):List Tree→Option Tree
 | []=>none
 | x::l=>if x.name=s then some (x.kids.getD 0 .nil) else partF s l
mutual
def rollF (f:Tree):Tree→Tree→Tree
 | .nil,v=>v
 | .node k n nm mk l,v=>if k=110∧n=0 then withT f 0 v else if k=115∧v.kind=136∧l.map Tree.name=v.kids.map Tree.name then .node 136 v.n v.name v.mark (rollsF f l v.kids) else v
def rollsF (f:Tree):List Tree→List Tree→List Tree
 | [],vs=>vs
 | x::l,vs=>fieldT (vs.getD 0 .nil).name (rollI f x ((vs.getD 0 .nil).kids.getD 0 .nil))::rollsF f l (vs.drop 1)
def rollI (f:Tree):Tree→Tree→Tree
 | .nil,v=>v
 | .node _ _ _ _ l,v=>rollH f l v
def rollH (f:Tree):List Tree→Tree→Tree
 | [],v=>v
 | x::_,v=>rollF f x v
end
theorem rollH_eq (f:Tree)(l:List Tree)(v:Tree):rollH f l v=rollF f (l.getD 0 .nil) v:=by
 cases l with
 | nil=>rw[rollH];simp only[List.getD_nil];rw[rollF]
 | cons x l=>rw[rollH];rfl
theorem rollI_eq (f x v:Tree):rollI f x v=rollF f (x.kids.getD 0 .nil) v:=by
 cases x with
 | nil=>rw[rollI];simp only[Tree.kids,List.getD_nil];rw[rollF]
 | node=>rw[rollI,rollH_eq];rfl
theorem rollF_eq {c:Tree}(h:c≠.nil)(f v:Tree):rollF f c v=if c.kind=110∧c.n=0 then withT f 0 v else if c.kind=115∧v.kind=136∧c.kids.map Tree.name=v.kids.map Tree.name then .node 136 v.n v.name v.mark (rollsF f c.kids v.kids) else v:=by
 cases c with
 | nil=>exact absurd rfl h
 | node=>rw[rollF];rfl
def foldF (T:Tree):Tree×Int :=
 if (kidT T 0).kind≠146 then (.nil,20)
 else if (No.normR (kidT (kidT T 0) 0)).2≠0 then (.nil,(No.normR (kidT (kidT T 0) 0)).2)
 else if (No.normR (kidT (kidT T 0) 0)).1.kind≠121∨partF (kidT T 0).name (T.kids.drop 2)=none∨partF (kidT T 0).name (No.normR (kidT (kidT T 0) 0)).1.kids=none then (.nil,20)
 else if termE (.node 143 0 ByteArray.empty ByteArray.empty [rollF T (oT (partF (kidT T 0).name (No.normR (kidT (kidT T 0) 0)).1.kids)) (kidT (kidT T 0) 1),oT (partF (kidT T 0).name (T.kids.drop 2))])≠0 then
  (.nil,termE (.node 143 0 ByteArray.empty ByteArray.empty [rollF T (oT (partF (kidT T 0).name (No.normR (kidT (kidT T 0) 0)).1.kids)) (kidT (kidT T 0) 1),oT (partF (kidT T 0).name (T.kids.drop 2))]))
 else (.node 143 0 ByteArray.empty ByteArray.empty [rollF T (oT (partF (kidT T 0).name (No.normR (kidT (kidT T 0) 0)).1.kids)) (kidT (kidT T 0) 1),oT (partF (kidT T 0).name (T.kids.drop 2))],0)
def numN (n:Int):Tree:=.node 131 n ByteArray.empty ByteArray.empty []
def boolN (b:Bool):Tree:=.node 132 (if b then 1 else 0) ByteArray.empty ByteArray.empty []
def sumF (n a b:Int):Int:=IntKind.i64.wrap (if n=1 then a+b else if n=2 then a - b else a*b)
def opF (T:Tree):Tree×Int :=
 if (kidT T 0).kind≠131∨(kidT T 1).kind≠131 then (.nil,20)
 else if T.n=4 then (boolN (decide ((kidT T 0).n=(kidT T 1).n)),0)
 else if T.n=5 then (boolN (decide ((kidT T 0).n < (kidT T 1).n)),0)
 else if sumF T.n (kidT T 0).n (kidT T 1).n < -1073741824∨1073741824 < sumF T.n (kidT T 0).n (kidT T 1).n then (.nil,19)
 else (numN (sumF T.n (kidT T 0).n (kidT T 1).n),0)
def goesF (T:Tree):Tree×Int :=
 if T.kind=135 then (if (kidT T 0).kind=134 then termR (kidT (kidT T 0) 1) 0 (kidT T 1) else (.nil,20))
 else if T.kind=140 then (if (kidT T 0).kind=139 then conR (kidT (kidT T 0) 1) 0 (kidT T 1) else (.nil,20))
 else if T.kind=138 then (if (kidT T 0).kind=136∧(partF T.name (kidT T 0).kids).isSome=true then (oT (partF T.name (kidT T 0).kids),0) else (.nil,20))
 else if T.kind=144 then (if (kidT T 0).kind=132 then (if (kidT T 0).n=1 then (kidT T 1,0) else (kidT T 2,0)) else (.nil,20))
 else if T.kind=142 then (if (kidT T 0).kind=141 then (if (termR (kidT T 1) 0 (kidT (kidT T 0) 1)).2≠0 then (.nil,(termR (kidT T 1) 0 (kidT (kidT T 0) 1)).2) else conR (termR (kidT T 1) 0 (kidT (kidT T 0) 1)).1 0 (kidT (kidT T 0) 0)) else (.nil,20))
 else if T.kind=143 then termR (kidT T 1) 0 (kidT T 0)
 else if T.kind=145 then opF T
 else if T.kind=147 then (if (kidT T 0).kind=146∧(partF (kidT T 0).name (T.kids.drop 1)).isSome=true then termR (oT (partF (kidT T 0).name (T.kids.drop 1))) 0 (kidT (kidT T 0) 1) else (.nil,20))
 else if T.kind=148 then foldF T
 else (.nil,20)
mutual
def stF:Tree→Tree×Int
 | .nil=>(.nil,20)
 | .node k n nm mk l=>match (if k=136 then stsR 0 l else stsK k 0 l) with
  | some (p,m,e)=>if e≠0 then (.nil,e) else (withT (.node k n nm mk l) p m,0)
  | none=>goesF (.node k n nm mk l)
def stsK (k:Int)(p:Nat):List Tree→Option (Nat×Tree×Int)
 | []=>none
 | x::l=>if placeB k p=true∧valueF x=false then some (p,stF x) else stsK k (p+1) l
def stsR (p:Nat):List Tree→Option (Nat×Tree×Int)
 | []=>none
 | x::l=>if valueF (x.kids.getD 0 .nil)=false then some (p,stI x) else stsR (p+1) l
def stI:Tree→Tree×Int
 | .nil=>(.nil,20)
 | .node _ _ _ _ l=>stH l
def stH:List Tree→Tree×Int
 | []=>(.nil,20)
 | x::_=>stF x
end
theorem stI_eq (x:Tree):stI x=stF (x.kids.getD 0 .nil):=by
 cases x with
 | nil=>rw[stI];simp only[Tree.kids,List.getD_nil];rw[stF]
 | node k n nm mk l =>
  rw[stI]
  cases l with
  | nil=>rw[stH];simp only[Tree.kids,List.getD_nil];rw[stF]
  | cons x l=>rw[stH];rfl
theorem stF_eq {T:Tree}(h:T≠.nil):stF T=match (if T.kind=136 then stsR 0 T.kids else stsK T.kind 0 T.kids) with
  | some (p,m,e)=>if e≠0 then (.nil,e) else (withT T p m,0)
  | none=>goesF T:=by
 cases T with
 | nil=>exact absurd rfl h
 | node=>rw[stF];rfl
def stepR (T:Tree):Tree×Bool×Int :=
 if termE T≠0 then (.nil,false,termE T) else if closedF T=false then (.nil,false,2) else if valueF T=true then (T,false,0)
 else if (stF T).2≠0 then (.nil,false,(stF T).2) else if termE (stF T).1≠0 then (.nil,false,termE (stF T).1) else ((stF T).1,true,0)
def runF:Nat→Tree→Int→Tree×Int×Int
 | 0,T,s=>if (stepR T).2.2≠0 then (.nil,s,(stepR T).2.2) else if (stepR T).2.1=false then (T,s,0) else (.nil,s,18)
 | k+1,T,s=>if (stepR T).2.2≠0 then (.nil,s,(stepR T).2.2) else if (stepR T).2.1=false then (T,s,0) else runF k (stepR T).1 (s+1)
def runR (T:Tree)(most:Int):Tree×Int×Int:=if most < 0 then (.nil,0,2) else runF most.toNat T 0
end St
end Go.Proofs.YtlgajkoplklkiaaGreat
namespace Go.Proofs.YtlgajkoplklkiaaGreat
namespace Sb
open Go Go.Mq Tm
theorem tfield_mark {kind:Int}{T:Tree}(h:tfieldF kind T=true):T.mark=ByteArray.empty:=by
 have hT:T≠.nil:=by intro e;subst e;rw[tfieldF]at h;cases h
 rw[tfieldF_eq hT]at h
 simp only[Bool.and_eq_true,decide_eq_true_eq]at h
 exact h.1.1.1.2
theorem term_mark {T:Tree}(h:isTermF T=true):T.mark=ByteArray.empty:=by
 have hT:T≠.nil:=by intro e;subst e;rw[isTermF]at h;cases h
 rw[isTermF_eq hT,Bool.and_eq_true]at h
 have:=h.1
 unfold headF at this
 simp only[Bool.and_eq_true,decide_eq_true_eq]at this
 exact this.1.1.1
theorem shw_mark {T:Tree}(hs:Shw T)(hk:130≤T.kind):T.mark=ByteArray.empty:=by
 rcases hs with h|h|h|h
 ·have:=con_lt h;omega
 ·exact term_mark h
 ·exact tfield_mark h
 ·exact tfield_mark h
theorem shw_var {T:Tree}(hs:Shw T)(hk:T.kind=130):T.kids=[]:=by
 rcases hs with h|h|h|h
 ·have:=con_lt h;omega
 ·have hT:T≠.nil:=by intro e;subst e;rw[isTermF]at h;cases h
  rw[isTermF_eq hT,Bool.and_eq_true,if_pos (.inl hk)]at h
  exact List.length_eq_zero_iff.1 (of_decide_eq_true h.2)
 ·obtain⟨_,p2,_⟩:=tfield_parts h;omega
 ·obtain⟨_,p2,_⟩:=tfield_parts h;omega
theorem shw_con {T:Tree}(hs:Shw T)(h1:110≤T.kind)(h2:T.kind < 130):isConF T=true:=by
 rcases hs with h|h|h|h
 ·rcases h with h|h
  ·exact h
  ·exfalso
   have hT:T≠.nil:=by intro e;subst e;rw[isKindF]at h;cases h
   rw[isKindF_eq hT,ifn,ifn]at h;cases h
 ·have:=(term_head h).1.kind;omega
 ·obtain⟨_,p2,_⟩:=tfield_parts h;omega
 ·obtain⟨_,p2,_⟩:=tfield_parts h;omega
theorem inT_node {T:Tree}(hs:Shw T)(hk:130≤T.kind)(i:Int)(b:Tree)(t:Int)(hn:T.kind=130→T.n < t∨T.n - t < i):inT i b T t=.node T.kind T.n T.name ByteArray.empty (insT i b T.kind 0 T.kids t):=by
 have hm:=shw_mark hs hk
 rw[inT_eq hs.ne]
 by_cases k:T.kind=130
 ·rw[if_pos k,if_pos (hn k),shw_var hs k,insT]
  have hv:=shw_var hs k
  have hT:=hs.ne
  cases T with
  | nil=>exact absurd rfl hT
  | node k' n nm mk l =>
   simp only[Tree.mark,Tree.kids]at hm hv
   subst hm hv;rfl
 ·rw[if_neg k,ifn,hm]
theorem rsC_len (i:Int)(b:Tree)(k:Int):∀(l:List Tree) (p:Nat) (c:Int),(rsC i b k p l c).length=l.length
 | [],p,c=>by rw[rsC]
 | x::l,p,c=>by rw[rsC];simp[rsC_len i b k l (p+1) c]
theorem rC_node {T:Tree}(hs:Shw T)(hk:130≤T.kind)(i:Int)(b:Tree)(c:Int):rC i b T c=.node T.kind T.n T.name ByteArray.empty (rsC i b T.kind 0 T.kids c):=by
 have hm:=shw_mark hs hk
 rw[rC_eq hs.ne]
 by_cases k:T.kind=130
 ·rw[if_pos (.inl k),shw_var hs k,rsC]
  have hv:=shw_var hs k
  have hT:=hs.ne
  cases T with
  | nil=>exact absurd rfl hT
  | node k' n nm mk l =>
   simp only[Tree.mark,Tree.kids]at hm hv
   subst hm hv;rfl
 ·rw[ifn,ifn,hm]
end Sb
end Go.Proofs.YtlgajkoplklkiaaGreat
namespace Go.Proofs.YtlgajkoplklkiaaGreat
namespace St
open Go Go.Mq Tm Sb
theorem term_ne {T:Tree}(h:isTermF T=true):T≠.nil:=by intro e;subst e;rw[isTermF]at h;cases h
theorem term_xx {T:Tree}(h:isTermF T=true)(hk:T.kind=135∨T.kind=142∨T.kind=143∨T.kind=145):T.kids.length=2∧isTermF (T.kids.getD 0 .nil)=true∧isTermF (T.kids.getD 1 .nil)=true:=by
 rw[isTermF_eq (term_ne h),Bool.and_eq_true,ifn,ifn,ifn,if_pos hk]at h
 have h:=h.2
 simp only[Bool.and_eq_true,decide_eq_true_eq]at h
 exact⟨h.1.1,h.1.2,h.2⟩
theorem term_cx {T:Tree}(h:isTermF T=true)(hk:T.kind=134∨T.kind=146):T.kids.length=2∧isConF (T.kids.getD 0 .nil)=true∧isTermF (T.kids.getD 1 .nil)=true:=by
 rw[isTermF_eq (term_ne h),Bool.and_eq_true,ifn,if_pos hk]at h
 have h:=h.2
 simp only[Bool.and_eq_true,decide_eq_true_eq]at h
 exact⟨h.1.1,h.1.2,h.2⟩
theorem term_kx {T:Tree}(h:isTermF T=true)(hk:T.kind=139):T.kids.length=2∧isKindF (T.kids.getD 0 .nil)=true∧isTermF (T.kids.getD 1 .nil)=true:=by
 rw[isTermF_eq (term_ne h),Bool.and_eq_true,ifn,ifn,if_pos hk]at h
 have h:=h.2
 simp only[Bool.and_eq_true,decide_eq_true_eq]at h
 exact⟨h.1.1,h.1.2,h.2⟩
theorem term_f {T:Tree}(h:isTermF T=true)(hk:T.kind=136):(∀x∈T.kids,tfieldF 137 x=true)∧pairsF true [] T.kids=true:=by
 rw[isTermF_eq (term_ne h),Bool.and_eq_true,ifn,ifn,ifn,ifn,if_pos hk]at h
 have h:=h.2
 simp only[Bool.and_eq_true,decide_eq_true_eq]at h
 exact⟨tfieldsF_mem h.1,h.2⟩
theorem term_x {T:Tree}(h:isTermF T=true)(hk:T.kind=138):T.kids.length=1∧isTermF (T.kids.getD 0 .nil)=true:=by
 rw[isTermF_eq (term_ne h),Bool.and_eq_true,ifn,ifn,ifn,ifn,ifn,if_pos hk]at h
 have h:=h.2
 simp only[Bool.and_eq_true,decide_eq_true_eq]at h
 exact⟨h.1,h.2⟩
theorem term_xc {T:Tree}(h:isTermF T=true)(hk:T.kind=140):T.kids.length=2∧isTermF (T.kids.getD 0 .nil)=true∧isConF (T.kids.getD 1 .nil)=true:=by
 rw[isTermF_eq (term_ne h),Bool.and_eq_true,ifn,ifn,ifn,ifn,ifn,ifn,if_pos hk]at h
 have h:=h.2
 simp only[Bool.and_eq_true,decide_eq_true_eq]at h
 exact⟨h.1.1,h.1.2,h.2⟩
theorem term_cxc {T:Tree}(h:isTermF T=true)(hk:T.kind=141):T.kids.length=3∧isConF (T.kids.getD 0 .nil)=true∧isTermF (T.kids.getD 1 .nil)=true∧isConF (T.kids.getD 2 .nil)=true:=by
 rw[isTermF_eq (term_ne h),Bool.and_eq_true,ifn,ifn,ifn,ifn,ifn,ifn,ifn,if_pos hk]at h
 have h:=h.2
 simp only[Bool.and_eq_true,decide_eq_true_eq]at h
 exact⟨h.1.1.1,h.1.1.2,h.1.2,h.2⟩
theorem term_xxx {T:Tree}(h:isTermF T=true)(hk:T.kind=144):T.kids.length=3∧isTermF (T.kids.getD 0 .nil)=true∧isTermF (T.kids.getD 1 .nil)=true∧isTermF (T.kids.getD 2 .nil)=true:=by
 rw[isTermF_eq (term_ne h),Bool.and_eq_true,ifn,ifn,ifn,ifn,ifn,ifn,ifn,ifn,if_pos hk]at h
 have h:=h.2
 simp only[Bool.and_eq_true,decide_eq_true_eq]at h
 exact⟨h.1.1.1,h.1.1.2,h.1.2,h.2⟩
theorem term_xa {T:Tree}(h:isTermF T=true)(hk:T.kind=147):1 < T.kids.length∧isTermF (T.kids.getD 0 .nil)=true∧∀x∈T.kids.drop 1,tfieldF 149 x=true:=by
 rw[isTermF_eq (term_ne h),Bool.and_eq_true,ifn,ifn,ifn,ifn,ifn,ifn,ifn,ifn,ifn,if_pos hk]at h
 have h:=h.2
 simp only[Bool.and_eq_true,decide_eq_true_eq]at h
 exact⟨h.1.1.1,h.1.1.2,tfieldsF_mem h.1.2⟩
theorem term_xca {T:Tree}(h:isTermF T=true)(hk:T.kind=148):2 < T.kids.length∧isTermF (T.kids.getD 0 .nil)=true∧isConF (T.kids.getD 1 .nil)=true∧∀x∈T.kids.drop 2,tfieldF 149 x=true:=by
 rw[isTermF_eq (term_ne h),Bool.and_eq_true,ifn,ifn,ifn,ifn,ifn,ifn,ifn,ifn,ifn,ifn,if_pos hk]at h
 have h:=h.2
 simp only[Bool.and_eq_true,decide_eq_true_eq]at h
 exact⟨h.1.1.1.1,h.1.1.1.2,h.1.1.2,tfieldsF_mem h.1.2⟩
theorem term_leaf {T:Tree}(h:isTermF T=true)(hk:T.kind=130∨T.kind=131∨T.kind=132∨T.kind=133):T.kids.length=0:=by
 rw[isTermF_eq (term_ne h),Bool.and_eq_true,if_pos hk]at h
 exact of_decide_eq_true h.2
def plcF (T:Tree):Nat×Nat:=if T.kind=135∨T.kind=145 then (0,2) else if T.kind=136 then (0,T.kids.length) else if T.kind=141∨T.kind=146 then (1,2) else (0,1)
theorem places_ok (T:Tree)(hT:T≠.nil):Pure P 39 [.d (.tree T)] (.tuple [.d (.int .i64 (plcF T).1),.d (.int .i64 (plcF T).2)]):=by
 refine Pure.of_body tt [] [2,3] Tryz.func39 rfl rfl rfl lb fun g=>?_
 unfold plcF
 by_cases k1:T.kind=135∨T.kind=145
 ·rw[if_pos k1]
  repeat' ((first|refine Ga ?_|refine Gc fun hlen=>?_|refine Gd (fun hc=>?_) fun hc=>?_)<;>conv=>whnf)
  all_goals exact Gg
 rw[if_neg k1]
 by_cases k2:T.kind=136
 ·rw[if_pos k2]
  repeat' ((first|refine Ga ?_|refine Gc fun hlen=>?_|refine Gd (fun hc=>?_) fun hc=>?_)<;>conv=>whnf)
  all_goals exact Gg
 rw[if_neg k2]
 by_cases k3:T.kind=141∨T.kind=146
 ·rw[if_pos k3]
  repeat' ((first|refine Ga ?_|refine Gc fun hlen=>?_|refine Gd (fun hc=>?_) fun hc=>?_)<;>conv=>whnf)
  all_goals exact Gg
 ·rw[if_neg k3]
  repeat' ((first|refine Ga ?_|refine Gc fun hlen=>?_|refine Gd (fun hc=>?_) fun hc=>?_)<;>conv=>whnf)
  all_goals exact Gg
def inF (T:Tree)(i:Nat):Tree:=if T.kind=136 then (T.kids.getD i .nil).kids.getD 0 .nil else T.kids.getD i .nil
theorem inner_ok (T:Tree)(hT:T≠.nil)(i:Nat)(hi:i < T.kids.length)(h:T.kind=136→T.kids.getD i .nil≠.nil∧0 < (T.kids.getD i .nil).kids.length):Pure P 40 [.d (.tree T),.d (.int .i64 i)] (.d (.tree (inF T i))):=by
 refine Pure.of_body tt [] [4] Tryz.func40 rfl rfl rfl lb fun g=>?_
 unfold inF
 by_cases k:T.kind=136
 ·rw[if_pos k]
  obtain⟨h1,h2⟩:=h k
  repeat' ((first|refine Ga ?_|refine Gc fun hlen=>?_|refine Gh ((0:Int)≤(i:Int)∧(i:Int) < (T.kids.length:Int)) ?_|refine Gh ((0:Int)≤0∧(0:Int) < ((T.kids.getD i .nil).kids.length:Int)) ?_|refine Side.mk h1 ?_|refine Gd (fun hc=>?_) fun hc=>?_)<;>conv=>whnf)
  exact Gg
 ·rw[if_neg k]
  repeat' ((first|refine Ga ?_|refine Gc fun hlen=>?_|refine Gh ((0:Int)≤(i:Int)∧(i:Int) < (T.kids.length:Int)) ?_|refine Gd (fun hc=>?_) fun hc=>?_)<;>conv=>whnf)
  exact Gg
theorem with_ok (T:Tree)(hT:T≠.nil)(i:Nat)(hi:i < T.kids.length)(hl:T.kids.length≤17592186044416)(h:T.kind=136→T.kids.getD i .nil≠.nil)(K:Tree):Pure P 41 [.d (.tree T),.d (.int .i64 i),.d (.tree K)] (.d (.tree (withT T i K))):=by
 have hcl:=No.clone_ok T.kids (by intro h;rw[h]at hi;simp at hi) hl
 refine Pure.of_body tt [33,35] [6] Tryz.func41 rfl rfl rfl lb fun g=>?_
 unfold withT
 by_cases k:T.kind=136
 ·rw[if_pos k]
  have h1:=h k
  repeat' ((first|refine Ga ?_|refine Gc fun hlen=>?_|refine CallG.go hcl [] ?_|refine Gh ((0:Int)≤(i:Int)∧(i:Int) < (T.kids.length:Int)) ?_|refine Side.mk (show (i:Int).toNat*1 < T.kids.length from by omega) ?_|refine Side.mk h1 ?_|refine Gd (fun hc=>?_) fun hc=>?_)<;>conv=>whnf)
  have hp2:(T.kids.set (i*1) (fieldT (T.kids.getD i .nil).name K)).length=T.kids.length:=by simp
  refine RetS.ent (σ':=⟨[(6,.ref 0 0)],41,[(0,.cells [.d (.int .i64 T.kind),.d (.int .i64 T.n),.d (.str T.name),.d (.str T.mark),.row 1 T.kids.length]),(1,.row 25 (.trees (T.kids.set (i*1) (fieldT (T.kids.getD i .nil).name K))))],2,g⟩) (Ent.go [0,1]) ?_
  refine RetS.ent (Ent.fz_row 1 (l:=T.kids.set (i*1) (fieldT (T.kids.getD i .nil).name K)) rfl (by repeat' first|exact trivial|apply And.intro|rfl|exact hp2.symm|exact Nat.zero_lt_one|omega) (by repeat' first|exact trivial|apply And.intro|rfl|exact hp2.symm|exact Nat.zero_lt_one|omega)) ?_
  refine RetS.ent (Ent.fz_node 0 rfl rfl (by repeat' first|exact trivial|apply And.intro|rfl|exact hp2.symm|exact Nat.zero_lt_one|omega) (by repeat' first|exact trivial|apply And.intro|rfl|exact hp2.symm|exact Nat.zero_lt_one|omega)) ?_
  exact Gf rfl (tree_eq (by rw[Nat.mul_one])) rfl
 ·rw[if_neg k]
  repeat' ((first|refine Ga ?_|refine Gc fun hlen=>?_|refine CallG.go hcl [] ?_|refine Gh ((0:Int)≤(i:Int)∧(i:Int) < (T.kids.length:Int)) ?_|refine Side.mk (show (i:Int).toNat*1 < T.kids.length from by omega) ?_|refine Gd (fun hc=>?_) fun hc=>?_)<;>conv=>whnf)
  have hp2:(T.kids.set (i*1) K).length=T.kids.length:=by simp
  refine RetS.ent (σ':=⟨[(6,.ref 0 0)],41,[(0,.cells [.d (.int .i64 T.kind),.d (.int .i64 T.n),.d (.str T.name),.d (.str T.mark),.row 1 T.kids.length]),(1,.row 25 (.trees (T.kids.set (i*1) K)))],2,g⟩) (Ent.go [0,1]) ?_
  refine RetS.ent (Ent.fz_row 1 (l:=T.kids.set (i*1) K) rfl (by repeat' first|exact trivial|apply And.intro|rfl|exact hp2.symm|exact Nat.zero_lt_one|omega) (by repeat' first|exact trivial|apply And.intro|rfl|exact hp2.symm|exact Nat.zero_lt_one|omega)) ?_
  refine RetS.ent (Ent.fz_node 0 rfl rfl (by repeat' first|exact trivial|apply And.intro|rfl|exact hp2.symm|exact Nat.zero_lt_one|omega) (by repeat' first|exact trivial|apply And.intro|rfl|exact hp2.symm|exact Nat.zero_lt_one|omega)) ?_
  exact Gf rfl (tree_eq (by rw[Nat.mul_one])) rfl
theorem kid_ok (T:Tree)(hT:T≠.nil)(i:Nat)(hi:i < T.kids.length)(hn:kidT T i≠.nil)(kind:Int):Pure P 75 [.d (.tree T),.d (.int .i64 i),.d (.int .i64 kind)] (.tuple [.d (.tree (kidT T i)),.d (.bool (decide ((kidT T i).kind=kind)))]):=by
 unfold kidT at *
 refine Pure.of_body tt [] [6,7] Tryz.func75 rfl rfl rfl lb fun g=>?_
 repeat' ((first|refine Ga ?_|refine Gc fun hlen=>?_|refine Gh ((0:Int)≤(i:Int)∧(i:Int) < (T.kids.length:Int)) ?_|refine Side.mk hn ?_|refine Gd (fun hc=>?_) fun hc=>?_)<;>conv=>whnf)
 exact Gf rfl (tup2 rfl (bool_eq (by rw[int_dec];rfl))) rfl
theorem partF_drop {s:ByteArray}{l:List Tree}{p:Nat}(h:p < l.length)(hn:(l.getD p .nil).name≠s):partF s (l.drop p)=partF s (l.drop (p+1)):=by
 rw[drop_step h,partF,if_neg hn]
theorem part_ok (l:List Tree)(s:ByteArray)(h:∀x∈l,x≠.nil∧0 < x.kids.length):Pure P 78 [.d (.trees l),.d (.str s)] (.tuple [.d (.tree (oT (partF s l))),.d (.bool (partF s l).isSome)]):=by
 refine Pure.of_body tt [] [4,5] Tryz.func78 rfl rfl rfl lb fun g=>?_
 repeat' ((first|refine Ga ?_|refine Gc fun hlen=>?_|refine Gd (fun hc=>?_) fun hc=>?_)<;>conv=>whnf)
 refine loop_go (α:=Nat) (fun p=>⟨[(1,.d (.str s)),(8,.d (.trees l)),(9,.d (.int .i64 l.length)),(10,.d (.int .i64 p))],27,[],0,g⟩) (fun p=>p≤l.length∧partF s (l.drop p)=partF s l) (fun p=>l.length - p) 0 ⟨by omega,rfl⟩
  (Ent.go []) (fun _=>rfl) fun p hpre=>?_
 obtain⟨hp1,hp2⟩:=hpre
 by_cases hlt:p < l.length
 ·obtain⟨h1,h2⟩:=h _ (getD_mem hlt)
  by_cases hs:(l.getD p .nil).name=s
  ·rw[drop_step hlt,partF,if_pos hs]at hp2
   rw[←hp2]
   repeat' ((first|refine Ga ?_|refine Gc fun hlen=>?_|refine Gh ((0:Int)≤(p:Int)∧(p:Int) < (l.length:Int)) ?_|refine Side.mk h1 ?_|refine Gh ((0:Int)≤0∧(0:Int) < ((l.getD p .nil).kids.length:Int)) ?_|refine Gd (fun hc=>?_) fun hc=>?_)<;>conv=>whnf)
   exact Gg
  ·rw[partF_drop hlt hs]at hp2
   repeat' ((first|refine Ga ?_|refine Gc fun hlen=>?_|refine Gh ((0:Int)≤(p:Int)∧(p:Int) < (l.length:Int)) ?_|refine Side.mk h1 ?_|refine Gd (fun hc=>?_) fun hc=>?_)<;>conv=>whnf)
   exact⟨p+1,⟨by omega,hp2⟩,by omega,Ent.go []⟩
 ·rw[drop_end (by omega),partF]at hp2
  rw[←hp2]
  repeat' ((first|refine Ga ?_|refine Gc fun hlen=>?_|refine Gd (fun hc=>?_) fun hc=>?_)<;>conv=>whnf)
  exact Gg
theorem op_ok (T:Tree)(hT:T≠.nil)(hl:T.kids.length=2)(h0:kidT T 0≠.nil)(h1:kidT T 1≠.nil)(hn:1≤T.n∧T.n≤5):Pure P 79 [.d (.tree T)] (.tuple [.d (.tree (opF T).1),.d (.int .i64 (opF T).2)]):=by
 have k0:=kid_ok T hT 0 (by omega) h0 131
 have k1:=kid_ok T hT 1 (by omega) h1 131
 refine Pure.of_body tt [91] [2,3] Tryz.func79 rfl rfl rfl lb fun g=>?_
 unfold opF
 generalize kidT T 0=A at *
 generalize kidT T 1=B at *
 by_cases c0:A.kind=131
 ·rw[decide_eq_true c0]at k0
  by_cases c1:B.kind=131
  ·rw[decide_eq_true c1]at k1
   rw[ifn]
   by_cases n4:T.n=4
   ·rw[if_pos n4]
    by_cases q:A.n=B.n
    ·rw[decide_eq_true q]
     repeat' ((first|refine Ga ?_|refine Gc fun hlen=>?_|refine Ge k0 ?_|refine Ge k1 ?_|refine Side.mk h0 ?_|refine Side.mk h1 ?_|refine Gd (fun hc=>?_) fun hc=>?_)<;>conv=>whnf)
     refine RetS.ent (σ':=⟨[(2,.ref 0 0),(3,.d (.int .i64 0))],92,[(0,.cells [.d (.int .i64 132),.d (.int .i64 1),.d (.str ByteArray.empty),.d (.str ByteArray.empty),.d .nils])],1,g⟩) (Ent.go [0]) ?_
     refine RetS.ent (Ent.fz_node 0 rfl rfl (by repeat' first|exact trivial|apply And.intro|rfl|exact hp2.symm|exact Nat.zero_lt_one|omega) (by repeat' first|exact trivial|apply And.intro|rfl|exact hp2.symm|exact Nat.zero_lt_one|omega)) ?_
     exact Gg
    ·rw[decide_eq_false q]
     repeat' ((first|refine Ga ?_|refine Gc fun hlen=>?_|refine Ge k0 ?_|refine Ge k1 ?_|refine Side.mk h0 ?_|refine Side.mk h1 ?_|refine Gd (fun hc=>?_) fun hc=>?_)<;>conv=>whnf)
     refine RetS.ent (σ':=⟨[(2,.ref 0 0),(3,.d (.int .i64 0))],92,[(0,.cells [.d (.int .i64 132),.d (.int .i64 0),.d (.str ByteArray.empty),.d (.str ByteArray.empty),.d .nils])],1,g⟩) (Ent.go [0]) ?_
     refine RetS.ent (Ent.fz_node 0 rfl rfl (by repeat' first|exact trivial|apply And.intro|rfl|exact hp2.symm|exact Nat.zero_lt_one|omega) (by repeat' first|exact trivial|apply And.intro|rfl|exact hp2.symm|exact Nat.zero_lt_one|omega)) ?_
     exact Gg
   ·rw[if_neg n4]
    by_cases n5:T.n=5
    ·rw[if_pos n5]
     by_cases q:A.n < B.n
     ·rw[decide_eq_true q]
      repeat' ((first|refine Ga ?_|refine Gc fun hlen=>?_|refine Ge k0 ?_|refine Ge k1 ?_|refine Side.mk h0 ?_|refine Side.mk h1 ?_|refine Gd (fun hc=>?_) fun hc=>?_)<;>conv=>whnf)
      refine RetS.ent (σ':=⟨[(2,.ref 0 0),(3,.d (.int .i64 0))],92,[(0,.cells [.d (.int .i64 132),.d (.int .i64 1),.d (.str ByteArray.empty),.d (.str ByteArray.empty),.d .nils])],1,g⟩) (Ent.go [0]) ?_
      refine RetS.ent (Ent.fz_node 0 rfl rfl (by repeat' first|exact trivial|apply And.intro|rfl|exact hp2.symm|exact Nat.zero_lt_one|omega) (by repeat' first|exact trivial|apply And.intro|rfl|exact hp2.symm|exact Nat.zero_lt_one|omega)) ?_
      exact Gg
     ·rw[decide_eq_false q]
      repeat' ((first|refine Ga ?_|refine Gc fun hlen=>?_|refine Ge k0 ?_|refine Ge k1 ?_|refine Side.mk h0 ?_|refine Side.mk h1 ?_|refine Gd (fun hc=>?_) fun hc=>?_)<;>conv=>whnf)
      refine RetS.ent (σ':=⟨[(2,.ref 0 0),(3,.d (.int .i64 0))],92,[(0,.cells [.d (.int .i64 132),.d (.int .i64 0),.d (.str ByteArray.empty),.d (.str ByteArray.empty),.d .nils])],1,g⟩) (Ent.go [0]) ?_
      refine RetS.ent (Ent.fz_node 0 rfl rfl (by repeat' first|exact trivial|apply And.intro|rfl|exact hp2.symm|exact Nat.zero_lt_one|omega) (by repeat' first|exact trivial|apply And.intro|rfl|exact hp2.symm|exact Nat.zero_lt_one|omega)) ?_
      exact Gg
    ·rw[if_neg n5]
     have n3:T.n=1∨T.n=2∨T.n=3:=by omega
     rcases n3 with n1|n1|n1
     ·have e:sumF T.n A.n B.n=IntKind.i64.wrap (A.n+B.n):=by rw[n1];rfl
      rw[e]
      by_cases q:IntKind.i64.wrap (A.n+B.n) < -1073741824∨1073741824 < IntKind.i64.wrap (A.n+B.n)
      ·rw[if_pos q]
       repeat' ((first|refine Ga ?_|refine Gc fun hlen=>?_|refine Ge k0 ?_|refine Ge k1 ?_|refine Side.mk h0 ?_|refine Side.mk h1 ?_|refine Gd (fun hc=>?_) fun hc=>?_)<;>conv=>whnf)
       all_goals exact Gg
      ·rw[if_neg q]
       repeat' ((first|refine Ga ?_|refine Gc fun hlen=>?_|refine Ge k0 ?_|refine Ge k1 ?_|refine Side.mk h0 ?_|refine Side.mk h1 ?_|refine Gd (fun hc=>?_) fun hc=>?_)<;>conv=>whnf)
       all_goals exact Gg
     ·have e:sumF T.n A.n B.n=IntKind.i64.wrap (A.n - B.n):=by rw[n1];rfl
      rw[e]
      by_cases q:IntKind.i64.wrap (A.n - B.n) < -1073741824∨1073741824 < IntKind.i64.wrap (A.n - B.n)
      ·rw[if_pos q]
       repeat' ((first|refine Ga ?_|refine Gc fun hlen=>?_|refine Ge k0 ?_|refine Ge k1 ?_|refine Side.mk h0 ?_|refine Side.mk h1 ?_|refine Gd (fun hc=>?_) fun hc=>?_)<;>conv=>whnf)
       all_goals exact Gg
      ·rw[if_neg q]
       repeat' ((first|refine Ga ?_|refine Gc fun hlen=>?_|refine Ge k0 ?_|refine Ge k1 ?_|refine Side.mk h0 ?_|refine Side.mk h1 ?_|refine Gd (fun hc=>?_) fun hc=>?_)<;>conv=>whnf)
       all_goals exact Gg
     ·have e:sumF T.n A.n B.n=IntKind.i64.wrap (A.n*B.n):=by rw[n1];rfl
      rw[e]
      by_cases q:IntKind.i64.wrap (A.n*B.n) < -1073741824∨1073741824 < IntKind.i64.wrap (A.n*B.n)
      ·rw[if_pos q]
       repeat' ((first|refine Ga ?_|refine Gc fun hlen=>?_|refine Ge k0 ?_|refine Ge k1 ?_|refine Side.mk h0 ?_|refine Side.mk h1 ?_|refine Gd (fun hc=>?_) fun hc=>?_)<;>conv=>whnf)
       all_goals exact Gg
      ·rw[if_neg q]
       repeat' ((first|refine Ga ?_|refine Gc fun hlen=>?_|refine Ge k0 ?_|refine Ge k1 ?_|refine Side.mk h0 ?_|refine Side.mk h1 ?_|refine Gd (fun hc=>?_) fun hc=>?_)<;>conv=>whnf)
       all_goals exact Gg
  ·rw[decide_eq_false c1]at k1
   rw[if_pos (.inr c1)]
   repeat' ((first|refine Ga ?_|refine Gc fun hlen=>?_|refine Ge k0 ?_|refine Ge k1 ?_|refine Gd (fun hc=>?_) fun hc=>?_)<;>conv=>whnf)
   exact Gg
 ·rw[decide_eq_false c0]at k0
  rw[if_pos (.inl c0)]
  repeat' ((first|refine Ga ?_|refine Gc fun hlen=>?_|refine Ge k0 ?_|refine Ge k1 ?_|refine Gd (fun hc=>?_) fun hc=>?_)<;>conv=>whnf)
  exact Gg
def nameE:List Tree→List Tree→Bool
 | [],[]=>true
 | x::l,y::l'=>decide (x.name=y.name) && nameE l l'
 | _,_=>false
theorem nameE_iff:∀l l':List Tree,nameE l l'=decide (l.map Tree.name=l'.map Tree.name)
 | [],[]=>by simp[nameE]
 | x::l,y::l'=>by
  rw[nameE,nameE_iff l l',Bool.eq_iff_iff]
  simp
 | [],_::_=>by simp[nameE]
 | _::_,[]=>by simp[nameE]
theorem sameName_ok (x y:Tree)(hx:x≠.nil)(hy:y≠.nil):Pure P 147 [.d (.tree x),.d (.tree y)] (.d (.bool (decide (x.name=y.name)))):=by
 refine Pure.of_body tt [] [4] (Tryz.func147) rfl rfl rfl lb fun g=>?_
 repeat' ((first|refine Ga ?_|refine Gc fun hlen=>?_|refine Gd (fun hc=>?_) fun hc=>?_)<;>conv=>whnf)
 exact Gf rfl (bool_eq (by rw[bytes_dec])) rfl
theorem eqNames_ok (l l':List Tree)(h:∀x∈l,x≠.nil)(h':∀x∈l',x≠.nil) :
  Pure P 23 [.d (.trees l),.d (.trees l'),.fn 147 []] (.d (.bool (nameE l l'))):=by
 refine Pure.of_body tt [] [6] (Tryz.func23) rfl rfl rfl lb fun g=>?_
 by_cases hl:l.length=l'.length
 ·repeat' ((first|refine Ga ?_|refine Gc fun hlen=>?_|refine Gd (fun hc=>?_) fun hc=>?_)<;>conv=>whnf)
  refine loop_go (α:=Nat) (fun p=>⟨[(1,.d (.trees l')),(2,.fn 147 []),(15,.d (.trees l)),(16,.d (.int .i64 l.length)),(17,.d (.int .i64 p))],32,[],0,g⟩) (fun p=>p≤l.length∧nameE (l.drop p) (l'.drop p)=nameE l l') (fun p=>l.length - p) 0 ⟨by omega,rfl⟩
   (Ent.go []) (fun _=>rfl) fun p hpre=>?_
  obtain⟨hp1,hp2⟩:=hpre
  by_cases hlt:p < l.length
  ·have hq:=sameName_ok (l.getD p .nil) (l'.getD p .nil) (h _ (getD_mem hlt)) (h' _ (getD_mem (by omega)))
   rw[drop_step hlt,drop_step (l:=l') (by omega),nameE]at hp2
   by_cases e:(l.getD p .nil).name=(l'.getD p .nil).name
   ·rw[decide_eq_true e]at hq hp2
    rw[Bool.true_and]at hp2
    repeat' ((first|refine Ga ?_|refine Gc fun hlen=>?_|refine Gh ((0:Int)≤(p:Int)∧(p:Int) < (l.length:Int)) ?_|refine Gh ((0:Int)≤(p:Int)∧(p:Int) < (l'.length:Int)) ?_|refine Ge hq ?_|refine Gd (fun hc=>?_) fun hc=>?_)<;>conv=>whnf)
    exact⟨p+1,⟨by omega,hp2⟩,by omega,Ent.go []⟩
   ·rw[decide_eq_false e]at hq hp2
    rw[←hp2]
    repeat' ((first|refine Ga ?_|refine Gc fun hlen=>?_|refine Gh ((0:Int)≤(p:Int)∧(p:Int) < (l.length:Int)) ?_|refine Gh ((0:Int)≤(p:Int)∧(p:Int) < (l'.length:Int)) ?_|refine Ge hq ?_|refine Gd (fun hc=>?_) fun hc=>?_)<;>conv=>whnf)
    exact Gg
  ·rw[drop_end (by omega),drop_end (l:=l') (by omega),nameE]at hp2
   rw[←hp2]
   repeat' ((first|refine Ga ?_|refine Gc fun hlen=>?_|refine Gd (fun hc=>?_) fun hc=>?_)<;>conv=>whnf)
   exact Gg
 ·have hs:nameE l l'=false:=by
   rw[nameE_iff]
   apply decide_eq_false
   intro e
   have:=congrArg List.length e
   simp at this
   exact hl this
  repeat' ((first|refine Ga ?_|refine Gc fun hlen=>?_|refine Gd (fun hc=>?_) fun hc=>?_)<;>conv=>whnf)
  exact Gf rfl (bool_eq (by rw[hs])) rfl
theorem rollsF_len (f:Tree):∀l vs:List Tree,l.length=vs.length→(rollsF f l vs).length=vs.length
 | [],vs,h=>by rw[rollsF]
 | x::l,[],h=>by simp at h
 | x::l,v::vs,h=>by
  rw[rollsF]
  simp only[List.length_cons,List.drop_one,List.tail_cons]
  rw[rollsF_len f l vs (by simpa using h)]
theorem rollsF_get (f:Tree):∀(l vs:List Tree) (i:Nat),l.length=vs.length→i < l.length→(rollsF f l vs).getD i .nil=fieldT (vs.getD i .nil).name (rollF f ((l.getD i .nil).kids.getD 0 .nil) ((vs.getD i .nil).kids.getD 0 .nil))
 | [],vs,i,h,hi=>by simp at hi
 | x::l,[],i,h,hi=>by simp at h
 | x::l,v::vs,0,h,hi=>by rw[rollsF,rollI_eq];rfl
 | x::l,v::vs,i+1,h,hi=>by
  rw[rollsF,List.getD_cons_succ,List.getD_cons_succ,List.getD_cons_succ]
  exact rollsF_get f l vs i (by simpa using h) (by simpa using hi)
theorem mixed_set {a b:List Tree}{p:Nat}(h:a.length=b.length)(hp:p < b.length):(a.take p++b.drop p).set p (a.getD p .nil)=a.take (p+1)++b.drop (p+1):=by
 have h1:(a.take p).length=p:=by simp;omega
 rw[drop_step hp,←take_step (l:=a) (i:=p) (by omega)]
 have:=No.list_set_append (a.take p) (b.drop (p+1)) (b.getD p .nil) (a.getD p .nil)
 rw[h1]at this
 rw[this]
 simp
theorem getapp {a b:List Tree}{i:Nat}:(a++b).getD (a.length+i) .nil=b.getD i .nil:=by
 simp[List.getD_eq_getElem?_getD,List.getElem?_append_right]
theorem mixed_get {a b:List Tree}{p:Nat}(h:a.length=b.length)(hp:p < b.length):(a.take p++b.drop p).getD p .nil=b.getD p .nil:=by
 have h1:(a.take p).length=p:=by simp;omega
 have:=getapp (a:=a.take p) (b:=b.drop p) (i:=0)
 rw[h1,Nat.add_zero]at this
 rw[this,drop_step hp];rfl
theorem rec_flds {T:Tree}(hT:T≠.nil)(h:isConF T=true)(hk:T.kind=115):∀x∈T.kids,fieldF 116 x=true:=by
 rw[isConF_eq hT,Bool.and_eq_true,ifn,ifn,ifn,if_pos hk]at h
 have h:=h.2
 simp only[Bool.and_eq_true]at h
 exact fieldsF_mem h.1
theorem sum_flds {T:Tree}(hT:T≠.nil)(h:isConF T=true)(hk:T.kind=121):∀x∈T.kids,fieldF 122 x=true:=by
 rw[isConF_eq hT,Bool.and_eq_true,ifn,ifn,ifn,ifn,ifn,if_pos hk]at h
 have h:=h.2
 simp only[Bool.and_eq_true]at h
 exact fieldsF_mem h.1.2
theorem fld_parts {kind:Int}{x:Tree}(h:fieldF kind x=true):x≠.nil∧x.kids.length=1∧isConF (x.kids.getD 0 .nil)=true:=by
 have hx:x≠.nil:=by intro e;subst e;rw[fieldF]at h;cases h
 rw[fieldF_eq hx]at h
 simp only[Bool.and_eq_true,beq_iff_eq]at h
 exact⟨hx,by omega,h.2⟩
theorem full_len {T:Tree}(h:Full T):T.kids.length≤sizesN T.kids:=len_sizes' fun x hx=>(h.kids x hx).ne
theorem unroll_ok (f:Tree)(hf:isTermF f=true)(hfk:f.kind=148)(hfz:sizeN f≤65536)(c:Tree):isConF c=true→∀v:Tree,isTermF v=true→sizeN v≤65536 →
  Pure P 118 [.d (.tree c),.d (.tree v),.d (.tree f)] (.d (.tree (rollF f c v))):=by
 suffices h:(isConF c=true→∀v:Tree,isTermF v=true→sizeN v≤65536→Pure P 118 [.d (.tree c),.d (.tree v),.d (.tree f)] (.d (.tree (rollF f c v)))) ∧
   ∀x∈c.kids,isConF x=true→∀v:Tree,isTermF v=true→sizeN v≤65536→Pure P 118 [.d (.tree x),.d (.tree v),.d (.tree f)] (.d (.tree (rollF f x v))) from h.1
 induction c using Tree.ind' with
 | h0=>exact⟨fun h=>(by rw[isConF]at h;cases h),fun x hx=>(by cases hx)⟩
 | h1 c hc ih=>?_
 refine⟨fun hcon v hv hvz=>?_,fun x hx=>(ih x hx).1⟩
 have hvn:=term_ne hv
 have hfn:=term_ne hf
 obtain⟨f1,_⟩:=term_xca hf hfk
 have hfs:=sizeN_kids hfn
 have hvs:=sizeN_kids hvn
 have he:=rollF_eq hc f v
 have fl:=full_len (term_full hf)
 have vl:=full_len (term_full hv)
 refine Pure.of_body tt [] [6] Tryz.func118 rfl rfl rfl lb fun g=>?_
 by_cases c1:c.kind=110∧c.n=0
 ·rw[if_pos c1]at he
  rw[he]
  obtain⟨c1,c2⟩:=c1
  have hw:=with_ok f hfn 0 (by omega) (by omega) (fun k=>by omega) v
  repeat' ((first|refine Ga ?_|refine Gc fun hlen=>?_|refine Ge hw ?_|refine Gd (fun hc=>?_) fun hc=>?_)<;>conv=>whnf)
  exact Gg
 rw[if_neg c1]at he
 by_cases c2:c.kind=115∧v.kind=136
 ·obtain⟨c2,c3⟩:=c2
  have hcf:=rec_flds hc hcon c2
  have hvf:=(term_f hv c3).1
  have hq:=eqNames_ok c.kids v.kids (fun x hx=>(fld_parts (hcf x hx)).1) (fun x hx=>(tfield_parts (hvf x hx)).1)
  rw[nameE_iff]at hq
  by_cases c4:c.kids.map Tree.name=v.kids.map Tree.name
  ·rw[if_pos ⟨c2,c3,c4⟩]at he
   rw[decide_eq_true c4]at hq
   rw[he]
   have hleq:c.kids.length=v.kids.length:=by simpa using congrArg List.length c4
   have hrl:=rollsF_len f c.kids v.kids hleq
   have hrg:=rollsF_get f c.kids v.kids
   generalize rollsF f c.kids v.kids=R at *
   repeat' ((first|refine Ga ?_|refine Gc fun hlen=>?_|refine Ge hq ?_|refine Gd (fun hc=>?_) fun hc=>?_)<;>conv=>whnf)
   refine loop_go (α:=Nat×Tree) (fun p=>⟨[(0,.d (.tree c)),(1,.d (.tree v)),(2,.d (.tree f)),(7,.d (.tree p.2)),(56,.d (.trees c.kids)),(57,.d (.int .i64 c.kids.length)),(58,.d (.int .i64 p.1))],79,[],0,g⟩)
    (fun p=>p.1≤c.kids.length∧p.2=.node 136 v.n v.name v.mark (R.take p.1++v.kids.drop p.1)) (fun p=>c.kids.length - p.1) (0,v) ⟨by simp,by
     simp only[List.take_zero,List.drop_zero,List.nil_append]
     rw[←c3]
     cases v with
     | nil=>exact absurd rfl hvn
     | node=>rfl⟩
    (Ent.go []) (fun _=>rfl) fun p hpre=>?_
   obtain⟨p,m⟩:=p
   obtain⟨hp1,hp2⟩:=hpre
   simp only[]at hp1 hp2
   by_cases hlt:p < c.kids.length
   ·obtain⟨g1,g2,g3⟩:=fld_parts (hcf _ (getD_mem hlt))
    have hvm:=getD_mem (l:=v.kids) (i:=p) (by omega)
    obtain⟨t1,t2,t3,t4,t5⟩:=tfield_parts (hvf _ hvm)
    have hin:=inner_ok v hvn p (by omega) (fun _=>⟨t1,by omega⟩)
    have s1:=sizesN_mem hvm
    have s2:=sizeN_kids t1
    have s3:=sizesN_mem (getD_mem (l:=(v.kids.getD p .nil).kids) (i:=0) (by omega))
    have hie:inF v p=(v.kids.getD p .nil).kids.getD 0 .nil:=by unfold inF;rw[if_pos c3]
    rw[hie]at hin
    have hrec:=(ih _ (getD_mem hlt)).2 _ (getD_mem (i:=0) (by omega)) g3 _ t5 (by omega)
    have hget:R.getD p .nil=fieldT (v.kids.getD p .nil).name (rollF f ((c.kids.getD p .nil).kids.getD 0 .nil) ((v.kids.getD p .nil).kids.getD 0 .nil)):=hrg p hleq hlt
    have hmk:m.kids=R.take p++v.kids.drop p:=by rw[hp2];rfl
    have hmn:m≠.nil:=by rw[hp2];simp
    have hml:m.kids.length=v.kids.length:=by rw[hmk];simp;omega
    have hmg:m.kids.getD p .nil=v.kids.getD p .nil:=by rw[hmk];exact mixed_get (by omega) (by omega)
    have hw:=with_ok m hmn p (by omega) (by omega) (fun _=>by rw[hmg];exact t1) (rollF f ((c.kids.getD p .nil).kids.getD 0 .nil) ((v.kids.getD p .nil).kids.getD 0 .nil))
    have hwe:withT m p (rollF f ((c.kids.getD p .nil).kids.getD 0 .nil) ((v.kids.getD p .nil).kids.getD 0 .nil))=.node 136 v.n v.name v.mark (R.take (p+1)++v.kids.drop (p+1)):=by
     unfold withT
     rw[hmg,hmk,←mixed_set (a:=R) (b:=v.kids) (p:=p) (by omega) (by omega),hget,hp2]
     rfl
    rw[hwe]at hw
    repeat' ((first|refine Ga ?_|refine Gc fun hlen=>?_|refine Gh ((0:Int)≤(p:Int)∧(p:Int) < (c.kids.length:Int)) ?_|refine Side.mk g1 ?_|refine Gh ((0:Int)≤0∧(0:Int) < ((c.kids.getD p .nil).kids.length:Int)) ?_|refine Ge hin ?_|refine Ge hrec ?_|refine Ge hw ?_|refine Gd (fun hc=>?_) fun hc=>?_)<;>conv=>whnf)
    exact⟨(p+1,.node 136 v.n v.name v.mark (R.take (p+1)++v.kids.drop (p+1))),⟨by simp only[];omega,rfl⟩,by simp only[];omega,Ent.go []⟩
   ·have e1:R.take p=R:=List.take_of_length_le (by omega)
    have e2:v.kids.drop p=[]:=drop_end (by omega)
    rw[e1,e2,List.append_nil]at hp2
    rw[←hp2]
    repeat' ((first|refine Ga ?_|refine Gc fun hlen=>?_|refine Gd (fun hc=>?_) fun hc=>?_)<;>conv=>whnf)
    exact Gg
  ·rw[if_neg (fun q=>c4 q.2.2)]at he
   rw[decide_eq_false c4]at hq
   rw[he]
   repeat' ((first|refine Ga ?_|refine Gc fun hlen=>?_|refine Ge hq ?_|refine Gd (fun hc=>?_) fun hc=>?_)<;>conv=>whnf)
   exact Gg
 ·rw[if_neg (fun q=>c2 ⟨q.1,q.2.1⟩)]at he
  rw[he]
  repeat' ((first|refine Ga ?_|refine Gc fun hlen=>?_|refine Gd (fun hc=>?_) fun hc=>?_)<;>conv=>whnf)
  all_goals exact Gg
end St
end Go.Proofs.YtlgajkoplklkiaaGreat
namespace Go.Proofs.YtlgajkoplklkiaaGreat
namespace Mc
open Go Go.Mq Tm Sb St
section
variable {ev : Tree → Ev → Nat → Rs} {fo : Tree → ByteArray → Tree → Vl → Ev → Nat → Rs}
end
end Mc
end Go.Proofs.YtlgajkoplklkiaaGreat
namespace Go.Proofs.YtlgajkoplklkiaaGreat
namespace Mc
open Go Go.Mq
section
variable {ev ev' : Tree → Ev → Nat → Rs} {fo fo' : Tree → ByteArray → Tree → Vl → Ev → Nat → Rs} {k k' : Nat}
end
section
variable {ev ev' : Tree → Ev → Nat → Rs} {fo fo' : Tree → ByteArray → Tree → Vl → Ev → Nat → Rs} {k k' : Nat}
end
end Mc
end Go.Proofs.YtlgajkoplklkiaaGreat
namespace Go.Proofs.YtlgajkoplklkiaaGreat
namespace Mc
open Go Go.Mq
abbrev R2:=Vl×Int
section
variable (ev : Tree → Ev → R2) (fo : Tree → ByteArray → Tree → Vl → Ev → R2)
def recB (ρ:Ev):List Tree→List ByteArray→List Vl→R2
 | [],ls,ps=>(.rcd ls ps,0)
 | x::l,ls,ps=>if (ev (x.kids.getD 0 .nil) ρ).2=0 then recB ρ l (ls++[x.name]) (ps++[(ev (x.kids.getD 0 .nil) ρ).1]) else (.unt,(ev (x.kids.getD 0 .nil) ρ).2)
def wrapB (T:Tree)(ρ:Ev):R2 :=
 if (ev (T.kids.getD 1 .nil) ρ).2=0 then
  (if (closeL (consE ρ) (T.kids.getD 0 .nil)).2=0 then (if T.kind=146 then .tag T.name (closeL (consE ρ) (T.kids.getD 0 .nil)).1 (ev (T.kids.getD 1 .nil) ρ).1 else .pkd (closeL (consE ρ) (T.kids.getD 0 .nil)).1 (ev (T.kids.getD 1 .nil) ρ).1,0)
  else (.unt,(closeL (consE ρ) (T.kids.getD 0 .nil)).2))
 else (.unt,(ev (T.kids.getD 1 .nil) ρ).2)
def opB (n:Int):Vl→Vl→R2
 | .num a,.num b =>
  if n=4 then (.tru (decide (a=b)),0) else if n≠1∧n≠2∧n≠3 then (.tru (decide (a < b)),0)
  else if IntKind.i64.wrap (if n=1 then a+b else if n=2 then a - b else a*b) < -1073741824∨1073741824 < IntKind.i64.wrap (if n=1 then a+b else if n=2 then a - b else a*b) then (.unt,19)
   else (.num (IntKind.i64.wrap (if n=1 then a+b else if n=2 then a - b else a*b)),0)
 | _,_=>(.unt,20)
def useB (T:Tree)(x:Vl)(ρ:Ev):R2 :=
 match x with
 | .rcd ls ps=>match lookM T.name ls ps with
  | some p=>if T.kind=138 then (p,0) else (.unt,20)
  | none=>(.unt,20)
 | .tru b=>if T.kind=144 then ev (T.kids.getD (if b then 1 else 2) .nil) ρ else (.unt,20)
 | .clo ty b e=>if T.kind=140∧ty=true then
   (if (closeL (consE ρ) (T.kids.getD 1 .nil)).2=0 then ev b (.con (closeL (consE ρ) (T.kids.getD 1 .nil)).1 e) else (.unt,(closeL (consE ρ) (T.kids.getD 1 .nil)).2))
  else (.unt,20)
 | .pkd c p=>if T.kind=142 then ev (T.kids.getD 1 .nil) (.val p (.con c ρ)) else (.unt,20)
 | .tag nm s p=>if T.kind=147 then (match armF nm (T.kids.drop 1) with
   | some b=>ev b (.val p ρ)
   | none=>(.unt,20))
  else if T.kind=148 then fo T nm s p ρ else (.unt,20)
 | _=>(.unt,20)
mutual
def unrB (T:Tree)(ρ:Ev):Tree→Vl→R2
 | .nil,x=>(x,0)
 | .node k n _ _ l,x=>if k=110∧n=0 then (match x with
   | .tag nm s p=>fo T nm s p ρ
   | _=>(.unt,20))
  else match x with
   | .rcd ls ps=>if k=115∧l.length=ps.length then unrsB T ρ l ls ps x ls [] else (x,0)
   | x=>(x,0)
def unrsB (T:Tree)(ρ:Ev):List Tree→List ByteArray→List Vl→Vl→List ByteArray→List Vl→R2
 | [],_,_,_,all,out=>(.rcd all out,0)
 | x::l,ls,ps,whole,all,out=>if x.name=ls.getD 0 ByteArray.empty then
   (if (unrIB T ρ x (ps.getD 0 .unt)).2=0 then unrsB T ρ l (ls.drop 1) (ps.drop 1) whole all (out++[(unrIB T ρ x (ps.getD 0 .unt)).1])
   else (.unt,(unrIB T ρ x (ps.getD 0 .unt)).2))
  else (whole,0)
def unrIB (T:Tree)(ρ:Ev):Tree→Vl→R2
 | .nil,x=>(x,0)
 | .node _ _ _ _ l,x=>unrHB T ρ l x
def unrHB (T:Tree)(ρ:Ev):List Tree→Vl→R2
 | [],x=>(x,0)
 | c::_,x=>unrB T ρ c x
end
end
section
variable (ev : Tree → Ev → R2) (fo : Tree → ByteArray → Tree → Vl → Ev → R2)
def bodyB (T:Tree)(ρ:Ev):R2 :=
  if T.kind=130 then (match atE ρ T.n with
   | some v=>(v,0)
   | none=>(.unt,20))
  else if T.kind=131 then (.num T.n,0)
  else if T.kind=132 then (.tru (decide (T.n=1)),0)
  else if T.kind=133 then (.unt,0)
  else if T.kind=134∨T.kind=139 then (.clo (decide (T.kind=139)) (T.kids.getD 1 .nil) ρ,0)
  else if T.kind=136 then recB ev ρ T.kids [] []
  else if T.kind=146∨T.kind=141 then wrapB ev T ρ
  else if (ev (T.kids.getD 0 .nil) ρ).2≠0 then (.unt,(ev (T.kids.getD 0 .nil) ρ).2)
  else if T.kind=135∨T.kind=145 then
    (if (ev (T.kids.getD 1 .nil) ρ).2≠0 then (.unt,(ev (T.kids.getD 1 .nil) ρ).2)
    else if T.kind=145 then opB T.n (ev (T.kids.getD 0 .nil) ρ).1 (ev (T.kids.getD 1 .nil) ρ).1
    else match (ev (T.kids.getD 0 .nil) ρ).1 with
     | .clo false body e=>ev body (.val (ev (T.kids.getD 1 .nil) ρ).1 e)
     | _=>(.unt,20))
  else if T.kind=143 then ev (T.kids.getD 1 .nil) (.val (ev (T.kids.getD 0 .nil) ρ).1 ρ)
  else useB ev fo T (ev (T.kids.getD 0 .nil) ρ).1 ρ
def foldB (T:Tree)(nm:ByteArray)(sum:Tree)(p:Vl)(ρ:Ev):R2 :=
  if (No.normR sum).2≠0 then (.unt,(No.normR sum).2)
  else match armF nm (T.kids.drop 2) with
   | none=>(.unt,20)
   | some b=>if (No.normR sum).1.kind≠121 then (.unt,20) else match armF nm (No.normR sum).1.kids with
    | none=>(.unt,20)
    | some c=>if (unrB fo T ρ c p).2≠0 then (.unt,(unrB fo T ρ c p).2) else ev b (.val (unrB fo T ρ c p).1 ρ)
end
mutual
def bsD:Nat→Tree→Ev→R2
 | 0,_,_=>(.unt,99)
 | k+1,T,ρ=>bodyB (bsD k) (foD k) T ρ
def foD:Nat→Tree→ByteArray→Tree→Vl→Ev→R2
 | 0,_,_,_,_,_=>(.unt,99)
 | k+1,T,nm,sum,p,ρ=>foldB (bsD k) (foD k) T nm sum p ρ
end
section
variable {ev : Tree → Ev → Nat → Rs} {fo : Tree → ByteArray → Tree → Vl → Ev → Nat → Rs} {ev' : Tree → Ev → R2} {fo' : Tree → ByteArray → Tree → Vl → Ev → R2}
end
end Mc
end Go.Proofs.YtlgajkoplklkiaaGreat
namespace Go.Proofs.YtlgajkoplklkiaaGreat
namespace Mc
open Go Go.Mq
section
variable {ev ev' : Tree → Ev → R2} {fo fo' : Tree → ByteArray → Tree → Vl → Ev → R2}
end
end Mc
end Go.Proofs.YtlgajkoplklkiaaGreat
namespace Go.Proofs.YtlgajkoplklkiaaGreat
namespace Cn
open Go
inductive Cn where
 | var (n:Nat)
 | op (k:Int) (nm:ByteArray) (l:List Cn)
instance:Inhabited Cn:=⟨.var 0⟩
theorem Cn.ind {p:Cn→Prop}(hv:∀n,p (.var n))(ho:∀k nm l,(∀x∈l,p x)→p (.op k nm l))(c:Cn):p c :=
 Cn.rec (motive_1:=p) (motive_2:=fun l=>∀x∈l,p x) hv (fun k nm l h=>ho k nm l h) (fun x hx=>by cases hx) (fun a l ha hl x hx=>by rcases List.mem_cons.1 hx with rfl|hx;exact ha;exact hl x hx) c
def bd (k:Int):Nat:=if k=117∨k=118∨k=119∨k=121 then 1 else 0
def upr (r:Nat→Nat):Nat→Nat
 | 0=>0
 | n+1=>r n+1
def uprN:Nat→(Nat→Nat)→Nat→Nat
 | 0,r=>r
 | d+1,r=>uprN d (upr r)
mutual
def ren (r:Nat→Nat):Cn→Cn
 | .var n=>.var (r n)
 | .op k nm l=>.op k nm (renL (uprN (bd k) r) l)
def renL (r:Nat→Nat):List Cn→List Cn
 | []=>[]
 | x::l=>ren r x::renL r l
end
theorem renL_map (r:Nat→Nat):∀l,renL r l=l.map (ren r)
 | []=>by rw[renL];rfl
 | x::l=>by rw[renL,renL_map r l];rfl
theorem ren_op (r:Nat→Nat)(k:Int)(nm:ByteArray)(l:List Cn):ren r (.op k nm l)=.op k nm (l.map (ren (uprN (bd k) r))):=by rw[ren,renL_map]
def up (s:Nat→Cn):Nat→Cn
 | 0=>.var 0
 | n+1=>ren Nat.succ (s n)
def upN:Nat→(Nat→Cn)→Nat→Cn
 | 0,s=>s
 | d+1,s=>upN d (up s)
mutual
def sub (s:Nat→Cn):Cn→Cn
 | .var n=>s n
 | .op k nm l=>.op k nm (subL (upN (bd k) s) l)
def subL (s:Nat→Cn):List Cn→List Cn
 | []=>[]
 | x::l=>sub s x::subL s l
end
theorem subL_map (s:Nat→Cn):∀l,subL s l=l.map (sub s)
 | []=>by rw[subL];rfl
 | x::l=>by rw[subL,subL_map s l];rfl
theorem sub_op (s:Nat→Cn)(k:Int)(nm:ByteArray)(l:List Cn):sub s (.op k nm l)=.op k nm (l.map (sub (upN (bd k) s))):=by rw[sub,subL_map]
theorem sub_var (s:Nat→Cn)(n:Nat):sub s (.var n)=s n:=by rw[sub]
theorem ren_var (r:Nat→Nat)(n:Nat):ren r (.var n)=.var (r n):=by rw[ren]
theorem upr_ext {a b:Nat→Nat}(h:∀n,a n=b n):∀n,upr a n=upr b n
 | 0=>rfl
 | n+1=>by show a n+1=b n+1;rw[h]
theorem uprN_ext {a b:Nat→Nat}(h:∀n,a n=b n):∀d n,uprN d a n=uprN d b n
 | 0,n=>h n
 | d+1,n=>uprN_ext (upr_ext h) d n
theorem up_ext {a b:Nat→Cn}(h:∀n,a n=b n):∀n,up a n=up b n
 | 0=>rfl
 | n+1=>by show ren _ (a n)=ren _ (b n);rw[h]
theorem upN_ext {a b:Nat→Cn}(h:∀n,a n=b n):∀d n,upN d a n=upN d b n
 | 0,n=>h n
 | d+1,n=>upN_ext (up_ext h) d n
theorem ren_ext (c:Cn):∀{a b:Nat→Nat},(∀n,a n=b n)→ren a c=ren b c:=by
 induction c using Cn.ind with
 | hv n=>intro a b h;rw[ren,ren,h]
 | ho k nm l ih =>
  intro a b h
  rw[ren_op,ren_op]
  congr 1
  exact List.map_congr_left fun x hx=>ih x hx (uprN_ext h _)
theorem sub_ext (c:Cn):∀{a b:Nat→Cn},(∀n,a n=b n)→sub a c=sub b c:=by
 induction c using Cn.ind with
 | hv n=>intro a b h;rw[sub,sub,h]
 | ho k nm l ih =>
  intro a b h
  rw[sub_op,sub_op]
  congr 1
  exact List.map_congr_left fun x hx=>ih x hx (upN_ext h _)
theorem upr_upr (a b:Nat→Nat):∀n,upr a (upr b n)=upr (fun n=>a (b n)) n
 | 0=>rfl
 | n+1=>rfl
theorem uprN_uprN (a b:Nat→Nat):∀d n,uprN d a (uprN d b n)=uprN d (fun n=>a (b n)) n
 | 0,n=>rfl
 | d+1,n=>by
  show uprN d (upr a) (uprN d (upr b) n)=uprN d (upr fun n=>a (b n)) n
  rw[uprN_uprN (upr a) (upr b) d n]
  exact uprN_ext (upr_upr a b) d n
theorem ren_ren (c:Cn):∀(a b:Nat→Nat),ren a (ren b c)=ren (fun n=>a (b n)) c:=by
 induction c using Cn.ind with
 | hv n=>intro a b;rw[ren,ren,ren]
 | ho k nm l ih =>
  intro a b
  rw[ren_op,ren_op,ren_op,List.map_map]
  congr 1
  refine List.map_congr_left fun x hx=>?_
  show ren _ (ren _ x)=_
  rw[ih x hx]
  exact ren_ext x (uprN_uprN a b _)
theorem up_upr (s:Nat→Cn)(r:Nat→Nat):∀n,up s (upr r n)=up (fun n=>s (r n)) n
 | 0=>rfl
 | n+1=>rfl
theorem upN_uprN (s:Nat→Cn)(r:Nat→Nat):∀d n,upN d s (uprN d r n)=upN d (fun n=>s (r n)) n
 | 0,n=>rfl
 | d+1,n=>by
  show upN d (up s) (uprN d (upr r) n)=upN d (up fun n=>s (r n)) n
  rw[upN_uprN (up s) (upr r) d n]
  exact upN_ext (up_upr s r) d n
theorem sub_ren (c:Cn):∀(s:Nat→Cn) (r:Nat→Nat),sub s (ren r c)=sub (fun n=>s (r n)) c:=by
 induction c using Cn.ind with
 | hv n=>intro s r;rw[ren,sub,sub]
 | ho k nm l ih =>
  intro s r
  rw[ren_op,sub_op,sub_op,List.map_map]
  congr 1
  refine List.map_congr_left fun x hx=>?_
  show sub _ (ren _ x)=_
  rw[ih x hx]
  exact sub_ext x (upN_uprN s r _)
theorem upr_up (r:Nat→Nat)(s:Nat→Cn):∀n,ren (upr r) (up s n)=up (fun n=>ren r (s n)) n
 | 0=>by show ren _ (.var 0)=.var 0;rw[ren];rfl
 | n+1=>by
  show ren (upr r) (ren Nat.succ (s n))=ren Nat.succ (ren r (s n))
  rw[ren_ren,ren_ren]
  exact ren_ext _ fun n=>rfl
theorem uprN_upN (r:Nat→Nat)(s:Nat→Cn):∀d n,ren (uprN d r) (upN d s n)=upN d (fun n=>ren r (s n)) n
 | 0,n=>rfl
 | d+1,n=>by
  show ren (uprN d (upr r)) (upN d (up s) n)=upN d (up fun n=>ren r (s n)) n
  rw[uprN_upN (upr r) (up s) d n]
  exact upN_ext (upr_up r s) d n
theorem ren_sub (c:Cn):∀(r:Nat→Nat) (s:Nat→Cn),ren r (sub s c)=sub (fun n=>ren r (s n)) c:=by
 induction c using Cn.ind with
 | hv n=>intro r s;rw[sub,sub]
 | ho k nm l ih =>
  intro r s
  rw[sub_op,ren_op,sub_op,List.map_map]
  congr 1
  refine List.map_congr_left fun x hx=>?_
  show ren _ (sub _ x)=_
  rw[ih x hx]
  exact sub_ext x (uprN_upN r s _)
theorem up_up (a b:Nat→Cn):∀n,sub (up a) (up b n)=up (fun n=>sub a (b n)) n
 | 0=>by show sub _ (.var 0)=.var 0;rw[sub];rfl
 | n+1=>by
  show sub (up a) (ren Nat.succ (b n))=ren Nat.succ (sub a (b n))
  rw[sub_ren,ren_sub]
  exact sub_ext _ fun n=>rfl
theorem upN_upN (a b:Nat→Cn):∀d n,sub (upN d a) (upN d b n)=upN d (fun n=>sub a (b n)) n
 | 0,n=>rfl
 | d+1,n=>by
  show sub (upN d (up a)) (upN d (up b) n)=upN d (up fun n=>sub a (b n)) n
  rw[upN_upN (up a) (up b) d n]
  exact upN_ext (up_up a b) d n
theorem sub_sub (c:Cn):∀(a b:Nat→Cn),sub a (sub b c)=sub (fun n=>sub a (b n)) c:=by
 induction c using Cn.ind with
 | hv n=>intro a b;rw[sub,sub]
 | ho k nm l ih =>
  intro a b
  rw[sub_op,sub_op,sub_op,List.map_map]
  congr 1
  refine List.map_congr_left fun x hx=>?_
  show sub _ (sub _ x)=_
  rw[ih x hx]
  exact sub_ext x (upN_upN a b _)
theorem up_id:∀n,up Cn.var n=Cn.var n
 | 0=>rfl
 | n+1=>by show ren _ (.var n)=_;rw[ren]
theorem upN_id:∀d n,upN d Cn.var n=Cn.var n
 | 0,n=>rfl
 | d+1,n=>by
  show upN d (up Cn.var) n=_
  rw[upN_ext up_id d n,upN_id d n]
theorem sub_id (c:Cn):sub Cn.var c=c:=by
 induction c using Cn.ind with
 | hv n=>rw[sub]
 | ho k nm l ih =>
  rw[sub_op]
  congr 1
  conv=>rhs;rw[←List.map_id l]
  refine List.map_congr_left fun x hx=>?_
  rw[sub_ext x (upN_id _),ih x hx];rfl
theorem ren_as_sub (c:Cn)(r:Nat→Nat):ren r c=sub (fun n=>.var (r n)) c:=by
 have:=ren_sub c r Cn.var
 rw[sub_id]at this
 rw[this]
 exact sub_ext c fun n=>by rw[ren]
def s0 (a:Cn):Nat→Cn
 | 0=>a
 | n+1=>.var n
def inst (b a:Cn):Cn:=sub (s0 a) b
theorem inst_shift (b a:Cn):inst (ren Nat.succ b) a=b:=by
 unfold inst
 rw[sub_ren]
 conv=>rhs;rw[←sub_id b]
 exact sub_ext b fun n=>rfl
theorem sub_inst (s:Nat→Cn)(b a:Cn):sub s (inst b a)=inst (sub (up s) b) (sub s a):=by
 unfold inst
 rw[sub_sub,sub_sub]
 refine sub_ext b fun n=>?_
 cases n with
 | zero=>show sub s a=sub _ (.var 0);rw[sub];rfl
 | succ n =>
  show sub s (.var n)=sub (s0 (sub s a)) (ren Nat.succ (s n))
  rw[sub,sub_ren]
  conv=>lhs;rw[←sub_id (s n)]
  exact sub_ext _ fun n=>rfl
theorem ren_inst (r:Nat→Nat)(b a:Cn):ren r (inst b a)=inst (ren (upr r) b) (ren r a):=by
 unfold inst
 rw[ren_sub,sub_ren]
 refine sub_ext b fun n=>?_
 cases n with
 | zero=>rfl
 | succ n=>show ren r (.var n)=.var (r n);rw[ren]
inductive Par:Cn→Cn→Prop
 | var (n:Nat):Par (.var n) (.var n)
 | op {k:Int} {nm:ByteArray} {l l':List Cn} (hl:l'.length=l.length) (h:∀i (h1:i < l.length) (h2:i < l'.length),Par l[i] l'[i]):Par (.op k nm l) (.op k nm l')
 | beta {nm nm':ByteArray} {K B A B' A':Cn} (hB:Par B B') (hA:Par A A'):Par (.op 120 nm [.op 119 nm' [K,B],A]) (inst B' A')
theorem Par.refl (c:Cn):Par c c:=by
 induction c using Cn.ind with
 | hv n=>exact .var n
 | ho k nm l ih=>exact .op rfl fun i h1 h2=>ih _ (List.getElem_mem h1)
theorem bd_app:bd 120=0:=by unfold bd;rw[if_neg (by decide)]
theorem bd_lam:bd 119=1:=by unfold bd;rw[if_pos (by decide)]
theorem Par.ren {c d:Cn}(h:Par c d):∀r:Nat→Nat,Par (ren r c) (ren r d):=by
 induction h with
 | var n=>intro r;exact .refl _
 | @op k nm l l' hl h ih =>
  intro r
  rw[ren_op,ren_op]
  refine .op (by simpa using hl) fun i h1 h2=>?_
  simp only[List.getElem_map]
  exact ih i (by simpa using h1) (by simpa using h2) _
 | @beta nm nm' K B A B' A' hB hA ihB ihA =>
  intro r
  rw[ren_op,ren_inst]
  simp only[List.map_cons,List.map_nil]
  rw[ren_op]
  simp only[List.map_cons,List.map_nil,bd_app,bd_lam]
  exact .beta (ihB _) (ihA _)
theorem Par.up {a b:Nat→Cn}(h:∀n,Par (a n) (b n)):∀n,Par (up a n) (up b n)
 | 0=>.refl _
 | n+1=>(h n).ren _
theorem Par.upN:∀(d:Nat) {a b:Nat→Cn} (h:∀n,Par (a n) (b n)) (n:Nat),Par (upN d a n) (upN d b n)
 | 0,_,_,h,n=>h n
 | d+1,_,_,h,n=>Par.upN d (Par.up h) n
theorem Par.sub {c d:Cn}(h:Par c d):∀{a b:Nat→Cn},(∀n,Par (a n) (b n))→Par (sub a c) (sub b d):=by
 induction h with
 | var n=>intro a b hs;rw[sub_var,sub_var];exact hs n
 | @op k nm l l' hl h ih =>
  intro a b hs
  rw[sub_op,sub_op]
  refine .op (by simpa using hl) fun i h1 h2=>?_
  simp only[List.getElem_map]
  exact ih i (by simpa using h1) (by simpa using h2) (Par.upN _ hs)
 | @beta nm nm' K B A B' A' hB hA ihB ihA =>
  intro a b hs
  rw[sub_op,sub_inst]
  simp only[List.map_cons,List.map_nil]
  rw[sub_op]
  simp only[List.map_cons,List.map_nil,bd_app,bd_lam]
  exact .beta (ihB (Par.up hs)) (ihA hs)
theorem Par.inst {B B' A A':Cn}(hB:Par B B')(hA:Par A A'):Par (inst B A) (inst B' A') :=
 hB.sub fun n=>by cases n with
  | zero=>exact hA
  | succ n=>exact .refl _
inductive Dev:Cn→Cn→Prop
 | var (n:Nat):Dev (.var n) (.var n)
 | op {k:Int} {nm:ByteArray} {l l':List Cn} (hr:¬∃nm' K B A,k=120∧l=[.op 119 nm' [K,B],A]) (hl:l'.length=l.length) (h:∀i (h1:i < l.length) (h2:i < l'.length),Dev l[i] l'[i]):Dev (.op k nm l) (.op k nm l')
 | beta {nm nm':ByteArray} {K B A B' A':Cn} (hB:Dev B B') (hA:Dev A A'):Dev (.op 120 nm [.op 119 nm' [K,B],A]) (inst B' A')
theorem devL {l:List Cn}(h:∀x∈l,∃d,Dev x d):∃l':List Cn,l'.length=l.length∧∀i (h1:i < l.length) (h2:i < l'.length),Dev l[i] l'[i]:=by
 induction l with
 | nil=>exact⟨[],rfl,fun i h1=>by simp at h1⟩
 | cons x l ih =>
  obtain⟨d,hd⟩:=h x (by simp)
  obtain⟨l',h1,h2⟩:=ih fun y hy=>h y (by simp[hy])
  refine⟨d::l',by simp[h1],fun i g1 g2=>?_⟩
  cases i with
  | zero=>exact hd
  | succ i=>exact h2 i (by simpa using g1) (by simpa using g2)
mutual
def szC:Cn→Nat
 | .var _=>1
 | .op _ _ l=>szL l+1
def szL:List Cn→Nat
 | []=>0
 | x::l=>szC x+szL l
end
theorem szC_op (k:Int)(nm:ByteArray)(l:List Cn):szC (.op k nm l)=szL l+1:=by rw[szC]
theorem szL_mem {x:Cn}:∀{l:List Cn},x∈l→szC x≤szL l
 | [],h=>by cases h
 | y::l,h=>by
  rw[szL]
  rcases List.mem_cons.1 h with rfl|h
  ·omega
  ·have:=szL_mem h;omega
theorem szC_mem {x:Cn}{k:Int}{nm:ByteArray}{l:List Cn}(h:x∈l):szC x < szC (.op k nm l):=by
 rw[szC_op];have:=szL_mem h;omega
theorem dev_ex:∀(n:Nat) (c:Cn),szC c≤n→∃d,Dev c d
 | 0,c,h=>by
  cases c with
  | var n=>exact⟨_,.var n⟩
  | op k nm l=>rw[szC_op]at h;omega
 | n+1,c,h=>by
  cases c with
  | var m=>exact⟨_,.var m⟩
  | op k nm l =>
   have hk:∀x∈l,szC x≤n:=fun x hx=>by have:=szC_mem (k:=k) (nm:=nm) hx;omega
   by_cases hr:∃nm' K B A,k=120∧l=[.op 119 nm' [K,B],A]
   ·obtain⟨nm',K,B,A,rfl,rfl⟩:=hr
    have h1:=hk (.op 119 nm' [K,B]) (by simp)
    have h2:=szC_mem (x:=B) (k:=119) (nm:=nm') (l:=[K,B]) (by simp)
    obtain⟨B',hB⟩:=dev_ex n B (by omega)
    obtain⟨A',hA⟩:=dev_ex n A (hk A (by simp))
    exact⟨_,.beta hB hA⟩
   ·obtain⟨l',h1,h2⟩:=devL fun x hx=>dev_ex n x (hk x hx)
    exact⟨_,.op hr h1 h2⟩
theorem par_lam {nm':ByteArray}{K B x:Cn}(h:Par (.op 119 nm' [K,B]) x):∃K' B',x=.op 119 nm' [K',B']∧Par B B':=by
 cases h with
 | @op _ _ _ l' hl h =>
  match l',hl with
  | [K',B'],_=>exact⟨K',B',rfl,h 1 (by simp) (by simp)⟩
theorem par_dev {t d:Cn}(hd:Dev t d):∀{u:Cn},Par t u→Par u d:=by
 induction hd with
 | var n=>intro u hp;cases hp;exact .var n
 | @op k nm l l' hr hl h ih =>
  intro u hp
  cases hp with
  | @op _ _ _ l2 hl2 h2 =>
   refine .op (by omega) fun i h1 h3=>?_
   exact ih i (by omega) h3 (h2 i (by omega) h1)
  | beta hB hA=>exact absurd ⟨_,_,_,_,rfl,rfl⟩ hr
 | @beta nm nm' K B A B' A' hB hA ihB ihA =>
  intro u hp
  cases hp with
  | @op _ _ _ l2 hl2 h2 =>
   match l2,hl2 with
   | [x,A2],_ =>
    have hx:=h2 0 (by simp) (by simp)
    have hA2:=h2 1 (by simp) (by simp)
    obtain⟨K',B2,rfl,hB2⟩:=par_lam hx
    exact .beta (ihB hB2) (ihA hA2)
  | beta hB2 hA2=>exact (ihB hB2).inst (ihA hA2)
inductive Red:Cn→Cn→Prop
 | refl (c:Cn):Red c c
 | step {a b c:Cn} (h:Par a b) (r:Red b c):Red a c
theorem Red.trans {a b c:Cn}(h:Red a b)(h2:Red b c):Red a c:=by
 induction h with
 | refl=>exact h2
 | step h _ ih=>exact .step h (ih h2)
theorem diamond {a b c:Cn}(h1:Par a b)(h2:Par a c):∃d,Par b d∧Par c d:=by
 obtain⟨d,hd⟩:=dev_ex (szC a) a (Nat.le_refl _)
 exact⟨d,par_dev hd h1,par_dev hd h2⟩
theorem strip {a b c:Cn}(h1:Par a b)(h2:Red a c):∃d,Red b d∧Par c d:=by
 induction h2 generalizing b with
 | refl=>exact⟨b,.refl _,h1⟩
 | step h _ ih =>
  obtain⟨d,g1,g2⟩:=diamond h1 h
  obtain⟨e,q1,q2⟩:=ih g2
  exact⟨e,.step g1 q1,q2⟩
theorem confl {a b c:Cn}(h1:Red a b)(h2:Red a c):∃d,Red b d∧Red c d:=by
 induction h1 generalizing c with
 | refl=>exact⟨c,h2,.refl _⟩
 | step h _ ih =>
  obtain⟨d,g1,g2⟩:=strip h h2
  obtain⟨e,q1,q2⟩:=ih g1
  exact⟨e,q1,.step g2 q2⟩
def Eqv (a b:Cn):Prop:=∃c,Red a c∧Red b c
theorem Eqv.refl (a:Cn):Eqv a a:=⟨a,.refl _,.refl _⟩
theorem Eqv.symm {a b:Cn}(h:Eqv a b):Eqv b a:=by obtain⟨c,h1,h2⟩:=h;exact⟨c,h2,h1⟩
theorem Eqv.trans {a b c:Cn}(h:Eqv a b)(h2:Eqv b c):Eqv a c:=by
 obtain⟨d,h1,h3⟩:=h
 obtain⟨e,h4,h5⟩:=h2
 obtain⟨f,g1,g2⟩:=confl h3 h4
 exact⟨f,h1.trans g1,h5.trans g2⟩
theorem Red.eqv {a b:Cn}(h:Red a b):Eqv a b:=⟨b,h,.refl _⟩
theorem Red.sub {c d:Cn}(h:Red c d)(s:Nat→Cn):Red (sub s c) (sub s d):=by
 induction h with
 | refl=>exact .refl _
 | step h _ ih=>exact .step (h.sub fun n=>.refl _) ih
theorem Eqv.sub {c d:Cn}(h:Eqv c d)(s:Nat→Cn):Eqv (sub s c) (sub s d):=by
 obtain⟨e,h1,h2⟩:=h
 exact⟨_,h1.sub s,h2.sub s⟩
theorem red_op {k:Int}{nm:ByteArray}{l:List Cn}{x:Cn}(hk:k≠120)(h:Red (.op k nm l) x):∃l',x=.op k nm l'∧l'.length=l.length∧∀i (h1:i < l.length) (h2:i < l'.length),Red l[i] l'[i]:=by
 generalize ha:Cn.op k nm l=a at h
 induction h generalizing l with
 | refl=>subst ha;exact⟨l,rfl,rfl,fun i h1 h2=>.refl _⟩
 | step h _ ih =>
  subst ha
  cases h with
  | @op _ _ _ l2 hl h =>
   obtain⟨l3,e,h3,h4⟩:=ih rfl
   exact⟨l3,e,by omega,fun i h1 h2=>.step (h i h1 (by omega)) (h4 i (by omega) h2)⟩
  | beta=>exact absurd rfl hk
theorem eqv_op {k k':Int}{nm nm':ByteArray}{l l':List Cn}(hk:k≠120)(hk':k'≠120)(h:Eqv (.op k nm l) (.op k' nm' l')):k=k'∧nm=nm'∧l'.length=l.length∧∀i (h1:i < l.length) (h2:i < l'.length),Eqv l[i] l'[i]:=by
 obtain⟨c,h1,h2⟩:=h
 obtain⟨a,e1,e2,e3⟩:=red_op hk h1
 obtain⟨b,f1,f2,f3⟩:=red_op hk' h2
 rw[e1]at f1
 cases f1
 exact⟨rfl,rfl,by omega,fun i g1 g2=>⟨_,e3 i g1 (by omega),f3 i g2 (by omega)⟩⟩
end Cn
end Go.Proofs.YtlgajkoplklkiaaGreat
namespace Go.Proofs.YtlgajkoplklkiaaGreat
namespace Ki
open Go Go.Mq
def idxF (b:Tree→Bool):Int→List Tree→Int
 | _,[] => -1
 | i,x::l=>if b x=true then i else idxF b (i+1) l
theorem idxF_any (b:Tree→Bool):∀(l:List Tree) (i:Int),0≤i→decide (0≤idxF b i l)=l.any b
 | [],i,_=>by simp[idxF]
 | x::l,i,h=>by
  rw[idxF,List.any_cons]
  split
  ·rename_i hb;rw[hb];simp[h]
  ·rename_i hb
   rw[idxF_any b l (i+1) (by omega)]
   simp only[Bool.not_eq_true]at hb
   rw[hb];rfl
theorem index_ok (l:List Tree)(F:Nat)(b:Tree→Bool)(h:∀x∈l,Pure P F [.d (.tree x)] (.d (.bool (b x)))) :
  Pure P 52 [.d (.trees l),.fn F []] (.d (.int .i64 (idxF b 0 l))):=by
 refine Pure.of_body tt [] [4] (Tryz.func52) rfl rfl rfl lb fun g=>?_
 repeat' ((first|refine Ga ?_|refine Gc fun hlen=>?_|refine Gd (fun hc=>?_) fun hc=>?_)<;>conv=>whnf)
 refine loop_go (α:=Nat) (fun p=>⟨[(0,.d (.trees l)),(1,.fn F []),(7,.d (.int .i64 l.length)),(8,.d (.int .i64 p))],19,[],0,g⟩)
   (fun p=>p≤l.length∧idxF b p (l.drop p)=idxF b 0 l) (fun p=>l.length - p) 0 ⟨by omega,rfl⟩
   (Ent.go []) (fun _=>rfl) fun p hpre=>?_
 obtain⟨hp1,hp2⟩:=hpre
 by_cases hp:p < l.length
 ·have hx:=h _ (getD_mem hp)
  rw[drop_step hp,idxF]at hp2
  cases hb:b (l.getD p .nil) with
  | true =>
   rw[hb]at hx
   rw[if_pos hb]at hp2
   rw[←hp2]
   repeat' ((first|refine Ga ?_|refine Gc fun hlen=>?_|refine Ge hx ?_|refine Gd (fun hc=>?_) fun hc=>?_)<;>conv=>whnf)
   exact Gg
  | false =>
   rw[hb]at hx
   rw[if_neg (by rw[hb];decide)]at hp2
   repeat' ((first|refine Ga ?_|refine Gc fun hlen=>?_|refine Ge hx ?_|refine Gd (fun hc=>?_) fun hc=>?_)<;>conv=>whnf)
   exact⟨p+1,⟨by omega,by rw[←hp2];push_cast;rfl⟩,by omega,Ent.go []⟩
 ·rw[drop_end (by omega),idxF]at hp2
  rw[←hp2]
  repeat' ((first|refine Ga ?_|refine Gc fun hlen=>?_|refine Gd (fun hc=>?_) fun hc=>?_)<;>conv=>whnf)
  exact Gg
theorem contains_ok (l:List Tree)(F:Nat)(b:Tree→Bool)(h:∀x∈l,Pure P F [.d (.tree x)] (.d (.bool (b x)))) :
  Pure P 31 [.d (.trees l),.fn F []] (.d (.bool (l.any b))):=by
 refine Pure.of_body tt [] [4] (Tryz.func31) rfl rfl rfl lb fun g=>?_
 repeat' ((first|refine Ga ?_|refine Gc fun hlen=>?_|refine Ge (index_ok l F b h) ?_|refine Gd (fun hc=>?_) fun hc=>?_)<;>conv=>whnf)
 exact Gf rfl (bool_eq (idxF_any b l 0 (Int.le_refl 0))) rfl
theorem koccurs_ok (T:Tree)(i:Int):Pure P 156 [.d (.tree T),.d (.int .i64 i)] (.d (.bool (occursR T i))):=by
 refine Pure.of_body tt [] [4] Tryz.func156 rfl rfl rfl lb fun g=>?_
 repeat' ((first|refine Ga ?_|refine Gc fun hlen=>?_|refine Ge (occurs_ok T i) ?_|refine Gd (fun hc=>?_) fun hc=>?_)<;>conv=>whnf)
 exact Gg
mutual
def placedF:Tree→Bool
 | .nil=>false
 | .node k n nm mk l=>if k=110 then true else if k=115 then placedsF l else !(decide (0 < countF 0 (.node k n nm mk l) 0))
def placedsF:List Tree→Bool
 | []=>true
 | x::l=>placedAt x && placedsF l
def placedAt:Tree→Bool
 | .nil=>false
 | .node _ _ _ _ l=>match l with
  | []=>false
  | x::_=>placedF x
end
theorem placedAt_eq (T:Tree):placedAt T=placedF (T.kids.getD 0 .nil):=by
 cases T with
 | nil=>rw[placedAt];simp[Tree.kids,placedF]
 | node k n nm mk l =>
  rw[placedAt.eq_def]
  cases l with
  | nil=>simp[Tree.kids,placedF]
  | cons=>simp[Tree.kids]
theorem placedF_eq {T:Tree}(h:T≠.nil):placedF T=if T.kind=110 then true else if T.kind=115 then placedsF T.kids else !(decide (0 < countF 0 T 0)):=by
 cases T with
 | nil=>exact absurd rfl h
 | node=>rw[placedF];rfl
theorem placedsF_any:∀l:List Tree,placedsF l=!(l.any fun x=>!(placedF (x.kids.getD 0 .nil)))
 | []=>rfl
 | x::l=>by rw[placedsF,placedAt_eq,placedsF_any l,List.any_cons];cases placedF (x.kids.getD 0 .nil)<;>simp
theorem field_kid {kind:Int}{x:Tree}(h:fieldF kind x=true):x≠.nil∧x.kids.length=1∧isConF (x.kids.getD 0 .nil)=true:=by
 have hx:x≠.nil:=by intro e;subst e;rw[fieldF]at h;cases h
 rw[fieldF_eq hx]at h
 simp only[Bool.and_eq_true,beq_iff_eq]at h
 exact⟨hx,by omega,h.2⟩
theorem rec_fields {T:Tree}(hT:T≠.nil)(h:isConF T=true)(hk:T.kind=115):∀x∈T.kids,fieldF 116 x=true:=by
 rw[isConF_eq hT,Bool.and_eq_true]at h
 obtain⟨_,h⟩:=h
 simp[hk]at h
 exact fieldsF_mem h.1
theorem sum_fields {T:Tree}(hT:T≠.nil)(h:isConF T=true)(hk:T.kind=121):∀x∈T.kids,fieldF 122 x=true:=by
 rw[isConF_eq hT,Bool.and_eq_true]at h
 obtain⟨_,h⟩:=h
 simp[hk]at h
 exact fieldsF_mem h.1.2
theorem occ_count {T:Tree}(h:conE T=0):occursR T 0=decide (0 < countF 0 T 0):=by
 rw[occursR_eq,roccursR,h];simp
theorem con_zero {x:Tree}(h:isConF x=true)(hz:sizeN x≤65536):conE x=0:=conE_of h hz
theorem placed_ok (T:Tree):isConF T=true→sizeN T≤65536→Pure P 148 [.d (.tree T)] (.d (.bool (placedF T))):=by
 suffices h:(isConF T=true→sizeN T≤65536→Pure P 148 [.d (.tree T)] (.d (.bool (placedF T))))∧∀x∈T.kids,isConF x=true→sizeN x≤65536→Pure P 148 [.d (.tree x)] (.d (.bool (placedF x))) from h.1
 induction T using Tree.ind' with
 | h0=>exact⟨fun h=>(by rw[isConF]at h;cases h),fun x hx=>(by cases hx)⟩
 | h1 T hT ih=>?_
 refine⟨fun hc hz=>?_,fun x hx=>(ih x hx).1⟩
 have hsz:=sizeN_kids hT
 have ho:=koccurs_ok T 0
 rw[occ_count (con_zero hc hz)]at ho
 have hcon:T.kind=115→Pure P 31 [.d (.trees T.kids),.fn 155 []] (.d (.bool (T.kids.any fun x=>!(placedF (x.kids.getD 0 .nil))))):=fun hk=>by
  refine contains_ok T.kids 155 _ fun x hx=>?_
  obtain⟨h1,h2,h3⟩:=field_kid (rec_fields hT hc hk x hx)
  have hs1:=sizesN_mem hx
  have hs2:=sizeN_kids h1
  have hs3:=sizesN_mem (getD_mem (l:=x.kids) (i:=0) (by omega))
  have hp:=(ih x hx).2 (x.kids.getD 0 .nil) (getD_mem (by omega)) h3 (by omega)
  refine Pure.of_body tt [] [2] Tryz.func155 rfl rfl rfl lb fun g=>?_
  repeat' ((first|refine Ga ?_|refine Gc fun hlen=>?_|refine Ge hp ?_|refine Gd (fun hc=>?_) fun hc=>?_)<;>conv=>whnf)
  exact Gg
 refine Pure.of_body tt [] [2] Tryz.func148 rfl rfl rfl lb fun g=>?_
 repeat' ((first|refine Ga ?_|refine Gc fun hlen=>?_|refine Ge ho ?_|refine Ge (hcon (by assumption)) ?_|refine Gd (fun hc=>?_) fun hc=>?_)<;>conv=>whnf)
 all_goals refine Gf rfl (bool_eq ?_) rfl
 ·rw[placedF_eq hT,if_pos (by assumption)]
 ·rw[placedF_eq hT,ifn,if_pos (by assumption),placedsF_any]
 ·rw[placedF_eq hT,ifn,ifn]
def fitE (l:List Tree):Int:=if placedsF l=true then 0 else 15
theorem fits_ok (T:Tree)(hT:T≠.nil)(hc:isConF T=true)(hk:T.kind=121)(hz:sizeN T≤65536):Pure P 126 [.d (.tree T)] (.d (.int .i64 (fitE T.kids))):=by
 have hsz:=sizeN_kids hT
 refine Pure.of_body tt [] [2] Tryz.func126 rfl rfl rfl lb fun g=>?_
 repeat' ((first|refine Ga ?_|refine Gc fun hlen=>?_|refine Gd (fun hc=>?_) fun hc=>?_)<;>conv=>whnf)
 refine loop_go (α:=Nat) (fun p=>⟨[(8,.d (.trees T.kids)),(9,.d (.int .i64 T.kids.length)),(10,.d (.int .i64 p))],23,[],0,g⟩)
   (fun p=>p≤T.kids.length∧placedsF (T.kids.drop p)=placedsF T.kids) (fun p=>T.kids.length - p) 0 ⟨by omega,rfl⟩
   (Ent.go []) (fun _=>rfl) fun p hpre=>?_
 obtain⟨hp1,hp2⟩:=hpre
 unfold fitE
 by_cases hp:p < T.kids.length
 ·have hx:=getD_mem hp
  obtain⟨h1,h2,h3⟩:=field_kid (sum_fields hT hc hk _ hx)
  have hs1:=sizesN_mem hx
  have hs2:=sizeN_kids h1
  have hs3:=sizesN_mem (getD_mem (l:=(T.kids.getD p .nil).kids) (i:=0) (by omega))
  have hq:=placed_ok ((T.kids.getD p .nil).kids.getD 0 .nil) h3 (by omega)
  rw[drop_step hp,placedsF,placedAt_eq]at hp2
  cases hb:placedF ((T.kids.getD p .nil).kids.getD 0 .nil) with
  | true =>
   rw[hb]at hq hp2
   repeat' ((first|refine Ga ?_|refine Gc fun hlen=>?_|refine Side.mk (show (0:Int)≤0∧(0:Int) < ((T.kids.getD p .nil).kids.length:Int) from by omega) ?_|refine Ge hq ?_|refine Gd (fun hc=>?_) fun hc=>?_)<;>conv=>whnf)
   exact⟨p+1,⟨by omega,by rw[←hp2];rfl⟩,by omega,Ent.go []⟩
  | false =>
   rw[hb]at hq hp2
   rw[←hp2]
   repeat' ((first|refine Ga ?_|refine Gc fun hlen=>?_|refine Side.mk (show (0:Int)≤0∧(0:Int) < ((T.kids.getD p .nil).kids.length:Int) from by omega) ?_|refine Ge hq ?_|refine Gd (fun hc=>?_) fun hc=>?_)<;>conv=>whnf)
   exact Gg
 ·rw[drop_end (by omega),placedsF]at hp2
  rw[←hp2]
  repeat' ((first|refine Ga ?_|refine Gc fun hlen=>?_|refine Gd (fun hc=>?_) fun hc=>?_)<;>conv=>whnf)
  exact Gg
end Ki
end Go.Proofs.YtlgajkoplklkiaaGreat
namespace Go.Proofs.YtlgajkoplklkiaaGreat
open Go Go.Mq Go.RowKit Go.Shelf
def Tryz.grow_ren:Go.Shelf.Ren:=⟨fun|4=>128|n=>n,fun|0=>0|3=>3|4=>4|9=>9|20=>20|22=>52|25=>25|n=>n,fun|n=>n⟩
theorem Tryz.grow_lays:Go.Proofs.Lays8.n4 Tryz.prog Tryz.grow_ren:={
 mixed:=by kernel_rfl
 f4:=⟨(Tryz.f128).name,by kernel_rfl,(Tryz.func128).trans (congrArg some (by kernel_rfl))⟩
 t0:=Tryz.underlying0
 a0:=Tryz.isAgg0
 z0:=Tryz.sizeOf0
 v0:=Tryz.zeroValue0
 t3:=Tryz.underlying3
 a3:=Tryz.isAgg3
 z3:=Tryz.sizeOf3
 v3:=Tryz.zeroValue3
 t4:=Tryz.underlying4
 a4:=Tryz.isAgg4
 z4:=Tryz.sizeOf4
 v4:=Tryz.zeroValue4
 t9:=Tryz.underlying9
 a9:=Tryz.isAgg9
 z9:=Tryz.sizeOf9
 v9:=Tryz.zeroValue9
 t20:=Tryz.underlying20
 a20:=Tryz.isAgg20
 z20:=Tryz.sizeOf20
 v20:=Tryz.zeroValue20
 t22:=Tryz.underlying52
 a22:=Tryz.isAgg52
 z22:=Tryz.sizeOf52
 v22:=Tryz.zeroValue52 }
theorem sgrow_ok (n:Nat)(h0:0 < n)(hn:n≤17592186044416) :
  Fun P (128) [.d .nils,.d (.int .i64 n)] [] 0 (.row 0 0) [(0,.row 25 (.trees []))] 1:=by
 refine⟨⟨_,Tryz.func128,rfl,rfl⟩,fun g E I ρ w vs hr ha=>?_⟩
 obtain⟨vs⟩:=vs
 match vs,ha with
 | [v0,v1],ha =>
  obtain⟨h0',h1,_⟩:=ha
  have e0:=h0'.nils
  have e1:=h1.int
  subst e0 e1
  obtain⟨own,ho⟩:=hr
  have hr:Rel E I ρ (· < 0) (sget []) g w:=⟨own,ho⟩
  have key:=Any8.slices_Grow_grow Tryz.grow_lays ((P.info? 25).getD default) (((P.info? 25).getD default).zero.getD undef) (by kernel_rfl) (by kernel_rfl) (Nat.le_of_ble_eq_true (by kernel_rfl)) none 0 0 n [] w (Nat.le_refl _) (by omega)
   (by
    have:((P.info? 25).getD default).bytes=8:=by kernel_rfl
    rw[this];omega) (by omega) (by simp) (fun _=>rfl) (fun a h=>by cases h)
  refine key.mono ?_
  rintro e w' ⟨rfl,rfl⟩
  have hd:=hr.drew
  have hcap:grownCap w (0+n) 0 (Tryz.grow_ren.t 25)≤9223372036854775807:=by
   have:=grownCap_le_maxLen w (0+n) 0 (Tryz.grow_ren.t 25) (by unfold maxLen;omega)
   unfold maxLen at this;omega
  have hge:=grownCap_ge w (0+n) 0 (Tryz.grow_ren.t 25)
  refine⟨I,upd ρ 0 ⟨w.heap.size,grownCap w (0+n) 0 (Tryz.grow_ren.t 25),false⟩,_,Imm.le_refl I,fun id hid=>absurd hid (Nat.not_lt_zero _),rfl,?_,?_⟩
  ·have hz:(((P.info? 25).getD default).zero.getD undef).cells.size=1:=by kernel_rfl
   have ha:=hd.alloc (id:=0) (Nat.not_lt_zero 0) (ob:=.cells (([]:List Value).toArray++Builtin.zeroCells (((P.info? 25).getD default).zero.getD undef).cells (0+n - 0)++Builtin.zeroCells (((P.info? 25).getD default).zero.getD undef).cells (grownCap w (0+n) 0 (Tryz.grow_ren.t 25) - (0+n))) (Tryz.grow_ren.t 25)) (o:=.row 25 (.trees [])) (cap:=grownCap w (0+n) 0 (Tryz.grow_ren.t 25)) (fun r hr=>by
    subst hr
    refine .inr ⟨by rw[upd_same],Nat.zero_le _,⟨Nat.zero_le _,by rw[upd_same];exact hcap⟩,_,by rw[upd_same];exact Go.Mq.heap_alloc_new,?_,fun i hi=>absurd hi (by simp[RowC.len])⟩
    rw[upd_same]
    simp only[RowC.sz,Nat.mul_one,Array.size_append,size_zeroCells,hz,List.size_toArray,List.length_nil]
    omega)
   have hD:dom (· < 0) 0=(· < 1):=by funext i;simp[dom]
   rw[hD]at ha
   have hG:Objs.upd (sget []) 0 (.row 25 (.trees []))=sget [(0,.row 25 (.trees []))]:=by
    funext i
    simp only[Objs.upd,sget]
    by_cases h:i=0
    ·subst h;rfl
    ·rw[if_neg h,beq_ne (Ne.symm h)];rfl
   rw[hG]at ha
   exact ha
  ·have:=CA.row (I:=I) (ρ:=upd ρ 0 ⟨w.heap.size,grownCap w (0+n) 0 (Tryz.grow_ren.t 25),false⟩) (D:=(· < 1)) (id:=0) (n:=0) Nat.zero_lt_one (by rw[upd_same]) (Nat.zero_le _) (Nat.zero_le _)
   rw[upd_same]at this
   exact this
end Go.Proofs.YtlgajkoplklkiaaGreat
namespace Go.Proofs.YtlgajkoplklkiaaGreat
namespace Ki
open Go Go.Mq
def pairD (a b:List Tree):Mq.Data:=.slice 2 1 fun k j=>[Mq.Data.trees a,Mq.Data.trees b].getD (k*1+j) .nils
theorem concat_ok (a b:List Tree)(h0:a≠[])(hl:a.length+b.length≤1099511627776):Pure P (90) [.d (pairD a b)] (.d (.trees (a++b))):=by
 have h0':0 < a.length:=by cases a with|nil=>exact absurd rfl h0|cons=>simp
 refine Pure.of_body tt [] [2] (Tryz.func90) rfl rfl rfl lb fun g=>?_
 repeat' ((first|refine Ga ?_|refine Gc fun hlen=>?_|refine Gd (fun hc=>?_) fun hc=>?_)<;>conv=>whnf)
 refine loop_go (α:=Nat×Int) (fun p=>⟨[(0,.d (pairD a b)),(3,.d (.int .i64 p.2)),(9,.d (pairD a b)),(10,.d (.int .i64 2)),(11,.d (.int .i64 p.1))],36,[],0,g⟩)
   (fun p=>(p.1=0∧p.2=0)∨(p.1=1∧p.2=a.length)∨(p.1=2∧p.2=(a.length:Int)+b.length)) (fun p=>2 - p.1) (0,0) (.inl ⟨rfl,rfl⟩)
   (Ent.go []) (fun _=>rfl) fun p hpre=>?_
 obtain⟨i,s⟩:=p
 simp only[]at hpre
 rcases hpre with⟨rfl,rfl⟩|⟨rfl,rfl⟩|⟨rfl,rfl⟩
 ·have hw:IntKind.i64.wrap (0+(a.length:Int))=a.length:=by rw[wrap64]<;>omega
  repeat' ((first|refine Ga ?_|refine Gc fun hlen=>?_|refine Split.of_false (show decide (IntKind.i64.wrap (0+(a.length:Int)) < 0)=false from by rw[hw];simp) ?_|refine Gd (fun hc=>?_) fun hc=>?_)<;>conv=>whnf)
  exact⟨(1,(a.length:Int)),.inr (.inl ⟨rfl,rfl⟩),by simp only[];omega,Ent.go []⟩
 ·have hw:IntKind.i64.wrap ((a.length:Int)+(b.length:Int))=(a.length:Int)+b.length:=by rw[wrap64]<;>omega
  repeat' ((first|refine Ga ?_|refine Gc fun hlen=>?_|refine Split.of_false (show decide (IntKind.i64.wrap ((a.length:Int)+(b.length:Int)) < 0)=false from by rw[hw];simp;omega) ?_|refine Gd (fun hc=>?_) fun hc=>?_)<;>conv=>whnf)
  exact⟨(2,(a.length:Int)+b.length),.inr (.inr ⟨rfl,rfl⟩),by simp only[];omega,Ent.go []⟩
 have hg:=sgrow_ok (a.length+b.length) (by omega) (by omega)
 have hg:Fun P (128) [.d .nils,.d (.int .i64 ((a.length:Int)+b.length))] [] 0 (.row 0 0) [(0,.row 25 (.trees []))] 1:=by
  have e:((a.length:Int)+b.length)=((a.length+b.length:Nat):Int):=by push_cast;rfl
  rw[e];exact hg
 repeat' ((first|refine Ga ?_|refine Gc fun hlen=>?_|refine CallG.go hg [] ?_|refine Gd (fun hc=>?_) fun hc=>?_)<;>conv=>whnf)
 refine loop_go (α:=Nat×List Tree) (fun p=>⟨[(6,.row 0 p.2.length),(25,.d (pairD a b)),(26,.d (.int .i64 2)),(27,.d (.int .i64 p.1))],36,[(0,.row 25 (.trees p.2))],1,g⟩)
   (fun p=>(p.1=0∧p.2=[])∨(p.1=1∧p.2=a)∨(p.1=2∧p.2=a++b)) (fun p=>2 - p.1) (0,[]) (.inl ⟨rfl,rfl⟩)
   (Ent.go [0]) (fun _=>rfl) fun p hpre=>?_
 obtain⟨i,o⟩:=p
 simp only[]at hpre
 rcases hpre with⟨rfl,rfl⟩|⟨rfl,rfl⟩|⟨rfl,rfl⟩
 ·repeat' ((first|refine Ga ?_|refine Gc fun hlen=>?_|refine Side.mk (show (0+a.length≤maxN∧(0+a.length)*8≤140737488355328) from⟨by unfold maxN;omega,by omega⟩) ?_|refine Gd (fun hc=>?_) fun hc=>?_)<;>conv=>whnf)
  exact⟨(1,a),.inr (.inl ⟨rfl,rfl⟩),by simp only[];omega,Ent.re [1] rfl rfl rfl rfl rfl rfl (by repeat' first|exact trivial|apply And.intro|rfl|(show AVal.row 1 (0+a.length)=AVal.row 1 a.length;rw[Nat.zero_add])) (by repeat' first|exact trivial|apply And.intro|rfl|(refine int_eq ?_;rw[wrap64]<;>omega))⟩
 ·repeat' ((first|refine Ga ?_|refine Gc fun hlen=>?_|refine Side.mk (show (o.length+b.length≤maxN∧(o.length+b.length)*8≤140737488355328) from⟨by unfold maxN;omega,by omega⟩) ?_|refine Gd (fun hc=>?_) fun hc=>?_)<;>conv=>whnf)
  exact⟨(2,o++b),.inr (.inr ⟨rfl,rfl⟩),by simp only[];omega,Ent.re [1] rfl rfl rfl rfl rfl rfl (by repeat' first|exact trivial|apply And.intro|rfl|(show AVal.row 1 (o.length+b.length)=AVal.row 1 (o++b).length;rw[List.length_append])) (by repeat' first|exact trivial|apply And.intro|rfl|(refine int_eq ?_;rw[wrap64]<;>omega))⟩
 ·repeat' ((first|refine Ga ?_|refine Gc fun hlen=>?_|refine Gd (fun hc=>?_) fun hc=>?_)<;>conv=>whnf)
  refine RetS.ent (σ':=⟨[(2,.row 0 (a++b).length)],36,[(0,.row 25 (.trees (a++b)))],1,g⟩) (Ent.go [0]) ?_
  refine RetS.ent (Ent.fz_row 0 (l:=a++b) rfl (by repeat' first|exact trivial|apply And.intro|rfl|exact hp2.symm|exact Nat.zero_lt_one|omega) (by repeat' first|exact trivial|apply And.intro|rfl|exact hp2.symm|exact Nat.zero_lt_one|omega)) ?_
  exact Gg
theorem under_ok (k:Tree)(ctx:List Tree)(hl:ctx.length≤549755813888):Pure P 123 [.d (.tree k),.d (.trees ctx)] (.d (.trees (k::ctx))):=by
 have hc:=concat_ok [k] ctx (by simp) (by simp;omega)
 refine Pure.of_body tt [6,8] [4] Tryz.func123 rfl rfl rfl lb fun g=>?_
 repeat' ((first|refine Ga ?_|refine Gc fun hlen=>?_|refine Ge hc ?_|refine Gd (fun hc=>?_) fun hc=>?_)<;>conv=>whnf)
 exact Gg
def starT:Tree:=.node 100 0 ByteArray.empty ByteArray.empty []
theorem star_ok:Pure P 125 [] (.d (.tree starT)):=by
 refine Pure.of_body tt [2] [0] Tryz.func125 rfl rfl rfl lb fun g=>?_
 repeat' ((first|refine Ga ?_|refine Gc fun hlen=>?_|refine Gd (fun hc=>?_) fun hc=>?_)<;>conv=>whnf)
 exact Gg
def innerF (l:List Tree):List Tree:=l.map fun x=>x.kids.getD 0 .nil
theorem inner_ok (T:Tree)(hT:T≠.nil)(h:∀x∈T.kids,x≠.nil∧x.kids.length=1):Pure P 122 [.d (.tree T)] (.d (.trees (innerF T.kids))):=by
 refine Pure.of_body tt [] [2] Tryz.func122 rfl rfl rfl lb fun g=>?_
 repeat' ((first|refine Ga ?_|refine Gc fun hlen=>?_|refine Gd (fun hc=>?_) fun hc=>?_)<;>conv=>whnf)
 refine loop_go (α:=Nat) (fun p=>⟨[(3,.row 0 p),(9,.d (.trees T.kids)),(10,.d (.int .i64 T.kids.length)),(11,.d (.int .i64 p))],26,[(0,.row 25 (.trees (innerF (T.kids.take p))))],1,g⟩)
   (fun p=>p≤T.kids.length) (fun p=>T.kids.length - p) 0 (by omega)
   (Ent.nil rfl rfl rfl (by repeat' first|exact trivial|apply And.intro|rfl|(refine int_eq ?_;rw[wrap64]<;>omega)) (by repeat' first|exact trivial|apply And.intro|rfl|(refine int_eq ?_;rw[wrap64]<;>omega))) (fun _=>rfl) fun p hp1=>?_
 have hp2:(innerF (T.kids.take p)).length=p:=by unfold innerF;simp;omega
 by_cases hp:p < T.kids.length
 ·obtain⟨h1,h2⟩:=h _ (getD_mem hp)
  have hts:innerF (T.kids.take (p+1))=innerF (T.kids.take p)++[(T.kids.getD p .nil).kids.getD 0 .nil]:=by
   unfold innerF;rw[←take_step hp];simp
  repeat' ((first|refine Ga ?_|refine Gc fun hlen=>?_|refine Side.mk (show (0:Int)≤0∧(0:Int) < ((T.kids.getD p .nil).kids.length:Int) from by omega) ?_|refine Gh ((p+1≤17592186044416∧(p+1)*8≤140737488355328)) ?_|refine Gd (fun hc=>?_) fun hc=>?_)<;>conv=>whnf)
  exact⟨p+1,by omega,by omega,Ent.re [2] rfl rfl rfl rfl rfl rfl (by repeat' first|exact trivial|apply And.intro|rfl|(refine int_eq ?_;rw[wrap64]<;>omega)) (by repeat' first|exact trivial|apply And.intro|rfl|(rw[hts];rfl))⟩
 ·have e:T.kids.take p=T.kids:=List.take_of_length_le (by omega)
  rw[e]
  rw[e]at hp2
  repeat' ((first|refine Ga ?_|refine Gc fun hlen=>?_|refine Gd (fun hc=>?_) fun hc=>?_)<;>conv=>whnf)
  refine RetS.ent (Ent.fz_row 0 (l:=innerF T.kids) rfl (by repeat' first|exact trivial|apply And.intro|rfl|exact hp2.symm|exact Nat.zero_lt_one|omega) (by repeat' first|exact trivial|apply And.intro|rfl|exact hp2.symm|exact Nat.zero_lt_one|omega)) ?_
  exact Gg
def karrT (a b:Tree):Tree:=.node 101 0 ByteArray.empty ByteArray.empty [a,b]
def mustE (r:Tree×Int):Int:=if r.2≠0 then r.2 else if r.1.kind≠100 then 10 else 0
def starR (e:Int):Tree×Int:=if e=0 then (starT,0) else (.nil,e)
def appR (f k:Tree×Int):Tree×Int:=if f.2≠0 then (.nil,f.2) else if k.2≠0 then (.nil,k.2) else if f.1.kind≠101∨sameF (f.1.kids.getD 0 .nil) k.1=false then (.nil,10) else (f.1.kids.getD 1 .nil,0)
mutual
def kindF (ctx:List Tree)(t:Tree):Tree×Int:=match t with
 | .nil=>(.nil,0)
 | .node k n nm mk l =>
  if k=110 then (if (ctx.length:Int)≤n then (.nil,8) else (ctx.getD n.toNat .nil,0))
  else if k=114 then starR (starsE ctx l)
  else if k=115 then starR (starsIn ctx l)
  else if k=117∨k=118 then starR (mustE (kindAt (l.getD 0 .nil::ctx) 1 l))
  else if k=119 then (if (kindAt (l.getD 0 .nil::ctx) 1 l).2≠0 then (.nil,(kindAt (l.getD 0 .nil::ctx) 1 l).2) else (karrT (l.getD 0 .nil) (kindAt (l.getD 0 .nil::ctx) 1 l).1,0))
  else if k=120 then appR (kindAt ctx 0 l) (kindAt ctx 1 l)
  else if k=121 then (if starsIn (starT::ctx) l≠0 then (.nil,starsIn (starT::ctx) l) else if fitE l≠0 then (.nil,fitE l) else (starT,0))
  else (starT,0)
termination_by structural t
def kindAt (ctx:List Tree)(i:Nat)(t:List Tree):Tree×Int:=match t with
 | []=>(.nil,0)
 | x::l=>match i with
  | 0=>kindF ctx x
  | i+1=>kindAt ctx i l
termination_by structural t
def starsE (ctx:List Tree)(t:List Tree):Int:=match t with
 | []=>0
 | x::l=>if mustE (kindF ctx x)≠0 then mustE (kindF ctx x) else starsE ctx l
termination_by structural t
def starsIn (ctx:List Tree)(t:List Tree):Int:=match t with
 | []=>0
 | x::l=>if starIn ctx x≠0 then starIn ctx x else starsIn ctx l
termination_by structural t
def starIn (ctx:List Tree)(t:Tree):Int:=match t with
 | .nil=>0
 | .node _ _ _ _ l=>mustE (kindAt ctx 0 l)
termination_by structural t
end
theorem kindAt_eq (ctx:List Tree):∀(l:List Tree) (i:Nat),kindAt ctx i l=kindF ctx (l.getD i .nil)
 | [],i=>by rw[kindAt];simp[kindF]
 | x::l,0=>by rw[kindAt];rfl
 | x::l,i+1=>by rw[kindAt];exact kindAt_eq ctx l i
theorem starIn_eq (ctx:List Tree){T:Tree}(h:T≠.nil):starIn ctx T=mustE (kindF ctx (T.kids.getD 0 .nil)):=by
 cases T with
 | nil=>exact absurd rfl h
 | node=>rw[starIn,kindAt_eq];rfl
theorem starsIn_eq (ctx:List Tree):∀l:List Tree,(∀x∈l,x≠.nil)→starsIn ctx l=starsE ctx (innerF l)
 | [],_=>by simp[starsIn,innerF,starsE]
 | x::l,h=>by
  have:=starsIn_eq ctx l fun y hy=>h y (by simp[hy])
  unfold innerF at *
  rw[starsIn,List.map_cons,starsE,starIn_eq ctx (h x (by simp)),this]
theorem kindF_eq (ctx:List Tree){T:Tree}(h:T≠.nil):kindF ctx T =
  if T.kind=110 then (if (ctx.length:Int)≤T.n then (.nil,8) else (ctx.getD T.n.toNat .nil,0))
  else if T.kind=114 then starR (starsE ctx T.kids)
  else if T.kind=115 then starR (starsIn ctx T.kids)
  else if T.kind=117∨T.kind=118 then starR (mustE (kindF (T.kids.getD 0 .nil::ctx) (T.kids.getD 1 .nil)))
  else if T.kind=119 then (if (kindF (T.kids.getD 0 .nil::ctx) (T.kids.getD 1 .nil)).2≠0 then (.nil,(kindF (T.kids.getD 0 .nil::ctx) (T.kids.getD 1 .nil)).2) else (karrT (T.kids.getD 0 .nil) (kindF (T.kids.getD 0 .nil::ctx) (T.kids.getD 1 .nil)).1,0))
  else if T.kind=120 then appR (kindF ctx (T.kids.getD 0 .nil)) (kindF ctx (T.kids.getD 1 .nil))
  else if T.kind=121 then (if starsIn (starT::ctx) T.kids≠0 then (.nil,starsIn (starT::ctx) T.kids) else if fitE T.kids≠0 then (.nil,fitE T.kids) else (starT,0))
  else (starT,0):=by
 cases T with
 | nil=>exact absurd rfl h
 | node k n nm mk l=>rw[kindF];simp only[kindAt_eq];rfl
def ctxOK (ctx:List Tree):Prop:=∀k∈ctx,isKindF k=true
theorem kind_ne {k:Tree}(h:isKindF k=true):k≠.nil:=by intro e;subst e;rw[isKindF]at h;cases h
theorem star_kind:isKindF starT=true:=by kernel_rfl
theorem karr_kind {a b:Tree}(ha:isKindF a=true)(hb:isKindF b=true):isKindF (karrT a b)=true:=by
 unfold karrT
 rw[isKindF_eq (by simp)]
 simp[Tree.kind,Tree.kids,bareF,Tree.mark,Tree.name,Tree.n,ha,hb]
theorem karr_two {k:Tree}(h:isKindF k=true)(hk:k.kind=101):k.kids.length=2∧isKindF (k.kids.getD 0 .nil)=true∧isKindF (k.kids.getD 1 .nil)=true:=by
 rw[isKindF_eq (kind_ne h),ifn,if_pos hk]at h
 simp only[Bool.and_eq_true,beq_iff_eq]at h
 exact⟨by omega,h.1.2,h.2⟩
theorem ctxOK_cons {k:Tree}{ctx:List Tree}(h:isKindF k=true)(hc:ctxOK ctx):ctxOK (k::ctx):=by
 intro x hx
 rcases List.mem_cons.1 hx with rfl|hx
 ·exact h
 ·exact hc x hx
theorem ctxOK_get {ctx:List Tree}(hc:ctxOK ctx){i:Nat}(hi:i < ctx.length):isKindF (ctx.getD i .nil)=true:=hc _ (getD_mem hi)
theorem starR_kind {e:Int}(h:(starR e).2=0):isKindF (starR e).1=true:=by
 unfold starR at *
 split
 ·exact star_kind
 ·rename_i he;rw[if_neg he]at h;exact absurd h he
theorem con_two {T:Tree}(hT:T≠.nil)(h:isConF T=true)(hk:T.kind=114∨T.kind=120):T.kids.length=2∧isConF (T.kids.getD 0 .nil)=true∧isConF (T.kids.getD 1 .nil)=true:=by
 rw[isConF_eq hT,Bool.and_eq_true]at h
 obtain⟨_,h⟩:=h
 rw[ifn,ifn,if_pos hk]at h
 simp only[Bool.and_eq_true,beq_iff_eq]at h
 exact⟨by omega,h.1.2,h.2⟩
theorem con_bind {T:Tree}(hT:T≠.nil)(h:isConF T=true)(hk:T.kind=117∨T.kind=118∨T.kind=119):T.kids.length=2∧isKindF (T.kids.getD 0 .nil)=true∧isConF (T.kids.getD 1 .nil)=true:=by
 rw[isConF_eq hT,Bool.and_eq_true]at h
 obtain⟨_,h⟩:=h
 rw[ifn,ifn,ifn,ifn,if_pos hk]at h
 simp only[Bool.and_eq_true,beq_iff_eq]at h
 exact⟨by omega,h.1.2,h.2⟩
theorem con_var {T:Tree}(hT:T≠.nil)(h:isConF T=true)(hk:T.kind=110):0≤T.n∧T.n≤65536:=by
 rw[isConF_eq hT,Bool.and_eq_true]at h
 obtain⟨_,h⟩:=h
 rw[if_pos hk]at h
 simp only[Bool.and_eq_true,decide_eq_true_eq]at h
 exact h.1
theorem con_kids {T:Tree}(hT:T≠.nil)(h:isConF T=true):T.kind=110∨T.kind=111∨T.kind=112∨T.kind=113∨T.kind=114∨T.kind=115∨T.kind=117∨T.kind=118∨T.kind=119∨T.kind=120∨T.kind=121:=by
 rw[isConF_eq hT,Bool.and_eq_true]at h
 obtain⟨_,h⟩:=h
 apply Decidable.byContradiction
 intro hn
 rw[ifn,ifn,ifn,ifn,ifn,ifn]at h
 cases h
theorem kindF_kind (T:Tree):isConF T=true→∀ctx,ctxOK ctx→(kindF ctx T).2=0→isKindF (kindF ctx T).1=true:=by
 induction T using Tree.ind' with
 | h0=>intro h;rw[isConF]at h;cases h
 | h1 T hT ih =>
  intro hc ctx hx
  rw[kindF_eq ctx hT]
  split
  ·rename_i hk
   have hv:=con_var hT hc hk
   split
   ·intro h;cases h
   ·intro _;exact ctxOK_get hx (by omega)
  split
  ·exact starR_kind
  split
  ·exact starR_kind
  split
  ·exact starR_kind
  split
  ·rename_i hk
   obtain⟨h1,h2,h3⟩:=con_bind hT hc (.inr (.inr hk))
   split
   ·intro h;exact absurd h ‹_›
   ·rename_i he
    intro _
    exact karr_kind h2 (ih _ (getD_mem (by omega)) h3 _ (ctxOK_cons h2 hx) (by simpa using he))
  split
  ·rename_i hk
   obtain⟨h1,h2,h3⟩:=con_two hT hc (.inr hk)
   unfold appR
   split
   ·intro h;exact absurd h ‹_›
   ·rename_i he
    split
    ·intro h;exact absurd h ‹_›
    ·split
     ·intro h;cases h
     ·rename_i hs
      intro _
      have hf:=ih _ (getD_mem (i:=0) (by omega)) h2 ctx hx (by simpa using he)
      exact (karr_two hf (by apply Decidable.byContradiction;intro h;exact hs (.inl h))).2.2
  split
  ·split
   ·intro h;exact absurd h ‹_›
   ·split
    ·intro h;exact absurd h ‹_›
    ·intro _;exact star_kind
  ·intro _;exact star_kind
theorem mustE_ok {R:Tree×Int}(h:R.2=0)(hk:R.1.kind=100):mustE R=0:=by
 unfold mustE;rw[ifn,ifn]
theorem mustE_kind {R:Tree×Int}(h:R.2=0)(hk:R.1.kind≠100):mustE R=10:=by
 unfold mustE;rw[ifn,if_pos hk]
theorem mustE_err {R:Tree×Int}(h:R.2≠0):mustE R=R.2:=by
 unfold mustE;rw[if_pos h]
def KindP (x:Tree):Prop:=isConF x=true→∀ctx:List Tree,ctxOK ctx→ctx.length+sizeN x≤274877906944→Pure P 88 [.d (.trees ctx),.d (.tree x)] (.tuple [.d (.tree (kindF ctx x).1),.d (.int .i64 (kindF ctx x).2)])
theorem stars_ok (ctx l:List Tree)(hx:ctxOK ctx)(h:∀x∈l,KindP x∧isConF x=true∧ctx.length+sizeN x≤274877906944) :
  Pure P 121 [.d (.trees ctx),.d (.trees l)] (.tuple [.d (.tree (starR (starsE ctx l)).1),.d (.int .i64 (starR (starsE ctx l)).2)]):=by
 refine Pure.of_body tt [] [4,5] Tryz.func121 rfl rfl rfl lb fun g=>?_
 repeat' ((first|refine Ga ?_|refine Gc fun hlen=>?_|refine Gd (fun hc=>?_) fun hc=>?_)<;>conv=>whnf)
 refine loop_go (α:=Nat) (fun p=>⟨[(0,.d (.trees ctx)),(10,.d (.trees l)),(11,.d (.int .i64 l.length)),(12,.d (.int .i64 p))],32,[],0,g⟩)
   (fun p=>p≤l.length∧starsE ctx (l.drop p)=starsE ctx l) (fun p=>l.length - p) 0 ⟨by omega,rfl⟩
   (Ent.go []) (fun _=>rfl) fun p hpre=>?_
 obtain⟨hp1,hp2⟩:=hpre
 by_cases hp:p < l.length
 ·obtain⟨h1,h2,h3⟩:=h _ (getD_mem hp)
  have hk:=h1 h2 ctx hx h3
  have hne:=kindF_kind _ h2 ctx hx
  rw[drop_step hp,starsE]at hp2
  generalize kindF ctx (l.getD p .nil)=R at *
  by_cases he:R.2=0
  ·have hne:=kind_ne (hne he)
   rw[he]at hk
   by_cases hs:R.1.kind=100
   ·rw[mustE_ok he hs,if_neg (by decide)]at hp2
    repeat' ((first|refine Ga ?_|refine Gc fun hlen=>?_|refine Ge hk ?_|refine Gd (fun hc=>?_) fun hc=>?_)<;>conv=>whnf)
    exact⟨p+1,⟨by omega,hp2⟩,by omega,Ent.go []⟩
   ·rw[mustE_kind he hs,if_pos (by decide)]at hp2
    rw[←hp2]
    repeat' ((first|refine Ga ?_|refine Gc fun hlen=>?_|refine Ge hk ?_|refine Gd (fun hc=>?_) fun hc=>?_)<;>conv=>whnf)
    exact Gg
  ·rw[mustE_err he,if_pos he]at hp2
   rw[←hp2]
   have e:starR R.2=(.nil,R.2):=by unfold starR;rw[if_neg he]
   rw[e]
   repeat' ((first|refine Ga ?_|refine Gc fun hlen=>?_|refine Ge hk ?_|refine Gd (fun hc=>?_) fun hc=>?_)<;>conv=>whnf)
   exact Gg
 ·rw[drop_end (by omega),starsE]at hp2
  rw[←hp2]
  repeat' ((first|refine Ga ?_|refine Gc fun hlen=>?_|refine Ge star_ok ?_|refine Gd (fun hc=>?_) fun hc=>?_)<;>conv=>whnf)
  exact Gg
theorem apply_ok (ctx:List Tree)(T:Tree)(hT:T≠.nil)(hx:ctxOK ctx)(hc:isConF T=true)(hk:T.kind=120)(hl:ctx.length+sizeN T≤274877906944)(h:∀x∈T.kids,KindP x) :
  Pure P 124 [.d (.trees ctx),.d (.tree T)] (.tuple [.d (.tree (appR (kindF ctx (T.kids.getD 0 .nil)) (kindF ctx (T.kids.getD 1 .nil))).1),.d (.int .i64 (appR (kindF ctx (T.kids.getD 0 .nil)) (kindF ctx (T.kids.getD 1 .nil))).2)]):=by
 obtain⟨h1,h2,h3⟩:=con_two hT hc (.inr hk)
 have hsz:=sizeN_kids hT
 have s0:=sizesN_mem (getD_mem (l:=T.kids) (i:=0) (by omega))
 have s1:=sizesN_mem (getD_mem (l:=T.kids) (i:=1) (by omega))
 have k0:=h _ (getD_mem (i:=0) (by omega)) h2 ctx hx (by omega)
 have k1:=h _ (getD_mem (i:=1) (by omega)) h3 ctx hx (by omega)
 have n0:=kindF_kind _ h2 ctx hx
 have n1:=kindF_kind _ h3 ctx hx
 refine Pure.of_body tt [] [4,5] Tryz.func124 rfl rfl rfl lb fun g=>?_
 generalize kindF ctx (T.kids.getD 0 .nil)=F at *
 generalize kindF ctx (T.kids.getD 1 .nil)=K at *
 unfold appR
 by_cases hF:F.2=0
 ·rw[ifn]
  have n0:=n0 hF
  have n0n:=kind_ne n0
  rw[hF]at k0
  by_cases hK:K.2=0
  ·rw[ifn]
   rw[hK]at k1
   by_cases ha:F.1.kind=101
   ·obtain⟨a1,a2,a3⟩:=karr_two n0 ha
    have hs:=same_ok (F.1.kids.getD 0 .nil) K.1
    cases hq:sameF (F.1.kids.getD 0 .nil) K.1 with
    | true =>
     rw[hq]at hs
     rw[if_neg (by rintro (h|h);exact h ha;cases h)]
     repeat' ((first|refine Ga ?_|refine Gc fun hlen=>?_|refine Ge k0 ?_|refine Ge k1 ?_|refine Ge hs ?_|refine Gd (fun hc=>?_) fun hc=>?_)<;>conv=>whnf)
     exact Gg
    | false =>
     rw[hq]at hs
     rw[if_pos (.inr rfl)]
     repeat' ((first|refine Ga ?_|refine Gc fun hlen=>?_|refine Ge k0 ?_|refine Ge k1 ?_|refine Ge hs ?_|refine Gd (fun hc=>?_) fun hc=>?_)<;>conv=>whnf)
     exact Gg
   ·rw[if_pos (.inl ha)]
    repeat' ((first|refine Ga ?_|refine Gc fun hlen=>?_|refine Ge k0 ?_|refine Ge k1 ?_|refine Gd (fun hc=>?_) fun hc=>?_)<;>conv=>whnf)
    exact Gg
  ·rw[if_pos hK]
   repeat' ((first|refine Ga ?_|refine Gc fun hlen=>?_|refine Ge k0 ?_|refine Ge k1 ?_|refine Gd (fun hc=>?_) fun hc=>?_)<;>conv=>whnf)
   exact Gg
 ·rw[if_pos hF]
  repeat' ((first|refine Ga ?_|refine Gc fun hlen=>?_|refine Ge k0 ?_|refine Gd (fun hc=>?_) fun hc=>?_)<;>conv=>whnf)
  exact Gg
end Ki
end Go.Proofs.YtlgajkoplklkiaaGreat
namespace Go.Proofs.YtlgajkoplklkiaaGreat
namespace Ki
open Go Go.Mq
theorem starsE_one (ctx:List Tree)(x:Tree):starsE ctx [x]=mustE (kindF ctx x):=by
 rw[starsE,starsE]
 split
 ·rfl
 ·rename_i h;apply Eq.symm;simpa using h
theorem inner_con {kind:Int}{l:List Tree}(h:∀x∈l,fieldF kind x=true):∀y∈innerF l,∃x∈l,y=x.kids.getD 0 .nil∧y∈x.kids∧isConF y=true∧sizeN y≤sizesN l:=by
 intro y hy
 unfold innerF at hy
 obtain⟨x,hx,rfl⟩:=List.mem_map.1 hy
 obtain⟨h1,h2,h3⟩:=field_kid (h x hx)
 have hm:=getD_mem (l:=x.kids) (i:=0) (by omega)
 have s1:=sizesN_mem hx
 have s2:=sizeN_kids h1
 have s3:=sizesN_mem hm
 exact⟨x,hx,rfl,hm,h3,by omega⟩
theorem kind_ok (T:Tree):sizeN T≤65536→KindP T:=by
 suffices h:(sizeN T≤65536→KindP T)∧∀x∈T.kids,sizeN x≤65536→KindP x from h.1
 induction T using Tree.ind' with
 | h0=>exact⟨fun _ h=>(by rw[isConF]at h;cases h),fun x hx=>(by cases hx)⟩
 | h1 T hT ih=>?_
 refine⟨fun hzz hcon ctx hx hl=>?_,fun x hx=>(ih x hx).1⟩
 have hsz:=sizeN_kids hT
 have kids:∀i,i < T.kids.length→KindP (T.kids.getD i .nil):=fun i hi=>(ih _ (getD_mem hi)).1 (by have:=sizesN_mem (getD_mem hi);omega)
 have e:=kindF_eq ctx hT
 refine Pure.of_body tt [100,102,66] [4,5] Tryz.func88 rfl rfl rfl lb fun g=>?_
 rcases con_kids hT hcon with hk|hk|hk|hk|hk|hk|hk|hk|hk|hk|hk
 ·have hv:=con_var hT hcon hk
  rw[if_pos hk]at e
  by_cases hn:(ctx.length:Int)≤T.n
  ·rw[if_pos hn]at e
   rw[e]
   repeat' ((first|refine Ga ?_|refine Gc fun hlen=>?_|refine Gd (fun hc=>?_) fun hc=>?_)<;>conv=>whnf)
   exact Gg
  ·rw[if_neg hn]at e
   rw[e]
   repeat' ((first|refine Ga ?_|refine Gc fun hlen=>?_|refine Gd (fun hc=>?_) fun hc=>?_)<;>conv=>whnf)
   exact Gg
 ·rw[ifn,ifn,ifn,ifn,ifn,ifn,ifn]at e
  rw[e]
  repeat' ((first|refine Ga ?_|refine Gc fun hlen=>?_|refine Ge star_ok ?_|refine Gd (fun hc=>?_) fun hc=>?_)<;>conv=>whnf)
  exact Gg
 ·rw[ifn,ifn,ifn,ifn,ifn,ifn,ifn]at e
  rw[e]
  repeat' ((first|refine Ga ?_|refine Gc fun hlen=>?_|refine Ge star_ok ?_|refine Gd (fun hc=>?_) fun hc=>?_)<;>conv=>whnf)
  exact Gg
 ·rw[ifn,ifn,ifn,ifn,ifn,ifn,ifn]at e
  rw[e]
  repeat' ((first|refine Ga ?_|refine Gc fun hlen=>?_|refine Ge star_ok ?_|refine Gd (fun hc=>?_) fun hc=>?_)<;>conv=>whnf)
  exact Gg
 ·rw[ifn,if_pos hk]at e
  obtain⟨h1,h2,h3⟩:=con_two hT hcon (.inl hk)
  have hs:=stars_ok ctx T.kids hx (fun x hx=>by
   have:=sizesN_mem hx
   rcases mem_two h1 hx with q|q
   ·exact⟨by rw[q];exact kids 0 (by omega),by rw[q];exact h2,by omega⟩
   ·exact⟨by rw[q];exact kids 1 (by omega),by rw[q];exact h3,by omega⟩)
  rw[e]
  repeat' ((first|refine Ga ?_|refine Gc fun hlen=>?_|refine Ge hs ?_|refine Gd (fun hc=>?_) fun hc=>?_)<;>conv=>whnf)
  exact Gg
 ·rw[ifn,ifn,if_pos hk]at e
  have hf:=rec_fields hT hcon hk
  have hin:=inner_ok T hT (fun x hx=>by obtain⟨q1,q2,_⟩:=field_kid (hf x hx);exact⟨q1,q2⟩)
  rw[starsIn_eq ctx T.kids (fun x hx=>(field_kid (hf x hx)).1)]at e
  have hs:=stars_ok ctx (innerF T.kids) hx (fun y hy=>by
   obtain⟨x,q1,q2,q3,q4,q5⟩:=inner_con hf y hy
   exact⟨(ih x q1).2 y q3 (by omega),q4,by omega⟩)
  rw[e]
  repeat' ((first|refine Ga ?_|refine Gc fun hlen=>?_|refine Ge hin ?_|refine Ge hs ?_|refine Gd (fun hc=>?_) fun hc=>?_)<;>conv=>whnf)
  exact Gg
 ·rw[ifn,ifn,ifn,if_pos (.inl hk)]at e
  obtain⟨h1,h2,h3⟩:=con_bind hT hcon (.inl hk)
  have s1:=sizesN_mem (getD_mem (l:=T.kids) (i:=1) (by omega))
  have hu:=under_ok (T.kids.getD 0 .nil) ctx (by omega)
  have hs:=stars_ok (T.kids.getD 0 .nil::ctx) [T.kids.getD 1 .nil] (ctxOK_cons h2 hx) (fun y hy=>by
   rw[List.mem_singleton]at hy
   subst hy
   exact⟨kids 1 (by omega),h3,by simp only[List.length_cons];omega⟩)
  rw[starsE_one]at hs
  rw[e]
  repeat' ((first|refine Ga ?_|refine Gc fun hlen=>?_|refine Ge hu ?_|refine Ge hs ?_|refine Gd (fun hc=>?_) fun hc=>?_)<;>conv=>whnf)
  exact Gg
 ·rw[ifn,ifn,ifn,if_pos (.inr hk)]at e
  obtain⟨h1,h2,h3⟩:=con_bind hT hcon (.inr (.inl hk))
  have s1:=sizesN_mem (getD_mem (l:=T.kids) (i:=1) (by omega))
  have hu:=under_ok (T.kids.getD 0 .nil) ctx (by omega)
  have hs:=stars_ok (T.kids.getD 0 .nil::ctx) [T.kids.getD 1 .nil] (ctxOK_cons h2 hx) (fun y hy=>by
   rw[List.mem_singleton]at hy
   subst hy
   exact⟨kids 1 (by omega),h3,by simp only[List.length_cons];omega⟩)
  rw[starsE_one]at hs
  rw[e]
  repeat' ((first|refine Ga ?_|refine Gc fun hlen=>?_|refine Ge hu ?_|refine Ge hs ?_|refine Gd (fun hc=>?_) fun hc=>?_)<;>conv=>whnf)
  exact Gg
 ·rw[ifn,ifn,ifn,ifn,if_pos hk]at e
  obtain⟨h1,h2,h3⟩:=con_bind hT hcon (.inr (.inr hk))
  have s1:=sizesN_mem (getD_mem (l:=T.kids) (i:=1) (by omega))
  have hu:=under_ok (T.kids.getD 0 .nil) ctx (by omega)
  have hb:=kids 1 (by omega) h3 (T.kids.getD 0 .nil::ctx) (ctxOK_cons h2 hx) (by simp only[List.length_cons];omega)
  generalize kindF (T.kids.getD 0 .nil::ctx) (T.kids.getD 1 .nil)=R at *
  by_cases hR:R.2=0
  ·rw[ifn]at e
   rw[e]
   repeat' ((first|refine Ga ?_|refine Gc fun hlen=>?_|refine Ge hu ?_|refine Ge hb ?_|refine Gd (fun hc=>?_) fun hc=>?_)<;>conv=>whnf)
   exact Gg
  ·rw[if_pos hR]at e
   rw[e]
   repeat' ((first|refine Ga ?_|refine Gc fun hlen=>?_|refine Ge hu ?_|refine Ge hb ?_|refine Gd (fun hc=>?_) fun hc=>?_)<;>conv=>whnf)
   exact Gg
 ·rw[ifn,ifn,ifn,ifn,ifn,if_pos hk]at e
  obtain⟨h1,h2,h3⟩:=con_two hT hcon (.inr hk)
  have ha:=apply_ok ctx T hT hx hcon hk hl (fun x hx=>by
   rcases mem_two h1 hx with q|q
   ·rw[q];exact kids 0 (by omega)
   ·rw[q];exact kids 1 (by omega))
  rw[e]
  repeat' ((first|refine Ga ?_|refine Gc fun hlen=>?_|refine Ge ha ?_|refine Gd (fun hc=>?_) fun hc=>?_)<;>conv=>whnf)
  exact Gg
 ·rw[ifn,ifn,ifn,ifn,ifn,ifn,if_pos hk]at e
  have hf:=sum_fields hT hcon hk
  have hin:=inner_ok T hT (fun x hx=>by obtain⟨q1,q2,_⟩:=field_kid (hf x hx);exact⟨q1,q2⟩)
  rw[starsIn_eq (starT::ctx) T.kids (fun x hx=>(field_kid (hf x hx)).1)]at e
  have hu:=under_ok starT ctx (by omega)
  have hs:=stars_ok (starT::ctx) (innerF T.kids) (ctxOK_cons star_kind hx) (fun y hy=>by
   obtain⟨x,q1,q2,q3,q4,q5⟩:=inner_con hf y hy
   exact⟨(ih x q1).2 y q3 (by omega),q4,by simp only[List.length_cons];omega⟩)
  have hft:=fits_ok T hT hcon hk hzz
  generalize starsE (starT::ctx) (innerF T.kids)=S at *
  generalize fitE T.kids=W at *
  by_cases hS:S=0
  ·subst hS
   rw[if_neg (by decide)]at e
   by_cases hW:W=0
   ·rw[ifn]at e
    rw[e]
    repeat' ((first|refine Ga ?_|refine Gc fun hlen=>?_|refine Ge star_ok ?_|refine Ge hu ?_|refine Ge hin ?_|refine Ge hs ?_|refine Ge hft ?_|refine Gd (fun hc=>?_) fun hc=>?_)<;>conv=>whnf)
    exact Gg
   ·rw[if_pos hW]at e
    rw[e]
    repeat' ((first|refine Ga ?_|refine Gc fun hlen=>?_|refine Ge star_ok ?_|refine Ge hu ?_|refine Ge hin ?_|refine Ge hs ?_|refine Ge hft ?_|refine Gd (fun hc=>?_) fun hc=>?_)<;>conv=>whnf)
    exact Gg
  ·rw[if_pos hS]at e
   have eS:starR S=(.nil,S):=by unfold starR;rw[if_neg hS]
   rw[eS]at hs
   rw[e]
   repeat' ((first|refine Ga ?_|refine Gc fun hlen=>?_|refine Ge star_ok ?_|refine Ge hu ?_|refine Ge hin ?_|refine Ge hs ?_|refine Gd (fun hc=>?_) fun hc=>?_)<;>conv=>whnf)
   exact Gg
def ctxE (bad:Int):List Tree→Int
 | []=>bad
 | k::l=>if kindE k=0 then ctxE bad l else if kindE k=1 then 1 else ctxE 2 l
def kindR (ctx:List Tree)(T:Tree):Tree×Int :=
 if ctxE 0 ctx=1 then (.nil,1) else if conE T≠0 then (.nil,conE T) else if ctxE 0 ctx≠0 then (.nil,ctxE 0 ctx) else kindF ctx T
theorem ctxE_two:∀(l:List Tree) (b:Int),b≠0→ctxE b l≠0
 | [],b,h=>h
 | k::l,b,h=>by
  rw[ctxE]
  split
  ·exact ctxE_two l b h
  ·split
   ·decide
   ·exact ctxE_two l 2 (by decide)
theorem ctxE_ok:∀l:List Tree,ctxE 0 l=0→∀k∈l,kindE k=0
 | [],_,k,hk=>by cases hk
 | x::l,h,k,hk=>by
  rw[ctxE]at h
  split at h
  ·rename_i hx
   rcases List.mem_cons.1 hk with rfl|hk
   ·exact hx
   ·exact ctxE_ok l h k hk
  ·split at h
   ·cases h
   ·exact absurd h (ctxE_two l 2 (by decide))
theorem kindE_full' {T:Tree}(h:kindE T=0):isKindF T=true:=by
 unfold kindE checkF at h
 split at h
 ·cases hk:isKindF T with
  | true=>rfl
  | false=>rw[hk]at h;cases h
 ·exact absurd h ‹_›
theorem ctxE_ctx {l:List Tree}(h:ctxE 0 l=0):ctxOK l:=fun k hk=>kindE_full' (ctxE_ok l h k hk)
theorem kindR_ok {ctx:List Tree}{T:Tree}(h:(kindR ctx T).2=0):ctxE 0 ctx=0∧conE T=0∧kindR ctx T=kindF ctx T:=by
 unfold kindR at *
 split at h
 ·cases h
 ·rename_i h1
  split at h
  ·exact absurd h ‹_›
  ·rename_i h2
   split at h
   ·exact absurd h ‹_›
   ·rename_i h3
    refine⟨by simpa using h3,by simpa using h2,?_⟩
    rw[if_neg h1,if_neg h2,if_neg h3]
theorem Kind_ok (ctx:List Tree)(T:Tree)(hl:ctx.length≤137438953472):Pure P 51 [.d (.trees ctx),.d (.tree T)] (.tuple [.d (.tree (kindR ctx T).1),.d (.int .i64 (kindR ctx T).2)]):=by
 refine Pure.of_body tt [] [4,5] Tryz.func51 rfl rfl rfl lb fun g=>?_
 repeat' ((first|refine Ga ?_|refine Gc fun hlen=>?_|refine Gd (fun hc=>?_) fun hc=>?_)<;>conv=>whnf)
 refine loop_go (α:=Nat×Int) (fun p=>⟨[(0,.d (.trees ctx)),(1,.d (.tree T)),(6,.d (.int .i64 p.2)),(11,.d (.trees ctx)),(12,.d (.int .i64 ctx.length)),(13,.d (.int .i64 p.1))],39,[],0,g⟩)
   (fun p=>p.1≤ctx.length∧(p.2=0∨p.2=2)∧ctxE p.2 (ctx.drop p.1)=ctxE 0 ctx) (fun p=>ctx.length - p.1) (0,0) ⟨by simp,.inl rfl,rfl⟩
   (Ent.go []) (fun _=>rfl) fun p hpre=>?_
 obtain⟨i,b⟩:=p
 obtain⟨hp1,hb,hp2⟩:=hpre
 simp only[]at hp1 hp2 hb
 by_cases hp:i < ctx.length
 ·have hk:=Go.Proofs.YtlgajkoplklkiaaGreat.kind_ok (ctx.getD i .nil)
  rw[drop_step hp,ctxE]at hp2
  generalize kindE (ctx.getD i .nil)=E at *
  by_cases h0:E=0
  ·rw[if_pos h0]at hp2
   repeat' ((first|refine Ga ?_|refine Gc fun hlen=>?_|refine Ge hk ?_|refine Gd (fun hc=>?_) fun hc=>?_)<;>conv=>whnf)
   exact⟨(i+1,b),⟨by simp only[];omega,hb,hp2⟩,by simp only[];omega,Ent.go []⟩
  ·rw[if_neg h0]at hp2
   by_cases h1:E=1
   ·rw[if_pos h1]at hp2
    have e:kindR ctx T=(.nil,1):=by unfold kindR;rw[if_pos hp2.symm]
    rw[e]
    subst h1
    repeat' ((first|refine Ga ?_|refine Gc fun hlen=>?_|refine Ge hk ?_|refine Gd (fun hc=>?_) fun hc=>?_)<;>conv=>whnf)
    exact Gg
   ·rw[if_neg h1]at hp2
    repeat' ((first|refine Ga ?_|refine Gc fun hlen=>?_|refine Ge hk ?_|refine Gd (fun hc=>?_) fun hc=>?_)<;>conv=>whnf)
    exact⟨(i+1,2),⟨by simp only[];omega,.inr rfl,hp2⟩,by simp only[];omega,Ent.go []⟩
 ·rw[drop_end (by omega),ctxE]at hp2
  have hc1:ctxE 0 ctx≠1:=by rw[←hp2];rcases hb with h|h<;>rw[h]<;>decide
  by_cases h:conE T=0
  ·have h1:=check_ok T
   rw[h]at h1
   have hcon:=(conE_full h).2
   by_cases hb0:b=0
   ·subst hb0
    have hx:=ctxE_ctx hp2.symm
    have hk:=Ki.kind_ok T (conE_size h) hcon ctx hx (by have:=conE_size h;omega)
    have e:kindR ctx T=kindF ctx T:=by unfold kindR;rw[if_neg hc1,ifn,ifn]
    rw[e]
    repeat' ((first|refine Ga ?_|refine Gc fun hlen=>?_|refine Ge h1 ?_|refine Ge hk ?_|refine Gd (fun hc=>?_) fun hc=>?_)<;>conv=>whnf)
    exact Gg
   ·have e:kindR ctx T=(.nil,b):=by unfold kindR;rw[if_neg hc1,ifn,ifp,hp2]
    rw[e]
    repeat' ((first|refine Ga ?_|refine Gc fun hlen=>?_|refine Ge h1 ?_|refine Gd (fun hc=>?_) fun hc=>?_)<;>conv=>whnf)
    exact Gg
  ·have e:kindR ctx T=(.nil,conE T):=by unfold kindR;rw[if_neg hc1,if_pos h]
   rw[e]
   repeat' ((first|refine Ga ?_|refine Gc fun hlen=>?_|refine Ge (check_ok T) ?_|refine Gd (fun hc=>?_) fun hc=>?_)<;>conv=>whnf)
   exact Gg
def starE (ctx:List Tree)(T:Tree):Int:=if (kindR ctx T).2=0∧(kindR ctx T).1.kind≠100 then 10 else (kindR ctx T).2
theorem kindR_ne {ctx:List Tree}{T:Tree}(h:(kindR ctx T).2=0):(kindR ctx T).1≠.nil:=by
 obtain⟨h1,h2,h3⟩:=kindR_ok h
 rw[h3]at h ⊢
 exact kind_ne (kindF_kind T (conE_full h2).2 ctx (ctxE_ctx h1) h)
theorem Star_ok (ctx:List Tree)(T:Tree)(hl:ctx.length≤137438953472):Pure P 30 [.d (.trees ctx),.d (.tree T)] (.d (.int .i64 (starE ctx T))):=by
 have hk:=Kind_ok ctx T hl
 have hn:=kindR_ne (ctx:=ctx) (T:=T)
 unfold starE
 refine Pure.of_body tt [] [4] Tryz.func30 rfl rfl rfl lb fun g=>?_
 generalize kindR ctx T=R at *
 by_cases h:R.2=0
 ·have hn:=hn h
  rw[h]at hk
  by_cases hs:R.1.kind=100
  ·rw[if_neg (by rintro⟨_,q⟩;exact q hs),h]
   repeat' ((first|refine Ga ?_|refine Gc fun hlen=>?_|refine Ge hk ?_|refine Gd (fun hc=>?_) fun hc=>?_)<;>conv=>whnf)
   exact Gg
  ·rw[if_pos ⟨h,hs⟩]
   repeat' ((first|refine Ga ?_|refine Gc fun hlen=>?_|refine Ge hk ?_|refine Gd (fun hc=>?_) fun hc=>?_)<;>conv=>whnf)
   exact Gg
 ·rw[if_neg (by rintro⟨q,_⟩;exact h q)]
  repeat' ((first|refine Ga ?_|refine Gc fun hlen=>?_|refine Ge hk ?_|refine Gd (fun hc=>?_) fun hc=>?_)<;>conv=>whnf)
  exact Gg
end Ki
end Go.Proofs.YtlgajkoplklkiaaGreat
