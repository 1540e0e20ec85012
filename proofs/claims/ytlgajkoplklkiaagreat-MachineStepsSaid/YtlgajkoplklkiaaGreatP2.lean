/- What the proof stands on, part 2: what functions of the program compute, and plain facts about it. -/
import Derived.Test.YtlgajkoplklkiaaGreatP1
set_option linter.all false
set_option maxHeartbeats 64000000
set_option maxRecDepth 100000
namespace Go.Proofs.YtlgajkoplklkiaaGreat
namespace Mc
open Go Go.Mq
def rowD (ds:List Mq.Data):RowC:=.gen ds.length 1 (fun i=>.d (ds.getD i .nils))
def appD (ds:List Mq.Data)(f:Nat→AVal):RowC:=match ds with
 | []=>.gen 1 1 f
 | x::xs=>.gen ((x::xs).length+1) 1 fun i=>if i < (x::xs).length*1 then .d ((x::xs).getD i .nils) else f (i - (x::xs).length*1)
theorem QS (ds:List Mq.Data){e:Nat}(f:Nat→AVal)(he:e=1):(rowD ds).app (.gen 1 e f)=some (appD ds f):=by
 subst he
 cases ds<;>rfl
theorem Ms (ds:List Mq.Data)(w:Mq.Data)(f:Nat→AVal)(hf:f 0=.d w)(r:RowC)(h:(rowD ds).app (.gen 1 1 f)=some r):(rowD (ds++[w])).len=r.len∧(rowD (ds++[w])).sz=r.sz∧∀i,i < r.len*r.sz→(rowD (ds++[w])).cell i=r.cell i:=by
 obtain⟨h1,h2,h3,h4,h5⟩:=RowC.Oa h
 have e1:r.len=ds.length+1:=h1
 have e2:r.sz=1:=h2
 refine⟨by rw[e1];simp[rowD,RowC.len],e2.symm,fun i hi=>?_⟩
 rw[e1,e2]at hi
 have hi:i < ds.length+1:=by omega
 show AVal.d ((ds++[w]).getD i .nils)=r.cell i
 by_cases hp:i < ds.length
 ·rw[h4 i (by show i < ds.length*1;omega)]
  show _=AVal.d (ds.getD i .nils)
  simp[List.getElem?_append_left hp]
 ·obtain rfl:i=ds.length:=by omega
  have:=h5 0 (by show 0 < 1*1;omega)
  have e:(rowD ds).len*(RowC.gen 1 1 f).sz+0=ds.length:=by show ds.length*1+0=_;omega
  rw[e]at this
  rw[this]
  show _=f 0
  rw[hf]
  simp
theorem Mv (ds:List Mq.Data)(t:TypeId)(y:Mq.Data){e:Nat}(he:e=1):(rowD ds).app (rowOf [.d (.iface t y)] 1 e)=some (appD ds fun i=>[AVal.d (.iface t y)].getD i .any):=by
 subst he
 cases ds<;>rfl
theorem _root_.Go.Mq.Fun.res {P:Program}{f:FuncId}{a:List AVal}{L L':List (Nat×AObj)}{k N':Nat}{r r':AVal}(h:Fun P f a L k r L' N')(hr:∀I ρ v,CA I ρ (· < N') r v→CA I ρ (· < N') r' v):Fun P f a L k r' L' N':=by
 refine⟨h.1,fun g E I ρ w vs h1 h2=>(h.2 g E I ρ w vs h1 h2).mono ?_⟩
 rintro en w' ⟨I',ρ',v,q1,q2,q3,q4,q5⟩
 exact⟨I',ρ',v,q1,q2,q3,q4,hr _ _ _ q5⟩
theorem UC {I:Imm}{ρ:Nat→RB}{D:Nat→Prop}{t:TypeId}{x:AVal}{y:Mq.Data}(h:x.toD=some y){v:Value}(e:CA I ρ D (.iface t x) v):CA I ρ D (.d (.iface t y)) v:=by
 cases e with
 | iface e=>exact .d (.iface (AVal.Wj h e))
theorem FY:∀l:List Vl,vsD l=l.map vD
 | []=>by rw[vsD];rfl
 | v::l=>by rw[vsD,FY l];rfl
def R8 (r:Rs):AVal:=if r.e=0 then (match r.v with
 | .rcd ls ps=>.tuple [.iface 126 (.agg [.d (.slice ls.length 1 fun i _=>.str (ls.getD i ByteArray.empty)),.d (.slice (ps.map vD).length 1 fun i _=>(ps.map vD).getD i .nils)]),.d (.int .i64 0)]
 | _=>.any) else .tuple [.d .nilI,.d (.int .i64 r.e)]
theorem Wk (ev:Tree→Ev→Nat→Rs)(T:Tree)(hT:T≠.nil)(hz:T.kids.length≤1048576)(hk:∀x∈T.kids,x≠.nil∧0 < x.kids.length)(ρ:Ev)(f:Nat)
  (hfu:∀T ρ f,(ev T ρ f).f≤f) (he:∀x∈T.kids,∀f':Nat,f'≤f→Fun P 24 [.ref 0 0,.d (.tree (x.kids.getD 0 .nil)),.d (eD ρ)] (MP f') 1 (rsA (ev (x.kids.getD 0 .nil) ρ f')) (MP (ev (x.kids.getD 0 .nil) ρ f').f) 1) :
  Fun P 44 [.ref 0 0,.d (.tree T),.d (eD ρ)] (MP f) 1 (R8 (recM ev ρ T.kids f [] [])) (MP (recM ev ρ T.kids f [] []).f) 1:=by
 have hp:eD ρ=.tree .nil∨∃q,eD ρ=.ptr 3 q 0:=D7 ρ
 refine Fun.AB tt [] [6,7] (Tryz.func44) rfl rfl rfl lb fun g=>?_
 repeat' ((first|refine Ga ?_|refine Gc fun hlen=>?_|refine Gd (fun hc=>?_) fun hc=>?_)<;>conv=>whnf)
 refine AY (α:=Nat×Nat×List ByteArray×List Vl) (fun p=>⟨[(0,.ref 0 0),(2,.d (eD ρ)),(8,.ref 1 0),(16,.d (.trees T.kids)),(17,.d (.int .i64 T.kids.length)),(18,.d (.int .i64 p.1))],55,[(0,.cells [.d (.int .i64 p.2.1)]),(1,.cells [.row 2 p.1,.row 3 p.1]),(2,.row 9 (.strs p.2.2.1)),(3,.row 60 (rowD (p.2.2.2.map vD)))],4,g⟩)
   (fun p=>p.1≤T.kids.length∧p.2.2.1.length=p.1∧p.2.2.2.length=p.1∧p.2.1≤f∧recM ev ρ (T.kids.drop p.1) p.2.1 p.2.2.1 p.2.2.2=recM ev ρ T.kids f [] []) (fun p=>T.kids.length - p.1) (0,f,[],[]) ⟨by simp,rfl,rfl,Nat.le_refl _,rfl⟩
   (Ent.trans (Ent.nil (σ':=⟨[(0,.ref 0 0),(2,.d (eD ρ)),(8,.ref 1 0),(16,.d (.trees T.kids)),(17,.d (.int .i64 T.kids.length)),(18,.d (.int .i64 0))],55,[(0,.cells [.d (.int .i64 f)]),(1,.cells [.row 2 0,.d .nils]),(2,.row 9 (.strs []))],3,g⟩) rfl rfl rfl (by repeat' first|exact trivial|apply And.intro|rfl|(refine int_eq ?_;rw[wrap64]<;>omega)) (by repeat' first|exact trivial|apply And.intro|rfl|(refine int_eq ?_;rw[wrap64]<;>omega))) (Ent.nil rfl rfl rfl (by repeat' first|exact trivial|apply And.intro|rfl|(refine int_eq ?_;rw[wrap64]<;>omega)) (by repeat' first|exact trivial|apply And.intro|rfl|(refine int_eq ?_;rw[wrap64]<;>omega)))) (fun _=>rfl) fun p hpre=>?_
 obtain⟨i,f',ls,ps⟩:=p
 obtain⟨hp1,hp2,hp3,hp5,hp4⟩:=hpre
 simp only[]at hp1 hp2 hp3 hp4 hp5
 by_cases hi:i < T.kids.length
 ·rw[AP hi,recM]at hp4
  have hx0:=AA (l:=T.kids) hi
  obtain⟨a1,a2⟩:=hk _ hx0
  have h1:=he _ hx0 f' hp5
  have hfu1:=hfu ((T.kids.getD i .nil).kids.getD 0 .nil) ρ f'
  generalize ev ((T.kids.getD i .nil).kids.getD 0 .nil) ρ f'=r at h1 hp4 hfu1
  obtain⟨v,e,f2⟩:=r
  unfold rsA MP at h1
  try dsimp only at h1
  try dsimp only at hp4
  try dsimp only at hfu1
  by_cases h0:e=0
  ·subst h0
   rw[if_pos rfl]at hp4 h1
   obtain⟨t,y,hy⟩:=Dx v
   rw[hy]at h1
   repeat' ((first|refine Ga ?_|refine Gc fun hlen=>?_|refine AJ.go h1 [0] ?_|refine Side.mk a1 ?_|refine Gh ((0:Int)≤(i:Int)∧(i:Int) < (T.kids.length:Int)) ?_|refine Gh ((0:Int)≤0∧(0:Int) < ((T.kids.getD i .nil).kids.length:Int)) ?_|refine Side.mk (show (i+1≤maxN∧(i+1)*16≤140737488355328) from⟨by unfold maxN;omega,by omega⟩) ?_|refine Gd (fun hc=>?_) fun hc=>?_)<;>conv=>whnf)
   refine Side.mk (by intro j hj;have hj:j < 1*1:=hj;obtain rfl:j=0:=(by omega);rfl) ?_
   conv=>whnf
   repeat' ((first|refine Ga ?_|refine Gc fun hlen=>?_|refine Side.mk (show (ps.map vD).length=i from by rw[List.length_map];exact hp3) ?_|refine Gd (fun hc=>?_) fun hc=>?_)<;>conv=>whnf)
   rw[Mv _ _ _ (by rfl)]
   conv=>whnf
   repeat' ((first|refine Ga ?_|refine Gc fun hlen=>?_|refine Side.mk (show (i+1≤maxN∧(i+1)*16≤140737488355328) from⟨by unfold maxN;omega,by omega⟩) ?_|refine Gd (fun hc=>?_) fun hc=>?_)<;>conv=>whnf)
   have hr:=Ms (ps.map vD) (vD v) (fun i=>[AVal.d (.iface t y)].getD i .any) (by rw[hy];rfl) _ (QS _ _ rfl)
   refine⟨(i+1,f2,ls++[(T.kids.getD i .nil).name],ps++[v]),⟨by simp only[];omega,by simp[hp2],by simp[hp3],by simp only[];omega,hp4⟩,by simp only[];omega,
    Ent.trans (Ent.P2 7 (rowD (ps.map vD++[vD v])) rfl hr.1 hr.2.1 hr.2.2) (Ent.re [0,1,5,7] rfl rfl rfl rfl rfl rfl (by repeat' first|exact trivial|apply And.intro|rfl|(refine int_eq ?_;rw[wrap64]<;>omega)) ⟨⟨rfl,by rfl,rfl⟩,⟨rfl,by rfl,rfl⟩,⟨rfl,by rfl,trivial⟩,⟨rfl,?_,fun _=>rfl⟩,trivial⟩)⟩
   show some (AObj.row 60 (rowD (ps.map vD++[vD v])))=some (AObj.row 60 (rowD ((ps++[v]).map vD)))
   rw[List.map_append]
   rfl
  ·rw[if_neg h0]at hp4 h1
   rw[←hp4]
   repeat' ((first|refine Ga ?_|refine Gc fun hlen=>?_|refine AJ.go h1 [0] ?_|refine Side.mk a1 ?_|refine Gh ((0:Int)≤(i:Int)∧(i:Int) < (T.kids.length:Int)) ?_|refine Gh ((0:Int)≤0∧(0:Int) < ((T.kids.getD i .nil).kids.length:Int)) ?_|refine Gd (fun hc=>?_) fun hc=>?_)<;>conv=>whnf)
   refine RetS.ent (σ':=⟨[(6,.d .nilI),(7,.d (.int .i64 e))],55,[(0,.cells [.d (.int .i64 f2)])],1,g⟩) (Ent.go [0]) ?_
   refine AM rfl rfl ?_ (by repeat' first|exact trivial|apply And.intro|rfl|(refine int_eq ?_;rw[wrap64]<;>omega)) (Nat.le_refl _)
   unfold R8
   rw[if_neg h0]
   rfl
 ·rw[Ab (by omega),recM]at hp4
  rw[←hp4]
  repeat' ((first|refine Ga ?_|refine Gc fun hlen=>?_|refine Gd (fun hc=>?_) fun hc=>?_)<;>conv=>whnf)
  subst hp2
  have hpl:(ps.map vD).length=ls.length:=by rw[List.length_map];exact hp3
  refine RetS.ent (σ':=⟨[(6,.iface 126 (.agg [.row 1 ls.length,.row 2 ls.length])),(7,.d (.int .i64 0))],55,[(0,.cells [.d (.int .i64 f')]),(1,.row 9 (.strs ls)),(2,.row 60 (rowD (ps.map vD)))],3,g⟩) (Ent.re [0,2,3] rfl rfl rfl rfl rfl rfl (by repeat' first|exact trivial|apply And.intro|rfl|(refine int_eq ?_;rw[wrap64]<;>omega)) ⟨⟨rfl,by rfl,rfl⟩,⟨rfl,by rfl,trivial⟩,⟨rfl,by rfl,fun _=>rfl⟩,trivial⟩) ?_
  refine RetS.ent (Ent.FF 2 (n:=ls.length) (sz:=1) (f:=fun i _=>(ps.map vD).getD i .nils) rfl hpl rfl (fun i j hi hj=>by obtain rfl:j=0:=(by omega);show AVal.d ((ps.map vD).getD (i*1+0) .nils)=_;rw[show i*1+0=i by omega]) (by repeat' first|exact trivial|apply And.intro|rfl) (by repeat' first|exact trivial|apply And.intro|rfl)) ?_
  refine RetS.ent (Ent.FF 1 (n:=ls.length) (sz:=1) (f:=fun i _=>.str (ls.getD i ByteArray.empty)) rfl rfl rfl (fun i j hi hj=>by obtain rfl:j=0:=(by omega);show AVal.d (.str (ls.getD (i*1+0) ByteArray.empty))=_;rw[show i*1+0=i by omega]) (by repeat' first|exact trivial|apply And.intro|rfl) (by repeat' first|exact trivial|apply And.intro|rfl)) ?_
  refine RetS.ent (σ':=⟨[(6,.iface 126 (.agg [.d (.slice ls.length 1 fun i _=>.str (ls.getD i ByteArray.empty)),.d (.slice ls.length 1 fun i _=>(ps.map vD).getD i .nils)])),(7,.d (.int .i64 0))],55,[(0,.cells [.d (.int .i64 f')])],1,g⟩) (Ent.go [0]) ?_
  refine AM rfl rfl ?_ (by repeat' first|exact trivial|apply And.intro|rfl|(refine int_eq ?_;rw[wrap64]<;>omega)) (Nat.le_refl _)
  show _=AVal.tuple [.iface 126 (.agg [.d (.slice ls.length 1 fun i _=>.str (ls.getD i ByteArray.empty)),.d (.slice (ps.map vD).length 1 fun i _=>(ps.map vD).getD i .nils)]),.d (.int .i64 0)]
  rw[hpl]
  rfl
theorem Sl (ev:Tree→Ev→Nat→Rs)(ρ:Ev):∀(l:List Tree) (f:Nat) (ls:List ByteArray) (ps:List Vl),(recM ev ρ l f ls ps).e=0→∃a b,(recM ev ρ l f ls ps).v=.rcd a b
 | [],f,ls,ps,_=>⟨ls,ps,by rw[recM]⟩
 | x::l,f,ls,ps,h=>by
  rw[recM]at h ⊢
  by_cases h0:(ev (x.kids.getD 0 .nil) ρ f).e=0
  ·rw[if_pos h0]at h ⊢;exact Sl ev ρ l _ _ _ h
  ·rw[if_neg h0]at h;exact absurd h h0
theorem QQ {r:Rs}(h:r.e=0→∃a b,r.v=.rcd a b){I:Imm}{ρ:Nat→RB}{D:Nat→Prop}{v:Value}(e:CA I ρ D (R8 r) v):CA I ρ D (rsA r) v:=by
 obtain⟨rv,re,rf⟩:=r
 unfold R8 rsA at *
 dsimp only at h e ⊢
 by_cases h0:re=0
 ·subst h0
  obtain⟨a,b,rfl⟩:=h rfl
  rw[if_pos rfl]at e ⊢
  cases e with
  | tuple hl hc =>
   refine .tuple hl fun i hi=>?_
   match i,hi with
   | 0,_ =>
    have:=UC (y:=.agg 2 fun i=>[Mq.Data.slice a.length 1 fun i _=>.str (a.getD i ByteArray.empty),Mq.Data.slice (b.map vD).length 1 fun i _=>(b.map vD).getD i .nils].getD i .nils) rfl (hc 0 (by simp))
    show CA I ρ D (.d (vD (.rcd a b))) _
    rw[vD,FY]
    exact this
   | 1,_=>exact hc 1 (by simp)
 ·rw[if_neg h0]at e ⊢
  exact e
theorem XO (ev:Tree→Ev→Nat→Rs)(T:Tree)(hT:T≠.nil)(hz:T.kids.length≤1048576)(hk:∀x∈T.kids,x≠.nil∧0 < x.kids.length)(ρ:Ev)(f:Nat)
  (hfu:∀T ρ f,(ev T ρ f).f≤f) (he:∀x∈T.kids,∀f':Nat,f'≤f→Fun P 24 [.ref 0 0,.d (.tree (x.kids.getD 0 .nil)),.d (eD ρ)] (MP f') 1 (rsA (ev (x.kids.getD 0 .nil) ρ f')) (MP (ev (x.kids.getD 0 .nil) ρ f').f) 1) :
  Fun P 44 [.ref 0 0,.d (.tree T),.d (eD ρ)] (MP f) 1 (rsA (recM ev ρ T.kids f [] [])) (MP (recM ev ρ T.kids f [] []).f) 1 :=
 (Wk ev T hT hz hk ρ f hfu he).res fun I ρ' v e=>QQ (Sl ev ρ T.kids f [] []) e
theorem SV (n:Int)(x y:Vl)(f:Nat)(h:(∀a,x≠.num a)∨(∀b,y≠.num b)):Pure P 46 [.d (.int .i64 n),.d (vD x),.d (vD y)] (rsA (bad 20 f)):=by
 refine Pure.AB tt [] [6,7] Tryz.func46 rfl rfl rfl lb fun g=>?_
 cases x<;>cases y
 all_goals first|(rcases h with h|h<;>exact absurd rfl (h _);done)|skip
 all_goals simp only[vD]
 all_goals
  repeat' ((first|refine Ga ?_|refine Gc fun hlen=>?_|refine Gd (fun hc=>?_) fun hc=>?_)<;>conv=>whnf)
 all_goals exact Gg
theorem ZX (n:Int)(x y:Vl)(f:Nat):Pure P 46 [.d (.int .i64 n),.d (vD x),.d (vD y)] (rsA (opM n x y f)):=by
 cases x with
 | num a=>cases y with
  | num b=>rw[vD,vD];exact Ya n a b f
  | _=>exact SV n _ _ f (.inr fun b e=>by cases e)
 | _=>exact SV n _ _ f (.inl fun b e=>by cases e)
end Mc
end Go.Proofs.YtlgajkoplklkiaaGreat
namespace Go.Proofs.YtlgajkoplklkiaaGreat
namespace Mc
open Go Go.Mq
section
variable (Q : Tree → Prop)
mutual
def okV (B:Nat):Vl→Prop
 | .num n => -1073741824≤n∧n≤1073741824
 | .tru _=>True
 | .unt=>True
 | .rcd ls ps=>ls.length=ps.length∧ls.length≤1048576∧okVs B ps∧∀l∈ls,l.size≤1000
 | .tag nm _ p=>nm.size≤1000∧okV B p
 | .clo _ b e=>Q b∧okEv B e∧BW e≤B
 | .pkd c p=>c≠.nil∧okV B p
def okVs (B:Nat):List Vl→Prop
 | []=>True
 | v::l=>okV B v∧okVs B l
def okEv (B:Nat):Ev→Prop
 | .nil=>True
 | .val v e=>okV B v∧okEv B e
 | .con c e=>c≠.nil∧okEv B e
end
theorem N7 {B:Nat}:∀{e:Ev},okEv Q B e→okM e
 | .nil,_=>trivial
 | .val v e,h=>by rw[okEv]at h;show okM e;exact N7 h.2
 | .con c e,h=>by rw[okEv]at h;exact⟨h.1,N7 (e:=e) h.2⟩
mutual
theorem Bn {B C:Nat}(h:B≤C):∀{v:Vl},okV Q B v→okV Q C v
 | .num _,hv=>by rw[okV]at hv ⊢;exact hv
 | .tru _,_=>by rw[okV];trivial
 | .unt,_=>by rw[okV];trivial
 | .rcd ls ps,hv=>by rw[okV]at hv ⊢;exact⟨hv.1,hv.2.1,GH h hv.2.2.1,hv.2.2.2⟩
 | .tag _ _ p,hv=>by rw[okV]at hv ⊢;exact⟨hv.1,Bn h hv.2⟩
 | .clo _ b e,hv=>by rw[okV]at hv ⊢;exact⟨hv.1,An h hv.2.1,by omega⟩
 | .pkd c p,hv=>by rw[okV]at hv ⊢;exact⟨hv.1,Bn h hv.2⟩
theorem GH {B C:Nat}(h:B≤C):∀{l:List Vl},okVs Q B l→okVs Q C l
 | [],_=>by rw[okVs];trivial
 | v::l,hv=>by rw[okVs]at hv ⊢;exact⟨Bn h hv.1,GH h hv.2⟩
theorem An {B C:Nat}(h:B≤C):∀{e:Ev},okEv Q B e→okEv Q C e
 | .nil,_=>by rw[okEv];trivial
 | .val v e,hv=>by rw[okEv]at hv ⊢;exact⟨Bn h hv.1,An h hv.2⟩
 | .con c e,hv=>by rw[okEv]at hv ⊢;exact⟨hv.1,An h hv.2⟩
end
theorem Q1 {B:Nat}:∀{e:Ev} {i:Int} {v:Vl},okEv Q B e→atE e i=some v→okV Q B v
 | .nil,_,_,_,h=>by rw[atE]at h;cases h
 | .con c e,i,v,ho,h=>by rw[atE]at h;rw[okEv]at ho;exact Q1 ho.2 h
 | .val w e,i,v,ho,h=>by
  rw[atE]at h
  rw[okEv]at ho
  by_cases hi:i=0
  ·rw[if_pos hi]at h;cases h;exact ho.1
  ·rw[if_neg hi]at h;exact Q1 ho.2 h
theorem O0 {B:Nat}{s:ByteArray}:∀{ls:List ByteArray} {ps:List Vl} {v:Vl},okVs Q B ps→CN s ls ps=some v→okV Q B v
 | [],_,_,_,h=>by
  rw[CN]at h;· cases h
  ·intro a b c d e;cases e
 | _::_,[],_,_,h=>by
  rw[CN]at h;· cases h
  ·intro a b c d _ e;cases e
 | l::ls,p::ps,v,ho,h=>by
  rw[CN]at h
  rw[okVs]at ho
  by_cases hl:l=s
  ·rw[if_pos hl]at h;cases h;exact ho.1
  ·rw[if_neg hl]at h;exact O0 ho.2 h
end
end Mc
end Go.Proofs.YtlgajkoplklkiaaGreat
namespace Go.Proofs.YtlgajkoplklkiaaGreat
namespace Mc
open Go Go.Mq
theorem Mn (s:ByteArray):∀(ls:List ByteArray) (ps:List Vl),ls.length=ps.length→Hk s ls (ps.map vD)=(CN s ls ps).map vD
 | [],[],_=>by
  rw[List.map_nil,Hk,CN];· rfl
  ·intro a b c d e;cases e
  ·intro a b c d e;cases e
 | l::ls,p::ps,h=>by
  rw[List.map_cons,Hk,CN]
  by_cases hl:l=s
  ·rw[if_pos hl,if_pos hl];rfl
  ·rw[if_neg hl,if_neg hl];exact Mn s ls ps (by simpa using h)
 | [],_::_,h=>by simp at h
 | _::_,[],h=>by simp at h
theorem Xk (ev:Tree→Ev→Nat→Rs)(fo:Tree→ByteArray→Tree→Vl→Ev→Nat→Rs)(T:Tree)(hT:T≠.nil)(ρ:Ev)(f:Nat)(ls:List ByteArray)(ps:List Vl)(hl:ls.length=ps.length)(hz:ls.length≤1048576) :
  Fun P 48 [.ref 0 0,.d (.tree T),.d (vD (.rcd ls ps)),.d (eD ρ)] (MP f) 1 (rsA (useM ev fo T (.rcd ls ps) ρ f)) (MP (useM ev fo T (.rcd ls ps) ρ f).f) 1:=by
 have hpt:=UY ls (ps.map vD) T.name (by rw[List.length_map];exact hl) hz
 rw[Mn _ _ _ hl]at hpt
 unfold recA at hpt
 have e1:vD (.rcd ls ps)=.iface 126 (.agg 2 fun i=>[Mq.Data.slice ls.length 1 fun i _=>.str (ls.getD i ByteArray.empty),Mq.Data.slice (ps.map vD).length 1 fun i _=>(ps.map vD).getD i .nils].getD i .nils):=by rw[vD,FY]
 rw[e1]
 refine Fun.AB tt [] [8,9] (Tryz.func48) rfl rfl rfl lb fun g=>?_
 generalize hv:useM ev fo T (.rcd ls ps) ρ f=r
 unfold useM at hv
 dsimp only at hv
 cases hq:CN T.name ls ps with
 | none =>
  rw[hq]at hv hpt
  dsimp only at hv
  subst hv
  repeat' ((first|refine Ga ?_|refine Gc fun hlen=>?_|refine Ge hpt ?_|refine Gd (fun hc=>?_) fun hc=>?_)<;>conv=>whnf)
  refine RetS.ent (σ':=⟨[(8,.d .nilI),(9,.d (.int .i64 20))],183,[(0,.cells [.d (.int .i64 f)])],1,g⟩) (Ent.go [0]) ?_
  exact Aq rfl rfl rfl
 | some p =>
  rw[hq]at hv hpt
  dsimp only at hv
  by_cases hk:T.kind=138
  ·rw[if_pos hk]at hv
   subst hv
   repeat' ((first|refine Ga ?_|refine Gc fun hlen=>?_|refine Ge hpt ?_|refine Split.Ag (show (T.kind == 138)=true from by simpa using hk) ?_|refine Gd (fun hc=>?_) fun hc=>?_)<;>conv=>whnf)
   refine RetS.ent (σ':=⟨[(8,.d (vD p)),(9,.d (.int .i64 0))],183,[(0,.cells [.d (.int .i64 f)])],1,g⟩) (Ent.go [0]) ?_
   exact Aq rfl rfl rfl
  ·rw[if_neg hk]at hv
   subst hv
   repeat' ((first|refine Ga ?_|refine Gc fun hlen=>?_|refine Ge hpt ?_|refine Split.AE (show (T.kind == 138)=false from by simpa using hk) ?_|refine Gd (fun hc=>?_) fun hc=>?_)<;>conv=>whnf)
   refine RetS.ent (σ':=⟨[(8,.d .nilI),(9,.d (.int .i64 20))],183,[(0,.cells [.d (.int .i64 f)])],1,g⟩) (Ent.go [0]) ?_
   exact Aq rfl rfl rfl
theorem Ye (ev:Tree→Ev→Nat→Rs)(fo:Tree→ByteArray→Tree→Vl→Ev→Nat→Rs)(T:Tree)(hT:T≠.nil)(ρ:Ev)(f:Nat)(n:Int) :
  Fun P 48 [.ref 0 0,.d (.tree T),.d (vD (.num n)),.d (eD ρ)] (MP f) 1 (rsA (useM ev fo T (.num n) ρ f)) (MP (useM ev fo T (.num n) ρ f).f) 1:=by
 rw[vD]
 refine Fun.AB tt [] [8,9] (Tryz.func48) rfl rfl rfl lb fun g=>?_
 show Then _ _ (retK 1 [8,9] (rsA (bad 20 f)) (MP f) 1 g) _
 repeat' ((first|refine Ga ?_|refine Gc fun hlen=>?_|refine Gd (fun hc=>?_) fun hc=>?_)<;>conv=>whnf)
 refine RetS.ent (σ':=⟨[(8,.d .nilI),(9,.d (.int .i64 20))],183,[(0,.cells [.d (.int .i64 f)])],1,g⟩) (Ent.go [0]) ?_
 exact Aq rfl rfl rfl
theorem Xx (ev:Tree→Ev→Nat→Rs)(fo:Tree→ByteArray→Tree→Vl→Ev→Nat→Rs)(T:Tree)(hT:T≠.nil)(ρ:Ev)(f:Nat)  :
  Fun P 48 [.ref 0 0,.d (.tree T),.d (vD .unt),.d (eD ρ)] (MP f) 1 (rsA (useM ev fo T .unt ρ f)) (MP (useM ev fo T .unt ρ f).f) 1:=by
 rw[vD]
 refine Fun.AB tt [] [8,9] (Tryz.func48) rfl rfl rfl lb fun g=>?_
 show Then _ _ (retK 1 [8,9] (rsA (bad 20 f)) (MP f) 1 g) _
 repeat' ((first|refine Ga ?_|refine Gc fun hlen=>?_|refine Gd (fun hc=>?_) fun hc=>?_)<;>conv=>whnf)
 refine RetS.ent (σ':=⟨[(8,.d .nilI),(9,.d (.int .i64 20))],183,[(0,.cells [.d (.int .i64 f)])],1,g⟩) (Ent.go [0]) ?_
 exact Aq rfl rfl rfl
theorem XN (ev:Tree→Ev→Nat→Rs)(fo:Tree→ByteArray→Tree→Vl→Ev→Nat→Rs)(T:Tree)(hT:T≠.nil)(ρ:Ev)(f:Nat)(b:Bool)(hk:T.kind=144→T.kids.length=3)(he:∀i,i < T.kids.length→T.kind=144→Fun P 24 [.ref 0 0,.d (.tree (T.kids.getD i .nil)),.d (eD ρ)] (MP f) 1 (rsA (ev (T.kids.getD i .nil) ρ f)) (MP (ev (T.kids.getD i .nil) ρ f).f) 1) :
  Fun P 48 [.ref 0 0,.d (.tree T),.d (vD (.tru b)),.d (eD ρ)] (MP f) 1 (rsA (useM ev fo T (.tru b) ρ f)) (MP (useM ev fo T (.tru b) ρ f).f) 1:=by
 rw[vD]
 refine Fun.AB tt [] [8,9] (Tryz.func48) rfl rfl rfl lb fun g=>?_
 generalize hv:useM ev fo T (.tru b) ρ f=r
 unfold useM at hv
 dsimp only at hv
 by_cases h:T.kind=144
 ·have hl:=hk h
  rw[if_pos h]at hv
  cases b with
  | true =>
   have h1:=he 1 (by omega) h
   rw[if_pos rfl]at hv
   rw[hv]at h1
   unfold rsA MP at *
   repeat' ((first|refine Ga ?_|refine Gc fun hlen=>?_|refine Split.Ag (show (T.kind == 144)=true from by simpa using h) ?_|refine AJ.go h1 [0] ?_|refine Gh ((0:Int)≤1∧(1:Int) < (T.kids.length:Int)) ?_|refine Gd (fun hc=>?_) fun hc=>?_)<;>conv=>whnf)
   refine Aq rfl rfl rfl
  | false =>
   have h1:=he 2 (by omega) h
   rw[if_neg (by decide)]at hv
   rw[hv]at h1
   unfold rsA MP at *
   repeat' ((first|refine Ga ?_|refine Gc fun hlen=>?_|refine Split.Ag (show (T.kind == 144)=true from by simpa using h) ?_|refine AJ.go h1 [0] ?_|refine Gh ((0:Int)≤2∧(2:Int) < (T.kids.length:Int)) ?_|refine Gd (fun hc=>?_) fun hc=>?_)<;>conv=>whnf)
   refine Aq rfl rfl rfl
 ·rw[if_neg h]at hv
  subst hv
  repeat' ((first|refine Ga ?_|refine Gc fun hlen=>?_|refine Split.AE (show (T.kind == 144)=false from by simpa using h) ?_|refine Gd (fun hc=>?_) fun hc=>?_)<;>conv=>whnf)
  refine RetS.ent (σ':=⟨[(8,.d .nilI),(9,.d (.int .i64 20))],183,[(0,.cells [.d (.int .i64 f)])],1,g⟩) (Ent.go [0]) ?_
  exact Aq rfl rfl rfl
theorem W8 (ev:Tree→Ev→Nat→Rs)(fo:Tree→ByteArray→Tree→Vl→Ev→Nat→Rs)(T:Tree)(hT:T≠.nil)(ρ:Ev)(f:Nat)(c:Tree)(p:Vl)(hk:T.kind=142→1 < T.kids.length)
  (he:T.kind=142→Fun P 24 [.ref 0 0,.d (.tree (T.kids.getD 1 .nil)),.d (eD (.val p (.con c ρ)))] (MP f) 1 (rsA (ev (T.kids.getD 1 .nil) (.val p (.con c ρ)) f)) (MP (ev (T.kids.getD 1 .nil) (.val p (.con c ρ)) f).f) 1) :
  Fun P 48 [.ref 0 0,.d (.tree T),.d (vD (.pkd c p)),.d (eD ρ)] (MP f) 1 (rsA (useM ev fo T (.pkd c p) ρ f)) (MP (useM ev fo T (.pkd c p) ρ f).f) 1:=by
 have hb1:=O2 ρ c
 have hb2:=Iw (.con c ρ) p
 obtain⟨t,y,hy⟩:=Dx p
 rw[vD,hy]
 rw[hy]at hb2
 refine Fun.AB tt [] [8,9] (Tryz.func48) rfl rfl rfl lb fun g=>?_
 generalize hv:useM ev fo T (.pkd c p) ρ f=r
 unfold useM at hv
 dsimp only at hv
 by_cases h:T.kind=142
 ·have hl:=hk h
  have h1:=he h
  rw[if_pos h]at hv
  rw[hv]at h1
  unfold rsA MP at *
  repeat' ((first|refine Ga ?_|refine Gc fun hlen=>?_|refine Split.Ag (show (T.kind == 142)=true from by simpa using h) ?_|refine Ge hb1 ?_|refine Ge hb2 ?_|refine AJ.go h1 [0] ?_|refine Gh ((0:Int)≤1∧(1:Int) < (T.kids.length:Int)) ?_|refine Gd (fun hc=>?_) fun hc=>?_)<;>conv=>whnf)
  refine RetS.ent (σ':=⟨[(8,.d (if r.e=0 then vD r.v else .nilI)),(9,.d (.int .i64 r.e))],183,[(0,.cells [.d (.int .i64 r.f)])],1,g⟩) (Ent.go [0]) ?_
  exact Aq rfl rfl rfl
 ·rw[if_neg h]at hv
  subst hv
  repeat' ((first|refine Ga ?_|refine Gc fun hlen=>?_|refine Split.AE (show (T.kind == 142)=false from by simpa using h) ?_|refine Gd (fun hc=>?_) fun hc=>?_)<;>conv=>whnf)
  refine RetS.ent (σ':=⟨[(8,.d .nilI),(9,.d (.int .i64 20))],183,[(0,.cells [.d (.int .i64 f)])],1,g⟩) (Ent.go [0]) ?_
  exact Aq rfl rfl rfl
theorem XC (ev:Tree→Ev→Nat→Rs)(fo:Tree→ByteArray→Tree→Vl→Ev→Nat→Rs)(T:Tree)(hT:T≠.nil)(ρ:Ev)(f:Nat)(ty:Bool)(b:Tree)(e:Ev)(hk:T.kind=140→1 < T.kids.length)(hc0:okM ρ)(hl0:BW ρ≤1073741824)
  (he:T.kind=140→ty=true→(AN (AL ρ) (T.kids.getD 1 .nil)).2=0→Fun P 24 [.ref 0 0,.d (.tree b),.d (eD (.con (AN (AL ρ) (T.kids.getD 1 .nil)).1 e))] (MP f) 1 (rsA (ev b (.con (AN (AL ρ) (T.kids.getD 1 .nil)).1 e) f)) (MP (ev b (.con (AN (AL ρ) (T.kids.getD 1 .nil)).1 e) f).f) 1) :
  Fun P 48 [.ref 0 0,.d (.tree T),.d (vD (.clo ty b e)),.d (eD ρ)] (MP f) 1 (rsA (useM ev fo T (.clo ty b e) ρ f)) (MP (useM ev fo T (.clo ty b e) ρ f).f) 1:=by
 have hcl:=Pt ρ (T.kids.getD 1 .nil) hc0 hl0
 rw[vD]
 generalize hv:useM ev fo T (.clo ty b e) ρ f=r
 unfold useM at hv
 dsimp only at hv
 generalize AN (AL ρ) (T.kids.getD 1 .nil)=c at hcl hv he
 obtain⟨cc,ce⟩:=c
 try dsimp only at hcl
 try dsimp only at hv
 have hb1:=O2 e cc
 have h1:=he
 try dsimp only at h1
 rcases D7 e with hp|⟨q,hp⟩
 all_goals
  rw[hp]at hb1
  rw[hp]
  refine Fun.AB tt [] [8,9] (Tryz.func48) rfl rfl rfl lb fun g=>?_
  by_cases h:T.kind=140
  ·have hl:=hk h
   cases ty with
   | true =>
    rw[if_pos ⟨h,rfl⟩]at hv
    by_cases h2:ce=0
    ·subst h2
     rw[if_pos rfl]at hv
     have h1:=h1 h rfl rfl
     rw[hv]at h1
     unfold rsA MP at *
     repeat' ((first|refine Ga ?_|refine Gc fun hlen=>?_|refine Split.Ag (show (T.kind == 140)=true from by simpa using h) ?_|refine Ge hcl ?_|refine Ge hb1 ?_|refine AJ.go h1 [0] ?_|refine Gh ((0:Int)≤1∧(1:Int) < (T.kids.length:Int)) ?_|refine Gd (fun hc=>?_) fun hc=>?_)<;>conv=>whnf)
     refine RetS.ent (σ':=⟨[(8,.d (if r.e=0 then vD r.v else .nilI)),(9,.d (.int .i64 r.e))],183,[(0,.cells [.d (.int .i64 r.f)])],1,g⟩) (Ent.go [0]) ?_
     exact Aq rfl rfl rfl
    ·rw[if_neg h2]at hv
     subst hv
     repeat' ((first|refine Ga ?_|refine Gc fun hlen=>?_|refine Split.Ag (show (T.kind == 140)=true from by simpa using h) ?_|refine Ge hcl ?_|refine Gh ((0:Int)≤1∧(1:Int) < (T.kids.length:Int)) ?_|refine Gd (fun hc=>?_) fun hc=>?_)<;>conv=>whnf)
     refine RetS.ent (σ':=⟨[(8,.d .nilI),(9,.d (.int .i64 ce))],183,[(0,.cells [.d (.int .i64 f)])],1,g⟩) (Ent.go [0]) ?_
     refine AM rfl rfl ?_ (by repeat' first|exact trivial|apply And.intro|rfl|(refine int_eq ?_;rw[wrap64]<;>omega)) (Nat.le_refl _)
     unfold rsA bad
     rw[if_neg h2]
     rfl
   | false =>
    rw[if_neg (by rintro⟨_,h⟩;cases h)]at hv
    subst hv
    repeat' ((first|refine Ga ?_|refine Gc fun hlen=>?_|refine Split.Ag (show (T.kind == 140)=true from by simpa using h) ?_|refine Gd (fun hc=>?_) fun hc=>?_)<;>conv=>whnf)
    refine RetS.ent (σ':=⟨[(8,.d .nilI),(9,.d (.int .i64 20))],183,[(0,.cells [.d (.int .i64 f)])],1,g⟩) (Ent.go [0]) ?_
    exact Aq rfl rfl rfl
  ·rw[if_neg (by rintro⟨h2,_⟩;exact h h2)]at hv
   subst hv
   repeat' ((first|refine Ga ?_|refine Gc fun hlen=>?_|refine Split.AE (show (T.kind == 140)=false from by simpa using h) ?_|refine Gd (fun hc=>?_) fun hc=>?_)<;>conv=>whnf)
   refine RetS.ent (σ':=⟨[(8,.d .nilI),(9,.d (.int .i64 20))],183,[(0,.cells [.d (.int .i64 f)])],1,g⟩) (Ent.go [0]) ?_
   exact Aq rfl rfl rfl
theorem XJ (ev:Tree→Ev→Nat→Rs)(fo:Tree→ByteArray→Tree→Vl→Ev→Nat→Rs)(T:Tree)(hT:T≠.nil)(ρ:Ev)(f:Nat)(nm:ByteArray)(s:Tree)(p:Vl)(hk:T.kind=147→1≤T.kids.length)(hx:T.kind=147→∀x∈T.kids.drop 1,x≠.nil∧0 < x.kids.length)
  (he:∀b:Tree,T.kind=147→armF nm (T.kids.drop 1)=some b→Fun P 24 [.ref 0 0,.d (.tree b),.d (eD (.val p ρ))] (MP f) 1 (rsA (ev b (.val p ρ) f)) (MP (ev b (.val p ρ) f).f) 1)
  (hf:T.kind=148→Fun P 85 [.ref 0 0,.d (.tree T),.agg [.d (.str nm),.d (.tree s),.d (vD p)],.d (eD ρ)] (MP f) 1 (rsA (fo T nm s p ρ f)) (MP (fo T nm s p ρ f).f) 1) :
  Fun P 48 [.ref 0 0,.d (.tree T),.d (vD (.tag nm s p)),.d (eD ρ)] (MP f) 1 (rsA (useM ev fo T (.tag nm s p) ρ f)) (MP (useM ev fo T (.tag nm s p) ρ f).f) 1:=by
 have hb2:=Iw ρ p
 obtain⟨t,y,hy⟩:=Dx p
 rw[hy]at hf hb2
 rw[vD,hy]
 generalize hv:useM ev fo T (.tag nm s p) ρ f=r
 unfold useM at hv
 dsimp only at hv
 refine Fun.AB tt [] [8,9] (Tryz.func48) rfl rfl rfl lb fun g=>?_
 by_cases h:T.kind=147
 ·have hl:=hk h
  have ha:=OT (T.kids.drop 1) nm (hx h)
  rw[if_pos h]at hv
  cases hq:armF nm (T.kids.drop 1) with
  | none =>
   rw[hq]at hv ha
   dsimp only at hv
   subst hv
   repeat' ((first|refine Ga ?_|refine Gc fun hlen=>?_|refine Split.Ag (show (T.kind == 147)=true from by simpa using h) ?_|refine Ge ha ?_|refine Gh ((0:Int)≤1∧(1:Int)≤(T.kids.length:Int)) ?_|refine Gd (fun hc=>?_) fun hc=>?_)<;>conv=>whnf)
   refine RetS.ent (σ':=⟨[(8,.d .nilI),(9,.d (.int .i64 20))],183,[(0,.cells [.d (.int .i64 f)])],1,g⟩) (Ent.go [0]) ?_
   exact Aq rfl rfl rfl
  | some b =>
   rw[hq]at hv ha
   dsimp only at hv
   have h1:=he b h hq
   rw[hv]at h1
   unfold rsA MP at *
   repeat' ((first|refine Ga ?_|refine Gc fun hlen=>?_|refine Split.Ag (show (T.kind == 147)=true from by simpa using h) ?_|refine Ge ha ?_|refine Ge hb2 ?_|refine AJ.go h1 [0] ?_|refine Gh ((0:Int)≤1∧(1:Int)≤(T.kids.length:Int)) ?_|refine Gd (fun hc=>?_) fun hc=>?_)<;>conv=>whnf)
   refine RetS.ent (σ':=⟨[(8,.d (if r.e=0 then vD r.v else .nilI)),(9,.d (.int .i64 r.e))],183,[(0,.cells [.d (.int .i64 r.f)])],1,g⟩) (Ent.go [0]) ?_
   exact Aq rfl rfl rfl
 ·rw[if_neg h]at hv
  by_cases h8:T.kind=148
  ·rw[if_pos h8]at hv
   have h1:=hf h8
   rw[hv]at h1
   unfold rsA MP at *
   repeat' ((first|refine Ga ?_|refine Gc fun hlen=>?_|refine Split.AE (show (T.kind == 147)=false from by simpa using h) ?_|refine Split.Ag (show (T.kind == 148)=true from by simpa using h8) ?_|refine AJ.go h1 [0] ?_|refine Gd (fun hc=>?_) fun hc=>?_)<;>conv=>whnf)
   refine RetS.ent (σ':=⟨[(8,.d (if r.e=0 then vD r.v else .nilI)),(9,.d (.int .i64 r.e))],183,[(0,.cells [.d (.int .i64 r.f)])],1,g⟩) (Ent.go [0]) ?_
   exact Aq rfl rfl rfl
  ·rw[if_neg h8]at hv
   subst hv
   repeat' ((first|refine Ga ?_|refine Gc fun hlen=>?_|refine Split.AE (show (T.kind == 147)=false from by simpa using h) ?_|refine Split.AE (show (T.kind == 148)=false from by simpa using h8) ?_|refine Gd (fun hc=>?_) fun hc=>?_)<;>conv=>whnf)
   refine RetS.ent (σ':=⟨[(8,.d .nilI),(9,.d (.int .i64 20))],183,[(0,.cells [.d (.int .i64 f)])],1,g⟩) (Ent.go [0]) ?_
   exact Aq rfl rfl rfl
end Mc
end Go.Proofs.YtlgajkoplklkiaaGreat
namespace Go.Proofs.YtlgajkoplklkiaaGreat
namespace Tm
open Go Go.Mq
theorem Tt (T:Tree):∀(left:Int),0≤left→left≤65536→Fun P 34 [.d (.tree T),.ref 0 0] [(0,.cells [.d (.int .i64 left)])] 1 (.d (.int .i64 (A6 left T).1)) [(0,.cells [.d (.int .i64 (A6 left T).2)])] 1:=by
 induction T using Tree.ind' with
 | h0=>?_
 | h1 T hT ih=>?_
 ·intro left h1 h2
  refine Fun.AB tt [] [4] Tryz.func34 rfl rfl rfl lb fun g=>?_
  repeat' ((first|refine Ga ?_|refine Gc fun hlen=>?_|refine Gd (fun hc=>?_) fun hc=>?_)<;>conv=>whnf)
  exact AM rfl rfl (int_eq (by rw[A6])) ⟨A7 (by rw[A6]),trivial⟩ (Nat.le_refl _)
 ·intro left h1 h2
  have hw:IntKind.i64.wrap (left - 1)=left - 1:=wrap64 (by omega) (by omega)
  refine Fun.AB tt [] [4] Tryz.func34 rfl rfl rfl lb fun g=>?_
  repeat' ((first|refine Ga ?_|refine Gc fun hlen=>?_|(refine Split.mk (fun hc=>?_) (fun hc=>?_)<;>(try simp only[DK,EX,Dd,EI,DI]at hc)<;>(try simp only[decide_eq_true_eq,decide_eq_false_iff_not,beq_iff_eq,beq_eq_false_iff_ne,bne_iff_ne,bne_eq_false_iff_eq,Bool.not_eq_true',Bool.not_eq_false',Tree.Ew,Tree.Eu,Int.not_lt,Int.not_le,gt_iff_lt,ge_iff_le,ne_eq,Decidable.not_not,Int.toNat_natCast,Int.toNat_zero,Int.toNat_one,hw]at hc)))<;>conv=>whnf)
  ·exact AM rfl rfl (int_eq (by rw[BA hT,ifp])) ⟨A7 (by rw[BA hT,ifp,hw]),trivial⟩ (Nat.le_refl _)
  ·refine AY (α:=Nat×Int) (fun p=>⟨[(1,.ref 0 0),(22,.d (.trees T.kids)),(23,.d (.int .i64 T.kids.length)),(24,.d (.int .i64 p.1))],35,[(0,.cells [.d (.int .i64 p.2)])],1,g⟩)
    (fun p=>p.1≤T.kids.length∧(0≤p.2∧p.2≤65536)∧Az p.2 (T.kids.drop p.1)=Az (left - 1) T.kids) (fun p=>T.kids.length - p.1) (0,IntKind.i64.wrap (left - 1)) ⟨by omega,by rw[hw];simp only[];omega,by rw[hw];rfl⟩
    (Ent.go [0]) (fun _=>rfl) fun p hpre=>?_
   obtain⟨hp1,hp2,hp3⟩:=hpre
   repeat' ((first|refine Ga ?_|refine Gc fun hlen=>?_|refine AJ.fun (ih (T.kids.getD p.1 .nil) (AA (by omega)) p.2 (by omega) (by omega)) [0] rfl rfl rfl rfl rfl rfl ⟨⟨rfl,rfl,rfl⟩,trivial⟩ rfl ?_|refine Gd (fun hc=>?_) fun hc=>?_)<;>conv=>whnf)
   ·have hs:=FQ (T.kids.getD p.1 .nil) p.2 hp2.1
    rw[AP (by omega),Az,if_neg hc]at hp3
    exact AM rfl rfl (int_eq (by rw[BA hT,ifn,←hp3])) ⟨A7 (by rw[BA hT,ifn,←hp3]),trivial⟩ (Nat.le_refl _)
   ·have hs:=FQ (T.kids.getD p.1 .nil) p.2 hp2.1
    rw[AP (by omega),Az,if_pos hc]at hp3
    exact⟨(p.1+1,(A6 p.2 (T.kids.getD p.1 .nil)).2),⟨by simp only[];omega,⟨hs.2 hc,by simp only[];omega⟩,hp3⟩,by simp only[];omega,Ent.go [0]⟩
   ·rw[Ab (by omega),Az]at hp3
    exact AM rfl rfl (int_eq (by rw[BA hT,ifn,←hp3])) ⟨A7 (by rw[BA hT,ifn,←hp3]),trivial⟩ (Nat.le_refl _)
theorem XI {x:Tree}(hz:AD x≤65536):(conE x == 0)=AG x:=by
 cases h:AG x with
 | true =>
  have:conE x=0:=Db h hz
  rw[this];rfl
 | false =>
  have:conE x≠0:=fun e=>by rw[(Ak e).2]at h;cases h
  simpa using this
theorem V9 {x:Tree}(hz:AD x≤65536):(D0 x == 0)=AU x:=by
 cases h:AU x with
 | true =>
  have:D0 x=0:=by
   unfold D0 C5
   rw[IQ x (IL x h).full 65536 (by omega),if_pos rfl,h];rfl
  rw[this];rfl
 | false =>
  have:D0 x≠0:=fun e=>by rw[(Qu e).2]at h;cases h
  simpa using this
theorem X7 (x:Tree)(hz:AD x≤65536):Pure P 65 [.d (.tree x)] (.d (.bool (AG x))):=by
 refine Pure.AB tt [] [2] Tryz.func65 rfl rfl rfl lb fun g=>?_
 repeat' ((first|refine Ga ?_|refine Gc fun hlen=>?_|refine Ge (C3 x) ?_|refine Gd (fun hc=>?_) fun hc=>?_)<;>conv=>whnf)
 exact Gf rfl (AZ (XI hz)) rfl
theorem VC (x:Tree)(hz:AD x≤65536):Pure P 66 [.d (.tree x)] (.d (.bool (AU x))):=by
 refine Pure.AB tt [] [2] Tryz.func66 rfl rfl rfl lb fun g=>?_
 repeat' ((first|refine Ga ?_|refine Gc fun hlen=>?_|refine Ge (Jd x) ?_|refine Gd (fun hc=>?_) fun hc=>?_)<;>conv=>whnf)
 exact Gf rfl (AZ (V9 hz)) rfl
theorem M7 (s:ByteArray):Pure P 62 [.d (.str s)] (.d (.bool (DR s))):=by
 refine Pure.AB tt [] [2] Tryz.func62 rfl rfl rfl lb fun g=>?_
 repeat' ((first|refine Ga ?_|refine Gc fun hlen=>?_|refine Gd (fun hc=>?_) fun hc=>?_)<;>conv=>whnf)
 all_goals refine Gf rfl (AZ ?_) rfl
 all_goals (simp_all [-List.getD_eq_getElem?_getD,BF,DR]<;>omega)
def numT (T:Tree):Bool :=
 if T.kind=130 then decide (0≤T.n) && decide (T.n≤65536)
 else if T.kind=131 then decide (-1073741824≤T.n) && decide (T.n≤1073741824)
 else if T.kind=132 then decide (T.n=0) || decide (T.n=1)
 else if T.kind=145 then decide (1≤T.n) && decide (T.n≤5)
 else decide (T.n=0)
theorem KC (T:Tree)(hT:T≠.nil):Pure P 63 [.d (.tree T)] (.d (.bool (numT T))):=by
 refine Pure.AB tt [] [2] Tryz.func63 rfl rfl rfl lb fun g=>?_
 repeat' ((first|refine Ga ?_|refine Gc fun hlen=>?_|refine Gd (fun hc=>?_) fun hc=>?_)<;>conv=>whnf)
 all_goals refine Gf rfl (AZ ?_) rfl
 all_goals (unfold numT;simp_all [BF]<;>omega)
def allB (b:Nat→Bool):Nat→Nat→Bool
 | _,0=>true
 | i,k+1=>b i && allB b (i+1) k
theorem Fc {e n:Nat}{s:Nat→Nat}(fs:List Nat):some (AObj.row e (.gen n 1 fun i=>(fs.map fun f=>AVal.fn f []).getD i .any))=some ((AObj.row e (.gen n 1 fun i=>(fs.map fun f=>AVal.fn f []).getD i .any)).ren s):=by
 have:(fun i=>(fs.map fun f=>AVal.fn f []).getD i .any)=fun i=>((fs.map fun f=>AVal.fn f []).getD i .any).ren s:=by
  funext i
  by_cases h:i < fs.length
  ·simp[h,AVal.ren,renL]
  ·simp[List.getElem?_eq_none (show fs.length≤i by omega),AVal.ren]
 simp only[AObj.ren,RowC.ren]
 rw[←this]
theorem Dj {k:Nat}(fs:List Nat)(i:Nat):((fs.map fun f=>AVal.fn f []).getD i .any).under k=true:=by
 by_cases h:i < fs.length
 ·simp[h,AVal.under,DJ]
 ·simp[List.getElem?_eq_none (show fs.length≤i by omega),AVal.under]
theorem Fj (T:Tree)(hT:T≠.nil)(more:Bool)(fs:List Nat)(b:Nat→Bool)(hl:fs.length≤8)(h:∀i,i < fs.length→i < T.kids.length→Pure P (fs.getD i 0) [.d (.tree (T.kids.getD i .nil))] (.d (.bool (b i)))) :
  Fun P 64 [.d (.tree T),.d (.bool more),.row 0 fs.length] [(0,.row 33 (.gen fs.length 1 fun i=>(fs.map fun f=>AVal.fn f []).getD i .any))] 1
   (.d (.bool (decide (fs.length≤T.kids.length) && (more || decide (T.kids.length≤fs.length)) && allB b 0 fs.length))) [] 1:=by
 refine Fun.AB tt [] [6] Tryz.func64 rfl rfl rfl lb fun g=>?_
 refine Ls (Ent.P2 0 (.gen fs.length 1 fun i=>.fn (fs.getD i 0) []) rfl rfl rfl ?_) ?_
 ·intro i hi
  have hi:i < fs.length:=by simpa [RowC.len,RowC.sz] using hi
  simp[RowC.cell,hi]
 generalize hn:fs.length=n at *
 repeat' ((first|refine Ga ?_|refine Gc fun hlen=>?_|refine Gd (fun hc=>?_) fun hc=>?_)<;>conv=>whnf)
 ·refine AM rfl rfl (AZ ?_) trivial (Nat.le_refl _)
  rw[decide_eq_false (by omega)];rfl
 ·refine AM rfl rfl (AZ ?_) trivial (Nat.le_refl _)
  rw[show more=false by assumption,decide_eq_false (show ¬T.kids.length≤n by omega)];simp
 all_goals
  have e:(decide (n≤T.kids.length) && (more || decide (T.kids.length≤n)) && allB b 0 n)=allB b 0 n:=by
   rw[decide_eq_true (by omega:n≤T.kids.length)]
   simp_all
  rw[e]
  refine AY (α:=Nat) (fun p=>⟨[(0,.d (.tree T)),(31,.row 0 n),(32,.d (.int .i64 n)),(33,.d (.int .i64 p))],49,[(0,.row 33 (.gen n 1 fun i=>.fn (fs.getD i 0) []))],1,g⟩)
    (fun p=>p≤n∧allB b p (n - p)=allB b 0 n) (fun p=>n - p) 0 ⟨by omega,rfl⟩
    (Ent.re [0] rfl rfl rfl rfl rfl rfl (by repeat' first|exact trivial|apply And.intro|rfl|(refine int_eq ?_;rw[wrap64]<;>omega)) (by repeat' first|exact trivial|apply And.intro|rfl|exact fun i=>rfl)) (fun _=>rfl) fun p hpre=>?_
  obtain⟨hp1,hp2⟩:=hpre
  by_cases hp:p < n
  ·have hx:Pure P (fs.getD (p*1) 0) [.d (.tree (T.kids.getD p .nil))] (.d (.bool (b p))):=by
    rw[Nat.mul_one];exact h p (by omega) (by omega)
   obtain⟨k,hk⟩:∃k,n - p=k+1:=⟨n - p - 1,by omega⟩
   rw[hk,allB]at hp2
   generalize b p=bp at *
   cases bp with
   | true =>
    repeat' ((first|refine Ga ?_|refine Gc fun hlen=>?_|refine Side.mk (show (p:Int).toNat*1 < n from by omega) ?_|refine Ge hx ?_|refine Gd (fun hc=>?_) fun hc=>?_)<;>conv=>whnf)
    exact⟨p+1,⟨by omega,by rw[←hp2,Bool.true_and];congr 1;omega⟩,by omega,Ent.re [0] rfl rfl rfl rfl rfl rfl (by repeat' first|exact trivial|apply And.intro|rfl|(refine int_eq ?_;rw[wrap64]<;>omega)) (by repeat' first|exact trivial|apply And.intro|rfl|exact fun i=>rfl)⟩
   | false =>
    rw[←hp2]
    repeat' ((first|refine Ga ?_|refine Gc fun hlen=>?_|refine Side.mk (show (p:Int).toNat*1 < n from by omega) ?_|refine Ge hx ?_|refine Gd (fun hc=>?_) fun hc=>?_)<;>conv=>whnf)
    exact AM rfl rfl (AZ rfl) trivial (Nat.le_refl _)
  ·rw[show n - p=0 by omega]at hp2
   rw[←hp2]
   repeat' ((first|refine Ga ?_|refine Gc fun hlen=>?_|refine Gd (fun hc=>?_) fun hc=>?_)<;>conv=>whnf)
   exact AM rfl rfl (AZ rfl) trivial (Nat.le_refl _)
theorem Vf (T:Tree)(hT:T≠.nil):Pure P 64 [.d (.tree T),.d (.bool false),.d .nils] (.d (.bool (decide (T.kids.length=0)))):=by
 refine Pure.AB tt [] [6] Tryz.func64 rfl rfl rfl lb fun g=>?_
 repeat' ((first|refine Ga ?_|refine Gc fun hlen=>?_|refine Gd (fun hc=>?_) fun hc=>?_)<;>conv=>whnf)
 ·refine Gf rfl (AZ ?_) rfl
  rw[decide_eq_false (by omega)]
 ·refine AY (α:=Nat) (fun p=>⟨[(32,.d (.int .i64 0)),(33,.d (.int .i64 0))],49,[],0,g⟩) (fun p=>True) (fun p=>0) 0 trivial
    (Ent.go []) (fun _=>rfl) fun p hpre=>?_
  repeat' ((first|refine Ga ?_|refine Gc fun hlen=>?_|refine Gd (fun hc=>?_) fun hc=>?_)<;>conv=>whnf)
  refine Gf rfl (AZ ?_) rfl
  rw[decide_eq_true (by omega)]
def Cv (rise:Bool)(pre:List Tree):List Tree→Bool
 | []=>true
 | x::l=>pre.all (fun y=>ED rise y.name x.name) && Cv rise (pre++[x]) l
def Ft (k:Int):Bool:=decide (k=138) || decide (k=146)
def FZ (T:Tree):Bool:=decide (T.mark=ByteArray.empty) && (Ft T.kind == !decide (T.name=ByteArray.empty)) && (!Ft T.kind || DR T.name) && numT T
mutual
def AF:Tree→Bool
 | .nil=>false
 | .node k n nm mk l=>FZ (.node k n nm mk l) &&
  (if k=130∨k=131∨k=132∨k=133 then decide (l.length=0)
    else if k=134∨k=146 then decide (l.length=2) && AG (l.getD 0 .nil) && C6 1 l
    else if k=139 then decide (l.length=2) && AU (l.getD 0 .nil) && C6 1 l
    else if k=135∨k=142∨k=143∨k=145 then decide (l.length=2) && C6 0 l && C6 1 l
    else if k=136 then DP 137 0 l && Cv true [] l
    else if k=138 then decide (l.length=1) && C6 0 l
    else if k=140 then decide (l.length=2) && C6 0 l && AG (l.getD 1 .nil)
    else if k=141 then decide (l.length=3) && AG (l.getD 0 .nil) && C6 1 l && AG (l.getD 2 .nil)
    else if k=144 then decide (l.length=3) && C6 0 l && C6 1 l && C6 2 l
    else if k=147 then decide (1 < l.length) && C6 0 l && DP 149 1 l && Cv false [] (l.drop 1)
    else if k=148 then decide (2 < l.length) && C6 0 l && AG (l.getD 1 .nil) && DP 149 2 l && Cv false [] (l.drop 2)
    else false)
def C6 (i:Nat):List Tree→Bool
 | []=>false
 | x::l=>match i with
  | 0=>AF x
  | i+1=>C6 i l
def DP (kind:Int)(i:Nat):List Tree→Bool
 | []=>true
 | x::l=>match i with
  | 0=>A9 kind x && DP kind 0 l
  | i+1=>DP kind i l
def A9 (kind:Int):Tree→Bool
 | .nil=>false
 | .node k n nm mk l=>decide (k=kind) && decide (n=0) && decide (mk=ByteArray.empty) && DR nm && decide (l.length=1) && C6 0 l
end
theorem Jv:∀(l:List Tree) (i:Nat),C6 i l=AF (l.getD i .nil)
 | [],i=>by rw[C6];simp[AF]
 | x::l,0=>by rw[C6];rfl
 | x::l,i+1=>by rw[C6];exact Jv l i
def Bf (kind:Int):List Tree→Bool
 | []=>true
 | x::l=>A9 kind x && Bf kind l
theorem GN (kind:Int):∀(l:List Tree) (i:Nat),DP kind i l=Bf kind (l.drop i)
 | [],i=>by rw[DP];simp[Bf]
 | x::l,0=>by rw[DP,GN kind l 0];rfl
 | x::l,i+1=>by rw[DP];exact GN kind l i
theorem D9 {T:Tree}(h:T≠.nil)(kind:Int):A9 kind T=(decide (T.kind=kind) && decide (T.n=0) && decide (T.mark=ByteArray.empty) && DR T.name && decide (T.kids.length=1) && AF (T.kids.getD 0 .nil)):=by
 cases T with
 | nil=>exact absurd rfl h
 | node k n nm mk l=>rw[A9,Jv];rfl
theorem At {T:Tree}(h:T≠.nil):AF T=(FZ T &&
  (if T.kind=130∨T.kind=131∨T.kind=132∨T.kind=133 then decide (T.kids.length=0)
    else if T.kind=134∨T.kind=146 then decide (T.kids.length=2) && AG (T.kids.getD 0 .nil) && AF (T.kids.getD 1 .nil)
    else if T.kind=139 then decide (T.kids.length=2) && AU (T.kids.getD 0 .nil) && AF (T.kids.getD 1 .nil)
    else if T.kind=135∨T.kind=142∨T.kind=143∨T.kind=145 then decide (T.kids.length=2) && AF (T.kids.getD 0 .nil) && AF (T.kids.getD 1 .nil)
    else if T.kind=136 then Bf 137 T.kids && Cv true [] T.kids
    else if T.kind=138 then decide (T.kids.length=1) && AF (T.kids.getD 0 .nil)
    else if T.kind=140 then decide (T.kids.length=2) && AF (T.kids.getD 0 .nil) && AG (T.kids.getD 1 .nil)
    else if T.kind=141 then decide (T.kids.length=3) && AG (T.kids.getD 0 .nil) && AF (T.kids.getD 1 .nil) && AG (T.kids.getD 2 .nil)
    else if T.kind=144 then decide (T.kids.length=3) && AF (T.kids.getD 0 .nil) && AF (T.kids.getD 1 .nil) && AF (T.kids.getD 2 .nil)
    else if T.kind=147 then decide (1 < T.kids.length) && AF (T.kids.getD 0 .nil) && Bf 149 (T.kids.drop 1) && Cv false [] (T.kids.drop 1)
    else if T.kind=148 then decide (2 < T.kids.length) && AF (T.kids.getD 0 .nil) && AG (T.kids.getD 1 .nil) && Bf 149 (T.kids.drop 2) && Cv false [] (T.kids.drop 2)
    else false)):=by
 cases T with
 | nil=>exact absurd rfl h
 | node k n nm mk l=>rw[AF];simp only[Jv,GN];rfl
def labT (kind:Int)(rise:Bool)(pre:List Tree):List Tree→Bool
 | []=>true
 | x::l=>A9 kind x && pre.all (fun y=>ED rise y.name x.name) && labT kind rise (pre++[x]) l
theorem FO (kind:Int)(rise:Bool):∀(l pre:List Tree),labT kind rise pre l=(Bf kind l && Cv rise pre l)
 | [],pre=>rfl
 | x::l,pre=>by
  rw[labT,Bf,Cv,FO kind rise l]
  cases A9 kind x<;>cases Bf kind l<;>cases pre.all (fun y=>ED rise y.name x.name)<;>rfl
def HB (pre:List Tree):ByteArray:=(pre.getLast?.map Tree.name).getD ByteArray.empty
theorem TK (x:ByteArray):ltB x ByteArray.empty=false:=by
 unfold ltB
 have:ByteArray.empty.toList=[]:=by kernel_rfl
 rw[this]
 cases x.toList<;>rfl
def topN (rise:Bool)(pre:List Tree):Prop:=rise=true→∀y∈pre,y.name=HB pre∨ltB y.name (HB pre)=true
theorem Lh (pre:List Tree)(x:Tree):HB (pre++[x])=x.name:=by simp[HB]
def EE (pre:List Tree):List ByteArray:=(pre.map Tree.name).reverse
theorem RI {pre:List Tree}{s:ByteArray}:memB s (EE pre)=pre.any fun y=>decide (y.name=s):=by
 rw[Bool.eq_iff_iff,FB,List.any_eq_true]
 unfold EE
 simp only[List.mem_reverse,List.mem_map,decide_eq_true_eq]
theorem Pu:∀a b:List UInt8,a≠b→Op.bytesLess a b=true∨Op.bytesLess b a=true
 | [],[],h=>absurd rfl h
 | [],_::_,_=>.inl rfl
 | _::_,[],_=>.inr rfl
 | x::a,y::b,h=>by
  simp only[Op.bytesLess,Bool.or_eq_true,Bool.and_eq_true,decide_eq_true_eq,beq_iff_eq]
  by_cases hxy:x=y
  ·subst hxy
   rcases Pu a b (fun e=>h (by rw[e])) with h1|h1
   ·exact .inl (.inr ⟨rfl,h1⟩)
   ·exact .inr (.inr ⟨rfl,h1⟩)
  ·rcases UInt8.lt_or_lt_of_ne hxy with h1|h1
   ·exact .inl (.inl h1)
   ·exact .inr (.inl h1)
theorem Sy (a:ByteArray):ltB a a=false:=Q8 _
theorem Th {a b:ByteArray}(h:a≠b):ltB a b=true∨ltB b a=true:=Pu _ _ (fun e=>h (DK.1 (by rw[e];exact beq_self_eq_true _)))
theorem Mz {pre:List Tree}(h:pre≠[]):HB pre∈EE pre:=by
 unfold HB EE
 rw[List.getLast?_eq_some_getLast h]
 simp only[Option.map_some,Option.getD_some,List.mem_reverse,List.mem_map]
 exact⟨_,List.getLast_mem h,rfl⟩
theorem Lb {rise:Bool}{pre:List Tree}{s:ByteArray}(ht:topN rise pre):pre.all (fun y=>ED rise y.name s)=(!(memB s (EE pre)) && (!rise || !(ltB s (HB pre)))):=by
 rw[RI]
 cases rise with
 | false =>
  rw[List.not_any_eq_all_not]
  simp[ED]
 | true =>
  simp only[KN,Bool.not_true,Bool.false_or]
  rw[Bool.eq_iff_iff,List.all_eq_true,Bool.and_eq_true,Bool.not_eq_true',Bool.not_eq_true',List.any_eq_false]
  simp only[decide_eq_true_eq]
  constructor
  ·intro h
   refine⟨fun y hy e=>?_,?_⟩
   ·have:=h y hy;rw[e,Sy]at this;cases this
   ·by_cases hp:pre=[]
    ·subst hp;exact TK s
    ·have hm:=Mz hp
     unfold EE at hm
     simp only[List.mem_reverse,List.mem_map]at hm
     obtain⟨y,hy,e⟩:=hm
     have:=h y hy
     rw[e]at this
     cases hq:ltB s (HB pre) with
     | false=>rfl
     | true=>have:=Mw this hq;rw[Sy]at this;cases this
  ·rintro⟨h1,h2⟩ y hy
   have hp:pre≠[]:=by intro e;rw[e]at hy;cases hy
   have hm:=Mz hp
   unfold EE at hm
   simp only[List.mem_reverse,List.mem_map]at hm
   obtain⟨z,hz,e⟩:=hm
   have hne:HB pre≠s:=fun e2=>h1 z hz (by rw[e,e2])
   have hlt:ltB (HB pre) s=true:=by
    rcases Th hne with h|h
    ·exact h
    ·rw[h]at h2;cases h2
   rcases ht rfl y hy with e2|e2
   ·rw[e2];exact hlt
   ·exact Mw e2 hlt
theorem TP {rise:Bool}{pre:List Tree}{x:Tree}(h:pre.all (fun y=>ED rise y.name x.name)=true):topN rise (pre++[x]):=by
 intro hr y hy
 rw[Lh]
 subst hr
 rcases List.mem_append.1 hy with hy|hy
 ·have:=List.all_eq_true.1 h y hy
  rw[KN]at this
  exact .inr this
 ·exact .inl (by rw[List.mem_singleton.1 hy])
theorem Pw (pre:List Tree)(x:Tree):EE (pre++[x])=x.name::EE pre:=by simp[EE]
theorem Ka (l:List Tree)(hF:∀x∈l,Full x)(kind:Int)(rise:Bool)(ih:∀x∈l,∀y∈x.kids,Pure P 35 [.d (.tree y)] (.d (.bool (AF y)))) :
  Pure P 67 [.d (.trees l),.d (.int .i64 kind),.d (.bool rise)] (.d (.bool (labT kind rise [] l))):=by
 refine Pure.AB tt [] [6] Tryz.func67 rfl rfl rfl lb fun g=>?_
 repeat' ((first|refine Ga ?_|refine Gc fun hlen=>?_|refine Gd (fun hc=>?_) fun hc=>?_)<;>conv=>whnf)
 refine AY (α:=Nat) (fun p=>⟨[(1,.d (.int .i64 kind)),(2,.d (.bool rise)),(7,.mp 0),(8,.d (.str (HB (l.take p)))),(12,.d (.trees l)),(13,.d (.int .i64 l.length)),(14,.d (.int .i64 p))],83,[(0,.set (EE (l.take p)))],1,g⟩)
    (fun p=>p≤l.length∧topN rise (l.take p)∧labT kind rise (l.take p) (l.drop p)=labT kind rise [] l) (fun p=>l.length - p) 0 ⟨by omega,fun _ y hy=>by simp at hy,rfl⟩
    (Ent.go [0]) (fun _=>rfl) fun p hpre=>?_
 obtain⟨hp1,hp2,hp3⟩:=hpre
 by_cases hlt:p < l.length
 ·have hmem:=AA hlt
  have hx:=hF _ hmem
  rw[AP hlt,labT,D9 hx.ne,D8 hlt,Lb hp2]at hp3
  have hk:=Fj (l.getD p .nil) hx.ne false [35] (fun _=>AF ((l.getD p .nil).kids.getD 0 .nil)) (by decide) (fun i hi hi2=>by
   have:i=0:=by simp only[List.length_singleton]at hi;omega
   subst this
   exact ih _ hmem _ (AA hi2))
  have hkb:(decide ([35].length≤(l.getD p .nil).kids.length) && (false || decide ((l.getD p .nil).kids.length≤[35].length)) && allB (fun _=>AF ((l.getD p .nil).kids.getD 0 .nil)) 0 [35].length)=(decide ((l.getD p .nil).kids.length=1) && AF ((l.getD p .nil).kids.getD 0 .nil)):=by
   rw[Bool.eq_iff_iff]
   simp only[List.length_singleton,allB,Bool.and_eq_true,decide_eq_true_eq,Bool.or_eq_true,Bool.and_true]
   constructor
   ·rintro⟨⟨h1,h2⟩,h3⟩
    exact⟨by
     rcases h2 with h2|h2;· cases h2
     ·omega,h3⟩
   ·rintro⟨h1,h2⟩
    exact⟨⟨by omega,.inr (by omega)⟩,h2⟩
  rw[hkb]at hk
  have hps:=Lb (s:=(l.getD p .nil).name) hp2
  have hln:HB (l.take (p+1))=(l.getD p .nil).name:=by rw[←D8 hlt,Lh]
  have hnm:EE (l.take (p+1))=(l.getD p .nil).name::EE (l.take p):=by rw[←D8 hlt,Pw]
  repeat' ((first|refine Ga ?_|refine Gc fun hlen=>?_|refine Side.mk hx.ne ?_|refine Ge (M7 _) ?_|refine AJ.fun hk [1] rfl rfl rfl rfl rfl rfl ⟨⟨rfl,Fc [35],Dj [35]⟩,trivial⟩ rfl ?_|refine Gd (fun hc=>?_) fun hc=>?_)<;>conv=>whnf)
  all_goals first
   | (refine Gf rfl (AZ ?_) rfl;rw[←hp3];simp_all [-List.getD_eq_getElem?_getD,BF,ltB];done)
   | (refine Gf rfl (AZ ?_) rfl;rw[←hp3];simp_all [-List.getD_eq_getElem?_getD,BF,ltB];omega)
   | (refine⟨p+1,⟨by omega,(by rw[←D8 hlt];refine TP ?_;rw[hps];simp_all [-List.getD_eq_getElem?_getD,BF,ltB]),(by rw[←hp3];simp_all [-List.getD_eq_getElem?_getD,BF,ltB])⟩,by omega,Ent.re [0] rfl rfl rfl rfl rfl rfl (by repeat' first|exact trivial|apply And.intro|rfl|(rw[hln];rfl)|(refine int_eq ?_;rw[wrap64]<;>omega)) (by repeat' first|exact trivial|apply And.intro|rfl|(rw[hnm];rfl))⟩;done)
   | trace_state
 ·repeat' ((first|refine Ga ?_|refine Gc fun hlen=>?_|refine Gd (fun hc=>?_) fun hc=>?_)<;>conv=>whnf)
  refine Gf rfl (AZ ?_) rfl
  rw[←hp3,Ab (by omega),labT]
end Tm
end Go.Proofs.YtlgajkoplklkiaaGreat
namespace Go.Proofs.YtlgajkoplklkiaaGreat
namespace Tm
open Go Go.Mq
theorem lenq (n k:Nat):(decide (k≤n) && decide (n≤k))=decide (n=k):=by
 rw[Bool.eq_iff_iff];simp;omega
theorem JQ (T:Tree)(hF:Full T)(i:Nat)(hi:i≤8)(ih:∀x∈T.kids,∀y∈x.kids,Pure P 35 [.d (.tree y)] (.d (.bool (AF y)))) :
  Pure P 68 [.d (.tree T),.d (.int .i64 i)] (.d (.bool (decide (i < T.kids.length) && labT 149 false [] (T.kids.drop i)))):=by
 have hT:=hF.ne
 have hl:=Ka (T.kids.drop i) (fun x hx=>hF.kids x (List.mem_of_mem_drop hx)) 149 false (fun x hx=>ih x (List.mem_of_mem_drop hx))
 refine Pure.AB tt [] [4] Tryz.func68 rfl rfl rfl lb fun g=>?_
 repeat' ((first|refine Ga ?_|refine Gc fun hlen=>?_|refine Side.mk (show (0:Int)≤(i:Int)∧(i:Int)≤(T.kids.length:Int) from by omega) ?_|refine Ge hl ?_|refine Gd (fun hc=>?_) fun hc=>?_)<;>conv=>whnf)
 ·refine Gf rfl (AZ ?_) rfl
  rw[decide_eq_true (by omega),Bool.true_and]
 ·refine Gf rfl (AZ ?_) rfl
  rw[decide_eq_false (by omega)];rfl
theorem T1 (T:Tree)(hF:Full T)(hz:AD T≤65536):Pure P 35 [.d (.tree T)] (.d (.bool (AF T))):=by
 suffices h:Pure P 35 [.d (.tree T)] (.d (.bool (AF T)))∧∀x∈T.kids,Pure P 35 [.d (.tree x)] (.d (.bool (AF x))) from h.1
 induction T using Tree.ind' with
 | h0=>exact absurd rfl hF.ne
 | h1 T hT ih=>?_
 have hsz:=AI hT
 have hzx:∀x∈T.kids,AD x≤65536:=fun x hx=>by have:=AH hx;omega
 refine⟨?_,fun x hx=>(ih x hx (hF.kids x hx) (hzx x hx)).1⟩
 have ih1:∀x∈T.kids,Pure P 35 [.d (.tree x)] (.d (.bool (AF x))):=fun x hx=>(ih x hx (hF.kids x hx) (hzx x hx)).1
 have ih2:∀x∈T.kids,∀y∈x.kids,Pure P 35 [.d (.tree y)] (.d (.bool (AF y))):=fun x hx=>(ih x hx (hF.kids x hx) (hzx x hx)).2
 have hl:=Ka T.kids hF.kids 137 true ih2
 have ha1:=JQ T hF 1 (by decide) ih2
 have ha2:=JQ T hF 2 (by decide) ih2
 clear ih
 have k0:=Vf T hT
 have kc:∀i,i < T.kids.length→Pure P 65 [.d (.tree (T.kids.getD i .nil))] (.d (.bool (AG (T.kids.getD i .nil)))):=fun i hi=>X7 _ (hzx _ (AA hi))
 have kk:∀i,i < T.kids.length→Pure P 66 [.d (.tree (T.kids.getD i .nil))] (.d (.bool (AU (T.kids.getD i .nil)))):=fun i hi=>VC _ (hzx _ (AA hi))
 have kt:∀i,i < T.kids.length→Pure P 35 [.d (.tree (T.kids.getD i .nil))] (.d (.bool (AF (T.kids.getD i .nil)))):=fun i hi=>ih1 _ (AA hi)
 have K1:=fun more=>Fj T hT more [35] (fun i=>AF (T.kids.getD i .nil)) (by decide) (fun i hi h2=>by
  simp only[List.length_cons,List.length_nil]at hi
  match i,hi with
  | 0,_=>exact kt 0 h2)
 have Kct:=fun more=>Fj T hT more [65,35] (fun i=>if i=0 then AG (T.kids.getD i .nil) else AF (T.kids.getD i .nil)) (by decide) (fun i hi h2=>by
  simp only[List.length_cons,List.length_nil]at hi
  match i,hi with
  | 0,_=>exact kc 0 h2
  | 1,_=>exact kt 1 h2)
 have Kkt:=fun more=>Fj T hT more [66,35] (fun i=>if i=0 then AU (T.kids.getD i .nil) else AF (T.kids.getD i .nil)) (by decide) (fun i hi h2=>by
  simp only[List.length_cons,List.length_nil]at hi
  match i,hi with
  | 0,_=>exact kk 0 h2
  | 1,_=>exact kt 1 h2)
 have Ktt:=fun more=>Fj T hT more [35,35] (fun i=>AF (T.kids.getD i .nil)) (by decide) (fun i hi h2=>by
  simp only[List.length_cons,List.length_nil]at hi
  match i,hi with
  | 0,_=>exact kt 0 h2
  | 1,_=>exact kt 1 h2)
 have Ktc:=fun more=>Fj T hT more [35,65] (fun i=>if i=0 then AF (T.kids.getD i .nil) else AG (T.kids.getD i .nil)) (by decide) (fun i hi h2=>by
  simp only[List.length_cons,List.length_nil]at hi
  match i,hi with
  | 0,_=>exact kt 0 h2
  | 1,_=>exact kc 1 h2)
 have Kctc:=fun more=>Fj T hT more [65,35,65] (fun i=>if i=1 then AF (T.kids.getD i .nil) else AG (T.kids.getD i .nil)) (by decide) (fun i hi h2=>by
  simp only[List.length_cons,List.length_nil]at hi
  match i,hi with
  | 0,_=>exact kc 0 h2
  | 1,_=>exact kt 1 h2
  | 2,_=>exact kc 2 h2)
 have Kttt:=fun more=>Fj T hT more [35,35,35] (fun i=>AF (T.kids.getD i .nil)) (by decide) (fun i hi h2=>by
  simp only[List.length_cons,List.length_nil]at hi
  match i,hi with
  | 0,_=>exact kt 0 h2
  | 1,_=>exact kt 1 h2
  | 2,_=>exact kt 2 h2)
 clear ih1 ih2 kc kk kt
 have hnum:=KC T hT
 simp only[List.length_cons,List.length_nil]at K1 Kct Kkt Ktt Ktc Kctc Kttt
 refine Pure.AB tt [] [2] Tryz.func35 rfl rfl rfl lb fun g=>?_
 repeat' ((first|refine Ga ?_|refine Gc fun hlen=>?_|refine Ge (M7 _) ?_|refine Ge hnum ?_|refine Ge k0 ?_|refine Ge hl ?_|refine Ge ha1 ?_|refine Ge ha2 ?_|refine AJ.fun (K1 _) [0] rfl rfl rfl rfl rfl rfl ⟨⟨rfl,Fc [35],Dj [35]⟩,trivial⟩ rfl ?_|refine AJ.fun (Kct _) [0] rfl rfl rfl rfl rfl rfl ⟨⟨rfl,Fc [65,35],Dj [65,35]⟩,trivial⟩ rfl ?_|refine AJ.fun (Kkt _) [0] rfl rfl rfl rfl rfl rfl ⟨⟨rfl,Fc [66,35],Dj [66,35]⟩,trivial⟩ rfl ?_|refine AJ.fun (Ktt _) [0] rfl rfl rfl rfl rfl rfl ⟨⟨rfl,Fc [35,35],Dj [35,35]⟩,trivial⟩ rfl ?_|refine AJ.fun (Ktc _) [0] rfl rfl rfl rfl rfl rfl ⟨⟨rfl,Fc [35,65],Dj [35,65]⟩,trivial⟩ rfl ?_|refine AJ.fun (Kctc _) [0] rfl rfl rfl rfl rfl rfl ⟨⟨rfl,Fc [65,35,65],Dj [65,35,65]⟩,trivial⟩ rfl ?_|refine AJ.fun (Kttt _) [0] rfl rfl rfl rfl rfl rfl ⟨⟨rfl,Fc [35,35,35],Dj [35,35,35]⟩,trivial⟩ rfl ?_|refine Gd (fun hc=>?_) fun hc=>?_)<;>conv=>whnf)
 all_goals refine Gf rfl (AZ ?_) rfl
 all_goals clear k0 hl ha1 ha2 K1 Kct Kkt Ktt Ktc Kctc Kttt hnum hsz hzx
 all_goals rw[At hT]
 all_goals first
  | (simp only[F5]at *;simp_all [-List.getD_eq_getElem?_getD,BF,FZ,Ft,allB,FO,lenq,Bool.and_assoc];done)
  | (simp_all [-List.getD_eq_getElem?_getD,BF,FZ];done)
  | (simp only[F5]at *;simp_all [-List.getD_eq_getElem?_getD,BF,FZ,Ft,allB,FO,lenq,Bool.and_assoc];intro h1;have h2:=(show 1≤T.kids.length→AF (T.kids.getD 0 .nil)=false from by assumption) (by omega);simp_all;done)
  | (simp only[F5]at *;simp_all [-List.getD_eq_getElem?_getD,BF,FZ,Ft,allB,FO,lenq,Bool.and_assoc];intro h1 h3;have h2:=(show 2≤T.kids.length→AF (T.kids.getD 0 .nil)=true→AG (T.kids.getD 1 .nil)=false from by assumption) (by omega) h3;simp_all;done)
def Shw (T:Tree):Prop:=Sh T∨AF T=true∨A9 137 T=true∨A9 149 T=true
theorem Shw.ne {T:Tree}(h:Shw T):T≠.nil:=by
 intro e
 subst e
 rcases h with (h|h)|h|h|h
 ·rw[AG]at h;cases h
 ·rw[AU]at h;cases h
 ·rw[AF]at h;cases h
 ·rw[A9]at h;cases h
 ·rw[A9]at h;cases h
theorem E7 {T:Tree}(h:Sh T):T.kind < 130:=by
 rcases h with h|h
 ·have hT:T≠.nil:=by intro e;subst e;rw[AG]at h;cases h
  rw[Am hT,Bool.and_eq_true]at h
  obtain⟨_,h⟩:=h
  apply Decidable.byContradiction
  intro hn
  rw[ifn,ifn,ifn,ifn,ifn,ifn]at h
  cases h
 ·have hT:T≠.nil:=by intro e;subst e;rw[AU]at h;cases h
  rw[BP hT]at h
  apply Decidable.byContradiction
  intro hn
  rw[ifn,ifn]at h
  cases h
structure HeadP (T:Tree):Prop where
 ne:T≠.nil
 kind:130≤T.kind∧T.kind≤148∧T.kind≠137
 n130:T.kind=130→0≤T.n∧T.n≤65536
 n131:T.kind=131 → -1073741824≤T.n∧T.n≤1073741824
 n132:T.kind=132→T.n=0∨T.n=1
 n145:T.kind=145→1≤T.n∧T.n≤5
 size:T.name.size≤160
 name:(T.kind=138∨T.kind=146)↔T.name≠ByteArray.empty
theorem CW {kind:Int}:∀{l:List Tree},Bf kind l=true→∀x∈l,A9 kind x=true
 | [],_,x,hx=>by cases hx
 | y::l,h,x,hx=>by
  rw[Bf,Bool.and_eq_true]at h
  rcases List.mem_cons.1 hx with rfl|hx
  ·exact h.1
  ·exact CW h.2 x hx
theorem Tp {l:List Tree}(h:l.length=3){x:Tree}(hx:x∈l):x=l.getD 0 .nil∨x=l.getD 1 .nil∨x=l.getD 2 .nil:=by
 match l,h with
 | [a,b,c],_=>simpa using hx
theorem KR {l:List Tree}{x:Tree}(hx:x∈l)(k:Nat)(hk:k≤l.length):(∃i,i < k∧x=l.getD i .nil)∨x∈l.drop k:=by
 rw[←List.take_append_drop k l]at hx
 rcases List.mem_append.1 hx with hx|hx
 ·obtain⟨i,hi,rfl⟩:=List.getElem_of_mem hx
  have hi':i < k:=by simp at hi;omega
  refine .inl ⟨i,hi',?_⟩
  rw[List.getElem_take,List.getD_eq_getElem?_getD,List.getElem?_eq_getElem (by omega)];rfl
 ·exact .inr hx
theorem L1 {s:ByteArray}(h:DR s=true):1≤s.size∧s.size≤160:=by
 unfold DR at h
 simp only[Bool.and_eq_true,decide_eq_true_eq]at h
 omega
theorem BR {T:Tree}(h:AF T=true):HeadP T∧∀x∈T.kids,Shw x:=by
 have hT:T≠.nil:=by intro e;subst e;rw[AF]at h;cases h
 rw[At hT,Bool.and_eq_true]at h
 obtain⟨hh,h⟩:=h
 unfold FZ at hh
 simp only[Bool.and_eq_true,decide_eq_true_eq,beq_iff_eq,Bool.or_eq_true]at hh
 obtain⟨⟨⟨h1,h2⟩,h3⟩,h4⟩:=hh
 have hkind:T.kind=130∨T.kind=131∨T.kind=132∨T.kind=133∨T.kind=134∨T.kind=146∨T.kind=139∨T.kind=135∨T.kind=142∨T.kind=143∨T.kind=145∨T.kind=136∨T.kind=138∨T.kind=140∨T.kind=141∨T.kind=144∨T.kind=147∨T.kind=148:=by
  apply Decidable.byContradiction
  intro hn
  rw[ifn,ifn,ifn,ifn,ifn,ifn,ifn,ifn,ifn,ifn,ifn]at h
  cases h
 have hnm:(T.kind=138∨T.kind=146)↔T.name≠ByteArray.empty:=by
  unfold Ft at h2
  by_cases hq:T.name=ByteArray.empty
  ·rw[decide_eq_true hq]at h2
   simp only[Bool.not_true,Bool.or_eq_false_iff,decide_eq_false_iff_not]at h2
   exact⟨fun hk=>absurd hk (by omega),fun hk=>absurd hq hk⟩
  ·rw[decide_eq_false hq]at h2
   simp only[Bool.not_false,Bool.or_eq_true,decide_eq_true_eq]at h2
   exact⟨fun _=>hq,fun _=>h2⟩
 have hsz:T.name.size≤160:=by
  by_cases hq:T.name=ByteArray.empty
  ·rw[hq];decide
  ·have hk:=hnm.2 hq
   have:Ft T.kind=true:=by unfold Ft;simpa using hk
   rw[this]at h3
   rcases h3 with h3|h3
   ·cases h3
   ·exact (L1 h3).2
 unfold numT at h4
 refine⟨⟨hT,by omega,fun hk=>?_,fun hk=>?_,fun hk=>?_,fun hk=>?_,hsz,hnm⟩,fun x hx=>?_⟩
 ·rw[if_pos hk]at h4;simpa using h4
 ·rw[ifn,if_pos hk]at h4;simpa using h4
 ·rw[ifn,ifn,if_pos hk]at h4;simpa using h4
 ·rw[ifn,ifn,ifn,if_pos hk]at h4;simpa using h4
 ·clear h1 h2 h3 h4 hnm hsz
  rcases hkind with hk|hk|hk|hk|hk|hk|hk|hk|hk|hk|hk|hk|hk|hk|hk|hk|hk|hk
  all_goals simp[hk,-List.getD_eq_getElem?_getD]at h
  all_goals first
   | (rw[h]at hx;cases hx;done)
   | (rw[FT h.1 hx];exact .inr (.inl h.2))
   | (rcases B8 h.1.1 hx with e|e
      ·rw[e];first|exact .inl (.inl h.1.2)|exact .inl (.inr h.1.2)|exact .inr (.inl h.1.2)
      ·rw[e];first|exact .inl (.inl h.2)|exact .inr (.inl h.2))
   | exact .inr (.inr (.inl (CW h.1 x hx)))
   | (rcases Tp h.1.1.1 hx with e|e|e
      ·rw[e];first|exact .inl (.inl h.1.1.2)|exact .inr (.inl h.1.1.2)
      ·rw[e];exact .inr (.inl h.1.2)
      ·rw[e];first|exact .inl (.inl h.2)|exact .inr (.inl h.2))
   | skip
  ·rcases KR hx 1 (by omega) with⟨i,hi,e⟩|hx
   ·have:i=0:=by omega
    subst this
    rw[e];exact .inr (.inl h.1.1.2)
   ·exact .inr (.inr (.inr (CW h.1.2 x (by simpa using hx))))
  ·rcases KR hx 2 (by omega) with⟨i,hi,e⟩|hx
   ·match i,hi with
    | 0,_=>rw[e];exact .inr (.inl h.1.1.1.2)
    | 1,_=>rw[e];exact .inl (.inl h.1.1.2)
   ·exact .inr (.inr (.inr (CW h.1.2 x hx)))
theorem AK {kind:Int}{T:Tree}(h:A9 kind T=true):T≠.nil∧T.kind=kind∧T.name.size≤160∧T.kids.length=1∧AF (T.kids.getD 0 .nil)=true:=by
 have hT:T≠.nil:=by intro e;subst e;rw[A9]at h;cases h
 rw[D9 hT]at h
 simp only[Bool.and_eq_true,decide_eq_true_eq]at h
 exact⟨hT,h.1.1.1.1.1,(L1 h.1.1.2).2,h.1.2,h.2⟩
theorem WI {n:Int}(h0 : -1073741824≤n)(h1:n≤1073741824):(numF n).size≤11:=by
 have h2:=J4 n
 have h3:=En (digR n.natAbs).reverse
 have h4:=TX 9 n.natAbs (by omega)
 rw[List.length_reverse]at h3
 rw[numF,ByteArray.size_append]
 omega
theorem LA:∀{l:List Tree},(∀x∈l,x≠.nil)→l.length≤AV l
 | [],_=>by simp[AV]
 | x::l,h=>by
  have h1:=LA (l:=l) fun y hy=>h y (by simp[hy])
  have h2:=AI (h x (by simp))
  rw[AV,List.length_cons];omega
end Tm
end Go.Proofs.YtlgajkoplklkiaaGreat
namespace Go.Proofs.YtlgajkoplklkiaaGreat
open Go Go.Mq
def wI:Tree:=.node 111 0 ByteArray.empty ByteArray.empty []
end Go.Proofs.YtlgajkoplklkiaaGreat
namespace Go.Proofs.YtlgajkoplklkiaaGreat
namespace Tm
open Go Go.Mq
def Au (T:Tree):Int:=C5 (AF T) T
theorem Bo {T:Tree}(h:Au T=0):AF T=true∧AD T≤65536∧Full T:=by
 unfold Au C5 at h
 split at h
 ·rename_i hw
  refine⟨?_,?_,Df T _ hw⟩
  ·cases hc:AF T with
   | true=>rfl
   | false=>rw[hc]at h;simp at h
  ·have:=(Hr T 65536 (by omega) hw).2;omega
 ·exact absurd h ‹_›
theorem CH (T:Tree):Pure P 19 [.d (.tree T)] (.d (.int .i64 (Au T))):=by
 have hwf:=Df T 65536
 have hws:=Hr T 65536 (by omega)
 refine Pure.AB tt [] [2] Tryz.func19 rfl rfl rfl lb fun g=>?_
 repeat' ((first|refine Ga ?_|refine Gc fun hlen=>?_|refine AJ.fun (Tt T 65536 (by omega) (by omega)) [0] rfl rfl rfl rfl rfl rfl ⟨⟨rfl,rfl,rfl⟩,trivial⟩ rfl ?_|refine Ge (T1 T (hwf (by assumption)) (by have:=(hws (by assumption)).2;omega)) ?_|refine Gd (fun hc=>?_) fun hc=>?_)<;>conv=>whnf)
 all_goals refine Gf rfl (int_eq ?_) rfl
 all_goals (unfold Au;simp_all [-List.getD_eq_getElem?_getD,BF,C5]<;>omega)
mutual
def AW:Tree→Bool
 | .nil=>false
 | .node k n nm mk l=>if k=131∨k=132∨k=133∨k=134∨k=139 then true else if k=141∨k=146 then GW 1 l else if k=136 then DY l else false
def GW (i:Nat):List Tree→Bool
 | []=>false
 | x::l=>match i with
  | 0=>AW x
  | i+1=>GW i l
def DY:List Tree→Bool
 | []=>true
 | x::l=>K5 x && DY l
def K5:Tree→Bool
 | .nil=>false
 | .node _ _ _ _ l=>GW 0 l
end
theorem Il:∀(l:List Tree) (i:Nat),GW i l=AW (l.getD i .nil)
 | [],i=>by rw[GW];simp[AW]
 | x::l,0=>by rw[GW];rfl
 | x::l,i+1=>by rw[GW];exact Il l i
theorem LG (T:Tree):K5 T=AW (T.kids.getD 0 .nil):=by
 cases T with
 | nil=>rw[K5];simp[Tree.kids,AW]
 | node=>rw[K5,Il];rfl
theorem CU {T:Tree}(h:T≠.nil):AW T=if T.kind=131∨T.kind=132∨T.kind=133∨T.kind=134∨T.kind=139 then true else if T.kind=141∨T.kind=146 then AW (T.kids.getD 1 .nil) else if T.kind=136 then DY T.kids else false:=by
 cases T with
 | nil=>exact absurd rfl h
 | node=>rw[AW,Il];rfl
theorem X3 {T:Tree}(h:AF T=true):(T.kind=141→T.kids.length=3∧AF (T.kids.getD 1 .nil)=true)∧(T.kind=146→T.kids.length=2∧AF (T.kids.getD 1 .nil)=true)∧(T.kind=136→∀x∈T.kids,A9 137 x=true):=by
 have hT:T≠.nil:=by intro e;subst e;rw[AF]at h;cases h
 rw[At hT,Bool.and_eq_true]at h
 obtain⟨_,h⟩:=h
 refine⟨fun hk=>?_,fun hk=>?_,fun hk=>?_⟩
 ·simp[hk,-List.getD_eq_getElem?_getD]at h
  exact⟨h.1.1.1,h.1.2⟩
 ·simp[hk,-List.getD_eq_getElem?_getD]at h
  exact⟨h.1.1,h.2⟩
 ·simp[hk,-List.getD_eq_getElem?_getD]at h
  exact CW h.1
theorem VF (T:Tree):AF T=true→Pure P 22 [.d (.tree T)] (.d (.bool (AW T))):=by
 suffices h:(AF T=true→Pure P 22 [.d (.tree T)] (.d (.bool (AW T))))∧∀x∈T.kids,AF x=true→Pure P 22 [.d (.tree x)] (.d (.bool (AW x))) from h.1
 induction T using Tree.ind' with
 | h0=>exact⟨fun h=>(by rw[AF]at h;cases h),fun x hx=>(by cases hx)⟩
 | h1 T hT ih=>?_
 refine⟨fun hco=>?_,fun x hx=>(ih x hx).1⟩
 obtain⟨t1,t2,t3⟩:=X3 hco
 have hv:T.kind=141∨T.kind=146→2≤T.kids.length∧Pure P 22 [.d (.tree (T.kids.getD 1 .nil))] (.d (.bool (AW (T.kids.getD 1 .nil)))):=fun hk=>by
  rcases hk with hk|hk
  ·obtain⟨a,b⟩:=t1 hk
   exact⟨by omega,(ih _ (AA (by omega))).1 b⟩
  ·obtain⟨a,b⟩:=t2 hk
   exact⟨by omega,(ih _ (AA (by omega))).1 b⟩
 refine Pure.AB tt [] [2] Tryz.func22 rfl rfl rfl lb fun g=>?_
 by_cases k1:T.kind=141∨T.kind=146
 ·obtain⟨hl,hv⟩:=hv k1
  have e:AW T=AW (T.kids.getD 1 .nil):=by rw[CU hT,ifn,if_pos k1]
  rw[e]
  repeat' ((first|refine Ga ?_|refine Gc fun hlen=>?_|refine Side.mk (show (0:Int)≤1∧(1:Int) < (T.kids.length:Int) from by omega) ?_|refine Ge hv ?_|refine Gd (fun hc=>?_) fun hc=>?_)<;>conv=>whnf)
  all_goals exact Gg
 by_cases k2:T.kind=136
 ·have hf:=t3 k2
  have e:AW T=DY T.kids:=by rw[CU hT,ifn,ifn,if_pos k2]
  rw[e]
  repeat' ((first|refine Ga ?_|refine Gc fun hlen=>?_|refine Gd (fun hc=>?_) fun hc=>?_)<;>conv=>whnf)
  refine AY (α:=Nat) (fun p=>⟨[(30,.d (.trees T.kids)),(31,.d (.int .i64 T.kids.length)),(32,.d (.int .i64 p))],45,[],0,g⟩)
    (fun p=>p≤T.kids.length∧DY (T.kids.drop p)=DY T.kids) (fun p=>T.kids.length - p) 0 ⟨by omega,rfl⟩
    (Ent.go []) (fun _=>rfl) fun p hpre=>?_
  obtain⟨hp1,hp2⟩:=hpre
  by_cases hp:p < T.kids.length
  ·have hx:=AA hp
   obtain⟨q1,q2,q3,q4,q5⟩:=AK (hf _ hx)
   have hq:=(ih _ hx).2 _ (AA (i:=0) (by omega)) q5
   rw[AP hp,DY,LG]at hp2
   cases hb:AW ((T.kids.getD p .nil).kids.getD 0 .nil) with
   | true =>
    rw[hb]at hq hp2
    repeat' ((first|refine Ga ?_|refine Gc fun hlen=>?_|refine Side.mk (show (0:Int)≤0∧(0:Int) < ((T.kids.getD p .nil).kids.length:Int) from by omega) ?_|refine Ge hq ?_|refine Gd (fun hc=>?_) fun hc=>?_)<;>conv=>whnf)
    exact⟨p+1,⟨by omega,by rw[←hp2];rfl⟩,by omega,Ent.go []⟩
   | false =>
    rw[hb]at hq hp2
    rw[←hp2]
    repeat' ((first|refine Ga ?_|refine Gc fun hlen=>?_|refine Side.mk (show (0:Int)≤0∧(0:Int) < ((T.kids.getD p .nil).kids.length:Int) from by omega) ?_|refine Ge hq ?_|refine Gd (fun hc=>?_) fun hc=>?_)<;>conv=>whnf)
    exact Gg
  ·rw[Ab (by omega),DY]at hp2
   rw[←hp2]
   repeat' ((first|refine Ga ?_|refine Gc fun hlen=>?_|refine Gd (fun hc=>?_) fun hc=>?_)<;>conv=>whnf)
   exact Gg
 repeat' ((first|refine Ga ?_|refine Gc fun hlen=>?_|refine Gd (fun hc=>?_) fun hc=>?_)<;>conv=>whnf)
 all_goals refine Gf rfl (AZ ?_) rfl
 all_goals first
  | (rw[CU hT,ifp];done)
  | (rw[CU hT,ifn,ifn,ifn];done)
def Kw (T:Tree):Bool:=decide (Au T=0) && AW T
theorem M0 (T:Tree):Pure P 9 [.d (.tree T)] (.d (.bool (Kw T))):=by
 refine Pure.AB tt [] [2] Tryz.func9 rfl rfl rfl lb fun g=>?_
 unfold Kw
 by_cases h:Au T=0
 ·have h1:=CH T
  rw[h]at h1
  have h5:=VF T (Bo h).1
  rw[decide_eq_true h,Bool.true_and]
  repeat' ((first|refine Ga ?_|refine Gc fun hlen=>?_|refine Ge h1 ?_|refine Ge h5 ?_|refine Gd (fun hc=>?_) fun hc=>?_)<;>conv=>whnf)
  exact Gg
 ·rw[decide_eq_false h]
  repeat' ((first|refine Ga ?_|refine Gc fun hlen=>?_|refine Ge (CH T) ?_|refine Gd (fun hc=>?_) fun hc=>?_)<;>conv=>whnf)
  exact Gg
def wT:Tree:=.node 134 0 ByteArray.empty ByteArray.empty [wI,.node 130 0 ByteArray.empty ByteArray.empty []]
end Tm
end Go.Proofs.YtlgajkoplklkiaaGreat
namespace Go.Proofs.YtlgajkoplklkiaaGreat
namespace Tm
open Go Go.Mq
def Hd (kind:Int)(l:List Tree):Bool:=labT kind (decide (kind=137)) [] l && (decide (kind=137) || decide (0 < l.length))
def sgn (c:UInt8)(x:Tree):Bool:=if c=99 then AG x else if c=107 then AU x else AF x
def Ia (c:UInt8)(f:List Tree→Bool):List Tree→Bool
 | []=>false
 | x::l'=>sgn c x && f l'
def BB:List UInt8→List Tree→Bool
 | [],l=>decide (l.length=0)
 | c::r,l=>if c::r=[102] then Hd 137 l else if c::r=[97] then Hd 149 l else Ia c (BB r) l
theorem HS (c:UInt8)(r:List UInt8)(l:List Tree):BB (c::r) l=if c::r=[102] then Hd 137 l else if c::r=[97] then Hd 149 l else Ia c (BB r) l:=rfl
end Tm
end Go.Proofs.YtlgajkoplklkiaaGreat
namespace Go.Mq
open Go
def rvV (tt:List (Nat×TI))(σ:AO):ResultVar→Option AVal
 | .tmp t=>some (look σ.tm t)
 | .cell a t=>match look σ.tm a with
  | .ref id off=>match sget σ.st id,ttl tt t with
   | some (.cellsT _ vs),some i=>bif Nat.beq off 0 then (bif i.agg then (bif Nat.beq i.size vs.length then some (.agg vs) else none) else vs[0]?) else none
   | _,_=>none
  | _=>none
def rvsV (tt:List (Nat×TI))(σ:AO):List ResultVar→Option (List AVal)
 | []=>some []
 | r::rs=>match rvV tt σ r,rvsV tt σ rs with
  | some x,some l=>some (x::l)
  | _,_=>none
def oneOf:List AVal→AVal
 | [x]=>x
 | l=>.tuple l
def RetR (P:Program)(nb:Nat)(rs:List ResultVar)(r:AVal)(L':List (Nat×AObj))(N':Nat)(g':Ghost)(σ:AO):Prop :=
 ∀E I ρ a w,E.nb=nb→RelT E I ρ σ.fs a w→∃I' ρ' v,I.le I'∧(∀id,id < E.nb→ρ' id=E.ρb id)∧Rel E I' ρ' (· < N') (sget L') g' w∧CA I' ρ' (· < N') r v∧∀fn:Func,fn.results.toList=rs→(results fn a.tmps).run P w=.ok v w
def Yp (P:Program)(nb:Nat)(rs:List ResultVar)(r:AVal)(L':List (Nat×AObj))(N':Nat)(g':Ghost):Exit→AO→Prop:=fun e σ=>match e with
 | .ret=>RetR P nb rs r L' N' g' σ
 | .normal=>RetR P nb rs r L' N' g' σ
 | _=>False
theorem RetR.ent {P:Program}{nb:Nat}{rs:List ResultVar}{r:AVal}{L':List (Nat×AObj)}{N':Nat}{g':Ghost}{σ σ':AO}(he:Ent nb σ σ')(h:RetR P nb rs r L' N' g' σ'):RetR P nb rs r L' N' g' σ:=by
 intro E I ρ a w hE hr
 obtain⟨I',ρ',h1,h2⟩:=he.2 E I ρ a w hE hr
 obtain⟨I2,ρ2,v,g1,g2⟩:=h E I' ρ' a w hE h2
 exact⟨I2,ρ2,v,Imm.le_trans h1 g1,g2⟩
def resF (tmps:Array Value):ResultVar→Sem Value
 | .tmp t=>Pure.pure (tmps.getD t undef)
 | .cell a t=>do loadVar t (←asAddr (tmps.getD a undef))
theorem ab {P:Program}{tt:List (Nat×TI)}(htt:TTok P tt){E:Env}{I:Imm}{ρ:Nat→RB}{σ:AO}{a:Act}{w:World}(h:RelT E I ρ σ.fs a w)(rv:ResultVar){x:AVal}(hx:rvV tt σ rv=some x) :
  ∃v,(resF a.tmps rv).run P w=.ok v w∧CA I ρ (· < σ.nx) x v:=by
 cases rv with
 | tmp t =>
  simp only[rvV,Option.some.injEq]at hx
  subst hx
  exact⟨_,by simp[resF],h.slot t⟩
 | cell a' t =>
  simp only[rvV]at hx
  split at hx
  ·rename_i id off hl
   have hv:=h.slot a'
   rw[show σ.fs.T a'=.ref id off from hl]at hv
   obtain⟨hD,hv⟩:=hv.OW
   split at hx
   ·rename_i vs i hs hi
    have hT:=htt t i hi
    rw[Bool.cond_eq_ite]at hx
    split at hx
    ·rename_i ho
     obtain rfl:off=0:=Nat.eq_of_beq_eq_true ho
     obtain⟨o1,cs,T,o2,o3,o4⟩:=B7 h hs
     have hcell:∀j,j < vs.length→w.cell? ⟨(ρ id).blk,0+j,none⟩=some (cs.getD j undef):=fun j hj=>by
      simp only[World.cell?,o2]
      rw[Nat.zero_add]
      simp[show j < cs.size by omega]
     rw[Bool.cond_eq_ite]at hx
     split at hx
     ·rename_i hag
      rw[Bool.cond_eq_ite]at hx
      split at hx
      ·rename_i hsz
       have hsz:=Nat.eq_of_beq_eq_true hsz
       cases hx
       have:=Dn (w:=w) hT hag (b:=(ρ id).blk) (o:=0) (f:=fun j=>cs.getD j undef) (fun j hj=>hcell j (by omega))
       refine⟨.agg ((List.range i.size).map fun j=>cs.getD j undef).toArray,?_,.agg (by simp[hsz]) fun j hj=>?_⟩
       ·simp only[Instr.loadAt,Instr.sureAddr,Sem.run_bind,Sem.run_pure,Result.andThen_ok]at this
        simp only[resF,hv,asAddr,Sem.run_bind,Sem.run_pure,Result.andThen_ok]
        exact this
       ·have:CA I ρ (· < σ.nx) vs[j] (cs.getD j undef):=o4 j hj
        simpa [show j < i.size by omega] using this
      ·cases hx
     ·rename_i hag
      have hag:i.agg=false:=by simpa using hag
      have hl0:0 < vs.length:=by
       cases vs with
       | nil=>simp at hx
       | cons=>simp
      have:=CV (w:=w) hT hag (b:=(ρ id).blk) (o:=0) (hcell 0 hl0)
      refine⟨cs.getD 0 undef,?_,?_⟩
      ·simp only[Instr.loadAt,Instr.sureAddr,Sem.run_bind,Sem.run_pure,Result.andThen_ok]at this
       simp only[resF,hv,asAddr,Sem.run_bind,Sem.run_pure,Result.andThen_ok]
       exact this
      ·have:=o4 0 hl0
       rw[List.getElem?_eq_getElem hl0]at hx
       cases hx
       exact this
    ·cases hx
   ·cases hx
  ·cases hx
theorem Ux {P:Program}{tt:List (Nat×TI)}(htt:TTok P tt){E:Env}{I:Imm}{ρ:Nat→RB}{σ:AO}{a:Act}{w:World}(h:RelT E I ρ σ.fs a w):∀(rs:List ResultVar) {l:List AVal},rvsV tt σ rs=some l →
  ∃vs:List Value,(rs.mapM (resF a.tmps)).run P w=.ok vs w∧vs.length=l.length∧∀i (hi:i < l.length),CA I ρ (· < σ.nx) l[i] (vs.getD i undef)
 | [],l,hl=>by
  cases hl
  exact⟨[],by simp,rfl,fun i hi=>by simp at hi⟩
 | r::rs,l,hl=>by
  simp only[rvsV]at hl
  split at hl
  ·rename_i x l' hx hl'
   cases hl
   obtain⟨v,h1,h2⟩:=ab htt h r hx
   obtain⟨vs,h3,h4,h5⟩:=Ux htt h rs hl'
   refine⟨v::vs,by simp[List.mapM_cons,h1,h3],by simp[h4],fun i hi=>?_⟩
   cases i with
   | zero=>simpa using h2
   | succ i=>simpa using h5 i (by simpa using hi)
  ·cases hl
theorem V3 {P:Program}{tt:List (Nat×TI)}(htt:TTok P tt){E:Env}{I:Imm}{ρ:Nat→RB}{σ:AO}{a:Act}{w:World}(h:RelT E I ρ σ.fs a w){rs:List ResultVar}{l:List AVal}(hl:rvsV tt σ rs=some l) :
  ∃v,CA I ρ (· < σ.nx) (oneOf l) v∧∀fn:Func,fn.results.toList=rs→(results fn a.tmps).run P w=.ok v w:=by
 obtain⟨vs,h1,h2,h3⟩:=Ux htt h rs hl
 have hF:∀(F:ResultVar→Sem Value),(∀r,F r=resF a.tmps r)→(rs.mapM F).run P w=.ok vs w:=fun F h=>by rw[funext h];exact h1
 have hrun:∀fn:Func,fn.results.toList=rs→(results fn a.tmps).run P w=.ok (if h:vs.toArray.size=1 then vs.toArray[0] else .tuple vs.toArray) w:=by
  intro fn hf
  unfold results
  rw[Array.mapM_eq_mapM_toList,hf]
  rw[Sem.run_bind,Sem.run_map]
  rw[hF _ (fun r=>by cases r<;>rfl)]
  simp
 refine⟨_,?_,hrun⟩
 clear hrun hF h1
 match l,vs,h2,h3 with
 | [x],[v],_,h3=>simpa [oneOf] using h3 0 (by simp)
 | [],[],_,_=>exact .tuple rfl fun i hi=>by simp at hi
 | x::y::l,u::v::vs,h2,h3 =>
  have e:(if h:(u::v::vs).toArray.size=1 then (u::v::vs).toArray[0] else Value.tuple (u::v::vs).toArray)=.tuple (u::v::vs).toArray:=by simp
  rw[e]
  refine .tuple (by simpa using h2) fun i hi=>?_
  have:=h3 i hi
  simpa using this
theorem Bx {P:Program}{tt:List (Nat×TI)}(htt:TTok P tt){nb:Nat}{rs:List ResultVar}{r:AVal}{g':Ghost}{σ:AO}(l:List AVal)(hg:σ.g=g')(hl:rvsV tt σ rs=some l)(hr:oneOf l=r)(hc:r.closed=true):RetR P nb rs r [] 0 g' σ:=by
 intro E I ρ a w _ h
 subst hg
 obtain⟨v,h1,h2⟩:=V3 htt h hl
 rw[hr]at h1
 exact⟨I,ρ,v,Imm.le_refl I,h.bas,h.rel.drop,h1.unbind hc,h2⟩
theorem GJ.DL {P:Program}{tt:List (Nat×TI)}{fz:List Nat}{f:FuncId}{fn:Func}{body:Code}{args:List AVal}{rs:List ResultVar}{L L':List (Nat×AObj)}{N N':Nat}{g g':Ghost}{r:AVal}
  (hf:P.funcs[f]?=some fn) (hb:fn.body=some body) (hres:fn.results.toList=rs) (hsz:args.length≤fn.ntmps)
  (h:Then ⟨P,tt,fz,N⟩ body (Yp P N rs r L' N' g') ⟨GC 0 args,fn.ntmps,L,N,g⟩):GJ P f args (sget L) N g r (sget L') N' g':=by
 intro E I ρ w vs hr ha
 let E':Env:=⟨E.base,N,ρ⟩
 have hlen:vs.size=args.length:=by have:=ha.len;simpa using this.symm
 have hr':Rel E' I ρ (· < N) (sget L) g w:=by
  obtain⟨own,hr⟩:=hr
  exact⟨own,⟨hr.env,hr.lt,hr.imm,hr.key,hr.obj,hr.ownd,hr.gst⟩⟩
 have harg:∀(l:List AVal) (us:List Value),All2 I ρ (· < N) l us→∀i,CA I ρ (· < N) (l.getD i .any) (us.getD i undef):=by
  intro l
  induction l with
  | nil=>intro us _ i;simp;exact .any
  | cons x l ih =>
   intro us hu i
   cases us with
   | nil=>exact hu.elim
   | cons u us =>
    cases i with
    | zero=>exact hu.1
    | succ i=>simpa using ih us hu.2 i
 have hT:RelT E' I ρ (AO.fs ⟨GC 0 args,fn.ntmps,L,N,g⟩) { tmps:=vs++Array.replicate (fn.ntmps - vs.size) undef,defers:=[] } w:=by
  refine⟨hr',rfl,?_,fun t=>?_,fun id h=>h,fun id h=>rfl⟩
  ·simp[AO.fs];omega
  ·show CA I ρ (· < N) (look (GC 0 args) t) _
   rw[IU]
   simp only[Nat.zero_le,if_true,Nat.sub_zero]
   by_cases ht:t < vs.size
   ·have:=harg args vs.toList ha t
    simpa [Array.getElem?_append_left,ht] using this
   ·have:args.getD t .any=.any:=by simp[List.getElem?_eq_none (show args.length≤t by omega)]
    rw[this];exact .any
 unfold Then WPc at h
 refine calls_of_wp hf hb (wp_mono (h E' I ρ _ w rfl hT) ?_)
 rintro e a' w' ⟨I',ρ',σ',h1,h2,h3,h4⟩
 have fin:RetR P N rs r L' N' g' σ'→a'.defers=[]∧∃v,(results fn a'.tmps).run P w'=.ok v w'∧∃I' ρ' v',I.le I'∧(∀id,id < N→ρ' id=ρ id)∧Ending.returned v=.returned v'∧Rel E I' ρ' (· < N') (sget L') g' w'∧CA I' ρ' (· < N') r v':=by
  intro hret
  obtain⟨I2,ρ2,v,q1,q2,q3,q4,q5⟩:=hret E' I' ρ' a' w' rfl h4
  refine⟨h4.defs,v,q5 fn hres,I2,ρ2,v,Imm.le_trans h1 q1,q2,rfl,?_,q4⟩
  obtain⟨own,q3⟩:=q3
  exact⟨own,⟨q3.env,q3.lt,q3.imm,q3.key,q3.obj,q3.ownd,q3.gst⟩⟩
 cases e with
 | normal=>exact fin h2
 | ret=>exact fin h2
 | exit id=>exact h2.elim
 | goto l=>exact h2.elim
 | panic ch=>exact h2.elim
 | outgrown=>exact h2.elim
theorem Pure.DL {P:Program}(tt:List (Nat×TI))(fz:List Nat){f:FuncId}{fn:Func}{body:Code}{args:List AVal}(rs:List ResultVar){r:AVal}
  (hf : P.funcs[f]? = some fn) (hnm : (fn.name == "runtime.NumGoroutine") = false) (hb : fn.body = some body) (hres : fn.results.toList = rs) (hsz : args.length ≤ fn.ntmps)
  (h:∀g,Then ⟨P,tt,fz,0⟩ body (Yp P 0 rs r [] 0 g) ⟨GC 0 args,fn.ntmps,[],0,g⟩):Pure P f args r :=
 ⟨⟨fn,hf,hnm,by rw[hb];rfl⟩,fun g=>GJ.DL (L:=[]) (L':=[]) hf hb hres hsz (h g)⟩
attribute [irreducible] RetR
end Go.Mq
namespace Go.Proofs.YtlgajkoplklkiaaGreat
namespace Tm
open Go Go.Mq
structure Rw where
 kind:Int
 word:ByteArray
 lo:Int
 hi:Int
 label:Bool
 kids:ByteArray
instance:Inhabited Rw:=⟨⟨0,ByteArray.empty,0,0,false,ByteArray.empty⟩⟩
def rowD (r:Rw):Nat→Mq.Data
 | 0=>.int .i64 r.kind
 | 1=>.str r.word
 | 2=>.int .i64 r.lo
 | 3=>.int .i64 r.hi
 | 4=>.bool r.label
 | _=>.str r.kids
def DN:List Rw:=[
 ⟨130,ByteArray.empty,0,65536,false,ByteArray.empty⟩,⟨131,ByteArray.empty,-1073741824,1073741824,false,ByteArray.empty⟩,⟨132,ByteArray.empty,0,1,false,ByteArray.empty⟩,⟨133,ByteArray.empty,0,0,false,ByteArray.empty⟩,
 ⟨134,⟨#[108,97,109]⟩,0,0,false,⟨#[99,88]⟩⟩,⟨135,⟨#[97,112,112]⟩,0,0,false,⟨#[120,120]⟩⟩,⟨136,⟨#[114,101,99]⟩,0,0,false,⟨#[102]⟩⟩,⟨138,⟨#[112,114,111,106]⟩,0,0,true,⟨#[120]⟩⟩,
 ⟨139,⟨#[116,108,97,109]⟩,0,0,false,⟨#[107,84]⟩⟩,⟨140,⟨#[116,97,112,112]⟩,0,0,false,⟨#[120,99]⟩⟩,⟨141,⟨#[112,97,99,107]⟩,0,0,false,⟨#[99,120,99]⟩⟩,⟨142,⟨#[117,110,112,97,99,107]⟩,0,0,false,⟨#[120,66]⟩⟩,
 ⟨143,⟨#[108,101,116]⟩,0,0,false,⟨#[120,88]⟩⟩,⟨144,⟨#[105,102]⟩,0,0,false,⟨#[120,120,120]⟩⟩,⟨145,⟨#[111,112]⟩,1,5,false,⟨#[120,120]⟩⟩,⟨146,⟨#[105,110]⟩,0,0,true,⟨#[99,120]⟩⟩,
 ⟨147,⟨#[99,97,115,101]⟩,0,0,false,⟨#[120,97]⟩⟩,⟨148,⟨#[102,111,108,100]⟩,0,0,false,⟨#[120,99,97]⟩⟩]
def bj:List Rw→List Mq.Data
 | []=>[]
 | r::l=>rowD r 0::rowD r 1::rowD r 2::rowD r 3::rowD r 4::rowD r 5::bj l
def C8 (kind:Int):List Rw→Option Rw
 | []=>none
 | r::l=>if r.kind=kind then some r else C8 kind l
theorem WZ (l:List Tree):BB [] l=decide (l.length=0):=rfl
theorem XZ (l:List Tree):BB [102] l=labT 137 true [] l:=by
 have:BB [102] l=Hd 137 l:=rfl
 rw[this,Hd];simp
theorem XV (l:List Tree):BB [97] l=(labT 149 false [] l && decide (0 < l.length)):=by
 have:BB [97] l=Hd 149 l:=rfl
 rw[this,Hd];simp
theorem Vy (a:UInt8)(h1:a≠102)(h2:a≠97)(l:List Tree):BB [a] l=(decide (l.length=1) && sgn a (l.getD 0 .nil)):=by
 rw[HS,if_neg (by simpa using h1),if_neg (by simpa using h2)]
 match l with
 | []=>rw[Ia];simp
 | [x]=>rw[Ia,WZ];simp
 | x::y::l=>rw[Ia,WZ];simp
theorem OL (a b:UInt8)(r:List UInt8)(l:List Tree):BB (a::b::r) l=(decide (1≤l.length) && sgn a (l.getD 0 .nil) && BB (b::r) (l.drop 1)):=by
 rw[HS,if_neg (by simp),if_neg (by simp)]
 match l with
 | []=>rw[Ia];simp
 | x::l=>rw[Ia];simp
theorem Gj (l:List Tree)(i k:Nat):(l.drop k).getD i .nil=l.getD (k+i) .nil:=by
 simp[List.getD_eq_getElem?_getD]
theorem GQ (a b:UInt8)(h1:b≠102)(h2:b≠97)(l:List Tree):BB [a,b] l=(decide (l.length=2) && sgn a (l.getD 0 .nil) && sgn b (l.getD 1 .nil)):=by
 rw[OL,Vy b h1 h2,Gj,List.length_drop]
 by_cases h:l.length=2
 ·rw[decide_eq_true h,decide_eq_true (show 1≤l.length by omega),decide_eq_true (show l.length - 1=1 by omega)];simp
 ·rw[decide_eq_false h,decide_eq_false (show ¬l.length - 1=1 by omega)];simp
theorem VS (a b c:UInt8)(h1:c≠102)(h2:c≠97)(l:List Tree):BB [a,b,c] l=(decide (l.length=3) && sgn a (l.getD 0 .nil) && sgn b (l.getD 1 .nil) && sgn c (l.getD 2 .nil)):=by
 rw[OL,GQ b c h1 h2,Gj,Gj,List.length_drop]
 by_cases h:l.length=3
 ·rw[decide_eq_true h,decide_eq_true (show 1≤l.length by omega),decide_eq_true (show l.length - 1=2 by omega)];simp[Bool.and_assoc]
 ·rw[decide_eq_false h,decide_eq_false (show ¬l.length - 1=2 by omega)];simp
theorem SN (a:UInt8)(l:List Tree):BB [a,97] l=(decide (1 < l.length) && sgn a (l.getD 0 .nil) && labT 149 false [] (l.drop 1)):=by
 rw[OL,XV,List.length_drop]
 by_cases h:1 < l.length
 ·rw[decide_eq_true h,decide_eq_true (show 1≤l.length by omega),decide_eq_true (show 0 < l.length - 1 by omega)];simp
 ·rw[decide_eq_false h,decide_eq_false (show ¬0 < l.length - 1 by omega)];simp
theorem Xq (a b:UInt8)(l:List Tree):BB [a,b,97] l=(decide (2 < l.length) && sgn a (l.getD 0 .nil) && sgn b (l.getD 1 .nil) && labT 149 false [] (l.drop 2)):=by
 rw[OL,SN,List.length_drop,Gj,List.drop_drop]
 by_cases h:2 < l.length
 ·rw[decide_eq_true h,decide_eq_true (show 1≤l.length by omega),decide_eq_true (show 1 < l.length - 1 by omega)];simp[Bool.and_assoc]
 ·rw[decide_eq_false h,decide_eq_false (show ¬1 < l.length - 1 by omega)];simp
theorem a8 (x:Tree):sgn 99 x=AG x:=rfl
theorem Y0 (x:Tree):sgn 120 x=AF x:=rfl
theorem BN {T:Tree}(h:T.kind≠138∧T.kind≠146):FZ T=(decide (T.mark=ByteArray.empty) && decide (T.name=ByteArray.empty) && numT T):=by
 unfold FZ Ft
 rw[decide_eq_false h.1,decide_eq_false h.2]
 cases decide (T.name=ByteArray.empty)<;>simp
theorem Lu {T:Tree}(h:T.kind=138∨T.kind=146):FZ T=(decide (T.mark=ByteArray.empty) && DR T.name && numT T):=by
 unfold FZ Ft
 have:(decide (T.kind=138) || decide (T.kind=146))=true:=by simpa using h
 rw[this]
 cases hl:DR T.name with
 | false=>simp
 | true =>
  have:T.name≠ByteArray.empty:=by intro e;rw[e]at hl;revert hl;decide
  simp[this]
def rowF (T:Tree):Option Rw→Bool
 | none=>false
 | some r=>decide (T.mark=ByteArray.empty) && (decide (r.lo≤T.n) && decide (T.n≤r.hi)) && (if r.label then DR T.name else decide (T.name=ByteArray.empty)) && BB r.kids.data.toList T.kids
theorem num0 (n:Int):decide (n=0)=(decide (0≤n) && decide (n≤0)):=by rw[Bool.eq_iff_iff];simp;omega
theorem num1 (n:Int):(decide (n=0) || decide (n=1))=(decide (0≤n) && decide (n≤1)):=by rw[Bool.eq_iff_iff];simp;omega
theorem XW (k:Int):(k=130∨k=131∨k=132∨k=133∨k=134∨k=135∨k=136∨k=138∨k=139∨k=140∨k=141∨k=142∨k=143∨k=144∨k=145∨k=146∨k=147∨k=148)∨(k≠130∧k≠131∧k≠132∧k≠133∧k≠134∧k≠135∧k≠136∧k≠138∧k≠139∧k≠140∧k≠141∧k≠142∧k≠143∧k≠144∧k≠145∧k≠146∧k≠147∧k≠148):=by omega
theorem Q7 {k:Int}(h:k≠130∧k≠131∧k≠132∧k≠133∧k≠134∧k≠135∧k≠136∧k≠138∧k≠139∧k≠140∧k≠141∧k≠142∧k≠143∧k≠144∧k≠145∧k≠146∧k≠147∧k≠148):C8 k DN=none:=by
 unfold DN
 simp only[C8]
 rw[ifn,ifn,ifn,ifn,ifn,ifn,ifn,ifn,ifn,ifn,ifn,ifn,ifn,ifn,ifn,ifn,ifn,ifn]
theorem and4 (a b c d:Bool):(a && b && c && d)=(a && c && b && d):=by cases a<;>cases b<;>cases c<;>rfl
theorem KW {T:Tree}(hT:T≠.nil):AF T=rowF T (C8 T.kind DN):=by
 rw[At hT]
 rcases XW T.kind with h|h
 ·rcases h with h|h|h|h|h|h|h|h|h|h|h|h|h|h|h|h|h|h
  ·have e:C8 T.kind DN=some ⟨130,ByteArray.empty,0,65536,false,ByteArray.empty⟩:=by rw[h];rfl
   have hk:numT T=(decide (0≤T.n) && decide (T.n≤65536)):=by unfold numT;rw[if_pos h]
   have hb:(decide (T.kids.length=0))=BB [] T.kids:=rfl
   rw[e,BN (by omega),hk,ifp,hb,and4]
   rfl
  ·have e:C8 T.kind DN=some ⟨131,ByteArray.empty,-1073741824,1073741824,false,ByteArray.empty⟩:=by rw[h];rfl
   have hk:numT T=(decide (-1073741824≤T.n) && decide (T.n≤1073741824)):=by unfold numT;rw[ifn,if_pos h]
   have hb:(decide (T.kids.length=0))=BB [] T.kids:=rfl
   rw[e,BN (by omega),hk,ifp,hb,and4]
   rfl
  ·have e:C8 T.kind DN=some ⟨132,ByteArray.empty,0,1,false,ByteArray.empty⟩:=by rw[h];rfl
   have hk:numT T=(decide (0≤T.n) && decide (T.n≤1)):=by unfold numT;rw[ifn,ifn,if_pos h,num1]
   have hb:(decide (T.kids.length=0))=BB [] T.kids:=rfl
   rw[e,BN (by omega),hk,ifp,hb,and4]
   rfl
  ·have e:C8 T.kind DN=some ⟨133,ByteArray.empty,0,0,false,ByteArray.empty⟩:=by rw[h];rfl
   have hk:numT T=(decide (0≤T.n) && decide (T.n≤0)):=by unfold numT;rw[ifn,ifn,ifn,ifn,num0]
   have hb:(decide (T.kids.length=0))=BB [] T.kids:=rfl
   rw[e,BN (by omega),hk,ifp,hb,and4]
   rfl
  ·have e:C8 T.kind DN=some ⟨134,⟨#[108,97,109]⟩,0,0,false,⟨#[99,88]⟩⟩:=by rw[h];rfl
   have hk:numT T=(decide (0≤T.n) && decide (T.n≤0)):=by unfold numT;rw[ifn,ifn,ifn,ifn,num0]
   have hb:(decide (T.kids.length=2) && AG (T.kids.getD 0 .nil) && AF (T.kids.getD 1 .nil))=BB [99,88] T.kids:=by rw[GQ _ _ (by decide) (by decide)];rfl
   rw[e,BN (by omega),hk,ifn,ifp,hb,and4]
   rfl
  ·have e:C8 T.kind DN=some ⟨135,⟨#[97,112,112]⟩,0,0,false,⟨#[120,120]⟩⟩:=by rw[h];rfl
   have hk:numT T=(decide (0≤T.n) && decide (T.n≤0)):=by unfold numT;rw[ifn,ifn,ifn,ifn,num0]
   have hb:(decide (T.kids.length=2) && AF (T.kids.getD 0 .nil) && AF (T.kids.getD 1 .nil))=BB [120,120] T.kids:=by rw[GQ _ _ (by decide) (by decide)];rfl
   rw[e,BN (by omega),hk,ifn,ifn,ifn,ifp,hb,and4]
   rfl
  ·have e:C8 T.kind DN=some ⟨136,⟨#[114,101,99]⟩,0,0,false,⟨#[102]⟩⟩:=by rw[h];rfl
   have hk:numT T=(decide (0≤T.n) && decide (T.n≤0)):=by unfold numT;rw[ifn,ifn,ifn,ifn,num0]
   have hb:(Bf 137 T.kids && Cv true [] T.kids)=BB [102] T.kids:=by rw[XZ,FO]
   rw[e,BN (by omega),hk,ifn,ifn,ifn,ifn,ifp,hb,and4]
   rfl
  ·have e:C8 T.kind DN=some ⟨138,⟨#[112,114,111,106]⟩,0,0,true,⟨#[120]⟩⟩:=by rw[h];rfl
   have hk:numT T=(decide (0≤T.n) && decide (T.n≤0)):=by unfold numT;rw[ifn,ifn,ifn,ifn,num0]
   have hb:(decide (T.kids.length=1) && AF (T.kids.getD 0 .nil))=BB [120] T.kids:=by rw[Vy _ (by decide) (by decide)];rfl
   rw[e,Lu (by omega),hk,ifn,ifn,ifn,ifn,ifn,ifp,hb,and4]
   rfl
  ·have e:C8 T.kind DN=some ⟨139,⟨#[116,108,97,109]⟩,0,0,false,⟨#[107,84]⟩⟩:=by rw[h];rfl
   have hk:numT T=(decide (0≤T.n) && decide (T.n≤0)):=by unfold numT;rw[ifn,ifn,ifn,ifn,num0]
   have hb:(decide (T.kids.length=2) && AU (T.kids.getD 0 .nil) && AF (T.kids.getD 1 .nil))=BB [107,84] T.kids:=by rw[GQ _ _ (by decide) (by decide)];rfl
   rw[e,BN (by omega),hk,ifn,ifn,ifp,hb,and4]
   rfl
  ·have e:C8 T.kind DN=some ⟨140,⟨#[116,97,112,112]⟩,0,0,false,⟨#[120,99]⟩⟩:=by rw[h];rfl
   have hk:numT T=(decide (0≤T.n) && decide (T.n≤0)):=by unfold numT;rw[ifn,ifn,ifn,ifn,num0]
   have hb:(decide (T.kids.length=2) && AF (T.kids.getD 0 .nil) && AG (T.kids.getD 1 .nil))=BB [120,99] T.kids:=by rw[GQ _ _ (by decide) (by decide)];rfl
   rw[e,BN (by omega),hk,ifn,ifn,ifn,ifn,ifn,ifn,ifp,hb,and4]
   rfl
  ·have e:C8 T.kind DN=some ⟨141,⟨#[112,97,99,107]⟩,0,0,false,⟨#[99,120,99]⟩⟩:=by rw[h];rfl
   have hk:numT T=(decide (0≤T.n) && decide (T.n≤0)):=by unfold numT;rw[ifn,ifn,ifn,ifn,num0]
   have hb:(decide (T.kids.length=3) && AG (T.kids.getD 0 .nil) && AF (T.kids.getD 1 .nil) && AG (T.kids.getD 2 .nil))=BB [99,120,99] T.kids:=by rw[VS _ _ _ (by decide) (by decide)];rfl
   rw[e,BN (by omega),hk,ifn,ifn,ifn,ifn,ifn,ifn,ifn,ifp,hb,and4]
   rfl
  ·have e:C8 T.kind DN=some ⟨142,⟨#[117,110,112,97,99,107]⟩,0,0,false,⟨#[120,66]⟩⟩:=by rw[h];rfl
   have hk:numT T=(decide (0≤T.n) && decide (T.n≤0)):=by unfold numT;rw[ifn,ifn,ifn,ifn,num0]
   have hb:(decide (T.kids.length=2) && AF (T.kids.getD 0 .nil) && AF (T.kids.getD 1 .nil))=BB [120,66] T.kids:=by rw[GQ _ _ (by decide) (by decide)];rfl
   rw[e,BN (by omega),hk,ifn,ifn,ifn,ifp,hb,and4]
   rfl
  ·have e:C8 T.kind DN=some ⟨143,⟨#[108,101,116]⟩,0,0,false,⟨#[120,88]⟩⟩:=by rw[h];rfl
   have hk:numT T=(decide (0≤T.n) && decide (T.n≤0)):=by unfold numT;rw[ifn,ifn,ifn,ifn,num0]
   have hb:(decide (T.kids.length=2) && AF (T.kids.getD 0 .nil) && AF (T.kids.getD 1 .nil))=BB [120,88] T.kids:=by rw[GQ _ _ (by decide) (by decide)];rfl
   rw[e,BN (by omega),hk,ifn,ifn,ifn,ifp,hb,and4]
   rfl
  ·have e:C8 T.kind DN=some ⟨144,⟨#[105,102]⟩,0,0,false,⟨#[120,120,120]⟩⟩:=by rw[h];rfl
   have hk:numT T=(decide (0≤T.n) && decide (T.n≤0)):=by unfold numT;rw[ifn,ifn,ifn,ifn,num0]
   have hb:(decide (T.kids.length=3) && AF (T.kids.getD 0 .nil) && AF (T.kids.getD 1 .nil) && AF (T.kids.getD 2 .nil))=BB [120,120,120] T.kids:=by rw[VS _ _ _ (by decide) (by decide)];rfl
   rw[e,BN (by omega),hk,ifn,ifn,ifn,ifn,ifn,ifn,ifn,ifn,ifp,hb,and4]
   rfl
  ·have e:C8 T.kind DN=some ⟨145,⟨#[111,112]⟩,1,5,false,⟨#[120,120]⟩⟩:=by rw[h];rfl
   have hk:numT T=(decide (1≤T.n) && decide (T.n≤5)):=by unfold numT;rw[ifn,ifn,ifn,if_pos h]
   have hb:(decide (T.kids.length=2) && AF (T.kids.getD 0 .nil) && AF (T.kids.getD 1 .nil))=BB [120,120] T.kids:=by rw[GQ _ _ (by decide) (by decide)];rfl
   rw[e,BN (by omega),hk,ifn,ifn,ifn,ifp,hb,and4]
   rfl
  ·have e:C8 T.kind DN=some ⟨146,⟨#[105,110]⟩,0,0,true,⟨#[99,120]⟩⟩:=by rw[h];rfl
   have hk:numT T=(decide (0≤T.n) && decide (T.n≤0)):=by unfold numT;rw[ifn,ifn,ifn,ifn,num0]
   have hb:(decide (T.kids.length=2) && AG (T.kids.getD 0 .nil) && AF (T.kids.getD 1 .nil))=BB [99,120] T.kids:=by rw[GQ _ _ (by decide) (by decide)];rfl
   rw[e,Lu (by omega),hk,ifn,ifp,hb,and4]
   rfl
  ·have e:C8 T.kind DN=some ⟨147,⟨#[99,97,115,101]⟩,0,0,false,⟨#[120,97]⟩⟩:=by rw[h];rfl
   have hk:numT T=(decide (0≤T.n) && decide (T.n≤0)):=by unfold numT;rw[ifn,ifn,ifn,ifn,num0]
   have hb:(decide (1 < T.kids.length) && AF (T.kids.getD 0 .nil) && Bf 149 (T.kids.drop 1) && Cv false [] (T.kids.drop 1))=BB [120,97] T.kids:=by rw[SN,FO];rw[Y0];simp only[Bool.and_assoc]
   rw[e,BN (by omega),hk,ifn,ifn,ifn,ifn,ifn,ifn,ifn,ifn,ifn,ifp,hb,and4]
   rfl
  ·have e:C8 T.kind DN=some ⟨148,⟨#[102,111,108,100]⟩,0,0,false,⟨#[120,99,97]⟩⟩:=by rw[h];rfl
   have hk:numT T=(decide (0≤T.n) && decide (T.n≤0)):=by unfold numT;rw[ifn,ifn,ifn,ifn,num0]
   have hb:(decide (2 < T.kids.length) && AF (T.kids.getD 0 .nil) && AG (T.kids.getD 1 .nil) && Bf 149 (T.kids.drop 2) && Cv false [] (T.kids.drop 2))=BB [120,99,97] T.kids:=by rw[Xq,FO];rw[Y0];rw[a8];simp only[Bool.and_assoc]
   rw[e,BN (by omega),hk,ifn,ifn,ifn,ifn,ifn,ifn,ifn,ifn,ifn,ifn,ifp,hb,and4]
   rfl
 ·rw[Q7 h,ifn,ifn,ifn,ifn,ifn,ifn,ifn,ifn,ifn,ifn,ifn]
  simp[rowF]
end Tm
end Go.Proofs.YtlgajkoplklkiaaGreat
namespace Go.Proofs.YtlgajkoplklkiaaGreat
open Go Go.Mq
end Go.Proofs.YtlgajkoplklkiaaGreat
namespace Go.Proofs.YtlgajkoplklkiaaGreat
namespace Tm
open Go Go.Mq
def Ej (l:List Cel):List Cel:=(l.take 80).map cutC
def Yx (l:List Cel):Tree:=(IP (Ej l)).1
theorem Qx (l:List Cel)(i j:Nat)(hi:i < (Ej l).length)(hj:j < 5):rowG l (i*5+j)=.d (GI ((Ej l).getD i default) j):=by
 have h1:(i*5+j) / 5=i:=by omega
 have h2:(i*5+j) % 5=j:=by omega
 unfold rowG
 rw[h1,h2]
 have h60:i < 80∧i < l.length:=by simp[Ej]at hi;omega
 have e:(Ej l).getD i default=cutC (l.getD i default):=by
  simp[Ej,List.getElem?_take,h60.1,h60.2]
 rw[e]
theorem XF (l:List Cel):Pure P 5 [.agg [.d (cellsD l)]] (.d (.tree (Yx l))):=by
 refine Pure.AB tt [] [2] Tryz.func5 rfl rfl rfl lb fun g=>?_
 repeat' ((first|refine Ga ?_|refine Gc fun hlen=>?_|refine Gd (fun hc=>?_) fun hc=>?_)<;>conv=>whnf)
 refine AY (α:=Nat) (fun p=>⟨[(1,.ref 0 0),(3,.ref 1 0),(4,.d (.int .i64 p))],62,[(0,.cells [.d (cellsD l)]),(1,.cells [.row 2 p]),(2,.row 42 (.gen p 5 (rowG l)))],3,g⟩)
    (fun p=>p≤l.length∧p≤80) (fun p=>l.length - p) 0 ⟨by simp,by simp⟩
    (Ent.nil rfl rfl rfl (by repeat' first|exact trivial|apply And.intro|rfl|(refine int_eq ?_;rw[wrap64]<;>omega)) (by repeat' first|exact trivial|apply And.intro|rfl|(refine int_eq ?_;rw[wrap64]<;>omega))) (fun _=>rfl) fun p hpre=>?_
 obtain⟨hp1,hp2⟩:=hpre
 by_cases hlt:p < l.length∧p < 80
 ·obtain⟨hl1,hl2⟩:=hlt
  have hn:=Ns 165 (l.getD p default).name.size (by omega) (by omega)
  have hmk:=Ns 20 (l.getD p default).mark.size (by omega) (by omega)
  have hkd:=Ns 12 (l.getD p default).kids.length (by omega) (by omega)
  obtain rfl|⟨k,rfl⟩:p=0∨∃k,p=k+1:=by cases p;exact .inl rfl;exact .inr ⟨_,rfl⟩
  ·repeat' ((first|refine Ga ?_|refine Gc fun hlen=>?_|refine Gh ((0:Int)≤(0:Int)∧(0:Int) < (l.length:Int)) ?_|refine Gh ((0:Int)≤loF 165 (l.getD 0 default).name.size∧loF 165 (l.getD 0 default).name.size≤(l.getD 0 default).name.size) ?_|refine Gh ((0:Int)≤loF 20 (l.getD 0 default).mark.size∧loF 20 (l.getD 0 default).mark.size≤(l.getD 0 default).mark.size) ?_|refine Gh ((0:Int)≤loF 12 (l.getD 0 default).kids.length∧loF 12 (l.getD 0 default).kids.length≤(l.getD 0 default).kids.length) ?_|refine Gh ((0+(loF 12 (l.getD 0 default).kids.length).toNat≤17592186044416∧(0+(loF 12 (l.getD 0 default).kids.length).toNat)*8≤140737488355328)) ?_|refine Gh ((0+1≤17592186044416∧(0+1)*72≤140737488355328)) ?_|refine Side.mk (show RowC.Jx _ from fun i _=>rfl) ?_|refine Side.mk (show RowC.Jx _ from fun i hi=>by have hi:i < 5:=hi;match i,hi with|0,_=>rfl|1,_=>rfl|2,_=>rfl|3,_=>rfl|4,_=>rfl) ?_|refine Gd (fun hc=>?_) fun hc=>?_)<;>conv=>whnf)
   refine⟨1,⟨by omega,by omega⟩,by omega,Ent.trans (Ent.FF 5 (n:=(cutC (l.getD 0 default)).kids.length) (sz:=1) (f:=fun i _=>.int .i64 ((cutC (l.getD 0 default)).kids.getD i 0)) rfl ?_ rfl ?_ ?_ ?_) (Ent.trans (Ent.P2 7 (.gen 1 5 (rowG l)) rfl rfl rfl ?_) (Ent.re [0,1,7] rfl rfl rfl rfl rfl rfl (by repeat' first|exact trivial|apply And.intro|rfl|(refine int_eq ?_;rw[wrap64]<;>omega)) (by repeat' first|exact trivial|apply And.intro|rfl|exact fun i=>rfl)))⟩
   ·exact GF (l.getD 0 default)
   ·intro i j hi hj
    exact M8 (l.getD 0 default) i j hi hj
   ·repeat' first|exact trivial|apply And.intro|rfl|exact GF (l.getD 0 default)|exact H9 (l.getD 0 default)
   ·repeat' first|exact trivial|apply And.intro|rfl|exact H9 (l.getD 0 default)|(refine fun i=>Hu ?_ i)
   ·intro i hi
    have hi:i < 1*5:=hi
    match i,hi with
    | 0,_=>rfl
    | 1,_=>rfl
    | 2,_=>rfl
    | 3,_=>rfl
    | 4,_=>rfl
  ·repeat' ((first|refine Ga ?_|refine Gc fun hlen=>?_|refine Gh ((0:Int)≤((k+1:Nat):Int)∧((k+1:Nat):Int) < (l.length:Int)) ?_|refine Gh ((0:Int)≤loF 165 (l.getD (k+1) default).name.size∧loF 165 (l.getD (k+1) default).name.size≤(l.getD (k+1) default).name.size) ?_|refine Gh ((0:Int)≤loF 20 (l.getD (k+1) default).mark.size∧loF 20 (l.getD (k+1) default).mark.size≤(l.getD (k+1) default).mark.size) ?_|refine Gh ((0:Int)≤loF 12 (l.getD (k+1) default).kids.length∧loF 12 (l.getD (k+1) default).kids.length≤(l.getD (k+1) default).kids.length) ?_|refine Gh ((0+(loF 12 (l.getD (k+1) default).kids.length).toNat≤17592186044416∧(0+(loF 12 (l.getD (k+1) default).kids.length).toNat)*8≤140737488355328)) ?_|refine Gh (((k+1)+1≤17592186044416∧((k+1)+1)*72≤140737488355328)) ?_|refine Side.mk (show RowC.Jx _ from fun i _=>rfl) ?_|refine Side.mk (show RowC.Jx _ from fun i hi=>by have hi:i < 5:=hi;match i,hi with|0,_=>rfl|1,_=>rfl|2,_=>rfl|3,_=>rfl|4,_=>rfl) ?_|refine Gd (fun hc=>?_) fun hc=>?_)<;>conv=>whnf)
   refine⟨k+2,⟨by omega,by omega⟩,by omega,Ent.trans (Ent.FF 5 (n:=(cutC (l.getD (k+1) default)).kids.length) (sz:=1) (f:=fun i _=>.int .i64 ((cutC (l.getD (k+1) default)).kids.getD i 0)) rfl ?_ rfl ?_ ?_ ?_) (Ent.trans (Ent.P2 7 (.gen (k+1+1) 5 (rowG l)) rfl rfl rfl ?_) (Ent.re [0,1,7] rfl rfl rfl rfl rfl rfl (by repeat' first|exact trivial|apply And.intro|rfl|(refine int_eq ?_;rw[wrap64]<;>omega)) (by repeat' first|exact trivial|apply And.intro|rfl|exact fun i=>rfl)))⟩
   ·exact GF (l.getD (k+1) default)
   ·intro i j hi hj
    exact M8 (l.getD (k+1) default) i j hi hj
   ·repeat' first|exact trivial|apply And.intro|rfl|exact GF (l.getD (k+1) default)|exact H9 (l.getD (k+1) default)
   ·repeat' first|exact trivial|apply And.intro|rfl|exact H9 (l.getD (k+1) default)|(refine fun i=>Hu ?_ i)|(refine fun i=>Vk ?_ (Hu ?_ _))
   ·intro i hi
    have hi:i < (k+1+1)*5:=hi
    show rowG l i=AVal.fz 5 _ _ (ite (i < (k+1)*5) _ _)
    by_cases hik:i < (k+1)*5
    ·rw[if_pos hik];rfl
    ·rw[if_neg hik]
     obtain⟨j,rfl⟩:∃j,i=(k+1)*5+j:=⟨i - (k+1)*5,by omega⟩
     have hj:j < 5:=by omega
     have h1:((k+1)*5+j) / 5=k+1:=by omega
     have h2:((k+1)*5+j) % 5=j:=by omega
     have h3:(k+1)*5+j - (k+1)*5=j:=by omega
     unfold rowG
     rw[h1,h2,h3]
     match j,hj with
     | 0,_=>rfl
     | 1,_=>rfl
     | 2,_=>rfl
     | 3,_=>rfl
     | 4,_=>rfl
 ·have hfl:p=(Ej l).length:=by simp[Ej];omega
  have hcell:∀i j,i < (Ej l).length→j < 5→rowG l (i*5+j)=.d (GI ((Ej l).getD i default) j):=fun i j hi hj=>Qx l i j hi hj
  by_cases hpl:p=l.length
  ·refine G5 hm htt ?_
   conv=>whnf
   repeat' ((first|refine Gb ?_|refine Gc fun hlen=>?_|refine Gd (fun hc=>?_) fun hc=>?_)<;>conv=>whnf)
   refine G5 hm htt ?_
   conv=>whnf
   repeat' ((first|refine Gb ?_|refine Gc fun hlen=>?_|refine Gd (fun hc=>?_) fun hc=>?_)<;>conv=>whnf)
   refine G5 hm htt ?_
   conv=>whnf
   refine Ls (Ent.FF 2 (n:=(Ej l).length) (sz:=5) (f:=fun i j=>GI ((Ej l).getD i default) j) rfl hfl rfl hcell ?_ ?_) ?_
   ·repeat' first|exact trivial|apply And.intro|rfl|exact hfl
   ·repeat' first|exact trivial|apply And.intro|rfl|exact hfl
   repeat' ((first|refine Ga ?_|refine Gc fun hlen=>?_|refine Ge (SH (Ej l)) ?_|refine Gd (fun hc=>?_) fun hc=>?_)<;>conv=>whnf)
   exact Gf rfl (A4 rfl) rfl
  ·have hpl2:p < l.length:=by omega
   have hp60:¬p < 80:=by omega
   refine G5 hm htt ?_
   conv=>whnf
   repeat' ((first|refine Gb ?_|refine Gc fun hlen=>?_|refine Gd (fun hc=>?_) fun hc=>?_)<;>conv=>whnf)
   refine G5 hm htt ?_
   conv=>whnf
   repeat' ((first|refine Gb ?_|refine Gc fun hlen=>?_|refine Gd (fun hc=>?_) fun hc=>?_)<;>conv=>whnf)
   refine G5 hm htt ?_
   conv=>whnf
   refine Ls (Ent.FF 2 (n:=(Ej l).length) (sz:=5) (f:=fun i j=>GI ((Ej l).getD i default) j) rfl hfl rfl hcell ?_ ?_) ?_
   ·repeat' first|exact trivial|apply And.intro|rfl|exact hfl
   ·repeat' first|exact trivial|apply And.intro|rfl|exact hfl
   repeat' ((first|refine Ga ?_|refine Gc fun hlen=>?_|refine Ge (SH (Ej l)) ?_|refine Gd (fun hc=>?_) fun hc=>?_)<;>conv=>whnf)
   exact Gf rfl (A4 rfl) rfl
def mx (a b:Int):Int:=if b > a then b else a
theorem Eh (a b:Int):mx a b=max a b:=by unfold mx;split<;>omega
def bndF (k:Int)(i:Nat):Int×Int:=if k=149 then (0,1) else if i≠1 then (0,0) else if k=139 then (1,0) else if k=142 then (1,1) else if k=134∨k=143 then (0,1) else (0,0)
theorem S5 (k:Int)(i:Nat):bndF k i=(0,0)∨bndF k i=(0,1)∨bndF k i=(1,0)∨bndF k i=(1,1):=by
 unfold bndF
 repeat' split
 all_goals simp
theorem EA (k:Int)(i:Nat):0≤(bndF k i).1∧(bndF k i).1≤1∧0≤(bndF k i).2∧(bndF k i).2≤1:=by
 rcases S5 k i with h|h|h|h<;>rw[h]<;>decide
theorem T2 (T:Tree)(hT:T≠.nil)(i:Nat):Pure P 73 [.d (.tree T),.d (.int .i64 i)] (.tuple [.d (.int .i64 (bndF T.kind i).1),.d (.int .i64 (bndF T.kind i).2)]):=by
 refine Pure.AB tt [] [4,5] Tryz.func73 rfl rfl rfl lb fun g=>?_
 unfold bndF
 by_cases k1:T.kind=149
 ·rw[if_pos k1]
  repeat' ((first|refine Ga ?_|refine Gc fun hlen=>?_|refine Gd (fun hc=>?_) fun hc=>?_)<;>conv=>whnf)
  exact Gg
 rw[if_neg k1]
 by_cases k2:i=1
 ·rw[ifn]
  subst k2
  by_cases k3:T.kind=139
  ·rw[if_pos k3]
   repeat' ((first|refine Ga ?_|refine Gc fun hlen=>?_|refine Gd (fun hc=>?_) fun hc=>?_)<;>conv=>whnf)
   exact Gg
  rw[if_neg k3]
  by_cases k4:T.kind=142
  ·rw[if_pos k4]
   repeat' ((first|refine Ga ?_|refine Gc fun hlen=>?_|refine Gd (fun hc=>?_) fun hc=>?_)<;>conv=>whnf)
   exact Gg
  rw[if_neg k4]
  by_cases k5:T.kind=134∨T.kind=143
  ·rw[if_pos k5]
   repeat' ((first|refine Ga ?_|refine Gc fun hlen=>?_|refine Gd (fun hc=>?_) fun hc=>?_)<;>conv=>whnf)
   all_goals exact Gg
  ·rw[if_neg k5]
   repeat' ((first|refine Ga ?_|refine Gc fun hlen=>?_|refine Gd (fun hc=>?_) fun hc=>?_)<;>conv=>whnf)
   all_goals exact Gg
 ·rw[if_pos k2]
  repeat' ((first|refine Ga ?_|refine Gc fun hlen=>?_|refine Gd (fun hc=>?_) fun hc=>?_)<;>conv=>whnf)
  exact Gg
mutual
def Ai:Tree→Int→Int→Int×Int
 | .nil,_,_=>(0,0)
 | .node k n nm mk l,c,t=>if k=130 then (0,n - t+1) else if k < 130 then (Bv (.node k n nm mk l) - c,0) else Br k 0 l c t
def Br (k:Int)(i:Nat):List Tree→Int→Int→Int×Int
 | [],_,_=>(0,0)
 | x::l,c,t=>(mx (Br k (i+1) l c t).1 (Ai x (c+(bndF k i).1) (t+(bndF k i).2)).1,mx (Br k (i+1) l c t).2 (Ai x (c+(bndF k i).1) (t+(bndF k i).2)).2)
end
theorem Bc {T:Tree}(h:T≠.nil)(c t:Int):Ai T c t=if T.kind=130 then (0,T.n - t+1) else if T.kind < 130 then (Bv T - c,0) else Br T.kind 0 T.kids c t:=by
 cases T with
 | nil=>exact absurd rfl h
 | node=>rw[Ai];rfl
theorem LW (k:Int):∀(l:List Tree) (i:Nat) (c t:Int),0≤(Br k i l c t).1∧0≤(Br k i l c t).2
 | [],i,c,t=>by rw[Br];exact⟨Int.le_refl _,Int.le_refl _⟩
 | x::l,i,c,t=>by
  have h:=LW k l (i+1) c t
  rw[Br]
  simp only[Eh]
  omega
theorem JV (T:Tree):0≤Bv T∧Bv T≤65537:=by
 rw[Hf,IX]
 split
 ·rename_i h
  have hz:=Al h
  have hl:lim=1099511627776:=rfl
  have h1:=RK T 0 (Aa h) (by omega) (by omega)
  have h2:=(F0 T 0 (Aa h) (by omega) (by omega)).2.1
  omega
 ·omega
theorem LN {a b:Int}(h:a=b):some (AObj.cells [AVal.d (.int .i64 a)])=some (AObj.cells [AVal.d (.int .i64 b)]):=by rw[h]
def PU:Int→Int→List (Nat×AObj):=fun A B=>[(0,.cells [.d (.int .i64 B)]),(1,.cells [.d (.int .i64 A)]),(2,.cells [.fn 72 [.ref 0 0,.ref 1 0,.ref 2 0]])]
theorem DE {T:Tree}(h:Shw T):T.kind < 130∨((130≤T.kind)∧(T.kind=130→0≤T.n∧T.n≤65536)∧∀x∈T.kids,Shw x):=by
 rcases h with h|h|h|h
 ·exact .inl (E7 h)
 ·obtain⟨hh,hk⟩:=BR h
  exact .inr ⟨hh.kind.1,hh.n130,hk⟩
 ·obtain⟨p1,p2,p3,p4,p5⟩:=AK h
  refine .inr ⟨by omega,fun q=>by omega,fun x hx=>?_⟩
  rw[FT p4 hx];exact .inr (.inl p5)
 ·obtain⟨p1,p2,p3,p4,p5⟩:=AK h
  refine .inr ⟨by omega,fun q=>by omega,fun x hx=>?_⟩
  rw[FT p4 hx];exact .inr (.inl p5)
theorem Uv (T:Tree):∀(c t A B:Int),Shw T→0≤c→c+AD T≤1099511627776→0≤t→t+AD T≤1099511627776→0≤A→0≤B →
  Fun P 72 [.d (.tree T),.d (.int .i64 c),.d (.int .i64 t),.ref 0 0,.ref 1 0,.ref 2 0] (PU A B) 3 (.tuple []) (PU (mx A (Ai T c t).1) (mx B (Ai T c t).2)) 3:=by
 induction T using Tree.ind' with
 | h0=>intro c t A B h;exact absurd rfl h.ne
 | h1 T hT ih=>?_
 intro c t A B hs hc0 hc1 ht0 ht1 hA hB
 have hsz:=AI hT
 have hfe:=Bc hT c t
 unfold PU
 refine Fun.AB tt [] [] Tryz.func72 rfl rfl rfl lb fun g=>?_
 rcases DE hs with hk|⟨hk,hn,hkids⟩
 ·rw[ifn,if_pos hk]at hfe
  rw[hfe]
  have hfr:=JV T
  repeat' ((first|refine Ga ?_|refine Gc fun hlen=>?_|refine Ge (SG T) ?_|refine Gd (fun hc=>?_) fun hc=>?_)<;>conv=>whnf)
  refine AM rfl rfl rfl ?_ (Nat.le_refl _)
  have e:IntKind.i64.wrap (Bv T - c)=Bv T - c:=wrap64 (by omega) (by omega)
  refine⟨LN ?_,LN ?_,rfl,trivial⟩
  ·simp only[Eh];omega
  ·rw[e];rfl
 by_cases q:T.kind=130
 ·rw[if_pos q]at hfe
  rw[hfe]
  have hb:=hn q
  repeat' ((first|refine Ga ?_|refine Gc fun hlen=>?_|refine Gd (fun hc=>?_) fun hc=>?_)<;>conv=>whnf)
  refine AM rfl rfl rfl ?_ (Nat.le_refl _)
  have e:IntKind.i64.wrap (T.n - t)=T.n - t:=wrap64 (by omega) (by omega)
  have e2:IntKind.i64.wrap (IntKind.i64.wrap (T.n - t)+1)=T.n - t+1:=by rw[e];exact wrap64 (by omega) (by omega)
  refine⟨LN ?_,LN ?_,rfl,trivial⟩
  ·rw[e2];rfl
  ·simp only[Eh];omega
 rw[if_neg q,ifn]at hfe
 rw[hfe]
 repeat' ((first|refine Ga ?_|refine Gc fun hlen=>?_|refine Gd (fun hc=>?_) fun hc=>?_)<;>conv=>whnf)
 refine AY (α:=Nat×Int×Int) (fun p=>⟨[(0,.d (.tree T)),(1,.d (.int .i64 c)),(2,.d (.int .i64 t)),(3,.ref 0 0),(4,.ref 1 0),(5,.ref 2 0),(43,.d (.trees T.kids)),(44,.d (.int .i64 T.kids.length)),(45,.d (.int .i64 p.1))],66,[(0,.cells [.d (.int .i64 p.2.2)]),(1,.cells [.d (.int .i64 p.2.1)]),(2,.cells [.fn 72 [.ref 0 0,.ref 1 0,.ref 2 0]])],3,g⟩)
   (fun p=>p.1≤T.kids.length∧0≤p.2.1∧0≤p.2.2∧mx p.2.1 (Br T.kind p.1 (T.kids.drop p.1) c t).1=mx A (Br T.kind 0 T.kids c t).1∧mx p.2.2 (Br T.kind p.1 (T.kids.drop p.1) c t).2=mx B (Br T.kind 0 T.kids c t).2) (fun p=>T.kids.length - p.1) (0,A,B) ⟨by simp,hA,hB,rfl,rfl⟩
   (Ent.go [0,1,2]) (fun _=>rfl) fun p hpre=>?_
 obtain⟨p,A',B'⟩:=p
 obtain⟨hp1,hp2,hp3,hp4,hp5⟩:=hpre
 simp only[]at hp1 hp2 hp3 hp4 hp5
 by_cases hlt:p < T.kids.length
 ·have hmx:=AA hlt
  have s1:=AH hmx
  rw[AP hlt,Br]at hp4 hp5
  have hbl:=EA T.kind p
  have hbi:=T2 T hT p
  generalize bndF T.kind p=b at *
  obtain⟨b1,b2⟩:=b
  simp only[]at hbl hbi hp4 hp5
  have hih:=ih _ hmx (c+b1) (t+b2) A' B' (hkids _ hmx) (by omega) (by omega) (by omega) (by omega) hp2 hp3
  have hq:=LW T.kind (T.kids.drop (p+1)) (p+1) c t
  have w1:IntKind.i64.wrap (c+b1)=c+b1:=wrap64 (by omega) (by omega)
  have w2:IntKind.i64.wrap (t+b2)=t+b2:=wrap64 (by omega) (by omega)
  generalize Ai (T.kids.getD p .nil) (c+b1) (t+b2)=F at *
  rw[←w1,←w2]at hih
  unfold PU at hih
  repeat' ((first|refine Ga ?_|refine Gc fun hlen=>?_|refine Ge hbi ?_|refine AJ.go hih [0,1,2] ?_|refine Gd (fun hc=>?_) fun hc=>?_)<;>conv=>whnf)
  exact⟨(p+1,mx A' F.1,mx B' F.2),⟨by simp only[];omega,by simp only[Eh];omega,by simp only[Eh];omega,by simp only[];rw[←hp4];simp only[Eh];omega,by simp only[];rw[←hp5];simp only[Eh];omega⟩,by simp only[];omega,Ent.go [0,1,2]⟩
 ·rw[Ab (by omega),Br]at hp4 hp5
  repeat' ((first|refine Ga ?_|refine Gc fun hlen=>?_|refine Gd (fun hc=>?_) fun hc=>?_)<;>conv=>whnf)
  refine AM rfl rfl rfl ?_ (Nat.le_refl _)
  refine⟨LN ?_,LN ?_,rfl,trivial⟩
  ·rw[←hp5];simp only[Eh];omega
  ·rw[←hp4];simp only[Eh];omega
def IZ (T:Tree):Int×Int:=if Au T=0 then (mx 0 (Ai T 0 0).1,mx 0 (Ai T 0 0).2) else (0,0)
theorem Vz (T:Tree):Pure P 38 [.d (.tree T)] (.tuple [.d (.int .i64 (IZ T).1),.d (.int .i64 (IZ T).2)]):=by
 refine Pure.DL tt [] [.cell 2 3,.cell 3 3] Tryz.func38 rfl rfl rfl lb fun g=>?_
 unfold IZ
 by_cases h:Au T=0
 ·have h1:=CH T
  rw[h]at h1
  obtain⟨h2,h3,h4⟩:=Bo h
  have h5:=Uv T 0 0 0 0 (.inr (.inl h2)) (by omega) (by omega) (by omega) (by omega) (by omega) (by omega)
  rw[if_pos h]
  unfold PU at h5
  repeat' ((first|refine Ga ?_|refine Gc fun hlen=>?_|refine Ge h1 ?_|refine AJ.go h5 [1,0,2] ?_|refine Gd (fun hc=>?_) fun hc=>?_)<;>conv=>whnf)
  exact Bx htt _ rfl rfl rfl rfl
 ·rw[if_neg h]
  repeat' ((first|refine Ga ?_|refine Gc fun hlen=>?_|refine Ge (CH T) ?_|refine Gd (fun hc=>?_) fun hc=>?_)<;>conv=>whnf)
  exact Bx htt _ rfl rfl rfl rfl
end Tm
end Go.Proofs.YtlgajkoplklkiaaGreat
namespace Go.Proofs.YtlgajkoplklkiaaGreat
namespace Tm
open Go Go.Mq
theorem VM {T:Tree}(h:AF T=true)(hF:Full T)(hz:AD T≤65536):Au T=0:=by
 have hw:=IQ T hF 65536 (by omega)
 unfold Au C5
 rw[hw,h];simp
theorem M9 {T:Tree}(h:Au T=0):IZ T=(mx 0 (Ai T 0 0).1,mx 0 (Ai T 0 0).2):=by unfold IZ;rw[if_pos h]
end Tm
end Go.Proofs.YtlgajkoplklkiaaGreat
namespace Go.Mq
open Go
end Go.Mq
namespace Go.Proofs.YtlgajkoplklkiaaGreat
namespace Tm
open Go Go.Mq
theorem Gw:∀{l:List Tree},DY l=true→∀x∈l,AW (x.kids.getD 0 .nil)=true
 | [],_,x,hx=>by cases hx
 | y::l,h,x,hx=>by
  rw[DY,Bool.and_eq_true,LG]at h
  rcases List.mem_cons.1 hx with rfl|hx
  ·exact h.1
  ·exact Gw h.2 x hx
end Tm
end Go.Proofs.YtlgajkoplklkiaaGreat
namespace Go.Proofs.YtlgajkoplklkiaaGreat
namespace Sb
open Go Go.Mq Tm
mutual
def inT (i:Int)(b:Tree):Tree→Int→Tree
 | .nil,_=>.nil
 | .node k n nm mk l,t=>if k=130 then (if n < t∨n - t < i then .node k n nm mk l else if i < n - t then .node 130 (n - 1) ByteArray.empty ByteArray.empty [] else b)
  else if k < 130 then .node k n nm mk l else .node k n nm mk (insT i b k 0 l t)
def insT (i:Int)(b:Tree)(k:Int)(p:Nat):List Tree→Int→List Tree
 | [],_=>[]
 | x::l,t=>inT i b x (t+(bndF k p).2)::insT i b k (p+1) l t
end
theorem Fu {T:Tree}(h:T≠.nil)(i:Int)(b:Tree)(t:Int):inT i b T t=if T.kind=130 then (if T.n < t∨T.n - t < i then T else if i < T.n - t then .node 130 (T.n - 1) ByteArray.empty ByteArray.empty [] else b)
  else if T.kind < 130 then T else .node T.kind T.n T.name T.mark (insT i b T.kind 0 T.kids t):=by
 cases T with
 | nil=>exact absurd rfl h
 | node=>rw[inT];rfl
theorem F4 (i:Int)(b:Tree)(k:Int):∀(l:List Tree) (p:Nat) (t:Int),(insT i b k p l t).length=l.length
 | [],p,t=>by rw[insT]
 | x::l,p,t=>by rw[insT];simp[F4 i b k l (p+1) t]
mutual
def cntF:Tree→Int→Int
 | .nil,r=>r
 | .node _ _ _ _ l,r=>HW l (r - 1)
def HW:List Tree→Int→Int
 | [],r=>r
 | x::l,r=>if 0≤r then HW l (cntF x r) else HW l r
end
theorem Ni {T:Tree}(h:T≠.nil)(r:Int):cntF T r=HW T.kids (r - 1):=by
 cases T with
 | nil=>exact absurd rfl h
 | node=>rw[cntF];rfl
theorem VG (T:Tree):Full T→∀r:Int,0≤r→cntF T r=if (AD T:Int)≤r then r - AD T else -1:=by
 induction T using Tree.ind' with
 | h0=>intro h;exact absurd rfl h.ne
 | h1 T hT ih =>
  intro hF r hr
  have hsz:=AI hT
  rw[Ni hT]
  have h:∀(l:List Tree) (q:Int),(∀x∈l,x∈T.kids) → -1≤q→HW l q=if (AV l:Int)≤q then q - AV l else -1:=by
   intro l
   induction l with
   | nil =>
    intro q _ hq
    rw[HW,AV]
    split<;>omega
   | cons x l ihl =>
    intro q hx hq
    rw[HW,AV]
    push_cast
    have hxm:=hx x (by simp)
    have hx1:=AI (hF.kids x hxm).ne
    by_cases h0:0≤q
    ·rw[if_pos h0,ih x hxm (hF.kids x hxm) q h0]
     by_cases h1:(AD x:Int)≤q
     ·rw[if_pos h1,ihl _ (fun y hy=>hx y (by simp[hy])) (by omega)]
      by_cases h2:(AV l:Int)≤q - AD x
      ·rw[if_pos h2,ifp];omega
      ·rw[if_neg h2,ifn]
     ·rw[if_neg h1,ihl _ (fun y hy=>hx y (by simp[hy])) (by omega),ifn,ifn]
    ·rw[if_neg h0,ihl _ (fun y hy=>hx y (by simp[hy])) (by omega),ifn,ifn]
  rw[h T.kids (r - 1) (fun x hx=>hx) (by omega)]
  by_cases h1:(AD T:Int)≤r
  ·rw[if_pos h1,ifp];omega
  ·rw[if_neg h1,ifn]
def BC (T:Tree):Bool:=if conE T=0 then decide (Bv T=0) else decide (Au T=0) && (decide ((IZ T).1=0) && decide ((IZ T).2=0))
def E2 (T:Tree):Tree×Int:=if 65536 < AD T then (.nil,3) else (T,0)
def CO (T:Tree)(i:Int)(b:Tree):Tree×Int :=
 if Au T≠0 then (.nil,Au T) else if Au b≠0 then (.nil,Au b) else if i < 0∨BC b=false then (.nil,2) else E2 (inT i b T 0)
end Sb
end Go.Proofs.YtlgajkoplklkiaaGreat
namespace Go.Proofs.YtlgajkoplklkiaaGreat
namespace Sb
open Go Go.Mq Tm
structure Rp (x y:Tree):Prop where
 con:AG x=true→AG y=true
 kind:AU x=true→AU y=true
 term:AF x=true→AF y=true
 field:∀kind,A9 kind x=true→A9 kind y=true
 name:(∃kind,A9 kind x=true)→y.name=x.name
theorem NU:∀{l l':List Tree} (rise:Bool) (pre pre':List Tree),pre'.map Tree.name=pre.map Tree.name→l'.map Tree.name=l.map Tree.name→Cv rise pre' l'=Cv rise pre l
 | [],[],_,_,_,_,_=>rfl
 | [],_::_,_,_,_,_,h=>by simp at h
 | _::_,[],_,_,_,_,h=>by simp at h
 | x::l,x'::l',rise,pre,pre',hp,h=>by
  simp only[List.map_cons,List.cons.injEq]at h
  have e:(pre'.all fun y=>ED rise y.name x'.name)=pre.all fun y=>ED rise y.name x.name:=by
   rw[h.1]
   have g:∀(q:List Tree),(q.all fun y=>ED rise y.name x.name)=(q.map Tree.name).all fun s=>ED rise s x.name:=fun q=>by rw[List.all_map];rfl
   rw[g,g,hp]
  rw[Cv,Cv,e,NU rise (pre++[x]) (pre'++[x']) (by simp[hp,h.1]) h.2]
theorem KH {kind:Int}:∀{l l':List Tree},l'.length=l.length→(∀i,i < l.length→Rp (l.getD i .nil) (l'.getD i .nil))→Bf kind l=true→Bf kind l'=true∧l'.map Tree.name=l.map Tree.name
 | [],[],_,_,_=>⟨rfl,rfl⟩
 | [],_::_,h,_,_=>by simp at h
 | _::_,[],h,_,_=>by simp at h
 | x::l,x'::l',hl,h,hf=>by
  rw[Bf,Bool.and_eq_true]at hf
  have h0:=h 0 (by simp)
  obtain⟨a1,a2⟩:=KH (kind:=kind) (l:=l) (l':=l') (by simpa using hl) (fun i hi=>by have:=h (i+1) (by simpa using hi);simpa only[List.getD_cons_succ] using this) hf.2
  refine⟨?_,?_⟩
  ·rw[Bf,a1,Bool.and_true];exact h0.field kind hf.1
  ·rw[List.map_cons,List.map_cons,a2]
   congr 1
   exact h0.name ⟨kind,hf.1⟩
theorem Qc {kind:Int}{l l':List Tree}(hl:l'.length=l.length)(h:∀i,i < l.length→Rp (l.getD i .nil) (l'.getD i .nil))(hf:Hd kind l=true):Hd kind l'=true:=by
 unfold Hd at hf ⊢
 rw[FO]at hf ⊢
 simp only[Bool.and_eq_true]at hf ⊢
 obtain⟨a1,a2⟩:=KH hl h hf.1.1
 rw[NU _ [] [] rfl a2,hl]
 exact⟨⟨a1,hf.1.2⟩,hf.2⟩
theorem XQ {c:UInt8}{x y:Tree}(h:Rp x y)(hs:sgn c x=true):sgn c y=true:=by
 unfold sgn at hs ⊢
 split
 ·rename_i q;rw[if_pos q]at hs;exact h.con hs
 ·rename_i q
  rw[if_neg q]at hs
  split
  ·rename_i q2;rw[if_pos q2]at hs;exact h.kind hs
  ·rename_i q2;rw[if_neg q2]at hs;exact h.term hs
theorem NA:∀(b:List UInt8) {l l':List Tree},l'.length=l.length→(∀i,i < l.length→Rp (l.getD i .nil) (l'.getD i .nil))→BB b l=true→BB b l'=true
 | [],l,l',hl,_,hp=>by rw[BB]at hp ⊢;rw[hl];exact hp
 | c::r,l,l',hl,h,hp=>by
  rw[HS]at hp ⊢
  split
  ·rename_i q;rw[if_pos q]at hp;exact Qc hl h hp
  ·rename_i q
   rw[if_neg q]at hp
   split
   ·rename_i q2;rw[if_pos q2]at hp;exact Qc hl h hp
   ·rename_i q2
    rw[if_neg q2]at hp
    match l,l',hl,h,hp with
    | [],l',hl,h,hp=>cases hp
    | x::l,[],hl,h,hp=>simp at hl
    | x::l,x'::l',hl,h,hp =>
     have hp:(sgn c x && BB r l)=true:=hp
     show (sgn c x' && BB r l')=true
     rw[Bool.and_eq_true]at hp ⊢
     exact⟨XQ (h 0 (by simp)) hp.1,NA r (by simpa using hl) (fun i hi=>by have:=h (i+1) (by simpa using hi);simpa only[List.getD_cons_succ] using this) hp.2⟩
theorem S2 {T:Tree}{l':List Tree}(hl:l'.length=T.kids.length)(h:∀i,i < T.kids.length→Rp (T.kids.getD i .nil) (l'.getD i .nil))(ht:AF T=true):AF (.node T.kind T.n T.name T.mark l')=true:=by
 have hT:T≠.nil:=by intro e;subst e;rw[AF]at ht;cases ht
 rw[KW hT]at ht
 rw[KW (by simp)]
 show rowF (.node T.kind T.n T.name T.mark l') (C8 T.kind DN)=true
 cases hr:C8 T.kind DN with
 | none=>rw[hr]at ht;cases ht
 | some r =>
  rw[hr]at ht
  simp only[rowF,Bool.and_eq_true]at ht ⊢
  exact⟨ht.1,NA _ hl h ht.2⟩
theorem HD (i:Int)(b:Tree)(k:Int):∀(l:List Tree) (p:Nat) (t:Int) (j:Nat),j < l.length→(insT i b k p l t).getD j .nil=inT i b (l.getD j .nil) (t+(bndF k (p+j)).2)
 | [],p,t,j,h=>by simp at h
 | x::l,p,t,0,h=>by rw[insT];rfl
 | x::l,p,t,j+1,h=>by
  rw[insT,List.getD_cons_succ,List.getD_cons_succ,HD i b k l (p+1) t j (by simpa using h),show p+1+j=p+(j+1) by omega]
theorem Wx {n:Int}(h:0≤n∧n≤65536):FZ (.node 130 n ByteArray.empty ByteArray.empty [])=true:=by
 rw[BN (T:=.node 130 n ByteArray.empty ByteArray.empty []) ⟨show (130:Int)≠138 by decide,show (130:Int)≠146 by decide⟩]
 unfold numT
 rw[if_pos (show (Tree.node 130 n ByteArray.empty ByteArray.empty []).kind=130 from rfl)]
 have g1:decide (0≤(Tree.node 130 n ByteArray.empty ByteArray.empty []).n)=true:=decide_eq_true (show 0≤n from h.1)
 have g2:decide ((Tree.node 130 n ByteArray.empty ByteArray.empty []).n≤65536)=true:=decide_eq_true (show n≤65536 from h.2)
 rw[g1,g2]
 rfl
theorem SL (i:Int)(b:Tree)(hi:0≤i)(hb:AF b=true)(T:Tree):∀t:Int,0≤t→Shw T→Rp T (inT i b T t):=by
 induction T using Tree.ind' with
 | h0=>intro t _ h;exact absurd rfl h.ne
 | h1 T hT ih =>
  intro t ht hs
  rw[Fu hT]
  by_cases q:T.kind=130
  ·rw[if_pos q]
   have hcon:AG T=true→False:=fun h=>by have:=E7 (.inl h);omega
   have hkin:AU T=true→False:=fun h=>by have:=E7 (.inr h);omega
   have hfie:∀kind,(A9 kind T=true)→Shw T→kind=130∨False:=fun kind h _=>by
    obtain⟨_,p2,_⟩:=AK h;left;omega
   by_cases c1:T.n < t∨T.n - t < i
   ·rw[if_pos c1]
    exact⟨id,id,id,fun _=>id,fun _=>rfl⟩
   ·rw[if_neg c1]
    have ht':AF T=true:=by
     rcases hs with h|h|h|h
     ·have:=E7 h;omega
     ·exact h
     ·obtain⟨_,p2,_⟩:=AK h;omega
     ·obtain⟨_,p2,_⟩:=AK h;omega
    have hh:=BR ht'
    have hk0:T.kids.length=0:=by
     rw[At hT,Bool.and_eq_true,if_pos (.inl q)]at ht'
     exact of_decide_eq_true ht'.2
    have hfx:∀kind,A9 kind T=true→False:=fun kind h=>by
     obtain⟨_,_,_,p4,_⟩:=AK h;omega
    have hb':=hh.1.n130 q
    by_cases c2:i < T.n - t
    ·rw[if_pos c2]
     refine⟨fun h=>(hcon h).elim,fun h=>(hkin h).elim,fun _=>?_,fun k h=>(hfx k h).elim,fun⟨k,h⟩=>(hfx k h).elim⟩
     rw[At (by simp)]
     have e:=Wx (n:=T.n - 1) (by omega)
     rw[e]
     simp[Tree.kind,Tree.kids]
    ·rw[if_neg c2]
     exact⟨fun h=>(hcon h).elim,fun h=>(hkin h).elim,fun _=>hb,fun k h=>(hfx k h).elim,fun⟨k,h⟩=>(hfx k h).elim⟩
  rw[if_neg q]
  by_cases q2:T.kind < 130
  ·rw[if_pos q2]
   exact⟨id,id,id,fun _=>id,fun _=>rfl⟩
  rw[if_neg q2]
  have hk:∀x∈T.kids,Shw x:=by
   rcases DE hs with w|⟨_,_,w⟩
   ·exact absurd w q2
   ·exact w
  have hl:=F4 i b T.kind T.kids 0 t
  have hr:∀j,j < T.kids.length→Rp (T.kids.getD j .nil) ((insT i b T.kind 0 T.kids t).getD j .nil):=fun j hj=>by
   rw[HD i b T.kind T.kids 0 t j hj]
   have hm:=AA hj
   have hbl:=EA T.kind (0+j)
   exact ih _ hm _ (by omega) (hk _ hm)
  refine⟨fun h=>absurd (E7 (.inl h)) q2,fun h=>absurd (E7 (.inr h)) q2,fun h=>S2 hl hr h,fun kind h=>?_,fun _=>rfl⟩
  obtain⟨_,p2,_,p4,_⟩:=AK h
  rw[D9 hT]at h
  rw[D9 (by simp)]
  simp only[Bool.and_eq_true,decide_eq_true_eq]at h ⊢
  exact⟨⟨h.1.1,by show (insT i b T.kind 0 T.kids t).length=1;rw[hl];exact p4⟩,(hr 0 (by omega)).term h.2⟩
end Sb
end Go.Proofs.YtlgajkoplklkiaaGreat
namespace Go.Proofs.YtlgajkoplklkiaaGreat
open Go Go.Mq
end Go.Proofs.YtlgajkoplklkiaaGreat
namespace Go.Proofs.YtlgajkoplklkiaaGreat
namespace Ex
open Go Go.Mq
inductive EB:Tree→Prop
 | node {k n:Int} {nm mk:ByteArray} {l:List Tree} (hv:k=110→0≤n∧n≤65536) (hb:k=164∨k=165→0≤n∧n≤8192) (h:∀x∈l,EB x):EB (.node k n nm mk l)
theorem EB.of {T:Tree}(hT:T≠.nil)(hv:T.kind=110→0≤T.n∧T.n≤65536)(hb:T.kind=164∨T.kind=165→0≤T.n∧T.n≤8192)(hk:∀x∈T.kids,EB x):EB T:=by
 cases T with
 | nil=>exact absurd rfl hT
 | node=>exact .node hv hb hk
theorem EB.k {T:Tree}(h:EB T):∀x∈T.kids,EB x:=by cases h;assumption
theorem EB.full {T:Tree}(h:EB T):Full T:=by
 induction T using Tree.ind with
 | h0=>cases h
 | h1 k n nm mk l ih=>exact .node fun x hx=>ih x hx (h.k x hx)
theorem W7 (T:Tree):AU T=true→EB T:=by
 induction T using Tree.ind' with
 | h0=>intro h;rw[AU]at h;cases h
 | h1 T hT ih =>
  intro h
  rw[BP hT]at h
  split at h
  ·rename_i hk
   rw[Bool.and_eq_true]at h
   have hl:T.kids=[]:=by have:=h.2;rw[beq_iff_eq]at this;exact List.length_eq_zero_iff.1 (by omega)
   exact .of hT (fun e=>by omega) (fun e=>by omega) (fun x hx=>by rw[hl]at hx;cases hx)
  ·split at h
   ·rename_i hk
    simp only[Bool.and_eq_true,beq_iff_eq]at h
    obtain⟨⟨⟨h1,h2⟩,h3⟩,h4⟩:=h
    refine .of hT (fun e=>by omega) (fun e=>by omega) (fun x hx=>?_)
    rcases B8 (by omega:T.kids.length=2) hx with e|e
    ·exact ih x hx (by rw[e];exact h3)
    ·exact ih x hx (by rw[e];exact h4)
   ·cases h
abbrev ctx (k:Nat)(cons:List Tree)(T:Tree)(d:Int):List (Nat×AObj):=[(0,.cells [.row 1 k]),(1,.row 25 (.trees cons)),(2,.cells [.ref 0 0]),(3,.cells [.d (.tree T)]),(4,.cells [.d (.int .i64 d)])]
end Ex
end Go.Proofs.YtlgajkoplklkiaaGreat
namespace Go.Proofs.YtlgajkoplklkiaaGreat
namespace Sb
open Go Go.Mq Tm
theorem HH (T:Tree):Shw T→Full T:=by
 induction T using Tree.ind' with
 | h0=>intro h;exact absurd rfl h.ne
 | h1 T hT ih =>
  intro h
  rcases DE h with hk|⟨_,_,hk⟩
  ·rcases h with h|h|h|h
   ·rcases h with h|h
    ·exact (Dw T h).full
    ·exact (Ex.W7 T h).full
   ·have:=(BR h).1.kind;omega
   ·obtain⟨_,p2,_⟩:=AK h;omega
   ·obtain⟨_,p2,_⟩:=AK h;omega
  ·exact Full.of hT fun x hx=>ih x hx (hk x hx)
theorem E1 {T:Tree}(h:AF T=true):Full T:=HH T (.inr (.inl h))
theorem KS {T:Tree}(h:AF T=true):conE T≠0:=by
 intro e
 have h1:=(BR h).1.kind
 have h2:=E7 (.inl (Ak e).2)
 omega
theorem KV {a:Tree}(h:Au a=0)(hc:BC a=true):(Ai a 0 0).1≤0∧(Ai a 0 0).2≤0:=by
 unfold BC at hc
 rw[if_neg (KS (Bo h).1),M9 h]at hc
 simp only[Bool.and_eq_true,decide_eq_true_eq,Eh]at hc
 omega
theorem TZ {a:Tree}(h:Au a=0)(h1:(Ai a 0 0).1≤0)(h2:(Ai a 0 0).2≤0):BC a=true:=by
 unfold BC
 rw[if_neg (KS (Bo h).1),M9 h]
 simp only[Bool.and_eq_true,decide_eq_true_eq,Eh]
 omega
theorem Ey {T b m:Tree}{i:Int}(h:CO T i b=(m,0)):Au T=0∧Au b=0∧0≤i∧BC b=true∧m=inT i b T 0∧AD m≤65536:=by
 unfold CO at h
 by_cases h1:Au T=0
 ·rw[if_neg (by simp[h1])]at h
  by_cases h2:Au b=0
  ·rw[if_neg (by simp[h2])]at h
   by_cases h3:i < 0∨BC b=false
   ·rw[if_pos h3]at h;exact absurd (Prod.mk.inj h).2 (by decide)
   ·rw[if_neg h3]at h
    unfold E2 at h
    have h3':0≤i∧BC b=true:=by
     refine⟨by omega,?_⟩
     cases hc:BC b with
     | true=>rfl
     | false=>exact absurd (.inr hc) h3
    by_cases h4:65536 < AD (inT i b T 0)
    ·rw[if_pos h4]at h;exact absurd (Prod.mk.inj h).2 (by decide)
    ·rw[if_neg h4]at h
     have e:=(Prod.mk.inj h).1
     exact⟨h1,h2,h3'.1,h3'.2,e.symm,by rw[←e];omega⟩
  ·rw[if_pos h2]at h;exact absurd (Prod.mk.inj h).2 h2
 ·rw[if_pos h1]at h;exact absurd (Prod.mk.inj h).2 h1
end Sb
end Go.Proofs.YtlgajkoplklkiaaGreat
namespace Go.Proofs.YtlgajkoplklkiaaGreat
namespace Ex
open Go Go.Mq
theorem M5 {n:Tree}(h:conE n=0)(k:Nat):Dy n k=decide (0 < Dq k n 0):=by
 rw[LQ,Jk,decide_eq_true h,decide_eq_true (by omega:(0:Int)≤k)];simp
end Ex
end Go.Proofs.YtlgajkoplklkiaaGreat
namespace Go.Proofs.YtlgajkoplklkiaaGreat
open Go Go.Mq
end Go.Proofs.YtlgajkoplklkiaaGreat
namespace Go.Proofs.YtlgajkoplklkiaaGreat
namespace Ex
open Go Go.Mq
end Ex
end Go.Proofs.YtlgajkoplklkiaaGreat
namespace Go.Proofs.YtlgajkoplklkiaaGreat
open Go Go.Mq
def m5 (b:Int):Int:=(IntKind.i64.wrap (b.tmod 5+5)).tmod 5
end Go.Proofs.YtlgajkoplklkiaaGreat
namespace Go.Proofs.YtlgajkoplklkiaaGreat
namespace Ex
open Go Go.Mq
end Ex
end Go.Proofs.YtlgajkoplklkiaaGreat
namespace Go.Proofs.YtlgajkoplklkiaaGreat
open Go Go.Mq
section
variable (con : Tree → Int → Tree × Int)
end
end Go.Proofs.YtlgajkoplklkiaaGreat
namespace Go.Proofs.YtlgajkoplklkiaaGreat
namespace Ex
open Go Go.Mq
theorem QD {D:Int}{s:Tree}:∀{l ys:List Tree} {d:Int},BD D s l d=some ys→ys.length=l.length∧∀i,i < l.length→BM D s (l.getD i .nil) d=some (ys.getD i .nil)
 | [],ys,d,h=>by rw[BD]at h;cases h;exact⟨rfl,fun i hi=>by simp at hi⟩
 | x::l,ys,d,h=>by
  rw[BD]at h
  split at h
  ·cases h
  ·rename_i x' hq
   cases hr:BD D s l d with
   | none=>rw[hr]at h;cases h
   | some l' =>
    rw[hr]at h
    cases h
    obtain⟨h1,h2⟩:=QD hr
    refine⟨by simp[h1],fun i hi=>?_⟩
    cases i with
    | zero=>exact hq
    | succ i=>exact h2 i (by simpa using hi)
theorem ID {D:Int}{s T y:Tree}{d:Int}(hp:Plain T)(hk:T.kind≠110)(h:BM D s T d=some y) :
  y≠.nil∧y.kind=T.kind∧y.n=T.n∧y.name=T.name∧y.mark=T.mark∧BD D s T.kids (IntKind.i64.wrap (d+AS T))=some y.kids:=by
 cases T with
 | nil=>cases hp
 | node k n nm mk l =>
  have hk:k≠110:=hk
  obtain⟨hm,_,_⟩:=hp.inv
  rw[BM,if_neg (fun q=>hk (De.1 q).1),if_neg (fun q=>hk (Co.1 q).1)]at h
  cases hr:BD D s l (IntKind.i64.wrap (d+AS (.node k n nm mk l))) with
  | none=>rw[hr]at h;cases h
  | some l' =>
   rw[hr]at h
   cases h
   exact⟨by simp,rfl,rfl,rfl,hm.symm,hr⟩
theorem I5 {D d:Int}{s T y:Tree}(hp:Plain T)(hk:T.kind≠110)(hd:0≤d∧d≤lim)(h:BM D s T d=some y):y.kids.length=T.kids.length∧∀i,i < T.kids.length→BM D s (T.kids.getD i .nil) (d+AS T)=some (y.kids.getD i .nil):=by
 obtain⟨p0,p1,p2,p3,p4,p5⟩:=ID hp hk h
 have hlim:lim=1099511627776:=rfl
 have hbd:=C2 T
 rw[wrap64 (by omega) (by omega)]at p5
 exact QD p5
theorem B4 {T:Tree}(hp:Plain T):∀x∈T.kids,Plain x:=by
 cases T with
 | nil=>cases hp
 | node k n nm mk l=>exact hp.inv.2.2
theorem LD {D d:Int}{s T y:Tree}{a:Bool}(hp:Plain T)(hk:T.kind≠110)(h:BM D s T d=some y):CP y a false=CP T a false:=by
 obtain⟨p0,p1,p2,p3,p4,p5⟩:=ID hp hk h
 exact Gt p4 p3 (.inr p2)
def KQ (D:Int)(s T:Tree):Prop:=AU T=true→∀(d:Int) y,Plain T→0≤d→d+AD T≤549755813888→BM D s T d=some y→AU y=true
theorem Ui {D:Int}{s:Tree}(T:Tree):KQ D s T:=by
 induction T using Tree.ind' with
 | h0=>intro h;rw[AU]at h;cases h
 | h1 T hT ih =>
  intro h d y hp h0 h1 hy
  have hlim:lim=1099511627776:=rfl
  have hsz:=AI hT
  have hk:T.kind≠110:=by
   intro e;rw[BP hT,ifn,ifn]at h;cases h
  obtain⟨p0,p1,p2,p3,p4,p5⟩:=ID hp hk hy
  obtain⟨u1,u2⟩:=I5 hp hk ⟨h0,by omega⟩ hy
  have hb:=LD (a:=false) hp hk hy
  have hbd:=C2 T
  rw[BP hT]at h
  rw[BP p0,p1,hb,u1]
  by_cases k1:T.kind=100
  ·rw[if_pos k1]at h ⊢;exact h
  rw[if_neg k1]at h ⊢
  by_cases k2:T.kind=101
  ·rw[if_pos k2]at h ⊢
   simp only[Bool.and_eq_true,beq_iff_eq]at h ⊢
   obtain⟨⟨⟨h1,h2⟩,h3⟩,h4⟩:=h
   have m0:=AA (l:=T.kids) (i:=0) (by omega)
   have m1:=AA (l:=T.kids) (i:=1) (by omega)
   have z0:=AH m0
   have z1:=AH m1
   exact⟨⟨⟨h1,h2⟩,ih _ m0 h3 _ _ (B4 hp _ m0) (by omega) (by omega) (u2 0 (by omega))⟩,ih _ m1 h4 _ _ (B4 hp _ m1) (by omega) (by omega) (u2 1 (by omega))⟩
  ·rw[if_neg k2]at h;cases h
end Ex
end Go.Proofs.YtlgajkoplklkiaaGreat
namespace Go.Proofs.YtlgajkoplklkiaaGreat
namespace Sb
open Go Go.Mq Tm
def ER (i:Int)(b:Tree)(T:Tree)(c:Int)(s:Bool):Tree×Bool :=
 if s=true∨65536 - c < i then (T,s) else if (Ax T (c+i) b).2≠0 then (T,true) else ((Ax T (c+i) b).1,false)
mutual
def inC (i:Int)(b:Tree):Tree→Int→Bool→Tree×Bool
 | .nil,_,s=>(.nil,s)
 | .node k n nm mk l,c,s=>if k=130∨k < 110 then (.node k n nm mk l,s) else if k < 130 then ER i b (.node k n nm mk l) c s
  else (.node k n nm mk (insC i b k 0 l c s).1,(insC i b k 0 l c s).2)
def insC (i:Int)(b:Tree)(k:Int)(p:Nat):List Tree→Int→Bool→List Tree×Bool
 | [],_,s=>([],s)
 | x::l,c,s=>((inC i b x (c+(bndF k p).1) s).1::(insC i b k (p+1) l c (inC i b x (c+(bndF k p).1) s).2).1,(insC i b k (p+1) l c (inC i b x (c+(bndF k p).1) s).2).2)
end
theorem MB {T:Tree}(h:T≠.nil)(i:Int)(b:Tree)(c:Int)(s:Bool):inC i b T c s=if T.kind=130∨T.kind < 110 then (T,s) else if T.kind < 130 then ER i b T c s
  else (.node T.kind T.n T.name T.mark (insC i b T.kind 0 T.kids c s).1,(insC i b T.kind 0 T.kids c s).2):=by
 cases T with
 | nil=>exact absurd rfl h
 | node=>rw[inC];rfl
mutual
def rC (i:Int)(b:Tree):Tree→Int→Tree
 | .nil,_=>.nil
 | .node k n nm mk l,c=>if k=130∨k < 110 then .node k n nm mk l else if k < 130 then (if 65536 - c < i then .node k n nm mk l else oT (BM (c+i) b (.node k n nm mk l) 0))
  else .node k n nm mk (rsC i b k 0 l c)
def rsC (i:Int)(b:Tree)(k:Int)(p:Nat):List Tree→Int→List Tree
 | [],_=>[]
 | x::l,c=>rC i b x (c+(bndF k p).1)::rsC i b k (p+1) l c
end
theorem Kb {T:Tree}(h:T≠.nil)(i:Int)(b:Tree)(c:Int):rC i b T c=if T.kind=130∨T.kind < 110 then T else if T.kind < 130 then (if 65536 - c < i then T else oT (BM (c+i) b T 0))
  else .node T.kind T.n T.name T.mark (rsC i b T.kind 0 T.kids c):=by
 cases T with
 | nil=>exact absurd rfl h
 | node=>rw[rC];rfl
theorem PI {B:Int}(T:Tree):∀d:Int,Plain T→0≤d→d+AD T≤549755813888→(∀j:Int,0≤j→AT j T d=0)→vmap (fM B 0) T d=some T:=by
 induction T using Tree.ind with
 | h0=>intro d h;cases h
 | h1 k n nm mk l ih =>
  intro d hp h0 h1 hh
  obtain⟨hm,hv,hk⟩:=hp.inv
  subst hm
  rw[AD]at h1
  push_cast at h1
  have hlim:lim=1099511627776:=rfl
  have hb:=C2 (.node k n nm ByteArray.empty l)
  by_cases hk1:k=110
  ·subst hk1
   obtain⟨rfl,rfl,hn0,hn1⟩:=hv rfl
   rw[vmap,if_pos rfl,fM,if_neg]
   ·rfl
   ·rintro⟨q1,q2⟩
    have:=hh (n - d) (by omega)
    rw[AT,if_pos ⟨rfl,q1,wrap64 (by omega) (by omega)⟩]at this
    omega
  ·have hwb:IntKind.i64.wrap (d+AS (.node k n nm ByteArray.empty l))=d+AS (.node k n nm ByteArray.empty l):=wrap64 (by omega) (by omega)
   have hl:∀l:List Tree,(∀x∈l,∀d:Int,Plain x→0≤d→d+AD x≤549755813888→(∀j:Int,0≤j→AT j x d=0)→vmap (fM B 0) x d=some x)→(∀x∈l,Plain x)→∀d:Int,0≤d→d+AV l≤549755813888→(∀j:Int,0≤j→Ah j l d=0)→CD (fM B 0) l d=some l:=by
    intro l
    induction l with
    | nil=>intro _ _ d _ _ _;rw[CD]
    | cons x l ihl =>
     intro hx hp d h0 h1 hh
     rw[AV]at h1
     push_cast at h1
     have g:∀j:Int,0≤j→AT j x d=0∧Ah j l d=0:=fun j hj=>by have:=hh j hj;rw[Ah]at this;omega
     rw[CD,hx x (by simp) d (hp x (by simp)) h0 (by omega) fun j hj=>(g j hj).1]
     simp only[]
     rw[ihl (fun y hy=>hx y (by simp[hy])) (fun y hy=>hp y (by simp[hy])) d h0 (by omega) fun j hj=>(g j hj).2]
     rfl
   rw[vmap,if_neg hk1,hl l ih hk _ (by omega) (by omega) fun j hj=>by have:=hh j hj;rw[AT,hwb]at this;omega]
   rfl
theorem S8 {b:Tree}(hb:conE b=0)(hc:Bv b=0)(B:Int):vmap (fM B 0) b 0=some b:=by
 have hz:=Al hb
 have hl:lim=1099511627776:=rfl
 rw[Hf,IX,if_pos hb]at hc
 obtain⟨f1,_,_⟩:=F0 b 0 (Aa hb) (by omega) (by omega)
 exact PI b 0 (Aa hb) (by omega) (by omega) fun j hj=>f1 j (by omega)
theorem Ws {b:Tree}(hb:conE b=0)(hc:Bv b=0)(i:Int)(T:Tree):∀d:Int,Plain T→0≤d→d+AD T≤549755813888→∃y,BM i b T d=some y:=by
 have hz:=Al hb
 have hlim:lim=1099511627776:=rfl
 induction T using Tree.ind with
 | h0=>intro d h;cases h
 | h1 k n nm mk l ih =>
  intro d hp h0 h1
  obtain⟨hm,hv,hk⟩:=hp.inv
  subst hm
  rw[AD]at h1
  push_cast at h1
  have hbd:=C2 (.node k n nm ByteArray.empty l)
  have hwb:IntKind.i64.wrap (d+AS (.node k n nm ByteArray.empty l))=d+AS (.node k n nm ByteArray.empty l):=wrap64 (by omega) (by omega)
  have hl:∀l:List Tree,(∀x∈l,∀d:Int,Plain x→0≤d→d+AD x≤549755813888→∃y,BM i b x d=some y)→(∀x∈l,Plain x)→∀d:Int,0≤d→d+AV l≤549755813888→∃ys,BD i b l d=some ys:=by
   intro l
   induction l with
   | nil=>intro _ _ d _ _;exact⟨[],by rw[BD]⟩
   | cons x l ihl =>
    intro hx hp d h0 h1
    rw[AV]at h1
    push_cast at h1
    obtain⟨y,hy⟩:=hx x (by simp) d (hp x (by simp)) h0 (by omega)
    obtain⟨ys,hys⟩:=ihl (fun y hy=>hx y (by simp[hy])) (fun y hy=>hp y (by simp[hy])) d h0 (by omega)
    exact⟨y::ys,by rw[BD,hy];simp only[];rw[hys];rfl⟩
  obtain⟨ys,hys⟩:=hl l ih hk _ (show 0≤d+AS (.node k n nm ByteArray.empty l) by omega) (by omega)
  rw[BM,hwb,hys]
  split
  ·rw[Dm d 0 b 0 (Aa hb) (by omega) (by omega)]
   exact⟨b,S8 hb hc d⟩
  ·split
   ·exact⟨_,rfl⟩
   ·exact⟨_,rfl⟩
theorem QV {b T:Tree}{i:Int}(hb:conE b=0)(hc:Bv b=0)(hT:conE T=0)(hi:0≤i)(hi2:i≤65536) :
  ∃y,BM i b T 0=some y∧((Ax T i b=(y,0)∧AD y≤65536)∨((Ax T i b).2≠0∧65536 < AD y)):=by
 have hz:=Al hb
 have hzT:=Al hT
 have hlim:lim=1099511627776:=rfl
 obtain⟨y,hy⟩:=Ws hb hc i T 0 (Aa hT) (by omega) (by omega)
 refine⟨y,hy,?_⟩
 have hsz:=GP i b T 0 y hy (Aa hT)
 have hh:=HZ i T 0
 have hm:((AT i T 0*AD b:Nat):Int)=(AT i T 0:Int)*(AD b:Int):=by push_cast;rfl
 by_cases hle:AD y≤65536
 ·refine .inl ⟨PS hT hb hi ⟨by omega,by omega⟩ hy,hle⟩
 ·refine .inr ⟨?_,by omega⟩
  have e1:=Dh i T 0 (by omega)
  have e2:=Ck b (by omega)
  have e3:=Ck T (by omega)
  have m0:(AT i T 0:Int)*AD b≤65536*65536:=by
   have:AT i T 0*AD b≤65536*65536:=Nat.mul_le_mul (by omega) (by omega)
   omega
  have hn:EL T i b:=by
   unfold EL
   rw[e1,e2,e3]
   refine .inr ?_
   rw[wrap64 (x:=(AT i T 0:Int)*AD b) (by omega) (by omega),wrap64 (x:=(AD T:Int) - AT i T 0) (by omega) (by omega),wrap64 (x:=(AD T:Int) - AT i T 0+_) (by omega) (by omega)]
   omega
  rw[D5,Et,if_pos hT,if_pos hb,ifn,if_pos hn]
  decide
end Sb
end Go.Proofs.YtlgajkoplklkiaaGreat
namespace Go.Proofs.YtlgajkoplklkiaaGreat
namespace Sb
open Go Go.Mq Tm
theorem Wc (i:Int)(b:Tree)(T:Tree):∀c:Int,(inC i b T c true).2=true:=by
 induction T using Tree.ind' with
 | h0=>intro c;rw[inC]
 | h1 T hT ih =>
  intro c
  rw[MB hT]
  split
  ·rfl
  split
  ·unfold ER;rw[if_pos (.inl rfl)]
  ·have h:∀(l:List Tree) (p:Nat),(∀x∈l,x∈T.kids)→(insC i b T.kind p l c true).2=true:=by
    intro l
    induction l with
    | nil=>intro p _;rw[insC]
    | cons x l ihl =>
     intro p hx
     rw[insC]
     simp only[]
     rw[ih x (hx x (by simp)) _]
     exact ihl (p+1) fun y hy=>hx y (by simp[hy])
   exact h T.kids 0 fun x hx=>hx
def an (i:Int)(b T:Tree):Prop:=∀c:Int,Shw T→AD T≤65536→0≤c→c+AD T≤549755813888 →
  ((inC i b T c false).2=false∧(inC i b T c false).1=rC i b T c)∨((inC i b T c false).2=true∧65536 < AD (rC i b T c))
theorem Lt {i:Int}{b:Tree}(hi:0≤i)(hb:conE b=0)(hc:Bv b=0)(T:Tree):an i b T:=by
 induction T using Tree.ind' with
 | h0=>intro c h;exact absurd rfl h.ne
 | h1 T hT ih =>
  intro c hs hz hc0 hc1
  have hsz:=AI hT
  rw[MB hT,Kb hT]
  by_cases q:T.kind=130∨T.kind < 110
  ·rw[if_pos q,if_pos q];exact .inl ⟨rfl,rfl⟩
  rw[if_neg q,if_neg q]
  by_cases q2:T.kind < 130
  ·rw[if_pos q2,if_pos q2]
   have hco:AG T=true:=by
    rcases hs with h|h|h|h
    ·rcases h with h|h
     ·exact h
     ·exfalso
      rw[BP hT,ifn,ifn]at h;cases h
    ·have:=(BR h).1.kind;omega
    ·obtain⟨_,p2,_⟩:=AK h;omega
    ·obtain⟨_,p2,_⟩:=AK h;omega
   have hcE:=Db hco hz
   unfold ER
   by_cases q3:65536 - c < i
   ·rw[if_pos (.inr q3),if_pos q3];exact .inl ⟨rfl,rfl⟩
   ·rw[if_neg (by simp;omega),if_neg q3]
    obtain⟨y,hy,⟨h1,h2⟩|⟨h1,h2⟩⟩:=QV hb hc hcE (show 0≤c+i by omega) (by omega)
    ·rw[h1,hy,if_neg (by simp)];exact .inl ⟨rfl,rfl⟩
    ·rw[if_pos h1,hy];exact .inr ⟨rfl,h2⟩
  ·rw[if_neg q2,if_neg q2]
   have hk:∀x∈T.kids,Shw x:=by
    rcases DE hs with w|⟨_,_,w⟩
    ·exact absurd w q2
    ·exact w
   have h:∀(l:List Tree) (p:Nat),(∀x∈l,x∈T.kids)→((insC i b T.kind p l c false).2=false∧(insC i b T.kind p l c false).1=rsC i b T.kind p l c)∨((insC i b T.kind p l c false).2=true∧65536 < AV (rsC i b T.kind p l c)):=by
    intro l
    induction l with
    | nil=>intro p _;rw[insC,rsC];exact .inl ⟨rfl,rfl⟩
    | cons x l ihl =>
     intro p hx
     have hm:=hx x (by simp)
     have s1:=AH hm
     have hbl:=EA T.kind p
     have ih2:=ihl (p+1) fun y hy=>hx y (by simp[hy])
     rw[insC,rsC]
     simp only[]
     rcases ih x hm (c+(bndF T.kind p).1) (hk x hm) (by omega) (by omega) (by omega) with⟨g1,g2⟩|⟨g1,g2⟩
     ·rw[g1,g2]
      rcases ih2 with⟨f1,f2⟩|⟨f1,f2⟩
      ·rw[f1,f2];exact .inl ⟨rfl,rfl⟩
      ·rw[f1,AV];exact .inr ⟨rfl,by omega⟩
     ·refine .inr ⟨?_,by rw[AV];omega⟩
      rw[g1]
      have hall:∀(l:List Tree) (p:Nat),(insC i b T.kind p l c true).2=true:=by
       intro l
       induction l with
       | nil=>intro p;rw[insC]
       | cons x l ihl=>intro p;rw[insC];simp only[];rw[Wc];exact ihl (p+1)
      exact hall l (p+1)
   rcases h T.kids 0 fun x hx=>hx with⟨g1,g2⟩|⟨g1,g2⟩
   ·rw[g1,g2];exact .inl ⟨rfl,rfl⟩
   ·rw[g1,AD];exact .inr ⟨rfl,by omega⟩
def conR (T:Tree)(i:Int)(b:Tree):Tree×Int :=
 if Au T≠0 then (.nil,Au T) else if conE b≠0 then (.nil,conE b) else if i < 0∨BC b=false then (.nil,2)
 else if (inC i b T 0 false).2=true then (.nil,3) else E2 (inC i b T 0 false).1
def Ue (T:Tree)(i:Int)(b:Tree):Tree×Int :=
 if Au T≠0 then (.nil,Au T) else if conE b≠0 then (.nil,conE b) else if i < 0∨BC b=false then (.nil,2) else E2 (rC i b T 0)
theorem Xr (T:Tree)(i:Int)(b:Tree):conR T i b=Ue T i b:=by
 unfold conR Ue
 by_cases h1:Au T≠0
 ·rw[if_pos h1,if_pos h1]
 rw[if_neg h1,if_neg h1]
 by_cases h2:conE b≠0
 ·rw[if_pos h2,if_pos h2]
 rw[if_neg h2,if_neg h2]
 by_cases h3:i < 0∨BC b=false
 ·rw[if_pos h3,if_pos h3]
 rw[if_neg h3,if_neg h3]
 have hb:conE b=0:=by omega
 have hT:Au T=0:=by omega
 obtain⟨t1,t2,t3⟩:=Bo hT
 have hc:Bv b=0:=by
  cases hq:BC b with
  | false=>exact absurd (.inr hq) h3
  | true=>unfold BC at hq;rw[if_pos hb]at hq;exact of_decide_eq_true hq
 rcases Lt (show 0≤i by omega) hb hc T 0 (.inr (.inl t1)) t2 (by omega) (by omega) with⟨g1,g2⟩|⟨g1,g2⟩
 ·rw[g1,g2,if_neg (by simp)]
 ·rw[if_pos g1]
  unfold E2
  rw[if_pos g2]
theorem Qm {f:Int→Int→Option Int}{i0:Int}(h0i:0≤i0)(hf:∀n d:Int,¬(d≤n∧i0≤n - d)→f n d=some n)(T:Tree):∀d:Int,Plain T→0≤d→d+AD T≤549755813888→(∀j:Int,i0≤j→AT j T d=0)→vmap f T d=some T:=by
 induction T using Tree.ind with
 | h0=>intro d h;cases h
 | h1 k n nm mk l ih =>
  intro d hp h0 h1 hh
  obtain⟨hm,hv,hk⟩:=hp.inv
  subst hm
  rw[AD]at h1
  push_cast at h1
  have hlim:lim=1099511627776:=rfl
  have hb:=C2 (.node k n nm ByteArray.empty l)
  by_cases hk1:k=110
  ·subst hk1
   obtain⟨rfl,rfl,hn0,hn1⟩:=hv rfl
   rw[vmap,if_pos rfl,hf n d]
   ·rfl
   ·rintro⟨q1,q2⟩
    have:=hh (n - d) (by omega)
    rw[AT,if_pos ⟨rfl,q1,wrap64 (by omega) (by omega)⟩]at this
    omega
  ·have hwb:IntKind.i64.wrap (d+AS (.node k n nm ByteArray.empty l))=d+AS (.node k n nm ByteArray.empty l):=wrap64 (by omega) (by omega)
   have hl:∀l:List Tree,(∀x∈l,∀d:Int,Plain x→0≤d→d+AD x≤549755813888→(∀j:Int,i0≤j→AT j x d=0)→vmap f x d=some x)→(∀x∈l,Plain x)→∀d:Int,0≤d→d+AV l≤549755813888→(∀j:Int,i0≤j→Ah j l d=0)→CD f l d=some l:=by
    intro l
    induction l with
    | nil=>intro _ _ d _ _ _;rw[CD]
    | cons x l ihl =>
     intro hx hp d h0 h1 hh
     rw[AV]at h1
     push_cast at h1
     have g:∀j:Int,i0≤j→AT j x d=0∧Ah j l d=0:=fun j hj=>by have:=hh j hj;rw[Ah]at this;omega
     rw[CD,hx x (by simp) d (hp x (by simp)) h0 (by omega) fun j hj=>(g j hj).1]
     simp only[]
     rw[ihl (fun y hy=>hx y (by simp[hy])) (fun y hy=>hp y (by simp[hy])) d h0 (by omega) fun j hj=>(g j hj).2]
     rfl
   rw[vmap,if_neg hk1,hl l ih hk _ (by omega) (by omega) fun j hj=>by have:=hh j hj;rw[AT,hwb]at this;omega]
   rfl
theorem Nl {T b:Tree}{i:Int}(hT:conE T=0)(hb:conE b=0)(hi:Bv T≤i):Ax T i b=(T,0):=by
 have hz:=Al hT
 have hlim:lim=1099511627776:=rfl
 have h0:=JV T
 rw[Hf,IX,if_pos hT]at hi h0
 obtain⟨f1,_,_⟩:=F0 T 0 (Aa hT) (by omega) (by omega)
 have hh:∀j:Int,i≤j→AT j T 0=0:=fun j hj=>f1 j (by omega)
 have hput:BM i b T 0=some T:=by
  rw[RS i b T 0 (Aa hT) (by omega) (by omega) (hh i (by omega))]
  exact Qm (i0:=i) (by omega) (fun n d h=>by unfold fQ;rw[ifn]) T 0 (Aa hT) (by omega) (by omega) hh
 exact PS hT hb (by omega) ⟨by rw[hh i (by omega)];simp,by rw[hh i (by omega)];simp;omega⟩ hput
theorem Qs {i:Int}{b:Tree}(hi:0≤i)(hb:conE b=0)(T:Tree):∀c t:Int,Shw T→AD T≤65536→(Ai T c t).1≤0→inC i b T c false=(T,false):=by
 induction T using Tree.ind' with
 | h0=>intro c t h;exact absurd rfl h.ne
 | h1 T hT ih =>
  intro c t hs hz h
  have hsz:=AI hT
  rw[Bc hT]at h
  rw[MB hT]
  by_cases q:T.kind=130∨T.kind < 110
  ·rw[if_pos q]
  rw[if_neg q]
  by_cases q2:T.kind < 130
  ·rw[if_pos q2]
   rw[ifn,if_pos q2]at h
   have hco:AG T=true:=by
    rcases hs with h|h|h|h
    ·rcases h with h|h
     ·exact h
     ·exfalso
      rw[BP hT,ifn,ifn]at h;cases h
    ·have:=(BR h).1.kind;omega
    ·obtain⟨_,p2,_⟩:=AK h;omega
    ·obtain⟨_,p2,_⟩:=AK h;omega
   have hcE:=Db hco hz
   simp only[]at h
   unfold ER
   by_cases q3:65536 - c < i
   ·rw[if_pos (.inr q3)]
   ·rw[if_neg (by simp;omega),Nl hcE hb (by omega),if_neg (by simp)]
  ·rw[if_neg q2]
   rw[ifn,if_neg q2]at h
   have hk:∀x∈T.kids,Shw x:=by
    rcases DE hs with w|⟨_,_,w⟩
    ·exact absurd w q2
    ·exact w
   have hl:∀(l:List Tree) (p:Nat),(∀x∈l,x∈T.kids)→(Br T.kind p l c t).1≤0→insC i b T.kind p l c false=(l,false):=by
    intro l
    induction l with
    | nil=>intro p _ _;rw[insC]
    | cons x l ihl =>
     intro p hx hh
     rw[Br]at hh
     simp only[Eh]at hh
     have hm:=hx x (by simp)
     have s1:=AH hm
     rw[insC,ih x hm (c+(bndF T.kind p).1) (t+(bndF T.kind p).2) (hk x hm) (by omega) (by omega)]
     simp only[]
     rw[ihl (p+1) (fun y hy=>hx y (by simp[hy])) (by omega)]
   rw[hl T.kids 0 (fun x hx=>hx) h]
   cases T with
   | nil=>exact absurd rfl hT
   | node=>rfl
theorem Fi (T:Tree):Pure P 20 [.d (.tree T)] (.d (.bool (BC T))):=by
 have h1:=C3 T
 have h2:=SG T
 have h3:=CH T
 have h4:=Vz T
 unfold BC
 refine Pure.AB tt [] [2] Tryz.func20 rfl rfl rfl lb fun g=>?_
 by_cases c1:conE T=0
 ·rw[if_pos c1]
  rw[c1]at h1
  repeat' ((first|refine Ga ?_|refine Gc fun hlen=>?_|refine Ge h1 ?_|refine Ge h2 ?_|refine Gd (fun hc=>?_) fun hc=>?_)<;>conv=>whnf)
  all_goals refine Gf rfl (AZ ?_) rfl
  all_goals simp_all [BF]
 ·rw[if_neg c1]
  by_cases c2:Au T=0
  ·rw[decide_eq_true c2,Bool.true_and]
   rw[c2]at h3
   repeat' ((first|refine Ga ?_|refine Gc fun hlen=>?_|refine Ge h1 ?_|refine Ge h3 ?_|refine Ge h4 ?_|refine Gd (fun hc=>?_) fun hc=>?_)<;>conv=>whnf)
   all_goals refine Gf rfl (AZ ?_) rfl
   all_goals simp_all [BF]
  ·rw[decide_eq_false c2,Bool.false_and]
   repeat' ((first|refine Ga ?_|refine Gc fun hlen=>?_|refine Ge h1 ?_|refine Ge h3 ?_|refine Gd (fun hc=>?_) fun hc=>?_)<;>conv=>whnf)
   all_goals exact Gg
theorem XL {T:Tree}(h:AF T=true)(hk:T.kind=134∨T.kind=139∨T.kind=142∨T.kind=143):T.kids.length=2:=by
 have hT:T≠.nil:=by intro e;subst e;rw[AF]at h;cases h
 rw[At hT,Bool.and_eq_true]at h
 obtain⟨_,h⟩:=h
 rcases hk with k|k|k|k<;>simp[k,-List.getD_eq_getElem?_getD]at h
 all_goals exact h.1.1
theorem L6 (T:Tree)(hs:Shw T)(p:Nat)(hp:p < T.kids.length):Pure P 143 [.d (.tree T),.d (.int .i64 p)] (.tuple [.d (.int .i64 (bndF T.kind p).1),.d (.int .i64 (bndF T.kind p).2)]):=by
 have hT:=hs.ne
 have two:T.kind=134∨T.kind=139∨T.kind=142∨T.kind=143→p=0∨p=1:=fun hk=>by
  rcases hs with h|h|h|h
  ·have:=E7 h;omega
  ·have:=XL h hk;omega
  ·obtain⟨_,p2,_⟩:=AK h;omega
  ·obtain⟨_,p2,_⟩:=AK h;omega
 refine Pure.AB tt [] [4,5] Tryz.func143 rfl rfl rfl lb fun g=>?_
 by_cases k1:T.kind=149
 ·have e:bndF T.kind p=(0,1):=by unfold bndF;rw[if_pos k1]
  rw[e]
  repeat' ((first|refine Ga ?_|refine Gc fun hlen=>?_|refine Gd (fun hc=>?_) fun hc=>?_)<;>conv=>whnf)
  exact Gg
 by_cases k2:T.kind=139
 ·have e:bndF T.kind p=((p:Int),0):=by rw[k2];rcases two (by omega) with q|q<;>rw[q]<;>rfl
  rw[e]
  repeat' ((first|refine Ga ?_|refine Gc fun hlen=>?_|refine Gd (fun hc=>?_) fun hc=>?_)<;>conv=>whnf)
  exact Gg
 by_cases k3:T.kind=142
 ·have e:bndF T.kind p=((p:Int),(p:Int)):=by rw[k3];rcases two (by omega) with q|q<;>rw[q]<;>rfl
  rw[e]
  repeat' ((first|refine Ga ?_|refine Gc fun hlen=>?_|refine Gd (fun hc=>?_) fun hc=>?_)<;>conv=>whnf)
  exact Gg
 by_cases k4:T.kind=134∨T.kind=143
 ·have e:bndF T.kind p=(0,(p:Int)):=by rcases k4 with k4|k4<;>rw[k4]<;>rcases two (by omega) with q|q<;>rw[q]<;>rfl
  rw[e]
  repeat' ((first|refine Ga ?_|refine Gc fun hlen=>?_|refine Gd (fun hc=>?_) fun hc=>?_)<;>conv=>whnf)
  all_goals exact Gg
 ·have e:bndF T.kind p=(0,0):=by unfold bndF;rw[if_neg k1,if_neg k2,if_neg k3,if_neg k4];split<;>rfl
  rw[e]
  repeat' ((first|refine Ga ?_|refine Gc fun hlen=>?_|refine Gd (fun hc=>?_) fun hc=>?_)<;>conv=>whnf)
  exact Gg
theorem P7 (T:Tree)(c:Int):Pure P 115 [.d (.tree T),.d (.int .i64 c)] (.d (.tree T)):=by
 refine Pure.AB tt [] [4] Tryz.func115 rfl rfl rfl lb fun g=>?_
 repeat' ((first|refine Ga ?_|refine Gc fun hlen=>?_|refine Gd (fun hc=>?_) fun hc=>?_)<;>conv=>whnf)
 exact Gg
theorem Uc (i:Int)(b T:Tree)(t:Int)(hT:T≠.nil)(hk:T.kind=130)(hn:0≤T.n∧T.n≤65536)(ht:0≤t∧t≤1099511627776) :
  Fun P 114 [.d (.tree T),.d (.int .i64 t),.ref 0 0,.ref 1 0] [(0,.cells [.d (.int .i64 i)]),(1,.cells [.d (.tree b)])] 2 (.d (.tree (inT i b T t))) [(0,.cells [.d (.int .i64 i)]),(1,.cells [.d (.tree b)])] 2:=by
 have e:=Fu hT i b t
 rw[if_pos hk]at e
 rw[e]
 have w1:IntKind.i64.wrap (T.n - t)=T.n - t:=wrap64 (by omega) (by omega)
 have w2:IntKind.i64.wrap (T.n - 1)=T.n - 1:=wrap64 (by omega) (by omega)
 refine Fun.AB tt [40] [6] Tryz.func114 rfl rfl rfl lb fun g=>?_
 by_cases c1:T.n < t
 ·rw[if_pos (.inl c1)]
  repeat' ((first|refine Ga ?_|refine Gc fun hlen=>?_|refine Gd (fun hc=>?_) fun hc=>?_)<;>conv=>whnf)
  exact Aq rfl rfl rfl
 ·by_cases c2:T.n - t < i
  ·rw[if_pos (.inr c2)]
   have c2':IntKind.i64.wrap (T.n - t) < i:=by rw[w1];exact c2
   repeat' ((first|refine Ga ?_|refine Gc fun hlen=>?_|refine Gd (fun hc=>?_) fun hc=>?_)<;>conv=>whnf)
   exact Aq rfl rfl rfl
  ·have c2':¬IntKind.i64.wrap (T.n - t) < i:=by rw[w1];exact c2
   rw[ifn]
   by_cases c3:i < T.n - t
   ·have c3':i < IntKind.i64.wrap (T.n - t):=by rw[w1];exact c3
    rw[if_pos c3,←w2]
    repeat' ((first|refine Ga ?_|refine Gc fun hlen=>?_|refine Gd (fun hc=>?_) fun hc=>?_)<;>conv=>whnf)
    exact Aq rfl rfl rfl
   ·have c3':¬i < IntKind.i64.wrap (T.n - t):=by rw[w1];exact c3
    rw[if_neg c3]
    repeat' ((first|refine Ga ?_|refine Gc fun hlen=>?_|refine Gd (fun hc=>?_) fun hc=>?_)<;>conv=>whnf)
    exact Aq rfl rfl rfl
theorem Q6 (i:Int)(b T:Tree):∀(c t:Int),Shw T→0≤t→t+AD T≤1099511627776 →
  Fun P 113 [.d (.tree T),.d (.int .i64 c),.d (.int .i64 t),.fn 114 [.ref 0 0,.ref 1 0],.fn 115 []] [(0,.cells [.d (.int .i64 i)]),(1,.cells [.d (.tree b)])] 2 (.d (.tree (inT i b T t))) [(0,.cells [.d (.int .i64 i)]),(1,.cells [.d (.tree b)])] 2:=by
 induction T using Tree.ind' with
 | h0=>intro c t h;exact absurd rfl h.ne
 | h1 T hT ih=>?_
 intro c t hs ht0 ht1
 have hsz:=AI hT
 have hse:=Fu hT i b t
 by_cases k1:T.kind=130
 ·have hn:0≤T.n∧T.n≤65536:=by
   rcases DE hs with h|⟨_,h,_⟩
   ·omega
   ·exact h k1
  have hv:=Uc i b T t hT k1 hn ⟨ht0,by omega⟩
  refine Fun.AB tt [83] [10] Tryz.func113 rfl rfl rfl lb fun g=>?_
  repeat' ((first|refine Ga ?_|refine Gc fun hlen=>?_|refine AJ.go hv [0,1] ?_|refine Gd (fun hc=>?_) fun hc=>?_)<;>conv=>whnf)
  exact Aq rfl rfl rfl
 rw[if_neg k1]at hse
 by_cases k2:T.kind < 130
 ·rw[if_pos k2]at hse
  rw[hse]
  refine Fun.AB tt [83] [10] Tryz.func113 rfl rfl rfl lb fun g=>?_
  repeat' ((first|refine Ga ?_|refine Gc fun hlen=>?_|refine Ge (P7 T c) ?_|refine Gd (fun hc=>?_) fun hc=>?_)<;>conv=>whnf)
  all_goals exact Aq rfl rfl rfl
 rw[if_neg k2]at hse
 rw[hse]
 have hkids:∀x∈T.kids,Shw x:=by
  rcases DE hs with h|⟨_,_,h⟩
  ·exact absurd h k2
  ·exact h
 by_cases k3:T.kids.length=0
 ·have e:(Tree.node T.kind T.n T.name T.mark (insT i b T.kind 0 T.kids t))=T:=by
   rw[List.length_eq_zero_iff.1 k3,insT]
   cases T with
   | nil=>exact absurd rfl hT
   | node k n nm mk l =>
    have:l=[]:=List.length_eq_zero_iff.1 k3
    subst this;rfl
  rw[e]
  refine Fun.AB tt [83] [10] Tryz.func113 rfl rfl rfl lb fun g=>?_
  repeat' ((first|refine Ga ?_|refine Gc fun hlen=>?_|refine Gd (fun hc=>?_) fun hc=>?_)<;>conv=>whnf)
  exact Aq rfl rfl rfl
 refine Fun.AB tt [83] [10] Tryz.func113 rfl rfl rfl lb fun g=>?_
 repeat' ((first|refine Ga ?_|refine Gc fun hlen=>?_|refine Gd (fun hc=>?_) fun hc=>?_)<;>conv=>whnf)
 refine AY (α:=Nat×List Tree) (fun p=>⟨[(0,.d (.tree T)),(1,.d (.int .i64 c)),(2,.d (.int .i64 t)),(3,.fn 114 [.ref 0 0,.ref 1 0]),(4,.fn 115 []),(11,.ref 2 0),(58,.d (.trees T.kids)),(59,.d (.int .i64 T.kids.length)),(60,.d (.int .i64 p.1))],87,[(0,.cells [.d (.int .i64 i)]),(1,.cells [.d (.tree b)]),(2,.cells [.d (.int .i64 T.kind),.d (.int .i64 T.n),.d (.str T.name),.d (.str T.mark),.row 3 p.1]),(3,.row 25 (.trees p.2))],4,g⟩)
    (fun p=>p.1≤T.kids.length∧p.2.length=p.1∧insT i b T.kind 0 T.kids t=p.2++insT i b T.kind p.1 (T.kids.drop p.1) t) (fun p=>T.kids.length - p.1) (0,[]) ⟨by simp,rfl,rfl⟩
    (Ent.nil rfl rfl rfl (by repeat' first|exact trivial|apply And.intro|rfl|(refine int_eq ?_;rw[wrap64]<;>omega)) (by repeat' first|exact trivial|apply And.intro|rfl|(refine int_eq ?_;rw[wrap64]<;>omega))) (fun _=>rfl) fun p hpre=>?_
 obtain⟨p,out⟩:=p
 obtain⟨hp1,hp2,hp3⟩:=hpre
 simp only[]at hp1 hp2 hp3
 by_cases hlt:p < T.kids.length
 ·have hmx:=AA hlt
  have s1:=AH hmx
  have hbl:=EA T.kind p
  have hbi:=L6 T hs p hlt
  rw[AP hlt,insT]at hp3
  have hrec:=ih _ hmx (IntKind.i64.wrap (c+(bndF T.kind p).1)) (t+(bndF T.kind p).2) (hkids _ hmx) (by omega) (by omega)
  have w2:IntKind.i64.wrap (t+(bndF T.kind p).2)=t+(bndF T.kind p).2:=wrap64 (by omega) (by omega)
  generalize inT i b (T.kids.getD p .nil) (t+(bndF T.kind p).2)=Y at *
  generalize bndF T.kind p=bb at *
  rw[←w2]at hrec
  repeat' ((first|refine Ga ?_|refine Gc fun hlen=>?_|refine Gh ((p+1≤17592186044416∧(p+1)*8≤140737488355328)) ?_|refine Ge hbi ?_|refine AJ.go hrec [0,1] ?_|refine Gd (fun hc=>?_) fun hc=>?_)<;>conv=>whnf)
  exact⟨(p+1,out++[Y]),⟨by simp only[];omega,by simp[hp2],by rw[hp3];simp⟩,by simp only[];omega,Ent.go [0,1,2,4]⟩
 ·rw[Ab (by omega),insT,List.append_nil]at hp3
  rw[hp3]
  repeat' ((first|refine Ga ?_|refine Gc fun hlen=>?_|refine Gd (fun hc=>?_) fun hc=>?_)<;>conv=>whnf)
  refine RetS.ent (Ent.Cu 3 (l:=out) rfl (by repeat' first|exact trivial|apply And.intro|rfl|exact hp2.symm|exact Nat.zero_lt_one|omega) (by repeat' first|exact trivial|apply And.intro|rfl|exact hp2.symm|exact Nat.zero_lt_one|omega)) ?_
  refine RetS.ent (Ent.Cq 2 rfl rfl (by repeat' first|exact trivial|apply And.intro|rfl|exact hp2.symm|exact Nat.zero_lt_one|omega) (by repeat' first|exact trivial|apply And.intro|rfl|exact hp2.symm|exact Nat.zero_lt_one|omega)) ?_
  refine RetS.ent (σ':=⟨[(10,.d (.tree (.node T.kind T.n T.name T.mark out)))],87,[(0,.cells [.d (.int .i64 i)]),(1,.cells [.d (.tree b)])],2,g⟩) (Ent.go [0,1]) ?_
  exact Aq rfl rfl rfl
end Sb
end Go.Proofs.YtlgajkoplklkiaaGreat
namespace Go.Proofs.YtlgajkoplklkiaaGreat
namespace Sb
open Go Go.Mq
def Y2:TI:=⟨(.func #[25] #[] false),1,8,.nilFunc,[],false,0,0,false⟩
theorem aL:TIok P 164 Y2 where
 und:=by kernel_rfl
 info:=⟨(P.info? 164).getD default,by kernel_rfl,by kernel_rfl,by kernel_rfl,by kernel_rfl⟩
 agg:=rfl
 offm:=fun fs h=>by cases h
 offp:=rfl
 offn:=rfl
 elem:=fun e h=>by cases h
 arr:=fun n e h=>by cases h
def tt:List (Nat×TI):=(164,Y2)::Go.Proofs.YtlgajkoplklkiaaGreat.tt
theorem htt:TTok P tt:=.cons aL (Go.Proofs.YtlgajkoplklkiaaGreat.htt)
end Sb
end Go.Proofs.YtlgajkoplklkiaaGreat
namespace Go.Proofs.YtlgajkoplklkiaaGreat
namespace Sb
open Go Go.Mq Tm
theorem VU (T:Tree):Full T→∀r:Int,0≤r→r≤65536→Fun P 142 [.d (.tree T),.ref 0 0,.ref 1 0] [(0,.cells [.d (.int .i64 r)]),(1,.cells [.fn 142 [.ref 0 0,.ref 1 0]])] 2 (.tuple []) [(0,.cells [.d (.int .i64 (cntF T r))]),(1,.cells [.fn 142 [.ref 0 0,.ref 1 0]])] 2:=by
 induction T using Tree.ind' with
 | h0=>intro h;exact absurd rfl h.ne
 | h1 T hT ih=>?_
 intro hF r hr0 hr1
 have w:IntKind.i64.wrap (r - 1)=r - 1:=wrap64 (by omega) (by omega)
 rw[Ni hT]
 refine Fun.AB tt [] [] Tryz.func142 rfl rfl rfl lb fun g=>?_
 repeat' ((first|refine Ga ?_|refine Gc fun hlen=>?_|refine Gd (fun hc=>?_) fun hc=>?_)<;>conv=>whnf)
 refine AY (α:=Nat×Int) (fun p=>⟨[(1,.ref 0 0),(2,.ref 1 0),(11,.d (.trees T.kids)),(12,.d (.int .i64 T.kids.length)),(13,.d (.int .i64 p.1))],23,[(0,.cells [.d (.int .i64 p.2)]),(1,.cells [.fn 142 [.ref 0 0,.ref 1 0]])],2,g⟩)
   (fun p=>p.1≤T.kids.length ∧ -1≤p.2∧p.2≤65536∧HW (T.kids.drop p.1) p.2=HW T.kids (r - 1)) (fun p=>T.kids.length - p.1) (0,r - 1) ⟨by simp,by simp only[];omega,by simp only[];omega,rfl⟩
   (Ent.re [0,1] rfl rfl rfl rfl rfl rfl (by repeat' first|exact trivial|apply And.intro|rfl|(refine int_eq ?_;rw[wrap64]<;>omega)) (by repeat' first|exact trivial|apply And.intro|rfl|exact LN w)) (fun _=>rfl) fun p hpre=>?_
 obtain⟨p,q⟩:=p
 obtain⟨hp1,hp2,hp3,hp4⟩:=hpre
 simp only[]at hp1 hp2 hp3 hp4
 by_cases hlt:p < T.kids.length
 ·have hmx:=AA hlt
  have hFx:=hF.kids _ hmx
  rw[AP hlt,HW]at hp4
  by_cases hq:0≤q
  ·rw[if_pos hq]at hp4
   have hrec:=ih _ hmx hFx q hq hp3
   have hce:=VG _ hFx q hq
   generalize cntF (T.kids.getD p .nil) q=Y at *
   have hY : -1≤Y∧Y≤65536:=by rw[hce];split<;>omega
   repeat' ((first|refine Ga ?_|refine Gc fun hlen=>?_|refine AJ.go hrec [0,1] ?_|refine Gd (fun hc=>?_) fun hc=>?_)<;>conv=>whnf)
   exact⟨(p+1,Y),⟨by simp only[];omega,hY.1,hY.2,hp4⟩,by simp only[];omega,Ent.go [0,1]⟩
  ·rw[if_neg hq]at hp4
   repeat' ((first|refine Ga ?_|refine Gc fun hlen=>?_|refine Gd (fun hc=>?_) fun hc=>?_)<;>conv=>whnf)
   exact⟨(p+1,q),⟨by simp only[];omega,hp2,hp3,hp4⟩,by simp only[];omega,Ent.go [0,1]⟩
 ·rw[Ab (by omega),HW]at hp4
  rw[←hp4]
  repeat' ((first|refine Ga ?_|refine Gc fun hlen=>?_|refine Gd (fun hc=>?_) fun hc=>?_)<;>conv=>whnf)
  exact Aq rfl rfl rfl
theorem Lx (T:Tree)(hF:Full T):Pure P 112 [.d (.tree T)] (.tuple [.d (.tree (E2 T).1),.d (.int .i64 (E2 T).2)]):=by
 have hc:=VU T hF 65536 (by omega) (by omega)
 have hce:=VG T hF 65536 (by omega)
 refine Pure.AB tt [] [2,3] Tryz.func112 rfl rfl rfl lb fun g=>?_
 unfold E2
 by_cases h:65536 < AD T
 ·rw[if_pos h]
  rw[ifn]at hce
  rw[hce]at hc
  repeat' ((first|refine Ga ?_|refine Gc fun hlen=>?_|refine AJ.go hc [0,1] ?_|refine Gd (fun hc=>?_) fun hc=>?_)<;>conv=>whnf)
  exact Gg
 ·rw[if_neg h]
  have hnn:¬cntF T 65536 < 0:=by rw[hce,ifp];omega
  generalize cntF T 65536=Y at *
  repeat' ((first|refine Ga ?_|refine Gc fun hlen=>?_|refine AJ.go hc [0,1] ?_|refine Gd (fun hc=>?_) fun hc=>?_)<;>conv=>whnf)
  exact Gg
theorem H0 (T:Tree)(i:Int)(b:Tree):Pure P 76 [.d (.tree T),.d (.int .i64 i),.d (.tree b)] (.tuple [.d (.tree (CO T i b).1),.d (.int .i64 (CO T i b).2)]):=by
 have h1:=CH T
 have h2:=CH b
 have h3:=Fi b
 unfold CO
 refine Pure.AB tt [] [6,7] Tryz.func76 rfl rfl rfl lb fun g=>?_
 by_cases e1:Au T=0
 ·rw[if_neg (by simp[e1])]
  rw[e1]at h1
  by_cases e2:Au b=0
  ·rw[if_neg (by simp[e2])]
   rw[e2]at h2
   by_cases e3:i < 0
   ·rw[if_pos (.inl e3)]
    repeat' ((first|refine Ga ?_|refine Gc fun hlen=>?_|refine Ge h1 ?_|refine Ge h2 ?_|refine Gd (fun hc=>?_) fun hc=>?_)<;>conv=>whnf)
    exact Gg
   ·cases e4:BC b with
    | false =>
     rw[if_pos (.inr rfl)]
     rw[e4]at h3
     repeat' ((first|refine Ga ?_|refine Gc fun hlen=>?_|refine Ge h1 ?_|refine Ge h2 ?_|refine Ge h3 ?_|refine Gd (fun hc=>?_) fun hc=>?_)<;>conv=>whnf)
     exact Gg
    | true =>
     rw[if_neg (by simp;omega)]
     rw[e4]at h3
     obtain⟨t1,t2,t3⟩:=Bo e1
     have h4:=Q6 i b T 0 0 (.inr (.inl t1)) (by omega) (by omega)
     have h5:=Lx (inT i b T 0) (E1 ((SL i b (by omega) (Bo e2).1 T 0 (by omega) (.inr (.inl t1))).term t1))
     repeat' ((first|refine Ga ?_|refine Gc fun hlen=>?_|refine Ge h1 ?_|refine Ge h2 ?_|refine Ge h3 ?_|refine AJ.go h4 [0,1] ?_|refine Ge h5 ?_|refine Gd (fun hc=>?_) fun hc=>?_)<;>conv=>whnf)
     exact Gg
  ·rw[if_pos e2]
   repeat' ((first|refine Ga ?_|refine Gc fun hlen=>?_|refine Ge h1 ?_|refine Ge h2 ?_|refine Gd (fun hc=>?_) fun hc=>?_)<;>conv=>whnf)
   exact Gg
 ·rw[if_pos e1]
  repeat' ((first|refine Ga ?_|refine Gc fun hlen=>?_|refine Ge h1 ?_|refine Gd (fun hc=>?_) fun hc=>?_)<;>conv=>whnf)
  exact Gg
end Sb
end Go.Proofs.YtlgajkoplklkiaaGreat
namespace Go.Proofs.YtlgajkoplklkiaaGreat
namespace St
open Go Go.Mq Tm Sb
def HK (k:Int)(p:Nat):Bool:=if k=135∨k=145 then decide (p < 2) else if k=141∨k=146 then decide (p=1) else decide (p=0)
def EJ (nm:ByteArray)(k:Tree):Tree:=.node 137 0 nm ByteArray.empty [k]
def EY (T:Tree)(i:Nat)(k:Tree):Tree:=.node T.kind T.n T.name T.mark (T.kids.set i (if T.kind=136 then EJ (T.kids.getD i .nil).name k else k))
def kidT (T:Tree)(i:Nat):Tree:=T.kids.getD i .nil
def Af (s:ByteArray):List Tree→Option Tree
 | []=>none
 | x::l=>if x.name=s then some (x.kids.getD 0 .nil) else Af s l
mutual
def BS (f:Tree):Tree→Tree→Tree
 | .nil,v=>v
 | .node k n nm mk l,v=>if k=110∧n=0 then EY f 0 v else if k=115∧v.kind=136∧l.map Tree.name=v.kids.map Tree.name then .node 136 v.n v.name v.mark (Bq f l v.kids) else v
def Bq (f:Tree):List Tree→List Tree→List Tree
 | [],vs=>vs
 | x::l,vs=>EJ (vs.getD 0 .nil).name (Rn f x ((vs.getD 0 .nil).kids.getD 0 .nil))::Bq f l (vs.drop 1)
def Rn (f:Tree):Tree→Tree→Tree
 | .nil,v=>v
 | .node _ _ _ _ l,v=>Rx f l v
def Rx (f:Tree):List Tree→Tree→Tree
 | [],v=>v
 | x::_,v=>BS f x v
end
theorem Us (f:Tree)(l:List Tree)(v:Tree):Rx f l v=BS f (l.getD 0 .nil) v:=by
 cases l with
 | nil=>rw[Rx];simp only[List.getD_nil];rw[BS]
 | cons x l=>rw[Rx];rfl
theorem MK (f x v:Tree):Rn f x v=BS f (x.kids.getD 0 .nil) v:=by
 cases x with
 | nil=>rw[Rn];simp only[Tree.kids,List.getD_nil];rw[BS]
 | node=>rw[Rn,Us];rfl
theorem MD {c:Tree}(h:c≠.nil)(f v:Tree):BS f c v=if c.kind=110∧c.n=0 then EY f 0 v else if c.kind=115∧v.kind=136∧c.kids.map Tree.name=v.kids.map Tree.name then .node 136 v.n v.name v.mark (Bq f c.kids v.kids) else v:=by
 cases c with
 | nil=>exact absurd rfl h
 | node=>rw[BS];rfl
def KE (T:Tree):Tree×Int :=
 if (kidT T 0).kind≠146 then (.nil,20)
 else if (No.Ac (kidT (kidT T 0) 0)).2≠0 then (.nil,(No.Ac (kidT (kidT T 0) 0)).2)
 else if (No.Ac (kidT (kidT T 0) 0)).1.kind≠121∨Af (kidT T 0).name (T.kids.drop 2)=none∨Af (kidT T 0).name (No.Ac (kidT (kidT T 0) 0)).1.kids=none then (.nil,20)
 else if Au (.node 143 0 ByteArray.empty ByteArray.empty [BS T (oT (Af (kidT T 0).name (No.Ac (kidT (kidT T 0) 0)).1.kids)) (kidT (kidT T 0) 1),oT (Af (kidT T 0).name (T.kids.drop 2))])≠0 then
  (.nil,Au (.node 143 0 ByteArray.empty ByteArray.empty [BS T (oT (Af (kidT T 0).name (No.Ac (kidT (kidT T 0) 0)).1.kids)) (kidT (kidT T 0) 1),oT (Af (kidT T 0).name (T.kids.drop 2))]))
 else (.node 143 0 ByteArray.empty ByteArray.empty [BS T (oT (Af (kidT T 0).name (No.Ac (kidT (kidT T 0) 0)).1.kids)) (kidT (kidT T 0) 1),oT (Af (kidT T 0).name (T.kids.drop 2))],0)
def numN (n:Int):Tree:=.node 131 n ByteArray.empty ByteArray.empty []
def Sm (b:Bool):Tree:=.node 132 (if b then 1 else 0) ByteArray.empty ByteArray.empty []
def sumF (n a b:Int):Int:=IntKind.i64.wrap (if n=1 then a+b else if n=2 then a - b else a*b)
def opF (T:Tree):Tree×Int :=
 if (kidT T 0).kind≠131∨(kidT T 1).kind≠131 then (.nil,20)
 else if T.n=4 then (Sm (decide ((kidT T 0).n=(kidT T 1).n)),0)
 else if T.n=5 then (Sm (decide ((kidT T 0).n < (kidT T 1).n)),0)
 else if sumF T.n (kidT T 0).n (kidT T 1).n < -1073741824∨1073741824 < sumF T.n (kidT T 0).n (kidT T 1).n then (.nil,19)
 else (numN (sumF T.n (kidT T 0).n (kidT T 1).n),0)
def HY (T:Tree):Tree×Int :=
 if T.kind=135 then (if (kidT T 0).kind=134 then CO (kidT (kidT T 0) 1) 0 (kidT T 1) else (.nil,20))
 else if T.kind=140 then (if (kidT T 0).kind=139 then conR (kidT (kidT T 0) 1) 0 (kidT T 1) else (.nil,20))
 else if T.kind=138 then (if (kidT T 0).kind=136∧(Af T.name (kidT T 0).kids).isSome=true then (oT (Af T.name (kidT T 0).kids),0) else (.nil,20))
 else if T.kind=144 then (if (kidT T 0).kind=132 then (if (kidT T 0).n=1 then (kidT T 1,0) else (kidT T 2,0)) else (.nil,20))
 else if T.kind=142 then (if (kidT T 0).kind=141 then (if (CO (kidT T 1) 0 (kidT (kidT T 0) 1)).2≠0 then (.nil,(CO (kidT T 1) 0 (kidT (kidT T 0) 1)).2) else conR (CO (kidT T 1) 0 (kidT (kidT T 0) 1)).1 0 (kidT (kidT T 0) 0)) else (.nil,20))
 else if T.kind=143 then CO (kidT T 1) 0 (kidT T 0)
 else if T.kind=145 then opF T
 else if T.kind=147 then (if (kidT T 0).kind=146∧(Af (kidT T 0).name (T.kids.drop 1)).isSome=true then CO (oT (Af (kidT T 0).name (T.kids.drop 1))) 0 (kidT (kidT T 0) 1) else (.nil,20))
 else if T.kind=148 then KE T
 else (.nil,20)
mutual
def stF:Tree→Tree×Int
 | .nil=>(.nil,20)
 | .node k n nm mk l=>match (if k=136 then stsR 0 l else stsK k 0 l) with
  | some (p,m,e)=>if e≠0 then (.nil,e) else (EY (.node k n nm mk l) p m,0)
  | none=>HY (.node k n nm mk l)
def stsK (k:Int)(p:Nat):List Tree→Option (Nat×Tree×Int)
 | []=>none
 | x::l=>if HK k p=true∧AW x=false then some (p,stF x) else stsK k (p+1) l
def stsR (p:Nat):List Tree→Option (Nat×Tree×Int)
 | []=>none
 | x::l=>if AW (x.kids.getD 0 .nil)=false then some (p,stI x) else stsR (p+1) l
def stI:Tree→Tree×Int
 | .nil=>(.nil,20)
 | .node _ _ _ _ l=>stH l
def stH:List Tree→Tree×Int
 | []=>(.nil,20)
 | x::_=>stF x
end
theorem aX (x:Tree):stI x=stF (x.kids.getD 0 .nil):=by
 cases x with
 | nil=>rw[stI];simp only[Tree.kids,List.getD_nil];rw[stF]
 | node k n nm mk l =>
  rw[stI]
  cases l with
  | nil=>rw[stH];simp only[Tree.kids,List.getD_nil];rw[stF]
  | cons x l=>rw[stH];rfl
theorem Wv {T:Tree}(h:T≠.nil):stF T=match (if T.kind=136 then stsR 0 T.kids else stsK T.kind 0 T.kids) with
  | some (p,m,e)=>if e≠0 then (.nil,e) else (EY T p m,0)
  | none=>HY T:=by
 cases T with
 | nil=>exact absurd rfl h
 | node=>rw[stF];rfl
def Ff (T:Tree):Tree×Bool×Int :=
 if Au T≠0 then (.nil,false,Au T) else if BC T=false then (.nil,false,2) else if AW T=true then (T,false,0)
 else if (stF T).2≠0 then (.nil,false,(stF T).2) else if Au (stF T).1≠0 then (.nil,false,Au (stF T).1) else ((stF T).1,true,0)
def runF:Nat→Tree→Int→Tree×Int×Int
 | 0,T,s=>if (Ff T).2.2≠0 then (.nil,s,(Ff T).2.2) else if (Ff T).2.1=false then (T,s,0) else (.nil,s,18)
 | k+1,T,s=>if (Ff T).2.2≠0 then (.nil,s,(Ff T).2.2) else if (Ff T).2.1=false then (T,s,0) else runF k (Ff T).1 (s+1)
end St
end Go.Proofs.YtlgajkoplklkiaaGreat
namespace Go.Proofs.YtlgajkoplklkiaaGreat
namespace Sb
open Go Go.Mq Tm
theorem KK {kind:Int}{T:Tree}(h:A9 kind T=true):T.mark=ByteArray.empty:=by
 have hT:T≠.nil:=by intro e;subst e;rw[A9]at h;cases h
 rw[D9 hT]at h
 simp only[Bool.and_eq_true,decide_eq_true_eq]at h
 exact h.1.1.1.2
theorem Tj {T:Tree}(h:AF T=true):T.mark=ByteArray.empty:=by
 have hT:T≠.nil:=by intro e;subst e;rw[AF]at h;cases h
 rw[At hT,Bool.and_eq_true]at h
 have:=h.1
 unfold FZ at this
 simp only[Bool.and_eq_true,decide_eq_true_eq]at this
 exact this.1.1.1
theorem Oy {T:Tree}(hs:Shw T)(hk:130≤T.kind):T.mark=ByteArray.empty:=by
 rcases hs with h|h|h|h
 ·have:=E7 h;omega
 ·exact Tj h
 ·exact KK h
 ·exact KK h
theorem Kq {T:Tree}(hs:Shw T)(hk:T.kind=130):T.kids=[]:=by
 rcases hs with h|h|h|h
 ·have:=E7 h;omega
 ·have hT:T≠.nil:=by intro e;subst e;rw[AF]at h;cases h
  rw[At hT,Bool.and_eq_true,if_pos (.inl hk)]at h
  exact List.length_eq_zero_iff.1 (of_decide_eq_true h.2)
 ·obtain⟨_,p2,_⟩:=AK h;omega
 ·obtain⟨_,p2,_⟩:=AK h;omega
theorem XG {T:Tree}(hs:Shw T)(h1:110≤T.kind)(h2:T.kind < 130):AG T=true:=by
 rcases hs with h|h|h|h
 ·rcases h with h|h
  ·exact h
  ·exfalso
   have hT:T≠.nil:=by intro e;subst e;rw[AU]at h;cases h
   rw[BP hT,ifn,ifn]at h;cases h
 ·have:=(BR h).1.kind;omega
 ·obtain⟨_,p2,_⟩:=AK h;omega
 ·obtain⟨_,p2,_⟩:=AK h;omega
theorem LY {T:Tree}(hs:Shw T)(hk:130≤T.kind)(i:Int)(b:Tree)(t:Int)(hn:T.kind=130→T.n < t∨T.n - t < i):inT i b T t=.node T.kind T.n T.name ByteArray.empty (insT i b T.kind 0 T.kids t):=by
 have hm:=Oy hs hk
 rw[Fu hs.ne]
 by_cases k:T.kind=130
 ·rw[if_pos k,if_pos (hn k),Kq hs k,insT]
  have hv:=Kq hs k
  have hT:=hs.ne
  cases T with
  | nil=>exact absurd rfl hT
  | node k' n nm mk l =>
   simp only[Tree.mark,Tree.kids]at hm hv
   subst hm hv;rfl
 ·rw[if_neg k,ifn,hm]
theorem Gv (i:Int)(b:Tree)(k:Int):∀(l:List Tree) (p:Nat) (c:Int),(rsC i b k p l c).length=l.length
 | [],p,c=>by rw[rsC]
 | x::l,p,c=>by rw[rsC];simp[Gv i b k l (p+1) c]
theorem OV {T:Tree}(hs:Shw T)(hk:130≤T.kind)(i:Int)(b:Tree)(c:Int):rC i b T c=.node T.kind T.n T.name ByteArray.empty (rsC i b T.kind 0 T.kids c):=by
 have hm:=Oy hs hk
 rw[Kb hs.ne]
 by_cases k:T.kind=130
 ·rw[if_pos (.inl k),Kq hs k,rsC]
  have hv:=Kq hs k
  have hT:=hs.ne
  cases T with
  | nil=>exact absurd rfl hT
  | node k' n nm mk l =>
   simp only[Tree.mark,Tree.kids]at hm hv
   subst hm hv;rfl
 ·rw[ifn,ifn,hm]
end Sb
end Go.Proofs.YtlgajkoplklkiaaGreat
namespace Go.Proofs.YtlgajkoplklkiaaGreat
namespace St
open Go Go.Mq Tm Sb
theorem AQ {T:Tree}(h:AF T=true):T≠.nil:=by intro e;subst e;rw[AF]at h;cases h
theorem A8 {T:Tree}(h:AF T=true)(hk:T.kind=135∨T.kind=142∨T.kind=143∨T.kind=145):T.kids.length=2∧AF (T.kids.getD 0 .nil)=true∧AF (T.kids.getD 1 .nil)=true:=by
 rw[At (AQ h),Bool.and_eq_true,ifn,ifn,ifn,if_pos hk]at h
 have h:=h.2
 simp only[Bool.and_eq_true,decide_eq_true_eq]at h
 exact⟨h.1.1,h.1.2,h.2⟩
theorem Bs {T:Tree}(h:AF T=true)(hk:T.kind=134∨T.kind=146):T.kids.length=2∧AG (T.kids.getD 0 .nil)=true∧AF (T.kids.getD 1 .nil)=true:=by
 rw[At (AQ h),Bool.and_eq_true,ifn,if_pos hk]at h
 have h:=h.2
 simp only[Bool.and_eq_true,decide_eq_true_eq]at h
 exact⟨h.1.1,h.1.2,h.2⟩
theorem Er {T:Tree}(h:AF T=true)(hk:T.kind=139):T.kids.length=2∧AU (T.kids.getD 0 .nil)=true∧AF (T.kids.getD 1 .nil)=true:=by
 rw[At (AQ h),Bool.and_eq_true,ifn,ifn,if_pos hk]at h
 have h:=h.2
 simp only[Bool.and_eq_true,decide_eq_true_eq]at h
 exact⟨h.1.1,h.1.2,h.2⟩
theorem Fq {T:Tree}(h:AF T=true)(hk:T.kind=136):(∀x∈T.kids,A9 137 x=true)∧Cv true [] T.kids=true:=by
 rw[At (AQ h),Bool.and_eq_true,ifn,ifn,ifn,ifn,if_pos hk]at h
 have h:=h.2
 simp only[Bool.and_eq_true,decide_eq_true_eq]at h
 exact⟨CW h.1,h.2⟩
theorem GY {T:Tree}(h:AF T=true)(hk:T.kind=138):T.kids.length=1∧AF (T.kids.getD 0 .nil)=true:=by
 rw[At (AQ h),Bool.and_eq_true,ifn,ifn,ifn,ifn,ifn,if_pos hk]at h
 have h:=h.2
 simp only[Bool.and_eq_true,decide_eq_true_eq]at h
 exact⟨h.1,h.2⟩
theorem Da {T:Tree}(h:AF T=true)(hk:T.kind=140):T.kids.length=2∧AF (T.kids.getD 0 .nil)=true∧AG (T.kids.getD 1 .nil)=true:=by
 rw[At (AQ h),Bool.and_eq_true,ifn,ifn,ifn,ifn,ifn,ifn,if_pos hk]at h
 have h:=h.2
 simp only[Bool.and_eq_true,decide_eq_true_eq]at h
 exact⟨h.1.1,h.1.2,h.2⟩
theorem DW {T:Tree}(h:AF T=true)(hk:T.kind=141):T.kids.length=3∧AG (T.kids.getD 0 .nil)=true∧AF (T.kids.getD 1 .nil)=true∧AG (T.kids.getD 2 .nil)=true:=by
 rw[At (AQ h),Bool.and_eq_true,ifn,ifn,ifn,ifn,ifn,ifn,ifn,if_pos hk]at h
 have h:=h.2
 simp only[Bool.and_eq_true,decide_eq_true_eq]at h
 exact⟨h.1.1.1,h.1.1.2,h.1.2,h.2⟩
theorem C0 {T:Tree}(h:AF T=true)(hk:T.kind=144):T.kids.length=3∧AF (T.kids.getD 0 .nil)=true∧AF (T.kids.getD 1 .nil)=true∧AF (T.kids.getD 2 .nil)=true:=by
 rw[At (AQ h),Bool.and_eq_true,ifn,ifn,ifn,ifn,ifn,ifn,ifn,ifn,if_pos hk]at h
 have h:=h.2
 simp only[Bool.and_eq_true,decide_eq_true_eq]at h
 exact⟨h.1.1.1,h.1.1.2,h.1.2,h.2⟩
theorem Cg {T:Tree}(h:AF T=true)(hk:T.kind=147):1 < T.kids.length∧AF (T.kids.getD 0 .nil)=true∧∀x∈T.kids.drop 1,A9 149 x=true:=by
 rw[At (AQ h),Bool.and_eq_true,ifn,ifn,ifn,ifn,ifn,ifn,ifn,ifn,ifn,if_pos hk]at h
 have h:=h.2
 simp only[Bool.and_eq_true,decide_eq_true_eq]at h
 exact⟨h.1.1.1,h.1.1.2,CW h.1.2⟩
theorem CY {T:Tree}(h:AF T=true)(hk:T.kind=148):2 < T.kids.length∧AF (T.kids.getD 0 .nil)=true∧AG (T.kids.getD 1 .nil)=true∧∀x∈T.kids.drop 2,A9 149 x=true:=by
 rw[At (AQ h),Bool.and_eq_true,ifn,ifn,ifn,ifn,ifn,ifn,ifn,ifn,ifn,ifn,if_pos hk]at h
 have h:=h.2
 simp only[Bool.and_eq_true,decide_eq_true_eq]at h
 exact⟨h.1.1.1.1,h.1.1.1.2,h.1.1.2,CW h.1.2⟩
def plcF (T:Tree):Nat×Nat:=if T.kind=135∨T.kind=145 then (0,2) else if T.kind=136 then (0,T.kids.length) else if T.kind=141∨T.kind=146 then (1,2) else (0,1)
theorem T9 (T:Tree)(hT:T≠.nil):Pure P 39 [.d (.tree T)] (.tuple [.d (.int .i64 (plcF T).1),.d (.int .i64 (plcF T).2)]):=by
 refine Pure.AB tt [] [2,3] Tryz.func39 rfl rfl rfl lb fun g=>?_
 unfold plcF
 by_cases k1:T.kind=135∨T.kind=145
 ·rw[if_pos k1]
  repeat' ((first|refine Ga ?_|refine Gc fun hlen=>?_|refine Gd (fun hc=>?_) fun hc=>?_)<;>conv=>whnf)
  all_goals exact Gg
 rw[if_neg k1]
 by_cases k2:T.kind=136
 ·rw[if_pos k2]
  repeat' ((first|refine Ga ?_|refine Gc fun hlen=>?_|refine Gd (fun hc=>?_) fun hc=>?_)<;>conv=>whnf)
  all_goals exact Gg
 rw[if_neg k2]
 by_cases k3:T.kind=141∨T.kind=146
 ·rw[if_pos k3]
  repeat' ((first|refine Ga ?_|refine Gc fun hlen=>?_|refine Gd (fun hc=>?_) fun hc=>?_)<;>conv=>whnf)
  all_goals exact Gg
 ·rw[if_neg k3]
  repeat' ((first|refine Ga ?_|refine Gc fun hlen=>?_|refine Gd (fun hc=>?_) fun hc=>?_)<;>conv=>whnf)
  all_goals exact Gg
def inF (T:Tree)(i:Nat):Tree:=if T.kind=136 then (T.kids.getD i .nil).kids.getD 0 .nil else T.kids.getD i .nil
theorem HX (T:Tree)(hT:T≠.nil)(i:Nat)(hi:i < T.kids.length)(h:T.kind=136→T.kids.getD i .nil≠.nil∧0 < (T.kids.getD i .nil).kids.length):Pure P 40 [.d (.tree T),.d (.int .i64 i)] (.d (.tree (inF T i))):=by
 refine Pure.AB tt [] [4] Tryz.func40 rfl rfl rfl lb fun g=>?_
 unfold inF
 by_cases k:T.kind=136
 ·rw[if_pos k]
  obtain⟨h1,h2⟩:=h k
  repeat' ((first|refine Ga ?_|refine Gc fun hlen=>?_|refine Gh ((0:Int)≤(i:Int)∧(i:Int) < (T.kids.length:Int)) ?_|refine Gh ((0:Int)≤0∧(0:Int) < ((T.kids.getD i .nil).kids.length:Int)) ?_|refine Side.mk h1 ?_|refine Gd (fun hc=>?_) fun hc=>?_)<;>conv=>whnf)
  exact Gg
 ·rw[if_neg k]
  repeat' ((first|refine Ga ?_|refine Gc fun hlen=>?_|refine Gh ((0:Int)≤(i:Int)∧(i:Int) < (T.kids.length:Int)) ?_|refine Gd (fun hc=>?_) fun hc=>?_)<;>conv=>whnf)
  exact Gg
theorem OE (T:Tree)(hT:T≠.nil)(i:Nat)(hi:i < T.kids.length)(hl:T.kids.length≤17592186044416)(h:T.kind=136→T.kids.getD i .nil≠.nil)(K:Tree):Pure P 41 [.d (.tree T),.d (.int .i64 i),.d (.tree K)] (.d (.tree (EY T i K))):=by
 have hcl:=No.Qe T.kids (by intro h;rw[h]at hi;simp at hi) hl
 refine Pure.AB tt [33,35] [6] Tryz.func41 rfl rfl rfl lb fun g=>?_
 unfold EY
 by_cases k:T.kind=136
 ·rw[if_pos k]
  have h1:=h k
  repeat' ((first|refine Ga ?_|refine Gc fun hlen=>?_|refine AJ.go hcl [] ?_|refine Gh ((0:Int)≤(i:Int)∧(i:Int) < (T.kids.length:Int)) ?_|refine Side.mk (show (i:Int).toNat*1 < T.kids.length from by omega) ?_|refine Side.mk h1 ?_|refine Gd (fun hc=>?_) fun hc=>?_)<;>conv=>whnf)
  have hp2:(T.kids.set (i*1) (EJ (T.kids.getD i .nil).name K)).length=T.kids.length:=by simp
  refine RetS.ent (σ':=⟨[(6,.ref 0 0)],41,[(0,.cells [.d (.int .i64 T.kind),.d (.int .i64 T.n),.d (.str T.name),.d (.str T.mark),.row 1 T.kids.length]),(1,.row 25 (.trees (T.kids.set (i*1) (EJ (T.kids.getD i .nil).name K))))],2,g⟩) (Ent.go [0,1]) ?_
  refine RetS.ent (Ent.Cu 1 (l:=T.kids.set (i*1) (EJ (T.kids.getD i .nil).name K)) rfl (by repeat' first|exact trivial|apply And.intro|rfl|exact hp2.symm|exact Nat.zero_lt_one|omega) (by repeat' first|exact trivial|apply And.intro|rfl|exact hp2.symm|exact Nat.zero_lt_one|omega)) ?_
  refine RetS.ent (Ent.Cq 0 rfl rfl (by repeat' first|exact trivial|apply And.intro|rfl|exact hp2.symm|exact Nat.zero_lt_one|omega) (by repeat' first|exact trivial|apply And.intro|rfl|exact hp2.symm|exact Nat.zero_lt_one|omega)) ?_
  exact Gf rfl (A4 (by rw[Nat.mul_one])) rfl
 ·rw[if_neg k]
  repeat' ((first|refine Ga ?_|refine Gc fun hlen=>?_|refine AJ.go hcl [] ?_|refine Gh ((0:Int)≤(i:Int)∧(i:Int) < (T.kids.length:Int)) ?_|refine Side.mk (show (i:Int).toNat*1 < T.kids.length from by omega) ?_|refine Gd (fun hc=>?_) fun hc=>?_)<;>conv=>whnf)
  have hp2:(T.kids.set (i*1) K).length=T.kids.length:=by simp
  refine RetS.ent (σ':=⟨[(6,.ref 0 0)],41,[(0,.cells [.d (.int .i64 T.kind),.d (.int .i64 T.n),.d (.str T.name),.d (.str T.mark),.row 1 T.kids.length]),(1,.row 25 (.trees (T.kids.set (i*1) K)))],2,g⟩) (Ent.go [0,1]) ?_
  refine RetS.ent (Ent.Cu 1 (l:=T.kids.set (i*1) K) rfl (by repeat' first|exact trivial|apply And.intro|rfl|exact hp2.symm|exact Nat.zero_lt_one|omega) (by repeat' first|exact trivial|apply And.intro|rfl|exact hp2.symm|exact Nat.zero_lt_one|omega)) ?_
  refine RetS.ent (Ent.Cq 0 rfl rfl (by repeat' first|exact trivial|apply And.intro|rfl|exact hp2.symm|exact Nat.zero_lt_one|omega) (by repeat' first|exact trivial|apply And.intro|rfl|exact hp2.symm|exact Nat.zero_lt_one|omega)) ?_
  exact Gf rfl (A4 (by rw[Nat.mul_one])) rfl
theorem Gx (T:Tree)(hT:T≠.nil)(i:Nat)(hi:i < T.kids.length)(hn:kidT T i≠.nil)(kind:Int):Pure P 75 [.d (.tree T),.d (.int .i64 i),.d (.int .i64 kind)] (.tuple [.d (.tree (kidT T i)),.d (.bool (decide ((kidT T i).kind=kind)))]):=by
 unfold kidT at *
 refine Pure.AB tt [] [6,7] Tryz.func75 rfl rfl rfl lb fun g=>?_
 repeat' ((first|refine Ga ?_|refine Gc fun hlen=>?_|refine Gh ((0:Int)≤(i:Int)∧(i:Int) < (T.kids.length:Int)) ?_|refine Side.mk hn ?_|refine Gd (fun hc=>?_) fun hc=>?_)<;>conv=>whnf)
 exact Gf rfl (tup2 rfl (AZ (by rw[BF];rfl))) rfl
theorem LZ {s:ByteArray}{l:List Tree}{p:Nat}(h:p < l.length)(hn:(l.getD p .nil).name≠s):Af s (l.drop p)=Af s (l.drop (p+1)):=by
 rw[AP h,Af,if_neg hn]
theorem K3 (l:List Tree)(s:ByteArray)(h:∀x∈l,x≠.nil∧0 < x.kids.length):Pure P 78 [.d (.trees l),.d (.str s)] (.tuple [.d (.tree (oT (Af s l))),.d (.bool (Af s l).isSome)]):=by
 refine Pure.AB tt [] [4,5] Tryz.func78 rfl rfl rfl lb fun g=>?_
 repeat' ((first|refine Ga ?_|refine Gc fun hlen=>?_|refine Gd (fun hc=>?_) fun hc=>?_)<;>conv=>whnf)
 refine AY (α:=Nat) (fun p=>⟨[(1,.d (.str s)),(8,.d (.trees l)),(9,.d (.int .i64 l.length)),(10,.d (.int .i64 p))],27,[],0,g⟩) (fun p=>p≤l.length∧Af s (l.drop p)=Af s l) (fun p=>l.length - p) 0 ⟨by omega,rfl⟩
  (Ent.go []) (fun _=>rfl) fun p hpre=>?_
 obtain⟨hp1,hp2⟩:=hpre
 by_cases hlt:p < l.length
 ·obtain⟨h1,h2⟩:=h _ (AA hlt)
  by_cases hs:(l.getD p .nil).name=s
  ·rw[AP hlt,Af,if_pos hs]at hp2
   rw[←hp2]
   repeat' ((first|refine Ga ?_|refine Gc fun hlen=>?_|refine Gh ((0:Int)≤(p:Int)∧(p:Int) < (l.length:Int)) ?_|refine Side.mk h1 ?_|refine Gh ((0:Int)≤0∧(0:Int) < ((l.getD p .nil).kids.length:Int)) ?_|refine Gd (fun hc=>?_) fun hc=>?_)<;>conv=>whnf)
   exact Gg
  ·rw[LZ hlt hs]at hp2
   repeat' ((first|refine Ga ?_|refine Gc fun hlen=>?_|refine Gh ((0:Int)≤(p:Int)∧(p:Int) < (l.length:Int)) ?_|refine Side.mk h1 ?_|refine Gd (fun hc=>?_) fun hc=>?_)<;>conv=>whnf)
   exact⟨p+1,⟨by omega,hp2⟩,by omega,Ent.go []⟩
 ·rw[Ab (by omega),Af]at hp2
  rw[←hp2]
  repeat' ((first|refine Ga ?_|refine Gc fun hlen=>?_|refine Gd (fun hc=>?_) fun hc=>?_)<;>conv=>whnf)
  exact Gg
theorem Vp (T:Tree)(hT:T≠.nil)(hl:T.kids.length=2)(h0:kidT T 0≠.nil)(h1:kidT T 1≠.nil)(hn:1≤T.n∧T.n≤5):Pure P 79 [.d (.tree T)] (.tuple [.d (.tree (opF T).1),.d (.int .i64 (opF T).2)]):=by
 have k0:=Gx T hT 0 (by omega) h0 131
 have k1:=Gx T hT 1 (by omega) h1 131
 refine Pure.AB tt [91] [2,3] Tryz.func79 rfl rfl rfl lb fun g=>?_
 unfold opF
 generalize kidT T 0=A at *
 generalize kidT T 1=B at *
 by_cases c0:A.kind=131
 ·rw[decide_eq_true c0]at k0
  by_cases c1:B.kind=131
  ·rw[decide_eq_true c1]at k1
   rw[ifn]
   by_cases n4:T.n=4
   ·rw[if_pos n4]
    by_cases q:A.n=B.n
    ·rw[decide_eq_true q]
     repeat' ((first|refine Ga ?_|refine Gc fun hlen=>?_|refine Ge k0 ?_|refine Ge k1 ?_|refine Side.mk h0 ?_|refine Side.mk h1 ?_|refine Gd (fun hc=>?_) fun hc=>?_)<;>conv=>whnf)
     refine RetS.ent (σ':=⟨[(2,.ref 0 0),(3,.d (.int .i64 0))],92,[(0,.cells [.d (.int .i64 132),.d (.int .i64 1),.d (.str ByteArray.empty),.d (.str ByteArray.empty),.d .nils])],1,g⟩) (Ent.go [0]) ?_
     refine RetS.ent (Ent.Cq 0 rfl rfl (by repeat' first|exact trivial|apply And.intro|rfl|exact hp2.symm|exact Nat.zero_lt_one|omega) (by repeat' first|exact trivial|apply And.intro|rfl|exact hp2.symm|exact Nat.zero_lt_one|omega)) ?_
     exact Gg
    ·rw[decide_eq_false q]
     repeat' ((first|refine Ga ?_|refine Gc fun hlen=>?_|refine Ge k0 ?_|refine Ge k1 ?_|refine Side.mk h0 ?_|refine Side.mk h1 ?_|refine Gd (fun hc=>?_) fun hc=>?_)<;>conv=>whnf)
     refine RetS.ent (σ':=⟨[(2,.ref 0 0),(3,.d (.int .i64 0))],92,[(0,.cells [.d (.int .i64 132),.d (.int .i64 0),.d (.str ByteArray.empty),.d (.str ByteArray.empty),.d .nils])],1,g⟩) (Ent.go [0]) ?_
     refine RetS.ent (Ent.Cq 0 rfl rfl (by repeat' first|exact trivial|apply And.intro|rfl|exact hp2.symm|exact Nat.zero_lt_one|omega) (by repeat' first|exact trivial|apply And.intro|rfl|exact hp2.symm|exact Nat.zero_lt_one|omega)) ?_
     exact Gg
   ·rw[if_neg n4]
    by_cases n5:T.n=5
    ·rw[if_pos n5]
     by_cases q:A.n < B.n
     ·rw[decide_eq_true q]
      repeat' ((first|refine Ga ?_|refine Gc fun hlen=>?_|refine Ge k0 ?_|refine Ge k1 ?_|refine Side.mk h0 ?_|refine Side.mk h1 ?_|refine Gd (fun hc=>?_) fun hc=>?_)<;>conv=>whnf)
      refine RetS.ent (σ':=⟨[(2,.ref 0 0),(3,.d (.int .i64 0))],92,[(0,.cells [.d (.int .i64 132),.d (.int .i64 1),.d (.str ByteArray.empty),.d (.str ByteArray.empty),.d .nils])],1,g⟩) (Ent.go [0]) ?_
      refine RetS.ent (Ent.Cq 0 rfl rfl (by repeat' first|exact trivial|apply And.intro|rfl|exact hp2.symm|exact Nat.zero_lt_one|omega) (by repeat' first|exact trivial|apply And.intro|rfl|exact hp2.symm|exact Nat.zero_lt_one|omega)) ?_
      exact Gg
     ·rw[decide_eq_false q]
      repeat' ((first|refine Ga ?_|refine Gc fun hlen=>?_|refine Ge k0 ?_|refine Ge k1 ?_|refine Side.mk h0 ?_|refine Side.mk h1 ?_|refine Gd (fun hc=>?_) fun hc=>?_)<;>conv=>whnf)
      refine RetS.ent (σ':=⟨[(2,.ref 0 0),(3,.d (.int .i64 0))],92,[(0,.cells [.d (.int .i64 132),.d (.int .i64 0),.d (.str ByteArray.empty),.d (.str ByteArray.empty),.d .nils])],1,g⟩) (Ent.go [0]) ?_
      refine RetS.ent (Ent.Cq 0 rfl rfl (by repeat' first|exact trivial|apply And.intro|rfl|exact hp2.symm|exact Nat.zero_lt_one|omega) (by repeat' first|exact trivial|apply And.intro|rfl|exact hp2.symm|exact Nat.zero_lt_one|omega)) ?_
      exact Gg
    ·rw[if_neg n5]
     have n3:T.n=1∨T.n=2∨T.n=3:=by omega
     rcases n3 with n1|n1|n1
     ·have e:sumF T.n A.n B.n=IntKind.i64.wrap (A.n+B.n):=by rw[n1];rfl
      rw[e]
      by_cases q:IntKind.i64.wrap (A.n+B.n) < -1073741824∨1073741824 < IntKind.i64.wrap (A.n+B.n)
      ·rw[if_pos q]
       repeat' ((first|refine Ga ?_|refine Gc fun hlen=>?_|refine Ge k0 ?_|refine Ge k1 ?_|refine Side.mk h0 ?_|refine Side.mk h1 ?_|refine Gd (fun hc=>?_) fun hc=>?_)<;>conv=>whnf)
       all_goals exact Gg
      ·rw[if_neg q]
       repeat' ((first|refine Ga ?_|refine Gc fun hlen=>?_|refine Ge k0 ?_|refine Ge k1 ?_|refine Side.mk h0 ?_|refine Side.mk h1 ?_|refine Gd (fun hc=>?_) fun hc=>?_)<;>conv=>whnf)
       all_goals exact Gg
     ·have e:sumF T.n A.n B.n=IntKind.i64.wrap (A.n - B.n):=by rw[n1];rfl
      rw[e]
      by_cases q:IntKind.i64.wrap (A.n - B.n) < -1073741824∨1073741824 < IntKind.i64.wrap (A.n - B.n)
      ·rw[if_pos q]
       repeat' ((first|refine Ga ?_|refine Gc fun hlen=>?_|refine Ge k0 ?_|refine Ge k1 ?_|refine Side.mk h0 ?_|refine Side.mk h1 ?_|refine Gd (fun hc=>?_) fun hc=>?_)<;>conv=>whnf)
       all_goals exact Gg
      ·rw[if_neg q]
       repeat' ((first|refine Ga ?_|refine Gc fun hlen=>?_|refine Ge k0 ?_|refine Ge k1 ?_|refine Side.mk h0 ?_|refine Side.mk h1 ?_|refine Gd (fun hc=>?_) fun hc=>?_)<;>conv=>whnf)
       all_goals exact Gg
     ·have e:sumF T.n A.n B.n=IntKind.i64.wrap (A.n*B.n):=by rw[n1];rfl
      rw[e]
      by_cases q:IntKind.i64.wrap (A.n*B.n) < -1073741824∨1073741824 < IntKind.i64.wrap (A.n*B.n)
      ·rw[if_pos q]
       repeat' ((first|refine Ga ?_|refine Gc fun hlen=>?_|refine Ge k0 ?_|refine Ge k1 ?_|refine Side.mk h0 ?_|refine Side.mk h1 ?_|refine Gd (fun hc=>?_) fun hc=>?_)<;>conv=>whnf)
       all_goals exact Gg
      ·rw[if_neg q]
       repeat' ((first|refine Ga ?_|refine Gc fun hlen=>?_|refine Ge k0 ?_|refine Ge k1 ?_|refine Side.mk h0 ?_|refine Side.mk h1 ?_|refine Gd (fun hc=>?_) fun hc=>?_)<;>conv=>whnf)
       all_goals exact Gg
  ·rw[decide_eq_false c1]at k1
   rw[if_pos (.inr c1)]
   repeat' ((first|refine Ga ?_|refine Gc fun hlen=>?_|refine Ge k0 ?_|refine Ge k1 ?_|refine Gd (fun hc=>?_) fun hc=>?_)<;>conv=>whnf)
   exact Gg
 ·rw[decide_eq_false c0]at k0
  rw[if_pos (.inl c0)]
  repeat' ((first|refine Ga ?_|refine Gc fun hlen=>?_|refine Ge k0 ?_|refine Ge k1 ?_|refine Gd (fun hc=>?_) fun hc=>?_)<;>conv=>whnf)
  exact Gg
def D2:List Tree→List Tree→Bool
 | [],[]=>true
 | x::l,y::l'=>decide (x.name=y.name) && D2 l l'
 | _,_=>false
theorem GA:∀l l':List Tree,D2 l l'=decide (l.map Tree.name=l'.map Tree.name)
 | [],[]=>by simp[D2]
 | x::l,y::l'=>by
  rw[D2,GA l l',Bool.eq_iff_iff]
  simp
 | [],_::_=>by simp[D2]
 | _::_,[]=>by simp[D2]
theorem PR (x y:Tree)(hx:x≠.nil)(hy:y≠.nil):Pure P 147 [.d (.tree x),.d (.tree y)] (.d (.bool (decide (x.name=y.name)))):=by
 refine Pure.AB tt [] [4] (Tryz.func147) rfl rfl rfl lb fun g=>?_
 repeat' ((first|refine Ga ?_|refine Gc fun hlen=>?_|refine Gd (fun hc=>?_) fun hc=>?_)<;>conv=>whnf)
 exact Gf rfl (AZ (by rw[F5])) rfl
theorem Qq (l l':List Tree)(h:∀x∈l,x≠.nil)(h':∀x∈l',x≠.nil) :
  Pure P 23 [.d (.trees l),.d (.trees l'),.fn 147 []] (.d (.bool (D2 l l'))):=by
 refine Pure.AB tt [] [6] (Tryz.func23) rfl rfl rfl lb fun g=>?_
 by_cases hl:l.length=l'.length
 ·repeat' ((first|refine Ga ?_|refine Gc fun hlen=>?_|refine Gd (fun hc=>?_) fun hc=>?_)<;>conv=>whnf)
  refine AY (α:=Nat) (fun p=>⟨[(1,.d (.trees l')),(2,.fn 147 []),(15,.d (.trees l)),(16,.d (.int .i64 l.length)),(17,.d (.int .i64 p))],32,[],0,g⟩) (fun p=>p≤l.length∧D2 (l.drop p) (l'.drop p)=D2 l l') (fun p=>l.length - p) 0 ⟨by omega,rfl⟩
   (Ent.go []) (fun _=>rfl) fun p hpre=>?_
  obtain⟨hp1,hp2⟩:=hpre
  by_cases hlt:p < l.length
  ·have hq:=PR (l.getD p .nil) (l'.getD p .nil) (h _ (AA hlt)) (h' _ (AA (by omega)))
   rw[AP hlt,AP (l:=l') (by omega),D2]at hp2
   by_cases e:(l.getD p .nil).name=(l'.getD p .nil).name
   ·rw[decide_eq_true e]at hq hp2
    rw[Bool.true_and]at hp2
    repeat' ((first|refine Ga ?_|refine Gc fun hlen=>?_|refine Gh ((0:Int)≤(p:Int)∧(p:Int) < (l.length:Int)) ?_|refine Gh ((0:Int)≤(p:Int)∧(p:Int) < (l'.length:Int)) ?_|refine Ge hq ?_|refine Gd (fun hc=>?_) fun hc=>?_)<;>conv=>whnf)
    exact⟨p+1,⟨by omega,hp2⟩,by omega,Ent.go []⟩
   ·rw[decide_eq_false e]at hq hp2
    rw[←hp2]
    repeat' ((first|refine Ga ?_|refine Gc fun hlen=>?_|refine Gh ((0:Int)≤(p:Int)∧(p:Int) < (l.length:Int)) ?_|refine Gh ((0:Int)≤(p:Int)∧(p:Int) < (l'.length:Int)) ?_|refine Ge hq ?_|refine Gd (fun hc=>?_) fun hc=>?_)<;>conv=>whnf)
    exact Gg
  ·rw[Ab (by omega),Ab (l:=l') (by omega),D2]at hp2
   rw[←hp2]
   repeat' ((first|refine Ga ?_|refine Gc fun hlen=>?_|refine Gd (fun hc=>?_) fun hc=>?_)<;>conv=>whnf)
   exact Gg
 ·have hs:D2 l l'=false:=by
   rw[GA]
   apply decide_eq_false
   intro e
   have:=congrArg List.length e
   simp at this
   exact hl this
  repeat' ((first|refine Ga ?_|refine Gc fun hlen=>?_|refine Gd (fun hc=>?_) fun hc=>?_)<;>conv=>whnf)
  exact Gf rfl (AZ (by rw[hs])) rfl
theorem MI (f:Tree):∀l vs:List Tree,l.length=vs.length→(Bq f l vs).length=vs.length
 | [],vs,h=>by rw[Bq]
 | x::l,[],h=>by simp at h
 | x::l,v::vs,h=>by
  rw[Bq]
  simp only[List.length_cons,List.drop_one,List.tail_cons]
  rw[MI f l vs (by simpa using h)]
theorem MW (f:Tree):∀(l vs:List Tree) (i:Nat),l.length=vs.length→i < l.length→(Bq f l vs).getD i .nil=EJ (vs.getD i .nil).name (BS f ((l.getD i .nil).kids.getD 0 .nil) ((vs.getD i .nil).kids.getD 0 .nil))
 | [],vs,i,h,hi=>by simp at hi
 | x::l,[],i,h,hi=>by simp at h
 | x::l,v::vs,0,h,hi=>by rw[Bq,MK];rfl
 | x::l,v::vs,i+1,h,hi=>by
  rw[Bq,List.getD_cons_succ,List.getD_cons_succ,List.getD_cons_succ]
  exact MW f l vs i (by simpa using h) (by simpa using hi)
theorem TU {a b:List Tree}{p:Nat}(h:a.length=b.length)(hp:p < b.length):(a.take p++b.drop p).set p (a.getD p .nil)=a.take (p+1)++b.drop (p+1):=by
 have h1:(a.take p).length=p:=by simp;omega
 rw[AP hp,←D8 (l:=a) (i:=p) (by omega)]
 have:=No.Kj (a.take p) (b.drop (p+1)) (b.getD p .nil) (a.getD p .nil)
 rw[h1]at this
 rw[this]
 simp
theorem Zw {a b:List Tree}{i:Nat}:(a++b).getD (a.length+i) .nil=b.getD i .nil:=by
 simp[List.getD_eq_getElem?_getD,List.getElem?_append_right]
theorem Tw {a b:List Tree}{p:Nat}(h:a.length=b.length)(hp:p < b.length):(a.take p++b.drop p).getD p .nil=b.getD p .nil:=by
 have h1:(a.take p).length=p:=by simp;omega
 have:=Zw (a:=a.take p) (b:=b.drop p) (i:=0)
 rw[h1,Nat.add_zero]at this
 rw[this,AP hp];rfl
theorem Pk {T:Tree}(hT:T≠.nil)(h:AG T=true)(hk:T.kind=115):∀x∈T.kids,BU 116 x=true:=by
 rw[Am hT,Bool.and_eq_true,ifn,ifn,ifn,if_pos hk]at h
 have h:=h.2
 simp only[Bool.and_eq_true]at h
 exact BO h.1
theorem PV {T:Tree}(hT:T≠.nil)(h:AG T=true)(hk:T.kind=121):∀x∈T.kids,BU 122 x=true:=by
 rw[Am hT,Bool.and_eq_true,ifn,ifn,ifn,ifn,ifn,if_pos hk]at h
 have h:=h.2
 simp only[Bool.and_eq_true]at h
 exact BO h.1.2
theorem Dl {kind:Int}{x:Tree}(h:BU kind x=true):x≠.nil∧x.kids.length=1∧AG (x.kids.getD 0 .nil)=true:=by
 have hx:x≠.nil:=by intro e;subst e;rw[BU]at h;cases h
 rw[CG hx]at h
 simp only[Bool.and_eq_true,beq_iff_eq]at h
 exact⟨hx,by omega,h.2⟩
theorem JE {T:Tree}(h:Full T):T.kids.length≤AV T.kids:=LA fun x hx=>(h.kids x hx).ne
theorem Tc (f:Tree)(hf:AF f=true)(hfk:f.kind=148)(hfz:AD f≤65536)(c:Tree):AG c=true→∀v:Tree,AF v=true→AD v≤65536 →
  Pure P 118 [.d (.tree c),.d (.tree v),.d (.tree f)] (.d (.tree (BS f c v))):=by
 suffices h:(AG c=true→∀v:Tree,AF v=true→AD v≤65536→Pure P 118 [.d (.tree c),.d (.tree v),.d (.tree f)] (.d (.tree (BS f c v)))) ∧
   ∀x∈c.kids,AG x=true→∀v:Tree,AF v=true→AD v≤65536→Pure P 118 [.d (.tree x),.d (.tree v),.d (.tree f)] (.d (.tree (BS f x v))) from h.1
 induction c using Tree.ind' with
 | h0=>exact⟨fun h=>(by rw[AG]at h;cases h),fun x hx=>(by cases hx)⟩
 | h1 c hc ih=>?_
 refine⟨fun hcon v hv hvz=>?_,fun x hx=>(ih x hx).1⟩
 have hvn:=AQ hv
 have hfn:=AQ hf
 obtain⟨f1,_⟩:=CY hf hfk
 have hfs:=AI hfn
 have hvs:=AI hvn
 have he:=MD hc f v
 have fl:=JE (E1 hf)
 have vl:=JE (E1 hv)
 refine Pure.AB tt [] [6] Tryz.func118 rfl rfl rfl lb fun g=>?_
 by_cases c1:c.kind=110∧c.n=0
 ·rw[if_pos c1]at he
  rw[he]
  obtain⟨c1,c2⟩:=c1
  have hw:=OE f hfn 0 (by omega) (by omega) (fun k=>by omega) v
  repeat' ((first|refine Ga ?_|refine Gc fun hlen=>?_|refine Ge hw ?_|refine Gd (fun hc=>?_) fun hc=>?_)<;>conv=>whnf)
  exact Gg
 rw[if_neg c1]at he
 by_cases c2:c.kind=115∧v.kind=136
 ·obtain⟨c2,c3⟩:=c2
  have hcf:=Pk hc hcon c2
  have hvf:=(Fq hv c3).1
  have hq:=Qq c.kids v.kids (fun x hx=>(Dl (hcf x hx)).1) (fun x hx=>(AK (hvf x hx)).1)
  rw[GA]at hq
  by_cases c4:c.kids.map Tree.name=v.kids.map Tree.name
  ·rw[if_pos ⟨c2,c3,c4⟩]at he
   rw[decide_eq_true c4]at hq
   rw[he]
   have hleq:c.kids.length=v.kids.length:=by simpa using congrArg List.length c4
   have hrl:=MI f c.kids v.kids hleq
   have hrg:=MW f c.kids v.kids
   generalize Bq f c.kids v.kids=R at *
   repeat' ((first|refine Ga ?_|refine Gc fun hlen=>?_|refine Ge hq ?_|refine Gd (fun hc=>?_) fun hc=>?_)<;>conv=>whnf)
   refine AY (α:=Nat×Tree) (fun p=>⟨[(0,.d (.tree c)),(1,.d (.tree v)),(2,.d (.tree f)),(7,.d (.tree p.2)),(56,.d (.trees c.kids)),(57,.d (.int .i64 c.kids.length)),(58,.d (.int .i64 p.1))],79,[],0,g⟩)
    (fun p=>p.1≤c.kids.length∧p.2=.node 136 v.n v.name v.mark (R.take p.1++v.kids.drop p.1)) (fun p=>c.kids.length - p.1) (0,v) ⟨by simp,by
     simp only[List.take_zero,List.drop_zero,List.nil_append]
     rw[←c3]
     cases v with
     | nil=>exact absurd rfl hvn
     | node=>rfl⟩
    (Ent.go []) (fun _=>rfl) fun p hpre=>?_
   obtain⟨p,m⟩:=p
   obtain⟨hp1,hp2⟩:=hpre
   simp only[]at hp1 hp2
   by_cases hlt:p < c.kids.length
   ·obtain⟨g1,g2,g3⟩:=Dl (hcf _ (AA hlt))
    have hvm:=AA (l:=v.kids) (i:=p) (by omega)
    obtain⟨t1,t2,t3,t4,t5⟩:=AK (hvf _ hvm)
    have hin:=HX v hvn p (by omega) (fun _=>⟨t1,by omega⟩)
    have s1:=AH hvm
    have s2:=AI t1
    have s3:=AH (AA (l:=(v.kids.getD p .nil).kids) (i:=0) (by omega))
    have hie:inF v p=(v.kids.getD p .nil).kids.getD 0 .nil:=by unfold inF;rw[if_pos c3]
    rw[hie]at hin
    have hrec:=(ih _ (AA hlt)).2 _ (AA (i:=0) (by omega)) g3 _ t5 (by omega)
    have hget:R.getD p .nil=EJ (v.kids.getD p .nil).name (BS f ((c.kids.getD p .nil).kids.getD 0 .nil) ((v.kids.getD p .nil).kids.getD 0 .nil)):=hrg p hleq hlt
    have hmk:m.kids=R.take p++v.kids.drop p:=by rw[hp2];rfl
    have hmn:m≠.nil:=by rw[hp2];simp
    have hml:m.kids.length=v.kids.length:=by rw[hmk];simp;omega
    have hmg:m.kids.getD p .nil=v.kids.getD p .nil:=by rw[hmk];exact Tw (by omega) (by omega)
    have hw:=OE m hmn p (by omega) (by omega) (fun _=>by rw[hmg];exact t1) (BS f ((c.kids.getD p .nil).kids.getD 0 .nil) ((v.kids.getD p .nil).kids.getD 0 .nil))
    have hwe:EY m p (BS f ((c.kids.getD p .nil).kids.getD 0 .nil) ((v.kids.getD p .nil).kids.getD 0 .nil))=.node 136 v.n v.name v.mark (R.take (p+1)++v.kids.drop (p+1)):=by
     unfold EY
     rw[hmg,hmk,←TU (a:=R) (b:=v.kids) (p:=p) (by omega) (by omega),hget,hp2]
     rfl
    rw[hwe]at hw
    repeat' ((first|refine Ga ?_|refine Gc fun hlen=>?_|refine Gh ((0:Int)≤(p:Int)∧(p:Int) < (c.kids.length:Int)) ?_|refine Side.mk g1 ?_|refine Gh ((0:Int)≤0∧(0:Int) < ((c.kids.getD p .nil).kids.length:Int)) ?_|refine Ge hin ?_|refine Ge hrec ?_|refine Ge hw ?_|refine Gd (fun hc=>?_) fun hc=>?_)<;>conv=>whnf)
    exact⟨(p+1,.node 136 v.n v.name v.mark (R.take (p+1)++v.kids.drop (p+1))),⟨by simp only[];omega,rfl⟩,by simp only[];omega,Ent.go []⟩
   ·have e1:R.take p=R:=List.take_of_length_le (by omega)
    have e2:v.kids.drop p=[]:=Ab (by omega)
    rw[e1,e2,List.append_nil]at hp2
    rw[←hp2]
    repeat' ((first|refine Ga ?_|refine Gc fun hlen=>?_|refine Gd (fun hc=>?_) fun hc=>?_)<;>conv=>whnf)
    exact Gg
  ·rw[if_neg (fun q=>c4 q.2.2)]at he
   rw[decide_eq_false c4]at hq
   rw[he]
   repeat' ((first|refine Ga ?_|refine Gc fun hlen=>?_|refine Ge hq ?_|refine Gd (fun hc=>?_) fun hc=>?_)<;>conv=>whnf)
   exact Gg
 ·rw[if_neg (fun q=>c2 ⟨q.1,q.2.1⟩)]at he
  rw[he]
  repeat' ((first|refine Ga ?_|refine Gc fun hlen=>?_|refine Gd (fun hc=>?_) fun hc=>?_)<;>conv=>whnf)
  all_goals exact Gg
end St
end Go.Proofs.YtlgajkoplklkiaaGreat
namespace Go.Proofs.YtlgajkoplklkiaaGreat
namespace Mc
open Go Go.Mq Tm Sb St
theorem Be {c:Prop} [Decidable c]{p:Rs→Prop}{a b:Rs}(h1:c→p a)(h2:¬c→p b):p (if c then a else b):=by
 by_cases h:c
 ·rw[if_pos h];exact h1 h
 ·rw[if_neg h];exact h2 h
section
variable {ev : Tree → Ev → Nat → Rs} {fo : Tree → ByteArray → Tree → Vl → Ev → Nat → Rs}
theorem US (h:∀T ρ f,(ev T ρ f).f≤f)(ρ:Ev):∀(l:List Tree) (f:Nat) (ls:List ByteArray) (ps:List Vl),(recM ev ρ l f ls ps).f≤f
 | [],f,ls,ps=>by rw[recM];exact Nat.le_refl _
 | x::l,f,ls,ps=>by
  rw[recM]
  have h1:=h (x.kids.getD 0 .nil) ρ f
  split
  ·exact Nat.le_trans (US h ρ l _ _ _) h1
  ·exact h1
theorem Wz (h:∀T ρ f,(ev T ρ f).f≤f)(T:Tree)(ρ:Ev)(f:Nat):(Ea ev T ρ f).f≤f:=by
 unfold Ea bad
 have h1:=h (T.kids.getD 1 .nil) ρ f
 dsimp only
 split
 ·split<;>exact h1
 ·exact h1
theorem Zx (h:∀T ρ f,(ev T ρ f).f≤f)(h2:∀T nm s p ρ f,(fo T nm s p ρ f).f≤f)(T:Tree)(x:Vl)(ρ:Ev)(f:Nat):(useM ev fo T x ρ f).f≤f:=by
 unfold useM bad
 cases x<;>dsimp only
 case rcd ls ps=>split<;>(try split)<;>exact Nat.le_refl _
 case tru b =>
  split;· exact h _ _ _
  ·exact Nat.le_refl _
 case clo ty b e=>split<;>first|(split<;>first|exact h _ _ _|exact Nat.le_refl _)|exact Nat.le_refl _
 case pkd c p =>
  split;· exact h _ _ _
  ·exact Nat.le_refl _
 case tag nm s p=>split<;>split<;>first|exact h _ _ _|exact h2 _ _ _ _ _ _|exact Nat.le_refl _
 all_goals exact Nat.le_refl _
theorem ZD (n:Int)(x y:Vl)(f:Nat):(opM n x y f).f=f:=by
 unfold opM
 split
 ·refine Be (p:=fun r=>r.f=f) (fun _=>rfl) fun _=>?_
  refine Be (p:=fun r=>r.f=f) (fun _=>rfl) fun _=>?_
  exact Be (p:=fun r=>r.f=f) (fun _=>rfl) fun _=>rfl
 ·rfl
theorem IE (T:Tree)(ρ:Ev)(x:Tree)(v:Vl)(f:Nat):unrI fo T ρ x v f=unrM fo T ρ (x.kids.getD 0 .nil) v f:=by
 cases x with
 | nil=>rw[unrI];simp only[Tree.kids,List.getD_nil];rw[unrM]
 | node k n nm mk l =>
  rw[unrI]
  cases l with
  | nil=>rw[unrH];simp only[Tree.kids,List.getD_nil];rw[unrM]
  | cons c l=>rw[unrH];rfl
theorem EK (T:Tree)(ρ:Ev)(k n:Int)(nm mk:ByteArray)(l:List Tree)(x:Vl)(f:Nat):unrM fo T ρ (.node k n nm mk l) x f=if k=110∧n=0 then (if f=0 then bad 18 f else match x with
   | .tag nm s p=>fo T nm s p ρ (f - 1)
   | _=>bad 20 (f - 1))
  else match x with
   | .rcd ls ps=>if k=115∧l.length=ps.length then Cm fo T ρ l ls ps f x ls [] else⟨x,0,f⟩
   | x=>⟨x,0,f⟩:=by
 cases x<;>rw[unrM]<;>(intros;contradiction)
theorem Lw (h2:∀T nm s p ρ f,(fo T nm s p ρ f).f≤f)(T:Tree)(ρ:Ev)(c:Tree):(∀x f,(unrM fo T ρ c x f).f≤f)∧∀y∈c.kids,∀x f,(unrM fo T ρ y x f).f≤f:=by
 induction c using Tree.ind' with
 | h0=>exact⟨fun x f=>by rw[unrM];exact Nat.le_refl _,fun x hx=>by cases hx⟩
 | h1 c hc ih =>
  refine⟨fun x f=>?_,fun y hy=>(ih y hy).1⟩
  cases c with
  | nil=>exact absurd rfl hc
  | node k n nm mk l =>
   rw[EK]
   split
   ·split
    ·exact Nat.le_refl _
    ·cases x<;>dsimp only[bad]<;>first|omega|exact Nat.le_trans (h2 _ _ _ _ _ _) (Nat.sub_le _ _)
   ·cases x with
    | rcd ls ps =>
     dsimp only
     split
     ·have key:∀(l':List Tree),(∀y∈l',∀z∈y.kids,∀x f,(unrM fo T ρ z x f).f≤f)→∀(a:List ByteArray) (b:List Vl) (f:Nat) (w:Vl) (al:List ByteArray) (o:List Vl),(Cm fo T ρ l' a b f w al o).f≤f:=by
       intro l'
       induction l' with
       | nil=>intro _ a b f w al o;rw[Cm];exact Nat.le_refl _
       | cons y l' ih2 =>
        intro hl a b f w al o
        have hy:∀x f,(unrI fo T ρ y x f).f≤f:=by
         intro x f
         rw[IE]
         cases hk:y.kids with
         | nil=>simp only[List.getD_nil];rw[unrM];exact Nat.le_refl _
         | cons z r=>exact hl y (by simp) z (by rw[hk];simp) x f
        rw[Cm]
        split
        ·split
         ·exact Nat.le_trans (ih2 (fun y hy=>hl y (by simp[hy])) _ _ _ _ _ _) (hy _ _)
         ·exact hy _ _
        ·exact Nat.le_refl _
      exact key l (fun y hy z hz=>(ih y hy).2 z hz) _ _ _ _ _ _
     ·exact Nat.le_refl _
    | _=>exact Nat.le_refl _
end
theorem Fo:∀k:Nat,(∀T ρ f,(BZ k T ρ f).f≤f)∧∀T nm s p ρ f,(B6 k T nm s p ρ f).f≤f
 | 0=>⟨fun T ρ f=>by rw[BZ];exact Nat.le_refl _,fun T nm s p ρ f=>by rw[B6];exact Nat.le_refl _⟩
 | k+1=>by
  obtain⟨h1,h2⟩:=Fo k
  constructor
  ·intro T ρ f
   have hs:f - 1≤f:=Nat.sub_le _ _
   rw[BZ]
   refine Be (p:=fun r=>r.f≤f) (fun _=>Nat.zero_le _) fun _=>?_
   refine Be (p:=fun r=>r.f≤f) (fun _=>by cases atE ρ T.n<;>exact hs) fun _=>?_
   refine Be (p:=fun r=>r.f≤f) (fun _=>hs) fun _=>?_
   refine Be (p:=fun r=>r.f≤f) (fun _=>hs) fun _=>?_
   refine Be (p:=fun r=>r.f≤f) (fun _=>hs) fun _=>?_
   refine Be (p:=fun r=>r.f≤f) (fun _=>hs) fun _=>?_
   refine Be (p:=fun r=>r.f≤f) (fun _=>Nat.le_trans (US h1 _ _ _ _ _) hs) fun _=>?_
   refine Be (p:=fun r=>r.f≤f) (fun _=>Nat.le_trans (Wz h1 _ _ _) hs) fun _=>?_
   have ha:=Nat.le_trans (h1 (T.kids.getD 0 .nil) ρ (f - 1)) hs
   generalize BZ k (T.kids.getD 0 .nil) ρ (f - 1)=a at ha
   refine Be (p:=fun r=>r.f≤f) (fun _=>ha) fun _=>?_
   refine Be (p:=fun r=>r.f≤f) (fun _=>?_) fun _=>?_
   ·have hb:=Nat.le_trans (h1 (T.kids.getD 1 .nil) ρ a.f) ha
    generalize BZ k (T.kids.getD 1 .nil) ρ a.f=b at hb
    refine Be (p:=fun r=>r.f≤f) (fun _=>hb) fun _=>?_
    refine Be (p:=fun r=>r.f≤f) (fun _=>by rw[ZD];exact hb) fun _=>?_
    split
    ·exact Nat.le_trans (h1 _ _ _) hb
    ·exact hb
   refine Be (p:=fun r=>r.f≤f) (fun _=>Nat.le_trans (h1 _ _ _) ha) fun _=>?_
   exact Nat.le_trans (Zx h1 h2 _ _ _ _) ha
  ·intro T nm s p ρ f
   rw[B6]
   refine Be (p:=fun r=>r.f≤f) (fun _=>Nat.le_refl _) fun _=>?_
   cases armF nm (T.kids.drop 2) with
   | none=>exact Nat.le_refl _
   | some b =>
    refine Be (p:=fun r=>r.f≤f) (fun _=>Nat.le_refl _) fun _=>?_
    cases armF nm (No.Ac s).1.kids with
    | none=>exact Nat.le_refl _
    | some c =>
     have hy:=(Lw h2 T ρ c).1 p f
     refine Be (p:=fun r=>r.f≤f) (fun _=>hy) fun _=>Nat.le_trans (h1 _ _ _) hy
end Mc
end Go.Proofs.YtlgajkoplklkiaaGreat
namespace Go.Proofs.YtlgajkoplklkiaaGreat
namespace Sb
open Go Go.Mq Tm
theorem YG (i:Int)(b T:Tree)(c:Int)(s:Bool)(hi:0≤i)(hc:0≤c∧c≤1099511627776) :
  Fun P 116 [.d (.tree T),.d (.int .i64 c),.ref 0 0,.ref 1 0,.ref 2 0] [(0,.cells [.d (.bool s)]),(1,.cells [.d (.int .i64 i)]),(2,.cells [.d (.tree b)])] 3 (.d (.tree (ER i b T c s).1)) [(0,.cells [.d (.bool (ER i b T c s).2)]),(1,.cells [.d (.int .i64 i)]),(2,.cells [.d (.tree b)])] 3:=by
 have w1:IntKind.i64.wrap (65536 - c)=65536 - c:=wrap64 (by omega) (by omega)
 refine Fun.AB tt [] [7] (Tryz.func116) rfl rfl rfl lb fun g=>?_
 unfold ER
 cases s with
 | true =>
  rw[if_pos (.inl rfl)]
  repeat' ((first|refine Ga ?_|refine Gc fun hlen=>?_|refine Gd (fun hc=>?_) fun hc=>?_)<;>conv=>whnf)
  exact Aq rfl rfl rfl
 | false =>
  by_cases c1:65536 - c < i
  ·rw[if_pos (.inr c1)]
   have c1':IntKind.i64.wrap (65536 - c) < i:=by rw[w1];exact c1
   repeat' ((first|refine Ga ?_|refine Gc fun hlen=>?_|refine Gd (fun hc=>?_) fun hc=>?_)<;>conv=>whnf)
   exact Aq rfl rfl rfl
  ·rw[if_neg (by simp;omega)]
   have c1':¬IntKind.i64.wrap (65536 - c) < i:=by rw[w1];exact c1
   have w3:IntKind.i64.wrap (c+i)=c+i:=wrap64 (by omega) (by omega)
   have hp:=Jc T (c+i) b
   rw[←w3]at hp ⊢
   generalize Ax T (IntKind.i64.wrap (c+i)) b=Y at *
   obtain⟨m,e⟩:=Y
   simp only[]at hp ⊢
   by_cases he:e=0
   ·rw[ifn]
    subst he
    repeat' ((first|refine Ga ?_|refine Gc fun hlen=>?_|refine Ge hp ?_|refine Gd (fun hc=>?_) fun hc=>?_)<;>conv=>whnf)
    exact Aq rfl rfl rfl
   ·rw[if_pos he]
    repeat' ((first|refine Ga ?_|refine Gc fun hlen=>?_|refine Ge hp ?_|refine Gd (fun hc=>?_) fun hc=>?_)<;>conv=>whnf)
    exact Aq rfl rfl rfl
theorem RE (i:Int)(b:Tree)(hi:0≤i)(T:Tree):∀(c t:Int) (s:Bool),Shw T→0≤c→c+AD T≤1099511627776 →
  Fun P 113 [.d (.tree T),.d (.int .i64 c),.d (.int .i64 t),.fn 115 [],.fn 116 [.ref 0 0,.ref 1 0,.ref 2 0]] [(0,.cells [.d (.bool s)]),(1,.cells [.d (.int .i64 i)]),(2,.cells [.d (.tree b)])] 3 (.d (.tree (inC i b T c s).1)) [(0,.cells [.d (.bool (inC i b T c s).2)]),(1,.cells [.d (.int .i64 i)]),(2,.cells [.d (.tree b)])] 3:=by
 induction T using Tree.ind' with
 | h0=>intro c t s h;exact absurd rfl h.ne
 | h1 T hT ih=>?_
 intro c t s hs hc0 hc1
 have hsz:=AI hT
 have hse:=MB hT i b c s
 by_cases k1:T.kind=130
 ·rw[if_pos (.inl k1)]at hse
  rw[hse]
  refine Fun.AB tt [83] [10] Tryz.func113 rfl rfl rfl lb fun g=>?_
  repeat' ((first|refine Ga ?_|refine Gc fun hlen=>?_|refine Ge (P7 T t) ?_|refine Gd (fun hc=>?_) fun hc=>?_)<;>conv=>whnf)
  exact Aq rfl rfl rfl
 by_cases k0:T.kind < 110
 ·rw[if_pos (.inr k0)]at hse
  rw[hse]
  refine Fun.AB tt [83] [10] Tryz.func113 rfl rfl rfl lb fun g=>?_
  repeat' ((first|refine Ga ?_|refine Gc fun hlen=>?_|refine Gd (fun hc=>?_) fun hc=>?_)<;>conv=>whnf)
  exact Aq rfl rfl rfl
 rw[ifn]at hse
 by_cases k2:T.kind < 130
 ·rw[if_pos k2]at hse
  rw[hse]
  have hv:=YG i b T c s hi ⟨hc0,by omega⟩
  generalize ER i b T c s=Y at *
  refine Fun.AB tt [83] [10] Tryz.func113 rfl rfl rfl lb fun g=>?_
  repeat' ((first|refine Ga ?_|refine Gc fun hlen=>?_|refine AJ.go hv [0,1,2] ?_|refine Gd (fun hc=>?_) fun hc=>?_)<;>conv=>whnf)
  exact Aq rfl rfl rfl
 rw[if_neg k2]at hse
 rw[hse]
 have hkids:∀x∈T.kids,Shw x:=by
  rcases DE hs with h|⟨_,_,h⟩
  ·exact absurd h k2
  ·exact h
 by_cases k3:T.kids.length=0
 ·have e0:T.kids=[]:=List.length_eq_zero_iff.1 k3
  have e:(Tree.node T.kind T.n T.name T.mark (insC i b T.kind 0 T.kids c s).1,(insC i b T.kind 0 T.kids c s).2)=(T,s):=by
   rw[e0,insC]
   cases T with
   | nil=>exact absurd rfl hT
   | node k n nm mk l =>
    have:l=[]:=e0
    subst this;rfl
  rw[e]
  refine Fun.AB tt [83] [10] Tryz.func113 rfl rfl rfl lb fun g=>?_
  repeat' ((first|refine Ga ?_|refine Gc fun hlen=>?_|refine Gd (fun hc=>?_) fun hc=>?_)<;>conv=>whnf)
  exact Aq rfl rfl rfl
 refine Fun.AB tt [83] [10] Tryz.func113 rfl rfl rfl lb fun g=>?_
 repeat' ((first|refine Ga ?_|refine Gc fun hlen=>?_|refine Gd (fun hc=>?_) fun hc=>?_)<;>conv=>whnf)
 refine AY (α:=Nat×List Tree×Bool) (fun p=>⟨[(0,.d (.tree T)),(1,.d (.int .i64 c)),(2,.d (.int .i64 t)),(3,.fn 115 []),(4,.fn 116 [.ref 0 0,.ref 1 0,.ref 2 0]),(11,.ref 3 0),(58,.d (.trees T.kids)),(59,.d (.int .i64 T.kids.length)),(60,.d (.int .i64 p.1))],87,[(0,.cells [.d (.bool p.2.2)]),(1,.cells [.d (.int .i64 i)]),(2,.cells [.d (.tree b)]),(3,.cells [.d (.int .i64 T.kind),.d (.int .i64 T.n),.d (.str T.name),.d (.str T.mark),.row 4 p.1]),(4,.row 25 (.trees p.2.1))],5,g⟩)
    (fun p=>p.1≤T.kids.length∧p.2.1.length=p.1∧insC i b T.kind 0 T.kids c s=(p.2.1++(insC i b T.kind p.1 (T.kids.drop p.1) c p.2.2).1,(insC i b T.kind p.1 (T.kids.drop p.1) c p.2.2).2)) (fun p=>T.kids.length - p.1) (0,[],s) ⟨by simp,rfl,rfl⟩
    (Ent.nil rfl rfl rfl (by repeat' first|exact trivial|apply And.intro|rfl|(refine int_eq ?_;rw[wrap64]<;>omega)) (by repeat' first|exact trivial|apply And.intro|rfl|(refine int_eq ?_;rw[wrap64]<;>omega))) (fun _=>rfl) fun p hpre=>?_
 obtain⟨p,out,s'⟩:=p
 obtain⟨hp1,hp2,hp3⟩:=hpre
 simp only[]at hp1 hp2 hp3
 by_cases hlt:p < T.kids.length
 ·have hmx:=AA hlt
  have s1:=AH hmx
  have hbl:=EA T.kind p
  have hbi:=L6 T hs p hlt
  rw[AP hlt,insC]at hp3
  simp only[]at hp3
  have hrec:=ih _ hmx (c+(bndF T.kind p).1) (IntKind.i64.wrap (t+(bndF T.kind p).2)) s' (hkids _ hmx) (by omega) (by omega)
  have w2:IntKind.i64.wrap (c+(bndF T.kind p).1)=c+(bndF T.kind p).1:=wrap64 (by omega) (by omega)
  generalize inC i b (T.kids.getD p .nil) (c+(bndF T.kind p).1) s'=Y at *
  generalize bndF T.kind p=bb at *
  rw[←w2]at hrec
  repeat' ((first|refine Ga ?_|refine Gc fun hlen=>?_|refine Gh ((p+1≤17592186044416∧(p+1)*8≤140737488355328)) ?_|refine Ge hbi ?_|refine AJ.go hrec [0,1,2] ?_|refine Gd (fun hc=>?_) fun hc=>?_)<;>conv=>whnf)
  exact⟨(p+1,out++[Y.1],Y.2),⟨by simp only[];omega,by simp[hp2],by rw[hp3];simp⟩,by simp only[];omega,Ent.go [0,1,2,3,5]⟩
 ·rw[Ab (by omega),insC,List.append_nil]at hp3
  rw[hp3]
  repeat' ((first|refine Ga ?_|refine Gc fun hlen=>?_|refine Gd (fun hc=>?_) fun hc=>?_)<;>conv=>whnf)
  refine RetS.ent (Ent.Cu 4 (l:=out) rfl (by repeat' first|exact trivial|apply And.intro|rfl|exact hp2.symm|exact Nat.zero_lt_one|omega) (by repeat' first|exact trivial|apply And.intro|rfl|exact hp2.symm|exact Nat.zero_lt_one|omega)) ?_
  refine RetS.ent (Ent.Cq 3 rfl rfl (by repeat' first|exact trivial|apply And.intro|rfl|exact hp2.symm|exact Nat.zero_lt_one|omega) (by repeat' first|exact trivial|apply And.intro|rfl|exact hp2.symm|exact Nat.zero_lt_one|omega)) ?_
  refine RetS.ent (σ':=⟨[(10,.d (.tree (.node T.kind T.n T.name T.mark out)))],87,[(0,.cells [.d (.bool s')]),(1,.cells [.d (.int .i64 i)]),(2,.cells [.d (.tree b)])],3,g⟩) (Ent.go [0,1,2]) ?_
  exact Aq rfl rfl rfl
theorem FJ {b:Tree}(h:conE b=0)(hc:BC b=true):Bv b=0:=by
 unfold BC at hc;rw[if_pos h]at hc;exact of_decide_eq_true hc
theorem KU {T b:Tree}{i:Int}(hT:Full T)(h:(Ax T i b).2=0):Full (Ax T i b).1:=by
 unfold Ax at h ⊢
 by_cases h1:conE T=0
 ·rw[if_pos h1]at h ⊢
  by_cases h2:conE b=0
  ·rw[if_pos h2]at h ⊢
   by_cases h3:i < 0
   ·rw[if_pos h3]at h;exact absurd h (by decide)
   ·rw[if_neg h3]at h ⊢
    by_cases h4:MU T i b=0
    ·rw[if_pos h4]
     exact Io (fun x deep s hx=>HC _ _ _ x deep s hx) T _ _ hT
    ·rw[if_neg h4]at h;exact absurd h h4
  ·rw[if_neg h2]at h;exact absurd h h2
 ·rw[if_neg h1]at h;exact absurd h h1
theorem VK (i:Int)(b:Tree)(hb:conE b=0)(T:Tree):∀(c:Int) (s:Bool),Shw T→AD T≤65536→Full (inC i b T c s).1:=by
 induction T using Tree.ind' with
 | h0=>intro c s h;exact absurd rfl h.ne
 | h1 T hT ih =>
  intro c s hs hz
  have hsz:=AI hT
  have hF:=HH T hs
  rw[MB hT]
  split
  ·exact hF
  split
  ·unfold ER
   split
   ·exact hF
   split
   ·exact hF
   ·rename_i q;exact KU hF (by omega)
  ·rename_i k1 k2
   have hk:∀x∈T.kids,Shw x:=by
    rcases DE hs with w|⟨_,_,w⟩
    ·exact absurd w k2
    ·exact w
   have hl:∀(l:List Tree) (p:Nat) (s:Bool),(∀x∈l,x∈T.kids)→∀x∈(insC i b T.kind p l c s).1,Full x:=by
    intro l
    induction l with
    | nil=>intro p s _ x hx;rw[insC]at hx;cases hx
    | cons y l ihl =>
     intro p s hx x hxm
     rw[insC]at hxm
     simp only[]at hxm
     have hm:=hx y (by simp)
     have s1:=AH hm
     rcases List.mem_cons.1 hxm with rfl|hxm
     ·exact ih y hm _ s (hk y hm) (by omega)
     ·exact ihl (p+1) _ (fun z hz=>hx z (by simp[hz])) x hxm
   exact .node (hl T.kids 0 s fun x hx=>hx)
theorem PC (T:Tree)(i:Int)(b:Tree):Pure P 77 [.d (.tree T),.d (.int .i64 i),.d (.tree b)] (.tuple [.d (.tree (conR T i b).1),.d (.int .i64 (conR T i b).2)]):=by
 have h1:=CH T
 have h2:=C3 b
 have h3:=Fi b
 refine Pure.AB tt [] [6,7] Tryz.func77 rfl rfl rfl lb fun g=>?_
 by_cases e1:Au T=0
 ·rw[e1]at h1
  by_cases e2:conE b=0
  ·rw[e2]at h2
   by_cases e3:i < 0
   ·have e:conR T i b=(.nil,2):=by unfold conR;rw[if_neg (by simp[e1]),if_neg (by simp[e2]),if_pos (.inl e3)]
    rw[e]
    repeat' ((first|refine Ga ?_|refine Gc fun hlen=>?_|refine Ge h1 ?_|refine Ge h2 ?_|refine Gd (fun hc=>?_) fun hc=>?_)<;>conv=>whnf)
    exact Gg
   ·cases e4:BC b with
    | false =>
     have e:conR T i b=(.nil,2):=by unfold conR;rw[if_neg (by simp[e1]),if_neg (by simp[e2]),if_pos (.inr e4)]
     rw[e]
     rw[e4]at h3
     repeat' ((first|refine Ga ?_|refine Gc fun hlen=>?_|refine Ge h1 ?_|refine Ge h2 ?_|refine Ge h3 ?_|refine Gd (fun hc=>?_) fun hc=>?_)<;>conv=>whnf)
     exact Gg
    | true =>
     have e:conR T i b=if (inC i b T 0 false).2=true then (.nil,3) else E2 (inC i b T 0 false).1:=by unfold conR;rw[if_neg (by simp[e1]),if_neg (by simp[e2]),if_neg (by simp[e4];omega)]
     rw[e]
     rw[e4]at h3
     obtain⟨t1,t2,t3⟩:=Bo e1
     have h4:=RE i b (by omega) T 0 0 false (.inr (.inl t1)) (by omega) (by omega)
     have hw:=Lt (show 0≤i by omega) e2 (FJ e2 e4) T 0 (.inr (.inl t1)) t2 (by omega) (by omega)
     have hsf:(inC i b T 0 false).2=false→Full (inC i b T 0 false).1:=fun _=>VK i b e2 T 0 false (.inr (.inl t1)) t2
     generalize inC i b T 0 false=Y at *
     obtain⟨m,s⟩:=Y
     simp only[]at h4 hsf ⊢
     cases s with
     | true =>
      rw[if_pos rfl]
      repeat' ((first|refine Ga ?_|refine Gc fun hlen=>?_|refine Ge h1 ?_|refine Ge h2 ?_|refine Ge h3 ?_|refine AJ.go h4 [2,0,1] ?_|refine Gd (fun hc=>?_) fun hc=>?_)<;>conv=>whnf)
      exact Gg
     | false =>
      rw[if_neg (by simp)]
      have h5:=Lx m (hsf rfl)
      generalize E2 m=Z at *
      repeat' ((first|refine Ga ?_|refine Gc fun hlen=>?_|refine Ge h1 ?_|refine Ge h2 ?_|refine Ge h3 ?_|refine AJ.go h4 [2,0,1] ?_|refine Ge h5 ?_|refine Gd (fun hc=>?_) fun hc=>?_)<;>conv=>whnf)
      exact Gg
  ·have e:conR T i b=(.nil,conE b):=by unfold conR;rw[if_neg (by simp[e1]),if_pos e2]
   rw[e]
   repeat' ((first|refine Ga ?_|refine Gc fun hlen=>?_|refine Ge h1 ?_|refine Ge h2 ?_|refine Gd (fun hc=>?_) fun hc=>?_)<;>conv=>whnf)
   exact Gg
 ·have e:conR T i b=(.nil,Au T):=by unfold conR;rw[if_pos e1]
  rw[e]
  repeat' ((first|refine Ga ?_|refine Gc fun hlen=>?_|refine Ge h1 ?_|refine Gd (fun hc=>?_) fun hc=>?_)<;>conv=>whnf)
  exact Gg
end Sb
end Go.Proofs.YtlgajkoplklkiaaGreat
namespace Go.Proofs.YtlgajkoplklkiaaGreat
namespace Mc
open Go Go.Mq Tm Sb St
def QT (T:Tree):Prop:=AF T=true∧AD T≤65536
def bd (f:Nat):Nat:=1073741824 - 2*f
theorem CM {a b:Nat}(h:a≤b):bd b≤bd a:=by unfold bd;omega
theorem bd_s {f:Nat}(h:f≤500000000):bd f=bd (f+1)+2:=by unfold bd;omega
theorem QT.ne {T:Tree}(h:QT T):T≠.nil:=AQ h.1
theorem QT.size {T:Tree}(h:QT T):AV T.kids≤65535:=by have:=AI h.ne;have:=h.2;omega
theorem QT.kid {T:Tree}(h:QT T){i:Nat}(hi:i < T.kids.length)(ht:AF (T.kids.getD i .nil)=true):QT (T.kids.getD i .nil):=by
 have:=AH (AA hi)
 have:=h.size
 exact⟨ht,by omega⟩
theorem QT.arm {T:Tree}(h:QT T){k:Int}{x:Tree}(hx:x∈T.kids)(ht:A9 k x=true):QT (x.kids.getD 0 .nil):=by
 obtain⟨t1,t2,t3,t4,t5⟩:=AK ht
 have s1:=AH hx
 have s2:=AI t1
 have s3:=AH (AA (l:=x.kids) (i:=0) (by omega))
 have:=h.size
 exact⟨t5,by omega⟩
theorem QT.len {T:Tree}(h:QT T):T.kids.length≤65536:=by
 have:=JE (E1 h.1)
 have:=h.size
 omega
theorem GD {s:ByteArray}:∀{l:List Tree} {b:Tree},armF s l=some b→∃x∈l,b=x.kids.getD 0 .nil
 | [],b,h=>by rw[armF]at h;cases h
 | x::l,b,h=>by
  rw[armF]at h
  split at h
  ·cases h;exact⟨x,by simp,rfl⟩
  ·obtain⟨y,h1,h2⟩:=GD h
   exact⟨y,by simp[h1],h2⟩
theorem FX:∀{l:List Tree} {n:Tree},Full n→(AN l n).2=0→Full (AN l n).1
 | [],n,h,_=>by rw[AN];exact h
 | c::l,n,h,h0=>by
  rw[AN]at h0 ⊢
  by_cases h1:(Ax n 0 c).2=0
  ·rw[if_pos h1]at h0 ⊢;exact FX (KU h h1) h0
  ·rw[if_neg h1]at h0;exact absurd h0 h1
theorem Lz {Q:Tree→Prop}{B:Nat}:∀{a b:List Vl},okVs Q B a→okVs Q B b→okVs Q B (a++b)
 | [],b,_,h=>h
 | x::a,b,h,h2=>by rw[okVs]at h;rw[List.cons_append,okVs];exact⟨h.1,Lz h.2 h2⟩
theorem Jp {Q:Tree→Prop}{B:Nat}:∀{a:List Vl} (i:Nat),okVs Q B a→okV Q B (a.getD i .unt)
 | [],i,_=>by simp only[List.getD_nil];rw[okV];trivial
 | x::a,0,h=>by rw[okVs]at h;exact h.1
 | x::a,i+1,h=>by rw[okVs]at h;exact Jp (a:=a) i h.2
theorem T8 {Q:Tree→Prop}{B:Nat}:∀{a:List Vl},okVs Q B a→okVs Q B (a.drop 1)
 | [],_=>by rw[List.drop_nil,okVs];trivial
 | x::a,h=>by rw[okVs]at h;exact h.2
theorem IS {T:Tree}(h:AF T=true):T.kind=130∨T.kind=131∨T.kind=132∨T.kind=133∨T.kind=134∨T.kind=135∨T.kind=136∨T.kind=138∨T.kind=139∨T.kind=140∨T.kind=141∨T.kind=142∨T.kind=143∨T.kind=144∨T.kind=145∨T.kind=146∨T.kind=147∨T.kind=148:=by
 apply Decidable.byContradiction
 intro hn
 rw[At (AQ h),Bool.and_eq_true]at h
 have h:=h.2
 simp only[not_or]at hn
 repeat rw[ifn]at h
 cases h
theorem Lg {T:Tree}(hT:QT T)(c1:T.kind≠130)(c2:T.kind≠131)(c3:T.kind≠132)(c4:T.kind≠133)(c5:¬(T.kind=134∨T.kind=139))(c6:T.kind≠136)(c7:¬(T.kind=146∨T.kind=141)) :
  QT (T.kids.getD 0 .nil)∧0 < T.kids.length∧(T.kind=135∨T.kind=138∨T.kind=140∨T.kind=142∨T.kind=143∨T.kind=144∨T.kind=145∨T.kind=147∨T.kind=148):=by
 have hk:T.kind=135∨T.kind=138∨T.kind=140∨T.kind=142∨T.kind=143∨T.kind=144∨T.kind=145∨T.kind=147∨T.kind=148:=by
  have:=IS hT.1
  omega
 have h:0 < T.kids.length∧AF (T.kids.getD 0 .nil)=true:=by
  by_cases k1:T.kind=135∨T.kind=142∨T.kind=143∨T.kind=145
  ·obtain⟨q1,q2,q3⟩:=A8 hT.1 k1;exact⟨by omega,q2⟩
  by_cases k2:T.kind=138
  ·obtain⟨q1,q2⟩:=GY hT.1 k2;exact⟨by omega,q2⟩
  by_cases k3:T.kind=140
  ·obtain⟨q1,q2,q3⟩:=Da hT.1 k3;exact⟨by omega,q2⟩
  by_cases k4:T.kind=144
  ·obtain⟨q1,q2,q3,q4⟩:=C0 hT.1 k4;exact⟨by omega,q2⟩
  by_cases k5:T.kind=147
  ·obtain⟨q1,q2,q3⟩:=Cg hT.1 k5;exact⟨by omega,q2⟩
  ·obtain⟨q1,q2,q3,q4⟩:=CY hT.1 (by omega);exact⟨by omega,q2⟩
 exact⟨hT.kid h.1 h.2,h.1,hk⟩
theorem bq {n:Int}{x y:Vl}{f B:Nat}(h:(opM n x y f).e=0):okV QT B (opM n x y f).v:=by
 have:(∃a,(opM n x y f).v=.num a ∧ -1073741824≤a∧a≤1073741824)∨(∃b,(opM n x y f).v=.tru b)∨(opM n x y f).v=.unt:=by
  unfold opM bad
  split
  ·refine Be (p:=fun r=>(∃a,r.v=.num a ∧ -1073741824≤a∧a≤1073741824)∨(∃b,r.v=.tru b)∨r.v=.unt) (fun _=>.inr (.inl ⟨_,rfl⟩)) fun _=>?_
   refine Be (p:=fun r=>(∃a,r.v=.num a ∧ -1073741824≤a∧a≤1073741824)∨(∃b,r.v=.tru b)∨r.v=.unt) (fun _=>.inr (.inl ⟨_,rfl⟩)) fun _=>?_
   refine Be (p:=fun r=>(∃a,r.v=.num a ∧ -1073741824≤a∧a≤1073741824)∨(∃b,r.v=.tru b)∨r.v=.unt) (fun _=>.inr (.inr rfl)) fun hr=>?_
   exact .inl ⟨_,rfl,by omega,by omega⟩
  ·exact .inr (.inr rfl)
 obtain⟨a,h,h2⟩|⟨b,h⟩|h:=this<;>rw[h,okV]<;>first|exact h2|trivial
section
variable {ev : Tree → Ev → Nat → Rs} {fo : Tree → ByteArray → Tree → Vl → Ev → Nat → Rs}
def EVq (ev:Tree→Ev→Nat→Rs):Prop:=∀T ρ f,QT T→okEv QT (bd f) ρ→BW ρ≤bd f→f≤500000000→(ev T ρ f).e=0→okV QT (bd ((ev T ρ f).f+1)) (ev T ρ f).v
def FOq (fo:Tree→ByteArray→Tree→Vl→Ev→Nat→Rs):Prop:=∀T nm s p ρ f,QT T→T.kind=148→okEv QT (bd (f+1)) ρ→BW ρ≤bd (f+1)→okV QT (bd (f+1)) p→f≤500000000→(fo T nm s p ρ f).e=0→okV QT (bd ((fo T nm s p ρ f).f+1)) (fo T nm s p ρ f).v
theorem UZ (h1:∀T ρ f,(ev T ρ f).f≤f)(h:EVq ev)(ρ:Ev)(F:Nat)(hF:F≤500000000)(hr:okEv QT (bd F) ρ)(hs:BW ρ≤bd F):∀(l:List Tree) (f:Nat) (ls:List ByteArray) (ps:List Vl),(∀x∈l,QT (x.kids.getD 0 .nil)∧x.name.size≤1000)→(∀s∈ls,s.size≤1000)→f≤F →
  ls.length=ps.length→ls.length+l.length≤1048576→okVs QT (bd (f+1)) ps→(recM ev ρ l f ls ps).e=0→okV QT (bd ((recM ev ρ l f ls ps).f+1)) (recM ev ρ l f ls ps).v
 | [],f,ls,ps,_,hnl,_,hl,hz,hp,_=>by rw[recM];dsimp only;rw[okV];exact⟨hl,by simpa using hz,hp,hnl⟩
 | x::l,f,ls,ps,hq,hnl,hf,hl,hz,hp,he=>by
  rw[recM]at he ⊢
  by_cases h0:(ev (x.kids.getD 0 .nil) ρ f).e=0
  ·rw[if_pos h0]at he ⊢
   have hfu:=h1 (x.kids.getD 0 .nil) ρ f
   have hv:=h _ ρ f (hq x (by simp)).1 (An QT (CM hf) hr) (Nat.le_trans hs (CM hf)) (by omega) h0
   refine UZ h1 h ρ F hF hr hs l _ _ _ (fun y hy=>hq y (by simp[hy])) (fun s hs=>by rcases List.mem_append.1 hs with hs|hs;exact hnl s hs;rw[List.mem_singleton]at hs;rw[hs];exact (hq x (by simp)).2) (by omega) (by simp[hl]) (by simp only[List.length_append,List.length_cons,List.length_nil]at hz ⊢;omega) ?_ he
   refine Lz (GH QT (CM (by omega)) hp) ?_
   rw[okVs,okVs];exact⟨hv,trivial⟩
  ·rw[if_neg h0]at he;exact absurd he h0
theorem Uq (h1:∀T nm s p ρ f,(fo T nm s p ρ f).f≤f)(h:FOq fo){T:Tree}(hT:QT T)(hk:T.kind=148){ρ:Ev}{F:Nat}(hF:F≤500000000)(hr:okEv QT (bd (F+1)) ρ)(hs:BW ρ≤bd (F+1))(c:Tree) :
  (∀x f,f≤F→okV QT (bd (f+1)) x→(unrM fo T ρ c x f).e=0→okV QT (bd ((unrM fo T ρ c x f).f+1)) (unrM fo T ρ c x f).v) ∧
  ∀y∈c.kids,∀x f,f≤F→okV QT (bd (f+1)) x→(unrM fo T ρ y x f).e=0→okV QT (bd ((unrM fo T ρ y x f).f+1)) (unrM fo T ρ y x f).v:=by
 induction c using Tree.ind' with
 | h0=>exact⟨fun x f _ hx _=>by rw[unrM];exact hx,fun x hx=>by cases hx⟩
 | h1 c hc ih =>
  refine⟨fun x f hf hx he=>?_,fun y hy=>(ih y hy).1⟩
  cases c with
  | nil=>exact absurd rfl hc
  | node k n nm mk l =>
   rw[EK]at he ⊢
   by_cases hv:k=110∧n=0
   ·rw[if_pos hv]at he ⊢
    by_cases f0:f=0
    ·rw[if_pos f0]at he;cases he
    ·rw[if_neg f0]at he ⊢
     cases x with
     | tag nm s p =>
      dsimp only at he ⊢
      rw[okV]at hx
      have hx:=hx.2
      have e1:f - 1+1=f:=by omega
      exact h T nm s p ρ (f - 1) hT hk (An QT (CM (by omega)) hr) (Nat.le_trans hs (CM (by omega))) (Bn QT (CM (by omega)) hx) (by omega) he
     | _=>cases he
   ·rw[if_neg hv]at he ⊢
    cases x with
    | rcd ls ps =>
     dsimp only at he ⊢
     by_cases hl:k=115∧l.length=ps.length
     ·rw[if_pos hl]at he ⊢
      rw[okV]at hx
      have key:∀(l':List Tree),(∀y∈l',∀z∈y.kids,∀x f,f≤F→okV QT (bd (f+1)) x→(unrM fo T ρ z x f).e=0→okV QT (bd ((unrM fo T ρ z x f).f+1)) (unrM fo T ρ z x f).v) →
        ∀(a:List ByteArray) (b:List Vl) (f:Nat) (w:Vl) (al:List ByteArray) (o:List Vl),f≤F→okVs QT (bd (f+1)) b→okV QT (bd (f+1)) w→okVs QT (bd (f+1)) o→al.length=o.length+l'.length→al.length≤1048576→(∀s∈al,s.size≤1000)→(Cm fo T ρ l' a b f w al o).e=0 →
        okV QT (bd ((Cm fo T ρ l' a b f w al o).f+1)) (Cm fo T ρ l' a b f w al o).v:=by
       intro l'
       induction l' with
       | nil=>intro _ a b f w al o _ _ _ ho hal hz hal2 _;rw[Cm];dsimp only;rw[okV];exact⟨by simpa using hal,hz,ho,hal2⟩
       | cons y l' ih2 =>
        intro hy0 a b f w al o hf hb hw ho hal hz hal2 he
        rw[Cm]at he ⊢
        split at he
        ·rename_i hn
         rw[if_pos hn]
         have hy:∀x f,f≤F→okV QT (bd (f+1)) x→(unrI fo T ρ y x f).e=0→okV QT (bd ((unrI fo T ρ y x f).f+1)) (unrI fo T ρ y x f).v:=by
          intro x f q1 q2 q3
          rw[IE]at q3 ⊢
          cases hk:y.kids with
          | nil=>simp only[List.getD_nil];rw[unrM];exact q2
          | cons z r=>rw[hk]at q3;exact hy0 y (by simp) z (by rw[hk];simp) x f q1 q2 q3
         have hfu:(unrI fo T ρ y (b.getD 0 .unt) f).f≤f:=by rw[IE];exact (Lw h1 T ρ _).1 _ _
         by_cases h0:(unrI fo T ρ y (b.getD 0 .unt) f).e=0
         ·rw[if_pos h0]at he ⊢
          have hv:=hy _ f hf (Jp 0 hb) h0
          have hm:=CM (a:=(unrI fo T ρ y (b.getD 0 .unt) f).f+1) (b:=f+1) (by omega)
          refine ih2 (fun y hy=>hy0 y (by simp[hy])) _ _ _ _ _ _ (by omega) (GH QT hm (T8 hb)) (Bn QT hm hw) (Lz (GH QT hm ho) (by rw[okVs,okVs];exact⟨hv,trivial⟩)) (by simp only[List.length_append,List.length_cons,List.length_nil]at hal ⊢;omega) hz hal2 he
         ·rw[if_neg h0]at he;exact absurd he h0
        ·rename_i hn
         rw[if_neg hn]
         exact hw
      exact key l (fun y hy z hz=>(ih y hy).2 z hz) ls ps f (.rcd ls ps) ls [] hf hx.2.2.1 (by rw[okV];exact hx) (by rw[okVs];trivial) (by simp;omega) hx.2.1 hx.2.2.2 he
     ·rw[if_neg hl];exact hx
    | _=>exact hx
theorem Zq (h:EVq ev)(h2:FOq fo){T:Tree}(hT:QT T){x:Vl}{ρ:Ev}{f:Nat}(hf:f≤500000000)(hr:okEv QT (bd (f+1)) ρ)(hs:BW ρ≤bd (f+1))(hx:okV QT (bd (f+1)) x)(he:(useM ev fo T x ρ f).e=0) :
  okV QT (bd ((useM ev fo T x ρ f).f+1)) (useM ev fo T x ρ f).v:=by
 have hb:=bd_s hf
 have hm:=CM (a:=f) (b:=f+1) (by omega)
 unfold useM at he ⊢
 cases x with
 | rcd ls ps =>
  dsimp only at he ⊢
  rw[okV]at hx
  cases hl:CN T.name ls ps with
  | none=>rw[hl]at he;cases he
  | some p =>
   rw[hl]at he
   dsimp only at he ⊢
   split at he
   ·rename_i hk;rw[if_pos hk];exact O0 QT hx.2.2.1 hl
   ·cases he
 | tru b =>
  dsimp only at he ⊢
  split at he
  ·rename_i hk
   rw[if_pos hk]
   obtain⟨q1,q2,q3,q4⟩:=C0 hT.1 hk
   refine h _ ρ f ?_ (An QT hm hr) (by omega) hf he
   cases b
   ·exact hT.kid (by simp only[Bool.false_eq_true,if_false];omega) (by simpa using q4)
   ·exact hT.kid (by simp only[if_true];omega) (by simpa using q3)
  ·cases he
 | clo ty b e =>
  dsimp only at he ⊢
  rw[okV]at hx
  split at he
  ·rename_i hk
   rw[if_pos hk]
   split at he
   ·rename_i hc
    rw[if_pos hc]
    have hcf:Full (AN (AL ρ) (T.kids.getD 1 .nil)).1:=FX (HH _ (.inl (.inl (Da hT.1 hk.1).2.2))) hc
    exact h b (.con _ e) f hx.1 (by rw[okEv];exact⟨hcf.ne,An QT hm hx.2.1⟩) (by show BW e+1≤_;have:=hx.2.2;omega) hf he
   ·rename_i hc;exact absurd he hc
  ·cases he
 | pkd c p =>
  dsimp only at he ⊢
  rw[okV]at hx
  split at he
  ·rename_i hk
   rw[if_pos hk]
   obtain⟨q1,q2,q3⟩:=A8 hT.1 (.inr (.inl hk))
   exact h _ (.val p (.con c ρ)) f (hT.kid (by omega) q3) (by rw[okEv,okEv];exact⟨Bn QT hm hx.2,hx.1,An QT hm hr⟩) (by show BW ρ+1+1≤_;omega) hf he
  ·cases he
 | tag nm s p =>
  dsimp only at he ⊢
  rw[okV]at hx
  have hx:=hx.2
  split at he
  ·rename_i hk
   rw[if_pos hk]
   obtain⟨q1,q2,q3⟩:=Cg hT.1 hk
   split at he
   ·rename_i b hb'
    obtain⟨y,hy1,hy2⟩:=GD hb'
    refine h b (.val p ρ) f ?_ (by rw[okEv];exact⟨Bn QT hm hx,An QT hm hr⟩) (by show BW ρ+1≤_;omega) hf he
    rw[hy2];exact hT.arm (List.mem_of_mem_drop hy1) (q3 y hy1)
   ·cases he
  ·rename_i hk
   rw[if_neg hk]
   split at he
   ·rename_i hk8
    rw[if_pos hk8]
    exact h2 T nm s p ρ f hT hk8 hr hs hx hf he
   ·cases he
 | _=>cases he
end
theorem Xg {ev:Tree→Ev→Nat→Rs}(h1:∀T ρ f,(ev T ρ f).f≤f)(h:EVq ev){T:Tree}(hT:QT T)(hk:T.kind=146∨T.kind=141){ρ:Ev}{f:Nat}(hf:f≤500000000)(hr:okEv QT (bd f) ρ)(hs:BW ρ≤bd f)(he:(Ea ev T ρ f).e=0) :
  okV QT (bd ((Ea ev T ρ f).f+1)) (Ea ev T ρ f).v:=by
 have hq:QT (T.kids.getD 1 .nil)∧AG (T.kids.getD 0 .nil)=true:=by
  rcases hk with hk|hk
  ·obtain⟨q1,q2,q3⟩:=Bs hT.1 (.inr hk);exact⟨hT.kid (by omega) q3,q2⟩
  ·obtain⟨q1,q2,q3,q4⟩:=DW hT.1 hk;exact⟨hT.kid (by omega) q3,q2⟩
 have hv:=h _ ρ f hq.1 hr hs hf
 unfold Ea at he ⊢
 dsimp only at he ⊢
 generalize ev (T.kids.getD 1 .nil) ρ f=x at he hv ⊢
 by_cases h0:x.e=0
 ·rw[if_pos h0]at he ⊢
  by_cases hc:(AN (AL ρ) (T.kids.getD 0 .nil)).2=0
  ·rw[if_pos hc]
   dsimp only
   have hcf:Full (AN (AL ρ) (T.kids.getD 0 .nil)).1:=FX (HH _ (.inl (.inl hq.2))) hc
   split
   ·rw[okV];exact⟨by have:=(BR hT.1).1.size;omega,hv h0⟩
   ·rw[okV];exact⟨hcf.ne,hv h0⟩
  ·rw[if_neg hc]at he;exact absurd he hc
 ·rw[if_neg h0]at he;exact absurd he h0
theorem RG:∀k:Nat,EVq (BZ k)∧FOq (B6 k)
 | 0=>by
  constructor
  ·intro T ρ f _ _ _ _ he
   rw[BZ]at he;cases he
  ·intro T nm s p ρ f _ _ _ _ _ _ he
   rw[B6]at he;cases he
 | k+1=>by
  obtain⟨h1,h2⟩:=RG k
  have f1:=(Fo k).1
  have f2:=(Fo k).2
  constructor
  ·intro T ρ f hT hr hs hf he
   rw[BZ]at he ⊢
   by_cases f0:f=0
   ·rw[if_pos f0]at he;cases he
   rw[if_neg f0]at he ⊢
   have e1:f - 1+1=f:=by omega
   have hm:=CM (a:=f - 1) (b:=f) (by omega)
   have hb:=bd_s (f:=f - 1) (by omega)
   rw[e1]at hb
   by_cases c1:T.kind=130
   ·rw[if_pos c1]at he ⊢
    cases ha:atE ρ T.n with
    | none=>rw[ha]at he;cases he
    | some v=>dsimp only;rw[e1];exact Q1 QT hr ha
   rw[if_neg c1]at he ⊢
   by_cases c2:T.kind=131
   ·rw[if_pos c2];dsimp only;rw[okV];exact (BR hT.1).1.n131 c2
   rw[if_neg c2]at he ⊢
   by_cases c3:T.kind=132
   ·rw[if_pos c3];dsimp only;rw[okV];trivial
   rw[if_neg c3]at he ⊢
   by_cases c4:T.kind=133
   ·rw[if_pos c4];dsimp only;rw[okV];trivial
   rw[if_neg c4]at he ⊢
   by_cases c5:T.kind=134∨T.kind=139
   ·rw[if_pos c5]
    dsimp only
    rw[e1,okV]
    refine⟨?_,hr,hs⟩
    rcases c5 with c5|c5
    ·obtain⟨q1,q2,q3⟩:=Bs hT.1 (.inl c5);exact hT.kid (by omega) q3
    ·obtain⟨q1,q2,q3⟩:=Er hT.1 c5;exact hT.kid (by omega) q3
   rw[if_neg c5]at he ⊢
   by_cases c6:T.kind=136
   ·rw[if_pos c6]at he ⊢
    have hfl:=(Fq hT.1 c6).1
    have:=hT.len
    exact UZ f1 h1 ρ (f - 1) (by omega) (An QT hm hr) (by omega) _ _ _ _ (fun x hx=>⟨hT.arm hx (hfl x hx),by have:=(AK (hfl x hx)).2.2.1;omega⟩) (fun s hs=>by cases hs) (Nat.le_refl _) rfl (by simp;omega) (by rw[okVs];trivial) he
   rw[if_neg c6]at he ⊢
   by_cases c7:T.kind=146∨T.kind=141
   ·rw[if_pos c7]at he ⊢
    exact Xg f1 h1 hT c7 (by omega) (An QT hm hr) (by omega) he
   rw[if_neg c7]at he ⊢
   dsimp only at he ⊢
   have hk0:QT (T.kids.getD 0 .nil):=(Lg hT (by omega) (by omega) (by omega) (by omega) (by omega) (by omega) (by omega)).1
   have hav:=h1 _ ρ (f - 1) hk0 (An QT hm hr) (by omega) (by omega)
   have haf:=f1 (T.kids.getD 0 .nil) ρ (f - 1)
   generalize BZ k (T.kids.getD 0 .nil) ρ (f - 1)=a at he hav haf ⊢
   by_cases ha:a.e=0
   ·rw[if_neg (by simp[ha])]at he ⊢
    have hav:=hav ha
    have hma:=CM (a:=a.f) (b:=a.f+1) (by omega)
    have hmf:=CM (a:=a.f+1) (b:=f) (by omega)
    have hba:=bd_s (f:=a.f) (by omega)
    by_cases c8:T.kind=135∨T.kind=145
    ·rw[if_pos c8]at he ⊢
     obtain⟨q1,q2,q3⟩:=A8 hT.1 (by omega)
     have hk1:QT (T.kids.getD 1 .nil):=hT.kid (by omega) q3
     have hbv:=h1 _ ρ a.f hk1 (An QT (by omega) hr) (by omega) (by omega)
     have hbf:=f1 (T.kids.getD 1 .nil) ρ a.f
     generalize BZ k (T.kids.getD 1 .nil) ρ a.f=b at he hbv hbf ⊢
     by_cases hb0:b.e=0
     ·rw[if_neg (by simp[hb0])]at he ⊢
      have hbv:=hbv hb0
      by_cases c9:T.kind=145
      ·rw[if_pos c9]at he ⊢
       exact bq he
      ·rw[if_neg c9]at he ⊢
       split at he
       ·rename_i body e hae
        rw[hae]at hav
        rw[okV]at hav
        have hmb:=CM (a:=b.f) (b:=b.f+1) (by omega)
        have hmb2:=CM (a:=b.f+1) (b:=a.f+1) (by omega)
        have hbb:=bd_s (f:=b.f) (by omega)
        exact h1 body (.val b.v e) b.f hav.1 (by rw[okEv];exact⟨Bn QT hmb hbv,An QT (by omega) hav.2.1⟩) (by show BW e+1≤_;have:=hav.2.2;omega) (by omega) he
       ·cases he
     ·rw[if_pos hb0]at he;exact absurd he hb0
    rw[if_neg c8]at he ⊢
    by_cases c10:T.kind=143
    ·rw[if_pos c10]at he ⊢
     obtain⟨q1,q2,q3⟩:=A8 hT.1 (by omega)
     exact h1 _ (.val a.v ρ) a.f (hT.kid (by omega) q3) (by rw[okEv];exact⟨Bn QT hma hav,An QT (by omega) hr⟩) (by show BW ρ+1≤_;omega) (by omega) he
    rw[if_neg c10]at he ⊢
    exact Zq h1 h2 hT (by omega) (An QT (by omega) hr) (by omega) hav he
   ·rw[if_pos ha]at he;exact absurd he ha
  ·intro T nm s p ρ f hT hk hr hs hp hf he
   obtain⟨q1,q2,q3,q4⟩:=CY hT.1 hk
   rw[B6]at he ⊢
   by_cases c1:(No.Ac s).2=0
   ·rw[if_neg (by simp[c1])]at he ⊢
    cases hA:armF nm (T.kids.drop 2) with
    | none=>rw[hA]at he;cases he
    | some b =>
     rw[hA]at he
     dsimp only at he ⊢
     by_cases c2:(No.Ac s).1.kind=121
     ·rw[if_neg (by simp[c2])]at he ⊢
      cases hA2:armF nm (No.Ac s).1.kids with
      | none=>rw[hA2]at he;cases he
      | some c =>
       rw[hA2]at he
       dsimp only at he ⊢
       have huf:=(Lw f2 T ρ c).1 p f
       have huq:=(Uq f2 h2 hT hk hf hr hs c).1 p f (Nat.le_refl _) hp
       generalize unrM (B6 k) T ρ c p f=y at huf huq he ⊢
       by_cases c3:y.e=0
       ·rw[if_neg (by simp[c3])]at he ⊢
        have huq:=huq c3
        obtain⟨x1,hx1,hb1⟩:=GD hA
        have hbq:QT b:=by rw[hb1];exact hT.arm (List.mem_of_mem_drop hx1) (q4 x1 hx1)
        have hmy:=CM (a:=y.f) (b:=y.f+1) (by omega)
        have hmf:=CM (a:=y.f+1) (b:=f+1) (by omega)
        have hby:=bd_s (f:=y.f) (by omega)
        exact h1 b (.val y.v ρ) y.f hbq (by rw[okEv];exact⟨Bn QT hmy huq,An QT (by omega) hr⟩) (by show BW ρ+1≤_;omega) (by omega) he
       ·rw[if_pos c3]at he;exact absurd he c3
     ·rw[if_pos c2]at he;cases he
   ·rw[if_pos c1]at he;exact absurd he c1
theorem W3 (k:Nat):FOq (B6 k):=(RG k).2
theorem OX (k:Nat):EVq (BZ k):=(RG k).1
end Mc
end Go.Proofs.YtlgajkoplklkiaaGreat
namespace Go.Proofs.YtlgajkoplklkiaaGreat
namespace Mc
open Go Go.Mq Tm Sb St
def unrV (fo:Tree→ByteArray→Tree→Vl→Ev→Nat→Rs)(T:Tree)(ρ:Ev)(x:Vl)(f:Nat):Rs:=if f=0 then bad 18 f else match x with
 | .tag nm s p=>fo T nm s p ρ (f - 1)
 | _=>bad 20 (f - 1)
theorem WS (fo:Tree→ByteArray→Tree→Vl→Ev→Nat→Rs)(T:Tree)(ρ:Ev){c:Tree}(hc:c≠.nil)(hk:c.kind=110∧c.n=0)(x:Vl)(f:Nat):unrM fo T ρ c x f=unrV fo T ρ x f:=by
 cases c with
 | nil=>exact absurd rfl hc
 | node k n nm mk l=>rw[EK,if_pos (show k=110∧n=0 from hk)];rfl
theorem Tl (fo:Tree→ByteArray→Tree→Vl→Ev→Nat→Rs)(T:Tree)(ρ:Ev){c:Tree}(hk:¬(c.kind=110∧c.n=0)){x:Vl}(f:Nat)(hx:∀ls ps,x=.rcd ls ps→¬(c.kind=115∧c.kids.length=ps.length)):unrM fo T ρ c x f=⟨x,0,f⟩:=by
 cases c with
 | nil=>rw[unrM]
 | node k n nm mk l =>
  rw[EK,if_neg (show ¬(k=110∧n=0) from hk)]
  cases x with
  | rcd ls ps=>dsimp only;rw[if_neg (show ¬(k=115∧l.length=ps.length) from hx ls ps rfl)]
  | _=>rfl
theorem WQ (fo:Tree→ByteArray→Tree→Vl→Ev→Nat→Rs)(T:Tree)(ρ:Ev){c:Tree}(hk:c.kind=115){ls:List ByteArray}{ps:List Vl}(f:Nat)(hx:c.kids.length=ps.length):unrM fo T ρ c (.rcd ls ps) f=Cm fo T ρ c.kids ls ps f (.rcd ls ps) ls []:=by
 cases c with
 | nil=>cases hk
 | node k n nm mk l =>
  have hk:k=115:=hk
  rw[EK,ifn]
  dsimp only
  rw[if_pos (show k=115∧l.length=ps.length from⟨hk,hx⟩)]
  rfl
theorem YB (fo:Tree→ByteArray→Tree→Vl→Ev→Nat→Rs)(T:Tree)(ρ:Ev)(c:Tree)(hc:c≠.nil)(hk:c.kind=110∧c.n=0)(x:Vl)(f:Nat)
  (hf:∀nm s p,0 < f→x=.tag nm s p→Fun P 85 [.ref 0 0,.d (.tree T),.agg [.d (.str nm),.d (.tree s),.d (vD p)],.d (eD ρ)] (MP (f - 1)) 1 (rsA (fo T nm s p ρ (f - 1))) (MP (fo T nm s p ρ (f - 1)).f) 1)
  (hf0:f≤500000000) :
  Fun P 120 [.ref 0 0,.d (.tree c),.d (vD x),.d (.tree T),.d (eD ρ)] (MP f) 1 (rsA (unrM fo T ρ c x f)) (MP (unrM fo T ρ c x f).f) 1:=by
 have hv:=WS fo T ρ hc hk x f
 obtain⟨hk1,hk2⟩:=hk
 generalize unrM fo T ρ c x f=r at hv
 unfold unrV at hv
 by_cases f0:f=0
 ·rw[if_pos f0]at hv
  subst f0
  subst hv
  obtain⟨t,y,hy⟩:=Dx x
  rw[hy]
  refine Fun.AB tt [] [10,11] (Tryz.func120) rfl rfl rfl lb fun g=>?_
  repeat' ((first|refine Ga ?_|refine Gc fun hlen=>?_|refine Split.Ag (show (c.kind == 110)=true from by simpa using hk1) ?_|refine Split.Ag (show (c.n == 0)=true from by simpa using hk2) ?_|refine Gd (fun hc=>?_) fun hc=>?_)<;>conv=>whnf)
  refine RetS.ent (σ':=⟨[(10,.d .nilI),(11,.d (.int .i64 18))],139,[(0,.cells [.d (.int .i64 0)])],1,g⟩) (Ent.go [0]) ?_
  exact Aq rfl rfl rfl
 ·rw[if_neg f0]at hv
  have hw:IntKind.i64.wrap ((f:Int) - 1)=((f - 1:Nat):Int):=by rw[wrap64]<;>omega
  cases x with
  | tag nm s p =>
   dsimp only at hv
   have h1:=hf nm s p (by omega) rfl
   rw[←hv]at h1
   obtain⟨t,y,hy⟩:=Dx p
   rw[hy]at h1
   rw[vD,hy]
   unfold rsA MP at *
   refine Fun.AB tt [] [10,11] (Tryz.func120) rfl rfl rfl lb fun g=>?_
   repeat' ((first|refine Ga ?_|refine Gc fun hlen=>?_|refine Split.Ag (show (c.kind == 110)=true from by simpa using hk1) ?_|refine Split.Ag (show (c.n == 0)=true from by simpa using hk2) ?_|refine Split.AE (show ((f:Int) == 0)=false from by simp;omega) ?_|refine AJ.fun h1 [0] rfl rfl rfl rfl rfl rfl (by repeat' first|exact trivial|apply And.intro|rfl|(exact congrArg (fun z=>some (AObj.cells [AVal.d (Mq.Data.int .i64 z)])) hw)) rfl ?_|refine Gd (fun hc=>?_) fun hc=>?_)<;>conv=>whnf)
   refine RetS.ent (σ':=⟨[(10,.d (if r.e=0 then vD r.v else .nilI)),(11,.d (.int .i64 r.e))],139,[(0,.cells [.d (.int .i64 r.f)])],1,g⟩) (Ent.go [0]) ?_
   exact Aq rfl rfl rfl
  | _ =>
   dsimp only at hv
   subst hv
   rw[vD]
   refine Fun.AB tt [] [10,11] (Tryz.func120) rfl rfl rfl lb fun g=>?_
   repeat' ((first|refine Ga ?_|refine Gc fun hlen=>?_|refine Split.Ag (show (c.kind == 110)=true from by simpa using hk1) ?_|refine Split.Ag (show (c.n == 0)=true from by simpa using hk2) ?_|refine Split.AE (show ((f:Int) == 0)=false from by simp;omega) ?_|refine Gd (fun hc=>?_) fun hc=>?_)<;>conv=>whnf)
   refine RetS.ent (σ':=⟨[(10,.d .nilI),(11,.d (.int .i64 20))],139,[(0,.cells [.d (.int .i64 (f - 1:Nat))])],1,g⟩) (Ent.re [0] rfl rfl rfl rfl rfl rfl (by repeat' first|exact trivial|apply And.intro|rfl|(refine int_eq ?_;rw[wrap64]<;>omega)) (by repeat' first|exact trivial|apply And.intro|rfl|(exact congrArg (fun z=>some (AObj.cells [AVal.d (Mq.Data.int .i64 z)])) hw))) ?_
   exact Aq rfl rfl rfl
theorem Wg (T:Tree)(ρ:Ev)(c:Tree)(hc:c≠.nil)(hk:¬(c.kind=110∧c.n=0))(x:Vl)(f:Nat)
  (hx:∀ls ps,x=.rcd ls ps→¬(c.kind=115∧c.kids.length=ps.length)) :
  Fun P 120 [.ref 0 0,.d (.tree c),.d (vD x),.d (.tree T),.d (eD ρ)] (MP f) 1 (rsA ⟨x,0,f⟩) (MP f) 1:=by
 unfold rsA MP
 rw[if_pos rfl]
 have hcs:c.kind=110→c.n=0→False:=fun h1 h2=>hk ⟨h1,h2⟩
 cases x with
 | rcd ls ps =>
  have hx:=hx ls ps rfl
  have hpl:(ps.map vD).length=ps.length:=List.length_map _
  rw[vD,FY]
  refine Fun.AB tt [] [10,11] (Tryz.func120) rfl rfl rfl lb fun g=>?_
  repeat' ((first|refine Ga ?_|refine Gc fun hlen=>?_|refine Gd (fun hc=>?_) fun hc=>?_)<;>conv=>whnf)
  all_goals first
   | (exfalso;exact hcs (by assumption) (by assumption))
   | (exfalso;apply hx;constructor<;>omega)
   | (refine RetS.ent (σ':=⟨[(10,.d (vD (.rcd ls ps))),(11,.d (.int .i64 0))],139,[(0,.cells [.d (.int .i64 f)])],1,g⟩) (Ent.re [0] rfl rfl rfl rfl rfl rfl ⟨⟨by rw[vD,FY];rfl,rfl⟩,⟨rfl,rfl⟩,trivial⟩ (by repeat' first|exact trivial|apply And.intro|rfl|(refine int_eq ?_;rw[wrap64]<;>omega))) ?_
      refine AM rfl rfl ?_ (by repeat' first|exact trivial|apply And.intro|rfl|(refine int_eq ?_;rw[wrap64]<;>omega)) (Nat.le_refl _)
      show AVal.tuple [AVal.d (vD (.rcd ls ps)),.d (.int .i64 0)]=_
      rw[vD,FY])
 | _ =>
  simp only[vD]
  refine Fun.AB tt [] [10,11] (Tryz.func120) rfl rfl rfl lb fun g=>?_
  repeat' ((first|refine Ga ?_|refine Gc fun hlen=>?_|refine Gd (fun hc=>?_) fun hc=>?_)<;>conv=>whnf)
  all_goals first
   | (exfalso;exact hcs (by assumption) (by assumption))
   | (refine RetS.ent (Ent.re [0] rfl rfl rfl rfl rfl rfl (σ':=⟨[(10,.d _),(11,.d (.int .i64 0))],139,[(0,.cells [.d (.int .i64 f)])],1,g⟩) (by repeat' first|exact trivial|apply And.intro|rfl|(refine int_eq ?_;rw[wrap64]<;>omega)) (by repeat' first|exact trivial|apply And.intro|rfl|(refine int_eq ?_;rw[wrap64]<;>omega))) ?_
      exact Aq rfl rfl rfl)
theorem _root_.Go.Mq.RetS.conv {nb:Nat}{ts:List Nat}{r r':AVal}{L':List (Nat×AObj)}{N':Nat}{g':Ghost}{σ:AO}(h:RetS nb ts r L' N' g' σ)(hr:∀I ρ v,CA I ρ (· < N') r v→CA I ρ (· < N') r' v):RetS nb ts r' L' N' g' σ:=by
 unfold RetS at *
 intro E I ρ a w hE hT
 obtain⟨I',ρ',h1,h2,h3,h4⟩:=h E I ρ a w hE hT
 exact⟨I',ρ',h1,h2,h3,hr _ _ _ h4⟩
theorem getD_map {ps:List Vl}{i:Nat}(h:i < ps.length):(ps.map vD).getD i .nils=vD (ps.getD i .unt):=by
 simp[List.getD_eq_getElem?_getD,List.getElem?_eq_getElem h]
theorem Lj {l:List ByteArray}(i:Nat):(l.drop i).getD 0 ByteArray.empty=l.getD i ByteArray.empty:=by
 simp[List.getD_eq_getElem?_getD]
theorem Q0 {l:List Vl}(i:Nat):(l.drop i).getD 0 .unt=l.getD i .unt:=by
 simp[List.getD_eq_getElem?_getD]
theorem Uj {a:List ByteArray}{b:List Vl}{I:Imm}{ρ:Nat→RB}{D:Nat→Prop}{v:Value}
  (e:CA I ρ D (.tuple [.iface 126 (.agg [.d (.slice a.length 1 fun i _=>.str (a.getD i ByteArray.empty)),.d (.slice (b.map vD).length 1 fun i _=>(b.map vD).getD i .nils)]),.d (.int .i64 0)]) v):CA I ρ D (.tuple [.d (vD (.rcd a b)),.d (.int .i64 0)]) v:=by
 have:=QQ (r:=⟨.rcd a b,0,0⟩) (fun _=>⟨a,b,rfl⟩) (I:=I) (ρ:=ρ) (D:=D) (v:=v) e
 exact this
theorem YF (fo:Tree→ByteArray→Tree→Vl→Ev→Nat→Rs)(T:Tree)(ρ:Ev)(c:Tree)(hc:c≠.nil)(hk:c.kind=115)(ls:List ByteArray)(ps:List Vl)(f:Nat)
  (hl:c.kids.length=ps.length) (hls:ls.length=ps.length) (hz:ps.length≤1048576) (hkk:∀x∈c.kids,x≠.nil∧0 < x.kids.length)
  (he:∀i f',i < c.kids.length→f'≤f→Fun P 120 [.ref 0 0,.d (.tree ((c.kids.getD i .nil).kids.getD 0 .nil)),.d (vD (ps.getD i .unt)),.d (.tree T),.d (eD ρ)] (MP f') 1 (rsA (unrM fo T ρ ((c.kids.getD i .nil).kids.getD 0 .nil) (ps.getD i .unt) f')) (MP (unrM fo T ρ ((c.kids.getD i .nil).kids.getD 0 .nil) (ps.getD i .unt) f').f) 1)
  (hfu:∀i f',i < c.kids.length→(unrM fo T ρ ((c.kids.getD i .nil).kids.getD 0 .nil) (ps.getD i .unt) f').f≤f') :
  Fun P 120 [.ref 0 0,.d (.tree c),.d (vD (.rcd ls ps)),.d (.tree T),.d (eD ρ)] (MP f) 1 (rsA (Cm fo T ρ c.kids ls ps f (.rcd ls ps) ls [])) (MP (Cm fo T ρ c.kids ls ps f (.rcd ls ps) ls []).f) 1:=by
 have hpl:(ps.map vD).length=ps.length:=List.length_map _
 have hxv:vD (.rcd ls ps)=.iface 126 (.agg 2 fun i=>[Mq.Data.slice ls.length 1 fun i _=>.str (ls.getD i ByteArray.empty),Mq.Data.slice (ps.map vD).length 1 fun i _=>(ps.map vD).getD i .nils].getD i .nils):=by rw[vD,FY]
 rw[hxv]
 generalize hw:(Cm fo T ρ c.kids ls ps f (.rcd ls ps) ls [])=R
 refine Fun.AB tt [] [10,11] (Tryz.func120) rfl rfl rfl lb fun g=>?_
 repeat' ((first|refine Ga ?_|refine Gc fun hlen=>?_|refine Split.AE (show (c.kind == 110)=false from by simp;omega) ?_|refine Split.AE (show (c.kind != 115)=false from by simp;omega) ?_|refine Split.AE (show ((c.kids.length:Int) != ((ps.map vD).length:Int))=false from by simp;omega) ?_|refine Gd (fun hc=>?_) fun hc=>?_)<;>conv=>whnf)
 refine AY (α:=Nat×Nat×List Vl) (fun p=>⟨[(0,.ref 0 0),(2,.d (vD (.rcd ls ps))),(3,.d (.tree T)),(4,.d (eD ρ)),(14,.ref 1 0),(16,.ref 2 0),(91,.d (.trees c.kids)),(92,.d (.int .i64 c.kids.length)),(93,.d (.int .i64 p.1))],139,[(0,.cells [.d (.int .i64 p.2.1)]),(1,.cells [.d (.slice ls.length 1 fun i _=>.str (ls.getD i ByteArray.empty)),.d (.slice (ps.map vD).length 1 fun i _=>(ps.map vD).getD i .nils)]),(2,.cells [.d (.slice ls.length 1 fun i _=>.str (ls.getD i ByteArray.empty)),.row 3 p.1]),(3,.row 60 (rowD (p.2.2.map vD)))],4,g⟩)
   (fun p=>p.1≤c.kids.length∧p.2.2.length=p.1∧p.2.1≤f∧Cm fo T ρ (c.kids.drop p.1) (ls.drop p.1) (ps.drop p.1) p.2.1 (.rcd ls ps) ls p.2.2=R) (fun p=>c.kids.length - p.1) (0,f,[]) ⟨by simp,rfl,Nat.le_refl _,hw⟩
   (Ent.nil rfl rfl rfl ⟨rfl,by rw[hxv];rfl,rfl,rfl,rfl,rfl,rfl,rfl,rfl,trivial⟩ (by repeat' first|exact trivial|apply And.intro|rfl|(refine int_eq ?_;rw[wrap64]<;>omega))) (fun _=>rfl) fun p hpre=>?_
 obtain⟨i,f',out⟩:=p
 obtain⟨hp1,hp2,hp3,hp4⟩:=hpre
 simp only[]at hp1 hp2 hp3 hp4
 by_cases hi:i < c.kids.length
 ·have hx0:=AA (l:=c.kids) hi
  obtain⟨a1,a2⟩:=hkk _ hx0
  rw[AP hi,Cm,IE,Lj,Q0]at hp4
  by_cases hn:(c.kids.getD i .nil).name=ls.getD i ByteArray.empty
  ·rw[if_pos hn]at hp4
   have h1:=he i f' hi hp3
   have hfu1:=hfu i f' hi
   rw[←getD_map (by omega)]at h1
   generalize unrM fo T ρ ((c.kids.getD i .nil).kids.getD 0 .nil) (ps.getD i .unt) f'=r at h1 hp4 hfu1
   obtain⟨v,e,f2⟩:=r
   unfold rsA MP at h1
   try dsimp only at h1
   try dsimp only at hp4
   try dsimp only at hfu1
   by_cases h0:e=0
   ·subst h0
    rw[if_pos rfl,List.drop_drop,List.drop_drop,show i+1=i+1 from rfl]at hp4
    rw[if_pos rfl]at h1
    obtain⟨t,y,hy⟩:=Dx v
    rw[hy]at h1
    repeat' ((first|refine Ga ?_|refine Gc fun hlen=>?_|refine AJ.go h1 [0] ?_|refine Side.mk a1 ?_|refine Gh ((0:Int)≤(i:Int)∧(i:Int) < (c.kids.length:Int)) ?_|refine Gh ((0:Int)≤(i:Int)∧(i:Int) < (ls.length:Int)) ?_|refine Gh ((0:Int)≤(i:Int)∧(i:Int) < ((ps.map vD).length:Int)) ?_|refine Gh ((0:Int)≤0∧(0:Int) < ((c.kids.getD i .nil).kids.length:Int)) ?_|refine Split.AE (DI.2 hn) ?_|refine Side.mk (show (i+1≤maxN∧(i+1)*16≤140737488355328) from⟨by unfold maxN;omega,by omega⟩) ?_|refine Gd (fun hc=>?_) fun hc=>?_)<;>conv=>whnf)
    refine Side.mk (by intro j hj;have hj:j < 1*1:=hj;obtain rfl:j=0:=(by omega);rfl) ?_
    conv=>whnf
    repeat' ((first|refine Ga ?_|refine Gc fun hlen=>?_|refine Side.mk (show (out.map vD).length=i from by rw[List.length_map];exact hp2) ?_|refine Gd (fun hc=>?_) fun hc=>?_)<;>conv=>whnf)
    rw[Mv _ _ _ (by rfl)]
    conv=>whnf
    repeat' ((first|refine Ga ?_|refine Gc fun hlen=>?_|refine Side.mk (show (i+1≤maxN∧(i+1)*16≤140737488355328) from⟨by unfold maxN;omega,by omega⟩) ?_|refine Gd (fun hc=>?_) fun hc=>?_)<;>conv=>whnf)
    have hr:=Ms (out.map vD) (vD v) (fun i=>[AVal.d (.iface t y)].getD i .any) (by rw[hy];rfl) _ (QS _ _ rfl)
    refine⟨(i+1,f2,out++[v]),⟨by simp only[];omega,by simp[hp2],by simp only[];omega,hp4⟩,by simp only[];omega,
     Ent.trans (Ent.P2 5 (rowD (out.map vD++[vD v])) rfl hr.1 hr.2.1 hr.2.2) (Ent.re [0,1,2,5] rfl rfl rfl rfl rfl rfl (by repeat' first|exact trivial|apply And.intro|rfl|(refine int_eq ?_;rw[wrap64]<;>omega)) ⟨⟨rfl,by rfl,rfl⟩,⟨rfl,by rfl,rfl⟩,⟨rfl,by rfl,rfl⟩,⟨rfl,?_,fun _=>rfl⟩,trivial⟩)⟩
    show some (AObj.row 60 (rowD (out.map vD++[vD v])))=some (AObj.row 60 (rowD ((out++[v]).map vD)))
    rw[List.map_append]
    rfl
   ·rw[if_neg h0]at hp4 h1
    rw[←hp4]
    repeat' ((first|refine Ga ?_|refine Gc fun hlen=>?_|refine AJ.go h1 [0] ?_|refine Side.mk a1 ?_|refine Gh ((0:Int)≤(i:Int)∧(i:Int) < (c.kids.length:Int)) ?_|refine Gh ((0:Int)≤(i:Int)∧(i:Int) < (ls.length:Int)) ?_|refine Gh ((0:Int)≤(i:Int)∧(i:Int) < ((ps.map vD).length:Int)) ?_|refine Gh ((0:Int)≤0∧(0:Int) < ((c.kids.getD i .nil).kids.length:Int)) ?_|refine Split.AE (DI.2 hn) ?_|refine Gd (fun hc=>?_) fun hc=>?_)<;>conv=>whnf)
    refine RetS.ent (σ':=⟨[(10,.d .nilI),(11,.d (.int .i64 e))],139,[(0,.cells [.d (.int .i64 f2)])],1,g⟩) (Ent.go [0]) ?_
    refine AM rfl rfl ?_ (by repeat' first|exact trivial|apply And.intro|rfl|(refine int_eq ?_;rw[wrap64]<;>omega)) (Nat.le_refl _)
    unfold rsA
    rw[if_neg h0]
    rfl
  ·rw[if_neg hn]at hp4
   rw[←hp4]
   repeat' ((first|refine Ga ?_|refine Gc fun hlen=>?_|refine Side.mk a1 ?_|refine Gh ((0:Int)≤(i:Int)∧(i:Int) < (c.kids.length:Int)) ?_|refine Gh ((0:Int)≤(i:Int)∧(i:Int) < (ls.length:Int)) ?_|refine Split.Ag (EI.2 hn) ?_|refine Gd (fun hc=>?_) fun hc=>?_)<;>conv=>whnf)
   refine RetS.ent (σ':=⟨[(10,.d (vD (.rcd ls ps))),(11,.d (.int .i64 0))],139,[(0,.cells [.d (.int .i64 f')])],1,g⟩) (Ent.go [0]) ?_
   exact Aq rfl rfl rfl
 ·rw[Ab (by omega),Cm]at hp4
  rw[←hp4]
  repeat' ((first|refine Ga ?_|refine Gc fun hlen=>?_|refine Gd (fun hc=>?_) fun hc=>?_)<;>conv=>whnf)
  have hol:(out.map vD).length=out.length:=List.length_map _
  subst hp2
  refine RetS.ent (σ':=⟨[(10,.iface 126 (.agg [.d (.slice ls.length 1 fun i _=>.str (ls.getD i ByteArray.empty)),.row 1 out.length])),(11,.d (.int .i64 0))],139,[(0,.cells [.d (.int .i64 f')]),(1,.row 60 (rowD (out.map vD)))],2,g⟩) (Ent.re [0,3] rfl rfl rfl rfl rfl rfl (by repeat' first|exact trivial|apply And.intro|rfl|(refine int_eq ?_;rw[wrap64]<;>omega)) ⟨⟨rfl,by rfl,rfl⟩,⟨rfl,by rfl,fun _=>rfl⟩,trivial⟩) ?_
  refine RetS.ent (Ent.FF 1 (n:=out.length) (sz:=1) (f:=fun i _=>(out.map vD).getD i .nils) rfl hol rfl (fun i j hi hj=>by obtain rfl:j=0:=(by omega);show AVal.d ((out.map vD).getD (i*1+0) .nils)=_;rw[show i*1+0=i by omega]) (by repeat' first|exact trivial|apply And.intro|rfl) (by repeat' first|exact trivial|apply And.intro|rfl)) ?_
  refine RetS.ent (σ':=⟨[(10,.iface 126 (.agg [.d (.slice ls.length 1 fun i _=>.str (ls.getD i ByteArray.empty)),.d (.slice out.length 1 fun i _=>(out.map vD).getD i .nils)])),(11,.d (.int .i64 0))],139,[(0,.cells [.d (.int .i64 f')])],1,g⟩) (Ent.go [0]) ?_
  refine RetS.conv ?_ (fun I ρ v e=>Uj e)
  refine AM rfl rfl ?_ (by repeat' first|exact trivial|apply And.intro|rfl|(refine int_eq ?_;rw[wrap64]<;>omega)) (Nat.le_refl _)
  rw[hol]
  rfl
end Mc
end Go.Proofs.YtlgajkoplklkiaaGreat
namespace Go.Proofs.YtlgajkoplklkiaaGreat
namespace No
open Go Go.Mq
def Dz:Tree:=.node 100 0 ByteArray.empty ByteArray.empty []
theorem Jq:∀(k:Nat) (T:Tree),(Di k T).2=0→(BI (Di k T).1).2.1=false∧(BI (Di k T).1).2.2=0
 | 0,T=>by
  rw[Di]
  split
  ·exact fun h=>absurd h ‹_›
  ·rename_i h1
   split
   ·exact fun h=>absurd h (by decide)
   ·rename_i h2
    exact fun _=>⟨by simpa using h2,by simpa using h1⟩
 | k+1,T=>by
  rw[Di]
  split
  ·exact fun h=>absurd h ‹_›
  ·rename_i h1
   split
   ·exact Jq k _
   ·rename_i h2
    exact fun _=>⟨by simpa using h2,by simpa using h1⟩
theorem Xv {k:Int}{a b:Tree}(hk:k=114∨k=120)(ha:AG a=true)(hb:AG b=true):AG (.node k 0 ByteArray.empty ByteArray.empty [a,b])=true:=by
 rw[Am (by simp)]
 simp only[Tree.kind,Tree.kids,Tree.n]
 rcases hk with rfl|rfl<;>simp[CP,Tree.mark,Tree.name,Tree.n,ha,hb]
theorem Xt {k:Int}{a b:Tree}(hk:k=117∨k=118∨k=119)(ha:AU a=true)(hb:AG b=true):AG (.node k 0 ByteArray.empty ByteArray.empty [a,b])=true:=by
 rw[Am (by simp)]
 simp only[Tree.kind,Tree.kids,Tree.n]
 rcases hk with rfl|rfl|rfl<;>simp[CP,Tree.mark,Tree.name,Tree.n,ha,hb]
theorem VE {o:Option (Tree×Int)}{m:Tree}(h:outF o=(m,true,0)):o=some (m,0):=by
 unfold outF at h
 cases o with
 | none=>cases h
 | some p =>
  obtain⟨a,b⟩:=p
  simp only[]at h
  split at h
  ·cases h;simp_all
  ·cases h
theorem VZ {o:Option (Tree×Int)}(h1:(outF o).2.1=false)(h2:(outF o).2.2=0):o=none:=by
 unfold outF at *
 cases o with
 | none=>rfl
 | some p =>
  obtain⟨a,b⟩:=p
  simp only[]at h1 h2
  by_cases hb:b=0
  ·simp[hb]at h1
  ·simp[hb]at h2
theorem Gi {T:Tree}(h:(BI T).2.2=0):conE T=0∧BI T=outF (Cc T):=by
 unfold BI at *
 by_cases hc:conE T=0
 ·exact⟨hc,by rw[ifn]⟩
 ·rw[if_pos hc]at h;exact absurd h hc
end No
end Go.Proofs.YtlgajkoplklkiaaGreat
namespace Go.Proofs.YtlgajkoplklkiaaGreat
namespace Mc
open Go Go.Mq Tm Sb St
def EVw (k:Nat):Prop:=∀(T:Tree) (ρ:Ev) (f:Nat),QT T→okEv QT (bd f) ρ→BW ρ≤bd f→f≤500000000→2*f+1≤k →
 Fun P 24 [.ref 0 0,.d (.tree T),.d (eD ρ)] (MP f) 1 (rsA (BZ k T ρ f)) (MP (BZ k T ρ f).f) 1
def FOw (k:Nat):Prop:=∀(T:Tree) (nm:ByteArray) (s:Tree) (p:Vl) (ρ:Ev) (f:Nat),QT T→T.kind=148→okEv QT (bd (f+1)) ρ→BW ρ≤bd (f+1)→okV QT (bd (f+1)) p→f≤500000000→2*f+2≤k →
 Fun P 85 [.ref 0 0,.d (.tree T),.agg [.d (.str nm),.d (.tree s),.d (vD p)],.d (eD ρ)] (MP f) 1 (rsA (B6 k T nm s p ρ f)) (MP (B6 k T nm s p ρ f).f) 1
theorem Yi {Q:Tree→Prop}{B:Nat}:∀{a:List Vl} {i:Nat},okVs Q B a→okV Q B (a.getD i .unt):=fun {a i} h=>Jp i h
theorem Yb {k:Nat}(h:FOw k){T:Tree}(hT:QT T)(hk:T.kind=148){ρ:Ev}{F:Nat}(hF:F≤500000000)(hF2:2*F≤k)(hr:okEv QT (bd (F+1)) ρ)(hs:BW ρ≤bd (F+1))(c:Tree) :
  (AG c=true→∀(x:Vl) (f:Nat),f≤F→okV QT (bd (f+1)) x→Fun P 120 [.ref 0 0,.d (.tree c),.d (vD x),.d (.tree T),.d (eD ρ)] (MP f) 1 (rsA (unrM (B6 k) T ρ c x f)) (MP (unrM (B6 k) T ρ c x f).f) 1) ∧
  ∀y∈c.kids,AG y=true→∀(x:Vl) (f:Nat),f≤F→okV QT (bd (f+1)) x→Fun P 120 [.ref 0 0,.d (.tree y),.d (vD x),.d (.tree T),.d (eD ρ)] (MP f) 1 (rsA (unrM (B6 k) T ρ y x f)) (MP (unrM (B6 k) T ρ y x f).f) 1:=by
 induction c using Tree.ind' with
 | h0=>exact⟨fun h=>(by rw[AG]at h;cases h),fun x hx=>(by cases hx)⟩
 | h1 c hc ih =>
  refine⟨fun hcon x f hf hx=>?_,fun y hy=>(ih y hy).1⟩
  by_cases hv:c.kind=110∧c.n=0
  ·refine YB (B6 k) T ρ c hc hv x f (fun nm s p f0 e=>?_) (by omega)
   subst e
   rw[okV]at hx
   have hx:=hx.2
   have e1:f - 1+1=f:=by omega
   exact h T nm s p ρ (f - 1) hT hk (An QT (CM (by omega)) hr) (Nat.le_trans hs (CM (by omega))) (Bn QT (CM (by omega)) hx) (by omega) (by omega)
  ·by_cases hx2:∃ls ps,x=.rcd ls ps∧c.kind=115∧c.kids.length=ps.length
   ·obtain⟨ls,ps,rfl,h5,hl⟩:=hx2
    rw[okV]at hx
    have hcf:=Pk hc hcon h5
    rw[WQ (B6 k) T ρ h5 f hl]
    refine YF (B6 k) T ρ c hc h5 ls ps f hl hx.1 (by have:=hx.1;have:=hx.2.1;omega) (fun y hy=>by obtain⟨g1,g2,_⟩:=Dl (hcf y hy);exact⟨g1,by omega⟩) (fun i f' hi hf'=>?_) (fun i f' hi=>(Lw (Fo k).2 T ρ _).1 _ _)
    obtain⟨g1,g2,g3⟩:=Dl (hcf _ (AA hi))
    exact (ih _ (AA hi)).2 _ (AA (i:=0) (by omega)) g3 _ f' (by omega) (Bn QT (CM (by omega)) (Yi hx.2.2.1))
   ·have hx3:∀ls ps,x=.rcd ls ps→¬(c.kind=115∧c.kids.length=ps.length):=fun ls ps e q=>hx2 ⟨ls,ps,e,q⟩
    rw[Tl (B6 k) T ρ hv f hx3]
    exact Wg T ρ c hc hv x f hx3
theorem TS {s:Tree}(h:(No.Ac s).2=0):Full (No.Ac s).1∧AG (No.Ac s).1=true:=by
 have h1:=(No.Jq 1000 s h).2
 exact Ak (No.Gi h1).1
theorem UP {k:Nat}(hE:EVw k)(h:FOw k):FOw (k+1):=by
 intro T nm s p ρ f hT hk hr hs hp hf hfk
 have hTn:=hT.ne
 obtain⟨q1,q2,q3,q4⟩:=CY hT.1 hk
 have hb:=bd_s hf
 have hmn:=CM (a:=f) (b:=f+1) (by omega)
 have hN:=No.F2 s
 have hNc:=TS (s:=s)
 have ha:=OT (T.kids.drop 2) nm (fun x hx=>by obtain⟨t1,t2,t3,t4,t5⟩:=AK (q4 x hx);exact⟨t1,by omega⟩)
 have hlen:=hT.len
 generalize hv:B6 (k+1) T nm s p ρ f=R
 rw[B6]at hv
 generalize No.Ac s=nn at hN hNc hv
 obtain⟨n,ne⟩:=nn
 try dsimp only at hN
 try dsimp only at hNc
 try dsimp only at hv
 obtain⟨tp,yp,hyp⟩:=Dx p
 rw[hyp]
 have fin:∀(g:Ghost) {T0:Nat} {v:Vl} {e:Int} {f':Nat},True:=fun _ _ _ _ _=>trivial
 by_cases h1:ne=0
 ·subst h1
  obtain⟨hNF,hNc⟩:=hNc rfl
  rw[if_neg (by simp)]at hv
  have hnn:n≠.nil:=hNF.ne
  cases hA:armF nm (T.kids.drop 2) with
  | none =>
   rw[hA]at hv ha
   dsimp only at hv
   subst hv
   unfold MP
   refine Fun.AB tt [] [8,9] (Tryz.func85) rfl rfl rfl lb fun g=>?_
   repeat' ((first|refine Ga ?_|refine Gc fun hlen=>?_|refine Ge hN ?_|refine Ge ha ?_|refine Gh ((0:Int)≤2∧(2:Int)≤(T.kids.length:Int)) ?_|refine Gd (fun hc=>?_) fun hc=>?_)<;>conv=>whnf)
   refine RetS.ent (σ':=⟨[(8,.d .nilI),(9,.d (.int .i64 20))],78,[(0,.cells [.d (.int .i64 f)])],1,g⟩) (Ent.go [0]) ?_
   exact Aq rfl rfl rfl
  | some b =>
   rw[hA]at hv ha
   dsimp only at hv
   by_cases h2:n.kind=121
   ·rw[if_neg (by simp[h2])]at hv
    have hcf:=PV hnn hNc h2
    have ha2:=OT n.kids nm (fun x hx=>by obtain⟨g1,g2,_⟩:=Dl (hcf x hx);exact⟨g1,by omega⟩)
    cases hA2:armF nm n.kids with
    | none =>
     rw[hA2]at hv ha2
     dsimp only at hv
     subst hv
     unfold MP
     refine Fun.AB tt [] [8,9] (Tryz.func85) rfl rfl rfl lb fun g=>?_
     repeat' ((first|refine Ga ?_|refine Gc fun hlen=>?_|refine Ge hN ?_|refine Ge ha ?_|refine Ge ha2 ?_|refine Gh ((0:Int)≤2∧(2:Int)≤(T.kids.length:Int)) ?_|refine Split.AE (show (n.kind != 121)=false from by simp[h2]) ?_|refine Gd (fun hc=>?_) fun hc=>?_)<;>conv=>whnf)
     refine RetS.ent (σ':=⟨[(8,.d .nilI),(9,.d (.int .i64 20))],78,[(0,.cells [.d (.int .i64 f)])],1,g⟩) (Ent.go [0]) ?_
     exact Aq rfl rfl rfl
    | some c =>
     rw[hA2]at hv ha2
     dsimp only at hv
     obtain⟨x2,hx2,hc2⟩:=GD hA2
     have hcc:AG c=true:=by rw[hc2];exact (Dl (hcf x2 hx2)).2.2
     have hu:=(Yb h hT hk hf (by omega) hr hs c).1 hcc p f (Nat.le_refl _) hp
     have huf:=(Lw (Fo k).2 T ρ c).1 p f
     have huq:=(Uq (Fo k).2 (show FOq (B6 k) from W3 k) hT hk hf hr hs c).1 p f (Nat.le_refl _) hp
     generalize unrM (B6 k) T ρ c p f=y at hu huf huq hv
     obtain⟨yv,ye,yf⟩:=y
     try dsimp only at hu
     try dsimp only at huf
     try dsimp only at huq
     try dsimp only at hv
     rw[hyp]at hu
     by_cases h3:ye=0
     ·subst h3
      rw[if_neg (by simp)]at hv
      have huq:=huq rfl
      obtain⟨x1,hx1,hb1⟩:=GD hA
      have hbq:QT b:=by rw[hb1];exact hT.arm (List.mem_of_mem_drop hx1) (q4 x1 hx1)
      have hmy:=CM (a:=yf) (b:=yf+1) (by omega)
      have hmf:=CM (a:=yf+1) (b:=f+1) (by omega)
      have hby:=bd_s (f:=yf) (by omega)
      have he:=hE b (.val yv ρ) yf hbq (by rw[okEv];exact⟨Bn QT hmy huq,An QT (by omega) hr⟩) (by show BW ρ+1≤_;omega) (by omega) (by omega)
      have hbi:=Iw ρ yv
      obtain⟨t,y,hy⟩:=Dx yv
      unfold rsA at hu
      rw[if_pos rfl]at hu
      rw[hy]at hu hbi
      rw[hv]at he
      unfold rsA MP at *
      refine Fun.AB tt [] [8,9] (Tryz.func85) rfl rfl rfl lb fun g=>?_
      repeat' ((first|refine Ga ?_|refine Gc fun hlen=>?_|refine Ge hN ?_|refine Ge ha ?_|refine Ge ha2 ?_|refine AJ.go hu [0] ?_|refine Ge hbi ?_|refine AJ.go he [0] ?_|refine Gh ((0:Int)≤2∧(2:Int)≤(T.kids.length:Int)) ?_|refine Split.AE (show (n.kind != 121)=false from by simp[h2]) ?_|refine Gd (fun hc=>?_) fun hc=>?_)<;>conv=>whnf)
      refine RetS.ent (σ':=⟨[(8,.d (if R.e=0 then vD R.v else .nilI)),(9,.d (.int .i64 R.e))],78,[(0,.cells [.d (.int .i64 R.f)])],1,g⟩) (Ent.go [0]) ?_
      exact Aq rfl rfl rfl
     ·rw[if_pos h3]at hv
      subst hv
      unfold rsA at hu
      rw[if_neg h3]at hu
      unfold MP at *
      refine Fun.AB tt [] [8,9] (Tryz.func85) rfl rfl rfl lb fun g=>?_
      repeat' ((first|refine Ga ?_|refine Gc fun hlen=>?_|refine Ge hN ?_|refine Ge ha ?_|refine Ge ha2 ?_|refine AJ.go hu [0] ?_|refine Gh ((0:Int)≤2∧(2:Int)≤(T.kids.length:Int)) ?_|refine Split.AE (show (n.kind != 121)=false from by simp[h2]) ?_|refine Gd (fun hc=>?_) fun hc=>?_)<;>conv=>whnf)
      refine RetS.ent (σ':=⟨[(8,.d .nilI),(9,.d (.int .i64 ye))],78,[(0,.cells [.d (.int .i64 yf)])],1,g⟩) (Ent.go [0]) ?_
      refine AM rfl rfl ?_ (by repeat' first|exact trivial|apply And.intro|rfl|(refine int_eq ?_;rw[wrap64]<;>omega)) (Nat.le_refl _)
      unfold rsA bad
      rw[if_neg h3]
      rfl
   ·rw[if_pos h2]at hv
    subst hv
    unfold MP
    refine Fun.AB tt [] [8,9] (Tryz.func85) rfl rfl rfl lb fun g=>?_
    repeat' ((first|refine Ga ?_|refine Gc fun hlen=>?_|refine Ge hN ?_|refine Ge ha ?_|refine Gh ((0:Int)≤2∧(2:Int)≤(T.kids.length:Int)) ?_|refine Split.Ag (show (n.kind != 121)=true from by simp[h2]) ?_|refine Gd (fun hc=>?_) fun hc=>?_)<;>conv=>whnf)
    refine RetS.ent (σ':=⟨[(8,.d .nilI),(9,.d (.int .i64 20))],78,[(0,.cells [.d (.int .i64 f)])],1,g⟩) (Ent.go [0]) ?_
    exact Aq rfl rfl rfl
 ·rw[if_pos h1]at hv
  subst hv
  unfold MP
  refine Fun.AB tt [] [8,9] (Tryz.func85) rfl rfl rfl lb fun g=>?_
  repeat' ((first|refine Ga ?_|refine Gc fun hlen=>?_|refine Ge hN ?_|refine Gd (fun hc=>?_) fun hc=>?_)<;>conv=>whnf)
  refine RetS.ent (σ':=⟨[(8,.d .nilI),(9,.d (.int .i64 ne))],78,[(0,.cells [.d (.int .i64 f)])],1,g⟩) (Ent.go [0]) ?_
  refine AM rfl rfl ?_ (by repeat' first|exact trivial|apply And.intro|rfl|(refine int_eq ?_;rw[wrap64]<;>omega)) (Nat.le_refl _)
  unfold rsA bad
  rw[if_neg h1]
  rfl
theorem Ei {f:Nat}(f0:f≠0)(hf:f≤500000000):IntKind.i64.wrap ((f:Int) - 1)=((f - 1:Nat):Int):=by rw[wrap64]<;>omega
theorem Xf (T:Tree)(ρ:Ev):Fun P 24 [.ref 0 0,.d (.tree T),.d (eD ρ)] (MP 0) 1 (rsA (bad 18 0)) (MP 0) 1:=by
 have hp:=D7 ρ
 unfold MP
 refine Fun.AB tt [] [6,7] (Tryz.func24) rfl rfl rfl lb fun g=>?_
 repeat' ((first|refine Ga ?_|refine Gc fun hlen=>?_|refine Gd (fun hc=>?_) fun hc=>?_)<;>conv=>whnf)
 refine RetS.ent (σ':=⟨[(6,.d .nilI),(7,.d (.int .i64 18))],192,[(0,.cells [.d (.int .i64 (0:Nat))])],1,g⟩) (Ent.go [0]) ?_
 exact Aq rfl rfl rfl
theorem X9 (T:Tree)(hT:QT T)(hk:T.kind=130)(ρ:Ev)(f:Nat)(f0:f≠0)(hf:f≤500000000)(v:Vl)(hv:atE ρ T.n=some v):Fun P 24 [.ref 0 0,.d (.tree T),.d (eD ρ)] (MP f) 1 (rsA (⟨v,0,f - 1⟩:Rs)) (MP (⟨v,0,f - 1⟩:Rs).f) 1:=by
 have hTn:=hT.ne
 have hw:=Ei f0 hf
 obtain⟨b1,b2⟩:=(BR hT.1).1.n130 hk
 have ha:=ZE ρ T.n b1 b2
 rw[hv]at ha
 unfold oD at ha
 dsimp only at ha
 unfold MP
 refine Fun.AB tt [] [6,7] (Tryz.func24) rfl rfl rfl lb fun g=>?_
 repeat' ((first|refine Ga ?_|refine Gc fun hlen=>?_|refine Split.AE (show ((f:Int) == 0)=false from by simp;omega) ?_|refine Ge ha ?_|refine Gd (fun hc=>?_) fun hc=>?_)<;>conv=>whnf)
 refine RetS.ent (σ':=⟨[(6,.d (vD v)),(7,.d (.int .i64 0))],192,[(0,.cells [.d (.int .i64 (f - 1:Nat))])],1,g⟩) (Ent.re [0] rfl rfl rfl rfl rfl rfl (by repeat' first|exact trivial|apply And.intro|rfl|(refine int_eq ?_;rw[wrap64]<;>omega)) (by repeat' first|exact trivial|apply And.intro|rfl|(exact A7 hw))) ?_
 exact Aq rfl rfl rfl
theorem Xe (T:Tree)(hT:QT T)(hk:T.kind=130)(ρ:Ev)(f:Nat)(f0:f≠0)(hf:f≤500000000)(hv:atE ρ T.n=none):Fun P 24 [.ref 0 0,.d (.tree T),.d (eD ρ)] (MP f) 1 (rsA (bad 20 (f - 1))) (MP (bad 20 (f - 1)).f) 1:=by
 have hTn:=hT.ne
 have hw:=Ei f0 hf
 obtain⟨b1,b2⟩:=(BR hT.1).1.n130 hk
 have ha:=ZE ρ T.n b1 b2
 rw[hv]at ha
 unfold oD at ha
 dsimp only at ha
 unfold MP
 refine Fun.AB tt [] [6,7] (Tryz.func24) rfl rfl rfl lb fun g=>?_
 repeat' ((first|refine Ga ?_|refine Gc fun hlen=>?_|refine Split.AE (show ((f:Int) == 0)=false from by simp;omega) ?_|refine Ge ha ?_|refine Gd (fun hc=>?_) fun hc=>?_)<;>conv=>whnf)
 refine RetS.ent (σ':=⟨[(6,.d .nilI),(7,.d (.int .i64 20))],192,[(0,.cells [.d (.int .i64 (f - 1:Nat))])],1,g⟩) (Ent.re [0] rfl rfl rfl rfl rfl rfl (by repeat' first|exact trivial|apply And.intro|rfl|(refine int_eq ?_;rw[wrap64]<;>omega)) (by repeat' first|exact trivial|apply And.intro|rfl|(exact A7 hw))) ?_
 exact Aq rfl rfl rfl
theorem ZI (T:Tree)(hT:QT T)(hk:T.kind=131)(ρ:Ev)(f:Nat)(f0:f≠0)(hf:f≤500000000):Fun P 24 [.ref 0 0,.d (.tree T),.d (eD ρ)] (MP f) 1 (rsA (⟨.num T.n,0,f - 1⟩:Rs)) (MP (⟨.num T.n,0,f - 1⟩:Rs).f) 1:=by
 have hTn:=hT.ne
 have hw:=Ei f0 hf
 unfold MP
 refine Fun.AB tt [] [6,7] (Tryz.func24) rfl rfl rfl lb fun g=>?_
 repeat' ((first|refine Ga ?_|refine Gc fun hlen=>?_|refine Split.AE (show ((f:Int) == 0)=false from by simp;omega) ?_|refine Gd (fun hc=>?_) fun hc=>?_)<;>conv=>whnf)
 refine RetS.ent (σ':=⟨[(6,.d (vD (.num T.n))),(7,.d (.int .i64 0))],192,[(0,.cells [.d (.int .i64 (f - 1:Nat))])],1,g⟩) (Ent.re [0] rfl rfl rfl rfl rfl rfl ⟨⟨by rw[vD];rfl,rfl⟩,⟨rfl,rfl⟩,trivial⟩ (by repeat' first|exact trivial|apply And.intro|rfl|(exact A7 hw))) ?_
 exact Aq rfl rfl rfl
theorem YQ (T:Tree)(hT:QT T)(hk:T.kind=132)(ρ:Ev)(f:Nat)(f0:f≠0)(hf:f≤500000000):Fun P 24 [.ref 0 0,.d (.tree T),.d (eD ρ)] (MP f) 1 (rsA (⟨.tru (decide (T.n=1)),0,f - 1⟩:Rs)) (MP (⟨.tru (decide (T.n=1)),0,f - 1⟩:Rs).f) 1:=by
 have hTn:=hT.ne
 have hw:=Ei f0 hf
 unfold MP
 refine Fun.AB tt [] [6,7] (Tryz.func24) rfl rfl rfl lb fun g=>?_
 repeat' ((first|refine Ga ?_|refine Gc fun hlen=>?_|refine Split.AE (show ((f:Int) == 0)=false from by simp;omega) ?_|refine Gd (fun hc=>?_) fun hc=>?_)<;>conv=>whnf)
 refine RetS.ent (σ':=⟨[(6,.d (vD (.tru (decide (T.n=1))))),(7,.d (.int .i64 0))],192,[(0,.cells [.d (.int .i64 (f - 1:Nat))])],1,g⟩) (Ent.re [0] rfl rfl rfl rfl rfl rfl ⟨⟨by rw[vD];rfl,rfl⟩,⟨rfl,rfl⟩,trivial⟩ (by repeat' first|exact trivial|apply And.intro|rfl|(exact A7 hw))) ?_
 exact Aq rfl rfl rfl
theorem Wy (T:Tree)(hT:QT T)(hk:T.kind=133)(ρ:Ev)(f:Nat)(f0:f≠0)(hf:f≤500000000):Fun P 24 [.ref 0 0,.d (.tree T),.d (eD ρ)] (MP f) 1 (rsA (⟨.unt,0,f - 1⟩:Rs)) (MP (⟨.unt,0,f - 1⟩:Rs).f) 1:=by
 have hTn:=hT.ne
 have hw:=Ei f0 hf
 unfold MP
 refine Fun.AB tt [] [6,7] (Tryz.func24) rfl rfl rfl lb fun g=>?_
 repeat' ((first|refine Ga ?_|refine Gc fun hlen=>?_|refine Split.AE (show ((f:Int) == 0)=false from by simp;omega) ?_|refine Gd (fun hc=>?_) fun hc=>?_)<;>conv=>whnf)
 refine RetS.ent (σ':=⟨[(6,.d (vD .unt)),(7,.d (.int .i64 0))],192,[(0,.cells [.d (.int .i64 (f - 1:Nat))])],1,g⟩) (Ent.re [0] rfl rfl rfl rfl rfl rfl ⟨⟨by rw[vD];rfl,rfl⟩,⟨rfl,rfl⟩,trivial⟩ (by repeat' first|exact trivial|apply And.intro|rfl|(exact A7 hw))) ?_
 exact Aq rfl rfl rfl
theorem Zl (T:Tree)(hT:QT T)(hk:T.kind=134)(ρ:Ev)(f:Nat)(f0:f≠0)(hf:f≤500000000)(hl:T.kids.length=2):Fun P 24 [.ref 0 0,.d (.tree T),.d (eD ρ)] (MP f) 1 (rsA (⟨.clo false (T.kids.getD 1 .nil) ρ,0,f - 1⟩:Rs)) (MP (⟨.clo false (T.kids.getD 1 .nil) ρ,0,f - 1⟩:Rs).f) 1:=by
 have hTn:=hT.ne
 have hw:=Ei f0 hf
 unfold MP
 have hvd:vD (.clo false (T.kids.getD 1 .nil) ρ)=.iface 92 (.agg 3 fun i=>[Mq.Data.bool false,.tree (T.kids.getD 1 .nil),eD ρ].getD i .nils):=by rw[vD]
 have h139:(T.kind == 139)=false:=by rw[hk];rfl
 rcases D7 ρ with hp|⟨q,hp⟩
 all_goals
  rw[hp]at hvd ⊢
  refine Fun.AB tt [] [6,7] (Tryz.func24) rfl rfl rfl lb fun g=>?_
  repeat' ((first|refine Ga ?_|refine Gc fun hlen=>?_|refine Split.AE (show ((f:Int) == 0)=false from by simp;omega) ?_|refine Gh ((0:Int)≤1∧(1:Int) < (T.kids.length:Int)) ?_|refine Gd (fun hc=>?_) fun hc=>?_)<;>conv=>whnf)
  refine RetS.ent (σ':=⟨[(6,.d (vD (.clo false (T.kids.getD 1 .nil) ρ))),(7,.d (.int .i64 0))],192,[(0,.cells [.d (.int .i64 (f - 1:Nat))])],1,g⟩) (Ent.re [0] rfl rfl rfl rfl rfl rfl ⟨⟨by rw[hvd,←h139];rfl,rfl⟩,⟨rfl,rfl⟩,trivial⟩ (by repeat' first|exact trivial|apply And.intro|rfl|(exact A7 hw))) ?_
  exact Aq rfl rfl rfl
theorem XY (T:Tree)(hT:QT T)(hk:T.kind=139)(ρ:Ev)(f:Nat)(f0:f≠0)(hf:f≤500000000)(hl:T.kids.length=2):Fun P 24 [.ref 0 0,.d (.tree T),.d (eD ρ)] (MP f) 1 (rsA (⟨.clo true (T.kids.getD 1 .nil) ρ,0,f - 1⟩:Rs)) (MP (⟨.clo true (T.kids.getD 1 .nil) ρ,0,f - 1⟩:Rs).f) 1:=by
 have hTn:=hT.ne
 have hw:=Ei f0 hf
 unfold MP
 have hvd:vD (.clo true (T.kids.getD 1 .nil) ρ)=.iface 92 (.agg 3 fun i=>[Mq.Data.bool true,.tree (T.kids.getD 1 .nil),eD ρ].getD i .nils):=by rw[vD]
 have h139:(T.kind == 139)=true:=by rw[hk];rfl
 rcases D7 ρ with hp|⟨q,hp⟩
 all_goals
  rw[hp]at hvd ⊢
  refine Fun.AB tt [] [6,7] (Tryz.func24) rfl rfl rfl lb fun g=>?_
  repeat' ((first|refine Ga ?_|refine Gc fun hlen=>?_|refine Split.AE (show ((f:Int) == 0)=false from by simp;omega) ?_|refine Gh ((0:Int)≤1∧(1:Int) < (T.kids.length:Int)) ?_|refine Gd (fun hc=>?_) fun hc=>?_)<;>conv=>whnf)
  refine RetS.ent (σ':=⟨[(6,.d (vD (.clo true (T.kids.getD 1 .nil) ρ))),(7,.d (.int .i64 0))],192,[(0,.cells [.d (.int .i64 (f - 1:Nat))])],1,g⟩) (Ent.re [0] rfl rfl rfl rfl rfl rfl ⟨⟨by rw[hvd,←h139];rfl,rfl⟩,⟨rfl,rfl⟩,trivial⟩ (by repeat' first|exact trivial|apply And.intro|rfl|(exact A7 hw))) ?_
  exact Aq rfl rfl rfl
theorem Za {k:Nat}(T:Tree)(hT:QT T)(hk:T.kind=136)(ρ:Ev)(f:Nat)(f0:f≠0)(hf:f≤500000000)(R:Rs)(h1:Fun P 44 [.ref 0 0,.d (.tree T),.d (eD ρ)] (MP (f - 1)) 1 (rsA R) (MP R.f) 1):Fun P 24 [.ref 0 0,.d (.tree T),.d (eD ρ)] (MP f) 1 (rsA R) (MP R.f) 1:=by
 have hTn:=hT.ne
 have hw:=Ei f0 hf
 have hp:=D7 ρ
 unfold rsA MP at *
 refine Fun.AB tt [] [6,7] (Tryz.func24) rfl rfl rfl lb fun g=>?_
 repeat' ((first|refine Ga ?_|refine Gc fun hlen=>?_|refine Split.AE (show ((f:Int) == 0)=false from by simp;omega) ?_|refine AJ.fun h1 [0] rfl rfl rfl rfl rfl rfl (by repeat' first|exact trivial|apply And.intro|rfl|(exact A7 hw)) rfl ?_|refine Gd (fun hc=>?_) fun hc=>?_)<;>conv=>whnf)
 all_goals
  refine RetS.ent (σ':=⟨[(6,.d (if R.e=0 then vD R.v else .nilI)),(7,.d (.int .i64 R.e))],192,[(0,.cells [.d (.int .i64 R.f)])],1,g⟩) (Ent.go [0]) ?_
  exact Aq rfl rfl rfl
theorem XB {k:Nat}(T:Tree)(hT:QT T)(hk:T.kind=146∨T.kind=141)(ρ:Ev)(f:Nat)(f0:f≠0)(hf:f≤500000000)(R:Rs)(h1:Fun P 45 [.ref 0 0,.d (.tree T),.d (eD ρ)] (MP (f - 1)) 1 (rsA R) (MP R.f) 1):Fun P 24 [.ref 0 0,.d (.tree T),.d (eD ρ)] (MP f) 1 (rsA R) (MP R.f) 1:=by
 have hTn:=hT.ne
 have hw:=Ei f0 hf
 have hp:=D7 ρ
 unfold rsA MP at *
 refine Fun.AB tt [] [6,7] (Tryz.func24) rfl rfl rfl lb fun g=>?_
 repeat' ((first|refine Ga ?_|refine Gc fun hlen=>?_|refine Split.AE (show ((f:Int) == 0)=false from by simp;omega) ?_|refine AJ.fun h1 [0] rfl rfl rfl rfl rfl rfl (by repeat' first|exact trivial|apply And.intro|rfl|(exact A7 hw)) rfl ?_|refine Gd (fun hc=>?_) fun hc=>?_)<;>conv=>whnf)
 all_goals
  refine RetS.ent (σ':=⟨[(6,.d (if R.e=0 then vD R.v else .nilI)),(7,.d (.int .i64 R.e))],192,[(0,.cells [.d (.int .i64 R.f)])],1,g⟩) (Ent.go [0]) ?_
  exact Aq rfl rfl rfl
theorem aP (T:Tree)(hT:QT T)(hk:T.kind=135∨T.kind=138∨T.kind=140∨T.kind=142∨T.kind=143∨T.kind=144∨T.kind=145∨T.kind=147∨T.kind=148)(ρ:Ev)(f:Nat)(f0:f≠0)(hf:f≤500000000)(hl:0 < T.kids.length)(a:Rs)(h1:Fun P 24 [.ref 0 0,.d (.tree (T.kids.getD 0 .nil)),.d (eD ρ)] (MP (f - 1)) 1 (rsA a) (MP a.f) 1)(ha:a.e≠0):Fun P 24 [.ref 0 0,.d (.tree T),.d (eD ρ)] (MP f) 1 (rsA (bad a.e a.f)) (MP (bad a.e a.f).f) 1:=by
 have hTn:=hT.ne
 have hw:=Ei f0 hf
 have h130:(T.kind == 130)=false:=by simp;omega
 have h131:(T.kind == 131)=false:=by simp;omega
 have h132:(T.kind == 132)=false:=by simp;omega
 have h133:(T.kind == 133)=false:=by simp;omega
 have h134:(T.kind == 134)=false:=by simp;omega
 have h139:(T.kind == 139)=false:=by simp;omega
 have h136:(T.kind == 136)=false:=by simp;omega
 have h146:(T.kind == 146)=false:=by simp;omega
 have h141:(T.kind == 141)=false:=by simp;omega
 unfold rsA at *
 rw[if_neg ha]at h1
 unfold MP at *
 refine Fun.AB tt [] [6,7] (Tryz.func24) rfl rfl rfl lb fun g=>?_
 repeat' ((first|refine Ga ?_|refine Gc fun hlen=>?_|refine Split.AE (show ((f:Int) == 0)=false from by simp;omega) ?_|refine AJ.fun h1 [0] rfl rfl rfl rfl rfl rfl (by repeat' first|exact trivial|apply And.intro|rfl|(exact A7 hw)) rfl ?_|refine Gh ((0:Int)≤0∧(0:Int) < (T.kids.length:Int)) ?_|refine Split.AE h130 ?_|refine Split.AE h131 ?_|refine Split.AE h132 ?_|refine Split.AE h133 ?_|refine Split.AE h134 ?_|refine Split.AE h139 ?_|refine Split.AE h136 ?_|refine Split.AE h146 ?_|refine Split.AE h141 ?_|refine Gd (fun hc=>?_) fun hc=>?_)<;>conv=>whnf)
 refine RetS.ent (σ':=⟨[(6,.d .nilI),(7,.d (.int .i64 a.e))],192,[(0,.cells [.d (.int .i64 a.f)])],1,g⟩) (Ent.go [0]) ?_
 refine AM rfl rfl ?_ (by repeat' first|exact trivial|apply And.intro|rfl|(refine int_eq ?_;rw[wrap64]<;>omega)) (Nat.le_refl _)
 unfold bad
 dsimp only
 rw[if_neg ha]
 rfl
theorem ZP (T:Tree)(hT:QT T)(hk:T.kind=143)(ρ:Ev)(f:Nat)(f0:f≠0)(hf:f≤500000000)(hl:0 < T.kids.length)(a:Rs)(h1:Fun P 24 [.ref 0 0,.d (.tree (T.kids.getD 0 .nil)),.d (eD ρ)] (MP (f - 1)) 1 (rsA a) (MP a.f) 1)(ha:a.e=0)(hl2:T.kids.length=2)(R:Rs)(h2:Fun P 24 [.ref 0 0,.d (.tree (T.kids.getD 1 .nil)),.d (eD (.val a.v ρ))] (MP a.f) 1 (rsA R) (MP R.f) 1):Fun P 24 [.ref 0 0,.d (.tree T),.d (eD ρ)] (MP f) 1 (rsA R) (MP R.f) 1:=by
 have hTn:=hT.ne
 have hw:=Ei f0 hf
 have h130:(T.kind == 130)=false:=by simp;omega
 have h131:(T.kind == 131)=false:=by simp;omega
 have h132:(T.kind == 132)=false:=by simp;omega
 have h133:(T.kind == 133)=false:=by simp;omega
 have h134:(T.kind == 134)=false:=by simp;omega
 have h139:(T.kind == 139)=false:=by simp;omega
 have h136:(T.kind == 136)=false:=by simp;omega
 have h146:(T.kind == 146)=false:=by simp;omega
 have h141:(T.kind == 141)=false:=by simp;omega
 unfold rsA at h1
 rw[if_pos ha]at h1
 rw[ha]at h1
 obtain⟨t,y,hy⟩:=Dx a.v
 have hb:=Iw ρ a.v
 rw[hy]at h1 hb
 unfold rsA MP at *
 refine Fun.AB tt [] [6,7] (Tryz.func24) rfl rfl rfl lb fun g=>?_
 repeat' ((first|refine Ga ?_|refine Gc fun hlen=>?_|refine Split.AE (show ((f:Int) == 0)=false from by simp;omega) ?_|refine AJ.fun h1 [0] rfl rfl rfl rfl rfl rfl (by repeat' first|exact trivial|apply And.intro|rfl|(exact A7 hw)) rfl ?_|refine Gh ((0:Int)≤0∧(0:Int) < (T.kids.length:Int)) ?_|refine Split.AE h130 ?_|refine Split.AE h131 ?_|refine Split.AE h132 ?_|refine Split.AE h133 ?_|refine Split.AE h134 ?_|refine Split.AE h139 ?_|refine Split.AE h136 ?_|refine Split.AE h146 ?_|refine Split.AE h141 ?_|refine Ge hb ?_|refine AJ.go h2 [0] ?_|refine Gh ((0:Int)≤1∧(1:Int) < (T.kids.length:Int)) ?_|refine Gd (fun hc=>?_) fun hc=>?_)<;>conv=>whnf)
 refine RetS.ent (σ':=⟨[(6,.d (if R.e=0 then vD R.v else .nilI)),(7,.d (.int .i64 R.e))],192,[(0,.cells [.d (.int .i64 R.f)])],1,g⟩) (Ent.go [0]) ?_
 exact Aq rfl rfl rfl
theorem aY (T:Tree)(hT:QT T)(hk:T.kind=138∨T.kind=140∨T.kind=142∨T.kind=144∨T.kind=147∨T.kind=148)(ρ:Ev)(f:Nat)(f0:f≠0)(hf:f≤500000000)(hl:0 < T.kids.length)(a:Rs)(h1:Fun P 24 [.ref 0 0,.d (.tree (T.kids.getD 0 .nil)),.d (eD ρ)] (MP (f - 1)) 1 (rsA a) (MP a.f) 1)(ha:a.e=0)(R:Rs)(h2:Fun P 48 [.ref 0 0,.d (.tree T),.d (vD a.v),.d (eD ρ)] (MP a.f) 1 (rsA R) (MP R.f) 1):Fun P 24 [.ref 0 0,.d (.tree T),.d (eD ρ)] (MP f) 1 (rsA R) (MP R.f) 1:=by
 have hTn:=hT.ne
 have hw:=Ei f0 hf
 have h130:(T.kind == 130)=false:=by simp;omega
 have h131:(T.kind == 131)=false:=by simp;omega
 have h132:(T.kind == 132)=false:=by simp;omega
 have h133:(T.kind == 133)=false:=by simp;omega
 have h134:(T.kind == 134)=false:=by simp;omega
 have h139:(T.kind == 139)=false:=by simp;omega
 have h136:(T.kind == 136)=false:=by simp;omega
 have h146:(T.kind == 146)=false:=by simp;omega
 have h141:(T.kind == 141)=false:=by simp;omega
 have h135:(T.kind == 135)=false:=by simp;omega
 have h145:(T.kind == 145)=false:=by simp;omega
 have h143:(T.kind == 143)=false:=by simp;omega
 unfold rsA at h1
 rw[if_pos ha]at h1
 rw[ha]at h1
 obtain⟨t,y,hy⟩:=Dx a.v
 unfold rsA MP at *
 refine Fun.AB tt [] [6,7] (Tryz.func24) rfl rfl rfl lb fun g=>?_
 repeat' ((first|refine Ga ?_|refine Gc fun hlen=>?_|refine Split.AE (show ((f:Int) == 0)=false from by simp;omega) ?_|refine AJ.fun h1 [0] rfl rfl rfl rfl rfl rfl (by repeat' first|exact trivial|apply And.intro|rfl|(exact A7 hw)) rfl ?_|refine Gh ((0:Int)≤0∧(0:Int) < (T.kids.length:Int)) ?_|refine Split.AE h130 ?_|refine Split.AE h131 ?_|refine Split.AE h132 ?_|refine Split.AE h133 ?_|refine Split.AE h134 ?_|refine Split.AE h139 ?_|refine Split.AE h136 ?_|refine Split.AE h146 ?_|refine Split.AE h141 ?_|refine Split.AE h135 ?_|refine Split.AE h145 ?_|refine Split.AE h143 ?_|refine AJ.go h2 [0] ?_|refine Gd (fun hc=>?_) fun hc=>?_)<;>conv=>whnf)
 refine RetS.ent (σ':=⟨[(6,.d (if R.e=0 then vD R.v else .nilI)),(7,.d (.int .i64 R.e))],192,[(0,.cells [.d (.int .i64 R.f)])],1,g⟩) (Ent.go [0]) ?_
 exact Aq rfl rfl rfl
theorem W5 (T:Tree)(hT:QT T)(hk:T.kind=135∨T.kind=145)(ρ:Ev)(f:Nat)(f0:f≠0)(hf:f≤500000000)(hl:0 < T.kids.length)(a:Rs)(h1:Fun P 24 [.ref 0 0,.d (.tree (T.kids.getD 0 .nil)),.d (eD ρ)] (MP (f - 1)) 1 (rsA a) (MP a.f) 1)(ha:a.e=0)(hl2:T.kids.length=2)(b:Rs)(h2:Fun P 24 [.ref 0 0,.d (.tree (T.kids.getD 1 .nil)),.d (eD ρ)] (MP a.f) 1 (rsA b) (MP b.f) 1)(hb:b.e≠0):Fun P 24 [.ref 0 0,.d (.tree T),.d (eD ρ)] (MP f) 1 (rsA (bad b.e b.f)) (MP (bad b.e b.f).f) 1:=by
 have hTn:=hT.ne
 have hw:=Ei f0 hf
 have h130:(T.kind == 130)=false:=by simp;omega
 have h131:(T.kind == 131)=false:=by simp;omega
 have h132:(T.kind == 132)=false:=by simp;omega
 have h133:(T.kind == 133)=false:=by simp;omega
 have h134:(T.kind == 134)=false:=by simp;omega
 have h139:(T.kind == 139)=false:=by simp;omega
 have h136:(T.kind == 136)=false:=by simp;omega
 have h146:(T.kind == 146)=false:=by simp;omega
 have h141:(T.kind == 141)=false:=by simp;omega
 unfold rsA at h1
 rw[if_pos ha]at h1
 rw[ha]at h1
 obtain⟨t,y,hy⟩:=Dx a.v
 unfold rsA at h2 ⊢
 rw[if_neg hb]at h2
 unfold MP at *
 refine Fun.AB tt [] [6,7] (Tryz.func24) rfl rfl rfl lb fun g=>?_
 repeat' ((first|refine Ga ?_|refine Gc fun hlen=>?_|refine Split.AE (show ((f:Int) == 0)=false from by simp;omega) ?_|refine AJ.fun h1 [0] rfl rfl rfl rfl rfl rfl (by repeat' first|exact trivial|apply And.intro|rfl|(exact A7 hw)) rfl ?_|refine Gh ((0:Int)≤0∧(0:Int) < (T.kids.length:Int)) ?_|refine Split.AE h130 ?_|refine Split.AE h131 ?_|refine Split.AE h132 ?_|refine Split.AE h133 ?_|refine Split.AE h134 ?_|refine Split.AE h139 ?_|refine Split.AE h136 ?_|refine Split.AE h146 ?_|refine Split.AE h141 ?_|refine AJ.go h2 [0] ?_|refine Gh ((0:Int)≤1∧(1:Int) < (T.kids.length:Int)) ?_|refine Gd (fun hc=>?_) fun hc=>?_)<;>conv=>whnf)
 all_goals first
  | (exfalso;omega)
  | skip
 all_goals
  refine RetS.ent (σ':=⟨[(6,.d .nilI),(7,.d (.int .i64 b.e))],192,[(0,.cells [.d (.int .i64 b.f)])],1,g⟩) (Ent.go [0]) ?_
  refine AM rfl rfl ?_ (by repeat' first|exact trivial|apply And.intro|rfl|(refine int_eq ?_;rw[wrap64]<;>omega)) (Nat.le_refl _)
  unfold bad
  dsimp only
  rw[if_neg hb]
  rfl
theorem bu (T:Tree)(hT:QT T)(hk:T.kind=145)(ρ:Ev)(f:Nat)(f0:f≠0)(hf:f≤500000000)(hl:0 < T.kids.length)(a:Rs)(h1:Fun P 24 [.ref 0 0,.d (.tree (T.kids.getD 0 .nil)),.d (eD ρ)] (MP (f - 1)) 1 (rsA a) (MP a.f) 1)(ha:a.e=0)(hl2:T.kids.length=2)(b:Rs)(h2:Fun P 24 [.ref 0 0,.d (.tree (T.kids.getD 1 .nil)),.d (eD ρ)] (MP a.f) 1 (rsA b) (MP b.f) 1)(hb:b.e=0):Fun P 24 [.ref 0 0,.d (.tree T),.d (eD ρ)] (MP f) 1 (rsA (opM T.n a.v b.v b.f)) (MP (opM T.n a.v b.v b.f).f) 1:=by
 have hTn:=hT.ne
 have hw:=Ei f0 hf
 have h130:(T.kind == 130)=false:=by simp;omega
 have h131:(T.kind == 131)=false:=by simp;omega
 have h132:(T.kind == 132)=false:=by simp;omega
 have h133:(T.kind == 133)=false:=by simp;omega
 have h134:(T.kind == 134)=false:=by simp;omega
 have h139:(T.kind == 139)=false:=by simp;omega
 have h136:(T.kind == 136)=false:=by simp;omega
 have h146:(T.kind == 146)=false:=by simp;omega
 have h141:(T.kind == 141)=false:=by simp;omega
 have h135:(T.kind == 135)=false:=by simp;omega
 unfold rsA at h1
 rw[if_pos ha]at h1
 rw[ha]at h1
 obtain⟨t,y,hy⟩:=Dx a.v
 have ho:=ZX T.n a.v b.v b.f
 have hof:=ZD T.n a.v b.v b.f
 generalize opM T.n a.v b.v b.f=R at ho hof
 unfold rsA at h2 ⊢ ho
 rw[if_pos hb]at h2
 rw[hb]at h2
 unfold MP at *
 refine Fun.AB tt [] [6,7] (Tryz.func24) rfl rfl rfl lb fun g=>?_
 repeat' ((first|refine Ga ?_|refine Gc fun hlen=>?_|refine Split.AE (show ((f:Int) == 0)=false from by simp;omega) ?_|refine AJ.fun h1 [0] rfl rfl rfl rfl rfl rfl (by repeat' first|exact trivial|apply And.intro|rfl|(exact A7 hw)) rfl ?_|refine Gh ((0:Int)≤0∧(0:Int) < (T.kids.length:Int)) ?_|refine Split.AE h130 ?_|refine Split.AE h131 ?_|refine Split.AE h132 ?_|refine Split.AE h133 ?_|refine Split.AE h134 ?_|refine Split.AE h139 ?_|refine Split.AE h136 ?_|refine Split.AE h146 ?_|refine Split.AE h141 ?_|refine Split.AE h135 ?_|refine AJ.go h2 [0] ?_|refine Ge ho ?_|refine Gh ((0:Int)≤1∧(1:Int) < (T.kids.length:Int)) ?_|refine Gd (fun hc=>?_) fun hc=>?_)<;>conv=>whnf)
 refine RetS.ent (σ':=⟨[(6,.d (if R.e=0 then vD R.v else .nilI)),(7,.d (.int .i64 R.e))],192,[(0,.cells [.d (.int .i64 R.f)])],1,g⟩) (Ent.re [0] rfl rfl rfl rfl rfl rfl (by repeat' first|exact trivial|apply And.intro|rfl|(refine int_eq ?_;rw[wrap64]<;>omega)) ⟨⟨rfl,by rw[hof];rfl,rfl⟩,trivial⟩) ?_
 exact Aq rfl rfl rfl
theorem Z7 (T:Tree)(hT:QT T)(hk:T.kind=135)(ρ:Ev)(f:Nat)(f0:f≠0)(hf:f≤500000000)(hl:0 < T.kids.length)(a:Rs)(h1:Fun P 24 [.ref 0 0,.d (.tree (T.kids.getD 0 .nil)),.d (eD ρ)] (MP (f - 1)) 1 (rsA a) (MP a.f) 1)(ha:a.e=0)(hl2:T.kids.length=2)(b:Rs)(h2:Fun P 24 [.ref 0 0,.d (.tree (T.kids.getD 1 .nil)),.d (eD ρ)] (MP a.f) 1 (rsA b) (MP b.f) 1)(hb:b.e=0)(body:Tree)(e:Ev)(hav:a.v=.clo false body e)(R:Rs)(h3:Fun P 24 [.ref 0 0,.d (.tree body),.d (eD (.val b.v e))] (MP b.f) 1 (rsA R) (MP R.f) 1):Fun P 24 [.ref 0 0,.d (.tree T),.d (eD ρ)] (MP f) 1 (rsA R) (MP R.f) 1:=by
 have hTn:=hT.ne
 have hw:=Ei f0 hf
 have h130:(T.kind == 130)=false:=by simp;omega
 have h131:(T.kind == 131)=false:=by simp;omega
 have h132:(T.kind == 132)=false:=by simp;omega
 have h133:(T.kind == 133)=false:=by simp;omega
 have h134:(T.kind == 134)=false:=by simp;omega
 have h139:(T.kind == 139)=false:=by simp;omega
 have h136:(T.kind == 136)=false:=by simp;omega
 have h146:(T.kind == 146)=false:=by simp;omega
 have h141:(T.kind == 141)=false:=by simp;omega
 unfold rsA at h1 h2
 rw[if_pos ha]at h1
 rw[ha,hav,vD]at h1
 rw[if_pos hb]at h2
 rw[hb]at h2
 obtain⟨t,y,hy⟩:=Dx b.v
 have hbi:=Iw e b.v
 rw[hy]at h2 hbi
 unfold rsA MP at *
 rcases D7 e with hpe|⟨qe,hpe⟩
 all_goals
  rw[hpe]at h1 hbi
  refine Fun.AB tt [] [6,7] (Tryz.func24) rfl rfl rfl lb fun g=>?_
  repeat' ((first|refine Ga ?_|refine Gc fun hlen=>?_|refine Split.AE (show ((f:Int) == 0)=false from by simp;omega) ?_|refine AJ.fun h1 [0] rfl rfl rfl rfl rfl rfl (by repeat' first|exact trivial|apply And.intro|rfl|(exact A7 hw)) rfl ?_|refine Gh ((0:Int)≤0∧(0:Int) < (T.kids.length:Int)) ?_|refine Split.AE h130 ?_|refine Split.AE h131 ?_|refine Split.AE h132 ?_|refine Split.AE h133 ?_|refine Split.AE h134 ?_|refine Split.AE h139 ?_|refine Split.AE h136 ?_|refine Split.AE h146 ?_|refine Split.AE h141 ?_|refine AJ.go h2 [0] ?_|refine Ge hbi ?_|refine AJ.go h3 [0] ?_|refine Gh ((0:Int)≤1∧(1:Int) < (T.kids.length:Int)) ?_|refine Gd (fun hc=>?_) fun hc=>?_)<;>conv=>whnf)
  refine RetS.ent (σ':=⟨[(6,.d (if R.e=0 then vD R.v else .nilI)),(7,.d (.int .i64 R.e))],192,[(0,.cells [.d (.int .i64 R.f)])],1,g⟩) (Ent.go [0]) ?_
  exact Aq rfl rfl rfl
theorem Wh (T:Tree)(hT:QT T)(hk:T.kind=135)(ρ:Ev)(f:Nat)(f0:f≠0)(hf:f≤500000000)(hl:0 < T.kids.length)(a:Rs)(h1:Fun P 24 [.ref 0 0,.d (.tree (T.kids.getD 0 .nil)),.d (eD ρ)] (MP (f - 1)) 1 (rsA a) (MP a.f) 1)(ha:a.e=0)(hl2:T.kids.length=2)(b:Rs)(h2:Fun P 24 [.ref 0 0,.d (.tree (T.kids.getD 1 .nil)),.d (eD ρ)] (MP a.f) 1 (rsA b) (MP b.f) 1)(hb:b.e=0)(hav:∀body e,a.v≠.clo false body e):Fun P 24 [.ref 0 0,.d (.tree T),.d (eD ρ)] (MP f) 1 (rsA (bad 20 b.f)) (MP (bad 20 b.f).f) 1:=by
 have hTn:=hT.ne
 have hw:=Ei f0 hf
 have h130:(T.kind == 130)=false:=by simp;omega
 have h131:(T.kind == 131)=false:=by simp;omega
 have h132:(T.kind == 132)=false:=by simp;omega
 have h133:(T.kind == 133)=false:=by simp;omega
 have h134:(T.kind == 134)=false:=by simp;omega
 have h139:(T.kind == 139)=false:=by simp;omega
 have h136:(T.kind == 136)=false:=by simp;omega
 have h146:(T.kind == 146)=false:=by simp;omega
 have h141:(T.kind == 141)=false:=by simp;omega
 unfold rsA at h1 h2
 rw[if_pos ha]at h1
 rw[ha]at h1
 rw[if_pos hb]at h2
 rw[hb]at h2
 generalize a.v=av at h1 hav
 obtain⟨t,y,hy⟩:=Dx b.v
 rw[hy]at h2
 unfold MP at *
 rcases av with n|bb|_|⟨ls,ps⟩|⟨nm,s,p⟩|⟨ty,b',e'⟩|⟨c,p⟩
 case clo =>
  cases ty with
  | false=>exact absurd rfl (hav _ _)
  | true =>
   rw[vD]at h1
   rcases D7 e' with hpe|⟨qe,hpe⟩
   all_goals
    rw[hpe]at h1
    refine Fun.AB tt [] [6,7] (Tryz.func24) rfl rfl rfl lb fun g=>?_
    repeat' ((first|refine Ga ?_|refine Gc fun hlen=>?_|refine Split.AE (show ((f:Int) == 0)=false from by simp;omega) ?_|refine AJ.fun h1 [0] rfl rfl rfl rfl rfl rfl (by repeat' first|exact trivial|apply And.intro|rfl|(exact A7 hw)) rfl ?_|refine Gh ((0:Int)≤0∧(0:Int) < (T.kids.length:Int)) ?_|refine Split.AE h130 ?_|refine Split.AE h131 ?_|refine Split.AE h132 ?_|refine Split.AE h133 ?_|refine Split.AE h134 ?_|refine Split.AE h139 ?_|refine Split.AE h136 ?_|refine Split.AE h146 ?_|refine Split.AE h141 ?_|refine AJ.go h2 [0] ?_|refine Gh ((0:Int)≤1∧(1:Int) < (T.kids.length:Int)) ?_|refine Gd (fun hc=>?_) fun hc=>?_)<;>conv=>whnf)
    refine RetS.ent (σ':=⟨[(6,.d .nilI),(7,.d (.int .i64 20))],192,[(0,.cells [.d (.int .i64 b.f)])],1,g⟩) (Ent.go [0]) ?_
    exact Aq rfl rfl rfl
 all_goals
  rw[vD]at h1
  refine Fun.AB tt [] [6,7] (Tryz.func24) rfl rfl rfl lb fun g=>?_
  repeat' ((first|refine Ga ?_|refine Gc fun hlen=>?_|refine Split.AE (show ((f:Int) == 0)=false from by simp;omega) ?_|refine AJ.fun h1 [0] rfl rfl rfl rfl rfl rfl (by repeat' first|exact trivial|apply And.intro|rfl|(exact A7 hw)) rfl ?_|refine Gh ((0:Int)≤0∧(0:Int) < (T.kids.length:Int)) ?_|refine Split.AE h130 ?_|refine Split.AE h131 ?_|refine Split.AE h132 ?_|refine Split.AE h133 ?_|refine Split.AE h134 ?_|refine Split.AE h139 ?_|refine Split.AE h136 ?_|refine Split.AE h146 ?_|refine Split.AE h141 ?_|refine AJ.go h2 [0] ?_|refine Gh ((0:Int)≤1∧(1:Int) < (T.kids.length:Int)) ?_|refine Gd (fun hc=>?_) fun hc=>?_)<;>conv=>whnf)
  refine RetS.ent (σ':=⟨[(6,.d .nilI),(7,.d (.int .i64 20))],192,[(0,.cells [.d (.int .i64 b.f)])],1,g⟩) (Ent.go [0]) ?_
  exact Aq rfl rfl rfl
theorem Vg {f n:Nat}(h:n≤bd f):n≤1073741824:=by unfold bd at h;omega
theorem YK {k:Nat}(hE:EVw k)(hF:FOw k){T:Tree}(hT:QT T){x:Vl}{ρ:Ev}{f:Nat}(hf:f≤500000000)(hfk:2*f+2≤k)(hr:okEv QT (bd (f+1)) ρ)(hs:BW ρ≤bd (f+1))(hx:okV QT (bd (f+1)) x) :
  Fun P 48 [.ref 0 0,.d (.tree T),.d (vD x),.d (eD ρ)] (MP f) 1 (rsA (useM (BZ k) (B6 k) T x ρ f)) (MP (useM (BZ k) (B6 k) T x ρ f).f) 1:=by
 have hb:=bd_s hf
 have hmn:=CM (a:=f) (b:=f+1) (by omega)
 have hTn:=hT.ne
 have hEr:=An QT hmn hr
 cases x with
 | num n=>exact Ye _ _ T hTn ρ f n
 | unt=>exact Xx _ _ T hTn ρ f
 | rcd ls ps=>rw[okV]at hx;exact Xk _ _ T hTn ρ f ls ps hx.1 hx.2.1
 | tru b =>
  refine XN _ _ T hTn ρ f b (fun hk=>(C0 hT.1 hk).1) fun i hi hk=>?_
  obtain⟨q1,q2,q3,q4⟩:=C0 hT.1 hk
  refine hE _ ρ f (hT.kid hi ?_) hEr (by omega) hf (by omega)
  match i,hi with
  | 0,_=>exact q2
  | 1,_=>exact q3
  | 2,_=>exact q4
  | i+3,hi=>omega
 | pkd c p =>
  rw[okV]at hx
  refine W8 _ _ T hTn ρ f c p (fun hk=>by have:=(A8 hT.1 (.inr (.inl hk))).1;omega) fun hk=>?_
  obtain⟨q1,q2,q3⟩:=A8 hT.1 (.inr (.inl hk))
  exact hE _ _ f (hT.kid (by omega) q3) (by rw[okEv,okEv];exact⟨Bn QT hmn hx.2,hx.1,hEr⟩) (by show BW ρ+1+1≤_;omega) hf (by omega)
 | clo ty b e =>
  rw[okV]at hx
  refine XC _ _ T hTn ρ f ty b e (fun hk=>by have:=(Da hT.1 hk).1;omega) (N7 QT hr) (Vg hs) fun hk ht hcl=>?_
  have hcf:Full (AN (AL ρ) (T.kids.getD 1 .nil)).1:=FX (HH _ (.inl (.inl (Da hT.1 hk).2.2))) hcl
  exact hE b _ f hx.1 (by rw[okEv];exact⟨hcf.ne,An QT hmn hx.2.1⟩) (by show BW e+1≤_;have:=hx.2.2;omega) hf (by omega)
 | tag nm s p =>
  rw[okV]at hx
  have hx:=hx.2
  refine XJ _ _ T hTn ρ f nm s p (fun hk=>by have:=(Cg hT.1 hk).1;omega) (fun hk x hx=>by obtain⟨t1,t2,t3,t4,t5⟩:=AK ((Cg hT.1 hk).2.2 x hx);exact⟨t1,by omega⟩) (fun b hk hA=>?_) (fun hk=>?_)
  ·obtain⟨q1,q2,q3⟩:=Cg hT.1 hk
   obtain⟨y,hy1,hy2⟩:=GD hA
   refine hE b _ f (by rw[hy2];exact hT.arm (List.mem_of_mem_drop hy1) (q3 y hy1)) (by rw[okEv];exact⟨Bn QT hmn hx,hEr⟩) (by show BW ρ+1≤_;omega) hf (by omega)
  ·exact hF T nm s p ρ f hT hk hr hs hx hf hfk
theorem Vo {k:Nat}(hE:EVw k)(hF:FOw k):EVw (k+1):=by
 intro T ρ f hT hr hs hf hfk
 have hTn:=hT.ne
 by_cases f0:f=0
 ·subst f0
  rw[show BZ (k+1) T ρ 0=bad 18 0 from by rw[BZ,if_pos rfl]]
  exact Xf T ρ
 have e1:f - 1+1=f:=by omega
 have hmn:=CM (a:=f - 1) (b:=f) (by omega)
 have hb:=bd_s (f:=f - 1) (by omega)
 rw[e1]at hb
 have hEr:=An QT hmn hr
 generalize hv:BZ (k+1) T ρ f=R
 rw[BZ,if_neg f0]at hv
 by_cases c1:T.kind=130
 ·rw[if_pos c1]at hv
  cases ha:atE ρ T.n with
  | none=>rw[ha]at hv;dsimp only at hv;rw[←hv];exact Xe T hT c1 ρ f f0 hf ha
  | some v=>rw[ha]at hv;dsimp only at hv;rw[←hv];exact X9 T hT c1 ρ f f0 hf v ha
 rw[if_neg c1]at hv
 by_cases c2:T.kind=131
 ·rw[if_pos c2]at hv;rw[←hv];exact ZI T hT c2 ρ f f0 hf
 rw[if_neg c2]at hv
 by_cases c3:T.kind=132
 ·rw[if_pos c3]at hv;rw[←hv];exact YQ T hT c3 ρ f f0 hf
 rw[if_neg c3]at hv
 by_cases c4:T.kind=133
 ·rw[if_pos c4]at hv;rw[←hv];exact Wy T hT c4 ρ f f0 hf
 rw[if_neg c4]at hv
 by_cases c5:T.kind=134∨T.kind=139
 ·rw[if_pos c5]at hv
  rw[←hv]
  rcases c5 with c5|c5
  ·rw[show decide (T.kind=139)=false from by simp;omega]
   exact Zl T hT c5 ρ f f0 hf (Bs hT.1 (.inl c5)).1
  ·rw[show decide (T.kind=139)=true from by simp[c5]]
   exact XY T hT c5 ρ f f0 hf (Er hT.1 c5).1
 rw[if_neg c5]at hv
 by_cases c6:T.kind=136
 ·rw[if_pos c6]at hv
  have hfl:=(Fq hT.1 c6).1
  have hlen:=hT.len
  have h1:=XO (BZ k) T hTn (by omega) (fun x hx=>by obtain⟨t1,t2,t3,t4,t5⟩:=AK (hfl x hx);exact⟨t1,by omega⟩) ρ (f - 1) (Fo k).1
   (fun x hx f' hf'=>hE _ ρ f' (hT.arm hx (hfl x hx)) (An QT (CM (by omega)) hr) (Nat.le_trans hs (CM (by omega))) (by omega) (by omega))
  rw[hv]at h1
  exact Za (k:=k) T hT c6 ρ f f0 hf R h1
 rw[if_neg c6]at hv
 by_cases c7:T.kind=146∨T.kind=141
 ·rw[if_pos c7]at hv
  have hq:QT (T.kids.getD 1 .nil)∧(T.kids.length=2∨T.kids.length=3):=by
   rcases c7 with c7|c7
   ·obtain⟨q1,q2,q3⟩:=Bs hT.1 (.inr c7);exact⟨hT.kid (by omega) q3,.inl q1⟩
   ·obtain⟨q1,q2,q3,q4⟩:=DW hT.1 c7;exact⟨hT.kid (by omega) q3,.inr q1⟩
  have h1:=WH (BZ k) T hTn hq.2 c7 ρ (f - 1) (N7 QT hr) (Vg hs) (hE _ ρ (f - 1) hq.1 hEr (by omega) (by omega) (by omega))
  rw[hv]at h1
  exact XB (k:=k) T hT c7 ρ f f0 hf R h1
 rw[if_neg c7]at hv
 dsimp only at hv
 obtain⟨hk0,hl0,hkk⟩:=Lg hT c1 c2 c3 c4 c5 c6 c7
 have h1:=hE _ ρ (f - 1) hk0 hEr (by omega) (by omega) (by omega)
 have hav:=OX k _ ρ (f - 1) hk0 hEr (by omega) (by omega)
 have haf:=(Fo k).1 (T.kids.getD 0 .nil) ρ (f - 1)
 generalize BZ k (T.kids.getD 0 .nil) ρ (f - 1)=a at h1 hv hav haf
 by_cases ha:a.e=0
 ·rw[if_neg (by simp[ha])]at hv
  have hav:=hav ha
  have hma:=CM (a:=a.f) (b:=a.f+1) (by omega)
  have hmf:=CM (a:=a.f+1) (b:=f) (by omega)
  have hba:=bd_s (f:=a.f) (by omega)
  by_cases c8:T.kind=135∨T.kind=145
  ·rw[if_pos c8]at hv
   obtain⟨q1,q2,q3⟩:=A8 hT.1 (by omega)
   have hk1:QT (T.kids.getD 1 .nil):=hT.kid (by omega) q3
   have h2:=hE _ ρ a.f hk1 (An QT (by omega) hr) (by omega) (by omega) (by omega)
   have hbv:=OX k _ ρ a.f hk1 (An QT (by omega) hr) (by omega) (by omega)
   have hbf:=(Fo k).1 (T.kids.getD 1 .nil) ρ a.f
   generalize BZ k (T.kids.getD 1 .nil) ρ a.f=b at h2 hv hbv hbf
   by_cases hb0:b.e=0
   ·rw[if_neg (by simp[hb0])]at hv
    have hbv:=hbv hb0
    by_cases c9:T.kind=145
    ·rw[if_pos c9]at hv
     rw[←hv]
     exact bu T hT c9 ρ f f0 hf hl0 a h1 ha q1 b h2 hb0
    ·rw[if_neg c9]at hv
     by_cases hc:∃body e,a.v=.clo false body e
     ·obtain⟨body,e,hae⟩:=hc
      rw[hae]at hv hav
      dsimp only at hv
      rw[okV]at hav
      have hmb:=CM (a:=b.f) (b:=b.f+1) (by omega)
      have hmb2:=CM (a:=b.f+1) (b:=a.f+1) (by omega)
      have hbb:=bd_s (f:=b.f) (by omega)
      have h3:=hE body (.val b.v e) b.f hav.1 (by rw[okEv];exact⟨Bn QT hmb hbv,An QT (by omega) hav.2.1⟩) (by show BW e+1≤_;have:=hav.2.2;omega) (by omega) (by omega)
      rw[hv]at h3
      exact Z7 T hT (by omega) ρ f f0 hf hl0 a h1 ha q1 b h2 hb0 body e hae R h3
     ·have hnc:∀body e,a.v≠.clo false body e:=fun body e q=>hc ⟨body,e,q⟩
      have hvb:R=bad 20 b.f:=by
       rw[←hv]
       cases hav2:a.v with
       | clo ty body e =>
        cases ty with
        | false=>exact absurd hav2 (hnc _ _)
        | true=>rfl
       | _=>rfl
      rw[hvb]
      exact Wh T hT (by omega) ρ f f0 hf hl0 a h1 ha q1 b h2 hb0 hnc
   ·rw[if_pos hb0]at hv
    rw[←hv]
    exact W5 T hT c8 ρ f f0 hf hl0 a h1 ha q1 b h2 hb0
  rw[if_neg c8]at hv
  by_cases c10:T.kind=143
  ·rw[if_pos c10]at hv
   obtain⟨q1,q2,q3⟩:=A8 hT.1 (by omega)
   have h2:=hE _ (.val a.v ρ) a.f (hT.kid (by omega) q3) (by rw[okEv];exact⟨Bn QT hma hav,An QT (by omega) hr⟩) (by show BW ρ+1≤_;omega) (by omega) (by omega)
   rw[hv]at h2
   exact ZP T hT c10 ρ f f0 hf hl0 a h1 ha q1 R h2
  rw[if_neg c10]at hv
  have h2:=YK hE hF hT (f:=a.f) (by omega) (by omega) (An QT (by omega) hr) (by omega) hav
  rw[hv]at h2
  exact aY T hT (by omega) ρ f f0 hf hl0 a h1 ha R h2
 ·rw[if_pos ha]at hv
  rw[←hv]
  exact aP T hT hkk ρ f f0 hf hl0 a h1 ha
theorem WY:∀k:Nat,EVw k∧FOw k
 | 0=>⟨fun T ρ f _ _ _ _ h=>by omega,fun T nm s p ρ f _ _ _ _ _ _ h=>by omega⟩
 | k+1=>by
  obtain⟨h1,h2⟩:=WY k
  exact⟨Vo h1 h2,UP h1 h2⟩
end Mc
end Go.Proofs.YtlgajkoplklkiaaGreat
namespace Go.Proofs.YtlgajkoplklkiaaGreat
namespace Mc
open Go Go.Mq
def mvS (a nx:Nat):Nat→Nat:=fun i=>bif Nat.beq i nx then a else i
def TmMv (tm:List (Nat×AVal))(s:Nat→Nat):List (Nat×AVal)→Prop
 | []=>True
 | (t,v)::r=>Mq.look tm t=v.ren s∧TmMv tm s r
theorem TmMv.get {tm:List (Nat×AVal)}{s:Nat→Nat}:∀{l:List (Nat×AVal)},TmMv tm s l→∀t,Mq.look l t=.any∨Mq.look tm t=(Mq.look l t).ren s
 | [],_,t=>.inl rfl
 | (j,v)::r,h,t=>by
  simp only[Mq.look]
  cases hb:Nat.beq j t with
  | true =>
   have:=Nat.eq_of_beq_eq_true hb
   subst this
   exact .inr h.1
  | false=>exact TmMv.get h.2 t
def StMv (st:List (Nat×AObj))(s:Nat→Nat)(a k:Nat):List (Nat×AObj)→Prop
 | []=>True
 | (i,o)::r=>(Nat.blt i k=true∧Nat.beq i a=false∧sget st (s i)=some (o.ren s))∧StMv st s a k r
theorem StMv.get {st:List (Nat×AObj)}{s:Nat→Nat}{a k:Nat}:∀{l:List (Nat×AObj)},StMv st s a k l→∀{i:Nat} {o:AObj},sget l i=some o→i < k∧i≠a∧sget st (s i)=some (o.ren s)
 | [],_,i,o,h=>by simp[sget]at h
 | (j,x)::r,h,i,o,e=>by
  simp only[sget]at e
  cases hb:Nat.beq j i with
  | true =>
   rw[hb,cond_true]at e
   cases e
   have:=Nat.eq_of_beq_eq_true hb
   subst this
   obtain⟨h1,h2,h3⟩:=h.1
   exact⟨Nat.le_of_ble_eq_true h1,fun e=>by rw[e]at h2;simp at h2,h3⟩
  | false=>rw[hb,cond_false]at e;exact StMv.get h.2 e
theorem YP (a nx:Nat):mvS a nx nx=a:=by unfold mvS;simp
theorem On {a nx i:Nat}(h:i≠nx):mvS a nx i=i:=by
 unfold mvS
 cases hb:Nat.beq i nx with
 | true=>exact absurd (Nat.eq_of_beq_eq_true hb) h
 | false=>rfl
theorem Ent.mv {nb:Nat}{σ σ':AO}(a:Nat)(hn:σ'.n=σ.n)(ha:Nat.blt a σ.nx=true)(hx:σ'.nx=σ.nx+1)(hg:σ'.g=σ.g)(htm:TmMv σ.tm (mvS a σ.nx) σ'.tm)(hst:StMv σ.st (mvS a σ.nx) a (σ.nx+1) σ'.st):Ent nb σ σ':=by
 have ha:a < σ.nx:=Nat.le_of_ble_eq_true ha
 have hD:∀i,mvS a σ.nx i < σ.nx→i < σ.nx+1:=fun i h=>by
  by_cases e:i=σ.nx
  ·omega
  ·rw[On e]at h;omega
 refine⟨hn,fun E I ρ act w hE hr=>⟨I,fun i=>ρ (mvS a σ.nx i),Imm.le_refl I,?_,hr.defs,by rw[hr.size];exact hn.symm,fun t=>?_,fun id hid=>?_,fun id hid=>?_⟩⟩
 ·obtain⟨own,h⟩:=hr.rel
  have h:RelO E I ρ (fun i=>i < σ.nx) (sget σ.st) σ.g w own:=h
  show Rel E I _ (fun i=>i < σ'.nx) (sget σ'.st) σ'.g w
  rw[hx,hg]
  let ownN:Nat→Own:=fun b=>match own b with
   | .obj i=>if i=a then .obj σ.nx else .obj i
   | o=>o
  have hown:∀b i,own b=.obj i→ownN b=if i=a then .obj σ.nx else .obj i:=fun b i e=>by show (match own b with | .obj i=>_|o=>o)=_;rw[e]
  have hoth:∀b,(∀i,own b≠.obj i)→ownN b=own b:=fun b e=>by
   show (match own b with | .obj i=>_|o=>o)=_
   cases ho:own b with
   | obj i=>exact absurd ho (e i)
   | _=>rfl
  refine⟨ownN,⟨h.env,fun b hb=>?_,fun b c hc=>?_,fun i o e=>(hst.get e).1,fun i o e=>?_,fun i o e hni=>?_,?_⟩⟩
  ·refine h.lt b fun e=>hb ?_
   rw[hoth b (fun i q=>by rw[e]at q;cases q)];exact e
  ·obtain⟨q1,q2⟩:=h.imm b c hc
   exact⟨by rw[hoth b (fun i q=>by rw[q1]at q;cases q)];exact q1,q2⟩
  ·obtain⟨q1,q2,q3⟩:=hst.get e
   have:=(h.obj _ _ q3).Ca
   refine ORel.mono (Imm.le_refl I) (fun id hid=>hD id hid) (fun _ _=>rfl) ?_ (fun _=>rfl) this
   show mvS a σ.nx i < σ.nx
   exact h.key _ _ q3
  ·obtain⟨q1,q2,q3⟩:=hst.get e
   have:=h.ownd _ _ q3 hni
   show ownN (ρ (mvS a σ.nx i)).blk=_
   rw[hown _ _ this]
   by_cases e1:i=σ.nx
   ·rw[e1,YP,if_pos rfl]
   ·rw[On e1,if_neg q2]
  ·have:Ao ownN w=Ao own w:=by
    funext b
    unfold Ao
    cases ho:own b with
    | obj i=>rw[hown b i ho];split<;>(split at*<;> first|rfl|(rename_i q;cases q)|skip)
    | _=>rw[hoth b (fun i q=>by rw[ho]at q;cases q),ho]
   rw[this];exact h.gst
 ·show CA I _ (fun i=>i < σ'.nx) (Mq.look σ'.tm t) _
  rw[hx]
  rcases htm.get t with h1|h1
  ·rw[h1];exact .any
  ·have h3:CA I ρ (fun i=>i < σ.nx) (Mq.look σ.tm t) _:=hr.slot t
   rw[h1]at h3
   exact (CA.Ca h3).mono (Imm.le_refl I) (fun id hid=>hD id hid) (fun _ _=>rfl)
 ·show id < σ'.nx
  have:=hr.dom id hid
  have:id < σ.nx:=this
  omega
 ·have h1:id < σ.nx:=hr.dom id hid
  show ρ (mvS a σ.nx id)=_
  rw[On (by omega)]
  exact hr.bas id hid
def WC (r:Nat)(u:Bool)(s:ByteArray)(e:Int):AObj:=.cellsT (some 69) [bif u then .ref 0 0 else .d (.tree .nil),.row r s.size,.d (.int .i64 e)]
def WB (s:ByteArray):AObj:=.row 5 (.ints .u8 (Aw s))
def WOi (r:Nat)(u:Bool)(s:ByteArray)(e:Int):List (Nat×AObj):=[(0,WC r u s e),(r,WB s)]
def WO (u:Bool)(s:ByteArray)(e:Int):List (Nat×AObj):=WOi 1 u s e
theorem Kc:∃j,P.info? 67=some j∧j.size=2:=⟨(P.info? 67).getD default,by kernel_rfl,by kernel_rfl⟩
theorem ptrB:PtrTo P 64:=⟨67,(P.info? 67).getD default,by kernel_rfl,by kernel_rfl⟩
theorem ar:Dr P 64 168 69 0 3:=by
 obtain⟨j,h1,h2⟩:=Kc
 exact Dr.to (t:=67) (by kernel_rfl) (by kernel_rfl) h1 (by omega) (by omega)
theorem au:Dr P 168 64 69 0 3:=by
 obtain⟨j,h1,h2⟩:=Kc
 exact Dr.from (u:=67) (by kernel_rfl) (by kernel_rfl) h1 (by kernel_rfl)
theorem aj:ExtSame P 153:=⟨_,Extern.AbiNoEscape.same,Tryz.func153,by kernel_rfl,by kernel_rfl,by kernel_rfl,by kernel_rfl,fun x w=>Lib.run_noEscape (w:=w) x⟩
theorem appS:AppStr P 65 9 5:=⟨by kernel_rfl,by kernel_rfl,(P.info? 5).getD default,by kernel_rfl,by kernel_rfl,by kernel_rfl,by kernel_rfl⟩
theorem uStr:UStr P 97 5:=⟨by kernel_rfl,by kernel_rfl⟩
theorem bS (s:ByteArray)(e:Int):Fun P 139 [.ref 0 0] (WO false s e) 2 (.tuple []) (WO true s e) 2:=by
 unfold WO WOi WC WB
 refine Fun.AB tt [] [] (Tryz.func139) rfl rfl rfl lb fun g=>?_
 repeat' ((first|refine Ga ?_|refine Gc fun hlen=>?_|refine AJ.ext aj ?_|refine Side.mk ar ?_|refine Side.mk au ?_|refine Gd (fun hc=>?_) fun hc=>?_)<;>conv=>whnf)
 exact Aq rfl rfl rfl
theorem af (s:ByteArray)(e:Int):Fun P 139 [.ref 0 0] (WO true s e) 2 (.tuple []) (WO true s e) 2:=by
 unfold WO WOi WC WB
 refine Fun.AB tt [] [] (Tryz.func139) rfl rfl rfl lb fun g=>?_
 repeat' ((first|refine Ga ?_|refine Gc fun hlen=>?_|refine Side.mk ptrB ?_|refine Gd (fun hc=>?_) fun hc=>?_)<;>conv=>whnf)
 exact Aq rfl rfl rfl
theorem X4 (u:Bool)(s:ByteArray)(e:Int):Fun P 139 [.ref 0 0] (WO u s e) 2 (.tuple []) (WO true s e) 2:=by
 cases u
 ·exact bS s e
 ·exact af s e
theorem Ss (u:Bool)(s x:ByteArray)(e:Int)(hl:s.size+x.size≤maxN):Fun P 107 [.ref 0 0,.d (.str x)] (WO u s e) 2 (.tuple [.d (.int .i64 x.size),.d .nilI]) (WOi 2 true (s++x) e) 3:=by
 have hc:=X4 u s e
 have hs:(s++x).size=s.size+x.size:=ByteArray.size_append
 unfold WO WOi WC WB at *
 cases u
 all_goals
   refine Fun.AB tt [] [4,5] (Tryz.func107) rfl rfl rfl lb fun g=>?_
   repeat' ((first|refine Ga ?_|refine Gc fun hlen=>?_|refine AJ.go hc [0,1] ?_|refine Side.mk appS ?_|refine Side.mk (show (Aw s).length=s.size from EO s) ?_|refine Side.mk (show s.size+x.size≤maxN from hl) ?_|refine Gd (fun hc=>?_) fun hc=>?_)<;>conv=>whnf)
   refine RetS.ent (σ':=⟨[(4,.d (.int .i64 x.size)),(5,.d .nilI)],19,[(0,.cellsT (some 69) [.ref 0 0,.row 2 (s++x).size,.d (.int .i64 e)]),(2,.row 5 (.ints .u8 (Aw (s++x))))],3,g⟩) (Ent.re [0,1,2] rfl rfl rfl rfl rfl rfl (by repeat' first|exact trivial|apply And.intro|rfl|(refine int_eq ?_;rw[wrap64]<;>omega)) ⟨⟨rfl,by rw[hs];rfl,rfl⟩,⟨rfl,by rw[Rg];rfl,trivial⟩,trivial⟩) ?_
   exact AM rfl rfl rfl (by repeat' first|exact trivial|apply And.intro|rfl|(refine int_eq ?_;rw[wrap64]<;>omega)) (by decide)
theorem K6 (u:Bool)(s:ByteArray)(e:Int):Fun P 177 [.ref 0 0] (WO u s e) 2 (.d (.int .i64 s.size)) (WO u s e) 2:=by
 unfold WO WOi WC WB
 cases u
 all_goals
   refine Fun.AB tt [] [2] (Tryz.func177) rfl rfl rfl lb fun g=>?_
   repeat' ((first|refine Ga ?_|refine Gc fun hlen=>?_|refine Gd (fun hc=>?_) fun hc=>?_)<;>conv=>whnf)
   exact Aq rfl rfl rfl
theorem VH (u:Bool)(s:ByteArray)(e:Int)(h0:0 < s.size):Fun P 25 [.ref 0 0] (WO u s e) 2 (.d (.str s)) [] 2:=by
 have hb:0 < (Aw s).length:=by rw[EO];exact h0
 have hbl:(s.size:Int)=((Aw s).length:Int):=by rw[EO]
 unfold WO WOi WC WB
 cases u
 all_goals
   refine Fun.AB tt [] [2] (Tryz.func25) rfl rfl rfl lb fun g=>?_
   repeat' ((first|refine Ga ?_|refine Gc fun hlen=>?_|refine Side.mk uStr ?_|refine Side.mk (show (0:Nat)=0∧(s.size:Int)=((Aw s).length:Int)∧0 < (Aw s).length∧∀z∈Aw s,0≤z∧z < 256 from⟨rfl,hbl,hb,Tu s⟩) ?_|refine Gd (fun hc=>?_) fun hc=>?_)<;>conv=>whnf)
   rw[show ofI (Aw s)=s from RQ s]
   exact AM rfl rfl rfl trivial (Nat.le_refl _)
end Mc
end Go.Proofs.YtlgajkoplklkiaaGreat
