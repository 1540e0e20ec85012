/- What the proof stands on, part 3: what functions of the program compute, and plain facts about it. -/
import Derived.Test.YtlgajkoplklkiaaGreatP2
import Derived.Test.YtlgajkoplklkiaaGreatP1
set_option linter.all false
set_option maxHeartbeats 64000000
set_option maxRecDepth 100000
namespace Go.Proofs.YtlgajkoplklkiaaGreat
namespace Ki
open Go Go.Mq
theorem more_get {ctx m:List Tree}{i:Nat}(h:i < ctx.length):(ctx++m).getD i .nil=ctx.getD i .nil:=by simp[List.getElem?_append_left h]
theorem mustE_zero {r:Tree×Int}(h:mustE r=0):r.2=0:=by
 unfold mustE at h
 split at h
 ·exact absurd h ‹_›
 ·rename_i h1;simpa using h1
theorem starR_zero' {e:Int}(h:(starR e).2=0):e=0:=by
 unfold starR at h
 split at h
 ·assumption
 ·exact h
theorem kind_free (K:Tree):isKindF K=true→∀d:Int,0≤d→d+sizeN K≤1099511627776→rfreeF K d=0:=by
 induction K using Tree.ind' with
 | h0=>intro h;rw[isKindF]at h;cases h
 | h1 T hT ih =>
  intro h d hd hz
  have hk:T.kind=100∨T.kind=101:=by
   rw[isKindF_eq hT]at h
   apply Decidable.byContradiction
   intro hn
   rw[ifn,ifn]at h
   cases h
  have hb:bindsF T=0:=by unfold bindsF;rw[ifn,ifn,ifn,ifn]
  have hsz:=sizeN_kids hT
  rw[rfreeF_eq hT,ifn,hb,Int.add_zero,wrap64 (by omega) (by omega)]
  have hkids:∀x∈T.kids,isKindF x=true:=by
   rw[isKindF_eq hT]at h
   intro x hx
   rcases hk with hk|hk
   ·rw[if_pos hk,Bool.and_eq_true,beq_iff_eq]at h
    have:T.kids=[]:=List.length_eq_zero_iff.1 (by omega)
    rw[this]at hx;cases hx
   ·rw[ifn,if_pos hk]at h
    simp only[Bool.and_eq_true,beq_iff_eq]at h
    rcases mem_two (by omega:T.kids.length=2) hx with e|e
    ·rw[e];exact h.1.2
    ·rw[e];exact h.2
  have key:∀l:List Tree,(∀x∈l,rfreeF x d=0)→rfreesF 0 l d=0:=by
   intro l
   induction l with
   | nil=>intro _;rfl
   | cons x l ih2 =>
    intro hx
    rw[rfreesF,hx x (by simp)]
    exact ih2 fun y hy=>hx y (by simp[hy])
  exact key _ fun x hx=>ih x hx (hkids x hx) d hd (by have:=sizesN_mem hx;omega)
theorem frees_le {m B d:Int}:∀l:List Tree,m≤B→(∀x∈l,rfreeF x d≤B)→rfreesF m l d≤B
 | [],hm,_=>hm
 | x::l,hm,h=>by
  rw[rfreesF]
  split
  ·exact frees_le l (h x (by simp)) fun y hy=>h y (by simp[hy])
  ·exact frees_le l hm fun y hy=>h y (by simp[hy])
def MoreP (m:List Tree)(T:Tree):Prop:=isConF T=true→∀ctx:List Tree,(kindF ctx T).2=0→kindF (ctx++m) T=kindF ctx T∧∀d:Int,0≤d→d≤ctx.length→ctx.length+sizeN T≤1099511627776→rfreeF T d≤ctx.length - d
theorem stars_more (m ctx:List Tree):∀l:List Tree,(∀x∈l,MoreP m x∧isConF x=true)→starsE ctx l=0→starsE (ctx++m) l=0∧∀x∈l,∀d:Int,0≤d→d≤ctx.length→ctx.length+sizeN x≤1099511627776→rfreeF x d≤ctx.length - d
 | [],_,_=>⟨rfl,fun x hx=>by cases hx⟩
 | x::l,h,hs=>by
  rw[starsE]at hs
  have hx:mustE (kindF ctx x)=0:=by
   apply Decidable.byContradiction
   intro hn
   rw[if_pos hn]at hs
   exact hn hs
  rw[ifn]at hs
  obtain⟨h1,h2⟩:=h x (by simp)
  obtain⟨g1,g2⟩:=h1 h2 ctx (mustE_zero hx)
  obtain⟨q1,q2⟩:=stars_more m ctx l (fun y hy=>h y (by simp[hy])) hs
  refine⟨by rw[starsE,g1,ifn];exact q1,fun y hy=>?_⟩
  rcases List.mem_cons.1 hy with rfl|hy
  ·exact g2
  ·exact q2 y hy
theorem free_field {x:Tree}(hx:x≠.nil)(h1:x.kids.length=1)(hk:x.kind=116∨x.kind=122){d B:Int}(hd:0≤d)(hz:d≤1099511627776)(hB:0≤B)(h:rfreeF (x.kids.getD 0 .nil) d≤B):rfreeF x d≤B:=by
 have hb:bindsF x=0:=by unfold bindsF;rw[ifn,ifn,ifn,ifn]
 rw[rfreeF_eq hx,ifn,hb,Int.add_zero,wrap64 (by omega) (by omega)]
 refine frees_le _ hB fun y hy=>?_
 rw[mem_one h1 hy];exact h
theorem field_kind {kind:Int}{x:Tree}(h:fieldF kind x=true):x.kind=kind:=by
 have hx:x≠.nil:=by intro e;subst e;rw[fieldF]at h;cases h
 rw[fieldF_eq hx]at h
 simp only[Bool.and_eq_true,beq_iff_eq]at h
 exact h.1.1.1.1
theorem binds_zero {T:Tree}(h1:T.kind≠117)(h2:T.kind≠118)(h3:T.kind≠119)(h4:T.kind≠121):bindsF T=0:=by
 unfold bindsF;rw[if_neg h1,if_neg h2,if_neg h3,if_neg h4]
theorem binds_one {T:Tree}(h:T.kind=117∨T.kind=118∨T.kind=119∨T.kind=121):bindsF T=1:=by
 unfold bindsF;repeat' split
 all_goals omega
theorem more_kind (m:List Tree)(T:Tree):MoreP m T:=by
 suffices h:MoreP m T∧∀x∈T.kids,MoreP m x from h.1
 induction T using Tree.ind' with
 | h0=>exact⟨fun h=>(by rw[isConF]at h;cases h),fun x hx=>(by cases hx)⟩
 | h1 T hT ih =>
  refine⟨fun hcon ctx hk0=>?_,fun x hx=>(ih x hx).1⟩
  have hsz:=sizeN_kids hT
  have e1:=kindF_eq ctx hT
  have e2:=kindF_eq (ctx++m) hT
  have hfr:=rfreeF_eq hT
  have leaf:T.kids=[]→T.kind≠110→∀d:Int,d≤ctx.length→rfreeF T d≤ctx.length - d:=fun hl hk d hd=>by
   rw[hfr,ifn,hl,rfreesF];omega
  have empty:T.kind=111∨T.kind=112∨T.kind=113→T.kids=[]:=fun hk=>by
   rw[isConF_eq hT,Bool.and_eq_true]at hcon
   obtain⟨_,h⟩:=hcon
   rw[ifn,if_pos hk,beq_iff_eq]at h
   exact List.length_eq_zero_iff.1 (by omega)
  rcases con_kids hT hcon with hk|hk|hk|hk|hk|hk|hk|hk|hk|hk|hk
  ·have hv:=con_var hT hcon hk
   rw[if_pos hk]at e1 e2
   have hn:¬(ctx.length:Int)≤T.n:=by
    intro hn
    rw[e1,if_pos hn]at hk0
    cases hk0
   rw[if_neg hn]at e1
   rw[if_neg (by simp;omega),more_get (by omega)]at e2
   refine⟨by rw[e1,e2],fun d hd hd2 hz=>?_⟩
   have hl:T.kids=[]:=by
    rw[isConF_eq hT,Bool.and_eq_true]at hcon
    obtain⟨_,h⟩:=hcon
    rw[if_pos hk]at h
    simp only[Bool.and_eq_true,beq_iff_eq]at h
    exact List.length_eq_zero_iff.1 (by omega)
   rw[hfr,hl,rfreesF]
   split
   ·rw[wrap64 (x:=T.n - d) (by omega) (by omega),wrap64 (by omega) (by omega)];omega
   ·omega
  ·rw[ifn,ifn,ifn,ifn,ifn,ifn,ifn]at e1 e2
   exact⟨by rw[e1,e2],fun d hd hd2 _=>leaf (empty (by omega)) (by omega) d hd2⟩
  ·rw[ifn,ifn,ifn,ifn,ifn,ifn,ifn]at e1 e2
   exact⟨by rw[e1,e2],fun d hd hd2 _=>leaf (empty (by omega)) (by omega) d hd2⟩
  ·rw[ifn,ifn,ifn,ifn,ifn,ifn,ifn]at e1 e2
   exact⟨by rw[e1,e2],fun d hd hd2 _=>leaf (empty (by omega)) (by omega) d hd2⟩
  ·rw[ifn,if_pos hk]at e1 e2
   obtain⟨h1,h2,h3⟩:=con_two hT hcon (.inl hk)
   have hall:∀x∈T.kids,MoreP m x∧isConF x=true:=fun x hx=>⟨(ih x hx).1,by
    rcases mem_two h1 hx with q|q
    ·rw[q];exact h2
    ·rw[q];exact h3⟩
   have hs0:starsE ctx T.kids=0:=starR_zero' (by rw[←e1];exact hk0)
   obtain⟨q1,q2⟩:=stars_more m ctx T.kids hall hs0
   rw[hs0]at e1
   rw[q1]at e2
   refine⟨by rw[e1,e2],fun d hd hd2 hz=>?_⟩
   rw[hfr,ifn,binds_zero (by omega) (by omega) (by omega) (by omega),Int.add_zero,wrap64 (by omega) (by omega)]
   exact frees_le _ (by omega) fun x hx=>q2 x hx d hd hd2 (by have:=sizesN_mem hx;omega)
  ·rw[ifn,ifn,if_pos hk]at e1 e2
   have hf:=rec_fields hT hcon hk
   have hne:∀x∈T.kids,x≠.nil:=fun x hx=>(field_kid (hf x hx)).1
   rw[starsIn_eq _ _ hne]at e1 e2
   have hall:∀y∈innerF T.kids,MoreP m y∧isConF y=true:=fun y hy=>by
    obtain⟨x,p1,p2,p3,p4,p5⟩:=inner_con hf y hy
    exact⟨(ih x p1).2 y p3,p4⟩
   have hs0:starsE ctx (innerF T.kids)=0:=starR_zero' (by rw[←e1];exact hk0)
   obtain⟨q1,q2⟩:=stars_more m ctx _ hall hs0
   rw[hs0]at e1
   rw[q1]at e2
   refine⟨by rw[e1,e2],fun d hd hd2 hz=>?_⟩
   rw[hfr,ifn,binds_zero (by omega) (by omega) (by omega) (by omega),Int.add_zero,wrap64 (by omega) (by omega)]
   refine frees_le _ (by omega) fun x hx=>?_
   obtain⟨f1,f2,f3⟩:=field_kid (hf x hx)
   have s1:=sizesN_mem hx
   have s2:=sizeN_kids f1
   have s3:=sizesN_mem (getD_mem (l:=x.kids) (i:=0) (by omega))
   exact free_field f1 f2 (.inl (field_kind (hf x hx))) hd (by omega) (by omega) (q2 _ (List.mem_map.2 ⟨x,hx,rfl⟩) d hd hd2 (by omega))
  ·rw[ifn,ifn,ifn,if_pos (.inl hk)]at e1 e2
   obtain⟨h1,h2,h3⟩:=con_bind hT hcon (.inl hk)
   have hm0:mustE (kindF (T.kids.getD 0 .nil::ctx) (T.kids.getD 1 .nil))=0:=starR_zero' (by rw[←e1];exact hk0)
   obtain⟨q1,q2⟩:=(ih _ (getD_mem (i:=1) (by omega))).1 h3 (T.kids.getD 0 .nil::ctx) (mustE_zero hm0)
   rw[show T.kids.getD 0 .nil::(ctx++m)=(T.kids.getD 0 .nil::ctx)++m from rfl,q1]at e2
   refine⟨by rw[e1,e2],fun d hd hd2 hz=>?_⟩
   have s0:=sizesN_mem (getD_mem (l:=T.kids) (i:=0) (by omega))
   have s1:=sizesN_mem (getD_mem (l:=T.kids) (i:=1) (by omega))
   rw[hfr,ifn,binds_one (by omega),wrap64 (by omega) (by omega)]
   refine frees_le _ (by omega) fun x hx=>?_
   rcases mem_two h1 hx with q|q
   ·rw[q,kind_free _ h2 (d+1) (by omega) (by omega)];omega
   ·rw[q]
    have:=q2 (d+1) (by omega) (by simp only[List.length_cons];push_cast;omega) (by simp only[List.length_cons];omega)
    simp only[List.length_cons]at this
    push_cast at this
    omega
  ·rw[ifn,ifn,ifn,if_pos (.inr hk)]at e1 e2
   obtain⟨h1,h2,h3⟩:=con_bind hT hcon (.inr (.inl hk))
   have hm0:mustE (kindF (T.kids.getD 0 .nil::ctx) (T.kids.getD 1 .nil))=0:=starR_zero' (by rw[←e1];exact hk0)
   obtain⟨q1,q2⟩:=(ih _ (getD_mem (i:=1) (by omega))).1 h3 (T.kids.getD 0 .nil::ctx) (mustE_zero hm0)
   rw[show T.kids.getD 0 .nil::(ctx++m)=(T.kids.getD 0 .nil::ctx)++m from rfl,q1]at e2
   refine⟨by rw[e1,e2],fun d hd hd2 hz=>?_⟩
   have s0:=sizesN_mem (getD_mem (l:=T.kids) (i:=0) (by omega))
   have s1:=sizesN_mem (getD_mem (l:=T.kids) (i:=1) (by omega))
   rw[hfr,ifn,binds_one (by omega),wrap64 (by omega) (by omega)]
   refine frees_le _ (by omega) fun x hx=>?_
   rcases mem_two h1 hx with q|q
   ·rw[q,kind_free _ h2 (d+1) (by omega) (by omega)];omega
   ·rw[q]
    have:=q2 (d+1) (by omega) (by simp only[List.length_cons];push_cast;omega) (by simp only[List.length_cons];omega)
    simp only[List.length_cons]at this
    push_cast at this
    omega
  ·rw[ifn,ifn,ifn,ifn,if_pos hk]at e1 e2
   obtain⟨h1,h2,h3⟩:=con_bind hT hcon (.inr (.inr hk))
   have hm0:(kindF (T.kids.getD 0 .nil::ctx) (T.kids.getD 1 .nil)).2=0:=by
    apply Decidable.byContradiction
    intro hn
    rw[e1,if_pos hn]at hk0
    exact hn hk0
   obtain⟨q1,q2⟩:=(ih _ (getD_mem (i:=1) (by omega))).1 h3 (T.kids.getD 0 .nil::ctx) hm0
   rw[show T.kids.getD 0 .nil::(ctx++m)=(T.kids.getD 0 .nil::ctx)++m from rfl,q1]at e2
   refine⟨by rw[e1,e2],fun d hd hd2 hz=>?_⟩
   have s0:=sizesN_mem (getD_mem (l:=T.kids) (i:=0) (by omega))
   have s1:=sizesN_mem (getD_mem (l:=T.kids) (i:=1) (by omega))
   rw[hfr,ifn,binds_one (by omega),wrap64 (by omega) (by omega)]
   refine frees_le _ (by omega) fun x hx=>?_
   rcases mem_two h1 hx with q|q
   ·rw[q,kind_free _ h2 (d+1) (by omega) (by omega)];omega
   ·rw[q]
    have:=q2 (d+1) (by omega) (by simp only[List.length_cons];push_cast;omega) (by simp only[List.length_cons];omega)
    simp only[List.length_cons]at this
    push_cast at this
    omega
  ·rw[ifn,ifn,ifn,ifn,ifn,if_pos hk]at e1 e2
   obtain⟨h1,h2,h3⟩:=con_two hT hcon (.inr hk)
   have hF:(kindF ctx (T.kids.getD 0 .nil)).2=0:=by
    apply Decidable.byContradiction
    intro hn
    rw[e1,appR,if_pos hn]at hk0
    exact hn hk0
   have hK:(kindF ctx (T.kids.getD 1 .nil)).2=0:=by
    apply Decidable.byContradiction
    intro hn
    rw[e1,appR,ifn,if_pos hn]at hk0
    exact hn hk0
   obtain⟨a1,a2⟩:=(ih _ (getD_mem (i:=0) (by omega))).1 h2 ctx hF
   obtain⟨b1,b2⟩:=(ih _ (getD_mem (i:=1) (by omega))).1 h3 ctx hK
   rw[a1,b1]at e2
   refine⟨by rw[e1,e2],fun d hd hd2 hz=>?_⟩
   have s0:=sizesN_mem (getD_mem (l:=T.kids) (i:=0) (by omega))
   have s1:=sizesN_mem (getD_mem (l:=T.kids) (i:=1) (by omega))
   rw[hfr,ifn,binds_zero (by omega) (by omega) (by omega) (by omega),Int.add_zero,wrap64 (by omega) (by omega)]
   refine frees_le _ (by omega) fun x hx=>?_
   rcases mem_two h1 hx with q|q
   ·rw[q];exact a2 d hd hd2 (by omega)
   ·rw[q];exact b2 d hd hd2 (by omega)
  ·rw[ifn,ifn,ifn,ifn,ifn,ifn,if_pos hk]at e1 e2
   have hf:=sum_fields hT hcon hk
   have hne:∀x∈T.kids,x≠.nil:=fun x hx=>(field_kid (hf x hx)).1
   rw[starsIn_eq _ _ hne]at e1 e2
   have hall:∀y∈innerF T.kids,MoreP m y∧isConF y=true:=fun y hy=>by
    obtain⟨x,p1,p2,p3,p4,p5⟩:=inner_con hf y hy
    exact⟨(ih x p1).2 y p3,p4⟩
   have hs0:starsE (starT::ctx) (innerF T.kids)=0:=by
    apply Decidable.byContradiction
    intro hn
    rw[e1,if_pos hn]at hk0
    exact hn hk0
   obtain⟨q1,q2⟩:=stars_more m (starT::ctx) _ hall hs0
   rw[hs0]at e1
   rw[show starT::(ctx++m)=(starT::ctx)++m from rfl,q1]at e2
   refine⟨by rw[e1,e2],fun d hd hd2 hz=>?_⟩
   rw[hfr,ifn,binds_one (by omega),wrap64 (by omega) (by omega)]
   refine frees_le _ (by omega) fun x hx=>?_
   obtain⟨f1,f2,f3⟩:=field_kid (hf x hx)
   have s1:=sizesN_mem hx
   have s2:=sizeN_kids f1
   have s3:=sizesN_mem (getD_mem (l:=x.kids) (i:=0) (by omega))
   have:=q2 _ (List.mem_map.2 ⟨x,hx,rfl⟩) (d+1) (by omega) (by simp only[List.length_cons];push_cast;omega) (by simp only[List.length_cons];omega)
   simp only[List.length_cons]at this
   push_cast at this
   exact free_field f1 f2 (.inr (field_kind (hf x hx))) (by omega) (by omega) (by omega) (by omega)
theorem kind_put_id {b:Tree}(K:Tree):isKindF K=true→∀(d:Int) y,Plain K→0≤d→d+sizeN K≤549755813888→rputF 0 b K d=some y→y=K:=by
 induction K using Tree.ind' with
 | h0=>intro h;rw[isKindF]at h;cases h
 | h1 T hT ih =>
  intro h d y hp h0 h1 hy
  have hlim:lim=1099511627776:=rfl
  have hsz:=sizeN_kids hT
  have hk:T.kind≠110:=by
   intro e;rw[isKindF_eq hT,ifn,ifn]at h;cases h
  obtain⟨p0,p1,p2,p3,p4,p5⟩:=Ex.put_inv hp hk hy
  obtain⟨u1,u2⟩:=Ex.put_kids hp hk ⟨h0,by omega⟩ hy
  have hbd:=bindsF_b T
  have hkk:∀x∈T.kids,isKindF x=true:=by
   rw[isKindF_eq hT]at h
   by_cases k1:T.kind=100
   ·rw[if_pos k1,Bool.and_eq_true,beq_iff_eq]at h
    intro x hx
    have:T.kids=[]:=List.length_eq_zero_iff.1 (by omega)
    rw[this]at hx;cases hx
   rw[if_neg k1]at h
   by_cases k2:T.kind=101
   ·rw[if_pos k2]at h
    simp only[Bool.and_eq_true,beq_iff_eq]at h
    intro x hx
    rcases mem_two (by omega:T.kids.length=2) hx with e|e<;>rw[e]
    ·exact h.1.2
    ·exact h.2
   ·rw[if_neg k2]at h;cases h
  have hkids:y.kids=T.kids:=by
   apply List.ext_getElem u1
   intro i h1' h2'
   have hm:=getD_mem (l:=T.kids) h2'
   have s1:=sizesN_mem hm
   have:=ih _ hm (hkk _ hm) (d+bindsF T) _ (Ex.plain_kids hp _ hm) (by omega) (by omega) (u2 i h2')
   simpa [List.getD_eq_getElem?_getD,h1',h2'] using this
  cases y with
  | nil=>exact absurd rfl p0
  | node k n nm mk l =>
   cases T with
   | nil=>exact absurd rfl hT
   | node k' n' nm' mk' l' =>
    simp only[Tree.kind,Tree.n,Tree.name,Tree.mark,Tree.kids]at p1 p2 p3 p4 hkids
    subst p1 p2 p3 p4 hkids
    rfl
def SubP (b k T:Tree):Prop:=isConF T=true→∀(Δ:List Tree) (y:Tree),Plain T→Δ.length+sizeN T≤274877906944→(kindF (Δ++[k]) T).2=0→rputF 0 b T Δ.length=some y→kindF Δ y=kindF (Δ++[k]) T∨(kindF Δ y).2=15
theorem must_sub {r r':Tree×Int}(h:r'=r∨r'.2=15)(hr:mustE r=0):mustE r'=0∨mustE r'=15:=by
 rcases h with rfl|h
 ·exact .inl hr
 ·refine .inr ?_
  unfold mustE
  rw[ifp];exact h
theorem stars_sub {b k:Tree}{Δ:List Tree}:∀{l ls:List Tree},(∀x∈l,SubP b k x∧isConF x=true∧Plain x∧Δ.length+sizeN x≤274877906944)→ls.length=l.length→(∀i,i < l.length→rputF 0 b (l.getD i .nil) Δ.length=some (ls.getD i .nil)) →
  starsE (Δ++[k]) l=0→starsE Δ ls=0∨starsE Δ ls=15
 | [],[],_,_,_,_=>.inl rfl
 | [],_::_,_,h,_,_=>by simp at h
 | _::_,[],_,h,_,_=>by simp at h
 | x::l,y::ls,hx,hl,hp,hs=>by
  rw[starsE]at hs
  have h1:mustE (kindF (Δ++[k]) x)=0:=by
   apply Decidable.byContradiction
   intro hn
   rw[if_pos hn]at hs
   exact hn hs
  rw[ifn]at hs
  obtain⟨g1,g2,g3,g4⟩:=hx x (by simp)
  have h2:=must_sub (g1 g2 Δ y g3 g4 (mustE_zero h1) (hp 0 (by simp))) h1
  have h3:=stars_sub (k:=k) (l:=l) (ls:=ls) (fun z hz=>hx z (by simp[hz])) (by simpa using hl) (fun i hi=>by have:=hp (i+1) (by simpa using hi);simpa only[List.getD_cons_succ] using this) hs
  rw[starsE]
  rcases h2 with h2|h2
  ·rw[ifn];exact h3
  ·rw[ifp];exact .inr h2
theorem inner_get {l:List Tree}{i:Nat}(h:i < l.length):(innerF l).getD i .nil=(l.getD i .nil).kids.getD 0 .nil:=by
 unfold innerF
 simp[List.getD_eq_getElem?_getD,h]
theorem starsIn_sub {b k:Tree}{Δ:List Tree}{kind:Int}(hkind:kind=116∨kind=122){l ls:List Tree}(hf:∀x∈l,fieldF kind x=true)(hx:∀x∈l,∀y∈x.kids,SubP b k y)(hpl:∀x∈l,Plain x)(hz:Δ.length+sizesN l≤274877906944)(hl:ls.length=l.length)
  (hp:∀i,i < l.length→rputF 0 b (l.getD i .nil) Δ.length=some (ls.getD i .nil)) (hs:starsIn (Δ++[k]) l=0):starsIn Δ ls=0∨starsIn Δ ls=15:=by
 have hlim:lim=1099511627776:=rfl
 have fp:∀x∈l,x≠.nil∧x.kind=kind∧x.kids.length=1∧isConF (x.kids.getD 0 .nil)=true:=fun x hx=>by
  have h:=hf x hx
  have hxn:x≠.nil:=by intro e;subst e;rw[fieldF]at h;cases h
  rw[fieldF_eq hxn]at h
  simp only[Bool.and_eq_true,beq_iff_eq]at h
  exact⟨hxn,h.1.1.1.1,by omega,h.2⟩
 have gp:∀i,i < l.length→ls.getD i .nil≠.nil∧(ls.getD i .nil).kids.length=1∧rputF 0 b ((l.getD i .nil).kids.getD 0 .nil) Δ.length=some ((ls.getD i .nil).kids.getD 0 .nil):=fun i hi=>by
  have hm:=getD_mem hi
  have s1:=sizesN_mem hm
  obtain⟨f1,f2,f3,f4⟩:=fp _ hm
  have h:=hp i hi
  have hk:(l.getD i .nil).kind≠110:=by omega
  obtain⟨p0,_⟩:=Ex.put_inv (hpl _ hm) hk h
  obtain⟨u1,u2⟩:=Ex.put_kids (hpl _ hm) hk ⟨by omega,by omega⟩ h
  have hb:bindsF (l.getD i .nil)=0:=binds_zero (by omega) (by omega) (by omega) (by omega)
  have:=u2 0 (by omega)
  rw[hb,Int.add_zero]at this
  exact⟨p0,by omega,this⟩
 rw[starsIn_eq _ _ (fun x hx=>(fp x hx).1)]at hs
 rw[starsIn_eq _ _ (fun x hx=>by
  obtain⟨i,hi,rfl⟩:=List.getElem_of_mem hx
  have:=(gp i (by omega)).1
  simpa [List.getD_eq_getElem?_getD,hi] using this)]
 refine stars_sub (b:=b) (k:=k) (l:=innerF l) ?_ (by unfold innerF;simp[hl]) (fun i hi=>?_) hs
 ·intro y hy
  unfold innerF at hy
  obtain⟨x,hxm,rfl⟩:=List.mem_map.1 hy
  obtain⟨f1,f2,f3,f4⟩:=fp x hxm
  have m0:=getD_mem (l:=x.kids) (i:=0) (by omega)
  have s1:=sizesN_mem hxm
  have s2:=sizesN_mem m0
  have s3:=sizeN_kids f1
  exact⟨hx x hxm _ m0,f4,Ex.plain_kids (hpl x hxm) _ m0,by omega⟩
 ·have hi':i < l.length:=by unfold innerF at hi;simpa using hi
  rw[inner_get hi',inner_get (by omega)]
  exact (gp i hi').2.2
theorem appR_sub {f g f' g':Tree×Int}(h1:f'=f∨f'.2=15)(h2:g'=g∨g'.2=15)(h0:(appR f g).2=0):appR f' g'=appR f g∨(appR f' g').2=15:=by
 rcases h1 with rfl|h1
 ·by_cases hf:f'.2=0
  ·rcases h2 with rfl|h2
   ·exact .inl rfl
   ·refine .inr ?_
    unfold appR
    rw[ifn,ifp];exact h2
  ·unfold appR at h0
   rw[if_pos hf]at h0
   exact absurd h0 hf
 ·refine .inr ?_
  unfold appR
  rw[ifp];exact h1
theorem appR_zero {f g:Tree×Int}(h0:(appR f g).2=0):f.2=0∧g.2=0:=by
 unfold appR at h0
 by_cases hf:f.2=0
 ·rw[ifn]at h0
  by_cases hg:g.2=0
  ·exact⟨hf,hg⟩
  ·rw[if_pos hg]at h0;exact absurd h0 hg
 ·rw[if_pos hf]at h0;exact absurd h0 hf
theorem star_sub {e e':Int}(h:e'=0∨e'=15)(h0:(starR e).2=0):starR e'=starR e∨(starR e').2=15:=by
 have:=starR_zero' h0
 subst this
 rcases h with rfl|rfl
 ·exact .inl rfl
 ·exact .inr rfl
theorem kind_sub {b k:Tree}(hb:conE b=0)(hk0:kindF [] b=(k,0))(T:Tree):SubP b k T:=by
 have hlim:lim=1099511627776:=rfl
 have hzb:=conE_size hb
 have hcb:=(conE_full hb).2
 have hfr:freeR b=0:=by
  have h1:=(more_kind [] b hcb [] (by rw[hk0])).2 0 (by omega) (by simp) (by simp;omega)
  have h2:=Tm.freeR_le b
  rw[freeR_eq,rfreeR,if_pos hb]at h2 ⊢
  simp at h1
  omega
 suffices h:SubP b k T∧∀x∈T.kids,SubP b k x from h.1
 induction T using Tree.ind' with
 | h0=>exact⟨fun h=>(by rw[isConF]at h;cases h),fun x hx=>(by cases hx)⟩
 | h1 T hT ih =>
  refine⟨fun hcon Δ y hp hz hk hput=>?_,fun x hx=>(ih x hx).1⟩
  have hsz:=sizeN_kids hT
  have e1:=kindF_eq (Δ++[k]) hT
  by_cases h110:T.kind=110
  ·have hv:=con_var hT hcon h110
   rw[if_pos h110]at e1
   have hn:¬((Δ++[k]).length:Int)≤T.n:=by
    intro hn
    rw[e1,if_pos hn]at hk
    cases hk
   rw[if_neg hn]at e1
   have hn':T.n≤Δ.length:=by simp at hn;omega
   rcases Ex.put_var hp h110 ⟨by omega,by omega⟩ (by omega) hput with⟨r1,r2,r3⟩|⟨r1,r2⟩
   ·rw[rmoved_vmap _ 0 b 0 (conE_plain hb) (by omega) (by omega),Sb.con_fixed hb hfr]at r3
    cases r3
    have h1:=(more_kind Δ b hcb [] (by rw[hk0])).1
    rw[List.nil_append,hk0]at h1
    have e:(Δ++[k]).getD T.n.toNat .nil=k:=by
     have:T.n.toNat=Δ.length:=by omega
     rw[this];simp[List.getD_eq_getElem?_getD]
    rw[e]at e1
    exact .inl (by rw[h1,e1])
   ·rw[r2]
    have h2:T.n < Δ.length:=by omega
    have e:(Δ++[k]).getD T.n.toNat .nil=Δ.getD T.n.toNat .nil:=more_get (by omega)
    rw[e]at e1
    refine .inl ?_
    rw[kindF_eq Δ hT,if_pos h110,ifn,e1]
  obtain⟨p0,p1,p2,p3,p4,p5⟩:=Ex.put_inv hp h110 hput
  obtain⟨u1,u2⟩:=Ex.put_kids hp h110 ⟨by omega,by omega⟩ hput
  have e2:=kindF_eq Δ p0
  rw[p1]at e2
  have hpk:=Ex.plain_kids hp
  rcases con_kids hT hcon with hc|hc|hc|hc|hc|hc|hc|hc|hc|hc|hc
  ·exact absurd hc h110
  ·rw[ifn,ifn,ifn,ifn,ifn,ifn,ifn]at e1 e2
   exact .inl (by rw[e1,e2])
  ·rw[ifn,ifn,ifn,ifn,ifn,ifn,ifn]at e1 e2
   exact .inl (by rw[e1,e2])
  ·rw[ifn,ifn,ifn,ifn,ifn,ifn,ifn]at e1 e2
   exact .inl (by rw[e1,e2])
  ·
   rw[ifn,if_pos hc]at e1 e2
   obtain⟨h1,h2,h3⟩:=con_two hT hcon (.inl hc)
   have hb0:bindsF T=0:=binds_zero (by omega) (by omega) (by omega) (by omega)
   rw[hb0,Int.add_zero]at u2
   rw[e1]at hk
   rw[e1,e2]
   refine star_sub (stars_sub (b:=b) (k:=k) (l:=T.kids) (fun x hx=>?_) u1 u2 (starR_zero' hk)) hk
   have s1:=sizesN_mem hx
   refine⟨(ih x hx).1,?_,hpk x hx,by omega⟩
   rcases mem_two h1 hx with e|e<;>rw[e]
   ·exact h2
   ·exact h3
  ·
   rw[ifn,ifn,if_pos hc]at e1 e2
   have hf:=rec_fields hT hcon hc
   have hb0:bindsF T=0:=binds_zero (by omega) (by omega) (by omega) (by omega)
   rw[hb0,Int.add_zero]at u2
   rw[e1]at hk
   rw[e1,e2]
   exact star_sub (starsIn_sub (k:=k) (.inl rfl) hf (fun x hx=>(ih x hx).2) hpk (by omega) u1 u2 (starR_zero' hk)) hk
  ·
   rw[ifn,ifn,ifn,if_pos (.inl hc)]at e1 e2
   obtain⟨h1,h2,h3⟩:=con_bind hT hcon (.inl hc)
   have m0:=getD_mem (l:=T.kids) (i:=0) (by omega)
   have m1:=getD_mem (l:=T.kids) (i:=1) (by omega)
   have s0:=sizesN_mem m0
   have s1:=sizesN_mem m1
   have hb1:bindsF T=1:=binds_one (by omega)
   rw[hb1]at u2
   have hK:=kind_put_id _ h2 _ _ (hpk _ m0) (by omega) (by omega) (u2 0 (by omega))
   rw[hK]at e2
   rw[e1]at hk
   rw[e1,e2]
   have hm:=starR_zero' hk
   have hz':=mustE_zero hm
   have hu:=u2 1 (by omega)
   rw[show (Δ.length:Int)+1=((T.kids.getD 0 .nil::Δ).length:Int) by simp]at hu
   exact star_sub (must_sub ((ih _ m1).1 h3 (T.kids.getD 0 .nil::Δ) _ (hpk _ m1) (by simp only[List.length_cons];omega) hz' hu) hm) hk
  ·
   rw[ifn,ifn,ifn,if_pos (.inr hc)]at e1 e2
   obtain⟨h1,h2,h3⟩:=con_bind hT hcon (.inr (.inl hc))
   have m0:=getD_mem (l:=T.kids) (i:=0) (by omega)
   have m1:=getD_mem (l:=T.kids) (i:=1) (by omega)
   have s0:=sizesN_mem m0
   have s1:=sizesN_mem m1
   have hb1:bindsF T=1:=binds_one (by omega)
   rw[hb1]at u2
   have hK:=kind_put_id _ h2 _ _ (hpk _ m0) (by omega) (by omega) (u2 0 (by omega))
   rw[hK]at e2
   rw[e1]at hk
   rw[e1,e2]
   have hm:=starR_zero' hk
   have hz':=mustE_zero hm
   have hu:=u2 1 (by omega)
   rw[show (Δ.length:Int)+1=((T.kids.getD 0 .nil::Δ).length:Int) by simp]at hu
   exact star_sub (must_sub ((ih _ m1).1 h3 (T.kids.getD 0 .nil::Δ) _ (hpk _ m1) (by simp only[List.length_cons];omega) hz' hu) hm) hk
  ·
   rw[ifn,ifn,ifn,ifn,if_pos hc]at e1 e2
   obtain⟨h1,h2,h3⟩:=con_bind hT hcon (.inr (.inr hc))
   have m0:=getD_mem (l:=T.kids) (i:=0) (by omega)
   have m1:=getD_mem (l:=T.kids) (i:=1) (by omega)
   have s0:=sizesN_mem m0
   have s1:=sizesN_mem m1
   have hb1:bindsF T=1:=binds_one (by omega)
   rw[hb1]at u2
   have hK:=kind_put_id _ h2 _ _ (hpk _ m0) (by omega) (by omega) (u2 0 (by omega))
   rw[hK]at e2
   have hm0:(kindF (T.kids.getD 0 .nil::(Δ++[k])) (T.kids.getD 1 .nil)).2=0:=by
    apply Decidable.byContradiction
    intro hn
    rw[e1,if_pos hn]at hk
    exact hn hk
   have hu:=u2 1 (by omega)
   rw[show (Δ.length:Int)+1=((T.kids.getD 0 .nil::Δ).length:Int) by simp]at hu
   rw[ifn]at e1
   rw[e1,e2]
   rcases (ih _ m1).1 h3 (T.kids.getD 0 .nil::Δ) _ (hpk _ m1) (by simp only[List.length_cons];omega) hm0 hu with h|h
   ·rw[h]
    rw[show (T.kids.getD 0 .nil::Δ)++[k]=T.kids.getD 0 .nil::(Δ++[k]) from rfl,ifn]
    exact .inl rfl
   ·rw[ifp]
    exact .inr h
  ·
   rw[ifn,ifn,ifn,ifn,ifn,if_pos hc]at e1 e2
   obtain⟨h1,h2,h3⟩:=con_two hT hcon (.inr hc)
   have m0:=getD_mem (l:=T.kids) (i:=0) (by omega)
   have m1:=getD_mem (l:=T.kids) (i:=1) (by omega)
   have s0:=sizesN_mem m0
   have s1:=sizesN_mem m1
   have hb0:bindsF T=0:=binds_zero (by omega) (by omega) (by omega) (by omega)
   rw[hb0,Int.add_zero]at u2
   rw[e1]at hk
   rw[e1,e2]
   obtain⟨z0,z1⟩:=appR_zero hk
   exact appR_sub ((ih _ m0).1 h2 Δ _ (hpk _ m0) (by omega) z0 (u2 0 (by omega))) ((ih _ m1).1 h3 Δ _ (hpk _ m1) (by omega) z1 (u2 1 (by omega))) hk
  ·
   rw[ifn,ifn,ifn,ifn,ifn,ifn,if_pos hc]at e1 e2
   have hf:=sum_fields hT hcon hc
   have hb1:bindsF T=1:=binds_one (by omega)
   rw[hb1]at u2
   have hs0:starsIn (starT::(Δ++[k])) T.kids=0:=by
    apply Decidable.byContradiction
    intro hn
    rw[e1,if_pos hn]at hk
    exact hn hk
   rw[ifn]at e1
   have hfe:fitE T.kids=0:=by
    apply Decidable.byContradiction
    intro hn
    rw[e1,if_pos hn]at hk
    exact hn hk
   rw[ifn]at e1
   rw[show (Δ.length:Int)+1=((starT::Δ).length:Int) by simp]at u2
   rw[e1,e2]
   rcases starsIn_sub (k:=k) (Δ:=starT::Δ) (.inr rfl) hf (fun x hx=>(ih x hx).2) hpk (by simp only[List.length_cons];omega) u1 u2 hs0 with h|h
   ·rw[ifn]
    by_cases hq:fitE y.kids=0
    ·rw[ifn];exact .inl rfl
    ·rw[if_pos hq]
     refine .inr ?_
     have:fitE y.kids=0∨fitE y.kids=15:=by unfold fitE;split<;>simp
     simp only[];omega
   ·rw[ifp]
    exact .inr h
end Ki
end Go.Proofs.YtlgajkoplklkiaaGreat
namespace Go.Proofs.YtlgajkoplklkiaaGreat
namespace No
open Go Go.Mq
theorem normF_end:∀(k:Nat) (T:Tree),(normF k T).2=0→(nstepR (normF k T).1).2.1=false∧(nstepR (normF k T).1).2.2=0
 | 0,T=>by
  rw[normF]
  split
  ·exact fun h=>absurd h ‹_›
  ·rename_i h1
   split
   ·exact fun h=>absurd h (by decide)
   ·rename_i h2
    exact fun _=>⟨by simpa using h2,by simpa using h1⟩
 | k+1,T=>by
  rw[normF]
  split
  ·exact fun h=>absurd h ‹_›
  ·rename_i h1
   split
   ·exact normF_end k _
   ·rename_i h2
    exact fun _=>⟨by simpa using h2,by simpa using h1⟩
theorem two_con {k:Int}{a b:Tree}(hk:k=114∨k=120)(ha:isConF a=true)(hb:isConF b=true):isConF (.node k 0 ByteArray.empty ByteArray.empty [a,b])=true:=by
 rw[isConF_eq (by simp)]
 simp only[Tree.kind,Tree.kids,Tree.n]
 rcases hk with rfl|rfl<;>simp[bareF,Tree.mark,Tree.name,Tree.n,ha,hb]
theorem lam_con {k:Int}{a b:Tree}(hk:k=117∨k=118∨k=119)(ha:isKindF a=true)(hb:isConF b=true):isConF (.node k 0 ByteArray.empty ByteArray.empty [a,b])=true:=by
 rw[isConF_eq (by simp)]
 simp only[Tree.kind,Tree.kids,Tree.n]
 rcases hk with rfl|rfl|rfl<;>simp[bareF,Tree.mark,Tree.name,Tree.n,ha,hb]
theorem whole_err (T:Tree):Full T→∀left:Int,(wholeF left T).1=0∨(wholeF left T).1=3:=by
 induction T using Tree.ind' with
 | h0=>intro h;exact absurd rfl h.ne
 | h1 T hT ih =>
  intro hF left
  rw[wholeF_kids hT]
  split
  ·exact .inr rfl
  ·have key:∀(l:List Tree),(∀x∈l,∀left:Int,(wholeF left x).1=0∨(wholeF left x).1=3)→∀left:Int,(wholesF left l).1=0∨(wholesF left l).1=3:=by
    intro l
    induction l with
    | nil=>intro _ left;exact .inl rfl
    | cons x l ih2 =>
     intro hx left
     rw[wholesF]
     split
     ·exact ih2 (fun y hy=>hx y (by simp[hy])) _
     ·exact hx x (by simp) left
   exact key _ (fun x hx=>ih x hx (hF.kids x hx)) _
theorem conE_con {T:Tree}(h:isConF T=true)(hF:Full T):conE T=0∨conE T=3:=by
 unfold conE checkF
 rcases whole_err T hF 65536 with e|e
 ·rw[if_pos e,h];exact .inl rfl
 ·rw[e];exact .inr rfl
theorem out_more {o:Option (Tree×Int)}{m:Tree}(h:outF o=(m,true,0)):o=some (m,0):=by
 unfold outF at h
 cases o with
 | none=>cases h
 | some p =>
  obtain⟨a,b⟩:=p
  simp only[]at h
  split at h
  ·cases h;simp_all
  ·cases h
theorem out_none {o:Option (Tree×Int)}(h1:(outF o).2.1=false)(h2:(outF o).2.2=0):o=none:=by
 unfold outF at *
 cases o with
 | none=>rfl
 | some p =>
  obtain⟨a,b⟩:=p
  simp only[]at h1 h2
  by_cases hb:b=0
  ·simp[hb]at h1
  ·simp[hb]at h2
theorem nstep_zero {T:Tree}(h:(nstepR T).2.2=0):conE T=0∧nstepR T=outF (stepF T):=by
 unfold nstepR at *
 by_cases hc:conE T=0
 ·exact⟨hc,by rw[ifn]⟩
 ·rw[if_pos hc]at h;exact absurd h hc
end No
end Go.Proofs.YtlgajkoplklkiaaGreat
namespace Go.Proofs.YtlgajkoplklkiaaGreat
namespace Ki
open Go Go.Mq
theorem subst_inv {N B s:Tree}{i:Int}(h:substR N i B=(s,0)):conE N=0∧conE B=0∧0≤i∧rputF i B N 0=some s:=by
 rw[substR_eq]at h
 unfold rsubstR at h
 by_cases h1:conE N=0
 ·rw[if_pos h1]at h
  by_cases h2:conE B=0
  ·rw[if_pos h2]at h
   split at h
   ·exact absurd (Prod.mk.inj h).2 (by decide)
   split at h
   ·exact absurd (Prod.mk.inj h).2 (by decide)
   split at h
   ·rename_i hi _ hs
    have:=(Prod.mk.inj h).1
    refine⟨h1,h2,by omega,?_⟩
    cases hr:rputF i B N 0 with
    | none=>rw[hr]at hs;cases hs
    | some z=>rw[hr]at this;rw[←this];rfl
   ·exact absurd (Prod.mk.inj h).2 (by decide)
  ·rw[if_neg h2]at h;exact absurd (Prod.mk.inj h).2 h2
 ·rw[if_neg h1]at h;exact absurd (Prod.mk.inj h).2 h1
theorem steps_get:∀{l l':List Tree} {e:Int},No.stepsF l=some (l',e)→∃(i:Nat) (x':Tree),i < l.length∧No.stepF (l.getD i .nil)=some (x',e)∧l'=l.set i x'
 | [],l',e,h=>by rw[No.stepsF]at h;cases h
 | x::l,l',e,h=>by
  rw[No.stepsF]at h
  cases hx:No.stepF x with
  | some p =>
   rw[hx]at h
   cases h
   exact⟨0,p.1,by simp,by rw[List.getD_cons_zero,hx],rfl⟩
  | none =>
   rw[hx]at h
   cases hr:No.stepsF l with
   | none=>rw[hr]at h;cases h
   | some q =>
    rw[hr]at h
    cases h
    obtain⟨i,x',h1,h2,h3⟩:=steps_get hr
    exact⟨i+1,x',by simpa using h1,by rw[List.getD_cons_succ];exact h2,by rw[List.set_cons_succ,←h3]⟩
theorem set_get {l:List Tree}{i j:Nat}{x:Tree}:(l.set i x).getD j .nil=if i=j∧j < l.length then x else l.getD j .nil:=by
 simp only[List.getD_eq_getElem?_getD,List.getElem?_set]
 by_cases h:i=j
 ·subst h
  by_cases h2:i < l.length
  ·simp[h2]
  ·simp[h2,List.getElem?_eq_none (show l.length≤i by omega)]
 ·simp[h]
end Ki
end Go.Proofs.YtlgajkoplklkiaaGreat
namespace Go.Proofs.YtlgajkoplklkiaaGreat
namespace Cn
open Go Go.Mq
mutual
def toC:Tree→Cn
 | .nil=>.var 0
 | .node k n nm mk l=>if k=110 then .var n.toNat else .op k nm (toCs l)
def toCs:List Tree→List Cn
 | []=>[]
 | x::l=>toC x::toCs l
end
theorem toCs_map:∀l,toCs l=l.map toC
 | []=>by rw[toCs];rfl
 | x::l=>by rw[toCs,toCs_map l];rfl
theorem toC_eq {T:Tree}(h:T≠.nil):toC T=if T.kind=110 then .var T.n.toNat else .op T.kind T.name (T.kids.map toC):=by
 cases T with
 | nil=>exact absurd rfl h
 | node k n nm mk l=>rw[toC,toCs_map];rfl
theorem toC_var {T:Tree}(h:T≠.nil)(hk:T.kind=110):toC T=.var T.n.toNat:=by rw[toC_eq h,if_pos hk]
theorem toC_op {T:Tree}(h:T≠.nil)(hk:T.kind≠110):toC T=.op T.kind T.name (T.kids.map toC):=by rw[toC_eq h,if_neg hk]
theorem bd_binds (T:Tree):bindsF T=(bd T.kind:Int):=by
 unfold bindsF bd
 by_cases h1:T.kind=117
 ·rw[if_pos h1,if_pos (.inl h1)];rfl
 rw[if_neg h1]
 by_cases h2:T.kind=118
 ·rw[if_pos h2,if_pos (.inr (.inl h2))];rfl
 rw[if_neg h2]
 by_cases h3:T.kind=119
 ·rw[if_pos h3,if_pos (.inr (.inr (.inl h3)))];rfl
 rw[if_neg h3]
 by_cases h4:T.kind=121
 ·rw[if_pos h4,if_pos (.inr (.inr (.inr h4)))];rfl
 rw[if_neg h4,if_neg (by rintro (h|h|h|h)<;>contradiction)];rfl
theorem bd_one (k:Int):bd k=0∨bd k=1:=by unfold bd;split<;>simp
theorem map_ext2 {l l':List Tree}{f:Cn→Cn}(hl:l'.length=l.length)(h:∀i,i < l.length→toC (l'.getD i .nil)=f (toC (l.getD i .nil))):l'.map toC=(l.map toC).map f:=by
 apply List.ext_getElem
 ·simp[hl]
 ·intro i h1 h2
  have hi:i < l.length:=by simpa using h2
  have hi':i < l'.length:=by omega
  have:=h i hi
  simpa [List.getD_eq_getElem?_getD,hi,hi'] using this
def shAt (m d:Nat):Nat→Nat:=fun n=>if n < d then n else n+m
theorem upr_shAt (m d:Nat):∀n,upr (shAt m d) n=shAt m (d+1) n
 | 0=>by unfold shAt;rw[ifp];rfl
 | n+1=>by
  show shAt m d n+1=_
  unfold shAt
  by_cases h:n < d
  ·rw[if_pos h,ifp]
  ·rw[if_neg h,ifn];omega
theorem uprN_shAt (m d k:Nat)(hk:k=0∨k=1)(n:Nat):uprN k (shAt m d) n=shAt m (d+k) n:=by
 rcases hk with rfl|rfl
 ·rfl
 ·exact upr_shAt m d n
theorem vmap_toC (m:Nat)(T:Tree):∀(d:Nat) (y:Tree),Plain T→(d:Int)+sizeN T≤lim→vmap (fM m 0) T d=some y→toC y=ren (shAt m d) (toC T):=by
 induction T using Tree.ind' with
 | h0=>intro d y hp;cases hp
 | h1 T hT ih =>
  intro d y hp hd h
  obtain⟨v1,v2,v3,v4,v5,v6⟩:=vmap_inv h
  have hs:=sizeN_kids hT
  by_cases hk:T.kind=110
  ·have v6:=(v6 hk).1
   have hn:0≤T.n:=by
    cases T with
    | nil=>exact absurd rfl hT
    | node k n nm mk l=>exact ((hp.inv.2.1 hk).2.2).1
   rw[toC_var v1 (by rw[v2];exact hk),toC_var hT hk,ren_var]
   congr 1
   unfold fM at v6
   unfold shAt
   by_cases c:(d:Int)≤T.n
   ·rw[if_pos ⟨c,by omega⟩]at v6
    split at v6
    ·cases v6
    ·have:=Option.some.inj v6
     rw[ifn];omega
   ·rw[ifn]at v6
    have:=Option.some.inj v6
    rw[ifp];omega
  ·obtain⟨_,v5⟩:=v5 hk
   obtain⟨u1,u2⟩:=vmaps_get v5
   rw[toC_op v1 (by rw[v2];exact hk),toC_op hT hk,ren_op,v2,v3]
   congr 1
   refine map_ext2 u1 fun i hi=>?_
   have hm:=getD_mem hi
   have s1:=sizesN_mem hm
   have hb:=bd_binds T
   have hb1:=bd_one T.kind
   have:=ih _ hm (d+bd T.kind) _ (Ex.plain_kids hp _ hm) (by omega) (by have:=u2 i hi;rwa [hb]at this)
   rw[this]
   exact ren_ext _ fun n=>(uprN_shAt m d _ hb1 n).symm
def sAt (i d:Nat)(b:Cn):Nat→Cn:=fun n=>if n < d then .var n else if n - d < i then .var n else if n - d=i then ren (fun n=>n+d) b else .var (n - 1)
theorem up_sAt (i d:Nat)(b:Cn):∀n,up (sAt i d b) n=sAt i (d+1) b n
 | 0=>by unfold sAt;rw[ifp];rfl
 | n+1=>by
  show ren Nat.succ (sAt i d b n)=_
  unfold sAt
  by_cases h1:n < d
  ·rw[if_pos h1,ifp,ren_var]
  rw[if_neg h1,if_neg (show ¬n+1 < d+1 by omega)]
  by_cases h2:n - d < i
  ·rw[if_pos h2,ifp,ren_var]
  rw[if_neg h2,if_neg (show ¬n+1 - (d+1) < i by omega)]
  by_cases h3:n - d=i
  ·rw[if_pos h3,ifp,ren_ren]
   exact ren_ext b fun m=>by show m+d+1=m+(d+1);omega
  ·rw[if_neg h3,ifn,ren_var]
   congr 1
   show n - 1+1=n+1 - 1
   omega
theorem upN_sAt (i d:Nat)(b:Cn)(k:Nat)(hk:k=0∨k=1)(n:Nat):upN k (sAt i d b) n=sAt i (d+k) b n:=by
 rcases hk with rfl|rfl
 ·rfl
 ·exact up_sAt i d b n
theorem put_varG {D:Int}{s T y:Tree}{d:Int}(hp:Plain T)(hk:T.kind=110)(hd:0≤d∧d≤lim)(h:rputF D s T d=some y) :
  (d≤T.n∧T.n - d=D∧rmovedF d 0 s 0=some y)∨(d≤T.n∧D < T.n - d∧y≠.nil∧y.kind=110∧y.n=T.n - 1)∨(¬(d≤T.n∧D≤T.n - d)∧y=T):=by
 cases T with
 | nil=>cases hp
 | node k n nm mk l =>
  have hlim:lim=1099511627776:=rfl
  obtain⟨q1,q2,_⟩:=hp.inv
  have hk:k=110:=hk
  obtain⟨rfl,rfl,q3,q4⟩:=q2 hk
  subst q1 hk
  have hw:d≤n→IntKind.i64.wrap (n - d)=n - d:=fun _=>by rw[wrap64]<;>omega
  rw[rputF]at h
  show (d≤n∧n - d=D∧_)∨(d≤n∧D < n - d∧_∧_∧y.n=n - 1)∨(¬(d≤n∧D≤n - d)∧_)
  by_cases c1:pHit D (.node 110 n ByteArray.empty ByteArray.empty []) d
  ·rw[if_pos c1]at h
   obtain⟨_,e1,e2⟩:=c1
   have e1:d≤n:=e1
   have e2:IntKind.i64.wrap (n - d)=D:=e2
   rw[hw e1]at e2
   exact .inl ⟨e1,e2,h⟩
  ·rw[if_neg c1]at h
   by_cases c2:pAbove D (.node 110 n ByteArray.empty ByteArray.empty []) d
   ·rw[if_pos c2]at h
    obtain⟨_,e1,e2⟩:=c2
    have e1:d≤n:=e1
    have e2:D < IntKind.i64.wrap (n - d):=e2
    rw[hw e1]at e2
    rw[rputsF]at h
    cases h
    refine .inr (.inl ⟨e1,e2,by simp,rfl,?_⟩)
    show IntKind.i64.wrap (n - 1)=n - 1
    rw[wrap64]<;>omega
   ·rw[if_neg c2,rputsF]at h
    cases h
    refine .inr (.inr ⟨fun⟨e1,e2⟩=>?_,rfl⟩)
    by_cases e3:n - d=D
    ·exact c1 ⟨rfl,e1,by show IntKind.i64.wrap (n - d)=D;rw[hw e1];exact e3⟩
    ·exact c2 ⟨rfl,e1,by show D < IntKind.i64.wrap (n - d);rw[hw e1];omega⟩
theorem ren_add_zero (b:Cn):ren (fun n=>n+0) b=b:=by
 rw[ren_as_sub]
 conv=>rhs;rw[←sub_id b]
 exact sub_ext b fun n=>rfl
theorem shAt_zero (m:Nat)(n:Nat):shAt m 0 n=n+m:=by unfold shAt;rw[ifn]
theorem put_toC (i:Nat)(hi:i≤65536)(B:Tree)(hB:Plain B)(hz:sizeN B≤65536)(T:Tree):∀(d:Nat) (y:Tree),Plain T→(d:Int)+sizeN T≤549755813888→rputF i B T d=some y→toC y=sub (sAt i d (toC B)) (toC T):=by
 induction T using Tree.ind' with
 | h0=>intro d y hp;cases hp
 | h1 T hT ih =>
  intro d y hp hd h
  have hlim:lim=1099511627776:=rfl
  have hs:=sizeN_kids hT
  by_cases hk:T.kind=110
  ·have hn:0≤T.n:=by
    cases T with
    | nil=>exact absurd rfl hT
    | node k n nm mk l=>exact ((hp.inv.2.1 hk).2.2).1
   rw[toC_var hT hk,sub_var]
   unfold sAt
   rcases put_varG hp hk ⟨by omega,by omega⟩ h with⟨h1,h2,h3⟩|⟨h1,h2,h3,h4,h5⟩|⟨h1,h2⟩
   ·rw[ifn,ifn,ifp]
    rw[rmoved_vmap d 0 B 0 hB (by omega) (by omega)]at h3
    rw[vmap_toC d B 0 y hB (by omega) h3]
    exact ren_ext _ fun n=>shAt_zero d n
   ·rw[ifn,ifn,ifn,toC_var h3 h4,h5]
    congr 1
    omega
   ·rw[h2,toC_var hT hk]
    by_cases c:T.n.toNat < d
    ·rw[if_pos c]
    ·rw[if_neg c,ifp]
  ·obtain⟨p1,p2,p3,p4,p5,_⟩:=Ex.put_inv hp hk h
   obtain⟨u1,u2⟩:=Ex.put_kids hp hk ⟨by omega,by omega⟩ h
   rw[toC_op p1 (by rw[p2];exact hk),toC_op hT hk,sub_op,p2,p4]
   congr 1
   refine map_ext2 u1 fun j hj=>?_
   have hm:=getD_mem hj
   have s1:=sizesN_mem hm
   have hb:=bd_binds T
   have hb1:=bd_one T.kind
   have:=ih _ hm (d+bd T.kind) _ (Ex.plain_kids hp _ hm) (by omega) (by have:=u2 j hj;rwa [hb]at this)
   rw[this]
   exact sub_ext _ fun n=>(upN_sAt i d _ _ hb1 n).symm
theorem sAt_zero (b:Cn):∀n,sAt 0 0 b n=s0 b n
 | 0=>by unfold sAt;rw[ifn,ifn,if_pos rfl,ren_add_zero];rfl
 | n+1=>by unfold sAt;rw[ifn,ifn,ifn];rfl
theorem subst_toC {N B s:Tree}(h:substR N 0 B=(s,0)):toC s=inst (toC N) (toC B):=by
 obtain⟨h1,h2,_,h4⟩:=Ki.subst_inv h
 have z1:=conE_size h1
 have z2:=conE_size h2
 have:=put_toC 0 (by omega) B (conE_plain h2) (by omega) N 0 s (conE_plain h1) (by omega) h4
 rw[this]
 exact sub_ext _ (sAt_zero _)
end Cn
end Go.Proofs.YtlgajkoplklkiaaGreat
namespace Go.Proofs.YtlgajkoplklkiaaGreat
namespace Cn
open Go Go.Mq
theorem getD_map_toC {l:List Tree}{i:Nat}(h:i < (l.map toC).length):(l.map toC)[i]=toC (l.getD i .nil):=by
 have h':i < l.length:=by simpa using h
 simp[List.getD_eq_getElem?_getD,h']
theorem two_of {l:List Tree}(h:l.length=2):l=[l.getD 0 .nil,l.getD 1 .nil]:=by
 match l,h with
 | [a,b],_=>rfl
theorem redex_toC {T:Tree}(hT:T≠.nil)(hA:No.Ap T)(hr:No.redexF T):∃nm':ByteArray,toC T=.op 120 T.name [.op 119 nm' [toC ((T.kids.getD 0 .nil).kids.getD 0 .nil),toC ((T.kids.getD 0 .nil).kids.getD 1 .nil)],toC (T.kids.getD 1 .nil)]:=by
 obtain⟨h1,h2⟩:=hr
 have l1:=hA.two (.inr h1)
 have hm:T.kids.getD 0 .nil∈T.kids:=getD_mem (by omega)
 have hA0:=hA.k _ hm
 have l2:=hA0.two (.inl h2)
 have hn0:T.kids.getD 0 .nil≠.nil:=by intro e;rw[e]at h2;cases h2
 refine⟨(T.kids.getD 0 .nil).name,?_⟩
 rw[toC_op hT (by omega),h1]
 conv=>lhs;rw[two_of l1]
 simp only[List.map_cons,List.map_nil]
 rw[toC_op hn0 (by omega),h2]
 conv=>lhs;rw[two_of l2]
 simp only[List.map_cons,List.map_nil]
theorem step_par (T:Tree):Plain T→No.Ap T→∀m,No.stepF T=some (m,0)→Par (toC T) (toC m):=by
 induction T using Tree.ind' with
 | h0=>intro hp;cases hp
 | h1 T hT ih =>
  intro hp hA m h
  rw[No.stepF_eq hT]at h
  by_cases hr:No.redexF T
  ·rw[if_pos hr]at h
   have h:=Option.some.inj h
   unfold No.redR at h
   obtain⟨nm',e⟩:=redex_toC hT hA hr
   rw[e,subst_toC h]
   exact .beta (.refl _) (.refl _)
  ·rw[if_neg hr]at h
   cases hs:No.stepsF T.kids with
   | none=>rw[hs]at h;cases h
   | some p =>
    obtain⟨l',e⟩:=p
    rw[hs]at h
    have h:=Option.some.inj h
    obtain⟨rfl,rfl⟩:=Prod.mk.inj h
    obtain⟨i,x',hi,hx,rfl⟩:=Ki.steps_get hs
    have hk:T.kind≠110:=by
     intro hk
     cases T with
     | nil=>exact absurd rfl hT
     | node k n nm mk l =>
      have:=(hp.inv.2.1 hk).2.1
      subst this
      simp[Tree.kids]at hi
    rw[toC_op hT hk,toC_op (by simp) (by exact hk)]
    refine .op (by simp[Tree.kids]) fun j h1 h2=>?_
    rw[getD_map_toC,getD_map_toC]
    show Par (toC (T.kids.getD j .nil)) (toC ((T.kids.set i x').getD j .nil))
    rw[Ki.set_get]
    by_cases hij:i=j
    ·subst hij
     rw[if_pos ⟨rfl,hi⟩]
     have hm:=getD_mem hi
     exact ih _ hm (Ex.plain_kids hp _ hm) (hA.k _ hm) _ hx
    ·rw[if_neg (fun q=>hij q.1)];exact .refl _
theorem steps_none:∀{l:List Tree},No.stepsF l=none→∀x∈l,No.stepF x=none
 | [],_,x,hx=>by cases hx
 | y::l,h,x,hx=>by
  rw[No.stepsF]at h
  cases hy:No.stepF y with
  | some p=>rw[hy]at h;cases h
  | none =>
   rw[hy]at h
   rcases List.mem_cons.1 hx with rfl|hx
   ·exact hy
   ·cases hs:No.stepsF l with
    | some p=>rw[hs]at h;cases h
    | none=>exact steps_none hs x hx
def Nf (c:Cn):Prop:=∀x,Par c x→x=c
theorem nf_red {c x:Cn}(h:Nf c)(hr:Red c x):x=c:=by
 induction hr with
 | refl=>rfl
 | step h1 _ ih =>
  have:=h _ h1
  subst this
  exact ih h
theorem nf_step (T:Tree):Plain T→No.stepF T=none→Nf (toC T):=by
 induction T using Tree.ind' with
 | h0=>intro hp;cases hp
 | h1 T hT ih =>
  intro hp h x hx
  by_cases hk:T.kind=110
  ·rw[toC_var hT hk]at hx ⊢
   cases hx;rfl
  rw[No.stepF_eq hT]at h
  by_cases hr:No.redexF T
  ·rw[if_pos hr]at h;cases h
  rw[if_neg hr]at h
  have hs:No.stepsF T.kids=none:=by
   cases hs:No.stepsF T.kids with
   | none=>rfl
   | some p=>rw[hs]at h;cases h
  have hall:=steps_none hs
  generalize hc:toC T=c at hx
  have e:=toC_op hT hk
  rw[hc]at e
  cases hx with
  | var n=>cases e
  | @op k nm l l' hl hp2 =>
   cases e
   congr 1
   apply List.ext_getElem hl
   intro i h1 h2
   have hi:i < T.kids.length:=by simpa using h2
   have:=ih _ (getD_mem hi) (Ex.plain_kids hp _ (getD_mem hi)) (hall _ (getD_mem hi)) l'[i] (by
    have:=hp2 i h2 h1
    rwa [getD_map_toC]at this)
   rw[this,getD_map_toC]
  | @beta nm nm' K B A B' A' hB hA =>
   exfalso
   simp only[Cn.op.injEq]at e
   obtain⟨e1,_,e2⟩:=e
   have hlen:T.kids.length=2:=by have:=congrArg List.length e2;simpa using this.symm
   have h0:toC (T.kids.getD 0 .nil)=.op 119 nm' [K,B]:=by
    have:=getD_map_toC (l:=T.kids) (i:=0) (by simp;omega)
    rw[←this]
    simp only[←e2]
    rfl
   apply hr
   refine⟨e1.symm,?_⟩
   have hn0:T.kids.getD 0 .nil≠.nil:=by
    intro q
    rw[q,toC]at h0;cases h0
   by_cases hk0:(T.kids.getD 0 .nil).kind=110
   ·rw[toC_var hn0 hk0]at h0;cases h0
   ·rw[toC_op hn0 hk0]at h0
    exact (Cn.op.inj h0).1
theorem norm_stop {T:Tree}(h1:(No.nstepR T).2.2=0)(h2:(No.nstepR T).2.1=false):Nf (toC T)∧conE T=0:=by
 obtain⟨g1,g2⟩:=No.nstep_zero h1
 rw[g2]at h1 h2
 exact⟨nf_step T (conE_plain g1) (No.out_none h2 h1),g1⟩
theorem norm_go {T:Tree}(h1:(No.nstepR T).2.2=0)(h2:(No.nstepR T).2.1=true):Par (toC T) (toC (No.nstepR T).1):=by
 obtain⟨g1,g2⟩:=No.nstep_zero h1
 have:No.nstepR T=((No.nstepR T).1,true,0):=Prod.ext rfl (Prod.ext h2 h1)
 rw[g2]at this
 have:=No.out_more this
 rw[←g2]at this
 exact step_par T (conE_plain g1) (No.con_Ap T (conE_full g1).2) _ this
theorem norm_red:∀(k:Nat) (T N:Tree),No.normF k T=(N,0)→Red (toC T) (toC N)∧Nf (toC N)∧conE N=0:=by
 intro k
 induction k with
 | zero =>
  intro T N h
  rw[No.normF]at h
  by_cases h1:(No.nstepR T).2.2=0
  ·rw[if_neg (by simp[h1])]at h
   by_cases h2:(No.nstepR T).2.1=true
   ·rw[if_pos h2]at h;cases h
   ·rw[if_neg h2]at h
    cases h
    exact⟨.refl _,norm_stop h1 (by simpa using h2)⟩
  ·rw[if_pos h1]at h
   exact absurd (Prod.mk.inj h).2 h1
 | succ k ih =>
  intro T N h
  rw[No.normF]at h
  by_cases h1:(No.nstepR T).2.2=0
  ·rw[if_neg (by simp[h1])]at h
   by_cases h2:(No.nstepR T).2.1=true
   ·rw[if_pos h2]at h
    obtain⟨q1,q2⟩:=ih _ _ h
    exact⟨.step (norm_go h1 h2) q1,q2⟩
   ·rw[if_neg h2]at h
    cases h
    exact⟨.refl _,norm_stop h1 (by simpa using h2)⟩
  ·rw[if_pos h1]at h
   exact absurd (Prod.mk.inj h).2 h1
theorem normR_red {T N:Tree}(h:No.normR T=(N,0)):Red (toC T) (toC N)∧Nf (toC N)∧conE N=0:=norm_red _ _ _ h
theorem nf_eqv {a b:Cn}(h:Eqv a b)(ha:Nf a)(hb:Nf b):a=b:=by
 obtain⟨c,h1,h2⟩:=h
 rw[←nf_red ha h1,←nf_red hb h2]
theorem shift_toC {T y:Tree}(h:shiftR T 1 0=(y,0)):toC y=ren Nat.succ (toC T)∧conE T=0:=by
 unfold shiftR at h
 by_cases h1:conE T=0
 ·rw[if_pos h1]at h
  have hp:=conE_plain h1
  have hz:=conE_size h1
  have hlim:lim=1099511627776:=rfl
  rw[show decide ((0:Int)≤0)=true from rfl]at h
  obtain⟨q1,q2⟩:=shift_plain 0 1 T 0 hp
  cases hm:rmovedF 1 0 T 0 with
  | none =>
   rw[q2 hm,if_neg (by decide)]at h
   cases h
  | some x =>
   rw[q1 x hm]at h
   rw[if_pos rfl]at h
   obtain⟨rfl,_⟩:=Prod.mk.inj h
   rw[rmoved_vmap 1 0 T 0 hp (by omega) (by omega)]at hm
   refine⟨?_,h1⟩
   rw[vmap_toC 1 T 0 _ hp (by omega) hm]
   exact ren_ext _ fun n=>shAt_zero 1 n
 ·rw[if_neg h1]at h
  exact absurd (Prod.mk.inj h).2 h1
end Cn
end Go.Proofs.YtlgajkoplklkiaaGreat
namespace Go.Proofs.YtlgajkoplklkiaaGreat
namespace Cn
open Go
theorem par_ren_inv (c:Cn):∀(r:Nat→Nat) (x:Cn),Par (ren r c) x→∃y,x=ren r y∧Par c y:=by
 induction c using Cn.ind with
 | hv n =>
  intro r x h
  rw[ren_var]at h
  cases h
  exact⟨.var n,(ren_var r n).symm,.var n⟩
 | ho k nm l ih =>
  intro r x h
  rw[ren_op]at h
  generalize he:Cn.op k nm (l.map (ren (uprN (bd k) r)))=z at h
  cases h with
  | var n=>cases he
  | @op k' nm' l1 l2 hl hp =>
   cases he
   have hlen:l2.length=l.length:=by simpa using hl
   have key:∀(l l2:List Cn),l2.length=l.length→(∀x∈l,∀(r:Nat→Nat) (y:Cn),Par (ren r x) y→∃z,y=ren r z∧Par x z)→(∀i (h1:i < l.length) (h2:i < l2.length),Par (ren (uprN (bd k) r) l[i]) l2[i]) →
     ∃l3:List Cn,l3.length=l.length∧l2=l3.map (ren (uprN (bd k) r))∧∀i (h1:i < l.length) (h2:i < l3.length),Par l[i] l3[i]:=by
    intro l
    induction l with
    | nil=>intro l2 e _ _;exact⟨[],rfl,by simpa using e,fun i h1=>by simp at h1⟩
    | cons a l ihl =>
     intro l2 e hx hp
     match l2,e with
     | b::l2,e =>
      obtain⟨z,e1,e2⟩:=hx a (by simp) _ _ (hp 0 (by simp) (by simp))
      obtain⟨l3,g1,g2,g3⟩:=ihl l2 (by simpa using e) (fun x hx'=>hx x (by simp[hx'])) (fun i h1 h2=>hp (i+1) (by simpa using h1) (by simpa using h2))
      have e1:b=ren (uprN (bd k) r) z:=e1
      refine⟨z::l3,by simp[g1],by rw[e1,g2];rfl,fun i h1 h2=>?_⟩
      cases i with
      | zero=>exact e2
      | succ i=>exact g3 i (by simpa using h1) (by simpa using h2)
   obtain⟨l3,g1,g2,g3⟩:=key l l2 hlen ih (fun i h1 h2=>by have:=hp i (by simpa using h1) h2;simpa using this)
   refine⟨.op k nm l3,by rw[ren_op,g2],.op g1 g3⟩
  | @beta nm1 nm2 K B A B' A' hB hA =>
   simp only[Cn.op.injEq]at he
   obtain⟨rfl,rfl,he⟩:=he
   have hll:l.length=2:=by have:=congrArg List.length he;simpa using this
   match l,hll,he with
   | [f,a],_,he =>
    simp only[List.map_cons,List.map_nil,List.cons.injEq,and_true,bd_app]at he
    obtain⟨he1,he2⟩:=he
    cases f with
    | var n=>rw[ren_var]at he1;cases he1
    | op kf nf lf =>
     rw[ren_op]at he1
     simp only[Cn.op.injEq]at he1
     obtain⟨rfl,rfl,he1⟩:=he1
     have hlf:lf.length=2:=by have:=congrArg List.length he1;simpa using this
     match lf,hlf,he1 with
     | [K0,B0],_,he1 =>
      simp only[List.map_cons,List.map_nil,List.cons.injEq,and_true,bd_lam]at he1
      obtain⟨rfl,rfl⟩:=he1
      subst he2
      have hf:=ih (.op 119 nf [K0,B0]) (by simp) r (.op 119 nf [ren (uprN (bd 119) r) K0,B']) (by
       rw[ren_op]
       refine .op rfl fun i h1 h2=>?_
       match i,h1 with
       | 0,_=>exact .refl _
       | 1,_=>simp only[List.map_cons,List.getElem_cons_succ,List.getElem_cons_zero];rw[bd_lam];exact hB)
      obtain⟨y,ey,py⟩:=hf
      obtain⟨K1,B1,rfl,pB⟩:=par_lam py
      rw[ren_op]at ey
      simp only[Cn.op.injEq,List.map_cons,List.map_nil,List.cons.injEq,and_true,true_and,bd_lam]at ey
      obtain⟨_,rfl⟩:=ey
      obtain⟨A1,rfl,pA⟩:=ih a (by simp) r A' hA
      exact⟨inst B1 A1,by rw[ren_inst];rfl,.beta pB pA⟩
def Free0 (c:Cn):Prop:=∃c',c=ren Nat.succ c'
inductive Pl:Cn→Prop
 | var (n:Nat):Pl (.var n)
 | rcd {nm:ByteArray} {l:List Cn} (ns:Nat→ByteArray) (cs:Nat→Cn) (he:∀i (hi:i < l.length),l[i]=.op 116 (ns i) [cs i]) (h:∀i,i < l.length→Pl (cs i)):Pl (.op 115 nm l)
 | free {c:Cn} (h:Free0 c):Pl c
theorem Free0.par {c d:Cn}(h:Free0 c)(hp:Par c d):Free0 d:=by
 obtain⟨c',rfl⟩:=h
 obtain⟨y,rfl,_⟩:=par_ren_inv c' _ _ hp
 exact⟨y,rfl⟩
theorem Free0.sub {c:Cn}(h:Free0 c)(s:Nat→Cn):Free0 (sub (up s) c):=by
 obtain⟨c',rfl⟩:=h
 refine⟨Cn.sub s c',?_⟩
 rw[sub_ren,ren_sub]
 exact sub_ext _ fun n=>rfl
theorem par_field {k:Int}(hk:k≠120){nm:ByteArray}{c x:Cn}(h:Par (.op k nm [c]) x):∃c',x=.op k nm [c']∧Par c c':=by
 generalize hz:Cn.op k nm [c]=z at h
 cases h with
 | var=>cases hz
 | @op _ _ _ l' hl h =>
  cases hz
  match l',hl with
  | [c'],_=>exact⟨c',rfl,h 0 (by simp) (by simp)⟩
 | beta=>cases hz
theorem Pl.of_rcd {nm:ByteArray}{l:List Cn}(h:∀i (hi:i < l.length),∃nm' c,l[i]=.op 116 nm' [c]∧Pl c):Pl (.op 115 nm l):=by
 have h':∀i,∃p:ByteArray×Cn,∀hi:i < l.length,l[i]=.op 116 p.1 [p.2]∧Pl p.2:=fun i=>by
  by_cases hi:i < l.length
  ·obtain⟨a,b,q⟩:=h i hi
   exact⟨(a,b),fun _=>q⟩
  ·exact⟨(ByteArray.empty,.var 0),fun q=>absurd q hi⟩
 have f:=fun i=>Classical.choose (h' i)
 exact .rcd (fun i=>(Classical.choose (h' i)).1) (fun i=>(Classical.choose (h' i)).2) (fun i hi=>(Classical.choose_spec (h' i) hi).1) fun i hi=>(Classical.choose_spec (h' i) hi).2
theorem Pl.par {c d:Cn}(h:Pl c):Par c d→Pl d:=by
 induction h generalizing d with
 | var n=>intro hp;cases hp;exact .var n
 | @rcd nm l ns cs he h ih =>
  intro hp
  cases hp with
  | @op _ _ _ l' hl hp =>
   refine .of_rcd fun i hi=>?_
   have:=hp i (by omega) hi
   rw[he i (by omega)]at this
   obtain⟨c',e2,pc⟩:=par_field (by decide) this
   exact⟨ns i,c',e2,ih i (by omega) pc⟩
 | free h=>intro hp;exact .free (h.par hp)
theorem bd_rec:bd 115=0:=by unfold bd;rw[if_neg (by decide)]
theorem bd_field:bd 116=0:=by unfold bd;rw[if_neg (by decide)]
theorem bd_case:bd 122=0:=by unfold bd;rw[if_neg (by decide)]
theorem bd_sum:bd 121=1:=by unfold bd;rw[if_pos (by decide)]
theorem Pl.sub {c:Cn}(h:Pl c)(s:Nat→Cn):Pl (sub (up s) c):=by
 induction h with
 | var n =>
  rw[sub_var]
  cases n with
  | zero=>exact .var 0
  | succ n=>exact .free ⟨s n,rfl⟩
 | @rcd nm l ns cs he h ih =>
  rw[sub_op,bd_rec]
  refine .of_rcd fun i hi=>?_
  have hi':i < l.length:=by simpa using hi
  refine⟨ns i,Cn.sub (up s) (cs i),?_,ih i hi'⟩
  rw[List.getElem_map]
  show Cn.sub (up s) l[i]=_
  rw[he i hi',sub_op,bd_field]
  rfl
 | free h=>exact .free (h.sub s)
theorem Pl.ren {c:Cn}(h:Pl c)(r:Nat→Nat):Pl (ren (upr r) c):=by
 rw[ren_as_sub,sub_ext c (b:=up fun n=>.var (r n)) fun n=>by cases n with
  | zero=>rfl
  | succ n=>show Cn.var (r n+1)=Cn.ren _ (.var (r n));rw[ren_var]]
 exact h.sub _
inductive Fit:Cn→Prop
 | var (n:Nat):Fit (.var n)
 | op {k:Int} {nm:ByteArray} {l:List Cn} (ns:Nat→ByteArray) (cs:Nat→Cn) (he:k=121→∀i (hi:i < l.length),l[i]=.op 122 (ns i) [cs i]) (hp:k=121→∀i,i < l.length→Pl (cs i)) (h:∀i (hi:i < l.length),Fit l[i]):Fit (.op k nm l)
theorem Fit.of {k:Int}{nm:ByteArray}{l:List Cn}(h:k=121→∀i (hi:i < l.length),∃nm' c,l[i]=.op 122 nm' [c]∧Pl c)(hf:∀i (hi:i < l.length),Fit l[i]):Fit (.op k nm l):=by
 by_cases hk:k=121
 ·have h:=h hk
  have h':∀i,∃p:ByteArray×Cn,∀hi:i < l.length,l[i]=.op 122 p.1 [p.2]∧Pl p.2:=fun i=>by
   by_cases hi:i < l.length
   ·obtain⟨a,b,q⟩:=h i hi
    exact⟨(a,b),fun _=>q⟩
   ·exact⟨(ByteArray.empty,.var 0),fun q=>absurd q hi⟩
  exact .op (fun i=>(Classical.choose (h' i)).1) (fun i=>(Classical.choose (h' i)).2) (fun _ i hi=>(Classical.choose_spec (h' i) hi).1) (fun _ i hi=>(Classical.choose_spec (h' i) hi).2) hf
 ·exact .op (fun _=>ByteArray.empty) (fun _=>.var 0) (fun e=>absurd e hk) (fun e=>absurd e hk) hf
theorem Fit.sum {nm:ByteArray}{l:List Cn}(h:Fit (.op 121 nm l)):∀i (hi:i < l.length),∃nm' c,l[i]=.op 122 nm' [c]∧Pl c:=by
 cases h with
 | op ns cs he hp h=>exact fun i hi=>⟨_,_,he rfl i hi,hp rfl i hi⟩
theorem Fit.kids {k:Int}{nm:ByteArray}{l:List Cn}(h:Fit (.op k nm l)):∀i (hi:i < l.length),Fit l[i]:=by
 cases h with
 | op ns cs he hp h=>exact h
theorem Fit.ren {c:Cn}(h:Fit c):∀r:Nat→Nat,Fit (ren r c):=by
 induction h with
 | var n=>intro r;rw[ren_var];exact .var _
 | @op k nm l ns cs he hp h ih =>
  intro r
  rw[ren_op]
  refine .of (fun hk i hi=>?_) fun i hi=>?_
  ·have hi':i < l.length:=by simpa using hi
   subst hk
   refine⟨ns i,Cn.ren (upr r) (cs i),?_,(hp rfl i hi').ren r⟩
   rw[List.getElem_map,he rfl i hi',ren_op,bd_sum,bd_case]
   rfl
  ·rw[List.getElem_map];exact ih i (by simpa using hi) _
theorem Fit.up {s:Nat→Cn}(h:∀n,Fit (s n)):∀n,Fit (up s n)
 | 0=>.var 0
 | n+1=>(h n).ren _
theorem Fit.upN:∀(d:Nat) {s:Nat→Cn} (_:∀n,Fit (s n)) (n:Nat),Fit (upN d s n)
 | 0,_,h,n=>h n
 | d+1,_,h,n=>Fit.upN d (Fit.up h) n
theorem Fit.sub {c:Cn}(h:Fit c):∀{s:Nat→Cn},(∀n,Fit (s n))→Fit (sub s c):=by
 induction h with
 | var n=>intro s hs;rw[sub_var];exact hs n
 | @op k nm l ns cs he hp h ih =>
  intro s hs
  rw[sub_op]
  refine .of (fun hk i hi=>?_) fun i hi=>?_
  ·have hi':i < l.length:=by simpa using hi
   subst hk
   refine⟨ns i,Cn.sub (Cn.up s) (cs i),?_,(hp rfl i hi').sub s⟩
   rw[List.getElem_map,he rfl i hi',sub_op,bd_sum,bd_case]
   rfl
  ·rw[List.getElem_map];exact ih i (by simpa using hi) (Fit.upN _ hs)
theorem Fit.par {c d:Cn}(h:Fit c):Par c d→Fit d:=by
 intro hp
 induction hp with
 | var n=>exact h
 | @op k nm l l' hl hp ih =>
  refine .of (fun hk i hi=>?_) fun i hi=>ih i (by omega) hi (h.kids i (by omega))
  subst hk
  obtain⟨nm',c,e,hc⟩:=h.sum i (by omega)
  have:=hp i (by omega) hi
  rw[e]at this
  obtain⟨c',e2,pc⟩:=par_field (by decide) this
  exact⟨nm',c',e2,hc.par pc⟩
 | @beta nm nm' K B A B' A' hB hA ihB ihA =>
  have hL:=h.kids 0 (by simp)
  have hB2:=hL.kids 1 (by simp)
  have hA2:=h.kids 1 (by simp)
  exact (ihB hB2).sub fun n=>by cases n with
   | zero=>exact ihA hA2
   | succ n=>exact .var n
theorem Fit.red {c d:Cn}(h:Fit c)(hr:Red c d):Fit d:=by
 induction hr with
 | refl=>exact h
 | step hp _ ih=>exact ih (h.par hp)
end Cn
end Go.Proofs.YtlgajkoplklkiaaGreat
namespace Go.Proofs.YtlgajkoplklkiaaGreat
namespace Cn
open Go Go.Mq Ki
def sk (d:Nat):Nat→Nat:=fun n=>if n < d then n else if n=d then d+1 else n
theorem upr_sk (d:Nat):∀n,upr (sk d) n=sk (d+1) n
 | 0=>by unfold sk;rw[ifp];rfl
 | n+1=>by
  show sk d n+1=_
  unfold sk
  by_cases h1:n < d
  ·rw[if_pos h1,ifp]
  ·rw[if_neg h1,if_neg (show ¬n+1 < d+1 by omega)]
   by_cases h2:n=d
   ·rw[if_pos h2,ifp]
   ·rw[if_neg h2,ifn]
theorem uprN_sk (d k:Nat)(hk:k=0∨k=1)(n:Nat):uprN k (sk d) n=sk (d+k) n:=by
 rcases hk with rfl|rfl
 ·rfl
 ·exact upr_sk d n
theorem hitss_zero {i:Int}:∀{l:List Tree} {d:Int},hitssN i l d=0→∀x∈l,hitsN i x d=0
 | [],d,_,x,hx=>by cases hx
 | y::l,d,h,x,hx=>by
  rw[hitssN]at h
  rcases List.mem_cons.1 hx with rfl|hx
  ·omega
  ·exact hitss_zero (by omega) x hx
theorem hits_sk (T:Tree):∀d:Nat,Plain T→(d:Int)+sizeN T≤lim→hitsN 0 T d=0→ren (sk d) (toC T)=toC T:=by
 induction T using Tree.ind' with
 | h0=>intro d hp;cases hp
 | h1 T hT ih =>
  intro d hp hd h
  have hlim:lim=1099511627776:=rfl
  have hs:=sizeN_kids hT
  have hbb:=bd_binds T
  have hb1:=bd_one T.kind
  cases T with
  | nil=>exact absurd rfl hT
  | node k n nm mk l =>
   rw[hitsN]at h
   by_cases hk:k=110
   ·obtain⟨_,q2,_⟩:=hp.inv
    obtain⟨_,rfl,q3,q4⟩:=q2 hk
    rw[toC_var hT hk,ren_var]
    congr 1
    show sk d n.toNat=n.toNat
    unfold sk
    by_cases c1:n.toNat < d
    ·rw[if_pos c1]
    ·rw[if_neg c1]
     by_cases c2:n.toNat=d
     ·exfalso
      rw[if_pos ⟨hk,by omega,by rw[wrap64]<;>omega⟩]at h
      omega
     ·rw[if_neg c2]
   ·rw[toC_op hT hk,ren_op]
    congr 1
    have h2:hitssN 0 l (IntKind.i64.wrap ((d:Int)+bindsF (.node k n nm mk l)))=0:=by omega
    rw[wrap64 (by omega) (by omega),hbb]at h2
    have hz:=hitss_zero h2
    rw[List.map_map]
    refine List.map_congr_left fun x hx=>?_
    have s1:=sizesN_mem hx
    have:=ih x hx (d+bd k) (Ex.plain_kids hp x hx) (by simp only[Tree.kids,Tree.kind]at *;omega) (hz x hx)
    show ren _ (toC x)=toC x
    rw[ren_ext _ (uprN_sk d (bd (Tree.node k n nm mk l).kind) hb1)]
    exact this
theorem hits_free {T:Tree}(hp:Plain T)(hz:sizeN T≤65536)(h:hitsN 0 T 0=0):Free0 (toC T):=by
 have:=hits_sk T 0 hp (by have:lim=1099511627776:=rfl;omega) h
 refine⟨ren (fun n=>n - 1) (toC T),?_⟩
 have e:ren Nat.succ (ren (fun n=>n - 1) (ren (sk 0) (toC T)))=ren (sk 0) (toC T):=by
  rw[ren_ren,ren_ren]
  refine ren_ext _ fun n=>?_
  unfold sk
  by_cases c:n=0
  ·subst c;rfl
  ·rw[ifn,if_neg c]
   show n - 1+1=n
   omega
 rw[this]at e
 exact e.symm
theorem placeds_mem:∀{l:List Tree},placedsF l=true→∀x∈l,placedF (x.kids.getD 0 .nil)=true
 | [],_,x,hx=>by cases hx
 | y::l,h,x,hx=>by
  rw[placedsF,Bool.and_eq_true]at h
  rcases List.mem_cons.1 hx with rfl|hx
  ·rw[←placedAt_eq];exact h.1
  ·exact placeds_mem h.2 x hx
theorem field_toC {kind:Int}(hk:kind≠110){x:Tree}(h:fieldF kind x=true):toC x=.op kind x.name [toC (x.kids.getD 0 .nil)]∧isConF (x.kids.getD 0 .nil)=true∧x≠.nil∧x.kids.length=1:=by
 have hx:x≠.nil:=by intro e;subst e;rw[fieldF]at h;cases h
 rw[fieldF_eq hx]at h
 simp only[Bool.and_eq_true,beq_iff_eq]at h
 have hkd:x.kind=kind:=by
  have:=h.1.1.1.1
  simpa using this
 have hl:x.kids.length=1:=by omega
 refine⟨?_,h.2,hx,hl⟩
 rw[toC_op hx (by omega),hkd]
 congr 1
 match hq:x.kids,hl with
 | [a],_=>rfl
theorem rec_fl {T:Tree}(hT:T≠.nil)(h:isConF T=true)(hk:T.kind=115):∀x∈T.kids,fieldF 116 x=true:=by
 rw[isConF_eq hT,Bool.and_eq_true,ifn,ifn,ifn,if_pos hk]at h
 have h:=h.2
 simp only[Bool.and_eq_true]at h
 exact fieldsF_mem h.1
theorem sum_fl {T:Tree}(hT:T≠.nil)(h:isConF T=true)(hk:T.kind=121):∀x∈T.kids,fieldF 122 x=true:=by
 rw[isConF_eq hT,Bool.and_eq_true,ifn,ifn,ifn,ifn,ifn,if_pos hk]at h
 have h:=h.2
 simp only[Bool.and_eq_true]at h
 exact fieldsF_mem h.1.2
theorem placed_Pl (T:Tree):(isConF T=true→sizeN T≤65536→placedF T=true→Pl (toC T))∧∀x∈T.kids,isConF x=true→sizeN x≤65536→placedF x=true→Pl (toC x):=by
 induction T using Tree.ind' with
 | h0=>exact⟨fun h=>by (rw[isConF]at h;cases h),fun x hx=>by cases hx⟩
 | h1 T hT ih =>
  refine⟨fun hc hz hp=>?_,fun x hx=>(ih x hx).1⟩
  rw[placedF_eq hT]at hp
  have hs:=sizeN_kids hT
  by_cases h1:T.kind=110
  ·rw[toC_var hT h1];exact .var _
  rw[if_neg h1]at hp
  by_cases h2:T.kind=115
  ·rw[if_pos h2]at hp
   rw[toC_op hT h1,h2]
   have hf:=rec_fl hT hc h2
   refine .of_rcd fun i hi=>?_
   have hi':i < T.kids.length:=by simpa using hi
   have hm:=getD_mem hi'
   obtain⟨e1,e2,e3,e4⟩:=field_toC (by decide) (hf _ hm)
   have s1:=sizesN_mem hm
   have s2:=sizeN_kids e3
   have s3:=sizesN_mem (getD_mem (l:=(T.kids.getD i .nil).kids) (i:=0) (by omega))
   refine⟨_,_,by rw[getD_map_toC];exact e1,?_⟩
   exact (ih _ hm).2 _ (getD_mem (by omega)) e2 (by omega) (placeds_mem hp _ hm)
  ·rw[if_neg h2]at hp
   refine .free (hits_free (isConF_plain T hc) hz ?_)
   have:=countF_hits 0 T 0 (by omega)
   simp only[Bool.not_eq_true',decide_eq_false_iff_not]at hp
   omega
def Sc (d:Nat)(c:Cn):Prop:=∀s s':Nat→Cn,(∀n,n < d→s n=s' n)→sub s c=sub s' c
def Cl (c:Cn):Prop:=∀s:Nat→Cn,sub s c=c
theorem Sc.cl {c:Cn}(h:Sc 0 c):Cl c:=fun s=>by rw[h s Cn.var (fun n hn=>by omega),sub_id]
theorem Cl.sc {c:Cn}(h:Cl c)(d:Nat):Sc d c:=fun s s' _=>by rw[h s,h s']
theorem upN_agree (d k:Nat)(hk:k=0∨k=1){s s':Nat→Cn}(h:∀n,n < d→s n=s' n):∀n,n < d+k→upN k s n=upN k s' n:=by
 rcases hk with rfl|rfl
 ·exact h
 ·intro n hn
  cases n with
  | zero=>rfl
  | succ n=>show ren _ (s n)=ren _ (s' n);rw[h n (by omega)]
theorem Sc.of {d:Nat}{k:Int}{nm:ByteArray}{l:List Cn}(h:∀i (hi:i < l.length),Sc (d+bd k) l[i]):Sc d (.op k nm l):=by
 intro s s' hs
 rw[sub_op,sub_op]
 congr 1
 refine List.map_congr_left fun x hx=>?_
 obtain⟨i,hi,rfl⟩:=List.getElem_of_mem hx
 exact h i hi _ _ (upN_agree d _ (bd_one k) hs)
theorem Sc.mono {d e:Nat}{c:Cn}(h:Sc d c)(hde:d≤e):Sc e c:=fun s s' hs=>h s s' fun n hn=>hs n (by omega)
theorem kind_cl (K:Tree):isKindF K=true→Cl (toC K)∧Fit (toC K):=by
 induction K using Tree.ind' with
 | h0=>intro h;rw[isKindF]at h;cases h
 | h1 T hT ih =>
  intro h
  rw[isKindF_eq hT]at h
  have hb:∀k:Int,k=100∨k=101→bd k=0:=fun k hk=>by unfold bd;rw[ifn]
  by_cases h1:T.kind=100
  ·rw[if_pos h1]at h
   simp only[Bool.and_eq_true,beq_iff_eq]at h
   have hl:T.kids=[]:=List.length_eq_zero_iff.1 (by omega)
   rw[toC_op hT (by omega),hl]
   refine⟨fun s=>by rw[sub_op];rfl,.of (fun e=>by omega) fun i hi=>by simp at hi⟩
  rw[if_neg h1]at h
  by_cases h2:T.kind=101
  ·rw[if_pos h2]at h
   simp only[Bool.and_eq_true,beq_iff_eq]at h
   have hl:T.kids.length=2:=by omega
   have g0:=ih _ (getD_mem (l:=T.kids) (i:=0) (by omega)) h.1.2
   have g1:=ih _ (getD_mem (l:=T.kids) (i:=1) (by omega)) h.2
   have e:T.kids.map toC=[toC (T.kids.getD 0 .nil),toC (T.kids.getD 1 .nil)]:=by
    conv=>lhs;rw[two_of hl]
    rfl
   rw[toC_op hT (by omega),e]
   refine⟨fun s=>?_,.of (fun q=>by omega) fun i hi=>?_⟩
   ·rw[sub_op,hb _ (.inr h2)]
    simp only[List.map_cons,List.map_nil]
    show Cn.op _ _ [sub s _,sub s _]=_
    rw[g0.1,g1.1]
   ·match i,hi with
    | 0,_=>exact g0.2
    | 1,_=>exact g1.2
  ·rw[if_neg h2]at h;cases h
theorem must_zero {r:Tree×Int}(h:mustE r=0):r.2=0:=by
 unfold mustE at h
 by_cases h1:r.2=0
 ·exact h1
 ·rw[if_pos h1]at h;exact h
theorem starR_e {e:Int}(h:(starR e).2=0):e=0:=by
 unfold starR at h
 by_cases h1:e=0
 ·exact h1
 ·rw[if_neg h1]at h;exact h
theorem starsE_get {ctx:List Tree}:∀{l:List Tree},starsE ctx l=0→∀x∈l,(kindF ctx x).2=0
 | [],_,x,hx=>by cases hx
 | y::l,h,x,hx=>by
  rw[starsE]at h
  by_cases h1:mustE (kindF ctx y)=0
  ·rw[ifn]at h
   rcases List.mem_cons.1 hx with rfl|hx
   ·exact must_zero h1
   ·exact starsE_get h x hx
  ·rw[if_pos h1]at h;exact absurd h h1
theorem starsIn_get {ctx:List Tree}:∀{l:List Tree},starsIn ctx l=0→∀x∈l,x≠.nil→(kindF ctx (x.kids.getD 0 .nil)).2=0
 | [],_,x,hx,_=>by cases hx
 | y::l,h,x,hx,hn=>by
  rw[starsIn]at h
  by_cases h1:starIn ctx y=0
  ·rw[ifn]at h
   rcases List.mem_cons.1 hx with rfl|hx
   ·rw[starIn_eq ctx hn]at h1;exact must_zero h1
   ·exact starsIn_get h x hx hn
  ·rw[if_pos h1]at h;exact absurd h h1
theorem kind_facts (T:Tree):(isConF T=true→sizeN T≤65536→∀K:List Tree,(kindF K T).2=0→Fit (toC T)∧Sc K.length (toC T)) ∧
  ∀x∈T.kids,isConF x=true→sizeN x≤65536→∀K:List Tree,(kindF K x).2=0→Fit (toC x)∧Sc K.length (toC x):=by
 induction T using Tree.ind' with
 | h0=>exact⟨fun h=>by (rw[isConF]at h;cases h),fun x hx=>by cases hx⟩
 | h1 T hT ih =>
  refine⟨fun hc hz K hk=>?_,fun x hx=>(ih x hx).1⟩
  have hs:=sizeN_kids hT
  have hkid:∀i,i < T.kids.length→sizeN (T.kids.getD i .nil)≤65536:=fun i hi=>by have:=sizesN_mem (getD_mem hi);omega
  rw[kindF_eq K hT]at hk
  by_cases c1:T.kind=110
  ·rw[if_pos c1]at hk
   rw[toC_var hT c1]
   refine⟨.var _,fun s s' h=>?_⟩
   rw[sub_var,sub_var]
   refine h _ ?_
   have hv:=con_var hT hc c1
   by_cases q:(K.length:Int)≤T.n
   ·rw[if_pos q]at hk;cases hk
   ·omega
  rw[if_neg c1]at hk
  rw[toC_op hT c1]
  have hb:T.kind≠117→T.kind≠118→T.kind≠119→T.kind≠121→bd T.kind=0:=fun a b c d=>by unfold bd;rw[if_neg (by rintro (h|h|h|h)<;>contradiction)]
  have two:∀(d:Nat),T.kids.length=2→(Fit (toC (T.kids.getD 0 .nil))∧Sc (d+bd T.kind) (toC (T.kids.getD 0 .nil)))→(Fit (toC (T.kids.getD 1 .nil))∧Sc (d+bd T.kind) (toC (T.kids.getD 1 .nil)))→T.kind≠121→Fit (.op T.kind T.name (T.kids.map toC))∧Sc d (.op T.kind T.name (T.kids.map toC)):=by
   intro d hl g0 g1 hn
   have e:T.kids.map toC=[toC (T.kids.getD 0 .nil),toC (T.kids.getD 1 .nil)]:=by
    conv=>lhs;rw[two_of hl]
    rfl
   rw[e]
   refine⟨.of (fun q=>absurd q hn) fun i hi=>?_,.of fun i hi=>?_⟩
   ·match i,hi with
    | 0,_=>exact g0.1
    | 1,_=>exact g1.1
   ·match i,hi with
    | 0,_=>exact g0.2
    | 1,_=>exact g1.2
  have fields:∀(kind:Int) (d:Nat) (K':List Tree),kind=116∨kind=122→K'.length=d+bd T.kind→(∀x∈T.kids,fieldF kind x=true)→starsIn K' T.kids=0→(T.kind=121→kind=122∧placedsF T.kids=true)→Fit (.op T.kind T.name (T.kids.map toC))∧Sc d (.op T.kind T.name (T.kids.map toC)):=by
   intro kind d K' hkind hd hf hst hpl
   have g:∀i,i < T.kids.length→toC (T.kids.getD i .nil)=.op kind (T.kids.getD i .nil).name [toC ((T.kids.getD i .nil).kids.getD 0 .nil)]∧Fit (toC ((T.kids.getD i .nil).kids.getD 0 .nil))∧Sc K'.length (toC ((T.kids.getD i .nil).kids.getD 0 .nil))∧isConF ((T.kids.getD i .nil).kids.getD 0 .nil)=true∧sizeN ((T.kids.getD i .nil).kids.getD 0 .nil)≤65536:=by
    intro i hi
    have hm:=getD_mem hi
    obtain⟨e1,e2,e3,e4⟩:=field_toC (by omega) (hf _ hm)
    have s1:=sizesN_mem hm
    have s2:=sizeN_kids e3
    have s3:=sizesN_mem (getD_mem (l:=(T.kids.getD i .nil).kids) (i:=0) (by omega))
    obtain⟨f1,f2⟩:=(ih _ hm).2 _ (getD_mem (by omega)) e2 (by omega) K' (starsIn_get hst _ hm e3)
    exact⟨e1,f1,f2,e2,by omega⟩
   have hbf:bd kind=0:=by rcases hkind with rfl|rfl;exact bd_field;exact bd_case
   refine⟨.of (fun q i hi=>?_) fun i hi=>?_,.of fun i hi=>?_⟩
   ·have hi':i < T.kids.length:=by simpa using hi
    obtain⟨rfl,hpp⟩:=hpl q
    obtain⟨e1,_,_,e4,e5⟩:=g i hi'
    exact⟨_,_,by rw[getD_map_toC];exact e1,(placed_Pl _).1 e4 e5 (placeds_mem hpp _ (getD_mem hi'))⟩
   ·have hi':i < T.kids.length:=by simpa using hi
    obtain⟨e1,e2,_⟩:=g i hi'
    rw[getD_map_toC,e1]
    refine .of (fun q=>by omega) fun j hj=>?_
    have:j=0:=by simpa using hj
    subst this
    exact e2
   ·have hi':i < T.kids.length:=by simpa using hi
    obtain⟨e1,_,e3,_⟩:=g i hi'
    rw[getD_map_toC,e1]
    refine .of fun j hj=>?_
    have:j=0:=by simpa using hj
    subst this
    rw[hbf,←hd]
    exact e3
  have hc':=hc
  rw[isConF_eq hT,Bool.and_eq_true,if_neg c1]at hc'
  have hc':=hc'.2
  by_cases c2:T.kind=114
  ·rw[if_pos c2]at hk
   have hk:=starsE_get (starR_e hk)
   rw[ifn,if_pos (.inl c2)]at hc'
   simp only[Bool.and_eq_true,beq_iff_eq]at hc'
   have hl:T.kids.length=2:=by omega
   have hb0:=hb (by omega) (by omega) (by omega) (by omega)
   have m0:=getD_mem (l:=T.kids) (i:=0) (by omega)
   have m1:=getD_mem (l:=T.kids) (i:=1) (by omega)
   refine two K.length hl ?_ ?_ (by omega)
   ·rw[hb0];exact (ih _ m0).1 hc'.1.2 (hkid 0 (by omega)) K (hk _ m0)
   ·rw[hb0];exact (ih _ m1).1 hc'.2 (hkid 1 (by omega)) K (hk _ m1)
  rw[if_neg c2]at hk
  by_cases c3:T.kind=115
  ·rw[if_pos c3]at hk
   have hb0:=hb (by omega) (by omega) (by omega) (by omega)
   exact fields 116 K.length K (.inl rfl) (by omega) (rec_fl hT hc c3) (starR_e hk) (fun q=>by omega)
  rw[if_neg c3]at hk
  have binder:T.kind=117∨T.kind=118∨T.kind=119→(kindF (T.kids.getD 0 .nil::K) (T.kids.getD 1 .nil)).2=0→Fit (.op T.kind T.name (T.kids.map toC))∧Sc K.length (.op T.kind T.name (T.kids.map toC)):=by
   intro hkk hz2
   rw[ifn,ifn,ifn,if_pos hkk]at hc'
   simp only[Bool.and_eq_true,beq_iff_eq]at hc'
   have hl:T.kids.length=2:=by omega
   have hb1:bd T.kind=1:=by unfold bd;rw[ifp]
   have m1:=getD_mem (l:=T.kids) (i:=1) (by omega)
   obtain⟨k1,k2⟩:=kind_cl _ hc'.1.2
   refine two K.length hl ⟨k2,k1.sc _⟩ ?_ (by omega)
   rw[hb1]
   exact (ih _ m1).1 hc'.2 (hkid 1 (by omega)) (T.kids.getD 0 .nil::K) hz2
  by_cases c4:T.kind=117∨T.kind=118
  ·rw[if_pos c4]at hk
   exact binder (by omega) (must_zero (starR_e hk))
  rw[if_neg c4]at hk
  by_cases c5:T.kind=119
  ·rw[if_pos c5]at hk
   refine binder (by omega) ?_
   by_cases q:(kindF (T.kids.getD 0 .nil::K) (T.kids.getD 1 .nil)).2=0
   ·exact q
   ·rw[if_pos q]at hk;exact absurd hk q
  rw[if_neg c5]at hk
  by_cases c6:T.kind=120
  ·rw[if_pos c6]at hk
   obtain⟨k0,k1⟩:=appR_zero hk
   rw[ifn,if_pos (.inr c6)]at hc'
   simp only[Bool.and_eq_true,beq_iff_eq]at hc'
   have hl:T.kids.length=2:=by omega
   have hb0:=hb (by omega) (by omega) (by omega) (by omega)
   refine two K.length hl ?_ ?_ (by omega)
   ·rw[hb0];exact (ih _ (getD_mem (by omega))).1 hc'.1.2 (hkid 0 (by omega)) K k0
   ·rw[hb0];exact (ih _ (getD_mem (by omega))).1 hc'.2 (hkid 1 (by omega)) K k1
  rw[if_neg c6]at hk
  by_cases c7:T.kind=121
  ·rw[if_pos c7]at hk
   have hb1:bd T.kind=1:=by unfold bd;rw[ifp]
   by_cases q1:starsIn (starT::K) T.kids=0
   ·rw[ifn]at hk
    by_cases q2:fitE T.kids=0
    ·refine fields 122 K.length (starT::K) (.inr rfl) (by rw[hb1];rfl) (sum_fl hT hc c7) q1 fun _=>⟨rfl,?_⟩
     unfold fitE at q2
     by_cases q3:placedsF T.kids=true
     ·exact q3
     ·rw[if_neg q3]at q2;cases q2
    ·rw[if_pos q2]at hk;exact absurd hk q2
   ·rw[if_pos q1]at hk;exact absurd hk q1
  ·
   by_cases c8:T.kind=111∨T.kind=112∨T.kind=113
   ·rw[if_pos c8]at hc'
    have hl:T.kids=[]:=List.length_eq_zero_iff.1 (by simpa using hc')
    rw[hl]
    exact⟨.of (fun q=>absurd q c7) fun i hi=>by simp at hi,.of fun i hi=>by simp at hi⟩
   ·rw[if_neg c8,ifn,if_neg c3,ifn,if_neg c7]at hc'
    cases hc'
theorem kindR_facts {K:List Tree}{T:Tree}(h:(kindR K T).2=0):Fit (toC T)∧Sc K.length (toC T)∧conE T=0:=by
 obtain⟨_,h2,h3⟩:=kindR_ok h
 rw[h3]at h
 obtain⟨a,b⟩:=(kind_facts T).1 (conE_full h2).2 (by have:=conE_size h2;omega) K h
 exact⟨a,b,h2⟩
theorem starE_facts {K:List Tree}{T:Tree}(h:starE K T=0):Fit (toC T)∧Sc K.length (toC T)∧conE T=0:=by
 unfold starE at h
 by_cases q:(kindR K T).2=0∧(kindR K T).1.kind≠100
 ·rw[if_pos q]at h;cases h
 ·rw[if_neg q]at h;exact kindR_facts h
end Cn
end Go.Proofs.YtlgajkoplklkiaaGreat
namespace Go.Proofs.YtlgajkoplklkiaaGreat
namespace Sb
open Go Go.Mq Tm
theorem conV_ok (i:Int)(b T:Tree)(c:Int)(s:Bool)(hi:0≤i)(hc:0≤c∧c≤1099511627776) :
  Fun P 116 [.d (.tree T),.d (.int .i64 c),.ref 0 0,.ref 1 0,.ref 2 0] [(0,.cells [.d (.bool s)]),(1,.cells [.d (.int .i64 i)]),(2,.cells [.d (.tree b)])] 3 (.d (.tree (conStep i b T c s).1)) [(0,.cells [.d (.bool (conStep i b T c s).2)]),(1,.cells [.d (.int .i64 i)]),(2,.cells [.d (.tree b)])] 3:=by
 have w1:IntKind.i64.wrap (65536 - c)=65536 - c:=wrap64 (by omega) (by omega)
 refine Fun.of_body tt [] [7] (Tryz.func116) rfl rfl rfl lb fun g=>?_
 unfold conStep
 cases s with
 | true =>
  rw[if_pos (.inl rfl)]
  repeat' ((first|refine Ga ?_|refine Gc fun hlen=>?_|refine Gd (fun hc=>?_) fun hc=>?_)<;>conv=>whnf)
  exact ret_o rfl rfl rfl
 | false =>
  by_cases c1:65536 - c < i
  ·rw[if_pos (.inr c1)]
   have c1':IntKind.i64.wrap (65536 - c) < i:=by rw[w1];exact c1
   repeat' ((first|refine Ga ?_|refine Gc fun hlen=>?_|refine Gd (fun hc=>?_) fun hc=>?_)<;>conv=>whnf)
   exact ret_o rfl rfl rfl
  ·rw[if_neg (by simp;omega)]
   have c1':¬IntKind.i64.wrap (65536 - c) < i:=by rw[w1];exact c1
   have w3:IntKind.i64.wrap (c+i)=c+i:=wrap64 (by omega) (by omega)
   have hp:=subst_ok T (c+i) b
   rw[←w3]at hp ⊢
   generalize substR T (IntKind.i64.wrap (c+i)) b=Y at *
   obtain⟨m,e⟩:=Y
   simp only[]at hp ⊢
   by_cases he:e=0
   ·rw[ifn]
    subst he
    repeat' ((first|refine Ga ?_|refine Gc fun hlen=>?_|refine Ge hp ?_|refine Gd (fun hc=>?_) fun hc=>?_)<;>conv=>whnf)
    exact ret_o rfl rfl rfl
   ·rw[if_pos he]
    repeat' ((first|refine Ga ?_|refine Gc fun hlen=>?_|refine Ge hp ?_|refine Gd (fun hc=>?_) fun hc=>?_)<;>conv=>whnf)
    exact ret_o rfl rfl rfl
theorem sbWalkC_ok (i:Int)(b:Tree)(hi:0≤i)(T:Tree):∀(c t:Int) (s:Bool),Shw T→0≤c→c+sizeN T≤1099511627776 →
  Fun P 113 [.d (.tree T),.d (.int .i64 c),.d (.int .i64 t),.fn 115 [],.fn 116 [.ref 0 0,.ref 1 0,.ref 2 0]] [(0,.cells [.d (.bool s)]),(1,.cells [.d (.int .i64 i)]),(2,.cells [.d (.tree b)])] 3 (.d (.tree (inC i b T c s).1)) [(0,.cells [.d (.bool (inC i b T c s).2)]),(1,.cells [.d (.int .i64 i)]),(2,.cells [.d (.tree b)])] 3:=by
 induction T using Tree.ind' with
 | h0=>intro c t s h;exact absurd rfl h.ne
 | h1 T hT ih=>?_
 intro c t s hs hc0 hc1
 have hsz:=sizeN_kids hT
 have hse:=inC_eq hT i b c s
 by_cases k1:T.kind=130
 ·rw[if_pos (.inl k1)]at hse
  rw[hse]
  refine Fun.of_body tt [83] [10] Tryz.func113 rfl rfl rfl lb fun g=>?_
  repeat' ((first|refine Ga ?_|refine Gc fun hlen=>?_|refine Ge (stays_ok T t) ?_|refine Gd (fun hc=>?_) fun hc=>?_)<;>conv=>whnf)
  exact ret_o rfl rfl rfl
 by_cases k0:T.kind < 110
 ·rw[if_pos (.inr k0)]at hse
  rw[hse]
  refine Fun.of_body tt [83] [10] Tryz.func113 rfl rfl rfl lb fun g=>?_
  repeat' ((first|refine Ga ?_|refine Gc fun hlen=>?_|refine Gd (fun hc=>?_) fun hc=>?_)<;>conv=>whnf)
  exact ret_o rfl rfl rfl
 rw[ifn]at hse
 by_cases k2:T.kind < 130
 ·rw[if_pos k2]at hse
  rw[hse]
  have hv:=conV_ok i b T c s hi ⟨hc0,by omega⟩
  generalize conStep i b T c s=Y at *
  refine Fun.of_body tt [83] [10] Tryz.func113 rfl rfl rfl lb fun g=>?_
  repeat' ((first|refine Ga ?_|refine Gc fun hlen=>?_|refine CallG.go hv [0,1,2] ?_|refine Gd (fun hc=>?_) fun hc=>?_)<;>conv=>whnf)
  exact ret_o rfl rfl rfl
 rw[if_neg k2]at hse
 rw[hse]
 have hkids:∀x∈T.kids,Shw x:=by
  rcases shw_kids hs with h|⟨_,_,h⟩
  ·exact absurd h k2
  ·exact h
 by_cases k3:T.kids.length=0
 ·have e0:T.kids=[]:=List.length_eq_zero_iff.1 k3
  have e:(Tree.node T.kind T.n T.name T.mark (insC i b T.kind 0 T.kids c s).1,(insC i b T.kind 0 T.kids c s).2)=(T,s):=by
   rw[e0,insC]
   cases T with
   | nil=>exact absurd rfl hT
   | node k n nm mk l =>
    have:l=[]:=e0
    subst this;rfl
  rw[e]
  refine Fun.of_body tt [83] [10] Tryz.func113 rfl rfl rfl lb fun g=>?_
  repeat' ((first|refine Ga ?_|refine Gc fun hlen=>?_|refine Gd (fun hc=>?_) fun hc=>?_)<;>conv=>whnf)
  exact ret_o rfl rfl rfl
 refine Fun.of_body tt [83] [10] Tryz.func113 rfl rfl rfl lb fun g=>?_
 repeat' ((first|refine Ga ?_|refine Gc fun hlen=>?_|refine Gd (fun hc=>?_) fun hc=>?_)<;>conv=>whnf)
 refine loop_go (α:=Nat×List Tree×Bool) (fun p=>⟨[(0,.d (.tree T)),(1,.d (.int .i64 c)),(2,.d (.int .i64 t)),(3,.fn 115 []),(4,.fn 116 [.ref 0 0,.ref 1 0,.ref 2 0]),(11,.ref 3 0),(58,.d (.trees T.kids)),(59,.d (.int .i64 T.kids.length)),(60,.d (.int .i64 p.1))],87,[(0,.cells [.d (.bool p.2.2)]),(1,.cells [.d (.int .i64 i)]),(2,.cells [.d (.tree b)]),(3,.cells [.d (.int .i64 T.kind),.d (.int .i64 T.n),.d (.str T.name),.d (.str T.mark),.row 4 p.1]),(4,.row 25 (.trees p.2.1))],5,g⟩)
    (fun p=>p.1≤T.kids.length∧p.2.1.length=p.1∧insC i b T.kind 0 T.kids c s=(p.2.1++(insC i b T.kind p.1 (T.kids.drop p.1) c p.2.2).1,(insC i b T.kind p.1 (T.kids.drop p.1) c p.2.2).2)) (fun p=>T.kids.length - p.1) (0,[],s) ⟨by simp,rfl,rfl⟩
    (Ent.nil rfl rfl rfl (by repeat' first|exact trivial|apply And.intro|rfl|(refine int_eq ?_;rw[wrap64]<;>omega)) (by repeat' first|exact trivial|apply And.intro|rfl|(refine int_eq ?_;rw[wrap64]<;>omega))) (fun _=>rfl) fun p hpre=>?_
 obtain⟨p,out,s'⟩:=p
 obtain⟨hp1,hp2,hp3⟩:=hpre
 simp only[]at hp1 hp2 hp3
 by_cases hlt:p < T.kids.length
 ·have hmx:=getD_mem hlt
  have s1:=sizesN_mem hmx
  have hbl:=bnd_le T.kind p
  have hbi:=sbBinds_ok T hs p hlt
  rw[drop_step hlt,insC]at hp3
  simp only[]at hp3
  have hrec:=ih _ hmx (c+(bndF T.kind p).1) (IntKind.i64.wrap (t+(bndF T.kind p).2)) s' (hkids _ hmx) (by omega) (by omega)
  have w2:IntKind.i64.wrap (c+(bndF T.kind p).1)=c+(bndF T.kind p).1:=wrap64 (by omega) (by omega)
  generalize inC i b (T.kids.getD p .nil) (c+(bndF T.kind p).1) s'=Y at *
  generalize bndF T.kind p=bb at *
  rw[←w2]at hrec
  repeat' ((first|refine Ga ?_|refine Gc fun hlen=>?_|refine Gh ((p+1≤17592186044416∧(p+1)*8≤140737488355328)) ?_|refine Ge hbi ?_|refine CallG.go hrec [0,1,2] ?_|refine Gd (fun hc=>?_) fun hc=>?_)<;>conv=>whnf)
  exact⟨(p+1,out++[Y.1],Y.2),⟨by simp only[];omega,by simp[hp2],by rw[hp3];simp⟩,by simp only[];omega,Ent.go [0,1,2,3,5]⟩
 ·rw[drop_end (by omega),insC,List.append_nil]at hp3
  rw[hp3]
  repeat' ((first|refine Ga ?_|refine Gc fun hlen=>?_|refine Gd (fun hc=>?_) fun hc=>?_)<;>conv=>whnf)
  refine RetS.ent (Ent.fz_row 4 (l:=out) rfl (by repeat' first|exact trivial|apply And.intro|rfl|exact hp2.symm|exact Nat.zero_lt_one|omega) (by repeat' first|exact trivial|apply And.intro|rfl|exact hp2.symm|exact Nat.zero_lt_one|omega)) ?_
  refine RetS.ent (Ent.fz_node 3 rfl rfl (by repeat' first|exact trivial|apply And.intro|rfl|exact hp2.symm|exact Nat.zero_lt_one|omega) (by repeat' first|exact trivial|apply And.intro|rfl|exact hp2.symm|exact Nat.zero_lt_one|omega)) ?_
  refine RetS.ent (σ':=⟨[(10,.d (.tree (.node T.kind T.n T.name T.mark out)))],87,[(0,.cells [.d (.bool s')]),(1,.cells [.d (.int .i64 i)]),(2,.cells [.d (.tree b)])],3,g⟩) (Ent.go [0,1,2]) ?_
  exact ret_o rfl rfl rfl
theorem closed_con {b:Tree}(h:conE b=0)(hc:closedF b=true):freeR b=0:=by
 unfold closedF at hc;rw[if_pos h]at hc;exact of_decide_eq_true hc
theorem substR_full {T b:Tree}{i:Int}(hT:Full T)(h:(substR T i b).2=0):Full (substR T i b).1:=by
 unfold substR at h ⊢
 by_cases h1:conE T=0
 ·rw[if_pos h1]at h ⊢
  by_cases h2:conE b=0
  ·rw[if_pos h2]at h ⊢
   by_cases h3:i < 0
   ·rw[if_pos h3]at h;exact absurd h (by decide)
   ·rw[if_neg h3]at h ⊢
    by_cases h4:substE T i b=0
    ·rw[if_pos h4]
     exact walkF_full (fun x deep s hx=>substStep_full _ _ _ x deep s hx) T _ _ hT
    ·rw[if_neg h4]at h;exact absurd h h4
  ·rw[if_neg h2]at h;exact absurd h h2
 ·rw[if_neg h1]at h;exact absurd h h1
theorem inC_full (i:Int)(b:Tree)(hb:conE b=0)(T:Tree):∀(c:Int) (s:Bool),Shw T→sizeN T≤65536→Full (inC i b T c s).1:=by
 induction T using Tree.ind' with
 | h0=>intro c s h;exact absurd rfl h.ne
 | h1 T hT ih =>
  intro c s hs hz
  have hsz:=sizeN_kids hT
  have hF:=shw_full T hs
  rw[inC_eq hT]
  split
  ·exact hF
  split
  ·unfold conStep
   split
   ·exact hF
   split
   ·exact hF
   ·rename_i q;exact substR_full hF (by omega)
  ·rename_i k1 k2
   have hk:∀x∈T.kids,Shw x:=by
    rcases shw_kids hs with w|⟨_,_,w⟩
    ·exact absurd w k2
    ·exact w
   have hl:∀(l:List Tree) (p:Nat) (s:Bool),(∀x∈l,x∈T.kids)→∀x∈(insC i b T.kind p l c s).1,Full x:=by
    intro l
    induction l with
    | nil=>intro p s _ x hx;rw[insC]at hx;cases hx
    | cons y l ihl =>
     intro p s hx x hxm
     rw[insC]at hxm
     simp only[]at hxm
     have hm:=hx y (by simp)
     have s1:=sizesN_mem hm
     rcases List.mem_cons.1 hxm with rfl|hxm
     ·exact ih y hm _ s (hk y hm) (by omega)
     ·exact ihl (p+1) _ (fun z hz=>hx z (by simp[hz])) x hxm
   exact .node (hl T.kids 0 s fun x hx=>hx)
theorem sbCon_ok (T:Tree)(i:Int)(b:Tree):Pure P 77 [.d (.tree T),.d (.int .i64 i),.d (.tree b)] (.tuple [.d (.tree (conR T i b).1),.d (.int .i64 (conR T i b).2)]):=by
 have h1:=tCheck_ok T
 have h2:=check_ok b
 have h3:=sbClosed_ok b
 refine Pure.of_body tt [] [6,7] Tryz.func77 rfl rfl rfl lb fun g=>?_
 by_cases e1:termE T=0
 ·rw[e1]at h1
  by_cases e2:conE b=0
  ·rw[e2]at h2
   by_cases e3:i < 0
   ·have e:conR T i b=(.nil,2):=by unfold conR;rw[if_neg (by simp[e1]),if_neg (by simp[e2]),if_pos (.inl e3)]
    rw[e]
    repeat' ((first|refine Ga ?_|refine Gc fun hlen=>?_|refine Ge h1 ?_|refine Ge h2 ?_|refine Gd (fun hc=>?_) fun hc=>?_)<;>conv=>whnf)
    exact Gg
   ·cases e4:closedF b with
    | false =>
     have e:conR T i b=(.nil,2):=by unfold conR;rw[if_neg (by simp[e1]),if_neg (by simp[e2]),if_pos (.inr e4)]
     rw[e]
     rw[e4]at h3
     repeat' ((first|refine Ga ?_|refine Gc fun hlen=>?_|refine Ge h1 ?_|refine Ge h2 ?_|refine Ge h3 ?_|refine Gd (fun hc=>?_) fun hc=>?_)<;>conv=>whnf)
     exact Gg
    | true =>
     have e:conR T i b=if (inC i b T 0 false).2=true then (.nil,3) else sizedR (inC i b T 0 false).1:=by unfold conR;rw[if_neg (by simp[e1]),if_neg (by simp[e2]),if_neg (by simp[e4];omega)]
     rw[e]
     rw[e4]at h3
     obtain⟨t1,t2,t3⟩:=termE_ok e1
     have h4:=sbWalkC_ok i b (by omega) T 0 0 false (.inr (.inl t1)) (by omega) (by omega)
     have hw:=walk_con (show 0≤i by omega) e2 (closed_con e2 e4) T 0 (.inr (.inl t1)) t2 (by omega) (by omega)
     have hsf:(inC i b T 0 false).2=false→Full (inC i b T 0 false).1:=fun _=>inC_full i b e2 T 0 false (.inr (.inl t1)) t2
     generalize inC i b T 0 false=Y at *
     obtain⟨m,s⟩:=Y
     simp only[]at h4 hsf ⊢
     cases s with
     | true =>
      rw[if_pos rfl]
      repeat' ((first|refine Ga ?_|refine Gc fun hlen=>?_|refine Ge h1 ?_|refine Ge h2 ?_|refine Ge h3 ?_|refine CallG.go h4 [2,0,1] ?_|refine Gd (fun hc=>?_) fun hc=>?_)<;>conv=>whnf)
      exact Gg
     | false =>
      rw[if_neg (by simp)]
      have h5:=sbSized_ok m (hsf rfl)
      generalize sizedR m=Z at *
      repeat' ((first|refine Ga ?_|refine Gc fun hlen=>?_|refine Ge h1 ?_|refine Ge h2 ?_|refine Ge h3 ?_|refine CallG.go h4 [2,0,1] ?_|refine Ge h5 ?_|refine Gd (fun hc=>?_) fun hc=>?_)<;>conv=>whnf)
      exact Gg
  ·have e:conR T i b=(.nil,conE b):=by unfold conR;rw[if_neg (by simp[e1]),if_pos e2]
   rw[e]
   repeat' ((first|refine Ga ?_|refine Gc fun hlen=>?_|refine Ge h1 ?_|refine Ge h2 ?_|refine Gd (fun hc=>?_) fun hc=>?_)<;>conv=>whnf)
   exact Gg
 ·have e:conR T i b=(.nil,termE T):=by unfold conR;rw[if_pos e1]
  rw[e]
  repeat' ((first|refine Ga ?_|refine Gc fun hlen=>?_|refine Ge h1 ?_|refine Gd (fun hc=>?_) fun hc=>?_)<;>conv=>whnf)
  exact Gg
end Sb
end Go.Proofs.YtlgajkoplklkiaaGreat
namespace Go.Proofs.YtlgajkoplklkiaaGreat
namespace Mc
open Go Go.Mq Tm Sb St
section
variable {ev : Tree → Ev → Nat → Rs} {fo : Tree → ByteArray → Tree → Vl → Ev → Nat → Rs}
end
end Mc
end Go.Proofs.YtlgajkoplklkiaaGreat
namespace Go.Proofs.YtlgajkoplklkiaaGreat
namespace Cn
open Go Go.Mq Ki
inductive Pz:Tree→Prop
 | node {k n:Int} {nm mk:ByteArray} {l:List Tree} (hm:mk=ByteArray.empty) (hv:k=110→nm=ByteArray.empty∧l=[]∧0≤n) (hn:k≠110→n=0) (h:∀x∈l,Pz x):Pz (.node k n nm mk l)
theorem Pz.of {T:Tree}(hT:T≠.nil)(hm:T.mark=ByteArray.empty)(hv:T.kind=110→T.name=ByteArray.empty∧T.kids=[]∧0≤T.n)(hn:T.kind≠110→T.n=0)(hk:∀x∈T.kids,Pz x):Pz T:=by
 cases T with
 | nil=>exact absurd rfl hT
 | node=>exact .node hm hv hn hk
theorem bareF_n {T:Tree}{a:Bool}(h:bareF T a false=true):T.n=0:=by
 unfold bareF at h;simp at h;exact h.2
theorem isKindF_pz (T:Tree):isKindF T=true→Pz T:=by
 induction T using Tree.ind' with
 | h0=>intro h;rw[isKindF]at h;cases h
 | h1 T hT ih =>
  intro h
  rw[isKindF_eq hT]at h
  split at h
  ·rename_i hk
   rw[Bool.and_eq_true]at h
   have hl:T.kids=[]:=by have:=h.2;rw[beq_iff_eq]at this;exact List.length_eq_zero_iff.1 (by omega)
   exact .of hT (bareF_mark h.1) (fun e=>by omega) (fun _=>bareF_n h.1) (fun x hx=>by rw[hl]at hx;cases hx)
  ·split at h
   ·rename_i hk
    simp only[Bool.and_eq_true,beq_iff_eq]at h
    obtain⟨⟨⟨h1,h2⟩,h3⟩,h4⟩:=h
    refine .of hT (bareF_mark h1) (fun e=>by omega) (fun _=>bareF_n h1) (fun x hx=>?_)
    have h2':T.kids.length=2:=by omega
    rcases mem_two h2' hx with e|e
    ·exact ih x hx (by rw[e];exact h3)
    ·exact ih x hx (by rw[e];exact h4)
   ·cases h
theorem fieldF_pz {kind:Int}{x:Tree}(hk:kind≠110)(h:fieldF kind x=true)(ih:∀y∈x.kids,isConF y=true→Pz y):Pz x:=by
 have hx:x≠.nil:=by intro e;subst e;rw[fieldF]at h;cases h
 rw[fieldF_eq hx]at h
 simp only[Bool.and_eq_true,beq_iff_eq]at h
 obtain⟨⟨⟨⟨h1,h2⟩,h3⟩,h4⟩,h5⟩:=h
 refine .of hx (bareF_mark h2) (fun e=>by omega) (fun _=>bareF_n h2) (fun y hy=>?_)
 have h4':x.kids.length=1:=by omega
 have e:=mem_one h4' hy
 exact ih y hy (by rw[e];exact h5)
theorem isConF_pz (T:Tree):isConF T=true→Pz T:=by
 suffices h:(isConF T=true→Pz T)∧∀x∈T.kids,isConF x=true→Pz x from h.1
 induction T using Tree.ind' with
 | h0=>exact⟨fun h=>(by rw[isConF]at h;cases h),fun x hx=>(by cases hx)⟩
 | h1 T hT ih =>
  refine⟨fun h=>?_,fun x hx=>(ih x hx).1⟩
  rw[isConF_eq hT,Bool.and_eq_true]at h
  obtain⟨hb,h⟩:=h
  have hm:=bareF_mark hb
  split at h
  ·rename_i hk
   simp only[Bool.and_eq_true,beq_iff_eq,decide_eq_true_eq]at h
   have hl:T.kids=[]:=List.length_eq_zero_iff.1 (by omega)
   have hn:T.name=ByteArray.empty:=by
    unfold bareF at hb;simp only[Bool.and_eq_true,Bool.false_or,decide_eq_true_eq]at hb;exact hb.1.2
   exact .of hT hm (fun _=>⟨hn,hl,h.1.1⟩) (fun e=>absurd hk e) (fun x hx=>by rw[hl]at hx;cases hx)
  rename_i hv
  have hbf:(T.kind == 110)=false:=by simpa using hv
  rw[hbf]at hb
  refine .of hT hm (fun e=>absurd e hv) (fun _=>bareF_n hb) (fun x hx=>?_)
  split at h
  ·rw[beq_iff_eq]at h
   have hl:T.kids=[]:=List.length_eq_zero_iff.1 (by omega)
   rw[hl]at hx;cases hx
  split at h
  ·simp only[Bool.and_eq_true,beq_iff_eq]at h
   have h2':T.kids.length=2:=by omega
   rcases mem_two h2' hx with e|e
   ·exact (ih x hx).1 (by rw[e];exact h.1.2)
   ·exact (ih x hx).1 (by rw[e];exact h.2)
  split at h
  ·simp only[Bool.and_eq_true]at h
   exact fieldF_pz (by decide) (fieldsF_mem h.1 x hx) (ih x hx).2
  split at h
  ·simp only[Bool.and_eq_true,beq_iff_eq]at h
   have h2':T.kids.length=2:=by omega
   rcases mem_two h2' hx with e|e
   ·exact isKindF_pz x (by rw[e];exact h.1.2)
   ·exact (ih x hx).1 (by rw[e];exact h.2)
  split at h
  ·simp only[Bool.and_eq_true]at h
   exact fieldF_pz (by decide) (fieldsF_mem h.1.2 x hx) (ih x hx).2
  ·cases h
theorem map_inj {l:List Tree}:∀{m:List Tree},(∀x∈l,Pz x→∀y,Pz y→toC x=toC y→x=y)→(∀x∈l,Pz x)→(∀y∈m,Pz y)→l.map toC=m.map toC→l=m:=by
 induction l with
 | nil =>
  intro m _ _ _ h
  cases m with
  | nil=>rfl
  | cons y m=>cases h
 | cons x l ih =>
  intro m h1 h2 h3 h
  cases m with
  | nil=>cases h
  | cons y m =>
   simp only[List.map_cons,List.cons.injEq]at h
   rw[h1 x (by simp) (h2 x (by simp)) y (h3 y (by simp)) h.1,ih (fun z hz=>h1 z (by simp[hz])) (fun z hz=>h2 z (by simp[hz])) (fun z hz=>h3 z (by simp[hz])) h.2]
theorem pz_inj (a:Tree):Pz a→∀b:Tree,Pz b→toC a=toC b→a=b:=by
 induction a using Tree.ind' with
 | h0=>intro h;cases h
 | h1 a ha ih =>
  intro pa b pb h
  cases pa with
  | @node k n nm mk l hm hv hn hk =>
   cases pb with
   | @node k' n' nm' mk' l' hm' hv' hn' hk' =>
    subst hm hm'
    by_cases c:k=110
    ·obtain⟨rfl,rfl,q⟩:=hv c
     by_cases c':k'=110
     ·obtain⟨rfl,rfl,q'⟩:=hv' c'
      rw[toC,toC,if_pos c,if_pos c']at h
      have h:n.toNat=n'.toNat:=by injection h
      rw[c,c',show n=n' by omega]
     ·rw[toC,toC,if_pos c,if_neg c']at h;cases h
    ·by_cases c':k'=110
     ·rw[toC,toC,if_neg c,if_pos c']at h;cases h
     ·rw[toC,toC,if_neg c,if_neg c',toCs_map,toCs_map]at h
      injection h with h1 h2 h3
      subst h1 h2
      have h4:l=l':=map_inj ih hk hk' h3
      subst h4
      rw[hn c,hn' c']
theorem con_inj {a b:Tree}(ha:isConF a=true)(hb:isConF b=true)(h:toC a=toC b):a=b:=pz_inj a (isConF_pz a ha) b (isConF_pz b hb) h
def envS:List Tree→Nat→Cn
 | []=>Cn.var
 | c::l=>fun n=>sub (envS l) (s0 (toC c) n)
theorem var_con_of {T:Tree}(hT:T≠.nil)(hk:T.kind=110)(hb:bareF T false true=true)(h1:0≤T.n)(h2:T.n≤65536)(hl:T.kids=[]):isConF T=true:=by
 rw[isConF_eq hT,show (T.kind == 110)=true by simp[hk],hb,if_pos hk,hl,decide_eq_true h1,decide_eq_true h2];rfl
theorem var_con {n:Int}(h:0≤n∧n≤65536):isConF (.node 110 n ByteArray.empty ByteArray.empty [])=true :=
 var_con_of (by intro e;cases e) rfl (by unfold bareF;simp[Tree.mark,Tree.name]) h.1 h.2 rfl
theorem put_varK {D:Int}{s T y:Tree}{d:Int}(hp:Plain T)(hk:T.kind=110)(hd:0≤d∧d≤lim)(hD:0≤D)(h:rputF D s T d=some y) :
  (d≤T.n∧T.n - d=D∧rmovedF d 0 s 0=some y)∨(d≤T.n∧D < T.n - d∧y=.node 110 (T.n - 1) ByteArray.empty ByteArray.empty [])∨(¬(d≤T.n∧D≤T.n - d)∧y=T):=by
 cases T with
 | nil=>cases hp
 | node k n nm mk l =>
  have hlim:lim=1099511627776:=rfl
  obtain⟨q1,q2,_⟩:=hp.inv
  have hk:k=110:=hk
  obtain⟨rfl,rfl,q3,q4⟩:=q2 hk
  subst q1 hk
  have hw:d≤n→IntKind.i64.wrap (n - d)=n - d:=fun _=>by rw[wrap64]<;>omega
  rw[rputF]at h
  show (d≤n∧n - d=D∧_)∨(d≤n∧D < n - d∧y=.node 110 (n - 1) _ _ _)∨(¬(d≤n∧D≤n - d)∧_)
  by_cases c1:pHit D (.node 110 n ByteArray.empty ByteArray.empty []) d
  ·rw[if_pos c1]at h
   obtain⟨_,e1,e2⟩:=c1
   have e1:d≤n:=e1
   have e2:IntKind.i64.wrap (n - d)=D:=e2
   rw[hw e1]at e2
   exact .inl ⟨e1,e2,h⟩
  ·rw[if_neg c1]at h
   by_cases c2:pAbove D (.node 110 n ByteArray.empty ByteArray.empty []) d
   ·rw[if_pos c2]at h
    obtain⟨_,e1,e2⟩:=c2
    have e1:d≤n:=e1
    have e2:D < IntKind.i64.wrap (n - d):=e2
    rw[hw e1]at e2
    first|rw[rputsF]at h|skip
    cases h
    refine .inr (.inl ⟨e1,e2,?_⟩)
    rw[show IntKind.i64.wrap (n - 1)=n - 1 by rw[wrap64]<;>omega]
   ·rw[if_neg c2,rputsF]at h
    cases h
    refine .inr (.inr ⟨fun⟨e1,e2⟩=>?_,rfl⟩)
    by_cases e3:n - d=D
    ·exact c1 ⟨rfl,e1,by show IntKind.i64.wrap (n - d)=D;rw[hw e1];exact e3⟩
    ·exact c2 ⟨rfl,e1,by show D < IntKind.i64.wrap (n - d);rw[hw e1];omega⟩
def ConPutG (D:Int)(s T:Tree):Prop:=isConF T=true→∀(d:Int) y,Plain T→0≤d→d+sizeN T≤549755813888→rputF D s T d=some y→isConF y=true
open Ex in
theorem fields_putG {D:Int}{s:Tree}{kind:Int}(hk:kind≠110)(hkb:kind≠117∧kind≠118∧kind≠119∧kind≠121):∀{l l':List Tree} {d:Int},fieldsF kind l=true→(∀x∈l,∀y∈x.kids,ConPutG D s y)→(∀x∈l,Plain x)→0≤d→d+sizesN l≤549755813888→rputsF D s l d=some l'→fieldsF kind l'=true∧l'.map Tree.name=l.map Tree.name
 | [],l',d,_,_,_,_,_,h=>by rw[rputsF]at h;cases h;exact⟨rfl,rfl⟩
 | x::l,l',d,hf,ih,hpl,h0,h1,h=>by
  have hlim:lim=1099511627776:=rfl
  rw[rputsF]at h
  rw[fieldsF,Bool.and_eq_true]at hf
  rw[sizesN]at h1
  push_cast at h1
  split at h
  ·cases h
  ·rename_i x' hq
   cases hr:rputsF D s l d with
   | none=>rw[hr]at h;cases h
   | some l'' =>
    rw[hr]at h
    cases h
    obtain⟨a1,a2⟩:=fields_putG hk hkb hf.2 (fun y hy=>ih y (by simp[hy])) (fun y hy=>hpl y (by simp[hy])) h0 (by omega) hr
    have hx:x≠.nil:=by intro e;subst e;have:=hf.1;rw[fieldF]at this;cases this
    have hfx:=hf.1
    rw[fieldF_eq hx]at hfx
    simp only[Bool.and_eq_true,beq_iff_eq]at hfx
    obtain⟨⟨⟨⟨c1,c2⟩,c3⟩,c4⟩,c5⟩:=hfx
    have hk':x.kind≠110:=by rw[c1];exact hk
    have hpx:=hpl x (by simp)
    obtain⟨p0,p1,p2,p3,p4,p5⟩:=put_inv hpx hk' hq
    obtain⟨u1,u2⟩:=put_kids hpx hk' ⟨h0,by omega⟩ hq
    have hx1:x.kids.length=1:=by omega
    have hsz:=sizeN_kids hx
    rw[sizesN_one1 hx1]at hsz
    have m0:=getD_mem (l:=x.kids) (i:=0) (by omega)
    have hbz:bindsF x=0:=by unfold bindsF;rw[c1,if_neg hkb.1,if_neg hkb.2.1,if_neg hkb.2.2.1,if_neg hkb.2.2.2]
    have hcon:=ih x (by simp) (x.kids.getD 0 .nil) m0 c5 (d+bindsF x) _ (plain_kids hpx _ m0) (by omega) (by omega) (u2 0 (by omega))
    refine⟨?_,by simp[a2,p3]⟩
    rw[fieldsF,a1,Bool.and_true,fieldF_eq p0,bare_put hpx hk' hq,p1,p3,c1,c2,c3,hcon]
    simp[u1,hx1]
open Ex in
theorem con_putG {D:Int}{s:Tree}(hD:0≤D)(hs:∀(d:Int) y,0≤d→d≤549755813888→rmovedF d 0 s 0=some y→isConF y=true)(T:Tree):ConPutG D s T:=by
 suffices h:ConPutG D s T∧∀x∈T.kids,ConPutG D s x from h.1
 induction T using Tree.ind' with
 | h0=>exact⟨fun h=>(by rw[isConF]at h;cases h),fun x hx=>(by cases hx)⟩
 | h1 T hT ih =>
  refine⟨fun h d m hp h0 h1 hm=>?_,fun x hx=>(ih x hx).1⟩
  have hlim:lim=1099511627776:=rfl
  have hsz:=sizeN_kids hT
  have hbd:=bindsF_b T
  have two:T.kids.length=2→sizesN T.kids=sizeN (T.kids.getD 0 .nil)+sizeN (T.kids.getD 1 .nil):=by
   intro h
   match T.kids,h with
   | [a,b],_=>simp[sizesN]
  by_cases hk0:T.kind=110
  ·rcases put_varK hp hk0 ⟨h0,by omega⟩ hD hm with⟨_,_,r3⟩|⟨r1,r2,rfl⟩|⟨_,rfl⟩
   ·exact hs d m h0 (by omega) r3
   ·exact var_con (by cases T with
     | nil=>exact absurd rfl hT
     | node k n nm mk l =>
      have:=(hp.inv.2.1 hk0).2.2
      have r1:d≤n:=r1
      have r2:D < n - d:=r2
      show 0≤n - 1∧n - 1≤65536
      omega)
   ·exact h
  ·obtain⟨p0,p1,p2,p3,p4,p5⟩:=put_inv hp hk0 hm
   obtain⟨u1,u2⟩:=put_kids hp hk0 ⟨h0,by omega⟩ hm
   have hpk:=plain_kids hp
   rw[wrap64 (by omega) (by omega)]at p5
   rw[isConF_eq hT,Bool.and_eq_true]at h
   obtain⟨hb,h⟩:=h
   have e110:(T.kind == 110)=false:=by simpa using hk0
   rw[e110]at hb
   rw[isConF_eq p0,p1,e110,bare_put hp hk0 hm,hb,Bool.true_and]
   rw[if_neg hk0]at h ⊢
   by_cases hk1:T.kind=111∨T.kind=112∨T.kind=113
   ·rw[if_pos hk1]at h ⊢;rw[u1];exact h
   rw[if_neg hk1]at h ⊢
   by_cases hk2:T.kind=114∨T.kind=120
   ·rw[if_pos hk2]at h ⊢
    simp only[Bool.and_eq_true,beq_iff_eq]at h ⊢
    have h2:=two (by omega)
    have m0:=getD_mem (l:=T.kids) (i:=0) (by omega)
    have m1:=getD_mem (l:=T.kids) (i:=1) (by omega)
    exact⟨⟨by rw[u1];exact h.1.1,(ih _ m0).1 h.1.2 _ _ (hpk _ m0) (by omega) (by omega) (u2 0 (by omega))⟩,(ih _ m1).1 h.2 _ _ (hpk _ m1) (by omega) (by omega) (u2 1 (by omega))⟩
   rw[if_neg hk2]at h ⊢
   by_cases hk3:T.kind=115
   ·rw[if_pos hk3]at h ⊢
    rw[Bool.and_eq_true]at h ⊢
    obtain⟨f1,f2⟩:=fields_putG (by decide) (by decide) h.1 (fun x hx=>(ih x hx).2) hpk (by omega) (by omega) p5
    exact⟨f1,by rw[risingF_names f2];exact h.2⟩
   rw[if_neg hk3]at h ⊢
   by_cases hk4:T.kind=117∨T.kind=118∨T.kind=119
   ·rw[if_pos hk4]at h ⊢
    simp only[Bool.and_eq_true,beq_iff_eq]at h ⊢
    have h2:=two (by omega)
    have m0:=getD_mem (l:=T.kids) (i:=0) (by omega)
    have m1:=getD_mem (l:=T.kids) (i:=1) (by omega)
    exact⟨⟨by rw[u1];exact h.1.1,kind_put _ h.1.2 _ _ (hpk _ m0) (by omega) (by omega) (u2 0 (by omega))⟩,(ih _ m1).1 h.2 _ _ (hpk _ m1) (by omega) (by omega) (u2 1 (by omega))⟩
   rw[if_neg hk4]at h ⊢
   by_cases hk5:T.kind=121
   ·rw[if_pos hk5]at h ⊢
    simp only[Bool.and_eq_true,decide_eq_true_eq]at h ⊢
    obtain⟨f1,f2⟩:=fields_putG (by decide) (by decide) h.1.2 (fun x hx=>(ih x hx).2) hpk (by omega) (by omega) p5
    exact⟨⟨by rw[u1];exact h.1.1,f1⟩,by rw[unlikeF_names _ f2];exact h.2⟩
   ·rw[if_neg hk5]at h;cases h
theorem subst_conE {N B s:Tree}(h:substR N 0 B=(s,0)):conE s=0:=by
 obtain⟨h1,h2,_,h4⟩:=Ki.subst_inv h
 have hlim:lim=1099511627776:=rfl
 have z1:=conE_size h1
 have z2:=conE_size h2
 have hs:isConF s=true:=by
  refine (con_putG (Int.le_refl 0) (fun d y hd hd1 hy=>?_) N) (conE_full h1).2 0 s (conE_plain h1) (by omega) (by omega) h4
  rw[rmoved_vmap d 0 B 0 (conE_plain h2) (by omega) (by omega)]at hy
  exact (conE_full (vmap_conE (fM_VB d 0) h2 hy)).2
 refine conE_of hs ?_
 rw[substR_eq,rsubstR,if_pos h1,if_pos h2,ifn]at h
 by_cases q:rsLong N 0 B
 ·rw[if_pos q]at h;cases h
 ·have hsz:=rputF_size 0 B N 0 s h4 (conE_plain h1)
  have hh:=hitsN_le 0 N 0
  have hm:((hitsN 0 N 0*sizeN B:Nat):Int)=(hitsN 0 N 0:Int)*(sizeN B:Int):=by push_cast;rfl
  have e1:=countF_hits 0 N 0 (by omega)
  have e2:=sizeF_sizeN B (by omega)
  have e3:=sizeF_sizeN N (by omega)
  have m0:(hitsN 0 N 0:Int)*sizeN B≤65536*65536:=by
   have:hitsN 0 N 0*sizeN B≤65536*65536:=Nat.mul_le_mul (by omega) (by omega)
   omega
  unfold rsLong at q
  rw[e1,e2,e3]at q
  rw[wrap64 (x:=(hitsN 0 N 0:Int)*sizeN B) (by omega) (by omega),wrap64 (x:=(sizeN N:Int) - hitsN 0 N 0) (by omega) (by omega),wrap64 (x:=(sizeN N:Int) - hitsN 0 N 0+_) (by omega) (by omega)]at q
  omega
theorem substR_three {B c:Tree}(hB:conE B=0)(hc:conE c=0):(substR B 0 c).2=0∨(substR B 0 c).2=3:=by
 rw[substR_eq,rsubstR,if_pos hB,if_pos hc,ifn]
 by_cases q:rsLong B 0 c
 ·rw[if_pos q];exact .inr rfl
 ·rw[if_neg q]
  by_cases q2:(rputF 0 c B 0).isSome=true
  ·rw[if_pos q2];exact .inl rfl
  ·rw[if_neg q2];exact .inr rfl
end Cn
end Go.Proofs.YtlgajkoplklkiaaGreat
namespace Go.Proofs.YtlgajkoplklkiaaGreat
namespace Mc
open Go Go.Mq Cn Tm
def okC (e:Ev):Prop:=∀c∈consE e,conE c=0∧Cl (toC c)
def posF (k:Int)(i:Nat):Nat :=
 if k=134∨k=139 then (if i=1 then 2 else 0)
 else if k=136 then 3
 else if k=140 then (if i=0 then 2 else 1)
 else if k=141 then (if i=0 then 1 else if i=1 then 2 else 0)
 else if k=146 then (if i=0 then 1 else 2)
 else if k=147 then (if i=0 then 2 else 3)
 else if k=148 then (if i=0 then 2 else if i=1 then 0 else 3)
 else 2
def bc (k:Int)(i:Nat):Nat:=if i≠1 then 0 else if k=139∨k=142 then 1 else 0
def bt (k:Int)(i:Nat):Nat:=if i≠1 then 0 else if k=134∨k=143∨k=142 then 1 else 0
def bf (k:Int):Nat:=if k=136 then 0 else 1
def inn (x:Tree):Tree:=x.kids.getD 0 .nil
inductive CR (V:Vl→Vl→Prop):Nat→Nat→Tree→Ev→Tree→Ev→Prop
 | loc {t d:Nat} {T T':Tree} {e e':Ev} (h:T.kind=130) (h':T'.kind=130) (hn:T.n < t) (he:T'.n=T.n):CR V t d T e T' e'
 | none {t d:Nat} {T T':Tree} {e e':Ev} (h:T.kind=130) (h':T'.kind=130) (hn:(t:Int)≤T.n) (hn':(t:Int)≤T'.n) (ha:atE e (T.n - t)=.none) (ha':atE e' (T'.n - t)=.none):CR V t d T e T' e'
 | look {t d:Nat} {T T':Tree} {e e':Ev} {v v':Vl} (h:T.kind=130) (h':T'.kind=130) (hn:(t:Int)≤T.n) (hn':(t:Int)≤T'.n) (ha:atE e (T.n - t)=some v) (ha':atE e' (T'.n - t)=some v') (hv:V v v'):CR V t d T e T' e'
 | val {t d:Nat} {T T':Tree} {e e':Ev} {v:Vl} (k:Nat) (g:Ev→Vl) (h:T.kind=130) (hn:(t:Int)≤T.n) (ha:atE e (T.n - t)=some v) (hg:∀x,okC x→bsD k T' x=(g x,0)) (hv:∀x,okC x→V v (g x)):CR V t d T e T' e'
 | sem {T T':Tree} {e e':Ev} (f:Nat→Nat) (h:∀k,(bsD k T e).2≠99→(bsD k T e).2=3∨(bsD k T e).2=18∨((bsD (f k) T' e').2≠99∧((bsD (f k) T' e').2=3∨(bsD (f k) T' e').2=18∨(bsD (f k) T' e').2=(bsD k T e).2))) (hv:∀k,(bsD k T e).2=0→(bsD (f k) T' e').2=0→V (bsD k T e).1 (bsD (f k) T' e').1):CR V 0 0 T e T' e'
 | node {t d:Nat} {T T':Tree} {e e':Ev} (hk:T'.kind=T.kind) (hlo:131≤T.kind) (hn:T'.n=T.n) (hnm:T'.name=T.name) (hl:T'.kids.length=T.kids.length)
   (har:T.kind=134∨T.kind=139∨T.kind=140∨T.kind=141∨T.kind=146→2≤T.kids.length)
   (hc:∀i,posF T.kind i=1→i < T.kids.length→conE (T.kids.getD i .nil)=0∧conE (T'.kids.getD i .nil)=0∧Sc (d+(consE e).length) (toC (T.kids.getD i .nil))∧sub (upN d (envS (consE e))) (toC (T.kids.getD i .nil))=sub (upN d (envS (consE e'))) (toC (T'.kids.getD i .nil)))
   (ht:∀i,posF T.kind i=2→i < T.kids.length→CR V (t+bt T.kind i) (d+bc T.kind i) (T.kids.getD i .nil) e (T'.kids.getD i .nil) e')
   (hfn:∀i,posF T.kind i=3→i < T.kids.length→(T'.kids.getD i .nil).name=(T.kids.getD i .nil).name)
   (hf:∀i,posF T.kind i=3→i < T.kids.length→CR V (t+bf T.kind) d (inn (T.kids.getD i .nil)) e (inn (T'.kids.getD i .nil)) e'):CR V t d T e T' e'
end Mc
end Go.Proofs.YtlgajkoplklkiaaGreat
namespace Go.Proofs.YtlgajkoplklkiaaGreat
namespace Mc
open Go Go.Mq Cn Tm
section
variable {k : Nat} {T T' : Tree} {e e' : Ev}
end
end Mc
end Go.Proofs.YtlgajkoplklkiaaGreat
namespace Go.Proofs.YtlgajkoplklkiaaGreat
namespace Mc
open Go Go.Mq Cn Tm Sb
theorem mem_drop {l:List Tree}{i j:Nat}(h:j≤i)(hi:i < l.length):l.getD i .nil∈l.drop j:=by
 have:(l.drop j).getD (i - j) .nil=l.getD i .nil:=by simp[List.getD_eq_getElem?_getD,show j+(i - j)=i by omega]
 rw[←this]
 exact getD_mem (by simp;omega)
theorem term_lo {T:Tree}(h:isTermF T=true):130≤T.kind∧T.kind≤148:=by
 have:=(term_head h).1.kind;omega
theorem bnd_bt {k:Int}(hk:k≤148)(i:Nat):(bndF k i).2.toNat=bt k i∧(bndF k i).1.toNat=bc k i:=by
 unfold bndF bt bc
 rw[if_neg (show ¬k=149 by omega)]
 by_cases h1:i≠1
 ·rw[if_pos h1,if_pos h1,if_pos h1];exact⟨rfl,rfl⟩
 rw[if_neg h1,if_neg h1,if_neg h1]
 by_cases h2:k=139
 ·rw[if_pos h2,if_neg (show ¬(k=134∨k=143∨k=142) by omega),if_pos (show k=139∨k=142 from .inl h2)];exact⟨rfl,rfl⟩
 rw[if_neg h2]
 by_cases h3:k=142
 ·rw[if_pos h3,if_pos (show k=134∨k=143∨k=142 by omega),if_pos (show k=139∨k=142 from .inr h3)];exact⟨rfl,rfl⟩
 rw[if_neg h3,if_neg (show ¬(k=139∨k=142) by omega)]
 by_cases h4:k=134∨k=143
 ·rw[if_pos h4,if_pos (show k=134∨k=143∨k=142 by omega)];exact⟨rfl,rfl⟩
 ·rw[if_neg h4,if_neg (show ¬(k=134∨k=143∨k=142) by omega)];exact⟨rfl,rfl⟩
structure Cor (V:Vl→Vl→Prop)(e e':Ev)(P:Nat→Nat→Tree→Tree→Prop):Prop where
 var:∀t d T T',P t d T T'→isTermF T=true→T.kind=130→CR V t d T e T' e'
 con:∀t d c c',P t d c c'→isConF c=true→conE c=0∧conE c'=0∧Sc (d+(consE e).length) (toC c)∧sub (upN d (envS (consE e))) (toC c)=sub (upN d (envS (consE e'))) (toC c')
 node:∀t d T T',P t d T T'→Shw T→131≤T.kind→T'.kind=T.kind∧T'.n=T.n∧T'.name=T.name∧T'.kids.length=T.kids.length∧∀i,i < T.kids.length→P (t+(bndF T.kind i).2.toNat) (d+(bndF T.kind i).1.toNat) (T.kids.getD i .nil) (T'.kids.getD i .nil)
end Mc
end Go.Proofs.YtlgajkoplklkiaaGreat
namespace Go.Proofs.YtlgajkoplklkiaaGreat
namespace Cn
open Go Go.Mq Ki Tm
theorem hits_sc (i0:Nat)(T:Tree):∀d:Nat,Plain T→(d:Int)+sizeN T≤549755813888→(∀j:Int,i0≤j→hitsN j T d=0)→Sc (i0+d) (toC T):=by
 induction T using Tree.ind' with
 | h0=>intro d hp;cases hp
 | h1 T hT ih =>
  intro d hp hd h
  have hlim:lim=1099511627776:=rfl
  have hs:=sizeN_kids hT
  have hbb:=bd_binds T
  have hb1:=bd_one T.kind
  cases T with
  | nil=>exact absurd rfl hT
  | node k n nm mk l =>
   by_cases hk:k=110
   ·obtain⟨_,q2,_⟩:=hp.inv
    obtain⟨_,rfl,q3,q4⟩:=q2 hk
    rw[toC,if_pos hk]
    intro s s' hss
    rw[sub_var,sub_var]
    refine hss _ ?_
    by_cases c:n < i0+d
    ·omega
    ·exfalso
     have:=h (n - d) (by omega)
     rw[hitsN,if_pos ⟨hk,by omega,by rw[wrap64]<;>omega⟩]at this
     omega
   ·rw[toC,if_neg hk,toCs_map]
    refine Sc.of fun i hi=>?_
    have hi':i < l.length:=by simpa using hi
    have hm:=getD_mem hi'
    have s1:=sizesN_mem hm
    have:=ih _ hm (d+bd k) (Ex.plain_kids hp _ hm) (by simp only[Tree.kids,Tree.kind]at *;omega) (fun j hj=>by
     have:=h j hj
     rw[hitsN]at this
     have h2:hitssN j l (IntKind.i64.wrap ((d:Int)+bindsF (.node k n nm mk l)))=0:=by omega
     rw[wrap64 (by omega) (by omega),hbb]at h2
     exact hitss_zero h2 _ hm)
    rw[getD_map_toC,Nat.add_assoc]
    exact this
theorem free_sc {T:Tree}(hT:conE T=0){d:Nat}(h:freeR T≤d):Sc d (toC T):=by
 have hz:=conE_size hT
 have h0:=freeR_le T
 have hlim:lim=1099511627776:=rfl
 rw[freeR_eq,rfreeR,if_pos hT]at h
 obtain⟨f1,_,_⟩:=free_hits T 0 (conE_plain hT) (by omega) (by omega)
 exact hits_sc d T 0 (conE_plain hT) (by omega) fun j hj=>f1 j (by omega)
end Cn
end Go.Proofs.YtlgajkoplklkiaaGreat
namespace Go.Proofs.YtlgajkoplklkiaaGreat
namespace St
open Go Go.Mq Tm Sb
theorem norm_con {T m:Tree}(h:No.normR T=(m,0)):isConF m=true∧sizeN m≤65536:=by
 have h1:=No.normF_end 1000 T (by show (No.normR T).2=0;rw[h])
 have e:(No.normF 1000 T).1=m:=by show (No.normR T).1=m;rw[h]
 rw[e]at h1
 have h2:=(No.nstep_zero h1.2).1
 exact⟨(conE_full h2).2,conE_size h2⟩
theorem partF_mem {s:ByteArray}:∀{l:List Tree} {x:Tree},partF s l=some x→∃y∈l,x=y.kids.getD 0 .nil
 | [],x,h=>by cases h
 | y::l,x,h=>by
  rw[partF]at h
  split at h
  ·cases h;exact⟨y,by simp,rfl⟩
  ·obtain⟨z,h1,h2⟩:=partF_mem h
   exact⟨z,by simp[h1],h2⟩
theorem fold_ok (T:Tree)(hT:isTermF T=true)(hk:T.kind=148)(hz:sizeN T≤65536):Pure P 80 [.d (.tree T)] (.tuple [.d (.tree (foldF T).1),.d (.int .i64 (foldF T).2)]):=by
 have hTn:=term_ne hT
 obtain⟨f1,f2,f3,f4⟩:=term_xca hT hk
 have hsz:=sizeN_kids hTn
 have hn0:=term_ne f2
 have k0:=kid_ok T hTn 0 (by omega) hn0 146
 have m0:=getD_mem (l:=T.kids) (i:=0) (by omega)
 have s0:=sizesN_mem m0
 have hse:=sizeN_kids hn0
 refine Pure.of_body tt [79,81] [2,3] Tryz.func80 rfl rfl rfl lb fun g=>?_
 unfold foldF
 unfold kidT at *
 by_cases c0:(T.kids.getD 0 .nil).kind=146
 ·rw[decide_eq_true c0]at k0
  rw[ifn]
  obtain⟨g1,g2,g3⟩:=term_cx f2 (.inr c0)
  have t1:=getD_mem (l:=(T.kids.getD 0 .nil).kids) (i:=1) (by omega)
  have s1:=sizesN_mem t1
  have hnm:=No.Normal_ok ((T.kids.getD 0 .nil).kids.getD 0 .nil)
  cases hR:No.normR ((T.kids.getD 0 .nil).kids.getD 0 .nil) with
  | mk S e =>
  rw[hR]at hnm
  simp only[]
  by_cases he:e=0
  ·subst he
   rw[ifn]
   obtain⟨c1,c2⟩:=norm_con hR
   have hS:S≠.nil:=by intro q;subst q;rw[isConF]at c1;cases c1
   have hp1:=part_ok (T.kids.drop 2) (T.kids.getD 0 .nil).name fun x hx=>by
    obtain⟨q1,q2,q3,q4,q5⟩:=tfield_parts (f4 x hx)
    exact⟨q1,by omega⟩
   by_cases c3:S.kind=121
   ·have hsf:=sum_flds hS c1 c3
    have hp2:=part_ok S.kids (T.kids.getD 0 .nil).name fun x hx=>by
     obtain⟨q1,q2,q3⟩:=fld_parts (hsf x hx)
     exact⟨q1,by omega⟩
    cases hq1:partF (T.kids.getD 0 .nil).name (T.kids.drop 2) with
    | none =>
     rw[if_pos (.inr (.inl rfl))]
     rw[hq1]at hp1
     repeat' ((first|refine Ga ?_|refine Gc fun hlen=>?_|refine Ge k0 ?_|refine Ge hnm ?_|refine Ge hp1 ?_|refine Side.mk hn0 ?_|refine Side.mk hS ?_|refine Gh ((0:Int)≤0∧(0:Int) < ((T.kids.getD 0 .nil).kids.length:Int)) ?_|refine Gh ((0:Int)≤2∧(2:Int)≤(T.kids.length:Int)) ?_|refine Gd (fun hc=>?_) fun hc=>?_)<;>conv=>whnf)
     exact Gg
    | some A =>
     cases hq2:partF (T.kids.getD 0 .nil).name S.kids with
     | none =>
      rw[if_pos (.inr (.inr rfl))]
      rw[hq1]at hp1
      rw[hq2]at hp2
      repeat' ((first|refine Ga ?_|refine Gc fun hlen=>?_|refine Ge k0 ?_|refine Ge hnm ?_|refine Ge hp1 ?_|refine Ge hp2 ?_|refine Side.mk hn0 ?_|refine Side.mk hS ?_|refine Gh ((0:Int)≤0∧(0:Int) < ((T.kids.getD 0 .nil).kids.length:Int)) ?_|refine Gh ((0:Int)≤2∧(2:Int)≤(T.kids.length:Int)) ?_|refine Gd (fun hc=>?_) fun hc=>?_)<;>conv=>whnf)
      exact Gg
     | some C =>
      rw[if_neg (by simp[c3])]
      rw[hq1]at hp1
      rw[hq2]at hp2
      rw[show oT (some A)=A from rfl]at hp1 ⊢
      rw[show oT (some C)=C from rfl]at hp2 ⊢
      rw[show (some A).isSome=true from rfl]at hp1
      rw[show (some C).isSome=true from rfl]at hp2
      obtain⟨y,hy,rfl⟩:=partF_mem hq2
      obtain⟨q1,q2,q3⟩:=fld_parts (hsf y hy)
      have hu:=unroll_ok T hT hk hz _ q3 _ g3 (by omega)
      generalize rollF T (y.kids.getD 0 .nil) ((T.kids.getD 0 .nil).kids.getD 1 .nil)=U at *
      have hch:=tCheck_ok (.node 143 0 ByteArray.empty ByteArray.empty [U,A])
      by_cases hz2:termE (.node 143 0 ByteArray.empty ByteArray.empty [U,A])=0
      ·rw[ifn]
       rw[hz2]at hch
       repeat' ((first|refine Ga ?_|refine Gc fun hlen=>?_|refine Ge k0 ?_|refine Ge hnm ?_|refine Ge hp1 ?_|refine Ge hp2 ?_|refine Ge hu ?_|refine Ge hch ?_|refine Side.mk hn0 ?_|refine Side.mk hS ?_|refine Gh ((0:Int)≤0∧(0:Int) < ((T.kids.getD 0 .nil).kids.length:Int)) ?_|refine Gh ((0:Int)≤1∧(1:Int) < ((T.kids.getD 0 .nil).kids.length:Int)) ?_|refine Gh ((0:Int)≤2∧(2:Int)≤(T.kids.length:Int)) ?_|refine Gd (fun hc=>?_) fun hc=>?_)<;>conv=>whnf)
       exact Gg
      ·rw[ifp]
       generalize termE (.node 143 0 ByteArray.empty ByteArray.empty [U,A])=E at *
       repeat' ((first|refine Ga ?_|refine Gc fun hlen=>?_|refine Ge k0 ?_|refine Ge hnm ?_|refine Ge hp1 ?_|refine Ge hp2 ?_|refine Ge hu ?_|refine Ge hch ?_|refine Side.mk hn0 ?_|refine Side.mk hS ?_|refine Gh ((0:Int)≤0∧(0:Int) < ((T.kids.getD 0 .nil).kids.length:Int)) ?_|refine Gh ((0:Int)≤1∧(1:Int) < ((T.kids.getD 0 .nil).kids.length:Int)) ?_|refine Gh ((0:Int)≤2∧(2:Int)≤(T.kids.length:Int)) ?_|refine Gd (fun hc=>?_) fun hc=>?_)<;>conv=>whnf)
       exact Gg
   ·rw[if_pos (.inl c3)]
    generalize partF (T.kids.getD 0 .nil).name (T.kids.drop 2)=Q at *
    repeat' ((first|refine Ga ?_|refine Gc fun hlen=>?_|refine Ge k0 ?_|refine Ge hnm ?_|refine Ge hp1 ?_|refine Side.mk hn0 ?_|refine Side.mk hS ?_|refine Gh ((0:Int)≤0∧(0:Int) < ((T.kids.getD 0 .nil).kids.length:Int)) ?_|refine Gh ((0:Int)≤2∧(2:Int)≤(T.kids.length:Int)) ?_|refine Gd (fun hc=>?_) fun hc=>?_)<;>conv=>whnf)
    exact Gg
  ·rw[if_pos he]
   repeat' ((first|refine Ga ?_|refine Gc fun hlen=>?_|refine Ge k0 ?_|refine Ge hnm ?_|refine Side.mk hn0 ?_|refine Gh ((0:Int)≤0∧(0:Int) < ((T.kids.getD 0 .nil).kids.length:Int)) ?_|refine Gd (fun hc=>?_) fun hc=>?_)<;>conv=>whnf)
   exact Gg
 ·rw[decide_eq_false c0]at k0
  rw[if_pos c0]
  repeat' ((first|refine Ga ?_|refine Gc fun hlen=>?_|refine Ge k0 ?_|refine Gd (fun hc=>?_) fun hc=>?_)<;>conv=>whnf)
  exact Gg
theorem goes_ok (T:Tree)(hT:isTermF T=true)(hz:sizeN T≤65536):Pure P 42 [.d (.tree T)] (.tuple [.d (.tree (goesF T).1),.d (.int .i64 (goesF T).2)]):=by
 have hTn:=term_ne hT
 have hh:=(term_head hT).1
 refine Pure.of_body tt [] [2,3] Tryz.func42 rfl rfl rfl lb fun g=>?_
 unfold goesF
 by_cases k1:T.kind=135
 ·rw[if_pos k1]
  obtain⟨f1,f2,f3⟩:=term_xx hT (.inl k1)
  have hn0:=term_ne f2
  have k0:=kid_ok T hTn 0 (by omega) hn0 134
  unfold kidT at *
  by_cases c0:(T.kids.getD 0 .nil).kind=134
  ·rw[decide_eq_true c0]at k0
   rw[if_pos c0]
   obtain⟨g1,g2,g3⟩:=term_cx f2 (.inl c0)
   have ht:=sbTerm_ok ((T.kids.getD 0 .nil).kids.getD 1 .nil) 0 (T.kids.getD 1 .nil)
   generalize termR ((T.kids.getD 0 .nil).kids.getD 1 .nil) 0 (T.kids.getD 1 .nil)=R at *
   repeat' ((first|refine Ga ?_|refine Gc fun hlen=>?_|refine Ge k0 ?_|refine Ge ht ?_|refine Side.mk hn0 ?_|refine Gh ((0:Int)≤1∧(1:Int) < ((T.kids.getD 0 .nil).kids.length:Int)) ?_|refine Gh ((0:Int)≤1∧(1:Int) < (T.kids.length:Int)) ?_|refine Gd (fun hc=>?_) fun hc=>?_)<;>conv=>whnf)
   exact Gg
  ·rw[decide_eq_false c0]at k0
   rw[if_neg c0]
   repeat' ((first|refine Ga ?_|refine Gc fun hlen=>?_|refine Ge k0 ?_|refine Gd (fun hc=>?_) fun hc=>?_)<;>conv=>whnf)
   exact Gg
 rw[if_neg k1]
 by_cases k2:T.kind=140
 ·rw[if_pos k2]
  obtain⟨f1,f2,f3⟩:=term_xc hT k2
  have hn0:=term_ne f2
  have k0:=kid_ok T hTn 0 (by omega) hn0 139
  unfold kidT at *
  by_cases c0:(T.kids.getD 0 .nil).kind=139
  ·rw[decide_eq_true c0]at k0
   rw[if_pos c0]
   obtain⟨g1,g2,g3⟩:=term_kx f2 c0
   have ht:=sbCon_ok ((T.kids.getD 0 .nil).kids.getD 1 .nil) 0 (T.kids.getD 1 .nil)
   generalize conR ((T.kids.getD 0 .nil).kids.getD 1 .nil) 0 (T.kids.getD 1 .nil)=R at *
   repeat' ((first|refine Ga ?_|refine Gc fun hlen=>?_|refine Ge k0 ?_|refine Ge ht ?_|refine Side.mk hn0 ?_|refine Gh ((0:Int)≤1∧(1:Int) < ((T.kids.getD 0 .nil).kids.length:Int)) ?_|refine Gh ((0:Int)≤1∧(1:Int) < (T.kids.length:Int)) ?_|refine Gd (fun hc=>?_) fun hc=>?_)<;>conv=>whnf)
   exact Gg
  ·rw[decide_eq_false c0]at k0
   rw[if_neg c0]
   repeat' ((first|refine Ga ?_|refine Gc fun hlen=>?_|refine Ge k0 ?_|refine Gd (fun hc=>?_) fun hc=>?_)<;>conv=>whnf)
   exact Gg
 rw[if_neg k2]
 by_cases k3:T.kind=138
 ·rw[if_pos k3]
  obtain⟨f1,f2⟩:=term_x hT k3
  have hn0:=term_ne f2
  have k0:=kid_ok T hTn 0 (by omega) hn0 136
  unfold kidT at *
  by_cases c0:(T.kids.getD 0 .nil).kind=136
  ·rw[decide_eq_true c0]at k0
   have g1:=(term_f f2 c0).1
   have hp:=part_ok (T.kids.getD 0 .nil).kids T.name fun x hx=>by
    obtain⟨q1,q2,q3,q4,q5⟩:=tfield_parts (g1 x hx)
    exact⟨q1,by omega⟩
   cases hq:partF T.name (T.kids.getD 0 .nil).kids with
   | none =>
    rw[hq]at hp
    rw[if_neg (by simp)]
    repeat' ((first|refine Ga ?_|refine Gc fun hlen=>?_|refine Ge k0 ?_|refine Ge hp ?_|refine Side.mk hn0 ?_|refine Gd (fun hc=>?_) fun hc=>?_)<;>conv=>whnf)
    exact Gg
   | some x =>
    rw[hq]at hp
    rw[if_pos ⟨c0,rfl⟩]
    repeat' ((first|refine Ga ?_|refine Gc fun hlen=>?_|refine Ge k0 ?_|refine Ge hp ?_|refine Side.mk hn0 ?_|refine Gd (fun hc=>?_) fun hc=>?_)<;>conv=>whnf)
    exact Gg
  ·rw[decide_eq_false c0]at k0
   rw[if_neg (fun q=>c0 q.1)]
   repeat' ((first|refine Ga ?_|refine Gc fun hlen=>?_|refine Ge k0 ?_|refine Gd (fun hc=>?_) fun hc=>?_)<;>conv=>whnf)
   exact Gg
 rw[if_neg k3]
 by_cases k4:T.kind=144
 ·rw[if_pos k4]
  obtain⟨f1,f2,f3,f4⟩:=term_xxx hT k4
  have hn0:=term_ne f2
  have k0:=kid_ok T hTn 0 (by omega) hn0 132
  unfold kidT at *
  by_cases c0:(T.kids.getD 0 .nil).kind=132
  ·rw[decide_eq_true c0]at k0
   rw[if_pos c0]
   rcases (term_head f2).1.n132 c0 with n0|n1
   ·rw[ifn]
    have w:IntKind.i64.wrap (2 - (T.kids.getD 0 .nil).n)=2:=by rw[n0];rfl
    have wn:(IntKind.i64.wrap (2 - (T.kids.getD 0 .nil).n)).toNat=2:=by rw[w];rfl
    repeat' ((first|refine Ga ?_|refine Gc fun hlen=>?_|refine Ge k0 ?_|refine Side.mk hn0 ?_|refine Side.mk (show (0:Int)≤IntKind.i64.wrap (2 - (T.kids.getD 0 .nil).n)∧IntKind.i64.wrap (2 - (T.kids.getD 0 .nil).n) < (T.kids.length:Int) from by rw[w];omega) ?_|refine Gd (fun hc=>?_) fun hc=>?_)<;>conv=>whnf)
    exact Gf rfl (tup2 (tree_eq (by rw[wn])) rfl) rfl
   ·rw[if_pos n1]
    have w:IntKind.i64.wrap (2 - (T.kids.getD 0 .nil).n)=1:=by rw[n1];rfl
    have wn:(IntKind.i64.wrap (2 - (T.kids.getD 0 .nil).n)).toNat=1:=by rw[w];rfl
    repeat' ((first|refine Ga ?_|refine Gc fun hlen=>?_|refine Ge k0 ?_|refine Side.mk hn0 ?_|refine Side.mk (show (0:Int)≤IntKind.i64.wrap (2 - (T.kids.getD 0 .nil).n)∧IntKind.i64.wrap (2 - (T.kids.getD 0 .nil).n) < (T.kids.length:Int) from by rw[w];omega) ?_|refine Gd (fun hc=>?_) fun hc=>?_)<;>conv=>whnf)
    exact Gf rfl (tup2 (tree_eq (by rw[wn])) rfl) rfl
  ·rw[decide_eq_false c0]at k0
   rw[if_neg c0]
   repeat' ((first|refine Ga ?_|refine Gc fun hlen=>?_|refine Ge k0 ?_|refine Gd (fun hc=>?_) fun hc=>?_)<;>conv=>whnf)
   exact Gg
 rw[if_neg k4]
 by_cases k5:T.kind=142
 ·rw[if_pos k5]
  obtain⟨f1,f2,f3⟩:=term_xx hT (.inr (.inl k5))
  have hn0:=term_ne f2
  have k0:=kid_ok T hTn 0 (by omega) hn0 141
  unfold kidT at *
  by_cases c0:(T.kids.getD 0 .nil).kind=141
  ·rw[decide_eq_true c0]at k0
   rw[if_pos c0]
   obtain⟨g1,g2,g3,g4⟩:=term_cxc f2 c0
   have ht:=sbTerm_ok (T.kids.getD 1 .nil) 0 ((T.kids.getD 0 .nil).kids.getD 1 .nil)
   have hc:=sbCon_ok (termR (T.kids.getD 1 .nil) 0 ((T.kids.getD 0 .nil).kids.getD 1 .nil)).1 0 ((T.kids.getD 0 .nil).kids.getD 0 .nil)
   generalize termR (T.kids.getD 1 .nil) 0 ((T.kids.getD 0 .nil).kids.getD 1 .nil)=R at *
   obtain⟨m,e⟩:=R
   simp only[]at ht hc ⊢
   by_cases he:e=0
   ·subst he
    rw[ifn]
    generalize conR m 0 ((T.kids.getD 0 .nil).kids.getD 0 .nil)=S at *
    repeat' ((first|refine Ga ?_|refine Gc fun hlen=>?_|refine Ge k0 ?_|refine Ge ht ?_|refine Ge hc ?_|refine Side.mk hn0 ?_|refine Gh ((0:Int)≤0∧(0:Int) < ((T.kids.getD 0 .nil).kids.length:Int)) ?_|refine Gh ((0:Int)≤1∧(1:Int) < ((T.kids.getD 0 .nil).kids.length:Int)) ?_|refine Gh ((0:Int)≤1∧(1:Int) < (T.kids.length:Int)) ?_|refine Gd (fun hc=>?_) fun hc=>?_)<;>conv=>whnf)
    exact Gg
   ·rw[if_pos he]
    repeat' ((first|refine Ga ?_|refine Gc fun hlen=>?_|refine Ge k0 ?_|refine Ge ht ?_|refine Side.mk hn0 ?_|refine Gh ((0:Int)≤1∧(1:Int) < ((T.kids.getD 0 .nil).kids.length:Int)) ?_|refine Gh ((0:Int)≤1∧(1:Int) < (T.kids.length:Int)) ?_|refine Gd (fun hc=>?_) fun hc=>?_)<;>conv=>whnf)
    exact Gg
  ·rw[decide_eq_false c0]at k0
   rw[if_neg c0]
   repeat' ((first|refine Ga ?_|refine Gc fun hlen=>?_|refine Ge k0 ?_|refine Gd (fun hc=>?_) fun hc=>?_)<;>conv=>whnf)
   exact Gg
 rw[if_neg k5]
 by_cases k6:T.kind=143
 ·rw[if_pos k6]
  obtain⟨f1,f2,f3⟩:=term_xx hT (.inr (.inr (.inl k6)))
  unfold kidT at *
  have ht:=sbTerm_ok (T.kids.getD 1 .nil) 0 (T.kids.getD 0 .nil)
  generalize termR (T.kids.getD 1 .nil) 0 (T.kids.getD 0 .nil)=R at *
  repeat' ((first|refine Ga ?_|refine Gc fun hlen=>?_|refine Ge ht ?_|refine Gh ((0:Int)≤0∧(0:Int) < (T.kids.length:Int)) ?_|refine Gh ((0:Int)≤1∧(1:Int) < (T.kids.length:Int)) ?_|refine Gd (fun hc=>?_) fun hc=>?_)<;>conv=>whnf)
  exact Gg
 rw[if_neg k6]
 by_cases k7:T.kind=145
 ·rw[if_pos k7]
  obtain⟨f1,f2,f3⟩:=term_xx hT (.inr (.inr (.inr k7)))
  have ho:=op_ok T hTn f1 (term_ne f2) (term_ne f3) (hh.n145 k7)
  generalize opF T=R at *
  repeat' ((first|refine Ga ?_|refine Gc fun hlen=>?_|refine Ge ho ?_|refine Gd (fun hc=>?_) fun hc=>?_)<;>conv=>whnf)
  exact Gg
 rw[if_neg k7]
 by_cases k8:T.kind=147
 ·rw[if_pos k8]
  obtain⟨f1,f2,f3⟩:=term_xa hT k8
  have hn0:=term_ne f2
  have k0:=kid_ok T hTn 0 (by omega) hn0 146
  unfold kidT at *
  by_cases c0:(T.kids.getD 0 .nil).kind=146
  ·rw[decide_eq_true c0]at k0
   obtain⟨g1,g2,g3⟩:=term_cx f2 (.inr c0)
   have hp:=part_ok (T.kids.drop 1) (T.kids.getD 0 .nil).name fun x hx=>by
    obtain⟨q1,q2,q3,q4,q5⟩:=tfield_parts (f3 x hx)
    exact⟨q1,by omega⟩
   cases hq:partF (T.kids.getD 0 .nil).name (T.kids.drop 1) with
   | none =>
    rw[hq]at hp
    rw[if_neg (by simp)]
    repeat' ((first|refine Ga ?_|refine Gc fun hlen=>?_|refine Ge k0 ?_|refine Ge hp ?_|refine Side.mk hn0 ?_|refine Gh ((0:Int)≤1∧(1:Int)≤(T.kids.length:Int)) ?_|refine Gd (fun hc=>?_) fun hc=>?_)<;>conv=>whnf)
    exact Gg
   | some x =>
    rw[hq]at hp
    rw[if_pos ⟨c0,rfl⟩]
    rw[show oT (some x)=x from rfl]at hp ⊢
    rw[show (some x).isSome=true from rfl]at hp
    have ht:=sbTerm_ok x 0 ((T.kids.getD 0 .nil).kids.getD 1 .nil)
    generalize termR x 0 ((T.kids.getD 0 .nil).kids.getD 1 .nil)=R at *
    repeat' ((first|refine Ga ?_|refine Gc fun hlen=>?_|refine Ge k0 ?_|refine Ge hp ?_|refine Ge ht ?_|refine Side.mk hn0 ?_|refine Gh ((0:Int)≤1∧(1:Int)≤(T.kids.length:Int)) ?_|refine Gh ((0:Int)≤1∧(1:Int) < ((T.kids.getD 0 .nil).kids.length:Int)) ?_|refine Gd (fun hc=>?_) fun hc=>?_)<;>conv=>whnf)
    exact Gg
  ·rw[decide_eq_false c0]at k0
   rw[if_neg (fun q=>c0 q.1)]
   repeat' ((first|refine Ga ?_|refine Gc fun hlen=>?_|refine Ge k0 ?_|refine Gd (fun hc=>?_) fun hc=>?_)<;>conv=>whnf)
   exact Gg
 rw[if_neg k8]
 by_cases k9:T.kind=148
 ·rw[if_pos k9]
  have hf:=fold_ok T hT k9 hz
  generalize foldF T=R at *
  repeat' ((first|refine Ga ?_|refine Gc fun hlen=>?_|refine Ge hf ?_|refine Gd (fun hc=>?_) fun hc=>?_)<;>conv=>whnf)
  exact Gg
 rw[if_neg k9]
 repeat' ((first|refine Ga ?_|refine Gc fun hlen=>?_|refine Gd (fun hc=>?_) fun hc=>?_)<;>conv=>whnf)
 exact Gg
theorem stsK_at (k:Int):∀(l:List Tree) (p i:Nat),i < l.length→placeB k (p+i)=true→valueF (l.getD i .nil)=false→(∀j,j < i→placeB k (p+j)=true→valueF (l.getD j .nil)=true)→stsK k p l=some (p+i,stF (l.getD i .nil))
 | [],p,i,hi,_,_,_=>by simp at hi
 | x::l,p,0,hi,h1,h2,h3=>by
  rw[stsK,if_pos ⟨h1,h2⟩];rfl
 | x::l,p,i+1,hi,h1,h2,h3=>by
  have hx:¬(placeB k p=true∧valueF x=false):=fun⟨q1,q2⟩=>by
   have:=h3 0 (by omega) q1
   rw[List.getD_cons_zero,q2]at this
   cases this
  rw[stsK,if_neg hx,List.getD_cons_succ]
  have:=stsK_at k l (p+1) i (by simpa using hi) (by rw[show p+1+i=p+(i+1) by omega];exact h1) (by simpa only[List.getD_cons_succ] using h2) (fun j hj hp=>by
   have:=h3 (j+1) (by omega) (by rw[show p+(j+1)=p+1+j by omega];exact hp)
   rwa [List.getD_cons_succ]at this)
  rw[this,show p+1+i=p+(i+1) by omega]
theorem stsK_none (k:Int):∀(l:List Tree) (p:Nat),(∀j,j < l.length→placeB k (p+j)=true→valueF (l.getD j .nil)=true)→stsK k p l=none
 | [],p,h=>by rw[stsK]
 | x::l,p,h=>by
  have hx:¬(placeB k p=true∧valueF x=false):=fun⟨q1,q2⟩=>by
   have:=h 0 (by simp) q1
   rw[List.getD_cons_zero,q2]at this
   cases this
  rw[stsK,if_neg hx]
  exact stsK_none k l (p+1) fun j hj hp=>by
   have:=h (j+1) (by simpa using hj) (by rw[show p+(j+1)=p+1+j by omega];exact hp)
   rwa [List.getD_cons_succ]at this
theorem stsR_at:∀(l:List Tree) (p i:Nat),i < l.length→valueF ((l.getD i .nil).kids.getD 0 .nil)=false→(∀j,j < i→valueF ((l.getD j .nil).kids.getD 0 .nil)=true)→stsR p l=some (p+i,stF ((l.getD i .nil).kids.getD 0 .nil))
 | [],p,i,hi,_,_=>by simp at hi
 | x::l,p,0,hi,h2,h3=>by
  have h2:valueF (x.kids.getD 0 .nil)=false:=h2
  rw[stsR,if_pos h2,stI_eq];rfl
 | x::l,p,i+1,hi,h2,h3=>by
  have h0:valueF (x.kids.getD 0 .nil)=true:=h3 0 (by omega)
  rw[stsR,if_neg (by rw[h0];simp),List.getD_cons_succ]
  have:=stsR_at l (p+1) i (by simpa using hi) (by simpa only[List.getD_cons_succ] using h2) (fun j hj=>by
   have:=h3 (j+1) (by omega)
   rwa [List.getD_cons_succ]at this)
  rw[this,show p+1+i=p+(i+1) by omega]
theorem stsR_none:∀(l:List Tree) (p:Nat),(∀j,j < l.length→valueF ((l.getD j .nil).kids.getD 0 .nil)=true)→stsR p l=none
 | [],p,h=>by rw[stsR]
 | x::l,p,h=>by
  have h0:valueF (x.kids.getD 0 .nil)=true:=h 0 (by simp)
  rw[stsR,if_neg (by rw[h0];simp)]
  exact stsR_none l (p+1) fun j hj=>by
   have:=h (j+1) (by simpa using hj)
   rwa [List.getD_cons_succ]at this
theorem place_iff {T:Tree}(h:T.kind≠136)(j:Nat):placeB T.kind j=true↔(plcF T).1≤j∧j < (plcF T).2:=by
 unfold placeB plcF
 by_cases k1:T.kind=135∨T.kind=145
 ·rw[if_pos k1,if_pos k1];simp
 rw[if_neg k1,if_neg k1,if_neg h]
 by_cases k2:T.kind=141∨T.kind=146
 ·rw[if_pos k2,if_pos k2];simp;omega
 ·rw[if_neg k2,if_neg k2];simp
theorem stF_at {T:Tree}(hT:T≠.nil){i:Nat}(hi:i < T.kids.length)(h1:(plcF T).1≤i∧i < (plcF T).2)(h2:valueF (inF T i)=false)(h3:∀j,(plcF T).1≤j→j < i→valueF (inF T j)=true) :
  stF T=if (stF (inF T i)).2≠0 then (.nil,(stF (inF T i)).2) else (withT T i (stF (inF T i)).1,0):=by
 rw[stF_eq hT]
 by_cases k:T.kind=136
 ·have hin:∀j,inF T j=(T.kids.getD j .nil).kids.getD 0 .nil:=fun j=>by unfold inF;rw[if_pos k]
  have hp0:(plcF T).1=0:=by unfold plcF;rw[ifn,if_pos k]
  rw[if_pos k,stsR_at T.kids 0 i hi (by rw[←hin];exact h2) (fun j hj=>by rw[←hin];exact h3 j (by omega) hj),hin,Nat.zero_add]
 ·have hin:∀j,inF T j=T.kids.getD j .nil:=fun j=>by unfold inF;rw[if_neg k]
  rw[if_neg k,stsK_at T.kind T.kids 0 i hi (by rw[Nat.zero_add];exact (place_iff k i).2 h1) (by rw[←hin];exact h2) (fun j hj hp=>by
   rw[Nat.zero_add]at hp
   rw[←hin];exact h3 j ((place_iff k j).1 hp).1 hj),hin,Nat.zero_add]
theorem stF_none {T:Tree}(hT:T≠.nil)(h3:∀j,(plcF T).1≤j→j < (plcF T).2→valueF (inF T j)=true):stF T=goesF T:=by
 rw[stF_eq hT]
 by_cases k:T.kind=136
 ·have hin:∀j,inF T j=(T.kids.getD j .nil).kids.getD 0 .nil:=fun j=>by unfold inF;rw[if_pos k]
  have hp:plcF T=(0,T.kids.length):=by unfold plcF;rw[ifn,if_pos k]
  rw[hp]at h3
  rw[if_pos k,stsR_none T.kids 0 fun j hj=>by rw[←hin];exact h3 j (by simp) hj]
 ·have hin:∀j,inF T j=T.kids.getD j .nil:=fun j=>by unfold inF;rw[if_neg k]
  rw[if_neg k,stsK_none T.kind T.kids 0 fun j hj hp=>by
   rw[Nat.zero_add]at hp
   rw[←hin];exact h3 j ((place_iff k j).1 hp).1 ((place_iff k j).1 hp).2]
theorem freesT_get (k:Int):∀(l:List Tree) (i:Nat) (c t:Int),(freesT k i l c t).2≤0→∀p,p < l.length→(freeT (l.getD p .nil) (c+(bndF k (i+p)).1) (t+(bndF k (i+p)).2)).2≤0
 | [],i,c,t,h,p,hp=>by simp at hp
 | x::l,i,c,t,h,p,hp=>by
  rw[freesT]at h
  simp only[mx_eq]at h
  cases p with
  | zero=>simpa using (show (freeT x (c+(bndF k i).1) (t+(bndF k i).2)).2≤0 by omega)
  | succ p =>
   rw[List.getD_cons_succ,show i+(p+1)=i+1+p by omega]
   exact freesT_get k l (i+1) c t (by omega) p (by simpa using hp)
structure StD (T:Tree):Prop where
 term:isTermF T=true
 size:sizeN T≤65536
 free:(freeT T 0 0).2≤0
 nval:valueF T=false
theorem StD.kind {T:Tree}(h:StD T):T.kind=135∨T.kind=136∨T.kind=138∨(140≤T.kind∧T.kind≤148):=by
 have hT:=term_ne h.term
 have hh:=(term_head h.term).1
 have hv:=h.nval
 rw[valueF_eq hT]at hv
 have h1:¬(T.kind=131∨T.kind=132∨T.kind=133∨T.kind=134∨T.kind=139):=fun q=>by rw[if_pos q]at hv;cases hv
 have h2:T.kind≠130:=fun q=>by
  have:=h.free
  rw[freeT_eq hT,if_pos q]at this
  have:=hh.n130 q
  simp only[]at *
  omega
 have:=hh.kind
 omega
theorem StD.places {T:Tree}(h:StD T):(plcF T).1≤(plcF T).2∧(plcF T).2≤T.kids.length:=by
 have hk:=h.kind
 unfold plcF
 by_cases k1:T.kind=135∨T.kind=145
 ·rw[if_pos k1]
  have:=(term_xx h.term (by omega)).1
  simp;omega
 rw[if_neg k1]
 by_cases k2:T.kind=136
 ·rw[if_pos k2];simp
 rw[if_neg k2]
 by_cases k3:T.kind=141∨T.kind=146
 ·rw[if_pos k3]
  rcases k3 with k3|k3
  ·have:=(term_cxc h.term k3).1
   simp;omega
  ·have:=(term_cx h.term (.inr k3)).1
   simp;omega
 ·rw[if_neg k3]
  have:0 < T.kids.length:=by
   rcases (show T.kind=138∨T.kind=140∨(T.kind=142∨T.kind=143)∨T.kind=144∨T.kind=147∨T.kind=148 by omega) with k|k|k|k|k|k
   ·have:=(term_x h.term k).1;omega
   ·have:=(term_xc h.term k).1;omega
   ·have:=(term_xx h.term (by omega)).1;omega
   ·have:=(term_xxx h.term k).1;omega
   ·have:=(term_xa h.term k).1;omega
   ·have:=(term_xca h.term k).1;omega
  simp;omega
theorem StD.inner {T:Tree}(h:StD T){i:Nat}(h1:(plcF T).1≤i)(h2:i < (plcF T).2):isTermF (inF T i)=true∧sizeN (inF T i)≤65536∧(freeT (inF T i) 0 0).2≤0∧(T.kind=136→T.kids.getD i .nil≠.nil∧0 < (T.kids.getD i .nil).kids.length):=by
 have hT:=term_ne h.term
 have hp:=h.places
 have hi:i < T.kids.length:=by omega
 have hm:=getD_mem hi
 have s1:=sizesN_mem hm
 have s0:=sizeN_kids hT
 have hz:=h.size
 have hk:=h.kind
 have hf:=h.free
 rw[freeT_eq hT,ifn,ifn]at hf
 have hg:=freesT_get T.kind T.kids 0 0 0 hf i hi
 rw[Nat.zero_add,Int.zero_add,Int.zero_add]at hg
 by_cases k2:T.kind=136
 ·have hin:inF T i=(T.kids.getD i .nil).kids.getD 0 .nil:=by unfold inF;rw[if_pos k2]
  obtain⟨t1,t2,t3,t4,t5⟩:=tfield_parts ((term_f h.term k2).1 _ hm)
  have m0:=getD_mem (l:=(T.kids.getD i .nil).kids) (i:=0) (by omega)
  have s2:=sizesN_mem m0
  have s3:=sizeN_kids t1
  rw[hin]
  refine⟨t5,by omega,?_,fun _=>⟨t1,by omega⟩⟩
  have hb:bndF T.kind i=(0,0):=by unfold bndF;rw[ifn,k2];split<;>rfl
  rw[hb]at hg
  rw[freeT_eq t1,ifn,ifn]at hg
  have hg2:=freesT_get _ _ 0 0 0 hg 0 (by omega)
  rw[t2]at hg2
  exact hg2
 ·have hin:inF T i=T.kids.getD i .nil:=by unfold inF;rw[if_neg k2]
  rw[hin]
  have hb:bndF T.kind i=(0,0)∧isTermF (T.kids.getD i .nil)=true:=by
   unfold plcF at h1 h2
   by_cases k1:T.kind=135∨T.kind=145
   ·rw[if_pos k1]at h2
    have ht:=term_xx h.term (by omega)
    simp only[]at h2
    rcases (show i=0∨i=1 by omega) with rfl|rfl
    ·exact⟨by unfold bndF;rw[ifn,ifp],ht.2.1⟩
    ·exact⟨by unfold bndF;rw[ifn,ifn,ifn,ifn,ifn],ht.2.2⟩
   rw[if_neg k1,if_neg k2]at h1 h2
   by_cases k3:T.kind=141∨T.kind=146
   ·rw[if_pos k3]at h1 h2
    simp only[]at h1 h2
    obtain rfl:i=1:=by omega
    refine⟨by unfold bndF;rw[ifn,ifn,ifn,ifn,ifn],?_⟩
    rcases k3 with k3|k3
    ·exact (term_cxc h.term k3).2.2.1
    ·exact (term_cx h.term (.inr k3)).2.2
   ·rw[if_neg k3]at h1 h2
    simp only[]at h1 h2
    obtain rfl:i=0:=by omega
    refine⟨by unfold bndF;rw[ifn,ifp],?_⟩
    rcases (show T.kind=138∨T.kind=140∨(T.kind=142∨T.kind=143)∨T.kind=144∨T.kind=147∨T.kind=148 by omega) with k|k|k|k|k|k
    ·exact (term_x h.term k).2
    ·exact (term_xc h.term k).2.1
    ·exact (term_xx h.term (by omega)).2.1
    ·exact (term_xxx h.term k).2.1
    ·exact (term_xa h.term k).2.1
    ·exact (term_xca h.term k).2.1
  rw[hb.1]at hg
  exact⟨hb.2,by omega,hg,fun k=>absurd k k2⟩
theorem tvalue_of {T:Tree}(h:isTermF T=true)(hz:sizeN T≤65536):tvalueR T=valueF T:=by
 unfold tvalueR
 rw[decide_eq_true (termE_of h (term_full h) hz),Bool.true_and]
theorem step_ok (T:Tree):StD T→Pure P 21 [.d (.tree T)] (.tuple [.d (.tree (stF T).1),.d (.int .i64 (stF T).2)]):=by
 suffices h:(StD T→Pure P 21 [.d (.tree T)] (.tuple [.d (.tree (stF T).1),.d (.int .i64 (stF T).2)]))∧∀x∈T.kids,StD x→Pure P 21 [.d (.tree x)] (.tuple [.d (.tree (stF x).1),.d (.int .i64 (stF x).2)]) from h.1
 induction T using Tree.ind' with
 | h0=>exact⟨fun h=>absurd rfl (term_ne h.term),fun x hx=>(by cases hx)⟩
 | h1 T hT ih=>?_
 refine⟨fun hD=>?_,fun x hx=>(ih x hx).1⟩
 have hpl:=places_ok T hT
 have hgo:=goes_ok T hD.term hD.size
 obtain⟨hp1,hp2⟩:=hD.places
 have hin:=fun i=>hD.inner (i:=i)
 have hat:=fun i=>stF_at hT (i:=i)
 have hno:=stF_none hT
 have hsz:=sizeN_kids hT
 have hlen:=full_len (term_full hD.term)
 have hz:=hD.size
 have hrec:∀i,(plcF T).1≤i→i < (plcF T).2→valueF (inF T i)=false→Pure P 21 [.d (.tree (inF T i))] (.tuple [.d (.tree (stF (inF T i)).1),.d (.int .i64 (stF (inF T i)).2)]):=fun i h1 h2 h3=>by
  obtain⟨q1,q2,q3,q4⟩:=hin i h1 h2
  have hm:=getD_mem (l:=T.kids) (i:=i) (by omega)
  by_cases k:T.kind=136
  ·have e:inF T i=(T.kids.getD i .nil).kids.getD 0 .nil:=by unfold inF;rw[if_pos k]
   rw[e]at q1 q2 q3 h3 ⊢
   exact (ih _ hm).2 _ (getD_mem (q4 k).2) ⟨q1,q2,q3,h3⟩
  ·have e:inF T i=T.kids.getD i .nil:=by unfold inF;rw[if_neg k]
   rw[e]at q1 q2 q3 h3 ⊢
   exact (ih _ hm).1 ⟨q1,q2,q3,h3⟩
 clear ih
 generalize plcF T=F at *
 obtain⟨fr,to⟩:=F
 simp only[]at *
 have wt:IntKind.i64.wrap ((to:Int) - fr)=((to - fr:Nat):Int):=by rw[wrap64 (by omega) (by omega)];omega
 refine Pure.of_body tt [] [2,3] Tryz.func21 rfl rfl rfl lb fun g=>?_
 repeat' ((first|refine Ga ?_|refine Gc fun hlen=>?_|refine Ge hpl ?_|refine Gd (fun hc=>?_) fun hc=>?_)<;>conv=>whnf)
 refine loop_go (α:=Nat) (fun p=>⟨[(0,.d (.tree T)),(4,.d (.int .i64 fr)),(17,.d (.int .i64 (IntKind.i64.wrap ((to:Int) - fr)))),(18,.d (.int .i64 p))],47,[],0,g⟩)
  (fun p=>p≤to - fr∧∀j,fr≤j→j < fr+p→valueF (inF T j)=true) (fun p=>to - fr - p) 0 ⟨by omega,fun j h1 h2=>by omega⟩
  (Ent.go []) (fun _=>rfl) fun p hpre=>?_
 obtain⟨hq1,hq2⟩:=hpre
 by_cases hlt:p < to - fr
 ·have hlt':(p:Int) < IntKind.i64.wrap ((to:Int) - fr):=by rw[wt];omega
  obtain⟨q1,q2,q3,q4⟩:=hin (fr+p) (by omega) (by omega)
  have w:IntKind.i64.wrap ((fr:Int)+(p:Int))=((fr+p:Nat):Int):=by rw[wrap64 (by omega) (by omega)];omega
  have hi:=inner_ok T hT (fr+p) (by omega) q4
  rw[←w]at hi
  have hv:=tValue_ok (inF T (fr+p))
  rw[tvalue_of q1 q2]at hv
  cases hvv:valueF (inF T (fr+p)) with
  | true =>
   rw[hvv]at hv
   repeat' ((first|refine Ga ?_|refine Gc fun hlen=>?_|refine Ge hi ?_|refine Ge hv ?_|refine Gd (fun hc=>?_) fun hc=>?_)<;>conv=>whnf)
   refine⟨p+1,⟨by omega,fun j h1 h2=>?_⟩,by omega,Ent.go []⟩
   by_cases e:j=fr+p
   ·rw[e];exact hvv
   ·exact hq2 j h1 (by omega)
  | false =>
   rw[hvv]at hv
   have hs:=hrec (fr+p) (by omega) (by omega) hvv
   have he:=hat (fr+p) (by omega) ⟨by omega,by omega⟩ hvv hq2
   generalize stF (inF T (fr+p))=R at *
   obtain⟨m,e⟩:=R
   simp only[]at hs he
   by_cases h0:e=0
   ·subst h0
    rw[ifn]at he
    rw[he]
    have hw:=with_ok T hT (fr+p) (by omega) (by omega) (fun k=>(q4 k).1) m
    rw[←w]at hw
    repeat' ((first|refine Ga ?_|refine Gc fun hlen=>?_|refine Ge hi ?_|refine Ge hv ?_|refine Ge hs ?_|refine Ge hw ?_|refine Gd (fun hc=>?_) fun hc=>?_)<;>conv=>whnf)
    exact Gg
   ·rw[if_pos h0]at he
    rw[he]
    repeat' ((first|refine Ga ?_|refine Gc fun hlen=>?_|refine Ge hi ?_|refine Ge hv ?_|refine Ge hs ?_|refine Gd (fun hc=>?_) fun hc=>?_)<;>conv=>whnf)
    exact Gg
 ·have hlt':¬(p:Int) < IntKind.i64.wrap ((to:Int) - fr):=by rw[wt];omega
  rw[hno fun j h1 h2=>hq2 j h1 (by omega)]
  generalize goesF T=R at *
  repeat' ((first|refine Ga ?_|refine Gc fun hlen=>?_|refine Ge hgo ?_|refine Gd (fun hc=>?_) fun hc=>?_)<;>conv=>whnf)
  exact Gg
theorem Step_ok (T:Tree):Pure P 8 [.d (.tree T)] (.tuple [.d (.tree (stepR T).1),.d (.bool (stepR T).2.1),.d (.int .i64 (stepR T).2.2)]):=by
 have h1:=tCheck_ok T
 have h2:=sbClosed_ok T
 have h3:=tValue_ok T
 refine Pure.of_body tt [] [2,3,4] Tryz.func8 rfl rfl rfl lb fun g=>?_
 unfold stepR
 by_cases e1:termE T=0
 ·obtain⟨t1,t2,t3⟩:=termE_ok e1
  rw[tvalue_of t1 t2]at h3
  rw[ifn]
  rw[e1]at h1
  cases e2:closedF T with
  | false =>
   rw[if_pos rfl]
   rw[e2]at h2
   repeat' ((first|refine Ga ?_|refine Gc fun hlen=>?_|refine Ge h1 ?_|refine Ge h2 ?_|refine Gd (fun hc=>?_) fun hc=>?_)<;>conv=>whnf)
   exact Gg
  | true =>
   rw[if_neg (by simp)]
   rw[e2]at h2
   cases e3:valueF T with
   | true =>
    rw[if_pos rfl]
    rw[e3]at h3
    repeat' ((first|refine Ga ?_|refine Gc fun hlen=>?_|refine Ge h1 ?_|refine Ge h2 ?_|refine Ge h3 ?_|refine Gd (fun hc=>?_) fun hc=>?_)<;>conv=>whnf)
    exact Gg
   | false =>
    rw[if_neg (by simp)]
    rw[e3]at h3
    have h4:=step_ok T ⟨t1,t2,(closed_free e1 e2).2,e3⟩
    generalize stF T=R at *
    obtain⟨m,e⟩:=R
    simp only[]at h4 ⊢
    by_cases h0:e=0
    ·subst h0
     rw[ifn]
     have h5:=tCheck_ok m
     by_cases e5:termE m=0
     ·rw[ifn]
      rw[e5]at h5
      repeat' ((first|refine Ga ?_|refine Gc fun hlen=>?_|refine Ge h1 ?_|refine Ge h2 ?_|refine Ge h3 ?_|refine Ge h4 ?_|refine Ge h5 ?_|refine Gd (fun hc=>?_) fun hc=>?_)<;>conv=>whnf)
      exact Gg
     ·rw[if_pos e5]
      generalize termE m=E at *
      repeat' ((first|refine Ga ?_|refine Gc fun hlen=>?_|refine Ge h1 ?_|refine Ge h2 ?_|refine Ge h3 ?_|refine Ge h4 ?_|refine Ge h5 ?_|refine Gd (fun hc=>?_) fun hc=>?_)<;>conv=>whnf)
      exact Gg
    ·rw[if_pos h0]
     repeat' ((first|refine Ga ?_|refine Gc fun hlen=>?_|refine Ge h1 ?_|refine Ge h2 ?_|refine Ge h3 ?_|refine Ge h4 ?_|refine Gd (fun hc=>?_) fun hc=>?_)<;>conv=>whnf)
     exact Gg
 ·rw[if_pos e1]
  generalize termE T=E at *
  repeat' ((first|refine Ga ?_|refine Gc fun hlen=>?_|refine Ge h1 ?_|refine Gd (fun hc=>?_) fun hc=>?_)<;>conv=>whnf)
  exact Gg
theorem Run_ok (T:Tree)(most:Int)(hm1:most≤17592186044416):Pure P 17 [.d (.tree T),.d (.int .i64 most)] (.tuple [.d (.tree (runR T most).1),.d (.int .i64 (runR T most).2.1),.d (.int .i64 (runR T most).2.2)]):=by
 refine Pure.of_body tt [] [4,5,6] Tryz.func17 rfl rfl rfl lb fun g=>?_
 unfold runR
 by_cases hn:most < 0
 ·rw[if_pos hn]
  repeat' ((first|refine Ga ?_|refine Gc fun hlen=>?_|refine Gd (fun hc=>?_) fun hc=>?_)<;>conv=>whnf)
  exact Gg
 rw[if_neg hn]
 generalize hZ:runF most.toNat T 0=Z
 repeat' ((first|refine Ga ?_|refine Gc fun hlen=>?_|refine Gd (fun hc=>?_) fun hc=>?_)<;>conv=>whnf)
 refine loop_go (α:=Nat×Tree) (fun p=>⟨[(0,.d (.tree p.2)),(1,.d (.int .i64 most)),(5,.d (.int .i64 p.1))],36,[],0,g⟩)
  (fun p=>p.1≤most.toNat∧runF (most.toNat - p.1) p.2 p.1=Z) (fun p=>most.toNat - p.1) (0,T) ⟨by simp,hZ⟩
  (Ent.go []) (fun _=>rfl) fun p hpre=>?_
 obtain⟨s,U⟩:=p
 obtain⟨hp1,hp2⟩:=hpre
 simp only[]at hp1 hp2
 have hs:=Step_ok U
 by_cases hlt:s < most.toNat
 ·obtain⟨k,hk⟩:∃k,most.toNat - s=k+1:=⟨most.toNat - s - 1,by omega⟩
  rw[hk,runF]at hp2
  generalize stepR U=R at *
  obtain⟨m,b,e⟩:=R
  simp only[]at hs hp2
  by_cases he:e=0
  ·subst he
   rw[ifn]at hp2
   cases b with
   | false =>
    rw[if_pos rfl]at hp2
    rw[←hp2]
    repeat' ((first|refine Ga ?_|refine Gc fun hlen=>?_|refine Ge hs ?_|refine Gd (fun hc=>?_) fun hc=>?_)<;>conv=>whnf)
    exact Gg
   | true =>
    rw[if_neg (by simp)]at hp2
    repeat' ((first|refine Ga ?_|refine Gc fun hlen=>?_|refine Ge hs ?_|refine Gd (fun hc=>?_) fun hc=>?_)<;>conv=>whnf)
    exact⟨(s+1,m),⟨by simp only[];omega,by
     simp only[]
     rw[show most.toNat - (s+1)=k by omega,←hp2]
     rfl⟩,by simp only[];omega,Ent.go []⟩
  ·rw[if_pos he]at hp2
   rw[←hp2]
   repeat' ((first|refine Ga ?_|refine Gc fun hlen=>?_|refine Ge hs ?_|refine Gd (fun hc=>?_) fun hc=>?_)<;>conv=>whnf)
   exact Gg
 ·rw[show most.toNat - s=0 by omega,runF]at hp2
  have hms:(s:Int)=most:=by omega
  generalize stepR U=R at *
  obtain⟨m,b,e⟩:=R
  simp only[]at hs hp2
  by_cases he:e=0
  ·subst he
   rw[ifn]at hp2
   cases b with
   | false =>
    rw[if_pos rfl]at hp2
    rw[←hp2]
    repeat' ((first|refine Ga ?_|refine Gc fun hlen=>?_|refine Ge hs ?_|refine Gd (fun hc=>?_) fun hc=>?_)<;>conv=>whnf)
    exact Gg
   | true =>
    rw[if_neg (by simp)]at hp2
    rw[←hp2]
    repeat' ((first|refine Ga ?_|refine Gc fun hlen=>?_|refine Ge hs ?_|refine Gd (fun hc=>?_) fun hc=>?_)<;>conv=>whnf)
    exact Gf rfl (tup3 rfl (int_eq hms.symm) rfl) rfl
  ·rw[if_pos he]at hp2
   rw[←hp2]
   repeat' ((first|refine Ga ?_|refine Gc fun hlen=>?_|refine Ge hs ?_|refine Gd (fun hc=>?_) fun hc=>?_)<;>conv=>whnf)
   exact Gg
end St
end Go.Proofs.YtlgajkoplklkiaaGreat
namespace Go.Proofs.YtlgajkoplklkiaaGreat
namespace Mc
open Go Go.Mq Cn Tm Sb
theorem frees1 (k:Int):∀(l:List Tree) (i:Nat) (c t:Int),(freesT k i l c t).1≤0→∀p,p < l.length→(freeT (l.getD p .nil) (c+(bndF k (i+p)).1) (t+(bndF k (i+p)).2)).1≤0
 | [],i,c,t,_,p,hp=>by simp at hp
 | x::l,i,c,t,h,p,hp=>by
  rw[freesT]at h
  simp only[mx_eq]at h
  cases p with
  | zero=>simp only[List.getD_cons_zero,Nat.add_zero];omega
  | succ p =>
   have:=frees1 k l (i+1) c t (by omega) p (by simpa using hp)
   rw[show i+1+p=i+(p+1) by omega]at this
   simpa using this
theorem kid1 {T:Tree}(hT:T≠.nil)(hk:131≤T.kind){c t:Int}(h:(freeT T c t).1≤0){i:Nat}(hi:i < T.kids.length):(freeT (T.kids.getD i .nil) (c+(bndF T.kind i).1) (t+(bndF T.kind i).2)).1≤0:=by
 rw[freeT_eq hT,ifn,ifn]at h
 have:=frees1 _ _ 0 c t h i hi
 rw[Nat.zero_add]at this;exact this
theorem kid2 {T:Tree}(hT:T≠.nil)(hk:131≤T.kind){c t:Int}(h:(freeT T c t).2≤0){i:Nat}(hi:i < T.kids.length):(freeT (T.kids.getD i .nil) (c+(bndF T.kind i).1) (t+(bndF T.kind i).2)).2≤0:=by
 rw[freeT_eq hT,ifn,ifn]at h
 have:=St.freesT_get _ _ 0 c t h i hi
 rw[Nat.zero_add]at this;exact this
theorem bnd1 (k:Int)(i d:Nat):(d:Int)+(bndF k i).1=((d+(bndF k i).1.toNat:Nat):Int):=by have:=bnd_le k i;omega
theorem bnd2 (k:Int)(i d:Nat):(d:Int)+(bndF k i).2=((d+(bndF k i).2.toNat:Nat):Int):=by have:=bnd_le k i;omega
theorem shw_kid {T:Tree}(hs:Shw T)(hk:131≤T.kind){i:Nat}(hi:i < T.kids.length):Shw (T.kids.getD i .nil):=by
 rcases shw_kids hs with h|⟨_,_,h⟩
 ·omega
 ·exact h _ (getD_mem hi)
theorem kid_size {T:Tree}(hs:Shw T){i:Nat}(hi:i < T.kids.length):sizeN (T.kids.getD i .nil) < sizeN T:=by
 have h1:=sizeN_kids hs.ne
 have h2:=sizesN_mem (getD_mem hi)
 omega
theorem con_kd {c:Tree}(h:isConF c=true):c≠.nil∧c.kind≠130∧c.kind < 130:=by
 have:=con_lt (.inl h)
 exact⟨(isConF_plain c h).full.ne,by omega,this⟩
theorem con_free {c:Tree}(h:isConF c=true){d t:Int}(hf:(freeT c d t).1≤0):freeR c≤d:=by
 obtain⟨h1,h2,h3⟩:=con_kd h
 rw[freeT_eq h1,if_neg h2,if_pos h3]at hf
 have hf:freeR c - d≤0:=hf
 omega
theorem upN_var (d:Nat)(s:Nat→Cn):∀n,n < d→upN d s n=.var n:=by
 induction d generalizing s with
 | zero=>intro n h;omega
 | succ d ih =>
  intro n h
  show upN d (up s) n=_
  have hc:∀(d n:Nat) (s:Nat→Cn),upN d (up s) n=up (upN d s) n:=by
   intro d
   induction d with
   | zero=>intro n s;rfl
   | succ d ihd=>intro n s;show upN d (up (up s)) n=up (upN d (up s)) n;rw[ihd]
  rw[hc]
  cases n with
  | zero=>rfl
  | succ n=>show ren _ (upN d s n)=_;rw[ih s n (by omega),ren_var]
def closedP (t d:Nat)(T T':Tree):Prop:=T'=T∧Shw T∧sizeN T≤65536∧(freeT T d t).1≤0∧(freeT T d t).2≤0
theorem closed_cor (V:Vl→Vl→Prop)(e e':Ev):Cor V e e' closedP where
 var:=fun t d T T' ⟨h1,h2,h3,h4,h5⟩ ht hk=>by
  subst h1
  rw[freeT_eq h2.ne,if_pos hk]at h5
  have h5:T'.n - t+1≤0:=h5
  exact .loc hk hk (by omega) rfl
 con:=fun t d c c' ⟨h1,h2,h3,h4,h5⟩ hc=>by
  subst h1
  have hE:=conE_of hc h3
  have hs:=free_sc hE (con_free hc h4)
  refine⟨hE,hE,hs.mono (by omega),hs _ _ fun n hn=>?_⟩
  rw[upN_var d _ n hn,upN_var d _ n hn]
 node:=fun t d T T' ⟨h1,h2,h3,h4,h5⟩ hs hk=>by
  subst h1
  refine⟨rfl,rfl,rfl,rfl,fun i hi=>⟨rfl,shw_kid hs hk hi,by have:=kid_size hs hi;omega,?_,?_⟩⟩
  ·rw[←bnd1,←bnd2];exact kid1 hs.ne hk h4 hi
  ·rw[←bnd1,←bnd2];exact kid2 hs.ne hk h5 hi
theorem rsC_get (i:Int)(b:Tree)(k:Int):∀(l:List Tree) (p:Nat) (c:Int) (j:Nat),j < l.length→(rsC i b k p l c).getD j .nil=rC i b (l.getD j .nil) (c+(bndF k (p+j)).1)
 | [],p,c,j,h=>by simp at h
 | x::l,p,c,0,h=>by rw[rsC];rfl
 | x::l,p,c,j+1,h=>by
  rw[rsC]
  have:=rsC_get i b k l (p+1) c j (by simpa using h)
  simp only[List.getD_cons_succ]
  rw[this,show p+1+j=p+(j+1) by omega]
end Mc
end Go.Proofs.YtlgajkoplklkiaaGreat
namespace Go.Proofs.YtlgajkoplklkiaaGreat
namespace Mc
open Go Go.Mq Cn Tm Sb St
structure Cd (T:Tree):Prop where
 term:isTermF T=true
 size:sizeN T≤65536
 free1:(freeT T 0 0).1≤0
 free2:(freeT T 0 0).2≤0
theorem Cd.hi {T:Tree}(h:Cd T):131≤T.kind:=by
 have hT:=term_ne h.term
 have hh:=(term_head h.term).1
 have:=term_lo h.term
 have h2:T.kind≠130:=fun q=>by
  have:=h.free2
  rw[freeT_eq hT,if_pos q]at this
  have:=hh.n130 q
  simp only[]at *
  omega
 omega
theorem Cd.shw {T:Tree}(h:Cd T):Shw T:=.inr (.inl h.term)
theorem Cd.kid {T:Tree}(h:Cd T){i:Nat}(hi:i < T.kids.length)(hb:bndF T.kind i=(0,0))(ht:isTermF (T.kids.getD i .nil)=true):Cd (T.kids.getD i .nil):=by
 have hT:=term_ne h.term
 have h1:=kid1 hT h.hi h.free1 hi
 have h2:=kid2 hT h.hi h.free2 hi
 rw[hb]at h1 h2
 exact⟨ht,by have:=kid_size h.shw hi;have:=h.size;omega,h1,h2⟩
theorem Cd.field {T:Tree}(h:Cd T)(hk:T.kind=136){i:Nat}(hi:i < T.kids.length):Cd (inn (T.kids.getD i .nil)):=by
 have hT:=term_ne h.term
 have hf:=(term_f h.term hk).1 _ (getD_mem hi)
 obtain⟨q1,q2,q3,q4,q5⟩:=tfield_parts hf
 have hb:bndF T.kind i=(0,0):=by unfold bndF;rw[hk,if_neg (by decide)];split<;>rfl
 have h1:=kid1 hT h.hi h.free1 hi
 have h2:=kid2 hT h.hi h.free2 hi
 rw[hb]at h1 h2
 have h3:=kid1 q1 (by omega) h1 (i:=0) (by omega)
 have h4:=kid2 q1 (by omega) h2 (i:=0) (by omega)
 have hb2:bndF (T.kids.getD i .nil).kind 0=(0,0):=by rw[q2];rfl
 rw[hb2]at h3 h4
 have z1:=kid_size h.shw hi
 have z2:=kid_size (T:=T.kids.getD i .nil) (.inr (.inr (.inl hf))) (i:=0) (by omega)
 have:=h.size
 exact⟨q5,by unfold inn;omega,h3,h4⟩
theorem conR_inv {T b m:Tree}{i:Int}(h:conR T i b=(m,0)):termE T=0∧conE b=0∧0≤i∧closedF b=true∧m=rC i b T 0∧sizeN m≤65536:=by
 rw[conR_eq]at h
 unfold rconR at h
 by_cases h1:termE T=0
 ·rw[if_neg (by simp[h1])]at h
  by_cases h2:conE b=0
  ·rw[if_neg (by simp[h2])]at h
   by_cases h3:i < 0∨closedF b=false
   ·rw[if_pos h3]at h;exact absurd (Prod.mk.inj h).2 (by decide)
   ·rw[if_neg h3]at h
    unfold sizedR at h
    have h3':0≤i∧closedF b=true:=by
     refine⟨by omega,?_⟩
     cases hc:closedF b with
     | true=>rfl
     | false=>exact absurd (.inr hc) h3
    by_cases h4:65536 < sizeN (rC i b T 0)
    ·rw[if_pos h4]at h;exact absurd (Prod.mk.inj h).2 (by decide)
    ·rw[if_neg h4]at h
     have e:=(Prod.mk.inj h).1
     exact⟨h1,h2,h3'.1,h3'.2,e.symm,by rw[←e];omega⟩
  ·rw[if_pos h2]at h;exact absurd (Prod.mk.inj h).2 h2
 ·rw[if_pos h1]at h;exact absurd (Prod.mk.inj h).2 h1
theorem part_mem {s:ByteArray}:∀{l:List Tree} {b:Tree},partF s l=some b→∃i,i < l.length∧b=inn (l.getD i .nil)
 | [],b,h=>by rw[partF]at h;cases h
 | x::l,b,h=>by
  rw[partF]at h
  by_cases q:x.name=s
  ·rw[if_pos q]at h;exact⟨0,by simp,(Option.some.inj h).symm⟩
  ·rw[if_neg q]at h
   obtain⟨i,h1,h2⟩:=part_mem h
   exact⟨i+1,by simpa using h1,by simpa using h2⟩
theorem least {P:Nat→Prop}(dec:∀j,P j∨¬P j):∀(n fr:Nat),(∀j,fr≤j→j < fr+n→P j)∨∃i,fr≤i∧i < fr+n∧¬P i∧∀j,fr≤j→j < i→P j
 | 0,fr=>.inl fun j h1 h2=>by omega
 | n+1,fr=>by
  rcases least dec n fr with h|⟨i,h1,h2,h3,h4⟩
  ·rcases dec (fr+n) with q|q
   ·refine .inl fun j h1 h2=>?_
    by_cases e:j=fr+n
    ·rw[e];exact q
    ·exact h j h1 (by omega)
   ·exact .inr ⟨fr+n,by omega,by omega,q,fun j h1 h2=>h j h1 (by omega)⟩
  ·exact .inr ⟨i,h1,by omega,h3,h4⟩
theorem place_pos {T:Tree}(hD:StD T){i:Nat}(h1:(plcF T).1≤i)(h2:i < (plcF T).2):T.kind=136∨(T.kind≠136∧posF T.kind i=2∧bt T.kind i=0∧bc T.kind i=0):=by
 have hk:=hD.kind
 by_cases k2:T.kind=136
 ·exact .inl k2
 refine .inr ⟨k2,?_⟩
 unfold plcF at h1 h2
 by_cases k1:T.kind=135∨T.kind=145
 ·rw[if_pos k1]at h2
  simp only[]at h2
  rcases (show i=0∨i=1 by omega) with rfl|rfl<;>(rcases k1 with q|q<;>(rw[q];exact⟨rfl,rfl,rfl⟩))
 rw[if_neg k1,if_neg k2]at h1 h2
 by_cases k3:T.kind=141∨T.kind=146
 ·rw[if_pos k3]at h1 h2
  simp only[]at h1 h2
  obtain rfl:i=1:=by omega
  rcases k3 with q|q<;>(rw[q];exact⟨rfl,rfl,rfl⟩)
 ·rw[if_neg k3]at h1 h2
  simp only[]at h1 h2
  obtain rfl:i=0:=by omega
  rcases (show T.kind=138∨T.kind=140∨T.kind=142∨T.kind=143∨T.kind=144∨T.kind=147∨T.kind=148 by omega) with q|q|q|q|q|q|q<;>(rw[q];exact⟨rfl,rfl,rfl⟩)
theorem Cd.std {T:Tree}(h:Cd T)(hv:valueF T=false):StD T:=⟨h.term,h.size,h.free2,hv⟩
theorem Cd.inner {T:Tree}(h:Cd T)(hD:StD T){i:Nat}(h1:(plcF T).1≤i)(h2:i < (plcF T).2):Cd (inF T i):=by
 have hi:i < T.kids.length:=by have:=hD.places;omega
 obtain⟨t1,t2,t3,t4⟩:=hD.inner h1 h2
 rcases place_pos hD h1 h2 with q|⟨q,q2,q3,q4⟩
 ·have:=h.field q hi
  unfold inF;rw[if_pos q];exact this
 ·unfold inF at t1 ⊢
  rw[if_neg q]at t1 ⊢
  refine h.kid hi ?_ t1
  have:=bnd_bt (term_lo h.term).2 i
  have hb:=bnd_le T.kind i
  rw[q3,q4]at this
  exact Prod.ext (by omega) (by omega)
end Mc
end Go.Proofs.YtlgajkoplklkiaaGreat
namespace Go.Proofs.YtlgajkoplklkiaaGreat
namespace Cn
open Go Go.Mq Ki Tm
def nmOf:Cn→ByteArray
 | .op _ nm _=>nm
 | .var _=>ByteArray.empty
def bodyOf:Cn→Cn
 | .op _ _ [c]=>c
 | c=>c
def FL (kd:Int)(l:List Cn):Prop:=∀x∈l,∃nm c,x=.op kd nm [c]
def fAt (s:ByteArray):List Cn→Option Cn
 | []=>none
 | x::l=>if nmOf x=s then some (bodyOf x) else fAt s l
theorem fAt_rel {R:Cn→Cn→Prop}{s:ByteArray}:∀{l l':List Cn},l'.length=l.length→(∀i (h1:i < l.length) (h2:i < l'.length),nmOf l'[i]=nmOf l[i]∧R (bodyOf l[i]) (bodyOf l'[i]))→(fAt s l=none∧fAt s l'=none)∨∃c c',fAt s l=some c∧fAt s l'=some c'∧R c c'
 | [],[],_,_=>.inl ⟨by rw[fAt],by rw[fAt]⟩
 | [],_::_,h,_=>by simp at h
 | _::_,[],h,_=>by simp at h
 | x::l,x'::l',h,hr=>by
  obtain⟨h1,h2⟩:=hr 0 (by simp) (by simp)
  have h1:nmOf x'=nmOf x:=h1
  rw[fAt,fAt,h1]
  by_cases q:nmOf x=s
  ·rw[if_pos q,if_pos q];exact .inr ⟨_,_,rfl,rfl,h2⟩
  ·rw[if_neg q,if_neg q]
   exact fAt_rel (by simpa using h) fun i h1 h2=>by have:=hr (i+1) (by simpa using h1) (by simpa using h2);simpa using this
theorem bd_fld {kd:Int}(h:kd=116∨kd=122):bd kd=0:=by unfold bd;rw[ifn]
theorem FL.sub {kd:Int}(hk:kd=116∨kd=122){l:List Cn}(h:FL kd l)(s:Nat→Cn):FL kd (l.map (Cn.sub s)):=fun x hx=>by
 obtain⟨y,hy,rfl⟩:=List.mem_map.1 hx
 obtain⟨nm,c,rfl⟩:=h y hy
 exact⟨nm,Cn.sub s c,by rw[sub_op,bd_fld hk];rfl⟩
theorem FL.at {kd:Int}{l:List Cn}(h:FL kd l){i:Nat}(hi:i < l.length):l[i]=.op kd (nmOf l[i]) [bodyOf l[i]]:=by
 obtain⟨nm,c,e⟩:=h _ (List.getElem_mem hi)
 rw[e];rfl
theorem sub_fld {kd:Int}(hk:kd=116∨kd=122){x:Cn}(h:∃nm c,x=.op kd nm [c])(s:Nat→Cn):nmOf (Cn.sub s x)=nmOf x∧bodyOf (Cn.sub s x)=Cn.sub s (bodyOf x):=by
 obtain⟨nm,c,rfl⟩:=h
 rw[sub_op,bd_fld hk];exact⟨rfl,rfl⟩
theorem fAt_sub {kd:Int}(hk:kd=116∨kd=122){s:ByteArray}(σ:Nat→Cn):∀{l:List Cn},FL kd l→fAt s (l.map (Cn.sub σ))=(fAt s l).map (Cn.sub σ)
 | [],_=>by rw[List.map_nil,fAt];rfl
 | x::l,h=>by
  obtain⟨e1,e2⟩:=sub_fld hk (h x (by simp)) σ
  rw[List.map_cons,fAt,fAt,e1,e2]
  by_cases q:nmOf x=s
  ·rw[if_pos q,if_pos q];rfl
  ·rw[if_neg q,if_neg q];exact fAt_sub hk σ fun y hy=>h y (by simp[hy])
theorem eqv_fld {kd:Int}(hk:kd=116∨kd=122){l l':List Cn}(h:FL kd l)(h':FL kd l')(hl:l'.length=l.length)(he:∀i (h1:i < l.length) (h2:i < l'.length),Eqv l[i] l'[i]):∀i (h1:i < l.length) (h2:i < l'.length),nmOf l'[i]=nmOf l[i]∧Eqv (bodyOf l[i]) (bodyOf l'[i]):=fun i h1 h2=>by
 have e:=he i h1 h2
 rw[h.at h1,h'.at h2]at e
 obtain⟨_,e2,_,e4⟩:=eqv_op (by omega) (by omega) e
 exact⟨e2.symm,e4 0 (by simp) (by simp)⟩
theorem Red.inst {B B' A A':Cn}(hB:Red B B')(hA:Red A A'):Red (inst B A) (inst B' A'):=by
 have h1:Red (Cn.inst B A) (Cn.inst B' A):=hB.sub _
 refine h1.trans ?_
 induction hA with
 | refl=>exact .refl _
 | step h _ ih=>exact .step (Par.inst (Par.refl _) h) (ih (hB.sub _))
theorem Eqv.inst {B B' A A':Cn}(hB:Eqv B B')(hA:Eqv A A'):Eqv (inst B A) (inst B' A'):=by
 obtain⟨C,h1,h2⟩:=hB
 obtain⟨D,h3,h4⟩:=hA
 exact⟨_,h1.inst h3,h2.inst h4⟩
theorem bd_two {k:Int}(h:k=114∨k=115∨k=111∨k=112∨k=113):bd k=0:=by unfold bd;rw[ifn]
theorem bd_all {k:Int}(h:k=117∨k=118∨k=121):bd k=1:=by unfold bd;rw[ifp]
end Cn
end Go.Proofs.YtlgajkoplklkiaaGreat
namespace Go.Proofs.YtlgajkoplklkiaaGreat
namespace Mc
open Go Go.Mq Cn Tm Sb St
def shC (l:List Cn):List Cn:=l.map (ren Nat.succ)
end Mc
end Go.Proofs.YtlgajkoplklkiaaGreat
namespace Go.Proofs.YtlgajkoplklkiaaGreat
namespace Ty
open Go Go.Mq
def ti76 : TI := ⟨(.struct #[⟨ "kinds", 52, 0, false, "", "marquetry/typing", 0⟩, ⟨ "types", 52, 1, false, "", "marquetry/typing", 24⟩]), 2, 48, (.agg #[(.slice none 0 0), (.slice none 0 0)]), [(0, 1), (1, 1)], true, 0, 0, false⟩
theorem tok76:TIok P 76 ti76 where
 und:=by kernel_rfl
 info:=⟨(P.info? 76).getD default,by kernel_rfl,by kernel_rfl,by kernel_rfl,by kernel_rfl⟩
 agg:=rfl
 offm:=fun fs h=>by cases h;kernel_rfl
 offp:=rfl
 offn:=rfl
 elem:=fun e h=>by cases h
 arr:=fun n e h=>by cases h
def ti105:TI:=⟨(.func #[76,25] #[25,27] false),1,8,.nilFunc,[],false,0,0,false⟩
theorem tok105:TIok P 105 ti105 where
 und:=by kernel_rfl
 info:=⟨(P.info? 105).getD default,by kernel_rfl,by kernel_rfl,by kernel_rfl,by kernel_rfl⟩
 agg:=rfl
 offm:=fun fs h=>by cases h
 offp:=rfl
 offn:=rfl
 elem:=fun e h=>by cases h
 arr:=fun n e h=>by cases h
def tt:List (Nat×TI):=(76,ti76)::(105,ti105)::Go.Proofs.YtlgajkoplklkiaaGreat.tt
theorem htt:TTok P tt:=.cons tok76 (.cons tok105 (Go.Proofs.YtlgajkoplklkiaaGreat.htt))
end Ty
end Go.Proofs.YtlgajkoplklkiaaGreat
namespace Go.Proofs.YtlgajkoplklkiaaGreat
namespace Ty
open Go Go.Mq Tm Sb St
def cT (k:Int)(l:List Tree):Tree:=.node k 0 ByteArray.empty ByteArray.empty l
def bnd (r:Tree×Int)(f:Tree→Tree×Int):Tree×Int:=if r.2=0 then f r.1 else (.nil,r.2)
def lbnd (r:List Tree×Int)(f:List Tree→Tree×Int):Tree×Int:=if r.2=0 then f r.1 else (.nil,r.2)
def fillR (n b:Tree):Tree×Int:=bnd (substR n 0 b) No.normR
def tstR (K:List Tree)(n:Tree):Tree×Int:=if Ki.starE K n=0 then No.normR n else (.nil,Ki.starE K n)
def shsR:List Tree→List Tree×Int
 | []=>([],0)
 | t::l=>if (shiftR t 1 0).2=0 then ((shiftR t 1 0).1::(shsR l).1,(shsR l).2) else ([],(shiftR t 1 0).2)
def asR (r:Tree×Int)(kind:Int):Tree×Int:=if r.2=0∧r.1.kind≠kind then (.nil,11) else r
def alikeR (l:List Tree)(t:Tree):Tree×Int:=if (l.any fun s=>!sameF s t)=true then (.nil,11) else (t,0)
mutual
def ofF:Tree→List Tree→List Tree→Tree×Int
 | .nil,_,_=>(.nil,0)
 | .node k n nm _ l,K,Γ =>
  if k=130 then (if (Γ.length:Int)≤n then (.nil,8) else No.normR (Γ.getD n.toNat .nil))
  else if k=131 then (cT 111 [],0)
  else if k=132 then (cT 112 [],0)
  else if k=133 then (cT 113 [],0)
  else if k=139 then lbnd (shsR Γ) fun Δ=>bnd (ofAt 1 l (l.getD 0 .nil::K) Δ) fun t=>(cT 117 [l.getD 0 .nil,t],0)
  else if k=143 then bnd (ofAt 0 l K Γ) fun t=>ofAt 1 l K (t::Γ)
  else if k=134 then bnd (tstR K (l.getD 0 .nil)) fun a=>bnd (ofAt 1 l K (a::Γ)) fun b=>(cT 114 [a,b],0)
  else if k=135 then bnd (ofAt 0 l K Γ) fun f=>bnd (ofAt 1 l K Γ) fun a =>
   if f.kind=114∧sameF (f.kids.getD 0 .nil) a=true then (f.kids.getD 1 .nil,0) else (.nil,11)
  else if k=136 then lbnd (ofFlds l K Γ) fun ts=>(cT 115 ts,0)
  else if k=138 then bnd (asR (ofAt 0 l K Γ) 115) fun t=>match partF nm t.kids with
   | none=>(.nil,11)
   | some p=>(p,0)
  else if k=140 then bnd (ofAt 0 l K Γ) fun t=>bnd (Ki.kindR K (l.getD 1 .nil)) fun q =>
   if t.kind=117∧sameF (t.kids.getD 0 .nil) q=true then fillR (t.kids.getD 1 .nil) (l.getD 1 .nil) else (.nil,11)
  else if k=141 then bnd (tstR K (l.getD 2 .nil)) fun t=>bnd (Ki.kindR K (l.getD 0 .nil)) fun q=>bnd (ofAt 1 l K Γ) fun a =>
   if t.kind=118∧sameF (t.kids.getD 0 .nil) q=true then bnd (fillR (t.kids.getD 1 .nil) (l.getD 0 .nil)) fun b=>if sameF a b=true then (t,0) else (.nil,11)
   else (.nil,11)
  else if k=142 then bnd (asR (ofAt 0 l K Γ) 118) fun t=>lbnd (shsR Γ) fun Δ=>bnd (ofAt 1 l (t.kids.getD 0 .nil::K) (t.kids.getD 1 .nil::Δ)) fun b =>
   if occursR b 0=true then (.nil,11) else shiftR b (-1) 0
  else if k=144 then lbnd (ofAll l K Γ) fun ts =>
   if (ts.getD 0 .nil).kind=112∧sameF (ts.getD 1 .nil) (ts.getD 2 .nil)=true then (ts.getD 1 .nil,0) else (.nil,11)
  else if k=145 then bnd (ofAt 0 l K Γ) fun a=>bnd (ofAt 1 l K Γ) fun b =>
   if a.kind=111∧b.kind=111 then (if n≤3 then (cT 111 [],0) else (cT 112 [],0)) else (.nil,11)
  else if k=146 then bnd (tstR K (l.getD 0 .nil)) fun s=>bnd (ofAt 1 l K Γ) fun a =>
   if s.kind=121 then (match partF nm s.kids with
    | none=>(.nil,14)
    | some p=>bnd (fillR p s) fun b=>if sameF a b=true then (s,0) else (.nil,11))
   else (.nil,11)
  else if k=147 then bnd (asR (ofAt 0 l K Γ) 121) fun s=>if s.kids.map Tree.name=(l.drop 1).map Tree.name then lbnd (ofArms 1 l s.kids s K Γ) fun ts=>alikeR ts (ts.getD 0 .nil) else (.nil,14)
  else bnd (asR (ofAt 0 l K Γ) 121) fun s=>bnd (tstR K (l.getD 1 .nil)) fun t=>if s.kids.map Tree.name=(l.drop 2).map Tree.name then lbnd (ofArms 2 l s.kids t K Γ) fun ts=>alikeR ts t else (.nil,14)
termination_by structural x=>x
def ofAt (i:Nat):List Tree→List Tree→List Tree→Tree×Int
 | [],_,_=>(.nil,0)
 | x::l,K,Γ=>match i with
  | 0=>ofF x K Γ
  | i+1=>ofAt i l K Γ
termination_by structural x=>x
def ofIn:Tree→List Tree→List Tree→Tree×Int
 | .nil,_,_=>(.nil,0)
 | .node _ _ _ _ l,K,Γ=>ofAt 0 l K Γ
termination_by structural x=>x
def ofFlds:List Tree→List Tree→List Tree→List Tree×Int
 | [],_,_=>([],0)
 | x::l,K,Γ=>if (ofIn x K Γ).2=0 then (.node 116 0 x.name ByteArray.empty [(ofIn x K Γ).1]::(ofFlds l K Γ).1,(ofFlds l K Γ).2) else ([],(ofIn x K Γ).2)
termination_by structural x=>x
def ofAll:List Tree→List Tree→List Tree→List Tree×Int
 | [],_,_=>([],0)
 | x::l,K,Γ=>if (ofF x K Γ).2=0 then ((ofF x K Γ).1::(ofAll l K Γ).1,(ofAll l K Γ).2) else ([],(ofF x K Γ).2)
termination_by structural x=>x
def ofArms (i:Nat):List Tree→List Tree→Tree→List Tree→List Tree→List Tree×Int
 | [],_,_,_,_=>([],0)
 | x::l,S,self,K,Γ=>match i with
  | i+1=>ofArms i l S self K Γ
  | 0=>if (fillR ((S.getD 0 .nil).kids.getD 0 .nil) self).2=0 then
    (if (ofIn x K ((fillR ((S.getD 0 .nil).kids.getD 0 .nil) self).1::Γ)).2=0 then
     ((ofIn x K ((fillR ((S.getD 0 .nil).kids.getD 0 .nil) self).1::Γ)).1::(ofArms 0 l (S.drop 1) self K Γ).1,(ofArms 0 l (S.drop 1) self K Γ).2)
    else ([],(ofIn x K ((fillR ((S.getD 0 .nil).kids.getD 0 .nil) self).1::Γ)).2))
   else ([],(fillR ((S.getD 0 .nil).kids.getD 0 .nil) self).2)
termination_by structural x=>x
end
theorem ofAt_eq:∀(l:List Tree) (i:Nat) (K Γ:List Tree),ofAt i l K Γ=ofF (l.getD i .nil) K Γ
 | [],i,K,Γ=>by rw[ofAt];simp[ofF]
 | x::l,0,K,Γ=>by rw[ofAt];rfl
 | x::l,i+1,K,Γ=>by rw[ofAt,ofAt_eq l i];rfl
theorem ofIn_eq (x:Tree)(K Γ:List Tree):ofIn x K Γ=ofF (x.kids.getD 0 .nil) K Γ:=by
 cases x with
 | nil=>rw[ofIn];simp only[Tree.kids,List.getD_nil];rw[ofF]
 | node=>rw[ofIn,ofAt_eq];rfl
def armsF:List Tree→List Tree→Tree→List Tree→List Tree→List Tree×Int
 | [],_,_,_,_=>([],0)
 | x::l,S,self,K,Γ=>if (fillR ((S.getD 0 .nil).kids.getD 0 .nil) self).2=0 then
    (if (ofF (x.kids.getD 0 .nil) K ((fillR ((S.getD 0 .nil).kids.getD 0 .nil) self).1::Γ)).2=0 then
     ((ofF (x.kids.getD 0 .nil) K ((fillR ((S.getD 0 .nil).kids.getD 0 .nil) self).1::Γ)).1::(armsF l (S.drop 1) self K Γ).1,(armsF l (S.drop 1) self K Γ).2)
    else ([],(ofF (x.kids.getD 0 .nil) K ((fillR ((S.getD 0 .nil).kids.getD 0 .nil) self).1::Γ)).2))
   else ([],(fillR ((S.getD 0 .nil).kids.getD 0 .nil) self).2)
theorem ofArms_eq:∀(l:List Tree) (i:Nat) (S:List Tree) (self:Tree) (K Γ:List Tree),ofArms i l S self K Γ=armsF (l.drop i) S self K Γ
 | [],i,S,self,K,Γ=>by rw[ofArms];simp[armsF]
 | x::l,0,S,self,K,Γ=>by
  rw[ofArms,List.drop_zero,armsF]
  simp only[ofIn_eq]
  have:=ofArms_eq l 0 (S.drop 1) self K Γ
  rw[List.drop_zero]at this
  rw[this]
 | x::l,i+1,S,self,K,Γ=>by rw[ofArms,ofArms_eq l i];rfl
theorem ofFlds_cons (x:Tree)(l K Γ:List Tree):ofFlds (x::l) K Γ=if (ofF (x.kids.getD 0 .nil) K Γ).2=0 then (.node 116 0 x.name ByteArray.empty [(ofF (x.kids.getD 0 .nil) K Γ).1]::(ofFlds l K Γ).1,(ofFlds l K Γ).2) else ([],(ofF (x.kids.getD 0 .nil) K Γ).2):=by
 rw[ofFlds];simp only[ofIn_eq]
section
variable (T : Tree) (K Γ : List Tree)
def varR:Tree×Int:=if (Γ.length:Int)≤T.n then (.nil,8) else No.normR (Γ.getD T.n.toNat .nil)
def tlamR:Tree×Int:=lbnd (shsR Γ) fun Δ=>bnd (ofF (T.kids.getD 1 .nil) (T.kids.getD 0 .nil::K) Δ) fun t=>(cT 117 [T.kids.getD 0 .nil,t],0)
def letR:Tree×Int:=bnd (ofF (T.kids.getD 0 .nil) K Γ) fun t=>ofF (T.kids.getD 1 .nil) K (t::Γ)
def lamR:Tree×Int:=bnd (tstR K (T.kids.getD 0 .nil)) fun a=>bnd (ofF (T.kids.getD 1 .nil) K (a::Γ)) fun b=>(cT 114 [a,b],0)
def appR:Tree×Int:=bnd (ofF (T.kids.getD 0 .nil) K Γ) fun f=>bnd (ofF (T.kids.getD 1 .nil) K Γ) fun a =>
   if f.kind=114∧sameF (f.kids.getD 0 .nil) a=true then (f.kids.getD 1 .nil,0) else (.nil,11)
def recR:Tree×Int:=lbnd (ofFlds T.kids K Γ) fun ts=>(cT 115 ts,0)
def projR:Tree×Int:=bnd (asR (ofF (T.kids.getD 0 .nil) K Γ) 115) fun t=>match partF T.name t.kids with
   | none=>(.nil,11)
   | some p=>(p,0)
def tappR:Tree×Int:=bnd (ofF (T.kids.getD 0 .nil) K Γ) fun t=>bnd (Ki.kindR K (T.kids.getD 1 .nil)) fun q =>
   if t.kind=117∧sameF (t.kids.getD 0 .nil) q=true then fillR (t.kids.getD 1 .nil) (T.kids.getD 1 .nil) else (.nil,11)
def packR:Tree×Int:=bnd (tstR K (T.kids.getD 2 .nil)) fun t=>bnd (Ki.kindR K (T.kids.getD 0 .nil)) fun q=>bnd (ofF (T.kids.getD 1 .nil) K Γ) fun a =>
   if t.kind=118∧sameF (t.kids.getD 0 .nil) q=true then bnd (fillR (t.kids.getD 1 .nil) (T.kids.getD 0 .nil)) fun b=>if sameF a b=true then (t,0) else (.nil,11)
   else (.nil,11)
def unpackR:Tree×Int:=bnd (asR (ofF (T.kids.getD 0 .nil) K Γ) 118) fun t=>lbnd (shsR Γ) fun Δ=>bnd (ofF (T.kids.getD 1 .nil) (t.kids.getD 0 .nil::K) (t.kids.getD 1 .nil::Δ)) fun b =>
   if occursR b 0=true then (.nil,11) else shiftR b (-1) 0
def choiceR:Tree×Int:=lbnd (ofAll T.kids K Γ) fun ts =>
   if (ts.getD 0 .nil).kind=112∧sameF (ts.getD 1 .nil) (ts.getD 2 .nil)=true then (ts.getD 1 .nil,0) else (.nil,11)
def opR:Tree×Int:=bnd (ofF (T.kids.getD 0 .nil) K Γ) fun a=>bnd (ofF (T.kids.getD 1 .nil) K Γ) fun b =>
   if a.kind=111∧b.kind=111 then (if T.n≤3 then (cT 111 [],0) else (cT 112 [],0)) else (.nil,11)
def inR:Tree×Int:=bnd (tstR K (T.kids.getD 0 .nil)) fun s=>bnd (ofF (T.kids.getD 1 .nil) K Γ) fun a =>
   if s.kind=121 then (match partF T.name s.kids with
    | none=>(.nil,14)
    | some p=>bnd (fillR p s) fun b=>if sameF a b=true then (s,0) else (.nil,11))
   else (.nil,11)
def armR (S:List Tree)(self:Tree)(l:List Tree):List Tree×Int:=if S.map Tree.name=l.map Tree.name then armsF l S self K Γ else ([],14)
def caseR:Tree×Int:=bnd (asR (ofF (T.kids.getD 0 .nil) K Γ) 121) fun s=>lbnd (armR K Γ s.kids s (T.kids.drop 1)) fun ts=>alikeR ts (ts.getD 0 .nil)
def foldR:Tree×Int:=bnd (asR (ofF (T.kids.getD 0 .nil) K Γ) 121) fun s=>bnd (tstR K (T.kids.getD 1 .nil)) fun t=>lbnd (armR K Γ s.kids t (T.kids.drop 2)) fun ts=>alikeR ts t
def ruleR:Tree×Int:=if T.kind=134 then lamR T K Γ else if T.kind=135 then appR T K Γ else if T.kind=136 then recR T K Γ else if T.kind=138 then projR T K Γ
  else if T.kind=140 then tappR T K Γ else if T.kind=141 then packR T K Γ else if T.kind=142 then unpackR T K Γ else if T.kind=144 then choiceR T K Γ
  else if T.kind=145 then opR T K Γ else if T.kind=146 then inR T K Γ else if T.kind=147 then caseR T K Γ else foldR T K Γ
theorem arm_if (S:List Tree)(self:Tree)(l:List Tree)(f:List Tree→Tree×Int):lbnd (armR K Γ S self l) f=if S.map Tree.name=l.map Tree.name then lbnd (armsF l S self K Γ) f else (.nil,14):=by
 unfold armR
 split
 ·rfl
 ·unfold lbnd;rw[if_neg (by simp)]
theorem ofF_eq (h:T≠.nil):ofF T K Γ=if T.kind=130 then varR T Γ else if T.kind=131 then (cT 111 [],0) else if T.kind=132 then (cT 112 [],0) else if T.kind=133 then (cT 113 [],0)
  else if T.kind=139 then tlamR T K Γ else if T.kind=143 then letR T K Γ else ruleR T K Γ:=by
 cases T with
 | nil=>exact absurd rfl h
 | node k n nm mk l =>
  rw[ofF]
  simp only[ofAt_eq,ofArms_eq]
  unfold ruleR caseR foldR
  simp only[arm_if]
  rfl
end
end Ty
end Go.Proofs.YtlgajkoplklkiaaGreat
namespace Go.Proofs.YtlgajkoplklkiaaGreat
namespace Mc
open Go Go.Mq Cn Tm Sb St
inductive Wf:Tree→Prop
 | node {T:Tree} (hT:T≠.nil) (h2:T.kind=114∨T.kind=117∨T.kind=118→T.kids.length=2) (hf:T.kind=115∨T.kind=121→∀x∈T.kids,x≠.nil∧x.kind=(if T.kind=115 then 116 else 122)∧x.kids.length=1) (hk:∀x∈T.kids,Wf x):Wf T
theorem Wf.ne {T:Tree}(h:Wf T):T≠.nil:=by cases h with|node h=>exact h
theorem Wf.two {T:Tree}(h:Wf T)(hk:T.kind=114∨T.kind=117∨T.kind=118):T.kids.length=2:=by cases h with|node _ h=>exact h hk
theorem Wf.fl {T:Tree}(h:Wf T)(hk:T.kind=115∨T.kind=121):∀x∈T.kids,x≠.nil∧x.kind=(if T.kind=115 then 116 else 122)∧x.kids.length=1:=by cases h with|node _ _ h=>exact h hk
theorem Wf.kids {T:Tree}(h:Wf T):∀x∈T.kids,Wf x:=by cases h with|node _ _ _ h=>exact h
theorem kind_wf (T:Tree):isKindF T=true→Wf T:=by
 induction T using Tree.ind' with
 | h0=>intro h;rw[isKindF]at h;cases h
 | h1 T hT ih =>
  intro h
  rw[isKindF_eq hT]at h
  split at h
  ·rename_i hk
   rw[Bool.and_eq_true]at h
   have hl:T.kids=[]:=by have:=h.2;rw[beq_iff_eq]at this;exact List.length_eq_zero_iff.1 (by omega)
   exact .node hT (fun q=>by omega) (fun q=>by omega) (fun x hx=>by rw[hl]at hx;cases hx)
  ·split at h
   ·rename_i hk
    simp only[Bool.and_eq_true,beq_iff_eq]at h
    obtain⟨⟨⟨h1,h2⟩,h3⟩,h4⟩:=h
    refine .node hT (fun q=>by omega) (fun q=>by omega) (fun x hx=>?_)
    have h2':T.kids.length=2:=by omega
    rcases mem_two h2' hx with e|e
    ·exact ih x hx (by rw[e];exact h3)
    ·exact ih x hx (by rw[e];exact h4)
   ·cases h
theorem field_wf {kind:Int}(hk:kind=116∨kind=122){x:Tree}(h:fieldF kind x=true)(ih:∀y∈x.kids,isConF y=true→Wf y):Wf x∧x≠.nil∧x.kind=kind∧x.kids.length=1:=by
 have hx:x≠.nil:=by intro e;subst e;rw[fieldF]at h;cases h
 rw[fieldF_eq hx]at h
 simp only[Bool.and_eq_true,beq_iff_eq]at h
 obtain⟨⟨⟨⟨h1,h2⟩,h3⟩,h4⟩,h5⟩:=h
 have h4':x.kids.length=1:=by omega
 refine⟨.node hx (fun q=>by omega) (fun q=>by omega) fun y hy=>?_,hx,h1,h4'⟩
 have e:=mem_one h4' hy
 exact ih y hy (by rw[e];exact h5)
theorem con_wf (T:Tree):(isConF T=true→Wf T)∧∀x∈T.kids,isConF x=true→Wf x:=by
 induction T using Tree.ind' with
 | h0=>exact⟨fun h=>(by rw[isConF]at h;cases h),fun x hx=>(by cases hx)⟩
 | h1 T hT ih =>
  refine⟨fun h=>?_,fun x hx=>(ih x hx).1⟩
  rw[isConF_eq hT,Bool.and_eq_true]at h
  obtain⟨_,h⟩:=h
  by_cases k1:T.kind=110
  ·rw[if_pos k1]at h
   simp only[Bool.and_eq_true,beq_iff_eq,decide_eq_true_eq]at h
   have hl:T.kids=[]:=List.length_eq_zero_iff.1 (by omega)
   exact .node hT (fun q=>by omega) (fun q=>by omega) (fun x hx=>by rw[hl]at hx;cases hx)
  rw[if_neg k1]at h
  by_cases k2:T.kind=111∨T.kind=112∨T.kind=113
  ·rw[if_pos k2,beq_iff_eq]at h
   have hl:T.kids=[]:=List.length_eq_zero_iff.1 (by omega)
   exact .node hT (fun q=>by omega) (fun q=>by omega) (fun x hx=>by rw[hl]at hx;cases hx)
  rw[if_neg k2]at h
  by_cases k3:T.kind=114∨T.kind=120
  ·rw[if_pos k3]at h
   simp only[Bool.and_eq_true,beq_iff_eq]at h
   have h2':T.kids.length=2:=by omega
   refine .node hT (fun q=>h2') (fun q=>by omega) (fun x hx=>?_)
   rcases mem_two h2' hx with e|e
   ·exact (ih x hx).1 (by rw[e];exact h.1.2)
   ·exact (ih x hx).1 (by rw[e];exact h.2)
  rw[if_neg k3]at h
  by_cases k4:T.kind=115
  ·rw[if_pos k4]at h
   simp only[Bool.and_eq_true]at h
   have hf:=fun x hx=>field_wf (.inl rfl) (fieldsF_mem h.1 x hx) (ih x hx).2
   exact .node hT (fun q=>by omega) (fun q x hx=>by rw[if_pos k4];exact (hf x hx).2) (fun x hx=>(hf x hx).1)
  rw[if_neg k4]at h
  by_cases k5:T.kind=117∨T.kind=118∨T.kind=119
  ·rw[if_pos k5]at h
   simp only[Bool.and_eq_true,beq_iff_eq]at h
   have h2':T.kids.length=2:=by omega
   refine .node hT (fun q=>h2') (fun q=>by omega) (fun x hx=>?_)
   rcases mem_two h2' hx with e|e
   ·exact kind_wf x (by rw[e];exact h.1.2)
   ·exact (ih x hx).1 (by rw[e];exact h.2)
  rw[if_neg k5]at h
  by_cases k6:T.kind=121
  ·rw[if_pos k6]at h
   simp only[Bool.and_eq_true]at h
   have hf:=fun x hx=>field_wf (.inr rfl) (fieldsF_mem h.1.2 x hx) (ih x hx).2
   exact .node hT (fun q=>by omega) (fun q x hx=>by rw[if_neg k4];exact (hf x hx).2) (fun x hx=>(hf x hx).1)
  ·rw[if_neg k6]at h;cases h
theorem conE_wf {T:Tree}(h:conE T=0):Wf T:=(con_wf T).1 (conE_full h).2
theorem Wf.toC_two {T:Tree}(h:Wf T)(hk:T.kind=114∨T.kind=117∨T.kind=118):toC T=.op T.kind T.name [toC (T.kids.getD 0 .nil),toC (T.kids.getD 1 .nil)]:=by
 rw[toC_op h.ne (by omega)]
 congr 1
 conv=>lhs;rw[two_of (h.two hk)]
 rfl
theorem Wf.fld {T:Tree}(h:Wf T)(hk:T.kind=115∨T.kind=121){x:Tree}(hx:x∈T.kids):toC x=.op (if T.kind=115 then 116 else 122) x.name [toC (inn x)]:=by
 obtain⟨h1,h2,h3⟩:=h.fl hk x hx
 rw[toC_op h1 (by rw[h2];split<;>decide),h2]
 congr 1
 match hq:x.kids,h3 with
 | [a],_=>unfold inn;rw[hq];rfl
theorem Wf.FL {T:Tree}(h:Wf T)(hk:T.kind=115∨T.kind=121):FL (if T.kind=115 then 116 else 122) (T.kids.map toC):=fun x hx=>by
 obtain⟨y,hy,rfl⟩:=List.mem_map.1 hx
 exact⟨_,_,h.fld hk hy⟩
theorem Wf.part {T:Tree}(h:Wf T)(hk:T.kind=115∨T.kind=121){s:ByteArray}{p:Tree}(hp:partF s T.kids=some p):fAt s (T.kids.map toC)=some (toC p)∧Wf p:=by
 have key:∀l:List Tree,(∀x∈l,x∈T.kids)→partF s l=some p→fAt s (l.map toC)=some (toC p)∧Wf p:=by
  intro l
  induction l with
  | nil=>intro _ h;rw[partF]at h;cases h
  | cons x l ih =>
   intro hx hp
   have hm:=hx x (by simp)
   rw[partF]at hp
   rw[List.map_cons,fAt,h.fld hk hm]
   have e:nmOf (.op (if T.kind=115 then 116 else 122) x.name [toC (inn x)])=x.name:=rfl
   rw[e]
   by_cases q:x.name=s
   ·rw[if_pos q]at hp ⊢
    have:=Option.some.inj hp
    subst this
    refine⟨rfl,?_⟩
    obtain⟨_,_,h3⟩:=h.fl hk x hm
    exact (h.kids x hm).kids _ (getD_mem (by omega))
   ·rw[if_neg q]at hp ⊢
    exact ih (fun y hy=>hx y (by simp[hy])) hp
 exact key T.kids (fun x hx=>hx) hp
open Ty
theorem bnd_zero {r:Tree×Int}{f:Tree→Tree×Int}{A:Tree}(h:bnd r f=(A,0)):r=(r.1,0)∧f r.1=(A,0):=by
 unfold bnd at h
 by_cases q:r.2=0
 ·rw[if_pos q]at h;exact⟨Prod.ext rfl q,h⟩
 ·rw[if_neg q]at h;exact absurd (Prod.mk.inj h).2 q
theorem lbnd_zero {r:List Tree×Int}{f:List Tree→Tree×Int}{A:Tree}(h:lbnd r f=(A,0)):r=(r.1,0)∧f r.1=(A,0):=by
 unfold lbnd at h
 by_cases q:r.2=0
 ·rw[if_pos q]at h;exact⟨Prod.ext rfl q,h⟩
 ·rw[if_neg q]at h;exact absurd (Prod.mk.inj h).2 q
theorem tst_ok {K:List Tree}{n a:Tree}(h:tstR K n=(a,0)):Fit (toC n)∧Sc K.length (toC n)∧conE n=0∧Eqv (toC n) (toC a)∧conE a=0:=by
 unfold tstR at h
 by_cases q:Ki.starE K n=0
 ·rw[if_pos q]at h
  obtain⟨h1,h2,h3⟩:=starE_facts q
  obtain⟨r1,_,r3⟩:=normR_red h
  exact⟨h1,h2,h3,r1.eqv,r3⟩
 ·rw[if_neg q]at h;exact absurd (Prod.mk.inj h).2 q
theorem fill_ok {n b a:Tree}(h:fillR n b=(a,0)):Eqv (inst (toC n) (toC b)) (toC a)∧conE a=0:=by
 obtain⟨h1,h2⟩:=bnd_zero h
 obtain⟨r1,_,r3⟩:=normR_red h2
 rw[←subst_toC h1]
 exact⟨r1.eqv,r3⟩
theorem shs_ok:∀{Γ Δ:List Tree},shsR Γ=(Δ,0)→Δ.map toC=shC (Γ.map toC)
 | [],Δ,h=>by rw[shsR]at h;rw[←(Prod.mk.inj h).1];rfl
 | t::l,Δ,h=>by
  rw[shsR]at h
  by_cases q:(shiftR t 1 0).2=0
  ·rw[if_pos q]at h
   obtain⟨h1,h2⟩:=Prod.mk.inj h
   rw[←h1]
   obtain⟨e1,_⟩:=shift_toC (Prod.ext rfl q:shiftR t 1 0=((shiftR t 1 0).1,0))
   have:=shs_ok (Prod.ext rfl h2:shsR l=((shsR l).1,0))
   unfold shC at this ⊢
   rw[List.map_cons,this,e1];rfl
  ·rw[if_neg q]at h;exact absurd (Prod.mk.inj h).2 q
theorem as_ok {r:Tree×Int}{kind:Int}{t:Tree}(h:asR r kind=(t,0)):r=(t,0)∧t.kind=kind:=by
 unfold asR at h
 by_cases q:r.2=0∧r.1.kind≠kind
 ·rw[if_pos q]at h;exact absurd (Prod.mk.inj h).2 (by decide)
 ·rw[if_neg q]at h
  refine⟨h,Decidable.byContradiction fun q2=>q ?_⟩
  rw[h];exact⟨rfl,q2⟩
theorem vmap_back (T:Tree):∀(d:Nat) (y:Tree),Plain T→(d:Int)+sizeN T≤lim→vmap (fM (-1) 0) T d=some y→toC T=ren (shAt 1 d) (toC y):=by
 induction T using Tree.ind' with
 | h0=>intro d y hp;cases hp
 | h1 T hT ih =>
  intro d y hp hd h
  obtain⟨v1,v2,v3,v4,v5,v6⟩:=vmap_inv h
  have hs:=sizeN_kids hT
  by_cases hk:T.kind=110
  ·have v6:=(v6 hk).1
   have hn:0≤T.n:=by
    cases T with
    | nil=>exact absurd rfl hT
    | node k n nm mk l=>exact ((hp.inv.2.1 hk).2.2).1
   rw[toC_var v1 (by rw[v2];exact hk),toC_var hT hk,ren_var]
   congr 1
   unfold fM at v6
   unfold shAt
   by_cases c:(d:Int)≤T.n
   ·rw[if_pos ⟨c,by omega⟩]at v6
    split at v6
    ·cases v6
    ·have:=Option.some.inj v6
     rw[ifn];omega
   ·rw[ifn]at v6
    have:=Option.some.inj v6
    rw[ifp];omega
  ·obtain⟨_,v5⟩:=v5 hk
   obtain⟨u1,u2⟩:=vmaps_get v5
   rw[toC_op v1 (by rw[v2];exact hk),toC_op hT hk,ren_op,v2,v3]
   congr 1
   refine map_ext2 u1.symm fun i hi=>?_
   have hi:i < T.kids.length:=by omega
   have hm:=getD_mem hi
   have s1:=sizesN_mem hm
   have hb:=bd_binds T
   have hb1:=bd_one T.kind
   have:=ih _ hm (d+Cn.bd T.kind) _ (Ex.plain_kids hp _ hm) (by omega) (by have:=u2 i hi;rwa [hb]at this)
   rw[this]
   exact ren_ext _ fun n=>(uprN_shAt 1 d _ hb1 n).symm
theorem back_ok {b A:Tree}(h:shiftR b (-1) 0=(A,0)):toC b=ren Nat.succ (toC A)∧conE A=0:=by
 have hb:conE b=0:=by
  unfold shiftR at h
  by_cases q:conE b=0
  ·exact q
  ·rw[if_neg q]at h;exact absurd (Prod.mk.inj h).2 q
 have hz:=conE_size hb
 have hlim:lim=1099511627776:=rfl
 rw[shiftR_vmap hb (Int.le_refl 0) (-1)]at h
 cases hv:vmap (fM (-1) 0) b 0 with
 | none=>rw[hv]at h;exact absurd (Prod.mk.inj h).2 (by decide)
 | some m =>
  rw[hv]at h
  have:=(Prod.mk.inj h).1
  have this:m=A:=this
  subst this
  refine⟨?_,vmap_conE (fM_VB (-1) 0) hb hv⟩
  rw[vmap_back b 0 m (conE_plain hb) (by omega) hv]
  exact ren_ext _ fun n=>shAt_zero 1 n
end Mc
end Go.Proofs.YtlgajkoplklkiaaGreat
namespace Go.Proofs.YtlgajkoplklkiaaGreat
namespace Mc
open Go Go.Mq Cn Tm Sb St Ty
theorem ofAll_get:∀{xs K Γ ts:List Tree},ofAll xs K Γ=(ts,0)→ts.length=xs.length∧∀i,i < xs.length→ofF (xs.getD i .nil) K Γ=(ts.getD i .nil,0)
 | [],K,Γ,ts,h=>by rw[ofAll]at h;rw[←(Prod.mk.inj h).1];exact⟨rfl,fun i hi=>by simp at hi⟩
 | x::xs,K,Γ,ts,h=>by
  rw[ofAll]at h
  by_cases q:(ofF x K Γ).2=0
  ·rw[if_pos q]at h
   obtain⟨h1,h2⟩:=Prod.mk.inj h
   obtain⟨a,b⟩:=ofAll_get (Prod.ext rfl h2:ofAll xs K Γ=((ofAll xs K Γ).1,0))
   rw[←h1]
   refine⟨by simp[a],fun i hi=>?_⟩
   cases i with
   | zero=>exact Prod.ext rfl q
   | succ i=>have:=b i (by simpa using hi);simpa using this
  ·rw[if_neg q]at h;exact absurd (Prod.mk.inj h).2 q
theorem ofFlds_get:∀{xs K Γ ts:List Tree},ofFlds xs K Γ=(ts,0)→ts.length=xs.length∧∀i,i < xs.length→∃t,ofF (inn (xs.getD i .nil)) K Γ=(t,0)∧ts.getD i .nil=.node 116 0 (xs.getD i .nil).name ByteArray.empty [t]
 | [],K,Γ,ts,h=>by rw[ofFlds]at h;rw[←(Prod.mk.inj h).1];exact⟨rfl,fun i hi=>by simp at hi⟩
 | x::xs,K,Γ,ts,h=>by
  rw[ofFlds_cons]at h
  by_cases q:(ofF (x.kids.getD 0 .nil) K Γ).2=0
  ·rw[if_pos q]at h
   obtain⟨h1,h2⟩:=Prod.mk.inj h
   obtain⟨a,b⟩:=ofFlds_get (Prod.ext rfl h2:ofFlds xs K Γ=((ofFlds xs K Γ).1,0))
   rw[←h1]
   refine⟨by simp[a],fun i hi=>?_⟩
   cases i with
   | zero=>exact⟨_,Prod.ext rfl q,rfl⟩
   | succ i=>have:=b i (by simpa using hi);simpa using this
  ·rw[if_neg q]at h;exact absurd (Prod.mk.inj h).2 q
theorem arms_get:∀{xs S:List Tree} {self:Tree} {K Γ ts:List Tree},armsF xs S self K Γ=(ts,0)→ts.length=xs.length∧∀i,i < xs.length→∃X,fillR (inn (S.getD i .nil)) self=(X,0)∧ofF (inn (xs.getD i .nil)) K (X::Γ)=(ts.getD i .nil,0)
 | [],S,self,K,Γ,ts,h=>by rw[armsF]at h;rw[←(Prod.mk.inj h).1];exact⟨rfl,fun i hi=>by simp at hi⟩
 | x::xs,S,self,K,Γ,ts,h=>by
  rw[armsF]at h
  by_cases q1:(fillR ((S.getD 0 .nil).kids.getD 0 .nil) self).2=0
  ·rw[if_pos q1]at h
   by_cases q:(ofF (x.kids.getD 0 .nil) K ((fillR ((S.getD 0 .nil).kids.getD 0 .nil) self).1::Γ)).2=0
   ·rw[if_pos q]at h
    obtain⟨h1,h2⟩:=Prod.mk.inj h
    obtain⟨a,b⟩:=arms_get (Prod.ext rfl h2:armsF xs (S.drop 1) self K Γ=((armsF xs (S.drop 1) self K Γ).1,0))
    rw[←h1]
    refine⟨by simp only[List.length_cons,a],fun i hi=>?_⟩
    cases i with
    | zero=>exact⟨_,Prod.ext rfl q1,Prod.ext rfl q⟩
    | succ i =>
     obtain⟨X,b1,b2⟩:=b i (by simpa using hi)
     have e:(S.drop 1).getD i .nil=S.getD (i+1) .nil:=by simp[List.getD_eq_getElem?_getD,Nat.add_comm]
     rw[e]at b1
     exact⟨X,b1,by simpa using b2⟩
   ·rw[if_neg q]at h;exact absurd (Prod.mk.inj h).2 q
  ·rw[if_neg q1]at h;exact absurd (Prod.mk.inj h).2 q1
theorem alike_get {ts:List Tree}{t A:Tree}(h:alikeR ts t=(A,0)):A=t∧∀x∈ts,x=t:=by
 unfold alikeR at h
 by_cases q:(ts.any fun s=>!sameF s t)=true
 ·rw[if_pos q]at h;exact absurd (Prod.mk.inj h).2 (by decide)
 ·rw[if_neg q]at h
  refine⟨(Prod.mk.inj h).1.symm,fun x hx=>?_⟩
  apply (sameF_iff x t).1
  cases hs:sameF x t with
  | true=>rfl
  | false=>exact absurd (List.any_eq_true.2 ⟨x,hx,by rw[hs];rfl⟩) q
theorem cT_wf {k:Int}{l:List Tree}(h2:k=114∨k=117∨k=118→l.length=2)(hf:k=115∨k=121→∀x∈l,x≠.nil∧x.kind=(if k=115 then 116 else 122)∧x.kids.length=1)(hk:∀x∈l,Wf x):Wf (cT k l):=.node (by intro e;cases e) h2 hf hk
theorem drop_get (l:List Tree)(j i:Nat):(l.drop j).getD i .nil=l.getD (j+i) .nil:=by simp[List.getD_eq_getElem?_getD]
end Mc
end Go.Proofs.YtlgajkoplklkiaaGreat
namespace Go.Proofs.YtlgajkoplklkiaaGreat
namespace Cn
open Go Go.Mq Ki Tm
def mark (j:Nat):Nat→Cn:=fun n=>if n=j then .op 999 ByteArray.empty [] else .var n
theorem up_mark (j:Nat):∀n,up (mark j) n=mark (j+1) n
 | 0=>by unfold mark;rw[ifn];rfl
 | n+1=>by
  show ren Nat.succ (mark j n)=_
  unfold mark
  by_cases h:n=j
  ·rw[if_pos h,ifp,ren_op];rfl
  ·rw[if_neg h,ifn,ren_var]
theorem upN_mark (j k:Nat)(hk:k=0∨k=1)(n:Nat):upN k (mark j) n=mark (j+k) n:=by
 rcases hk with rfl|rfl
 ·rfl
 ·exact up_mark j n
theorem hitss_pos {i:Int}:∀{l:List Tree} {d:Int},0 < hitssN i l d→∃x∈l,0 < hitsN i x d
 | [],d,h=>by rw[hitssN]at h;omega
 | y::l,d,h=>by
  rw[hitssN]at h
  by_cases q:0 < hitsN i y d
  ·exact⟨y,by simp,q⟩
  ·obtain⟨x,hx,h2⟩:=hitss_pos (show 0 < hitssN i l d by omega)
   exact⟨x,by simp[hx],h2⟩
theorem hits_dep (j:Nat)(T:Tree):∀d:Nat,Plain T→(d:Int)+sizeN T≤549755813888→0 < hitsN j T d→sub (mark (j+d)) (toC T)≠toC T:=by
 induction T using Tree.ind' with
 | h0=>intro d hp;cases hp
 | h1 T hT ih =>
  intro d hp hd h e
  have hlim:lim=1099511627776:=rfl
  have hs:=sizeN_kids hT
  have hbb:=bd_binds T
  have hb1:=bd_one T.kind
  cases T with
  | nil=>exact absurd rfl hT
  | node k n nm mk l =>
   rw[hitsN]at h
   by_cases hk:k=110
   ·obtain⟨_,q2,_⟩:=hp.inv
    obtain⟨_,rfl,q3,q4⟩:=q2 hk
    rw[toC,if_pos hk,sub_var]at e
    by_cases c:k=110∧(d:Int)≤n∧IntKind.i64.wrap (n - d)=j
    ·obtain⟨_,c1,c2⟩:=c
     rw[wrap64 (by omega) (by omega)]at c2
     unfold mark at e
     rw[ifp]at e
     cases e
    ·rw[if_neg c,hitssN]at h;omega
   ·rw[toC,if_neg hk,toCs_map,sub_op]at e
    injection e with _ _ e
    have h2:0 < hitssN j l (IntKind.i64.wrap ((d:Int)+bindsF (.node k n nm mk l))):=by
     rw[if_neg (fun q=>hk q.1)]at h;omega
    rw[wrap64 (by omega) (by omega),hbb]at h2
    obtain⟨x,hx,h3⟩:=hitss_pos h2
    have s1:=sizesN_mem hx
    have:=ih x hx (d+bd k) (Ex.plain_kids hp x hx) (by simp only[Tree.kids,Tree.kind]at *;omega) h3
    apply this
    rw[List.map_map]at e
    have e2:=List.map_inj_left.1 e x hx
    have e3:sub (upN (bd k) (mark (j+d))) (toC x)=toC x:=e2
    rw[←Nat.add_assoc]
    exact (sub_ext (toC x) fun n=>(upN_mark (j+d) (bd k) hb1 n).symm).trans e3
theorem sc_free {T:Tree}(hT:conE T=0){d:Nat}(h:Sc d (toC T)):freeR T≤d:=by
 have hz:=conE_size hT
 have hlim:lim=1099511627776:=rfl
 rw[freeR_eq,rfreeR,if_pos hT]
 obtain⟨_,f2,f3⟩:=free_hits T 0 (conE_plain hT) (by omega) (by omega)
 apply Decidable.byContradiction
 intro hn
 have h3:=f3 (by omega)
 have hj:rfreeF T 0 - 1=(((rfreeF T 0 - 1).toNat:Nat):Int):=by omega
 rw[hj]at h3
 refine hits_dep _ T 0 (conE_plain hT) (by omega) h3 ?_
 rw[h (mark ((rfreeF T 0 - 1).toNat+0)) Cn.var (fun n hn=>by unfold mark;rw[ifn]),sub_id]
end Cn
end Go.Proofs.YtlgajkoplklkiaaGreat
namespace Go.Proofs.YtlgajkoplklkiaaGreat
namespace Mc
open Go Go.Mq Cn Tm Sb St
def Z (r:Int×Int):Prop:=r.1≤0∧r.2≤0
theorem frees_of (k:Int):∀(l:List Tree) (i:Nat) (c t:Int),(∀p,p < l.length→Z (freeT (l.getD p .nil) (c+(bndF k (i+p)).1) (t+(bndF k (i+p)).2)))→Z (freesT k i l c t)
 | [],i,c,t,_=>by rw[freesT];exact⟨Int.le_refl _,Int.le_refl _⟩
 | x::l,i,c,t,h=>by
  have h0:=h 0 (by simp)
  have h1:=frees_of k l (i+1) c t fun p hp=>by
   have:=h (p+1) (by simpa using hp)
   rw[show i+1+p=i+(p+1) by omega]
   simpa using this
  rw[freesT]
  have h0:Z (freeT x (c+(bndF k i).1) (t+(bndF k i).2)):=h0
  unfold Z at *
  simp only[mx_eq]
  omega
theorem z_of {T:Tree}(hT:T≠.nil)(hk:131≤T.kind){c t:Int}(h:∀i,i < T.kids.length→Z (freeT (T.kids.getD i .nil) (c+(bndF T.kind i).1) (t+(bndF T.kind i).2))):Z (freeT T c t):=by
 rw[freeT_eq hT,ifn,ifn]
 exact frees_of _ _ 0 c t fun p hp=>by rw[Nat.zero_add];exact h p hp
theorem z_kid {T:Tree}(hT:T≠.nil)(hk:131≤T.kind){c t:Int}(h:Z (freeT T c t)){i:Nat}(hi:i < T.kids.length):Z (freeT (T.kids.getD i .nil) (c+(bndF T.kind i).1) (t+(bndF T.kind i).2)):=⟨kid1 hT hk h.1 hi,kid2 hT hk h.2 hi⟩
theorem Cd.z {T:Tree}(h:Cd T):Z (freeT T 0 0):=⟨h.free1,h.free2⟩
theorem rolls_get {T:Tree}:∀(l vs:List Tree),vs.length=l.length→(rollsF T l vs).length=l.length∧∀i,i < l.length→(rollsF T l vs).getD i .nil=fieldT (vs.getD i .nil).name (rollF T (inn (l.getD i .nil)) (inn (vs.getD i .nil)))
 | [],vs,h=>by
  have:vs=[]:=List.length_eq_zero_iff.1 h
  subst this
  rw[rollsF];exact⟨rfl,fun i hi=>by simp at hi⟩
 | x::l,[],h=>by simp at h
 | x::l,v::vs,h=>by
  obtain⟨h1,h2⟩:=rolls_get (T:=T) l vs (by simpa using h)
  have e:rollsF T (x::l) (v::vs)=fieldT v.name (rollF T (inn x) (inn v))::rollsF T l vs:=by rw[rollsF,rollI_eq];rfl
  rw[e]
  refine⟨by simp[h1],fun i hi=>?_⟩
  cases i with
  | zero=>rfl
  | succ i=>have:=h2 i (by simpa using hi);simpa using this
theorem arm_z {T:Tree}(hT:Cd T){j:Nat}(hj:T.kind=147∧j=1∨T.kind=148∧j=2){s:ByteArray}{b:Tree}(hb:partF s (T.kids.drop j)=some b):isTermF b=true∧Z (freeT b 0 1):=by
 obtain⟨i,i1,i2⟩:=part_mem hb
 have hi':j+i < T.kids.length:=by simp at i1;omega
 have e:(T.kids.drop j).getD i .nil=T.kids.getD (j+i) .nil:=by simp[List.getD_eq_getElem?_getD]
 have hf:tfieldF 149 (T.kids.getD (j+i) .nil)=true:=by
  rcases hj with⟨q,rfl⟩|⟨q,rfl⟩
  ·exact (term_xa hT.term q).2.2 _ (mem_drop (by omega) hi')
  ·exact (term_xca hT.term q).2.2.2 _ (mem_drop (by omega) hi')
 obtain⟨q1,q2,q3,q4,q5⟩:=tfield_parts hf
 have hb:bndF T.kind (j+i)=(0,0):=by
  unfold bndF
  rcases hj with⟨q,rfl⟩|⟨q,rfl⟩
  ·rw[q,if_neg (by decide)];split<;>rfl
  ·rw[q,if_neg (by decide)];split<;>rfl
 have h1:=z_kid (term_ne hT.term) hT.hi hT.z hi'
 rw[hb]at h1
 have h3:=z_kid q1 (by omega) h1 (i:=0) (by omega)
 have hb2:bndF (T.kids.getD (j+i) .nil).kind 0=(0,1):=by rw[q2];rfl
 rw[hb2]at h3
 rw[i2,e]
 exact⟨q5,h3⟩
end Mc
end Go.Proofs.YtlgajkoplklkiaaGreat
namespace Go.Proofs.YtlgajkoplklkiaaGreat
namespace Sn
open Go Go.Mq Cn Tm Sb St Ty Mc
abbrev e0:ByteArray:=ByteArray.empty
inductive Hk:List Tree→List Cn→Tree→Cn→Prop
 | conv {K:List Tree} {Γ:List Cn} {T:Tree} {A B:Cn} (h:Hk K Γ T A) (he:Eqv A B):Hk K Γ T B
 | var {K:List Tree} {Γ:List Cn} {T:Tree} {A:Cn} (hk:T.kind=130) (h0:0≤T.n) (h:Γ[T.n.toNat]?=some A):Hk K Γ T A
 | int {K:List Tree} {Γ:List Cn} {T:Tree} (hk:T.kind=131):Hk K Γ T (.op 111 e0 [])
 | tru {K:List Tree} {Γ:List Cn} {T:Tree} (hk:T.kind=132):Hk K Γ T (.op 112 e0 [])
 | unt {K:List Tree} {Γ:List Cn} {T:Tree} (hk:T.kind=133):Hk K Γ T (.op 113 e0 [])
 | lam {K:List Tree} {Γ:List Cn} {T:Tree} {A B:Cn} (hk:T.kind=134) (hs:Ki.starE K (kidT T 0)=0) (he:Eqv (toC (kidT T 0)) A) (h:Hk K (A::Γ) (kidT T 1) B):Hk K Γ T (.op 114 e0 [A,B])
 | app {K:List Tree} {Γ:List Cn} {T:Tree} {A B:Cn} (hk:T.kind=135) (h:Hk K Γ (kidT T 0) (.op 114 e0 [A,B])) (h2:Hk K Γ (kidT T 1) A):Hk K Γ T B
 | rcd {K:List Tree} {Γ:List Cn} {T:Tree} (hk:T.kind=136) {l:List Cn} (hl:l.length=T.kids.length) (hfl:FL 116 l) (hn:∀i (hi:i < l.length),nmOf l[i]=(kidT T i).name) (h:∀i (hi:i < l.length),Hk K Γ (inn (kidT T i)) (bodyOf l[i])):Hk K Γ T (.op 115 e0 l)
 | proj {K:List Tree} {Γ:List Cn} {T:Tree} {A:Cn} (hk:T.kind=138) {l:List Cn} (hfl:FL 116 l) (h:Hk K Γ (kidT T 0) (.op 115 e0 l)) (ha:fAt T.name l=some A):Hk K Γ T A
 | tlam {K:List Tree} {Γ:List Cn} {T:Tree} {B:Cn} (hk:T.kind=139) (hK:kindE (kidT T 0)=0) (h:Hk (kidT T 0::K) (shC Γ) (kidT T 1) B):Hk K Γ T (.op 117 e0 [toC (kidT T 0),B])
 | tapp {K:List Tree} {Γ:List Cn} {T:Tree} {q:Tree} {B:Cn} (hk:T.kind=140) (h:Hk K Γ (kidT T 0) (.op 117 e0 [toC q,B])) (hq:Ki.kindR K (kidT T 1)=(q,0)):Hk K Γ T (inst B (toC (kidT T 1)))
 | pack {K:List Tree} {Γ:List Cn} {T:Tree} {q:Tree} {B:Cn} (hk:T.kind=141) (hs:Ki.starE K (kidT T 2)=0) (he:Eqv (toC (kidT T 2)) (.op 118 e0 [toC q,B])) (hq:Ki.kindR K (kidT T 0)=(q,0)) (h:Hk K Γ (kidT T 1) (inst B (toC (kidT T 0)))):Hk K Γ T (.op 118 e0 [toC q,B])
 | unpack {K:List Tree} {Γ:List Cn} {T:Tree} {q:Tree} {B A:Cn} (hk:T.kind=142) (hK:kindE q=0) (h:Hk K Γ (kidT T 0) (.op 118 e0 [toC q,B])) (h2:Hk (q::K) (B::shC Γ) (kidT T 1) (ren Nat.succ A)):Hk K Γ T A
 | bind {K:List Tree} {Γ:List Cn} {T:Tree} {A B:Cn} (hk:T.kind=143) (h:Hk K Γ (kidT T 0) A) (h2:Hk K (A::Γ) (kidT T 1) B):Hk K Γ T B
 | choice {K:List Tree} {Γ:List Cn} {T:Tree} {A:Cn} (hk:T.kind=144) (h:Hk K Γ (kidT T 0) (.op 112 e0 [])) (h1:Hk K Γ (kidT T 1) A) (h2:Hk K Γ (kidT T 2) A):Hk K Γ T A
 | opr {K:List Tree} {Γ:List Cn} {T:Tree} (hk:T.kind=145) (h:Hk K Γ (kidT T 0) (.op 111 e0 [])) (h1:Hk K Γ (kidT T 1) (.op 111 e0 [])):Hk K Γ T (.op (if T.n≤3 then 111 else 112) e0 [])
 | inj {K:List Tree} {Γ:List Cn} {T:Tree} {c:Cn} (hk:T.kind=146) {l:List Cn} (hs:Ki.starE K (kidT T 0)=0) (he:Eqv (toC (kidT T 0)) (.op 121 e0 l)) (hfl:FL 122 l) (ha:fAt T.name l=some c) (h:Hk K Γ (kidT T 1) (inst c (.op 121 e0 l))):Hk K Γ T (.op 121 e0 l)
 | cse {K:List Tree} {Γ:List Cn} {T:Tree} {A:Cn} (hk:T.kind=147) {l:List Cn} (hfl:FL 122 l) (h0:Hk K Γ (kidT T 0) (.op 121 e0 l)) (hl:(T.kids.drop 1).length=l.length) (hn:∀i (hi:i < l.length),nmOf l[i]=(kidT T (1+i)).name) (X:Nat→Cn) (hX:∀i (hi:i < l.length),Eqv (X i) (inst (bodyOf l[i]) (.op 121 e0 l))) (h:∀i (hi:i < l.length),Hk K (X i::Γ) (inn (kidT T (1+i))) A):Hk K Γ T A
 | fold {K:List Tree} {Γ:List Cn} {T:Tree} {A:Cn} (hk:T.kind=148) {l:List Cn} (hfl:FL 122 l) (h0:Hk K Γ (kidT T 0) (.op 121 e0 l)) (hs:Ki.starE K (kidT T 1)=0) (he:Eqv (toC (kidT T 1)) A) (hl:(T.kids.drop 2).length=l.length) (hn:∀i (hi:i < l.length),nmOf l[i]=(kidT T (2+i)).name) (X:Nat→Cn) (hX:∀i (hi:i < l.length),Eqv (X i) (inst (bodyOf l[i]) A)) (h:∀i (hi:i < l.length),Hk K (X i::Γ) (inn (kidT T (2+i))) A):Hk K Γ T A
theorem eqv_ren {a b:Cn}(h:Eqv a b)(r:Nat→Nat):Eqv (Cn.ren r a) (Cn.ren r b):=by
 rw[ren_as_sub,ren_as_sub];exact h.sub _
theorem kind_nf (a:Tree):isKindF a=true→Nf (toC a):=by
 induction a using Tree.ind' with
 | h0=>intro h;rw[isKindF]at h;cases h
 | h1 T hT ih =>
  intro h
  rw[isKindF_eq hT]at h
  by_cases h1:T.kind=100
  ·rw[if_pos h1]at h
   simp only[Bool.and_eq_true,beq_iff_eq]at h
   have hl:T.kids=[]:=List.length_eq_zero_iff.1 (by omega)
   rw[toC_op hT (by omega),hl,h1]
   intro x hx
   generalize hz:Cn.op 100 T.name (List.map toC [])=z at hx
   cases hx with
   | var n=>cases hz
   | op h2 _ =>
    cases hz
    have:=List.length_eq_zero_iff.1 (show _=0 from h2)
    subst this;rfl
   | beta=>cases hz
  rw[if_neg h1]at h
  by_cases h2:T.kind=101
  ·rw[if_pos h2]at h
   simp only[Bool.and_eq_true,beq_iff_eq]at h
   have hl:T.kids.length=2:=by omega
   have g0:=ih _ (getD_mem (l:=T.kids) (i:=0) (by omega)) h.1.2
   have g1:=ih _ (getD_mem (l:=T.kids) (i:=1) (by omega)) h.2
   have e:T.kids.map toC=[toC (T.kids.getD 0 .nil),toC (T.kids.getD 1 .nil)]:=by
    conv=>lhs;rw[two_of hl]
    rfl
   rw[toC_op hT (by omega),e,h2]
   intro x hx
   generalize hz:Cn.op 101 T.name [toC (T.kids.getD 0 .nil),toC (T.kids.getD 1 .nil)]=z at hx
   cases hx with
   | var n=>cases hz
   | @op _ _ _ l' h2 h3 =>
    cases hz
    match l',h2,h3 with
    | [a,b],h2,h3 =>
     have e1:=g0 _ (h3 0 (by simp) (by simp))
     have e2:=g1 _ (h3 1 (by simp) (by simp))
     have e1:a=_:=e1
     have e2:b=_:=e2
     rw[e1,e2]
   | beta=>cases hz
  ·rw[if_neg h2]at h;cases h
theorem kind_eqv {a b:Tree}(ha:isKindF a=true)(hb:isKindF b=true)(h:Eqv (toC a) (toC b)):a=b :=
 pz_inj a (isKindF_pz a ha) b (isKindF_pz b hb) (nf_eqv h (kind_nf a ha) (kind_nf b hb))
theorem kindR_kind {K:List Tree}{T q:Tree}(h:Ki.kindR K T=(q,0)):isKindF q=true:=by
 have h2:(Ki.kindR K T).2=0:=by rw[h]
 obtain⟨h3,h4,h5⟩:=Ki.kindR_ok h2
 rw[h5]at h h2
 have:=Ki.kindF_kind T (conE_full h4).2 K (Ki.ctxE_ctx h3) h2
 rw[h]at this;exact this
def hd (k:Int):Int:=if k=131 then 111 else if k=132 then 112 else if k=133 then 113 else if k=134 then 114 else if k=136 then 115 else if k=139 then 117 else if k=141 then 118 else 121
theorem value_kind {T:Tree}(h:valueF T=true):T.kind=131∨T.kind=132∨T.kind=133∨T.kind=134∨T.kind=136∨T.kind=139∨T.kind=141∨T.kind=146:=by
 have hT:T≠.nil:=by intro e;subst e;rw[valueF]at h;cases h
 rw[valueF_eq hT]at h
 by_cases c1:T.kind=131∨T.kind=132∨T.kind=133∨T.kind=134∨T.kind=139
 ·omega
 rw[if_neg c1]at h
 by_cases c2:T.kind=141∨T.kind=146
 ·omega
 rw[if_neg c2]at h
 by_cases c3:T.kind=136
 ·omega
 rw[if_neg c3]at h;cases h
theorem hk_head {K:List Tree}{Γ:List Cn}{T:Tree}{A:Cn}(h:Hk K Γ T A):(T.kind=131∨T.kind=132∨T.kind=133∨T.kind=134∨T.kind=136∨T.kind=139∨T.kind=141∨T.kind=146)→∃l,Eqv A (.op (hd T.kind) e0 l):=by
 induction h with
 | conv _ he ih=>intro hh;obtain⟨l,h⟩:=ih hh;exact⟨l,he.symm.trans h⟩
 | int hk=>intro _;rw[hk];exact⟨_,.refl _⟩
 | tru hk=>intro _;rw[hk];exact⟨_,.refl _⟩
 | unt hk=>intro _;rw[hk];exact⟨_,.refl _⟩
 | lam hk=>intro _;rw[hk];exact⟨_,.refl _⟩
 | rcd hk=>intro _;rw[hk];exact⟨_,.refl _⟩
 | tlam hk=>intro _;rw[hk];exact⟨_,.refl _⟩
 | pack hk=>intro _;rw[hk];exact⟨_,.refl _⟩
 | inj hk=>intro _;rw[hk];exact⟨_,.refl _⟩
 | _=>intro hh;omega
theorem hd_inj {k:Int}(h:k=131∨k=132∨k=133∨k=134∨k=136∨k=139∨k=141∨k=146):hd k≠120∧(hd k=111→k=131)∧(hd k=112→k=132)∧(hd k=114→k=134)∧(hd k=115→k=136)∧(hd k=117→k=139)∧(hd k=118→k=141)∧(hd k=121→k=146):=by
 rcases h with rfl|rfl|rfl|rfl|rfl|rfl|rfl|rfl<;>decide
theorem canon {K:List Tree}{Γ:List Cn}{T:Tree}{k:Int}{l:List Cn}(hv:valueF T=true)(hk:k≠120)(h:Hk K Γ T (.op k e0 l)):hd T.kind=k:=by
 have hh:=value_kind hv
 obtain⟨l',h2⟩:=hk_head h hh
 exact ((eqv_op hk (hd_inj hh).1 h2).1).symm
end Sn
end Go.Proofs.YtlgajkoplklkiaaGreat
namespace Go.Proofs.YtlgajkoplklkiaaGreat
namespace Sn
open Go Go.Mq Cn Tm Sb St Mc Ki
theorem free0_count {T:Tree}(hp:Plain T)(hz:sizeN T≤65536)(h:Free0 (toC T)):¬0 < countF 0 T 0:=by
 rw[countF_hits 0 T 0 (by omega)]
 intro hh
 have:=hits_dep 0 T 0 hp (by omega) (by simpa using hh)
 refine this ?_
 obtain⟨c',hc⟩:=h
 rw[hc,sub_ren,ren_as_sub]
 exact sub_ext c' fun n=>by
  unfold Cn.mark
  rw[if_neg (by simp)]
theorem Free0.field {k:Int}{nm:ByteArray}{l:List Cn}(hb:bd k=0)(h:Free0 (.op k nm l)):∀x∈l,Free0 x:=by
 obtain⟨c',hc⟩:=h
 cases c' with
 | var n=>rw[ren_var]at hc;cases hc
 | op k' nm' l' =>
  rw[ren_op]at hc
  simp only[Cn.op.injEq]at hc
  obtain⟨rfl,rfl,rfl⟩:=hc
  intro x hx
  obtain⟨y,_,rfl⟩:=List.mem_map.1 hx
  rw[hb]
  exact⟨y,rfl⟩
theorem Pl.fields {nm:ByteArray}{l:List Cn}(h:Pl (.op 115 nm l))(hf:FL 116 l):∀x∈l,Pl (bodyOf x):=by
 generalize hc:Cn.op 115 nm l=c at h
 cases h with
 | var n=>cases hc
 | rcd ns cs he h =>
  cases hc
  intro x hx
  obtain⟨i,hi,rfl⟩:=List.getElem_of_mem hx
  rw[he i hi]
  exact h i hi
 | free h =>
  subst hc
  intro x hx
  obtain⟨nm',c,rfl⟩:=hf x hx
  have:=Free0.field bd_field (Free0.field bd_rec h _ hx) _ (List.mem_singleton.2 rfl)
  exact .free this
theorem pl_free {k:Int}{nm:ByteArray}{l:List Cn}(hk:k≠115)(h:Pl (.op k nm l)):Free0 (.op k nm l):=by
 generalize hc:Cn.op k nm l=c at h
 cases h with
 | var n=>cases hc
 | rcd ns cs he h=>cases hc;exact absurd rfl hk
 | free h=>exact h
theorem placeds_of:∀{l:List Tree},(∀x∈l,placedF (x.kids.getD 0 .nil)=true)→placedsF l=true
 | [],_=>rfl
 | y::l,h=>by
  rw[placedsF,placedAt_eq,h y (by simp),placeds_of fun x hx=>h x (by simp[hx])];rfl
theorem pl_placed (T:Tree):(isConF T=true→sizeN T≤65536→Pl (toC T)→placedF T=true)∧∀x∈T.kids,isConF x=true→sizeN x≤65536→Pl (toC x)→placedF x=true:=by
 induction T using Tree.ind' with
 | h0=>exact⟨fun h=>by (rw[isConF]at h;cases h),fun x hx=>by cases hx⟩
 | h1 T hT ih =>
  refine⟨fun hc hz hp=>?_,fun x hx=>(ih x hx).1⟩
  rw[placedF_eq hT]
  have hs:=sizeN_kids hT
  by_cases h1:T.kind=110
  ·rw[if_pos h1]
  rw[if_neg h1]
  rw[toC_op hT h1]at hp
  by_cases h2:T.kind=115
  ·rw[if_pos h2]
   have hf:=Cn.rec_fl hT hc h2
   have hFL:FL 116 (T.kids.map toC):=fun x hx=>by
    obtain⟨y,hy,rfl⟩:=List.mem_map.1 hx
    exact⟨_,_,(Cn.field_toC (by decide) (hf _ hy)).1⟩
   rw[h2]at hp
   have hpl:=Pl.fields hp hFL
   refine placeds_of fun x hx=>?_
   obtain⟨e1,e2,e3,e4⟩:=Cn.field_toC (by decide) (hf _ hx)
   have s1:=sizesN_mem hx
   have s2:=sizeN_kids e3
   have m:=getD_mem (l:=x.kids) (i:=0) (by omega)
   have s3:=sizesN_mem m
   have:=hpl _ (List.mem_map_of_mem hx)
   rw[e1]at this
   exact (ih _ hx).2 _ m e2 (by omega) this
  ·rw[if_neg h2]
   have:=free0_count (isConF_plain T hc) hz (by rw[toC_op hT h1];exact pl_free h2 hp)
   rw[decide_eq_false this];rfl
theorem starR_15 {e:Int}(h:e≠15):(starR e).2≠15:=by
 unfold starR;split
 ·show (0:Int)≠15;decide
 ·exact h
theorem must_15 {r:Tree×Int}(h:r.2≠15):mustE r≠15:=by
 unfold mustE;split
 ·exact h
 ·split
  ·decide
  ·decide
theorem starsE_15 {ctx:List Tree}:∀{l:List Tree},(∀x∈l,(kindF ctx x).2≠15)→starsE ctx l≠15
 | [],_=>by rw[starsE];decide
 | y::l,h=>by
  rw[starsE]
  split
  ·exact must_15 (h y (by simp))
  ·exact starsE_15 fun x hx=>h x (by simp[hx])
theorem starsIn_15 {ctx:List Tree}:∀{l:List Tree},(∀x∈l,x≠.nil∧(kindF ctx (x.kids.getD 0 .nil)).2≠15)→starsIn ctx l≠15
 | [],_=>by rw[starsIn];decide
 | y::l,h=>by
  rw[starsIn,starIn_eq ctx (h y (by simp)).1]
  split
  ·exact must_15 (h y (by simp)).2
  ·exact starsIn_15 fun x hx=>h x (by simp[hx])
theorem appR_15 {f k:Tree×Int}(h1:f.2≠15)(h2:k.2≠15):(appR f k).2≠15:=by
 unfold appR
 split
 ·exact h1
 ·split
  ·exact h2
  ·split
   ·show (10:Int)≠15;decide
   ·show (0:Int)≠15;decide
theorem kind_15 (T:Tree):(isConF T=true→sizeN T≤65536→Fit (toC T)→∀K,(kindF K T).2≠15)∧∀x∈T.kids,isConF x=true→sizeN x≤65536→Fit (toC x)→∀K,(kindF K x).2≠15:=by
 induction T using Tree.ind' with
 | h0=>exact⟨fun h=>by (rw[isConF]at h;cases h),fun x hx=>by cases hx⟩
 | h1 T hT ih =>
  refine⟨fun hc hz hF K=>?_,fun x hx=>(ih x hx).1⟩
  have hs:=sizeN_kids hT
  have hkz:∀x∈T.kids,sizeN x≤65536:=fun x hx=>by have:=sizesN_mem hx;omega
  rw[kindF_eq K hT]
  by_cases c1:T.kind=110
  ·rw[if_pos c1];split
   ·show (8:Int)≠15;decide
   ·show (0:Int)≠15;decide
  rw[if_neg c1]
  rw[toC_op hT c1]at hF
  have hFk:∀i,i < T.kids.length→Fit (toC (T.kids.getD i .nil)):=fun i hi=>by
   have:=hF.kids i (by simpa using hi)
   rwa [getD_map_toC]at this
  by_cases c2:T.kind=114
  ·rw[if_pos c2]
   obtain⟨h1,h2,h3⟩:=con_two hT hc (.inl c2)
   refine starR_15 (starsE_15 fun x hx=>?_)
   rcases mem_two h1 hx with e|e
   ·exact (ih x hx).1 (by rw[e];exact h2) (hkz x hx) (by rw[e];exact hFk 0 (by omega)) K
   ·exact (ih x hx).1 (by rw[e];exact h3) (hkz x hx) (by rw[e];exact hFk 1 (by omega)) K
  rw[if_neg c2]
  have flds:∀(kind:Int) (K':List Tree),kind≠110→(∀x∈T.kids,fieldF kind x=true)→∀x∈T.kids,x≠.nil∧(kindF K' (x.kids.getD 0 .nil)).2≠15:=fun kind K' hkk hf x hx=>by
   obtain⟨e1,e2,e3,e4⟩:=Cn.field_toC hkk (hf _ hx)
   have m:=getD_mem (l:=x.kids) (i:=0) (by omega)
   have s1:=hkz x hx
   have s2:=sizeN_kids e3
   have s3:=sizesN_mem m
   refine⟨e3,(ih x hx).2 _ m e2 (by omega) ?_ K'⟩
   obtain⟨i,hi,rfl⟩:=List.getElem_of_mem hx
   have:=hFk i hi
   have ee:T.kids.getD i .nil=T.kids[i]:=by simp[List.getD_eq_getElem?_getD,hi]
   rw[ee,e1]at this
   exact this.kids 0 (by simp)
  by_cases c3:T.kind=115
  ·rw[if_pos c3]
   exact starR_15 (starsIn_15 (flds 116 K (by decide) (Cn.rec_fl hT hc c3)))
  rw[if_neg c3]
  have bnd:T.kind=117∨T.kind=118∨T.kind=119→∀K',(kindF K' (T.kids.getD 1 .nil)).2≠15:=fun hk K'=>by
   obtain⟨h1,h2,h3⟩:=con_bind hT hc hk
   have m:=getD_mem (l:=T.kids) (i:=1) (by omega)
   exact (ih _ m).1 h3 (hkz _ m) (hFk 1 (by omega)) K'
  by_cases c4:T.kind=117∨T.kind=118
  ·rw[if_pos c4]
   exact starR_15 (must_15 (bnd (by omega) _))
  rw[if_neg c4]
  by_cases c5:T.kind=119
  ·rw[if_pos c5]
   split
   ·exact bnd (by omega) _
   ·show (0:Int)≠15;decide
  rw[if_neg c5]
  by_cases c6:T.kind=120
  ·rw[if_pos c6]
   obtain⟨h1,h2,h3⟩:=con_two hT hc (.inr c6)
   have m0:=getD_mem (l:=T.kids) (i:=0) (by omega)
   have m1:=getD_mem (l:=T.kids) (i:=1) (by omega)
   exact appR_15 ((ih _ m0).1 h2 (hkz _ m0) (hFk 0 (by omega)) K) ((ih _ m1).1 h3 (hkz _ m1) (hFk 1 (by omega)) K)
  rw[if_neg c6]
  by_cases c7:T.kind=121
  ·rw[if_pos c7]
   have hf:=Cn.sum_fl hT hc c7
   have hfl:=flds 122 (starT::K) (by decide) hf
   split
   ·exact starsIn_15 hfl
   ·have:fitE T.kids=0:=by
     unfold fitE
     rw[if_pos (placeds_of fun x hx=>?_)]
     obtain⟨e1,e2,e3,e4⟩:=Cn.field_toC (by decide) (hf _ hx)
     have m:=getD_mem (l:=x.kids) (i:=0) (by omega)
     have s1:=hkz x hx
     have s2:=sizeN_kids e3
     have s3:=sizesN_mem m
     refine (pl_placed _).1 e2 (by omega) ?_
     obtain⟨i,hi,rfl⟩:=List.getElem_of_mem hx
     rw[c7]at hF
     obtain⟨nm',c,g1,g2⟩:=hF.sum i (by simpa using hi)
     rw[getD_map_toC]at g1
     have ee:T.kids.getD i .nil=T.kids[i]:=by simp[List.getD_eq_getElem?_getD,hi]
     rw[ee,e1]at g1
     simp only[Cn.op.injEq,List.cons.injEq,and_true,true_and]at g1
     rw[g1.2];exact g2
    rw[ifn]
    show (0:Int)≠15;decide
  ·rw[if_neg c7]
   show (0:Int)≠15;decide
theorem put_kind {b k T y:Tree}{Δ:List Tree}(hb:conE b=0)(hk0:Ki.kindF [] b=(k,0))(hT:isConF T=true)(hz:sizeN T≤65536)(hD:Δ.length≤65536)(hk:(Ki.kindF (Δ++[k]) T).2=0)(hy:rputF 0 b T Δ.length=some y)(hcy:isConF y=true)(hzy:sizeN y≤65536):Ki.kindF Δ y=Ki.kindF (Δ++[k]) T:=by
 have hp:=isConF_plain T hT
 rcases Ki.kind_sub hb hk0 T hT Δ y hp (by omega) hk hy with h|h
 ·exact h
 ·exfalso
  refine (kind_15 y).1 hcy hzy ?_ Δ h
  have hzb:=conE_size hb
  rw[put_toC 0 (by omega) b (conE_plain hb) (by omega) T Δ.length y hp (by omega) hy]
  have hFT:=((kind_facts T).1 hT hz _ hk).1
  have hFb:=((kind_facts b).1 (conE_full hb).2 (by omega) [] (by rw[hk0])).1
  refine hFT.sub fun n=>?_
  unfold sAt
  split
  ·exact .var _
  ·split
   ·exact .var _
   ·split
    ·exact hFb.ren _
    ·exact .var _
end Sn
end Go.Proofs.YtlgajkoplklkiaaGreat
namespace Go.Proofs.YtlgajkoplklkiaaGreat
namespace Sn
open Go Go.Mq Cn Tm Sb St Ty Mc
theorem ctxE_of:∀{l:List Tree},(∀k∈l,kindE k=0)→Ki.ctxE 0 l=0
 | [],_=>rfl
 | x::l,h=>by rw[Ki.ctxE,if_pos (h x (by simp))];exact ctxE_of fun k hk=>h k (by simp[hk])
theorem kindR_of {K:List Tree}{T:Tree}(h1:∀k∈K,kindE k=0)(h2:conE T=0):Ki.kindR K T=Ki.kindF K T:=by
 unfold Ki.kindR
 rw[ctxE_of h1,if_neg (by decide),ifn,if_neg (by decide)]
theorem star_kindR {K:List Tree}{T:Tree}:Ki.starE K T=0↔∃q,Ki.kindR K T=(q,0)∧q.kind=100:=by
 unfold Ki.starE
 constructor
 ·intro h
  by_cases q:(Ki.kindR K T).2=0∧(Ki.kindR K T).1.kind≠100
  ·rw[if_pos q]at h;cases h
  ·rw[if_neg q]at h
   exact⟨_,Prod.ext rfl h,Decidable.byContradiction fun e=>q ⟨h,e⟩⟩
 ·rintro⟨q,h1,h2⟩
  rw[h1,if_neg (fun h=>h.2 h2)]
theorem up_upN (d:Nat)(s:Nat→Cn)(n:Nat):upN (d+1) s n=up (upN d s) n:=by
 induction d generalizing s with
 | zero=>rfl
 | succ d ih =>
  show upN (d+1) (up s) n=up (upN d (up s)) n
  rw[ih (up s)]
theorem sub_up (d:Nat)(s:Nat→Cn)(c:Cn):sub (upN (d+1) s) c=sub (up (upN d s)) c:=sub_ext c (up_upN d s)
theorem sub_shift (s:Nat→Cn)(c:Cn):sub (up s) (ren Nat.succ c)=ren Nat.succ (sub s c):=by
 rw[sub_ren,ren_sub];exact sub_ext c fun n=>rfl
inductive Rx (σ:Nat→Cn)(K0 K0':List Tree)(G0 G0':List Cn):Nat→Nat→List Tree→List Cn→List Tree→List Cn→Prop
 | base:Rx σ K0 K0' G0 G0' 0 0 K0 G0 K0' G0'
 | typ {t d:Nat} {K:List Tree} {Γ:List Cn} {K':List Tree} {Γ':List Cn} (A:Cn) (h:Rx σ K0 K0' G0 G0' t d K Γ K' Γ'):Rx σ K0 K0' G0 G0' (t+1) d K (A::Γ) K' (sub (upN d σ) A::Γ')
 | kind {t d:Nat} {K:List Tree} {Γ:List Cn} {K':List Tree} {Γ':List Cn} {k:Tree} (hk:kindE k=0) (h:Rx σ K0 K0' G0 G0' t d K Γ K' Γ'):Rx σ K0 K0' G0 G0' t (d+1) (k::K) (shC Γ) (k::K') (shC Γ')
section
variable {σ : Nat → Cn} {K0 K0' : List Tree} {G0 G0' : List Cn}
theorem Rx.ctx {t d:Nat}{K:List Tree}{Γ:List Cn}{K':List Tree}{Γ':List Cn}(h:Rx σ K0 K0' G0 G0' t d K Γ K' Γ'):∃Ki,Ki.length=d∧K=Ki++K0∧K'=Ki++K0'∧∀k∈Ki,kindE k=0:=by
 induction h with
 | base=>exact⟨[],rfl,rfl,rfl,fun k hk=>by cases hk⟩
 | typ A h ih=>exact ih
 | @kind _ _ _ _ _ _ k hk h ih =>
  obtain⟨l,h1,h2,h3,h4⟩:=ih
  refine⟨k::l,by simp[h1],by rw[h2];rfl,by rw[h3];rfl,fun x hx=>?_⟩
  rcases List.mem_cons.1 hx with rfl|hx
  ·exact hk
  ·exact h4 x hx
theorem Rx.look {t d:Nat}{K:List Tree}{Γ:List Cn}{K':List Tree}{Γ':List Cn}(h:Rx σ K0 K0' G0 G0' t d K Γ K' Γ'):∀{n:Nat} {A:Cn},n < t→Γ[n]?=some A→Γ'[n]?=some (sub (upN d σ) A):=by
 induction h with
 | base=>intro n A hn;omega
 | typ A h ih =>
  intro n B hn hB
  cases n with
  | zero =>
   have:A=B:=by simpa using hB
   subst this;rfl
  | succ n=>exact ih (n:=n) (by omega) (by simpa using hB)
 | @kind t d K Γ K' Γ' k hk h ih =>
  intro n B hn hB
  unfold shC at hB ⊢
  rw[List.getElem?_map]at hB ⊢
  cases hq:Γ[n]? with
  | none=>rw[hq]at hB;cases hB
  | some A =>
   rw[hq]at hB
   have hB:ren Nat.succ A=B:=by simpa using hB
   rw[ih hn hq,←hB]
   show some _=some _
   rw[sub_up,sub_shift]
theorem Rx.past {t d:Nat}{K:List Tree}{Γ:List Cn}{K':List Tree}{Γ':List Cn}(h:Rx σ K0 K0' G0 G0' t d K Γ K' Γ'):∀{j:Nat} {A:Cn},Γ[t+j]?=some A→∃A0,G0[j]?=some A0∧A=ren (fun n=>n+d) A0:=by
 induction h with
 | base=>intro j A h;rw[Nat.zero_add]at h;exact⟨A,h,(ren_add_zero A).symm⟩
 | @typ t d K Γ K' Γ' A h ih =>
  intro j B hB
  rw[show t+1+j=t+j+1 by omega]at hB
  exact ih (by simpa using hB)
 | @kind t d K Γ K' Γ' k hk h ih =>
  intro j B hB
  unfold shC at hB
  rw[List.getElem?_map]at hB
  cases hq:Γ[t+j]? with
  | none=>rw[hq]at hB;cases hB
  | some A =>
   rw[hq]at hB
   have hB:ren Nat.succ A=B:=by simpa using hB
   obtain⟨A0,h1,h2⟩:=ih hq
   refine⟨A0,h1,?_⟩
   rw[←hB,h2,ren_ren]
   exact ren_ext A0 fun n=>rfl
theorem Rx.lookG {t d:Nat}{K:List Tree}{Γ:List Cn}{K':List Tree}{Γ':List Cn}(hG:∀{j:Nat} {A:Cn},G0[j]?=some A→G0'[j]?=some (sub σ A))(h:Rx σ K0 K0' G0 G0' t d K Γ K' Γ'):∀{n:Nat} {A:Cn},Γ[n]?=some A→Γ'[n]?=some (sub (upN d σ) A):=by
 induction h with
 | base=>intro n A h;exact hG h
 | typ A h ih =>
  intro n B hB
  cases n with
  | zero =>
   have:A=B:=by simpa using hB
   subst this;rfl
  | succ n=>exact ih (n:=n) (by simpa using hB)
 | @kind t d K Γ K' Γ' k hk h ih =>
  intro n B hB
  unfold shC at hB ⊢
  rw[List.getElem?_map]at hB ⊢
  cases hq:Γ[n]? with
  | none=>rw[hq]at hB;cases hB
  | some A =>
   rw[hq]at hB
   have hB:ren Nat.succ A=B:=by simpa using hB
   rw[ih hq,←hB]
   show some _=some _
   rw[sub_up,sub_shift]
end
structure Mv (σ:Nat→Cn)(K0 K0':List Tree)(G0 G0':List Cn)(P:Nat→Nat→Tree→Tree→Prop):Prop where
 var:∀{t d:Nat} {K:List Tree} {Γ:List Cn} {K':List Tree} {Γ':List Cn} {T T':Tree} {A:Cn},Rx σ K0 K0' G0 G0' t d K Γ K' Γ'→P t d T T'→isTermF T=true→T.kind=130→0≤T.n→Γ[T.n.toNat]?=some A→Hk K' Γ' T' (sub (upN d σ) A)
 con:∀{t d:Nat} {K:List Tree} {Γ:List Cn} {K':List Tree} {Γ':List Cn} {c c' q:Tree},Rx σ K0 K0' G0 G0' t d K Γ K' Γ'→P t d c c'→isConF c=true→Ki.kindR K c=(q,0)→toC c'=sub (upN d σ) (toC c)∧Ki.kindR K' c'=(q,0)
 knd:∀{t d:Nat} {c c':Tree},P t d c c'→isKindF c=true→c'=c
 node:∀{t d:Nat} {T T':Tree},P t d T T'→Shw T→131≤T.kind→T'.kind=T.kind∧T'.n=T.n∧T'.name=T.name∧T'.kids.length=T.kids.length∧∀i,i < T.kids.length→P (t+(bndF T.kind i).2.toNat) (d+(bndF T.kind i).1.toNat) (T.kids.getD i .nil) (T'.kids.getD i .nil)
theorem kindE_kind {k:Tree}(h:kindE k=0):isKindF k=true:=Ki.kindE_full' h
theorem sub_kind {k:Tree}(h:isKindF k=true)(s:Nat→Cn):sub s (toC k)=toC k:=(kind_cl k h).1 s
theorem sub_leaf (s:Nat→Cn)(k:Int)(nm:ByteArray):sub s (.op k nm [])=.op k nm []:=by rw[sub_op];rfl
theorem sub_arr (s:Nat→Cn)(A B:Cn):sub s (.op 114 e0 [A,B])=.op 114 e0 [sub s A,sub s B]:=by
 rw[sub_op,bd_two (.inl rfl)];rfl
theorem sub_rec (s:Nat→Cn)(l:List Cn):sub s (.op 115 e0 l)=.op 115 e0 (l.map (sub s)):=by
 rw[sub_op,bd_two (.inr (.inl rfl))];rfl
theorem sub_qua {k:Int}(hk:k=117∨k=118){q:Tree}(hq:isKindF q=true)(s:Nat→Cn)(B:Cn):sub s (.op k e0 [toC q,B])=.op k e0 [toC q,sub (up s) B]:=by
 rw[sub_op,bd_all (by omega)]
 show Cn.op k e0 [sub (up s) (toC q),sub (up s) B]=_
 rw[sub_kind hq]
theorem sub_sum (s:Nat→Cn)(l:List Cn):sub s (.op 121 e0 l)=.op 121 e0 (l.map (sub (up s))):=by
 rw[sub_op,bd_all (.inr (.inr rfl))];rfl
theorem Mv.star {σ:Nat→Cn}{K0 K0':List Tree}{G0 G0':List Cn}{P:Nat→Nat→Tree→Tree→Prop}(M:Mv σ K0 K0' G0 G0' P){t d:Nat}{K:List Tree}{Γ:List Cn}{K':List Tree}{Γ':List Cn}{c c':Tree}(R:Rx σ K0 K0' G0 G0' t d K Γ K' Γ')(hp:P t d c c')(hc:isConF c=true)(h:Ki.starE K c=0):toC c'=sub (upN d σ) (toC c)∧Ki.starE K' c'=0:=by
 obtain⟨q,h1,h2⟩:=star_kindR.1 h
 obtain⟨g1,g2⟩:=M.con R hp hc h1
 exact⟨g1,star_kindR.2 ⟨q,g2,h2⟩⟩
theorem arm_kid {σ:Nat→Cn}{K0 K0':List Tree}{G0 G0':List Cn}{P:Nat→Nat→Tree→Tree→Prop}(M:Mv σ K0 K0' G0 G0' P){kind:Int}(hkind:kind=137∨kind=149){t d:Nat}{x x':Tree}(hx:tfieldF kind x=true)(hp:P t d x x'):x'.name=x.name∧isTermF (inn x)=true∧P (t+(if kind=149 then 1 else 0)) d (inn x) (inn x'):=by
 obtain⟨q1,q2,q3,q4,q5⟩:=tfield_parts hx
 have hs:Shw x:=by
  rcases hkind with rfl|rfl
  ·exact .inr (.inr (.inl hx))
  ·exact .inr (.inr (.inr hx))
 obtain⟨g1,g2,g3,g4,g5⟩:=M.node hp hs (by omega)
 have:=g5 0 (by omega)
 refine⟨g3,q5,?_⟩
 rcases hkind with rfl|rfl
 ·rw[q2]at this;exact this
 ·rw[q2]at this;exact this
theorem mv {σ:Nat→Cn}{K0 K0':List Tree}{G0 G0':List Cn}{P:Nat→Nat→Tree→Tree→Prop}(M:Mv σ K0 K0' G0 G0' P){K:List Tree}{Γ:List Cn}{T:Tree}{A:Cn}(h:Hk K Γ T A):∀{t d:Nat} {K':List Tree} {Γ':List Cn} {T':Tree},Rx σ K0 K0' G0 G0' t d K Γ K' Γ'→isTermF T=true→P t d T T'→Hk K' Γ' T' (sub (upN d σ) A):=by
 induction h with
 | conv _ he ih=>intro t d K' Γ' T' R ht hp;exact .conv (ih R ht hp) (he.sub _)
 | var hk h0 h=>intro t d K' Γ' T' R ht hp;exact M.var R hp ht hk h0 h
 | int hk =>
  intro t d K' Γ' T' R ht hp
  obtain⟨g1,_⟩:=M.node hp (.inr (.inl ht)) (by omega)
  rw[sub_leaf];exact .int (by omega)
 | tru hk =>
  intro t d K' Γ' T' R ht hp
  obtain⟨g1,_⟩:=M.node hp (.inr (.inl ht)) (by omega)
  rw[sub_leaf];exact .tru (by omega)
 | unt hk =>
  intro t d K' Γ' T' R ht hp
  obtain⟨g1,_⟩:=M.node hp (.inr (.inl ht)) (by omega)
  rw[sub_leaf];exact .unt (by omega)
 | lam hk hs he h ih =>
  intro t d K' Γ' T' R ht hp
  obtain⟨g1,g2,g3,g4,g5⟩:=M.node hp (.inr (.inl ht)) (by omega)
  obtain⟨l1,l2,l3⟩:=term_cx ht (.inl hk)
  have p0:=g5 0 (by omega)
  have p1:=g5 1 (by omega)
  rw[hk]at p0 p1
  obtain⟨c1,c2⟩:=M.star R p0 l2 hs
  rw[sub_arr]
  exact .lam (by omega) c2 (by show Eqv (toC (T'.kids.getD 0 .nil)) _;rw[c1];exact he.sub _) (ih (.typ _ R) l3 p1)
 | app hk h h2 ih ih2 =>
  intro t d K' Γ' T' R ht hp
  obtain⟨g1,g2,g3,g4,g5⟩:=M.node hp (.inr (.inl ht)) (by omega)
  obtain⟨l1,l2,l3⟩:=term_xx ht (.inl hk)
  have p0:=g5 0 (by omega)
  have p1:=g5 1 (by omega)
  rw[hk]at p0 p1
  have a:=ih R l2 p0
  rw[sub_arr]at a
  exact .app (by omega) a (ih2 R l3 p1)
 | @rcd K Γ T hk l hl hfl hn h ih =>
  intro t d K' Γ' T' R ht hp
  obtain⟨g1,g2,g3,g4,g5⟩:=M.node hp (.inr (.inl ht)) (by omega)
  have hf:=(term_f ht hk).1
  have hb:∀i,bndF 136 i=(0,0):=fun i=>by unfold bndF;rw[if_neg (by decide)];split<;>rfl
  have key:∀i,i < T.kids.length→(T'.kids.getD i .nil).name=(T.kids.getD i .nil).name∧isTermF (inn (T.kids.getD i .nil))=true∧P t d (inn (T.kids.getD i .nil)) (inn (T'.kids.getD i .nil)):=fun i hi=>by
   have p:=g5 i hi
   rw[hk,hb]at p
   exact arm_kid M (.inl rfl) (hf _ (getD_mem hi)) p
  rw[sub_rec]
  refine .rcd (by omega) (by simp;omega) (hfl.sub (.inl rfl) _) (fun i hi=>?_) fun i hi=>?_
  ·have hi':i < l.length:=by simpa using hi
   rw[List.getElem_map,(sub_fld (.inl rfl) (hfl _ (List.getElem_mem hi')) _).1,hn i hi']
   exact (key i (by omega)).1.symm
  ·have hi':i < l.length:=by simpa using hi
   rw[List.getElem_map,(sub_fld (.inl rfl) (hfl _ (List.getElem_mem hi')) _).2]
   exact ih i hi' R (key i (by omega)).2.1 (key i (by omega)).2.2
 | proj hk hfl h ha ih =>
  intro t d K' Γ' T' R ht hp
  obtain⟨g1,g2,g3,g4,g5⟩:=M.node hp (.inr (.inl ht)) (by omega)
  obtain⟨l1,l2⟩:=term_x ht hk
  have p0:=g5 0 (by omega)
  rw[hk]at p0
  have a:=ih R l2 p0
  rw[sub_rec]at a
  refine .proj (by omega) (hfl.sub (.inl rfl) _) a ?_
  rw[g3,fAt_sub (.inl rfl) _ hfl,ha];rfl
 | tlam hk hK h ih =>
  intro t d K' Γ' T' R ht hp
  obtain⟨g1,g2,g3,g4,g5⟩:=M.node hp (.inr (.inl ht)) (by omega)
  obtain⟨l1,l2,l3⟩:=term_kx ht hk
  have p0:=g5 0 (by omega)
  have p1:=g5 1 (by omega)
  rw[hk]at p0 p1
  have e:=M.knd p0 l2
  have e:kidT T' 0=kidT _ 0:=e
  have a:=ih (.kind hK R) l3 p1
  rw[sub_up]at a
  have b:=Hk.tlam (T:=T') (by omega) (by rw[e];exact hK) (by rw[e];exact a)
  rw[e]at b
  rw[sub_qua (q:=kidT _ 0) (.inl rfl) l2]
  exact b
 | tapp hk h hq ih =>
  intro t d K' Γ' T' R ht hp
  obtain⟨g1,g2,g3,g4,g5⟩:=M.node hp (.inr (.inl ht)) (by omega)
  obtain⟨l1,l2,l3⟩:=term_xc ht hk
  have p0:=g5 0 (by omega)
  have p1:=g5 1 (by omega)
  rw[hk]at p0 p1
  obtain⟨c1,c2⟩:=M.con R p1 l3 hq
  have a:=ih R l2 p0
  rw[sub_qua (.inl rfl) (kindR_kind hq)]at a
  rw[sub_inst]
  have b:=Hk.tapp (T:=T') (by omega) a c2
  have c1:toC (kidT T' 1)=_:=c1
  rw[c1]at b
  exact b
 | @pack K Γ T q B hk hs he hq h ih =>
  intro t d K' Γ' T' R ht hp
  obtain⟨g1,g2,g3,g4,g5⟩:=M.node hp (.inr (.inl ht)) (by omega)
  obtain⟨l1,l2,l3,l4⟩:=term_cxc ht hk
  have p0:=g5 0 (by omega)
  have p1:=g5 1 (by omega)
  have p2:=g5 2 (by omega)
  rw[hk]at p0 p1 p2
  obtain⟨c1,c2⟩:=M.con R p0 l2 hq
  obtain⟨d1,d2⟩:=M.star R p2 l4 hs
  have c1:toC (kidT T' 0)=sub (upN d σ) (toC (kidT T 0)):=c1
  have d1:toC (kidT T' 2)=sub (upN d σ) (toC (kidT T 2)):=d1
  have a:=ih R l3 p1
  rw[sub_inst,←c1]at a
  have he':=he.sub (upN d σ)
  rw[sub_qua (.inr rfl) (kindR_kind hq),←d1]at he'
  rw[sub_qua (.inr rfl) (kindR_kind hq)]
  exact .pack (by omega) d2 he' c2 a
 | unpack hk hK h h2 ih ih2 =>
  intro t d K' Γ' T' R ht hp
  obtain⟨g1,g2,g3,g4,g5⟩:=M.node hp (.inr (.inl ht)) (by omega)
  obtain⟨l1,l2,l3⟩:=term_xx ht (.inr (.inl hk))
  have p0:=g5 0 (by omega)
  have p1:=g5 1 (by omega)
  rw[hk]at p0 p1
  have a:=ih R l2 p0
  rw[sub_qua (.inr rfl) (kindE_kind hK)]at a
  have b:=ih2 (.typ _ (.kind hK R)) l3 p1
  rw[sub_up,sub_up,sub_shift]at b
  exact .unpack (by omega) hK a b
 | bind hk h h2 ih ih2 =>
  intro t d K' Γ' T' R ht hp
  obtain⟨g1,g2,g3,g4,g5⟩:=M.node hp (.inr (.inl ht)) (by omega)
  obtain⟨l1,l2,l3⟩:=term_xx ht (.inr (.inr (.inl hk)))
  have p0:=g5 0 (by omega)
  have p1:=g5 1 (by omega)
  rw[hk]at p0 p1
  exact .bind (by omega) (ih R l2 p0) (ih2 (.typ _ R) l3 p1)
 | choice hk h h1 h2 ih ih1 ih2 =>
  intro t d K' Γ' T' R ht hp
  obtain⟨g1,g2,g3,g4,g5⟩:=M.node hp (.inr (.inl ht)) (by omega)
  obtain⟨l1,l2,l3,l4⟩:=term_xxx ht hk
  have p0:=g5 0 (by omega)
  have p1:=g5 1 (by omega)
  have p2:=g5 2 (by omega)
  rw[hk]at p0 p1 p2
  have a:=ih R l2 p0
  rw[sub_leaf]at a
  exact .choice (by omega) a (ih1 R l3 p1) (ih2 R l4 p2)
 | opr hk h h1 ih ih1 =>
  intro t d K' Γ' T' R ht hp
  obtain⟨g1,g2,g3,g4,g5⟩:=M.node hp (.inr (.inl ht)) (by omega)
  obtain⟨l1,l2,l3⟩:=term_xx ht (.inr (.inr (.inr hk)))
  have p0:=g5 0 (by omega)
  have p1:=g5 1 (by omega)
  rw[hk]at p0 p1
  have a:=ih R l2 p0
  have b:=ih1 R l3 p1
  rw[sub_leaf]at a b ⊢
  rw[←g2]
  exact .opr (by omega) a b
 | @inj K Γ T c hk l hs he hfl ha h ih =>
  intro t d K' Γ' T' R ht hp
  obtain⟨g1,g2,g3,g4,g5⟩:=M.node hp (.inr (.inl ht)) (by omega)
  obtain⟨l1,l2,l3⟩:=term_cx ht (.inr hk)
  have p0:=g5 0 (by omega)
  have p1:=g5 1 (by omega)
  rw[hk]at p0 p1
  obtain⟨c1,c2⟩:=M.star R p0 l2 hs
  have c1:toC (kidT T' 0)=sub (upN d σ) (toC (kidT T 0)):=c1
  have he':=he.sub (upN d σ)
  have a:=ih R l3 p1
  rw[sub_inst,sub_sum]at a
  rw[sub_sum,←c1]at he'
  rw[sub_sum]
  refine .inj (by omega) c2 he' (hfl.sub (.inr rfl) _) ?_ a
  rw[g3,fAt_sub (.inr rfl) _ hfl,ha];rfl
 | @cse K Γ T A hk l hfl h0 hl hn X hX h ih0 ih =>
  intro t d K' Γ' T' R ht hp
  obtain⟨g1,g2,g3,g4,g5⟩:=M.node hp (.inr (.inl ht)) (by omega)
  obtain⟨l1,l2,l3⟩:=term_xa ht hk
  have p0:=g5 0 (by omega)
  rw[hk]at p0
  have hb:∀i,bndF 147 i=(0,0):=fun i=>by unfold bndF;rw[if_neg (by decide)];split<;>rfl
  have hlen:l.length+1=T.kids.length:=by simp at hl;omega
  have key:∀i,i < l.length→(T'.kids.getD (1+i) .nil).name=(T.kids.getD (1+i) .nil).name∧isTermF (inn (T.kids.getD (1+i) .nil))=true∧P (t+1) d (inn (T.kids.getD (1+i) .nil)) (inn (T'.kids.getD (1+i) .nil)):=fun i hi=>by
   have p:=g5 (1+i) (by omega)
   rw[hk,hb]at p
   exact arm_kid M (.inr rfl) (l3 _ (mem_drop (by omega) (by omega))) p
  have a:=ih0 R l2 p0
  rw[sub_sum]at a
  refine .cse (by omega) (hfl.sub (.inr rfl) _) a (by simp;omega) (fun i hi=>?_) (fun i=>sub (upN d σ) (X i)) (fun i hi=>?_) fun i hi=>?_
  ·have hi':i < l.length:=by simpa using hi
   rw[List.getElem_map,(sub_fld (.inr rfl) (hfl _ (List.getElem_mem hi')) _).1,hn i hi']
   exact (key i hi').1.symm
  ·have hi':i < l.length:=by simpa using hi
   rw[List.getElem_map,(sub_fld (.inr rfl) (hfl _ (List.getElem_mem hi')) _).2]
   have:=(hX i hi').sub (upN d σ)
   rwa [sub_inst,sub_sum]at this
  ·have hi':i < l.length:=by simpa using hi
   exact ih i hi' (.typ _ R) (key i hi').2.1 (key i hi').2.2
 | @fold K Γ T A hk l hfl h0 hs he hl hn X hX h ih0 ih =>
  intro t d K' Γ' T' R ht hp
  obtain⟨g1,g2,g3,g4,g5⟩:=M.node hp (.inr (.inl ht)) (by omega)
  obtain⟨l1,l2,l2',l3⟩:=term_xca ht hk
  have p0:=g5 0 (by omega)
  have p1:=g5 1 (by omega)
  rw[hk]at p0 p1
  have hb:∀i,bndF 148 i=(0,0):=fun i=>by unfold bndF;rw[if_neg (by decide)];split<;>rfl
  have hlen:l.length+2=T.kids.length:=by simp at hl;omega
  have key:∀i,i < l.length→(T'.kids.getD (2+i) .nil).name=(T.kids.getD (2+i) .nil).name∧isTermF (inn (T.kids.getD (2+i) .nil))=true∧P (t+1) d (inn (T.kids.getD (2+i) .nil)) (inn (T'.kids.getD (2+i) .nil)):=fun i hi=>by
   have p:=g5 (2+i) (by omega)
   rw[hk,hb]at p
   exact arm_kid M (.inr rfl) (l3 _ (mem_drop (by omega) (by omega))) p
  have a:=ih0 R l2 p0
  rw[sub_sum]at a
  obtain⟨c1,c2⟩:=M.star R p1 l2' hs
  have c1:toC (kidT T' 1)=sub (upN d σ) (toC (kidT T 1)):=c1
  refine .fold (by omega) (hfl.sub (.inr rfl) _) a c2 (by rw[c1];exact he.sub _) (by simp;omega) (fun i hi=>?_) (fun i=>sub (upN d σ) (X i)) (fun i hi=>?_) fun i hi=>?_
  ·have hi':i < l.length:=by simpa using hi
   rw[List.getElem_map,(sub_fld (.inr rfl) (hfl _ (List.getElem_mem hi')) _).1,hn i hi']
   exact (key i hi').1.symm
  ·have hi':i < l.length:=by simpa using hi
   rw[List.getElem_map,(sub_fld (.inr rfl) (hfl _ (List.getElem_mem hi')) _).2]
   have:=(hX i hi').sub (upN d σ)
   rwa [sub_inst]at this
  ·have hi':i < l.length:=by simpa using hi
   exact ih i hi' (.typ _ R) (key i hi').2.1 (key i hi').2.2
end Sn
end Go.Proofs.YtlgajkoplklkiaaGreat
namespace Go.Proofs.YtlgajkoplklkiaaGreat
namespace Sn
open Go Go.Mq Cn Tm Sb St Ty Mc
theorem con_notkind {c:Tree}(h:isConF c=true):110≤c.kind∧c.kind < 130:=by
 have h1:=(con_kd h).2.2
 have:=Ki.con_kids (con_kd h).1 h
 omega
theorem kind_lo {c:Tree}(h:isKindF c=true):c≠.nil∧(c.kind=100∨c.kind=101):=by
 have hT:=Ki.kind_ne h
 rw[isKindF_eq hT]at h
 by_cases c1:c.kind=100
 ·exact⟨hT,.inl c1⟩
 rw[if_neg c1]at h
 by_cases c2:c.kind=101
 ·exact⟨hT,.inr c2⟩
 ·rw[if_neg c2]at h;cases h
theorem put_swap {b:Tree}(hb:conE b=0)(hc:freeR b=0)(D:Int)(hD:0≤D)(T:Tree):∀e:Int,Plain T→0≤e→D+e+sizeN T≤549755813888→rputF D b T e=rputF 0 b T (D+e):=by
 induction T using Tree.ind' with
 | h0=>intro e hp;cases hp
 | h1 T hT ih =>
  intro e hp he hz
  have hlim:lim=1099511627776:=rfl
  have hs:=sizeN_kids hT
  have hzb:=conE_size hb
  have hmv:∀B:Int,rmovedF B 0 b 0=some b:=fun B=>by
   rw[rmoved_vmap B 0 b 0 (conE_plain hb) (by omega) (by omega)];exact con_fixed hb hc B
  have hbd:=bindsF_b T
  rw[rputF_eq hT,rputF_eq hT,hmv,hmv]
  have hkids:rputsF D b T.kids (IntKind.i64.wrap (e+bindsF T))=rputsF 0 b T.kids (IntKind.i64.wrap (D+e+bindsF T)):=by
   rw[wrap64 (by omega) (by omega),wrap64 (by omega) (by omega)]
   have key:∀l:List Tree,(∀x∈l,x∈T.kids)→rputsF D b l (e+bindsF T)=rputsF 0 b l (D+e+bindsF T):=by
    intro l
    induction l with
    | nil=>intro _;rw[rputsF,rputsF]
    | cons x l ihl =>
     intro hx
     have hm:=hx x (by simp)
     have s1:=sizesN_mem hm
     have h1:=ih x hm (e+bindsF T) (Ex.plain_kids hp x hm) (by omega) (by omega)
     rw[←Int.add_assoc]at h1
     rw[rputsF,rputsF,h1,ihl fun y hy=>hx y (by simp[hy])]
   exact key _ fun x hx=>hx
  rw[hkids]
  have hn:T.kind=110→0≤T.n∧T.n≤lim:=fun hk=>by
   cases T with
   | nil=>exact absurd rfl hT
   | node k n nm mk l =>
    have h:=(hp.inv.2.1 hk).2.2
    exact⟨h.1,by show n≤lim;omega⟩
  have e1:pHit D T e↔pHit 0 T (D+e):=by
   unfold pHit
   constructor
   ·rintro⟨a,c,d⟩
    have:=hn a
    rw[wrap64 (by omega) (by omega)]at d
    exact⟨a,by omega,by rw[wrap64 (by omega) (by omega)];omega⟩
   ·rintro⟨a,c,d⟩
    have:=hn a
    rw[wrap64 (by omega) (by omega)]at d
    exact⟨a,by omega,by rw[wrap64 (by omega) (by omega)];omega⟩
  have e2:pAbove D T e↔pAbove 0 T (D+e):=by
   unfold pAbove
   constructor
   ·rintro⟨a,c,d⟩
    have:=hn a
    rw[wrap64 (by omega) (by omega)]at d
    exact⟨a,by omega,by rw[wrap64 (by omega) (by omega)];omega⟩
   ·rintro⟨a,c,d⟩
    have:=hn a
    rw[wrap64 (by omega) (by omega)]at d
    exact⟨a,by omega,by rw[wrap64 (by omega) (by omega)];omega⟩
  simp only[e1,e2]
theorem kindR_nil {c q:Tree}{K:List Tree}(h:Ki.kindR K c=(q,0)):(∀k∈K,kindE k=0)∧conE c=0∧Ki.kindF K c=(q,0):=by
 obtain⟨h1,h2,h3⟩:=Ki.kindR_ok (ctx:=K) (T:=c) (by rw[h])
 rw[h3]at h
 exact⟨Ki.ctxE_ok _ h1,h2,h⟩
theorem mv_closed (σ:Nat→Cn)(K0':List Tree)(G0':List Cn)(hK:∀k∈K0',kindE k=0):Mv σ [] K0' [] G0' closedP where
 var:=fun {t d K Γ K' Γ' T T' A} R ⟨h1,h2,h3,h4,h5⟩ ht hk h0 hA=>by
  subst h1
  rw[freeT_eq h2.ne,if_pos hk]at h5
  have h5:T'.n - t+1≤0:=h5
  exact .var hk h0 (R.look (by omega) hA)
 con:=fun {t d K Γ K' Γ' c c' q} R ⟨h1,h2,h3,h4,h5⟩ hc hq=>by
  subst h1
  obtain⟨l,e1,e2,e3,e4⟩:=R.ctx
  obtain⟨k1,k2,k3⟩:=kindR_nil hq
  rw[List.append_nil]at e2
  subst e2
  have hs:=((kind_facts c').1 hc h3 K (by rw[k3])).2
  refine⟨?_,?_⟩
  ·rw[hs (upN d σ) Cn.var fun n hn=>upN_var d σ n (by omega),sub_id]
  ·rw[e3,kindR_of (fun k hk=>?_) k2,(Ki.more_kind K0' c' hc K (by rw[k3])).1,k3]
   rcases List.mem_append.1 hk with hk|hk
   ·exact e4 k hk
   ·exact hK k hk
 knd:=fun {t d c c'} ⟨h1,_⟩ _=>h1
 node:=fun {t d T T'} hp hs hk=>(closed_cor (fun _ _=>True) .nil .nil).node t d T T' hp hs hk
theorem hk_closed {w:Tree}{A:Cn}(hw:Cd w)(h:Hk [] [] w A)(σ:Nat→Cn)(K':List Tree)(Γ':List Cn)(hK:∀k∈K',kindE k=0):Hk K' Γ' w (sub σ A):=by
 have:=mv (mv_closed σ K' Γ' hK) h (t:=0) (d:=0) .base hw.term ⟨rfl,hw.shw,hw.size,hw.free1,hw.free2⟩
 exact this
def inQ (w:Tree)(t d:Nat)(T T':Tree):Prop:=T'=inT 0 w T t∧Shw T∧sizeN T≤65536
theorem mv_in {w:Tree}{A:Cn}(hw:Cd w)(hA:Hk [] [] w A):Mv Cn.var [] [] [A] [] (inQ w) where
 var:=fun {t d K Γ K' Γ' T T' B} R ⟨h1,h2,h3⟩ ht hk h0 hB=>by
  obtain⟨l,e1,e2,e3,e4⟩:=R.ctx
  rw[inT_eq h2.ne,if_pos hk]at h1
  by_cases q:T.n < t∨T.n - t < 0
  ·rw[if_pos q]at h1
   subst h1
   exact .var hk h0 (R.look (by omega) hB)
  rw[if_neg q]at h1
  obtain⟨A0,a1,a2⟩:=R.past (j:=T.n.toNat - t) (by rw[show t+(T.n.toNat - t)=T.n.toNat by omega];exact hB)
  by_cases q2:0 < T.n - t
  ·have:T.n.toNat - t≠0:=by omega
   obtain⟨j,hj⟩:=Nat.exists_eq_succ_of_ne_zero this
   rw[hj]at a1
   simp at a1
  ·rw[if_neg q2]at h1
   subst h1
   have hj:T.n.toNat - t=0:=by omega
   rw[hj]at a1
   have a1:A=A0:=by simpa using a1
   subst a1
   have:=hk_closed hw hA (fun n=>.var (n+d)) K' Γ' (by rw[e3,List.append_nil];exact e4)
   rw[sub_ext _ (upN_id d),sub_id,a2,ren_as_sub]
   exact this
 con:=fun {t d K Γ K' Γ' c c' q} R ⟨h1,h2,h3⟩ hc hq=>by
  obtain⟨l,e1,e2,e3,e4⟩:=R.ctx
  obtain⟨k1,k2,k3⟩:=con_kd hc
  rw[inT_eq k1,if_neg k2,if_pos k3]at h1
  subst h1
  rw[e3,←e2,sub_ext _ (upN_id d),sub_id]
  exact⟨rfl,hq⟩
 knd:=fun {t d c c'} ⟨h1,h2,_⟩ hk=>by
  obtain⟨k1,k2⟩:=kind_lo hk
  rw[inT_eq k1,ifn,ifp]at h1
  exact h1
 node:=fun {t d T T'} ⟨h1,h2,h3⟩ hs hk=>by
  rw[inT_node hs (by omega) 0 w t (fun q=>by omega)]at h1
  subst h1
  refine⟨rfl,rfl,rfl,insT_len _ _ _ _ _ _,fun i hi=>⟨?_,shw_kid hs hk hi,by have:=kid_size hs hi;omega⟩⟩
  show (insT 0 w T.kind 0 T.kids t).getD i .nil=_
  rw[insT_get 0 w T.kind T.kids 0 t i hi,Nat.zero_add,bnd2]
theorem hk_in {w b:Tree}{A B:Cn}(hw:Cd w)(hA:Hk [] [] w A)(ht:isTermF b=true)(hz:sizeN b≤65536)(h:Hk [] [A] b B):Hk [] [] (inT 0 w b 0) B:=by
 have:=mv (mv_in hw hA) h (t:=0) (d:=0) .base ht ⟨rfl,.inr (.inl ht),hz⟩
 rw[show upN 0 Cn.var=Cn.var from rfl,sub_id]at this
 exact this
def rcQ (b:Tree)(t d:Nat)(T T':Tree):Prop:=T'=rC 0 b T d∧Shw T∧d+sizeN T≤65536∧sizeN T'≤65536
theorem mv_rcG {b k:Tree}(G G':List Cn)(hG:∀{j:Nat} {A:Cn},G[j]?=some A→G'[j]?=some (inst A (toC b)))(hb:conE b=0)(hk0:Ki.kindR [] b=(k,0)):Mv (s0 (toC b)) [k] [] G G' (rcQ b) where
 var:=fun {t d K Γ K' Γ' T T' B} R ⟨h1,h2,h3,h4⟩ ht hk h0 hB=>by
  rw[rC_eq h2.ne,if_pos (.inl hk)]at h1
  subst h1
  exact .var hk h0 (R.lookG hG hB)
 con:=fun {t d K Γ K' Γ' c c' q} R ⟨h1,h2,h3,h4⟩ hc hq=>by
  have hlim:lim=1099511627776:=rfl
  obtain⟨l,e1,e2,e3,e4⟩:=R.ctx
  rw[List.append_nil]at e3
  subst e3
  obtain⟨_,_,kb3⟩:=kindR_nil hk0
  obtain⟨k1,k2,k3⟩:=kindR_nil hq
  obtain⟨n1,n2⟩:=con_notkind hc
  obtain⟨bf1,bs1⟩:=(kind_facts b).1 (conE_full hb).2 (by have:=conE_size hb;omega) [] (by rw[kb3])
  have hcl:Cl (toC b):=Sc.cl bs1
  have hbf:freeR b=0:=by
   have:=sc_free hb bs1
   have h2:=Tm.freeR_le b
   have:freeR b≤0:=this
   omega
  rw[rC_eq (con_kd hc).1,ifn,ifp,ifn]at h1
  have hE:=k2
  have hz:=conE_size hb
  obtain⟨y,hy,_⟩:=step_con (i:=d) hb hbf hE (by omega) (by omega)
  have hy':rputF ((d:Int)+0) b c 0=some y:=by rw[Int.add_zero];exact hy
  rw[hy']at h1
  have h1:c'=y:=h1
  subst h1
  have hcon:isConF c'=true:=by
   refine (con_putG (show (0:Int)≤d by omega) (fun d' y hd hd1 hy=>?_) c) hc 0 c' (conE_plain hE) (by omega) (by omega) hy
   rw[rmoved_vmap d' 0 b 0 (conE_plain hb) (by omega) (by omega)]at hy
   exact (conE_full (vmap_conE (fM_VB d' 0) hb hy)).2
  have hcE:=conE_of hcon h4
  have hsc:=((kind_facts c).1 hc (by omega) _ (by rw[k3])).2
  have hKl:K.length=d+1:=by rw[e2];simp[e1]
  refine⟨?_,?_⟩
  ·rw[put_toC d (by omega) b (conE_plain hb) hz c 0 c' (conE_plain hE) (by omega) hy]
   refine hsc _ _ fun n hn=>?_
   rw[hKl]at hn
   unfold sAt
   by_cases q:n < d
   ·rw[upN_var d _ n q,ifn,ifp]
   ·have:n=d:=by omega
    subst this
    rw[ifn,ifn,ifp]
    have hd:∀d:Nat,upN d (s0 (toC b)) d=toC b:=by
     intro d
     induction d with
     | zero=>rfl
     | succ d ih =>
      rw[up_upN]
      show ren Nat.succ (upN d _ d)=_
      rw[ih,ren_as_sub,hcl]
    rw[hd n,ren_as_sub,hcl]
  ·have hy0:=hy
   rw[e2]at k3
   have e5:(d:Int)=(K'.length:Int):=by rw[e1]
   rw[kindR_of e4 hcE,←k3]
   refine put_kind hb kb3 hc (by omega) (by omega) (by rw[k3]) ?_ hcon (by omega)
   rw[←hy,put_swap hb hbf d (by omega) c 0 (conE_plain hE) (by omega) (by omega),e5,Int.add_zero]
 knd:=fun {t d c c'} ⟨h1,h2,_⟩ hk=>by
  obtain⟨k1,k2⟩:=kind_lo hk
  rw[rC_eq k1,ifp]at h1
  exact h1
 node:=fun {t d T T'} ⟨h1,h2,h3,h4⟩ hs hk=>by
  rw[rC_node hs (by omega) 0 b d]at h1
  subst h1
  refine⟨rfl,rfl,rfl,rsC_len _ _ _ _ _ _,fun i hi=>?_⟩
  have hsz:=kid_size hs hi
  have hbl:=bnd_le T.kind i
  refine⟨?_,shw_kid hs hk hi,by omega,?_⟩
  ·show (rsC 0 b T.kind 0 T.kids d).getD i .nil=_
   rw[rsC_get 0 b T.kind T.kids 0 d i hi,Nat.zero_add,bnd1]
  ·have hm:(rsC 0 b T.kind 0 T.kids d).getD i .nil∈rsC 0 b T.kind 0 T.kids d:=getD_mem (by rw[rsC_len];exact hi)
   have z1:=sizesN_mem hm
   rw[sizeN]at h4
   show sizeN ((rsC 0 b T.kind 0 T.kids d).getD i .nil)≤65536
   omega
theorem mv_rc {b k:Tree}(hb:conE b=0)(hk0:Ki.kindR [] b=(k,0)):Mv (s0 (toC b)) [k] [] [] [] (rcQ b):=mv_rcG [] [] (fun {j A} h=>by simp at h) hb hk0
theorem mv_rc2 {b k:Tree}(hb:conE b=0)(hk0:Ki.kindR [] b=(k,0))(B:Cn):Mv (s0 (toC b)) [k] [] [B] [inst B (toC b)] (rcQ b):=mv_rcG [B] [inst B (toC b)] (fun {j A} h=>by
 cases j with
 | zero =>
  have:B=A:=by simpa using h
  subst this;rfl
 | succ j=>simp at h) hb hk0
theorem hk_rc {b k T:Tree}{B:Cn}(hb:Ki.kindR [] b=(k,0))(ht:isTermF T=true)(hz:sizeN T≤65536)(hz2:sizeN (rC 0 b T 0)≤65536)(h:Hk [k] [] T B):Hk [] [] (rC 0 b T 0) (inst B (toC b)) :=
 mv (mv_rc (kindR_nil hb).2.1 hb) h (t:=0) (d:=0) .base ht ⟨rfl,.inr (.inl ht),by omega,hz2⟩
theorem rc_con {b c:Tree}(hb:conE b=0)(hbf:freeR b=0)(hc:isConF c=true){d:Nat}(hz:d+sizeN c≤65536):∃y,rputF d b c 0=some y∧rC 0 b c d=y∧isConF y=true:=by
 have hlim:lim=1099511627776:=rfl
 obtain⟨n1,n2⟩:=con_notkind hc
 have hE:=conE_of hc (by omega)
 have hzb:=conE_size hb
 obtain⟨y,hy,_⟩:=step_con (i:=d) hb hbf hE (by omega) (by omega)
 have hy':rputF ((d:Int)+0) b c 0=some y:=by rw[Int.add_zero];exact hy
 refine⟨y,hy,?_,?_⟩
 ·rw[rC_eq (con_kd hc).1,ifn,ifp,ifn,hy'];rfl
 ·refine (con_putG (show (0:Int)≤d by omega) (fun d' y hd hd1 hy=>?_) c) hc 0 y (conE_plain hE) (by omega) (by omega) hy
  rw[rmoved_vmap d' 0 b 0 (conE_plain hb) (by omega) (by omega)]at hy
  exact (conE_full (vmap_conE (fM_VB d' 0) hb hy)).2
theorem field_con {k:Int}{x:Tree}(h:tfieldF k x=true)(hc:isConF x=true):False:=by
 have hx:=(con_kd hc).1
 rw[tfieldF_eq hx]at h
 rw[isConF_eq hx,Bool.and_eq_true]at hc
 have h2:=hc.1
 unfold bareF at h2
 simp only[Bool.and_eq_true,decide_eq_true_eq,Bool.false_or]at h h2
 have h3:=h.1.1.2
 rw[h2.1.2]at h3
 unfold labelF at h3
 exact absurd h3 (by decide)
theorem rc_rp {b:Tree}(hb:conE b=0)(hbf:freeR b=0)(T:Tree):∀d:Nat,Shw T→d+sizeN T≤65536→Rp T (rC 0 b T d):=by
 induction T using Tree.ind' with
 | h0=>intro d h;exact absurd rfl h.ne
 | h1 T hT ih =>
  intro d hs hz
  by_cases q:T.kind=130∨T.kind < 110
  ·rw[rC_eq hT,if_pos q]
   exact⟨id,id,id,fun _=>id,fun _=>rfl⟩
  by_cases q2:T.kind < 130
  ·have hc:=shw_con hs (by omega) q2
   obtain⟨y,_,hy,hcy⟩:=rc_con hb hbf hc hz
   rw[hy]
   refine⟨fun _=>hcy,fun h=>?_,fun h=>?_,fun k h=>?_,fun⟨k,h⟩=>?_⟩
   ·have:=kind_lo h;omega
   ·have:=term_lo h;omega
   ·exact (field_con h hc).elim
   ·exact (field_con h hc).elim
  have hk:∀x∈T.kids,Shw x:=by
   rcases shw_kids hs with w|⟨_,_,w⟩
   ·exact absurd w q2
   ·exact w
  have hl:=rsC_len 0 b T.kind T.kids 0 d
  have hr:∀j,j < T.kids.length→Rp (T.kids.getD j .nil) ((rsC 0 b T.kind 0 T.kids d).getD j .nil):=fun j hj=>by
   rw[rsC_get 0 b T.kind T.kids 0 d j hj,Nat.zero_add]
   have hm:=getD_mem hj
   have hbl:=bnd_le T.kind j
   have s1:=sizesN_mem hm
   have s2:=sizeN_kids hT
   rw[bnd1]
   exact ih _ hm _ (hk _ hm) (by omega)
  rw[rC_eq hT,if_neg q,if_neg q2]
  refine⟨fun h=>absurd (con_lt (.inl h)) q2,fun h=>absurd (con_lt (.inr h)) q2,fun h=>term_kids hl hr h,fun kind h=>?_,fun _=>rfl⟩
  obtain⟨_,p2,_,p4,_⟩:=tfield_parts h
  rw[tfieldF_eq hT]at h
  rw[tfieldF_eq (by simp)]
  simp only[Bool.and_eq_true,decide_eq_true_eq]at h ⊢
  exact⟨⟨h.1.1,by show (rsC 0 b T.kind 0 T.kids d).length=1;rw[hl];exact p4⟩,(hr 0 (by omega)).term h.2⟩
theorem rc_closed {b:Tree}(hb:conE b=0)(hbf:freeR b=0)(T:Tree):∀(d:Nat) (c0 t:Int),c0≤d→Shw T→sizeN T≤65536→(freeT T c0 t).1≤0→rC 0 b T d=T:=by
 induction T using Tree.ind' with
 | h0=>intro d c0 t _ h;exact absurd rfl h.ne
 | h1 T hT ih =>
  intro d c0 t hcd hs hz hf
  by_cases q:T.kind=130∨T.kind < 110
  ·rw[rC_eq hT,if_pos q]
  by_cases q2:T.kind < 130
  ·have hc:=shw_con hs (by omega) q2
   have hE:=conE_of hc (by omega)
   rw[rC_eq hT,if_neg q,if_pos q2]
   by_cases q3:65536 - (d:Int) < 0
   ·rw[if_pos q3]
   ·rw[if_neg q3]
    have:=con_stays (i:=d) hE hb (Int.le_trans (con_free hc hf) hcd)
    obtain⟨_,_,_,h4⟩:=Ki.subst_inv this
    rw[Int.add_zero,h4];rfl
  have hkid:∀j,j < T.kids.length→(rsC 0 b T.kind 0 T.kids d).getD j .nil=T.kids.getD j .nil:=fun j hj=>by
   rw[rsC_get 0 b T.kind T.kids 0 d j hj,Nat.zero_add]
   have hm:=getD_mem hj
   have hbl:=bnd_le T.kind j
   have s1:=sizesN_mem hm
   have s2:=sizeN_kids hT
   have h1:=kid1 hT (by omega) hf hj
   rw[bnd1]
   exact ih _ hm _ _ _ (by omega) (shw_kid hs (by omega) hj) (by omega) h1
  rw[rC_eq hT,if_neg q,if_neg q2]
  have e:rsC 0 b T.kind 0 T.kids d=T.kids:=by
   have hl:=rsC_len 0 b T.kind T.kids 0 d
   apply List.ext_getElem hl
   intro i h1 h2
   have:=hkid i h2
   simpa [List.getD_eq_getElem?_getD,h1,h2] using this
  rw[e]
  cases T with
  | nil=>exact absurd rfl hT
  | node=>rfl
theorem rc_in {b w:Tree}(hb:conE b=0)(hbf:freeR b=0)(hw:∀d:Nat,rC 0 b w d=w)(T:Tree):∀(t:Int) (d:Nat),Shw T→d+sizeN T≤65536→rC 0 b (inT 0 w T t) d=inT 0 w (rC 0 b T d) t:=by
 induction T using Tree.ind' with
 | h0=>intro d t h;exact absurd rfl h.ne
 | h1 T hT ih =>
  intro t d hs hz
  by_cases q:T.kind=130
  ·rw[rC_eq hT,if_pos (.inl q),inT_eq hT,if_pos q]
   split
   ·rw[rC_eq hT,if_pos (.inl q)]
   ·split
    ·rw[rC_eq (by simp),if_pos (.inl rfl)]
    ·exact hw d
  by_cases q2:T.kind < 130
  ·rw[inT_eq hT,if_neg q,if_pos q2]
   by_cases q3:T.kind < 110
   ·rw[rC_eq hT,if_pos (.inr q3),inT_eq hT,if_neg q,if_pos q2]
   ·have hc:=shw_con hs (by omega) q2
    obtain⟨y,_,hy,hcy⟩:=rc_con hb hbf hc hz
    obtain⟨k1,k2,k3⟩:=con_kd hcy
    rw[hy,inT_eq k1,if_neg k2,if_pos k3]
  rw[inT_eq hT,if_neg q,if_neg q2,rC_eq (by simp),rC_eq hT]
  rw[if_neg (show ¬((Tree.node T.kind T.n T.name T.mark (insT 0 w T.kind 0 T.kids t)).kind=130∨(Tree.node T.kind T.n T.name T.mark (insT 0 w T.kind 0 T.kids t)).kind < 110) from by show ¬(T.kind=130∨T.kind < 110);omega),if_neg (show ¬(Tree.node T.kind T.n T.name T.mark (insT 0 w T.kind 0 T.kids t)).kind < 130 from q2),
   if_neg (show ¬(T.kind=130∨T.kind < 110) by omega),if_neg q2,inT_eq (by simp)]
  rw[if_neg (show ¬(Tree.node T.kind T.n T.name T.mark (rsC 0 b T.kind 0 T.kids d)).kind=130 from q),if_neg (show ¬(Tree.node T.kind T.n T.name T.mark (rsC 0 b T.kind 0 T.kids d)).kind < 130 from q2)]
  show Tree.node T.kind T.n T.name T.mark (rsC 0 b T.kind 0 (insT 0 w T.kind 0 T.kids t) d)=Tree.node T.kind T.n T.name T.mark (insT 0 w T.kind 0 (rsC 0 b T.kind 0 T.kids d) t)
  have hl1:=rsC_len 0 b T.kind (insT 0 w T.kind 0 T.kids t) 0 d
  have hl2:=insT_len 0 w T.kind T.kids 0 t
  have hl3:=insT_len 0 w T.kind (rsC 0 b T.kind 0 T.kids d) 0 t
  have hl4:=rsC_len 0 b T.kind T.kids 0 d
  congr 1
  apply List.ext_getElem (by omega)
  intro i h1 h2
  have hi:i < T.kids.length:=by omega
  have hm:=getD_mem hi
  have hbl:=bnd_le T.kind i
  have s1:=sizesN_mem hm
  have s2:=sizeN_kids hT
  have:=ih _ hm (t+(bndF T.kind i).2) (d+(bndF T.kind i).1.toNat) (shw_kid hs (by omega) hi) (by omega)
  have e1:(rsC 0 b T.kind 0 (insT 0 w T.kind 0 T.kids t) d).getD i .nil=(insT 0 w T.kind 0 (rsC 0 b T.kind 0 T.kids d) t).getD i .nil:=by
   rw[rsC_get 0 b T.kind _ 0 d i (by omega),insT_get 0 w T.kind T.kids 0 t i hi,insT_get 0 w T.kind _ 0 t i (by omega),rsC_get 0 b T.kind T.kids 0 d i hi,Nat.zero_add,bnd1]
   exact this
  simpa [List.getD_eq_getElem?_getD,h1,h2] using e1
theorem sizes_le:∀{l l':List Tree},l'.length=l.length→(∀i,i < l.length→sizeN (l.getD i .nil)≤sizeN (l'.getD i .nil))→sizesN l≤sizesN l'
 | [],[],_,_=>Nat.le_refl _
 | [],_::_,h,_=>by simp at h
 | _::_,[],h,_=>by simp at h
 | x::l,y::l',h,hi=>by
  rw[sizesN,sizesN]
  have h1:=hi 0 (by simp)
  have h2:=sizes_le (l:=l) (l':=l') (by simpa using h) fun i h2=>by have:=hi (i+1) (by simpa using h2);simpa using this
  have h1:sizeN x≤sizeN y:=h1
  omega
theorem size_pos {T:Tree}(h:T≠.nil):1≤sizeN T:=by have:=sizeN_kids h;omega
theorem in_size {w:Tree}(hw:w≠.nil)(T:Tree):∀t:Int,Shw T→sizeN T≤sizeN (inT 0 w T t):=by
 induction T using Tree.ind' with
 | h0=>intro t h;exact absurd rfl h.ne
 | h1 T hT ih =>
  intro t hs
  by_cases q:T.kind=130
  ·have hv:=shw_var hs q
   have h1:sizeN T=1+sizesN []:=by rw[←hv];exact sizeN_kids hT
   have e:sizesN []=0:=rfl
   rw[inT_eq hT,if_pos q]
   split
   ·exact Nat.le_refl _
   ·split
    ·have:=size_pos (T:=.node 130 (T.n - 1) ByteArray.empty ByteArray.empty []) (by simp);omega
    ·have:=size_pos hw;omega
  by_cases q2:T.kind < 130
  ·rw[inT_eq hT,if_neg q,if_pos q2];exact Nat.le_refl _
  rw[inT_eq hT,if_neg q,if_neg q2,sizeN_kids hT]
  show 1+sizesN T.kids≤sizeN (.node T.kind T.n T.name T.mark (insT 0 w T.kind 0 T.kids t))
  rw[sizeN_kids (by simp)]
  have:=sizes_le (l:=T.kids) (l':=insT 0 w T.kind 0 T.kids t) (insT_len 0 w T.kind T.kids 0 t) fun i hi=>by
   rw[insT_get 0 w T.kind T.kids 0 t i hi]
   exact ih _ (getD_mem hi) _ (shw_kid hs (by omega) hi)
  have e:(Tree.node T.kind T.n T.name T.mark (insT 0 w T.kind 0 T.kids t)).kids=insT 0 w T.kind 0 T.kids t:=rfl
  rw[e]
  omega
theorem hk_open {b w T q:Tree}{A B:Cn}(hb:Ki.kindR [] b=(q,0))(hw:Cd w)(hA:Hk [] [] w (inst B (toC b)))(ht:isTermF T=true)(hz:sizeN T≤65536)(hz2:sizeN (rC 0 b (inT 0 w T 0) 0)≤65536)(h:Hk [q] [B] T (ren Nat.succ A)):Hk [] [] (rC 0 b (inT 0 w T 0) 0) A:=by
 obtain⟨_,hbE,hk3⟩:=kindR_nil hb
 obtain⟨bf1,bs1⟩:=(kind_facts b).1 (conE_full hbE).2 (by have:=conE_size hbE;omega) [] (by rw[hk3])
 have hbf:freeR b=0:=by
  have:=sc_free hbE bs1
  have h2:=Tm.freeR_le b
  have:freeR b≤0:=this
  omega
 have hcl:Cl (toC b):=Sc.cl bs1
 have hwc:∀d:Nat,rC 0 b w d=w:=fun d=>rc_closed hbE hbf w d 0 0 (by omega) hw.shw hw.size hw.free1
 have e:=rc_in hbE hbf hwc T 0 0 (.inr (.inl ht)) (by omega)
 have e:rC 0 b (inT 0 w T 0) 0=inT 0 w (rC 0 b T 0) 0:=e
 have hrp:=rc_rp hbE hbf T 0 (.inr (.inl ht)) (by omega)
 have hrt:=hrp.term ht
 have hrt:isTermF (rC 0 b T 0)=true:=hrt
 have hzr:=in_size (term_ne hw.term) (rC 0 b T 0) 0 (.inr (.inl hrt))
 rw[e]at hz2 ⊢
 have h1:Hk [] [inst B (toC b)] (rC 0 b T 0) (inst (ren Nat.succ A) (toC b)) :=
  mv (mv_rc2 hbE hb B) h (t:=0) (d:=0) .base ht ⟨rfl,.inr (.inl ht),by omega,by omega⟩
 rw[inst_shift]at h1
 exact hk_in hw hA hrt (by omega) h1
end Sn
end Go.Proofs.YtlgajkoplklkiaaGreat
namespace Go.Proofs.YtlgajkoplklkiaaGreat
namespace Ty
open Go Go.Mq Tm Sb St
theorem con_ne {T:Tree}(h:isConF T=true):T≠.nil:=by intro e;subst e;rw[isConF]at h;cases h
theorem bnd_zero {r:Tree×Int}{f:Tree→Tree×Int}(h:(bnd r f).2=0):r.2=0∧bnd r f=f r.1∧(f r.1).2=0:=by
 unfold bnd at *
 by_cases h0:r.2=0
 ·rw[if_pos h0]at h ⊢;exact⟨h0,rfl,h⟩
 ·rw[if_neg h0]at h;exact absurd h h0
theorem lbnd_zero {r:List Tree×Int}{f:List Tree→Tree×Int}(h:(lbnd r f).2=0):r.2=0∧lbnd r f=f r.1∧(f r.1).2=0:=by
 unfold lbnd at *
 by_cases h0:r.2=0
 ·rw[if_pos h0]at h ⊢;exact⟨h0,rfl,h⟩
 ·rw[if_neg h0]at h;exact absurd h h0
theorem as_zero {r:Tree×Int}{k:Int}(h:(asR r k).2=0):r.2=0∧r.1.kind=k∧asR r k=r:=by
 unfold asR at *
 split at h
 ·simp at h
 ·rename_i hn
  rw[if_neg hn]
  have h1:r.2=0:=h
  refine⟨h1,?_,rfl⟩
  exact Decidable.of_not_not fun e=>hn ⟨h1,e⟩
theorem norm_zero {T:Tree}(h:(No.normR T).2=0):isConF (No.normR T).1=true∧sizeN (No.normR T).1≤65536:=norm_con (m:=(No.normR T).1) (by rw[←h])
theorem tst_zero {K:List Tree}{T:Tree}(h:(tstR K T).2=0):Ki.starE K T=0∧tstR K T=No.normR T∧(No.normR T).2=0:=by
 unfold tstR at *
 by_cases h0:Ki.starE K T=0
 ·rw[if_pos h0]at h ⊢;exact⟨h0,rfl,h⟩
 ·rw[if_neg h0]at h;exact absurd h h0
theorem fill_zero {n b:Tree}(h:(fillR n b).2=0):(substR n 0 b).2=0∧fillR n b=No.normR (substR n 0 b).1∧(No.normR (substR n 0 b).1).2=0:=bnd_zero h
theorem shift_zero {T:Tree}{b:Int}(h:(shiftR T b 0).2=0):conE T=0∧vmap (fM b 0) T 0=some (shiftR T b 0).1:=by
 by_cases hc:conE T=0
 ·refine⟨hc,?_⟩
  rw[shiftR_vmap hc (by omega)]at h ⊢
  cases hv:vmap (fM b 0) T 0 with
  | none=>rw[hv]at h;simp at h
  | some m=>rfl
 ·unfold shiftR at h
  rw[if_neg hc]at h
  exact absurd h hc
theorem shift_con {T:Tree}{b:Int}(h:(shiftR T b 0).2=0):isConF (shiftR T b 0).1=true:=by
 obtain⟨h1,h2⟩:=shift_zero h
 exact (conE_full (vmap_conE (fM_VB b 0) h1 h2)).2
theorem shs_zero:∀{l:List Tree},(shsR l).2=0→(∀x∈l,(shiftR x 1 0).2=0)∧(shsR l).1=l.map fun x=>(shiftR x 1 0).1
 | [],_=>⟨by simp,rfl⟩
 | x::l,h=>by
  rw[shsR]at h ⊢
  by_cases h0:(shiftR x 1 0).2=0
  ·rw[if_pos h0]at h ⊢
   obtain⟨h1,h2⟩:=shs_zero (l:=l) h
   refine⟨fun y hy=>?_,by simp only[List.map_cons];rw[h2]⟩
   rcases List.mem_cons.1 hy with rfl|hy
   ·exact h0
   ·exact h1 y hy
  ·rw[if_neg h0]at h;exact absurd h h0
theorem all_zero {K Γ:List Tree}:∀{l:List Tree},(ofAll l K Γ).2=0→(∀x∈l,(ofF x K Γ).2=0)∧(ofAll l K Γ).1=l.map fun x=>(ofF x K Γ).1
 | [],_=>by rw[ofAll];exact⟨by simp,rfl⟩
 | x::l,h=>by
  rw[ofAll]at h ⊢
  by_cases h0:(ofF x K Γ).2=0
  ·rw[if_pos h0]at h ⊢
   obtain⟨h1,h2⟩:=all_zero (l:=l) h
   refine⟨fun y hy=>?_,by simp only[List.map_cons];rw[h2]⟩
   rcases List.mem_cons.1 hy with rfl|hy
   ·exact h0
   ·exact h1 y hy
  ·rw[if_neg h0]at h;exact absurd h h0
def fldT (nm:ByteArray)(t:Tree):Tree:=.node 116 0 nm ByteArray.empty [t]
theorem flds_zero {K Γ:List Tree}:∀{l:List Tree},(ofFlds l K Γ).2=0→(∀x∈l,(ofF (x.kids.getD 0 .nil) K Γ).2=0)∧(ofFlds l K Γ).1=l.map fun x=>fldT x.name (ofF (x.kids.getD 0 .nil) K Γ).1
 | [],_=>by rw[ofFlds];exact⟨by simp,rfl⟩
 | x::l,h=>by
  rw[ofFlds_cons]at h ⊢
  by_cases h0:(ofF (x.kids.getD 0 .nil) K Γ).2=0
  ·rw[if_pos h0]at h ⊢
   obtain⟨h1,h2⟩:=flds_zero (l:=l) h
   refine⟨fun y hy=>?_,by simp only[List.map_cons];rw[h2];rfl⟩
   rcases List.mem_cons.1 hy with rfl|hy
   ·exact h0
   ·exact h1 y hy
  ·rw[if_neg h0]at h;exact absurd h h0
def armA (S:List Tree)(self:Tree)(i:Nat):Tree:=(fillR ((S.getD i .nil).kids.getD 0 .nil) self).1
theorem arms_zero {self:Tree}{K Γ:List Tree}:∀{l S:List Tree},(armsF l S self K Γ).2=0→(armsF l S self K Γ).1.length=l.length∧∀i,i < l.length→(fillR ((S.getD i .nil).kids.getD 0 .nil) self).2=0 ∧
   (ofF ((l.getD i .nil).kids.getD 0 .nil) K (armA S self i::Γ)).2=0∧(armsF l S self K Γ).1.getD i .nil=(ofF ((l.getD i .nil).kids.getD 0 .nil) K (armA S self i::Γ)).1
 | [],S,_=>by rw[armsF];exact⟨rfl,fun i hi=>by simp at hi⟩
 | x::l,S,h=>by
  rw[armsF]at h ⊢
  by_cases h0:(fillR ((S.getD 0 .nil).kids.getD 0 .nil) self).2=0
  ·rw[if_pos h0]at h ⊢
   by_cases h1:(ofF (x.kids.getD 0 .nil) K ((fillR ((S.getD 0 .nil).kids.getD 0 .nil) self).1::Γ)).2=0
   ·rw[if_pos h1]at h ⊢
    obtain⟨h2,h3⟩:=arms_zero (l:=l) (S:=S.drop 1) h
    refine⟨by simp only[List.length_cons];rw[h2],fun i hi=>?_⟩
    cases i with
    | zero=>exact⟨h0,h1,rfl⟩
    | succ i =>
     have h4:=h3 i (by simpa using hi)
     have e:(S.drop 1).getD i .nil=S.getD (i+1) .nil:=by
      rw[List.getD_eq_getElem?_getD,List.getD_eq_getElem?_getD,List.getElem?_drop,Nat.add_comm]
     unfold armA at *
     rw[e]at h4
     exact h4
   ·rw[if_neg h1]at h;exact absurd h h1
  ·rw[if_neg h0]at h;exact absurd h h0
theorem alike_zero {l:List Tree}{t:Tree}(h:(alikeR l t).2=0):alikeR l t=(t,0)∧∀x∈l,x=t:=by
 unfold alikeR at *
 by_cases h0:(l.any fun s=>!sameF s t)=true
 ·rw[if_pos h0]at h;simp at h
 ·rw[if_neg h0]
  refine⟨rfl,fun x hx=>?_⟩
  rw[Bool.not_eq_true,List.any_eq_false]at h0
  have:=h0 x hx
  simp only[Bool.not_eq_true',Bool.not_eq_false]at this
  exact (sameF_iff x t).1 this
theorem rec_con {ts:List Tree}(h:∀x∈ts,fieldF 116 x=true)(hr:risingF ts=true):isConF (cT 115 ts)=true:=by
 rw[isConF_eq (by simp[cT])]
 have:fieldsF 116 ts=true:=by
  clear hr
  induction ts with
  | nil=>rw[fieldsF]
  | cons x l ih=>rw[fieldsF,h x (by simp),ih fun y hy=>h y (by simp[hy])];rfl
 simp[cT,Tree.kind,Tree.kids,Tree.n,bareF,Tree.mark,Tree.name,this,hr]
theorem pair_lt {pre l:List Tree}(h:pairsF true pre l=true):risingF l=true∧∀y∈pre,∀x∈l.head?,ltB y.name x.name=true:=by
 induction l generalizing pre with
 | nil=>exact⟨by rw[risingF],by simp⟩
 | cons x l ih =>
  rw[pairsF,Bool.and_eq_true]at h
  obtain⟨h1,h2⟩:=ih h.2
  have h3:∀y∈pre,ltB y.name x.name=true:=by
   intro y hy
   have:=(List.all_eq_true.1 h.1) y hy
   unfold okPair at this
   simp only[Bool.and_eq_true,Bool.not_eq_true',decide_eq_false_iff_not,Bool.not_true,Bool.false_or,Bool.or_eq_true,decide_eq_true_eq]at this
   rcases this.2 with h|h
   ·exact h
   ·exact absurd h this.1
  refine⟨?_,fun y hy z hz=>by simp at hz;subst hz;exact h3 y hy⟩
  cases l with
  | nil=>rw[risingF]
  | cons z l=>rw[risingF,h1,h2 x (by simp) z (by simp)];rfl
theorem rising_names:∀(l m:List Tree),l.map Tree.name=m.map Tree.name→risingF l=risingF m
 | [],[],_=>rfl
 | [a],[b],_=>by rw[risingF,risingF]
 | a::b::l,c::d::m,h=>by
  simp only[List.map_cons,List.cons.injEq]at h
  rw[risingF,risingF,h.1,h.2.1,rising_names (b::l) (d::m) (by simp[h.2.1,h.2.2])]
 | [],_::_,h=>by simp at h
 | _::_,[],h=>by simp at h
 | [a],_::_::_,h=>by simp at h
 | _::_::_,[b],h=>by simp at h
theorem partC {s:ByteArray}{T p:Tree}(hT:isConF T=true)(hk:T.kind=115∨T.kind=121)(h:partF s T.kids=some p):isConF p=true:=by
 have hne:T≠.nil:=by intro e;subst e;rw[isConF]at hT;cases hT
 obtain⟨y,h1,rfl⟩:=partF_mem h
 rcases hk with hk|hk
 ·exact (Ki.field_kid (Ki.rec_fields hne hT hk y h1)).2.2
 ·exact (Ki.field_kid (Ki.sum_fields hne hT hk y h1)).2.2
theorem tfield_kid {k:Int}{x:Tree}(h:tfieldF k x=true):x≠.nil∧x.name≠ByteArray.empty∧labelF x.name=true∧x.kids.length=1∧isTermF (x.kids.getD 0 .nil)=true:=by
 have hT:x≠.nil:=by intro e;subst e;rw[tfieldF]at h;cases h
 rw[tfieldF_eq hT]at h
 simp only[Bool.and_eq_true,decide_eq_true_eq]at h
 refine⟨hT,?_,h.1.1.2,h.1.2,h.2⟩
 intro e
 have:=h.1.1.2
 rw[e]at this
 exact absurd this (by decide)
theorem fldT_ok {nm:ByteArray}{t:Tree}(h1:nm≠ByteArray.empty)(h2:labelF nm=true)(h3:isConF t=true):fieldF 116 (fldT nm t)=true:=by
 rw[fieldF_eq (by simp[fldT])]
 simp[fldT,Tree.kind,Tree.name,Tree.kids,bareF,Tree.n,Tree.mark,h1,h2,h3]
theorem of_con:∀(n:Nat) (T:Tree),sizeN T≤n→isTermF T=true→∀K Γ:List Tree,(ofF T K Γ).2=0→isConF (ofF T K Γ).1=true:=by
 intro n
 induction n with
 | zero=>intro T hz hT;have:=sizeN_kids (term_ne hT);omega
 | succ n ih =>
  intro T hz hT K Γ h
  have hTn:=term_ne hT
  have hsz:=sizeN_kids hTn
  have sz:∀i,i < T.kids.length→sizeN (T.kids.getD i .nil)≤n:=fun i hi=>by have:=sizesN_mem (getD_mem (l:=T.kids) hi);omega
  have szx:∀x∈T.kids,x≠.nil→x.kids.length=1→sizeN (x.kids.getD 0 .nil)≤n:=fun x hx hn h1=>by
   have h2:=sizesN_mem hx
   have h3:=sizeN_kids hn
   have h4:=sizesN_mem (getD_mem (l:=x.kids) (i:=0) (by omega))
   omega
  rw[ofF_eq T K Γ hTn]at h ⊢
  by_cases k130:T.kind=130
  ·rw[if_pos k130]at h ⊢
   unfold varR at *
   split at h
   ·simp at h
   ·rename_i hq;rw[if_neg hq];exact (norm_zero h).1
  rw[if_neg k130]at h ⊢
  by_cases k131:T.kind=131
  ·rw[if_pos k131];rfl
  rw[if_neg k131]at h ⊢
  by_cases k132:T.kind=132
  ·rw[if_pos k132];rfl
  rw[if_neg k132]at h ⊢
  by_cases k133:T.kind=133
  ·rw[if_pos k133];rfl
  rw[if_neg k133]at h ⊢
  by_cases k139:T.kind=139
  ·rw[if_pos k139]at h ⊢
   obtain⟨t1,t2,t3⟩:=term_kx hT k139
   obtain⟨h1,h2,h3⟩:=lbnd_zero h
   unfold tlamR
   rw[h2]
   obtain⟨h4,h5,h6⟩:=bnd_zero h3
   rw[h5]
   exact No.lam_con (.inl rfl) t2 (ih _ (sz 1 (by omega)) t3 _ _ h4)
  rw[if_neg k139]at h ⊢
  by_cases k143:T.kind=143
  ·rw[if_pos k143]at h ⊢
   obtain⟨t1,t2,t3⟩:=term_xx hT (.inr (.inr (.inl k143)))
   obtain⟨h1,h2,h3⟩:=bnd_zero h
   unfold letR
   rw[h2]
   exact ih _ (sz 1 (by omega)) t3 _ _ h3
  rw[if_neg k143]at h ⊢
  unfold ruleR at *
  by_cases k134:T.kind=134
  ·rw[if_pos k134]at h ⊢
   obtain⟨t1,t2,t3⟩:=term_cx hT (.inl k134)
   obtain⟨h1,h2,h3⟩:=bnd_zero h
   unfold lamR
   rw[h2]
   obtain⟨h4,h5,h6⟩:=bnd_zero h3
   rw[h5]
   obtain⟨_,e1,e2⟩:=tst_zero h1
   exact No.two_con (.inl rfl) (by rw[e1];exact (norm_zero e2).1) (ih _ (sz 1 (by omega)) t3 _ _ h4)
  rw[if_neg k134]at h ⊢
  by_cases k135:T.kind=135
  ·rw[if_pos k135]at h ⊢
   obtain⟨t1,t2,t3⟩:=term_xx hT (.inl k135)
   obtain⟨h1,h2,h3⟩:=bnd_zero h
   unfold appR
   rw[h2]
   obtain⟨h4,h5,h6⟩:=bnd_zero h3
   rw[h5]
   have c1:=ih _ (sz 0 (by omega)) t2 _ _ h1
   split at h6
   ·rename_i hq
    rw[if_pos hq]
    exact (Ki.con_two (con_ne c1) c1 (.inl hq.1)).2.2
   ·simp at h6
  rw[if_neg k135]at h ⊢
  by_cases k136:T.kind=136
  ·rw[if_pos k136]at h ⊢
   obtain⟨t1,t2⟩:=term_f hT k136
   obtain⟨h1,h2,h3⟩:=lbnd_zero h
   unfold recR
   rw[h2]
   obtain⟨e1,e2⟩:=flds_zero h1
   rw[e2]
   refine rec_con (fun y hy=>?_) ?_
   ·obtain⟨x,hx,rfl⟩:=List.mem_map.1 hy
    obtain⟨a1,a2,a3,a4,a5⟩:=tfield_kid (t1 x hx)
    have c1:=ih _ (szx x hx a1 a4) a5 _ _ (e1 x hx)
    exact fldT_ok a2 a3 c1
   ·rw[rising_names _ T.kids (by simp[fldT,Tree.name,List.map_map,Function.comp_def])]
    exact (pair_lt t2).1
  rw[if_neg k136]at h ⊢
  by_cases k138:T.kind=138
  ·rw[if_pos k138]at h ⊢
   obtain⟨t1,t2⟩:=term_x hT k138
   obtain⟨h1,h2,h3⟩:=bnd_zero h
   unfold projR
   rw[h2]
   obtain⟨a1,a2,a3⟩:=as_zero h1
   rw[a3]at h3 ⊢
   cases hp:partF T.name (ofF (T.kids.getD 0 .nil) K Γ).1.kids with
   | none=>rw[hp]at h3;simp at h3
   | some p=>exact partC (ih _ (sz 0 (by omega)) t2 _ _ a1) (.inl a2) hp
  rw[if_neg k138]at h ⊢
  by_cases k140:T.kind=140
  ·rw[if_pos k140]at h ⊢
   obtain⟨t1,t2,t3⟩:=term_xc hT k140
   obtain⟨h1,h2,h3⟩:=bnd_zero h
   unfold tappR
   rw[h2]
   obtain⟨h4,h5,h6⟩:=bnd_zero h3
   rw[h5]
   split at h6
   ·rename_i hq
    rw[if_pos hq]
    obtain⟨_,e1,e2⟩:=fill_zero h6
    rw[e1];exact (norm_zero e2).1
   ·simp at h6
  rw[if_neg k140]at h ⊢
  by_cases k141:T.kind=141
  ·rw[if_pos k141]at h ⊢
   obtain⟨h1,h2,h3⟩:=bnd_zero h
   unfold packR
   rw[h2]
   obtain⟨h4,h5,h6⟩:=bnd_zero h3
   rw[h5]
   obtain⟨h7,h8,h9⟩:=bnd_zero h6
   rw[h8]
   obtain⟨_,e1,e2⟩:=tst_zero h1
   split at h9
   ·rename_i hq
    rw[if_pos hq]
    obtain⟨b1,b2,b3⟩:=bnd_zero h9
    rw[b2]
    split at b3
    ·rename_i hs;rw[if_pos hs,e1];exact (norm_zero e2).1
    ·simp at b3
   ·simp at h9
  rw[if_neg k141]at h ⊢
  by_cases k142:T.kind=142
  ·rw[if_pos k142]at h ⊢
   obtain⟨h1,h2,h3⟩:=bnd_zero h
   unfold unpackR
   rw[h2]
   obtain⟨h4,h5,h6⟩:=lbnd_zero h3
   rw[h5]
   obtain⟨h7,h8,h9⟩:=bnd_zero h6
   rw[h8]
   split at h9
   ·simp at h9
   ·rename_i hq
    rw[if_neg hq]
    exact shift_con h9
  rw[if_neg k142]at h ⊢
  by_cases k144:T.kind=144
  ·rw[if_pos k144]at h ⊢
   obtain⟨t1,t2,t3,t4⟩:=term_xxx hT k144
   obtain⟨h1,h2,h3⟩:=lbnd_zero h
   unfold choiceR
   rw[h2]
   obtain⟨e1,e2⟩:=all_zero h1
   split at h3
   ·rename_i hq
    rw[if_pos hq,e2]
    have:(T.kids.map fun x=>(ofF x K Γ).1).getD 1 .nil=(ofF (T.kids.getD 1 .nil) K Γ).1:=by
     rw[List.getD_eq_getElem?_getD,List.getD_eq_getElem?_getD,List.getElem?_map,List.getElem?_eq_getElem (show 1 < T.kids.length by omega)];rfl
    simp only[]
    rw[this]
    exact ih _ (sz 1 (by omega)) t3 _ _ (e1 _ (getD_mem (by omega)))
   ·simp at h3
  rw[if_neg k144]at h ⊢
  by_cases k145:T.kind=145
  ·rw[if_pos k145]at h ⊢
   obtain⟨h1,h2,h3⟩:=bnd_zero h
   unfold opR
   rw[h2]
   obtain⟨h4,h5,h6⟩:=bnd_zero h3
   rw[h5]
   split at h6
   ·rename_i hq
    rw[if_pos hq]
    split<;>rfl
   ·simp at h6
  rw[if_neg k145]at h ⊢
  by_cases k146:T.kind=146
  ·rw[if_pos k146]at h ⊢
   obtain⟨h1,h2,h3⟩:=bnd_zero h
   unfold inR
   rw[h2]
   obtain⟨h4,h5,h6⟩:=bnd_zero h3
   rw[h5]
   obtain⟨_,e1,e2⟩:=tst_zero h1
   split at h6
   ·rename_i hq
    rw[if_pos hq]
    cases hp:partF T.name (tstR K (T.kids.getD 0 .nil)).1.kids with
    | none=>rw[hp]at h6;simp at h6
    | some p =>
     rw[hp]at h6
     obtain⟨b1,b2,b3⟩:=bnd_zero h6
     simp only[]
     rw[b2]
     split at b3
     ·rename_i hs;rw[if_pos hs,e1];exact (norm_zero e2).1
     ·simp at b3
   ·simp at h6
  rw[if_neg k146]at h ⊢
  by_cases k147:T.kind=147
  ·rw[if_pos k147]at h ⊢
   obtain⟨t1,t2,t3⟩:=term_xa hT k147
   obtain⟨h1,h2,h3⟩:=bnd_zero h
   unfold caseR
   rw[h2]
   obtain⟨h4,h5,h6⟩:=lbnd_zero h3
   rw[h5]
   rw[(alike_zero h6).1]
   unfold armR at *
   split at h4
   ·rename_i hq
    rw[if_pos hq]
    obtain⟨b1,b2⟩:=arms_zero h4
    have hl:0 < (T.kids.drop 1).length:=by rw[List.length_drop];omega
    obtain⟨b3,b4,b5⟩:=b2 0 hl
    simp only[]
    rw[b5]
    have hm:=getD_mem (l:=T.kids.drop 1) (i:=0) hl
    obtain⟨a1,a2,a3,a4,a5⟩:=tfield_kid (t3 _ hm)
    exact ih _ (szx _ (List.mem_of_mem_drop hm) a1 a4) a5 _ _ b4
   ·simp at h4
  ·rw[if_neg k147]at h ⊢
   obtain⟨h1,h2,h3⟩:=bnd_zero h
   unfold foldR
   rw[h2]
   obtain⟨h4,h5,h6⟩:=bnd_zero h3
   rw[h5]
   obtain⟨h7,h8,h9⟩:=lbnd_zero h6
   rw[h8,(alike_zero h9).1]
   obtain⟨_,e1,e2⟩:=tst_zero h4
   simp only[]
   rw[e1];exact (norm_zero e2).1
end Ty
end Go.Proofs.YtlgajkoplklkiaaGreat
namespace Go.Proofs.YtlgajkoplklkiaaGreat
namespace Sn
open Go Go.Mq Cn Tm Sb St Ty Mc
inductive Bk:Tree→Prop
 | node {T:Tree} (h:isKindF T=true→sizeN T≤65536) (hk:∀x∈T.kids,Bk x):Bk T
theorem Bk.self {T:Tree}(h:Bk T):isKindF T=true→sizeN T≤65536:=by cases h with|node h _=>exact h
theorem Bk.kids {T:Tree}(h:Bk T):∀x∈T.kids,Bk x:=by cases h with|node _ h=>exact h
theorem bk_small (T:Tree):sizeN T≤65536→Bk T:=by
 induction T using Tree.ind' with
 | h0=>intro h;exact .node (fun _=>h) (fun x hx=>by cases hx)
 | h1 T hT ih =>
  intro h
  have hs:=sizeN_kids hT
  exact .node (fun _=>h) fun x hx=>ih x hx (by have:=sizesN_mem hx;omega)
theorem conE_bk {T:Tree}(h:conE T=0):Bk T:=bk_small T (by have:=conE_size h;omega)
theorem kindE_of {k:Tree}(h:isKindF k=true)(hz:sizeN k≤65536):kindE k=0:=by
 unfold kindE checkF
 have:=whole_full k (No.kind_Ap k h).full 65536 (by omega)
 rw[this,if_pos rfl,h];rfl
theorem con_nm {T:Tree}(h:isConF T=true):T.name=ByteArray.empty:=by
 have hx:=(con_kd h).1
 rw[isConF_eq hx,Bool.and_eq_true]at h
 have h2:=h.1
 unfold bareF at h2
 simp only[Bool.and_eq_true,decide_eq_true_eq,Bool.false_or]at h2
 exact h2.1.2
theorem of_wf {T A:Tree}{K Γ:List Tree}(ht:isTermF T=true)(h:ofF T K Γ=(A,0)):Wf A∧isConF A=true:=by
 have:=Ty.of_con (sizeN T) T (Nat.le_refl _) ht K Γ (by rw[h])
 rw[h]at this
 exact⟨(con_wf A).1 this,this⟩
theorem part_bk {s:ByteArray}{T p:Tree}(h:Bk T)(hl:∀x∈T.kids,x≠.nil∧x.kids.length=1)(hp:partF s T.kids=some p):Bk p:=by
 obtain⟨i,i1,i2⟩:=part_mem hp
 have m:=getD_mem i1
 rw[i2]
 exact (h.kids _ m).kids _ (getD_mem (by have:=(hl _ m).2;omega))
theorem cT_bk {k:Int}{l:List Tree}(h:110≤k)(hk:∀x∈l,Bk x):Bk (cT k l):=.node (fun q=>by have:=(kind_lo q).2;have e:(cT k l).kind=k:=rfl;omega) hk
theorem con_leaf {T:Tree}(h:isConF T=true)(hk:T.kind=111∨T.kind=112∨T.kind=113):toC T=.op T.kind e0 []:=by
 have hx:=(con_kd h).1
 have hn:=con_nm h
 rw[isConF_eq hx,Bool.and_eq_true,ifn,if_pos hk]at h
 have hl:T.kids=[]:=List.length_eq_zero_iff.1 (by simpa using h.2)
 rw[toC_op hx (by omega),hl,hn];rfl
theorem tst_star {K:List Tree}{n a:Tree}(h:tstR K n=(a,0)):Ki.starE K n=0:=by
 unfold tstR at h
 by_cases q:Ki.starE K n=0
 ·exact q
 ·rw[if_neg q]at h;exact absurd (Prod.mk.inj h).2 q
theorem arms_hk {T S self:Tree}{j:Nat}{K Γ ts:List Tree}{A:Tree}(hS:Wf S)(hSk:S.kind=121)(hn:S.kids.map Tree.name=(T.kids.drop j).map Tree.name)(h:armsF (T.kids.drop j) S.kids self K Γ=(ts,0))(hall:∀x∈ts,x=A)
  (ih:∀i,i < (T.kids.drop j).length→∀Γ A,ofF (inn (kidT T (j+i))) K Γ=(A,0)→Bk A∧Hk K (Γ.map toC) (inn (kidT T (j+i))) (toC A)) :
  (T.kids.drop j).length=(S.kids.map toC).length∧(∀i (hi:i < (S.kids.map toC).length),nmOf (S.kids.map toC)[i]=(kidT T (j+i)).name)∧(∀x∈ts,Bk x)∧∃X:Nat→Cn,(∀i (hi:i < (S.kids.map toC).length),Eqv (X i) (inst (bodyOf (S.kids.map toC)[i]) (toC self)))∧∀i (hi:i < (S.kids.map toC).length),Hk K (X i::Γ.map toC) (inn (kidT T (j+i))) (toC A):=by
 obtain⟨a1,a2⟩:=arms_get h
 have hlen:S.kids.length=(T.kids.drop j).length:=by have:=congrArg List.length hn;simpa using this
 have hfl:=fun i (hi:i < S.kids.length)=>hS.fld (.inr hSk) (getD_mem hi)
 have hx:∀i,i < S.kids.length→∃X,Eqv X (inst (toC (inn (S.kids.getD i .nil))) (toC self))∧Hk K (X::Γ.map toC) (inn (kidT T (j+i))) (toC A)∧Bk (ts.getD i .nil):=fun i hi=>by
  obtain⟨X,b1,b2⟩:=a2 i (by omega)
  rw[drop_get]at b2
  obtain⟨w,g⟩:=ih i (by omega) _ _ b2
  have e:ts.getD i .nil=A:=hall _ (getD_mem (by omega))
  rw[e]at g
  exact⟨toC X,(fill_ok b1).1.symm,g,w⟩
 have hb:∀i (hi:i < (S.kids.map toC).length),bodyOf (S.kids.map toC)[i]=toC (inn (S.kids.getD i .nil)):=fun i hi=>by
  have hi':i < S.kids.length:=by simpa using hi
  rw[getD_map_toC,hfl i hi'];rfl
 refine⟨by simp[hlen],fun i hi=>?_,fun x hx2=>?_,fun i=>if hi:i < S.kids.length then (hx i hi).choose else .var 0,fun i hi=>?_,fun i hi=>?_⟩
 ·have hi':i < S.kids.length:=by simpa using hi
  rw[getD_map_toC,hfl i hi']
  show (S.kids.getD i .nil).name=(T.kids.getD (j+i) .nil).name
  rw[←drop_get]
  have:=congrArg (fun l=>l.getD i ByteArray.empty) hn
  simp only[List.getD_eq_getElem?_getD,List.getElem?_map]at this
  rw[List.getElem?_eq_getElem hi',List.getElem?_eq_getElem (show i < (T.kids.drop j).length by omega)]at this
  simp only[List.getD_eq_getElem?_getD]
  rw[List.getElem?_eq_getElem hi',List.getElem?_eq_getElem (show i < (T.kids.drop j).length by omega)]
  simpa using this
 ·obtain⟨i,hi,rfl⟩:=List.getElem_of_mem hx2
  have:=(hx i (by omega)).choose_spec.2.2
  simpa [hi] using this
 ·have hi':i < S.kids.length:=by simpa using hi
  rw[hb i hi]
  dsimp only
  rw[dif_pos hi']
  exact (hx i hi').choose_spec.1
 ·have hi':i < S.kids.length:=by simpa using hi
  dsimp only
  rw[dif_pos hi']
  exact (hx i hi').choose_spec.2.1
theorem of_hk (T:Tree):(isTermF T=true→sizeN T≤65536→∀K Γ A,ofF T K Γ=(A,0)→Bk A∧Hk K (Γ.map toC) T (toC A))∧∀x∈T.kids,isTermF x=true→sizeN x≤65536→∀K Γ A,ofF x K Γ=(A,0)→Bk A∧Hk K (Γ.map toC) x (toC A):=by
 induction T using Tree.ind' with
 | h0=>exact⟨fun h=>(by rw[isTermF]at h;cases h),fun x hx=>by cases hx⟩
 | h1 T hT ih =>
  refine⟨fun hterm hsz K Γ A h=>?_,fun x hx=>(ih x hx).1⟩
  have hkz:∀i,i < T.kids.length→sizeN (T.kids.getD i .nil)≤65536:=fun i hi=>by
   have:=sizesN_mem (getD_mem hi)
   have:=sizeN_kids hT
   omega
  have hh:=(term_head hterm).1
  rw[ofF_eq T K Γ hT]at h
  by_cases c1:T.kind=130
  ·rw[if_pos c1]at h
   unfold varR at h
   have hn:=hh.n130 c1
   by_cases q:(Γ.length:Int)≤T.n
   ·rw[if_pos q]at h;exact absurd (Prod.mk.inj h).2 (by decide)
   rw[if_neg q]at h
   obtain⟨r1,_,r3⟩:=normR_red h
   refine⟨conE_bk r3,.conv (.var c1 hn.1 ?_) r1.eqv⟩
   rw[List.getElem?_map,List.getElem?_eq_getElem (show T.n.toNat < Γ.length by omega)]
   simp[List.getD_eq_getElem?_getD,List.getElem?_eq_getElem (show T.n.toNat < Γ.length by omega)]
  rw[if_neg c1]at h
  have leaf:∀k:Int,(k=111∨k=112∨k=113)→Bk (cT k [])∧toC (cT k [])=.op k e0 []:=fun k hk=>⟨cT_bk (by omega) (fun x hx=>by cases hx),by rw[toC_op (by intro e;cases e) (by show k≠110;omega)];rfl⟩
  by_cases c2:T.kind=131
  ·rw[if_pos c2]at h
   rw[←(Prod.mk.inj h).1]
   obtain⟨l1,l2⟩:=leaf 111 (by omega)
   rw[l2];exact⟨l1,.int c2⟩
  rw[if_neg c2]at h
  by_cases c3:T.kind=132
  ·rw[if_pos c3]at h
   rw[←(Prod.mk.inj h).1]
   obtain⟨l1,l2⟩:=leaf 112 (by omega)
   rw[l2];exact⟨l1,.tru c3⟩
  rw[if_neg c3]at h
  by_cases c4:T.kind=133
  ·rw[if_pos c4]at h
   rw[←(Prod.mk.inj h).1]
   obtain⟨l1,l2⟩:=leaf 113 (by omega)
   rw[l2];exact⟨l1,.unt c4⟩
  rw[if_neg c4]at h
  by_cases c5:T.kind=139
  ·rw[if_pos c5]at h
   obtain⟨tl,t0,t1⟩:=term_kx hterm c5
   unfold tlamR at h
   obtain⟨h1,h⟩:=Mc.lbnd_zero h
   obtain⟨h2,h⟩:=Mc.bnd_zero h
   obtain⟨w,g⟩:=(ih _ (getD_mem (by omega))).1 t1 (hkz _ (by omega)) _ _ _ h2
   rw[shs_ok h1]at g
   rw[←(Prod.mk.inj h).1]
   have w2:=(of_wf t1 h2).1
   have W:Wf (cT 117 [T.kids.getD 0 .nil,(ofF (T.kids.getD 1 .nil) (T.kids.getD 0 .nil::K) (shsR Γ).1).1]):=cT_wf (fun q=>rfl) (fun q=>by omega) (fun x hx=>by
    rcases mem_two rfl hx with e|e
    ·rw[e];exact kind_wf _ t0
    ·rw[e];exact w2)
   refine⟨cT_bk (by decide) (fun x hx=>by
    rcases mem_two rfl hx with e|e
    ·rw[e];exact bk_small _ (hkz _ (by omega))
    ·rw[e];exact w),?_⟩
   rw[W.toC_two (.inr (.inl rfl))]
   exact .tlam c5 (kindE_of t0 (hkz _ (by omega))) g
  rw[if_neg c5]at h
  by_cases c6:T.kind=143
  ·rw[if_pos c6]at h
   obtain⟨tl,t0,t1⟩:=term_xx hterm (.inr (.inr (.inl c6)))
   unfold letR at h
   obtain⟨h1,h⟩:=Mc.bnd_zero h
   obtain⟨w1,g1⟩:=(ih _ (getD_mem (by omega))).1 t0 (hkz _ (by omega)) _ _ _ h1
   obtain⟨w2,g2⟩:=(ih _ (getD_mem (by omega))).1 t1 (hkz _ (by omega)) _ _ _ h
   exact⟨w2,.bind c6 g1 g2⟩
  rw[if_neg c6]at h
  unfold ruleR at h
  by_cases k1:T.kind=134
  ·rw[if_pos k1]at h
   obtain⟨tl,t0,t1⟩:=term_cx hterm (.inl k1)
   unfold lamR at h
   obtain⟨h1,h⟩:=Mc.bnd_zero h
   obtain⟨h2,h⟩:=Mc.bnd_zero h
   obtain⟨w,g⟩:=(ih _ (getD_mem (by omega))).1 t1 (hkz _ (by omega)) _ _ _ h2
   rw[←(Prod.mk.inj h).1]
   have w2:=(of_wf t1 h2).1
   have W:Wf (cT 114 [(tstR K (T.kids.getD 0 .nil)).1,(ofF (T.kids.getD 1 .nil) K ((tstR K (T.kids.getD 0 .nil)).1::Γ)).1]):=cT_wf (fun q=>rfl) (fun q=>by omega) (fun x hx=>by
    rcases mem_two rfl hx with e|e
    ·rw[e];exact conE_wf (Mc.tst_ok h1).2.2.2.2
    ·rw[e];exact w2)
   refine⟨cT_bk (by decide) (fun x hx=>by
    rcases mem_two rfl hx with e|e
    ·rw[e];exact conE_bk (Mc.tst_ok h1).2.2.2.2
    ·rw[e];exact w),?_⟩
   rw[W.toC_two (.inl rfl)]
   exact .lam k1 (tst_star h1) (Mc.tst_ok h1).2.2.2.1 g
  rw[if_neg k1]at h
  by_cases k2:T.kind=135
  ·rw[if_pos k2]at h
   obtain⟨tl,t0,t1⟩:=term_xx hterm (.inl k2)
   unfold appR at h
   obtain⟨h1,h⟩:=Mc.bnd_zero h
   obtain⟨h2,h⟩:=Mc.bnd_zero h
   obtain⟨w1,g1⟩:=(ih _ (getD_mem (by omega))).1 t0 (hkz _ (by omega)) _ _ _ h1
   obtain⟨w2,g2⟩:=(ih _ (getD_mem (by omega))).1 t1 (hkz _ (by omega)) _ _ _ h2
   have ww:=of_wf t0 h1
   generalize (ofF (T.kids.getD 0 .nil) K Γ).1=f at *
   generalize (ofF (T.kids.getD 1 .nil) K Γ).1=a at *
   by_cases q:f.kind=114∧sameF (f.kids.getD 0 .nil) a=true
   ·rw[if_pos q]at h
    obtain⟨q1,q2⟩:=q
    rw[ww.1.toC_two (.inl q1),con_nm ww.2,q1,(sameF_iff _ _).1 q2]at g1
    rw[←(Prod.mk.inj h).1]
    exact⟨w1.kids _ (getD_mem (by have:=ww.1.two (.inl q1);omega)),.app k2 g1 g2⟩
   ·rw[if_neg q]at h;exact absurd (Prod.mk.inj h).2 (by decide)
  rw[if_neg k2]at h
  by_cases k3:T.kind=136
  ·rw[if_pos k3]at h
   have tf:=(term_f hterm k3).1
   unfold recR at h
   obtain⟨h1,h⟩:=Mc.lbnd_zero h
   rw[←(Prod.mk.inj h).1]
   generalize (ofFlds T.kids K Γ).1=ts at *
   obtain⟨a1,a2⟩:=ofFlds_get h1
   have hk:∀i,i < T.kids.length→∃t,ts.getD i .nil=.node 116 0 (T.kids.getD i .nil).name ByteArray.empty [t]∧Wf t∧Hk K (Γ.map toC) (inn (T.kids.getD i .nil)) (toC t)∧Bk t:=fun i hi=>by
    obtain⟨t,b1,b2⟩:=a2 i hi
    obtain⟨q1,q2,q3,q4,q5⟩:=tfield_parts (tf _ (getD_mem hi))
    have m0:=getD_mem (l:=(T.kids.getD i .nil).kids) (i:=0) (by omega)
    have s1:=sizesN_mem m0
    have s2:=sizeN_kids q1
    have s3:=hkz i hi
    obtain⟨w,g⟩:=(ih _ (getD_mem hi)).2 _ m0 q5 (by omega) _ _ _ b1
    exact⟨t,b2,(of_wf q5 b1).1,g,w⟩
   have hmem:∀x∈ts,∃i,i < T.kids.length∧x=ts.getD i .nil:=fun x hx=>by
    obtain⟨i,hi,rfl⟩:=List.getElem_of_mem hx
    exact⟨i,by omega,by simp[hi]⟩
   have W:Wf (cT 115 ts):=cT_wf (fun q=>by omega) (fun _ x hx=>by
    obtain⟨i,hi,rfl⟩:=hmem x hx
    obtain⟨t,b1,_⟩:=hk i hi
    rw[b1];exact⟨by (intro e;cases e),rfl,rfl⟩) (fun x hx=>by
    obtain⟨i,hi,rfl⟩:=hmem x hx
    obtain⟨t,b1,b2,_,_⟩:=hk i hi
    rw[b1]
    exact .node (by intro e;cases e) (fun q=>by have q:(116:Int)=114∨(116:Int)=117∨(116:Int)=118:=q;omega) (fun q=>by have q:(116:Int)=115∨(116:Int)=121:=q;omega) (fun y hy=>by rw[mem_one rfl hy];exact b2))
   refine⟨cT_bk (by decide) (fun x hx=>by
    obtain⟨i,hi,rfl⟩:=hmem x hx
    obtain⟨t,b1,_,_,b4⟩:=hk i hi
    rw[b1]
    exact .node (fun q=>by have q:=(kind_lo q).2;have q:(116:Int)=100∨(116:Int)=101:=q;omega) (fun y hy=>by rw[mem_one rfl hy];exact b4)),?_⟩
   rw[toC_op W.ne (by show (115:Int)≠110;decide)]
   show Hk _ _ T (.op 115 e0 (ts.map toC))
   refine .rcd k3 (by simp[a1]) (W.FL (.inl rfl)) (fun i hi=>?_) fun i hi=>?_
   ·obtain⟨t,b1,_⟩:=hk i (by simpa [a1] using hi)
    rw[getD_map_toC,b1,toC_op (by intro e;cases e) (by show (116:Int)≠110;decide)];rfl
   ·obtain⟨t,b1,_,b3,_⟩:=hk i (by simpa [a1] using hi)
    rw[getD_map_toC,b1,toC_op (by intro e;cases e) (by show (116:Int)≠110;decide)];exact b3
  rw[if_neg k3]at h
  by_cases k4:T.kind=138
  ·rw[if_pos k4]at h
   obtain⟨tl,t0⟩:=term_x hterm k4
   unfold projR at h
   obtain⟨h1,h⟩:=Mc.bnd_zero h
   obtain⟨h1,q1⟩:=Mc.as_ok h1
   obtain⟨w1,g1⟩:=(ih _ (getD_mem (by omega))).1 t0 (hkz _ (by omega)) _ _ _ h1
   have ww:=of_wf t0 h1
   generalize (asR (ofF (T.kids.getD 0 .nil) K Γ) 115).1=f at *
   cases hp:partF T.name f.kids with
   | none=>rw[hp]at h;exact absurd (Prod.mk.inj h).2 (by decide)
   | some p =>
    rw[hp]at h
    have:=(Prod.mk.inj h).1
    have this:p=A:=this
    subst this
    obtain⟨p1,p2⟩:=ww.1.part (.inl q1) hp
    rw[toC_op ww.1.ne (by omega),q1,con_nm ww.2]at g1
    have hF:=ww.1.FL (.inl q1)
    rw[if_pos q1]at hF
    exact⟨part_bk w1 (fun x hx=>⟨(ww.1.fl (.inl q1) x hx).1,(ww.1.fl (.inl q1) x hx).2.2⟩) hp,.proj k4 hF g1 p1⟩
  rw[if_neg k4]at h
  by_cases k5:T.kind=140
  ·rw[if_pos k5]at h
   obtain⟨tl,t0,t1⟩:=term_xc hterm k5
   unfold tappR at h
   obtain⟨h1,h⟩:=Mc.bnd_zero h
   obtain⟨h2,h⟩:=Mc.bnd_zero h
   obtain⟨w1,g1⟩:=(ih _ (getD_mem (by omega))).1 t0 (hkz _ (by omega)) _ _ _ h1
   have ww:=of_wf t0 h1
   generalize (ofF (T.kids.getD 0 .nil) K Γ).1=f at *
   by_cases q:f.kind=117∧sameF (f.kids.getD 0 .nil) (Ki.kindR K (T.kids.getD 1 .nil)).1=true
   ·rw[if_pos q]at h
    obtain⟨q1,q2⟩:=q
    rw[ww.1.toC_two (.inr (.inl q1)),q1,con_nm ww.2,(sameF_iff _ _).1 q2]at g1
    obtain⟨r1,r2⟩:=fill_ok h
    exact⟨conE_bk r2,.conv (.tapp k5 g1 h2) r1⟩
   ·rw[if_neg q]at h;exact absurd (Prod.mk.inj h).2 (by decide)
  rw[if_neg k5]at h
  by_cases k6:T.kind=141
  ·rw[if_pos k6]at h
   obtain⟨tl,t0,t1,t2⟩:=term_cxc hterm k6
   unfold packR at h
   obtain⟨h1,h⟩:=Mc.bnd_zero h
   obtain⟨h2,h⟩:=Mc.bnd_zero h
   obtain⟨h3,h⟩:=Mc.bnd_zero h
   obtain⟨w1,g1⟩:=(ih _ (getD_mem (by omega))).1 t1 (hkz _ (by omega)) _ _ _ h3
   have hs:=tst_star h1
   obtain⟨_,_,_,f4,f5⟩:=Mc.tst_ok h1
   have wt:=conE_wf f5
   have wn:=con_nm (conE_full f5).2
   have wb:=conE_bk f5
   generalize (ofF (T.kids.getD 1 .nil) K Γ).1=a at *
   generalize (tstR K (T.kids.getD 2 .nil)).1=t at *
   by_cases q:t.kind=118∧sameF (t.kids.getD 0 .nil) (Ki.kindR K (T.kids.getD 0 .nil)).1=true
   ·rw[if_pos q]at h
    obtain⟨h4,h⟩:=Mc.bnd_zero h
    by_cases q3:sameF a (fillR (t.kids.getD 1 .nil) (T.kids.getD 0 .nil)).1=true
    ·rw[if_pos q3]at h
     rw[←(Prod.mk.inj h).1]
     obtain⟨r1,r2⟩:=fill_ok h4
     rw[←(sameF_iff _ _).1 q3]at r1
     refine⟨wb,?_⟩
     rw[wt.toC_two (.inr (.inr q.1)),q.1,wn,(sameF_iff _ _).1 q.2]at f4 ⊢
     exact .pack k6 hs f4 h2 (.conv g1 r1.symm)
    ·rw[if_neg q3]at h;exact absurd (Prod.mk.inj h).2 (by decide)
   ·rw[if_neg q]at h;exact absurd (Prod.mk.inj h).2 (by decide)
  rw[if_neg k6]at h
  by_cases k7:T.kind=142
  ·rw[if_pos k7]at h
   obtain⟨tl,t0,t1⟩:=term_xx hterm (.inr (.inl k7))
   unfold unpackR at h
   obtain⟨h1,h⟩:=Mc.bnd_zero h
   obtain⟨h2,h⟩:=Mc.lbnd_zero h
   obtain⟨h3,h⟩:=Mc.bnd_zero h
   obtain⟨h1,q1⟩:=Mc.as_ok h1
   obtain⟨w1,g1⟩:=(ih _ (getD_mem (by omega))).1 t0 (hkz _ (by omega)) _ _ _ h1
   obtain⟨w3,g3⟩:=(ih _ (getD_mem (by omega))).1 t1 (hkz _ (by omega)) _ _ _ h3
   have ww:=of_wf t0 h1
   rw[List.map_cons,shs_ok h2]at g3
   generalize (asR (ofF (T.kids.getD 0 .nil) K Γ) 118).1=f at *
   rw[ww.1.toC_two (.inr (.inr q1)),q1,con_nm ww.2]at g1
   obtain⟨b1,b2,_⟩:=Ki.con_bind ww.1.ne ww.2 (.inr (.inl q1))
   have hq:=kindE_of b2 ((w1.kids _ (getD_mem (by omega))).self b2)
   by_cases q:occursR (ofF (T.kids.getD 1 .nil) (f.kids.getD 0 .nil::K) (f.kids.getD 1 .nil::(shsR Γ).1)).1 0=true
   ·rw[if_pos q]at h;exact absurd (Prod.mk.inj h).2 (by decide)
   ·rw[if_neg q]at h
    obtain⟨e1,e2⟩:=back_ok h
    rw[e1]at g3
    exact⟨conE_bk e2,.unpack k7 hq g1 g3⟩
  rw[if_neg k7]at h
  by_cases k8:T.kind=144
  ·rw[if_pos k8]at h
   obtain⟨tl,t0,t1,t2⟩:=term_xxx hterm k8
   unfold choiceR at h
   obtain⟨h1,h⟩:=Mc.lbnd_zero h
   obtain⟨a1,a2⟩:=ofAll_get h1
   generalize (ofAll T.kids K Γ).1=ts at *
   obtain⟨w0,g0⟩:=(ih _ (getD_mem (by omega))).1 t0 (hkz _ (by omega)) _ _ _ (a2 0 (by omega))
   obtain⟨w1,g1⟩:=(ih _ (getD_mem (by omega))).1 t1 (hkz _ (by omega)) _ _ _ (a2 1 (by omega))
   obtain⟨w2,g2⟩:=(ih _ (getD_mem (by omega))).1 t2 (hkz _ (by omega)) _ _ _ (a2 2 (by omega))
   have ww:=of_wf t0 (a2 0 (by omega))
   by_cases q:(ts.getD 0 .nil).kind=112∧sameF (ts.getD 1 .nil) (ts.getD 2 .nil)=true
   ·rw[if_pos q]at h
    rw[←(Prod.mk.inj h).1]
    rw[←(sameF_iff _ _).1 q.2]at g2
    rw[con_leaf ww.2 (.inr (.inl q.1)),q.1]at g0
    exact⟨w1,.choice k8 g0 g1 g2⟩
   ·rw[if_neg q]at h;exact absurd (Prod.mk.inj h).2 (by decide)
  rw[if_neg k8]at h
  by_cases k9:T.kind=145
  ·rw[if_pos k9]at h
   obtain⟨tl,t0,t1⟩:=term_xx hterm (.inr (.inr (.inr k9)))
   unfold opR at h
   obtain⟨h1,h⟩:=Mc.bnd_zero h
   obtain⟨h2,h⟩:=Mc.bnd_zero h
   obtain⟨w0,g0⟩:=(ih _ (getD_mem (by omega))).1 t0 (hkz _ (by omega)) _ _ _ h1
   obtain⟨w1,g1⟩:=(ih _ (getD_mem (by omega))).1 t1 (hkz _ (by omega)) _ _ _ h2
   have ww0:=of_wf t0 h1
   have ww1:=of_wf t1 h2
   generalize (ofF (T.kids.getD 0 .nil) K Γ).1=a at *
   generalize (ofF (T.kids.getD 1 .nil) K Γ).1=b at *
   by_cases q:a.kind=111∧b.kind=111
   ·rw[if_pos q]at h
    rw[con_leaf ww0.2 (.inl q.1),q.1]at g0
    rw[con_leaf ww1.2 (.inl q.2),q.2]at g1
    have g:=Hk.opr k9 g0 g1
    by_cases q3:T.n≤3
    ·rw[if_pos q3]at h g
     rw[←(Prod.mk.inj h).1]
     obtain⟨l1,l2⟩:=leaf 111 (by omega)
     rw[l2];exact⟨l1,g⟩
    ·rw[if_neg q3]at h g
     rw[←(Prod.mk.inj h).1]
     obtain⟨l1,l2⟩:=leaf 112 (by omega)
     rw[l2];exact⟨l1,g⟩
   ·rw[if_neg q]at h;exact absurd (Prod.mk.inj h).2 (by decide)
  rw[if_neg k9]at h
  by_cases k10:T.kind=146
  ·rw[if_pos k10]at h
   obtain⟨tl,t0,t1⟩:=term_cx hterm (.inr k10)
   unfold inR at h
   obtain⟨h1,h⟩:=Mc.bnd_zero h
   obtain⟨h2,h⟩:=Mc.bnd_zero h
   obtain⟨w1,g1⟩:=(ih _ (getD_mem (by omega))).1 t1 (hkz _ (by omega)) _ _ _ h2
   obtain⟨f1,f2,f3,f4,f5⟩:=Mc.tst_ok h1
   have hs:=tst_star h1
   have ws:=conE_wf f5
   have wn:=con_nm (conE_full f5).2
   have wb:=conE_bk f5
   generalize (ofF (T.kids.getD 1 .nil) K Γ).1=a at *
   generalize (tstR K (T.kids.getD 0 .nil)).1=s at *
   by_cases q:s.kind=121
   ·rw[if_pos q]at h
    cases hp:partF T.name s.kids with
    | none=>rw[hp]at h;exact absurd (Prod.mk.inj h).2 (by decide)
    | some p =>
     rw[hp]at h
     obtain⟨h4,h⟩:=Mc.bnd_zero h
     by_cases q3:sameF a (fillR p s).1=true
     ·rw[if_pos q3]at h
      rw[←(Prod.mk.inj h).1]
      obtain⟨r1,r2⟩:=fill_ok h4
      rw[←(sameF_iff _ _).1 q3]at r1
      obtain⟨p1,p2⟩:=ws.part (.inr q) hp
      have hF:=ws.FL (.inr q)
      rw[ifn]at hF
      have es:=toC_op ws.ne (show s.kind≠110 by omega)
      rw[q,wn]at es
      refine⟨wb,?_⟩
      rw[es]at f4 r1 ⊢
      exact .inj k10 hs f4 hF p1 (.conv g1 r1.symm)
     ·rw[if_neg q3]at h;exact absurd (Prod.mk.inj h).2 (by decide)
   ·rw[if_neg q]at h;exact absurd (Prod.mk.inj h).2 (by decide)
  rw[if_neg k10]at h
  have armsof:∀j,(T.kind=147∧j=1)∨(T.kind=148∧j=2)→∀i,i < (T.kids.drop j).length→∀Γ A,ofF (inn (kidT T (j+i))) K Γ=(A,0)→Bk A∧Hk K (Γ.map toC) (inn (kidT T (j+i))) (toC A):=fun j hj i hi Γ A hA=>by
   have hi':j+i < T.kids.length:=by simp at hi;omega
   have hf:tfieldF 149 (T.kids.getD (j+i) .nil)=true:=by
    rcases hj with⟨q,rfl⟩|⟨q,rfl⟩
    ·exact (term_xa hterm q).2.2 _ (mem_drop (by omega) hi')
    ·exact (term_xca hterm q).2.2.2 _ (mem_drop (by omega) hi')
   obtain⟨q1,q2,q3,q4,q5⟩:=tfield_parts hf
   have m0:=getD_mem (l:=(T.kids.getD (j+i) .nil).kids) (i:=0) (by omega)
   have s1:=sizesN_mem m0
   have s2:=sizeN_kids q1
   have s3:=hkz _ hi'
   exact (ih _ (getD_mem hi')).2 _ m0 q5 (by omega) _ _ _ hA
  by_cases k11:T.kind=147
  ·rw[if_pos k11]at h
   obtain⟨tl,t0,t1⟩:=term_xa hterm k11
   unfold caseR at h
   obtain⟨h1,h⟩:=Mc.bnd_zero h
   obtain⟨h2,h⟩:=Mc.lbnd_zero h
   obtain⟨h1,q1⟩:=Mc.as_ok h1
   obtain⟨w0,g0⟩:=(ih _ (getD_mem (by omega))).1 t0 (hkz _ (by omega)) _ _ _ h1
   have ww:=of_wf t0 h1
   generalize (asR (ofF (T.kids.getD 0 .nil) K Γ) 121).1=s at *
   unfold armR at h2 h
   by_cases q:s.kids.map Tree.name=(T.kids.drop 1).map Tree.name
   ·rw[if_pos q]at h2 h
    obtain⟨e1,e2⟩:=alike_get h
    rw[←e1]at e2
    obtain⟨m1,m2,m3,X,m4,m5⟩:=arms_hk ww.1 q1 q h2 e2 (armsof 1 (.inl ⟨k11,rfl⟩))
    have es:=toC_op ww.1.ne (show s.kind≠110 by omega)
    rw[q1,con_nm ww.2]at es
    have hF:=ww.1.FL (.inr q1)
    rw[ifn]at hF
    rw[es]at g0 m4
    have hlen:=(arms_get h2).1
    refine⟨?_,.cse k11 hF g0 m1 m2 X m4 m5⟩
    have hpos:0 < (armsF (T.kids.drop 1) s.kids s K Γ).1.length:=by rw[hlen];simp;omega
    have:=m3 _ (getD_mem hpos)
    rw[e1];exact this
   ·rw[if_neg q]at h2;exact absurd (Prod.mk.inj h2).2 (by decide)
  rw[if_neg k11]at h
  have hkind:=hh.kind
  have k12:T.kind=148:=by omega
  obtain⟨tl,t0,t1,t2⟩:=term_xca hterm k12
  unfold foldR at h
  obtain⟨h1,h⟩:=Mc.bnd_zero h
  obtain⟨h3,h⟩:=Mc.bnd_zero h
  obtain⟨h2,h⟩:=Mc.lbnd_zero h
  obtain⟨h1,q1⟩:=Mc.as_ok h1
  obtain⟨w0,g0⟩:=(ih _ (getD_mem (by omega))).1 t0 (hkz _ (by omega)) _ _ _ h1
  have ww:=of_wf t0 h1
  obtain⟨_,_,_,f4,f5⟩:=Mc.tst_ok h3
  have hs:=tst_star h3
  have wt:=conE_bk f5
  generalize (asR (ofF (T.kids.getD 0 .nil) K Γ) 121).1=s at *
  generalize (tstR K (T.kids.getD 1 .nil)).1=t at *
  unfold armR at h2 h
  by_cases q:s.kids.map Tree.name=(T.kids.drop 2).map Tree.name
  ·rw[if_pos q]at h2 h
   obtain⟨e1,e2⟩:=alike_get h
   subst e1
   obtain⟨m1,m2,m3,X,m4,m5⟩:=arms_hk ww.1 q1 q h2 e2 (armsof 2 (.inr ⟨k12,rfl⟩))
   have es:=toC_op ww.1.ne (show s.kind≠110 by omega)
   rw[q1,con_nm ww.2]at es
   have hF:=ww.1.FL (.inr q1)
   rw[ifn]at hF
   rw[es]at g0
   exact⟨wt,.fold k12 hF g0 hs f4 m1 m2 X m4 m5⟩
  ·rw[if_neg q]at h2;exact absurd (Prod.mk.inj h2).2 (by decide)
def gap (d M:Nat):Nat→Nat:=fun n=>if n < d then n else n+M
theorem upr_gap (d M:Nat):∀n,upr (gap d M) n=gap (d+1) M n
 | 0=>by unfold gap;rw[ifp];rfl
 | n+1=>by
  show gap d M n+1=_
  unfold gap
  by_cases h:n < d
  ·rw[if_pos h,ifp]
  ·rw[if_neg h,ifn];omega
theorem uprN_gap (d M k:Nat)(hk:k=0∨k=1)(n:Nat):uprN k (gap d M) n=gap (d+k) M n:=by
 rcases hk with rfl|rfl
 ·rfl
 ·exact upr_gap d M n
theorem sc_some (c:Cn):∃M,Sc M c:=by
 induction c using Cn.ind with
 | hv n=>exact⟨n+1,fun s s' h=>by rw[sub_var,sub_var];exact h n (by omega)⟩
 | ho k nm l ih =>
  have:∃M,∀x∈l,Sc M x:=by
   induction l with
   | nil=>exact⟨0,fun x hx=>by cases hx⟩
   | cons a l ih2 =>
    obtain⟨M1,h1⟩:=ih a (by simp)
    obtain⟨M2,h2⟩:=ih2 fun x hx=>ih x (by simp[hx])
    refine⟨M1+M2,fun x hx=>?_⟩
    rcases List.mem_cons.1 hx with rfl|hx
    ·exact h1.mono (by omega)
    ·exact (h2 x hx).mono (by omega)
  obtain⟨M,h⟩:=this
  exact⟨M,.of fun i hi=>(h _ (List.getElem_mem hi)).mono (by omega)⟩
theorem sc_gap {d:Nat}{x:Cn}(h:∀M,∃y,x=ren (gap d M) y):Sc d x:=by
 intro s s' hs
 obtain⟨M,hM⟩:=sc_some x
 obtain⟨y,hy⟩:=h M
 have e1:sub s x=sub (fun n=>if n < M then s n else s' n) x:=hM _ _ fun n hn=>by show s n=if n < M then s n else s' n;rw[if_pos hn]
 rw[e1,hy,sub_ren,sub_ren]
 refine sub_ext y fun n=>?_
 show (if gap d M n < M then s (gap d M n) else s' (gap d M n))=s' (gap d M n)
 by_cases q:gap d M n < M
 ·rw[if_pos q]
  unfold gap at q ⊢
  by_cases c:n < d
  ·rw[if_pos c];exact hs n c
  ·rw[if_neg c]at q;omega
 ·rw[if_neg q]
theorem Sc.gap {d:Nat}{x:Cn}(h:Sc d x)(M:Nat):ren (gap d M) x=x:=by
 rw[ren_as_sub]
 conv=>rhs;rw[←sub_id x]
 exact h _ _ fun n hn=>by unfold Sn.gap;rw[if_pos hn]
theorem sc_par {d:Nat}{c x:Cn}(h:Sc d c)(hp:Par c x):Sc d x:=sc_gap fun M=>by
 rw[←Sc.gap h M]at hp
 obtain⟨y,hy,_⟩:=par_ren_inv c _ _ hp
 exact⟨y,hy⟩
theorem sc_red {d:Nat}{c x:Cn}(h:Sc d c)(hr:Red c x):Sc d x:=by
 induction hr with
 | refl=>exact h
 | step hp _ ih=>exact ih (sc_par h hp)
theorem sc_kids {d:Nat}{k:Int}{nm:ByteArray}{l:List Cn}(h:Sc d (.op k nm l)):∀x∈l,Sc (d+bd k) x:=fun x hx=>sc_gap fun M=>by
 have:=Sc.gap h M
 rw[ren_op]at this
 simp only[Cn.op.injEq,true_and]at this
 obtain⟨i,hi,rfl⟩:=List.getElem_of_mem hx
 have h2:(l.map (ren (uprN (bd k) (Sn.gap d M))))[i]?=l[i]?:=by rw[this]
 rw[List.getElem?_map,List.getElem?_eq_getElem hi]at h2
 have h2:ren (uprN (bd k) (Sn.gap d M)) l[i]=l[i]:=by simpa using h2
 rw[ren_ext _ (uprN_gap d M (bd k) (bd_one k))]at h2
 exact⟨l[i],h2.symm⟩
theorem sc_shift {d:Nat}{c:Cn}(h:Sc d c):Sc (d+1) (ren Nat.succ c):=fun s s' hs=>by
 rw[sub_ren,sub_ren]
 exact h _ _ fun n hn=>hs (n+1) (by omega)
theorem sc_back {d:Nat}{c:Cn}(h:Sc (d+1) (ren Nat.succ c)):Sc d c:=fun s s' hs=>by
 have:=h (fun n=>match n with|0=>.var 0|n+1=>s n) (fun n=>match n with|0=>.var 0|n+1=>s' n) fun n hn=>by
  cases n with
  | zero=>rfl
  | succ n=>exact hs n (by omega)
 rw[sub_ren,sub_ren]at this
 exact this
theorem sc_inst {d:Nat}{b a:Cn}(hb:Sc (d+1) b)(ha:Sc d a):Sc d (inst b a):=fun s s' hs=>by
 rw[sub_inst,sub_inst,ha s s' hs]
 congr 1
 exact hb _ _ fun n hn=>by
  cases n with
  | zero=>rfl
  | succ n=>show ren _ (s n)=ren _ (s' n);rw[hs n (by omega)]
theorem vmaps_some {f:Int→Int→Option Int}{d:Int}:∀{l:List Tree},(∀x∈l,∃y,vmap f x d=some y)→∃l',vmaps f l d=some l'
 | [],_=>⟨[],rfl⟩
 | x::l,h=>by
  obtain⟨y,hy⟩:=h x (by simp)
  obtain⟨l',hl⟩:=vmaps_some (l:=l) fun z hz=>h z (by simp[hz])
  exact⟨y::l',by rw[vmaps,hy,hl];rfl⟩
theorem vmap_op {f:Int→Int→Option Int}{T:Tree}{d:Int}(hT:T≠.nil)(hk:T.kind≠110)(h:∀x∈T.kids,∃y,vmap f x (d+bindsF T)=some y):∃y,vmap f T d=some y:=by
 obtain⟨l',hl⟩:=vmaps_some h
 cases T with
 | nil=>exact absurd rfl hT
 | node k n nm mk l =>
  refine⟨.node k n nm mk l',?_⟩
  have hl:vmaps f l (d+bindsF (.node k n nm mk l))=some l':=hl
  have hk:k≠110:=hk
  rw[vmap,if_neg hk,hl];rfl
theorem kind_vmap (f:Int→Int→Option Int)(K:Tree):isKindF K=true→∀d:Int,∃y,vmap f K d=some y:=by
 induction K using Tree.ind' with
 | h0=>intro h;rw[isKindF]at h;cases h
 | h1 T hT ih =>
  intro h d
  have hk:=(kind_lo h).2
  refine vmap_op hT (by omega) fun x hx=>?_
  rw[isKindF_eq hT]at h
  by_cases c1:T.kind=100
  ·rw[if_pos c1,Bool.and_eq_true,beq_iff_eq]at h
   have:T.kids=[]:=List.length_eq_zero_iff.1 (by omega)
   rw[this]at hx;cases hx
  rw[if_neg c1,ifp]at h
  simp only[Bool.and_eq_true,beq_iff_eq]at h
  rcases mem_two (by omega:T.kids.length=2) hx with e|e
  ·exact ih x hx (by rw[e];exact h.1.2) _
  ·exact ih x hx (by rw[e];exact h.2) _
theorem hits_kids {j:Int}{T:Tree}{d:Int}(hT:T≠.nil)(hw : -9223372036854775808≤d+bindsF T∧d+bindsF T < 9223372036854775808)(h:hitsN j T d=0):∀x∈T.kids,hitsN j x (d+bindsF T)=0:=by
 cases T with
 | nil=>exact absurd rfl hT
 | node k n nm mk l =>
  rw[hitsN,wrap64 hw.1 hw.2]at h
  have h2:hitssN j l (d+bindsF (.node k n nm mk l))=0:=by omega
  exact fun x hx=>hitss_zero h2 x hx
theorem con_nokid {T x:Tree}(h:isConF T=true)(hk:T.kind=111∨T.kind=112∨T.kind=113)(hx:x∈T.kids):False:=by
 have hT:=(con_kd h).1
 rw[isConF_eq hT,Bool.and_eq_true,ifn,if_pos hk]at h
 have hl:T.kids=[]:=List.length_eq_zero_iff.1 (by simpa using h.2)
 rw[hl]at hx;cases hx
theorem vmap_some {f:Int→Int→Option Int}(S:Int→Prop)(hf:∀n d:Int,0≤n→n≤65536→0≤d→2*d≤65536→(∀j,S j→d≤n→n - d≠j)→∃n',f n d=some n')(T:Tree) :
  (isConF T=true→∀d:Int,0≤d→2*d+sizeN T≤65537→(∀j,S j→hitsN j T d=0)→∃y,vmap f T d=some y)∧∀x∈T.kids,isConF x=true→∀d:Int,0≤d→2*d+sizeN x≤65537→(∀j,S j→hitsN j x d=0)→∃y,vmap f x d=some y:=by
 induction T using Tree.ind' with
 | h0=>exact⟨fun h=>by (rw[isConF]at h;cases h),fun x hx=>by cases hx⟩
 | h1 T hT ih =>
  refine⟨fun hc d h0 hz hh=>?_,fun x hx=>(ih x hx).1⟩
  have hs:=sizeN_kids hT
  have hbd:=bindsF_b T
  by_cases hk:T.kind=110
  ·have hv:=Ki.con_var hT hc hk
   obtain⟨n',hn⟩:=hf T.n d hv.1 hv.2 h0 (by omega) fun j hj hd e=>by
    have:=hh j hj
    cases T with
    | nil=>exact absurd rfl hT
    | node k n nm mk l =>
     have e:n - d=j:=e
     have hv:0≤n∧n≤65536:=hv
     have hd:d≤n:=hd
     have hk:k=110:=hk
     rw[hitsN,if_pos ⟨hk,hd,by rw[wrap64 (by omega) (by omega)];exact e⟩]at this
     omega
   cases T with
   | nil=>exact absurd rfl hT
   | node k n nm mk l =>
    refine⟨.node 110 n' nm mk l,?_⟩
    have hn:f n d=some n':=hn
    have hk:k=110:=hk
    rw[vmap,if_pos hk,hn];rfl
  have hkids:∀j,S j→∀x∈T.kids,hitsN j x (d+bindsF T)=0:=fun j hj=>hits_kids hT ⟨by omega,by omega⟩ (hh j hj)
  refine vmap_op hT hk fun x hx=>?_
  have s1:=sizesN_mem hx
  have flds:∀kind:Int,kind=116∨kind=122→fieldF kind x=true→2*(d+bindsF T)+sizeN x≤65538→∃y,vmap f x (d+bindsF T)=some y:=fun kind hkd hf2 hz2=>by
   obtain⟨e1,e2,e3,e4⟩:=Cn.field_toC (by omega) hf2
   have hkx:=Ki.field_kind hf2
   have hb0:bindsF x=0:=Ki.binds_zero (by omega) (by omega) (by omega) (by omega)
   have s2:=sizeN_kids e3
   refine vmap_op e3 (by omega) fun y hy=>?_
   have ey:=mem_one e4 hy
   have s3:=sizesN_mem hy
   rw[hb0,Int.add_zero]
   refine (ih x hx).2 y hy (by rw[ey];exact e2) _ (by omega) (by omega) fun j hj=>?_
   have:=hits_kids e3 ⟨by omega,by omega⟩ (hkids j hj x hx) y hy
   rw[hb0,Int.add_zero]at this
   exact this
  have binder:T.kind=117∨T.kind=118∨T.kind=119→∃y,vmap f x (d+bindsF T)=some y:=fun c=>by
   obtain⟨h1,h2,h3⟩:=Ki.con_bind hT hc c
   have hb1:bindsF T=1:=Ki.binds_one (by omega)
   have m0:=getD_mem (l:=T.kids) (i:=0) (by omega)
   have m1:=getD_mem (l:=T.kids) (i:=1) (by omega)
   rcases mem_two h1 hx with e|e
   ·rw[e];exact kind_vmap f _ h2 _
   ·have hz0:=size_pos (Ki.kind_ne h2)
    have e2:sizesN T.kids=sizeN (T.kids.getD 0 .nil)+(sizeN (T.kids.getD 1 .nil)+0):=by
     conv=>lhs;rw[two_of h1]
     rfl
    rw[e]
    exact (ih _ m1).1 h3 _ (by omega) (by omega) fun j hj=>hkids j hj _ m1
  rcases Ki.con_kids hT hc with c|c|c|c|c|c|c|c|c|c|c
  ·exact absurd c hk
  ·exfalso;exact con_nokid hc (.inl c) hx
  ·exfalso;exact con_nokid hc (.inr (.inl c)) hx
  ·exfalso;exact con_nokid hc (.inr (.inr c)) hx
  ·obtain⟨h1,h2,h3⟩:=Ki.con_two hT hc (.inl c)
   have hb0:bindsF T=0:=Ki.binds_zero (by omega) (by omega) (by omega) (by omega)
   refine (ih x hx).1 ?_ _ (by omega) (by omega) fun j hj=>hkids j hj x hx
   rcases mem_two h1 hx with e|e<;>rw[e]
   ·exact h2
   ·exact h3
  ·have hb0:bindsF T=0:=Ki.binds_zero (by omega) (by omega) (by omega) (by omega)
   exact flds 116 (.inl rfl) (Cn.rec_fl hT hc c x hx) (by omega)
  ·exact binder (.inl c)
  ·exact binder (.inr (.inl c))
  ·exact binder (.inr (.inr c))
  ·obtain⟨h1,h2,h3⟩:=Ki.con_two hT hc (.inr c)
   have hb0:bindsF T=0:=Ki.binds_zero (by omega) (by omega) (by omega) (by omega)
   refine (ih x hx).1 ?_ _ (by omega) (by omega) fun j hj=>hkids j hj x hx
   rcases mem_two h1 hx with e|e<;>rw[e]
   ·exact h2
   ·exact h3
  ·have hb1:bindsF T=1:=Ki.binds_one (by omega)
   exact flds 122 (.inr rfl) (Cn.sum_fl hT hc c x hx) (by omega)
structure Rc (x y:Tree):Prop where
 con:isConF x=true→isConF y=true
 kind:isKindF x=true→isKindF y=true
 fld:∀k,k=116∨k=122→fieldF k x=true→fieldF k y=true∧y.name=x.name
theorem Rc.refl (x:Tree):Rc x x:=⟨id,id,fun _ _ h=>⟨h,rfl⟩⟩
theorem fields_map {k:Int}(hk:k=116∨k=122):∀{l l':List Tree},l'.length=l.length→(∀i,i < l.length→Rc (l.getD i .nil) (l'.getD i .nil))→fieldsF k l=true→fieldsF k l'=true∧l'.map Tree.name=l.map Tree.name
 | [],[],_,_,_=>⟨rfl,rfl⟩
 | [],_::_,h,_,_=>by simp at h
 | _::_,[],h,_,_=>by simp at h
 | x::l,y::l',h,hr,hf=>by
  rw[fieldsF,Bool.and_eq_true]at hf
  have h0:Rc x y:=hr 0 (by simp)
  obtain⟨a1,a2⟩:=fields_map hk (l:=l) (l':=l') (by simpa using h) (fun i hi=>by have:=hr (i+1) (by simpa using hi);simpa using this) hf.2
  obtain⟨b1,b2⟩:=h0.fld k hk hf.1
  exact⟨by rw[fieldsF,a1,b1];rfl,by simp[a2,b2]⟩
theorem con_map {T:Tree}{l':List Tree}(hT:T≠.nil)(hl:l'.length=T.kids.length)(hr:∀i,i < T.kids.length→Rc (T.kids.getD i .nil) (l'.getD i .nil))(h:isConF T=true):isConF (.node T.kind T.n T.name T.mark l')=true:=by
 rw[isConF_eq hT,Bool.and_eq_true]at h
 obtain⟨hb,h⟩:=h
 have hb':bareF (.node T.kind T.n T.name T.mark l') false (T.kind == 110)=true:=hb
 rw[isConF_eq (by simp),Bool.and_eq_true]
 refine⟨hb',?_⟩
 show (if T.kind=110 then decide (0≤T.n) && decide (T.n≤65536) && ((l'.length:Int) == 0)
    else if T.kind=111∨T.kind=112∨T.kind=113 then (l'.length:Int) == 0
    else if T.kind=114∨T.kind=120 then ((l'.length:Int) == 2) && isConF (l'.getD 0 .nil) && isConF (l'.getD 1 .nil)
    else if T.kind=115 then fieldsF 116 l' && risingF l'
    else if T.kind=117∨T.kind=118∨T.kind=119 then ((l'.length:Int) == 2) && isKindF (l'.getD 0 .nil) && isConF (l'.getD 1 .nil)
    else if T.kind=121 then decide (0 < (l'.length:Int)) && fieldsF 122 l' && unlikeF [] l'
    else false)=true
 rw[hl]
 by_cases k0:T.kind=110
 ·rw[if_pos k0]at h ⊢;exact h
 rw[if_neg k0]at h ⊢
 by_cases k1:T.kind=111∨T.kind=112∨T.kind=113
 ·rw[if_pos k1]at h ⊢;exact h
 rw[if_neg k1]at h ⊢
 by_cases k2:T.kind=114∨T.kind=120
 ·rw[if_pos k2]at h ⊢
  simp only[Bool.and_eq_true,beq_iff_eq]at h ⊢
  exact⟨⟨h.1.1,(hr 0 (by omega)).con h.1.2⟩,(hr 1 (by omega)).con h.2⟩
 rw[if_neg k2]at h ⊢
 by_cases k3:T.kind=115
 ·rw[if_pos k3]at h ⊢
  rw[Bool.and_eq_true]at h ⊢
  obtain⟨f1,f2⟩:=fields_map (.inl rfl) hl hr h.1
  exact⟨f1,by rw[risingF_names f2];exact h.2⟩
 rw[if_neg k3]at h ⊢
 by_cases k4:T.kind=117∨T.kind=118∨T.kind=119
 ·rw[if_pos k4]at h ⊢
  simp only[Bool.and_eq_true,beq_iff_eq]at h ⊢
  exact⟨⟨h.1.1,(hr 0 (by omega)).kind h.1.2⟩,(hr 1 (by omega)).con h.2⟩
 rw[if_neg k4]at h ⊢
 by_cases k5:T.kind=121
 ·rw[if_pos k5]at h ⊢
  simp only[Bool.and_eq_true,decide_eq_true_eq]at h ⊢
  obtain⟨f1,f2⟩:=fields_map (.inr rfl) hl hr h.1.2
  exact⟨⟨h.1.1,f1⟩,by rw[unlikeF_names _ f2];exact h.2⟩
 ·rw[if_neg k5]at h;cases h
theorem kind_map {T:Tree}{l':List Tree}(hT:T≠.nil)(hl:l'.length=T.kids.length)(hr:∀i,i < T.kids.length→Rc (T.kids.getD i .nil) (l'.getD i .nil))(h:isKindF T=true):isKindF (.node T.kind T.n T.name T.mark l')=true:=by
 rw[isKindF_eq hT]at h
 rw[isKindF_eq (by simp)]
 show (if T.kind=100 then bareF T false false && ((l'.length:Int) == 0) else if T.kind=101 then bareF T false false && ((l'.length:Int) == 2) && isKindF (l'.getD 0 .nil) && isKindF (l'.getD 1 .nil) else false)=true
 rw[hl]
 by_cases k0:T.kind=100
 ·rw[if_pos k0]at h ⊢;exact h
 rw[if_neg k0]at h ⊢
 by_cases k1:T.kind=101
 ·rw[if_pos k1]at h ⊢
  simp only[Bool.and_eq_true,beq_iff_eq]at h ⊢
  exact⟨⟨h.1.1,(hr 0 (by omega)).kind h.1.2⟩,(hr 1 (by omega)).kind h.2⟩
 ·rw[if_neg k1]at h;cases h
theorem fld_map {T:Tree}{l':List Tree}(hT:T≠.nil)(hl:l'.length=T.kids.length)(hr:∀i,i < T.kids.length→Rc (T.kids.getD i .nil) (l'.getD i .nil)){k:Int}(h:fieldF k T=true):fieldF k (.node T.kind T.n T.name T.mark l')=true:=by
 rw[fieldF_eq hT]at h
 rw[fieldF_eq (by simp)]
 simp only[Bool.and_eq_true,beq_iff_eq]at h
 have hb':bareF (.node T.kind T.n T.name T.mark l') true false=true:=h.1.1.1.2
 simp only[Bool.and_eq_true,beq_iff_eq]
 refine⟨⟨⟨⟨h.1.1.1.1,hb'⟩,h.1.1.2⟩,?_⟩,(hr 0 (by omega)).con h.2⟩
 show (l'.length:Int)=1
 rw[hl];exact h.1.2
theorem step_rc (T:Tree):∀m,No.stepF T=some (m,0)→Rc T m:=by
 induction T using Tree.ind' with
 | h0=>intro m h;cases h
 | h1 T hT ih =>
  intro m h
  rw[No.stepF_eq hT]at h
  by_cases hr:No.redexF T
  ·rw[if_pos hr]at h
   have h:=Option.some.inj h
   unfold No.redR at h
   have hE:=subst_conE h
   refine⟨fun _=>(conE_full hE).2,fun hk=>?_,fun k hk hf=>?_⟩
   ·have:=(kind_lo hk).2;have:=hr.1;omega
   ·have:=Ki.field_kind hf;have:=hr.1;omega
  ·rw[if_neg hr]at h
   cases hs:No.stepsF T.kids with
   | none=>rw[hs]at h;cases h
   | some p =>
    obtain⟨l',e⟩:=p
    rw[hs]at h
    have h:=Option.some.inj h
    obtain⟨rfl,rfl⟩:=Prod.mk.inj h
    obtain⟨i,x',hi,hx,rfl⟩:=Ki.steps_get hs
    have hl:(T.kids.set i x').length=T.kids.length:=by simp
    have hrr:∀j,j < T.kids.length→Rc (T.kids.getD j .nil) ((T.kids.set i x').getD j .nil):=fun j hj=>by
     rw[Ki.set_get]
     by_cases hij:i=j
     ·subst hij
      rw[if_pos ⟨rfl,hj⟩]
      exact ih _ (getD_mem hj) _ hx
     ·rw[if_neg (fun q=>hij q.1)];exact .refl _
    exact⟨con_map hT hl hrr,kind_map hT hl hrr,fun k _ hf=>⟨fld_map hT hl hrr hf,rfl⟩⟩
theorem step_err (T:Tree):No.Ap T→(isConF T=true∨isKindF T=true∨∃k,(k=116∨k=122)∧fieldF k T=true)→sizeN T≤65536→∀m e,No.stepF T=some (m,e)→e=0∨e=3:=by
 induction T using Tree.ind' with
 | h0=>intro _ _ _ m e h;cases h
 | h1 T hT ih =>
  intro hA hc hz m e h
  have hsz:=sizeN_kids hT
  rw[No.stepF_eq hT]at h
  by_cases hr:No.redexF T
  ·rw[if_pos hr]at h
   have h:=Option.some.inj h
   unfold No.redR at h
   have hcon:isConF T=true:=by
    rcases hc with h|h|⟨k,hk,h⟩
    ·exact h
    ·have:=(kind_lo h).2;have:=hr.1;omega
    ·have:=Ki.field_kind h;have:=hr.1;omega
   obtain⟨h1,h2,h3⟩:=Ki.con_two hT hcon (.inr hr.1)
   have m0:=getD_mem (l:=T.kids) (i:=0) (by omega)
   have m1:=getD_mem (l:=T.kids) (i:=1) (by omega)
   obtain⟨g1,g2,g3⟩:=Ki.con_bind (con_kd h2).1 h2 (.inr (.inr hr.2))
   have s0:=sizesN_mem m0
   have s1:=sizesN_mem m1
   have s2:=sizeN_kids (con_kd h2).1
   have s3:=sizesN_mem (getD_mem (l:=(T.kids.getD 0 .nil).kids) (i:=1) (by omega))
   have:=substR_three (conE_of g3 (by omega)) (conE_of h3 (by omega))
   rw[h]at this
   exact this
  ·rw[if_neg hr]at h
   cases hs:No.stepsF T.kids with
   | none=>rw[hs]at h;cases h
   | some p =>
    obtain⟨l',e'⟩:=p
    rw[hs]at h
    have h:=Option.some.inj h
    obtain⟨_,rfl⟩:=Prod.mk.inj h
    obtain⟨i,x',hi,hx,_⟩:=Ki.steps_get hs
    have hm:=getD_mem hi
    have s1:=sizesN_mem hm
    refine ih _ hm (hA.k _ hm) ?_ (by omega) _ _ hx
    rcases hc with h|h|⟨k,hk,h⟩
    ·rcases Ki.con_kids hT h with c|c|c|c|c|c|c|c|c|c|c
     ·exfalso
      have:=isConF_plain T h
      cases T with
      | nil=>exact absurd rfl hT
      | node k n nm mk l =>
       have:=(this.inv.2.1 c).2.1
       subst this
       simp[Tree.kids]at hi
     ·exfalso;exact con_nokid h (.inl c) hm
     ·exfalso;exact con_nokid h (.inr (.inl c)) hm
     ·exfalso;exact con_nokid h (.inr (.inr c)) hm
     ·obtain⟨h1,h2,h3⟩:=Ki.con_two hT h (.inl c)
      left
      rcases mem_two h1 hm with e|e<;>rw[e]
      ·exact h2
      ·exact h3
     ·exact .inr (.inr ⟨116,.inl rfl,Cn.rec_fl hT h c _ hm⟩)
     ·obtain⟨h1,h2,h3⟩:=Ki.con_bind hT h (.inl c)
      rcases mem_two h1 hm with e|e<;>rw[e]
      ·exact .inr (.inl h2)
      ·exact .inl h3
     ·obtain⟨h1,h2,h3⟩:=Ki.con_bind hT h (.inr (.inl c))
      rcases mem_two h1 hm with e|e<;>rw[e]
      ·exact .inr (.inl h2)
      ·exact .inl h3
     ·obtain⟨h1,h2,h3⟩:=Ki.con_bind hT h (.inr (.inr c))
      rcases mem_two h1 hm with e|e<;>rw[e]
      ·exact .inr (.inl h2)
      ·exact .inl h3
     ·obtain⟨h1,h2,h3⟩:=Ki.con_two hT h (.inr c)
      left
      rcases mem_two h1 hm with e|e<;>rw[e]
      ·exact h2
      ·exact h3
     ·exact .inr (.inr ⟨122,.inr rfl,Cn.sum_fl hT h c _ hm⟩)
    ·right;left
     rw[isKindF_eq hT]at h
     by_cases c1:T.kind=100
     ·rw[if_pos c1,Bool.and_eq_true,beq_iff_eq]at h
      omega
     rw[if_neg c1,if_pos (by have:=(kind_lo (by rw[isKindF_eq hT,if_neg c1];exact h)).2;omega)]at h
     simp only[Bool.and_eq_true,beq_iff_eq]at h
     rcases mem_two (by omega:T.kids.length=2) hm with e|e<;>rw[e]
     ·exact h.1.2
     ·exact h.2
    ·left
     obtain⟨_,e2,e3,e4⟩:=Cn.field_toC (by omega) h
     rw[mem_one e4 hm];exact e2
theorem conE_or {T:Tree}(h:isConF T=true):conE T=0∨conE T=3:=No.conE_con h (isConF_plain T h).full
theorem norm_err:∀(k:Nat) (T:Tree),isConF T=true→(No.normF k T).2=0∨(No.normF k T).2=3∨(No.normF k T).2=18:=by
 have key:∀T:Tree,isConF T=true→((No.nstepR T).2.2=0∨(No.nstepR T).2.2=3)∧((No.nstepR T).2.2=0→(No.nstepR T).2.1=true→isConF (No.nstepR T).1=true):=fun T hc=>by
  unfold No.nstepR
  by_cases hE:conE T=0
  ·rw[ifn]
   cases hs:No.stepF T with
   | none=>exact⟨.inl rfl,fun _ h=>by cases h⟩
   | some p =>
    obtain⟨m,e⟩:=p
    have he:=step_err T (No.con_Ap T hc) (.inl hc) (by have:=conE_size hE;omega) m e hs
    unfold No.outF
    dsimp only
    by_cases q:e=0
    ·rw[if_pos q]
     subst q
     exact⟨.inl rfl,fun _ _=>(step_rc T m hs).con hc⟩
    ·rw[if_neg q]
     exact⟨.inr (by show e=3;omega),fun _ h=>by cases h⟩
  ·rw[if_pos hE]
   exact⟨.inr (by have:=conE_or hc;show conE T=3;omega),fun _ h=>by cases h⟩
 intro k
 induction k with
 | zero =>
  intro T hc
  obtain⟨h1,h2⟩:=key T hc
  rw[No.normF]
  by_cases q:(No.nstepR T).2.2=0
  ·rw[ifn]
   split
   ·exact .inr (.inr rfl)
   ·exact .inl rfl
  ·rw[if_pos q];exact .inr (.inl (by show (No.nstepR T).2.2=3;omega))
 | succ k ih =>
  intro T hc
  obtain⟨h1,h2⟩:=key T hc
  rw[No.normF]
  by_cases q:(No.nstepR T).2.2=0
  ·rw[ifn]
   by_cases q2:(No.nstepR T).2.1=true
   ·rw[if_pos q2];exact ih _ (h2 q q2)
   ·rw[if_neg q2];exact .inl rfl
  ·rw[if_pos q];exact .inr (.inl (by show (No.nstepR T).2.2=3;omega))
end Sn
end Go.Proofs.YtlgajkoplklkiaaGreat
