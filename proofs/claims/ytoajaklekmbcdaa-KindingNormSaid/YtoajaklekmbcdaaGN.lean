/- What functions of the program compute, and plain facts about it. -/
import Derived.Test.YtoajaklekmbcdaaGK
import Derived.Test.YtoajaklekmbcdaaGE
set_option linter.all false
namespace Go.Proofs.Ytoajaklekmbcdaa
namespace Ki
open Go Go.Mq
set_option linter.all false

/-! A constructor's kind, whether its sums fit or not -/
mutual
def kindG (ctx : List Tree) (t : Tree) : Tree × Int := match t with
  | .nil => (.nil, 0)
  | .node k n nm mk l =>
    if k = 110 then (if (ctx.length : Int) ≤ n then (.nil, 8) else (ctx.getD n.toNat .nil, 0))
    else if k = 114 then starR (gstarsE ctx l)
    else if k = 115 then starR (gstarsIn ctx l)
    else if k = 117 ∨ k = 118 then starR (mustE (gAt (l.getD 0 .nil :: ctx) 1 l))
    else if k = 119 then (if (gAt (l.getD 0 .nil :: ctx) 1 l).2 ≠ 0 then (.nil, (gAt (l.getD 0 .nil :: ctx) 1 l).2) else (karrT (l.getD 0 .nil) (gAt (l.getD 0 .nil :: ctx) 1 l).1, 0))
    else if k = 120 then appR (gAt ctx 0 l) (gAt ctx 1 l)
    else if k = 121 then starR (gstarsIn (starT :: ctx) l)
    else (starT, 0)
termination_by structural t
def gAt (ctx : List Tree) (i : Nat) (t : List Tree) : Tree × Int := match t with
  | [] => (.nil, 0)
  | x :: l => match i with
    | 0 => kindG ctx x
    | i + 1 => gAt ctx i l
termination_by structural t
def gstarsE (ctx : List Tree) (t : List Tree) : Int := match t with
  | [] => 0
  | x :: l => if mustE (kindG ctx x) ≠ 0 then mustE (kindG ctx x) else gstarsE ctx l
termination_by structural t
def gstarsIn (ctx : List Tree) (t : List Tree) : Int := match t with
  | [] => 0
  | x :: l => if gstarIn ctx x ≠ 0 then gstarIn ctx x else gstarsIn ctx l
termination_by structural t
def gstarIn (ctx : List Tree) (t : Tree) : Int := match t with
  | .nil => 0
  | .node _ _ _ _ l => mustE (gAt ctx 0 l)
termination_by structural t
end
theorem gAt_eq (ctx : List Tree) : ∀ (l : List Tree) (i : Nat), gAt ctx i l = kindG ctx (l.getD i .nil)
  | [], i => by rw [gAt]; simp [kindG]
  | x :: l, 0 => by rw [gAt]; rfl
  | x :: l, i + 1 => by rw [gAt]; exact gAt_eq ctx l i
theorem gstarIn_eq (ctx : List Tree) {T : Tree} (h : T ≠ .nil) : gstarIn ctx T = mustE (kindG ctx (T.kids.getD 0 .nil)) := by
  cases T with
  | nil => exact absurd rfl h
  | node => rw [gstarIn, gAt_eq]; rfl
theorem kindG_eq (ctx : List Tree) {T : Tree} (h : T ≠ .nil) : kindG ctx T =
    if T.kind = 110 then (if (ctx.length : Int) ≤ T.n then (.nil, 8) else (ctx.getD T.n.toNat .nil, 0))
    else if T.kind = 114 then starR (gstarsE ctx T.kids)
    else if T.kind = 115 then starR (gstarsIn ctx T.kids)
    else if T.kind = 117 ∨ T.kind = 118 then starR (mustE (kindG (T.kids.getD 0 .nil :: ctx) (T.kids.getD 1 .nil)))
    else if T.kind = 119 then (if (kindG (T.kids.getD 0 .nil :: ctx) (T.kids.getD 1 .nil)).2 ≠ 0 then (.nil, (kindG (T.kids.getD 0 .nil :: ctx) (T.kids.getD 1 .nil)).2) else (karrT (T.kids.getD 0 .nil) (kindG (T.kids.getD 0 .nil :: ctx) (T.kids.getD 1 .nil)).1, 0))
    else if T.kind = 120 then appR (kindG ctx (T.kids.getD 0 .nil)) (kindG ctx (T.kids.getD 1 .nil))
    else if T.kind = 121 then starR (gstarsIn (starT :: ctx) T.kids)
    else (starT, 0) := by
  cases T with
  | nil => exact absurd rfl h
  | node k n nm mk l => rw [kindG]; simp only [gAt_eq]; rfl
/-- All of them are types. -/
theorem gstarsE_zero {ctx : List Tree} : ∀ {l : List Tree}, gstarsE ctx l = 0 ↔ ∀ i, i < l.length → mustE (kindG ctx (l.getD i .nil)) = 0
  | [] => by simp [gstarsE]
  | x :: l => by
    rw [gstarsE]
    constructor
    · intro h i hi
      by_cases h1 : mustE (kindG ctx x) = 0
      · rw [if_neg (by omega)] at h
        cases i with
        | zero => exact h1
        | succ i => exact gstarsE_zero.1 h i (by simpa using hi)
      · rw [if_pos h1] at h; exact absurd h h1
    · intro h
      have h1 : mustE (kindG ctx x) = 0 := h 0 (by simp)
      rw [if_neg (by omega)]
      exact gstarsE_zero.2 fun i hi => h (i + 1) (by simpa using hi)
theorem gstarsIn_zero {ctx : List Tree} : ∀ {l : List Tree}, gstarsIn ctx l = 0 ↔ ∀ i, i < l.length → gstarIn ctx (l.getD i .nil) = 0
  | [] => by simp [gstarsIn]
  | x :: l => by
    rw [gstarsIn]
    constructor
    · intro h i hi
      by_cases h1 : gstarIn ctx x = 0
      · rw [if_neg (by omega)] at h
        cases i with
        | zero => exact h1
        | succ i => exact gstarsIn_zero.1 h i (by simpa using hi)
      · rw [if_pos h1] at h; exact absurd h h1
    · intro h
      have h1 : gstarIn ctx x = 0 := h 0 (by simp)
      rw [if_neg (by omega)]
      exact gstarsIn_zero.2 fun i hi => h (i + 1) (by simpa using hi)
theorem gstar_same {e : Int} (h : (starR e).2 = 0) : starR e = (starT, 0) := starR_zero (starR_zero' h)
theorem field_ne {kind : Int} {x : Tree} (h : fieldF kind x = true) : x ≠ .nil ∧ x.kids.length = 1 ∧ isConF (x.kids.getD 0 .nil) = true := by
  have hx : x ≠ .nil := by intro e; subst e; rw [fieldF] at h; cases h
  rw [fieldF_eq hx] at h
  simp only [Bool.and_eq_true, beq_iff_eq] at h
  exact ⟨hx, by omega, h.2⟩
/-- The kind, or a sum does not fit. -/
theorem kind_or (T : Tree) : isConF T = true → ∀ ctx : List Tree, kindF ctx T = kindG ctx T ∨ (kindF ctx T).2 = 15 := by
  suffices h : (isConF T = true → ∀ ctx : List Tree, kindF ctx T = kindG ctx T ∨ (kindF ctx T).2 = 15) ∧ ∀ x ∈ T.kids, isConF x = true → ∀ ctx : List Tree, kindF ctx x = kindG ctx x ∨ (kindF ctx x).2 = 15 from h.1
  induction T using Tree.ind' with
  | h0 => exact ⟨fun h => (by rw [isConF] at h; cases h), fun x hx => (by cases hx)⟩
  | h1 T hT ih =>
    refine ⟨fun hcon ctx => ?_, fun x hx => (ih x hx).1⟩
    have must : ∀ {a b : Tree × Int}, a = b ∨ a.2 = 15 → mustE a = mustE b ∨ mustE a = 15 := fun {a b} h => by
      rcases h with rfl | h
      · exact .inl rfl
      · refine .inr ?_; unfold mustE; rw [if_pos (by omega)]; exact h
    have star : ∀ {a b : Int}, a = b ∨ a = 15 → starR a = starR b ∨ (starR a).2 = 15 := fun {a b} h => by
      rcases h with rfl | rfl
      · exact .inl rfl
      · exact .inr rfl
    have fields : ∀ (kind : Int) (l : List Tree) (ctx : List Tree), (∀ x ∈ l, x ∈ T.kids) → (∀ x ∈ l, fieldF kind x = true) → starsIn ctx l = gstarsIn ctx l ∨ starsIn ctx l = 15 := by
      intro kind l ctx
      induction l with
      | nil => intro _ _; exact .inl (by rw [starsIn, gstarsIn])
      | cons x l ihl =>
        intro hm hf
        obtain ⟨f1, f2, f3⟩ := field_ne (hf x (by simp))
        have m0 := getD_mem (l := x.kids) (i := 0) (by omega)
        have h1 := must ((ih x (hm x (by simp))).2 _ m0 f3 ctx)
        rw [starsIn, gstarsIn, starIn_eq ctx f1, gstarIn_eq ctx f1]
        rcases h1 with h1 | h1
        · rw [h1]
          split
          · exact .inl rfl
          · exact ihl (fun y hy => hm y (by simp [hy])) fun y hy => hf y (by simp [hy])
        · rw [if_pos (by omega)]; exact .inr h1
    rw [kindF_eq ctx hT, kindG_eq ctx hT]
    by_cases c1 : T.kind = 110
    · rw [if_pos c1, if_pos c1]; exact .inl rfl
    rw [if_neg c1, if_neg c1]
    by_cases c2 : T.kind = 114
    · rw [if_pos c2, if_pos c2]
      obtain ⟨h1, h2, h3⟩ := con_two hT hcon (.inl c2)
      have m0 := getD_mem (l := T.kids) (i := 0) (by omega)
      have m1 := getD_mem (l := T.kids) (i := 1) (by omega)
      have a0 := must ((ih _ m0).1 h2 ctx)
      have a1 := must ((ih _ m1).1 h3 ctx)
      refine star ?_
      match hl : T.kids, h1 with
      | [x, y], _ =>
        rw [hl] at a0 a1
        simp only [List.getD_cons_zero, List.getD_cons_succ] at a0 a1
        rw [starsE, gstarsE, starsE, gstarsE, starsE, gstarsE]
        rcases a0 with a0 | a0
        · rw [a0]
          split
          · exact .inl rfl
          · rcases a1 with a1 | a1
            · rw [a1]; exact .inl rfl
            · rw [if_pos (by omega)]; exact .inr a1
        · rw [if_pos (by omega)]; exact .inr a0
    rw [if_neg c2, if_neg c2]
    by_cases c3 : T.kind = 115
    · rw [if_pos c3, if_pos c3]
      exact star (fields 116 T.kids ctx (fun x h => h) (rec_fields hT hcon c3))
    rw [if_neg c3, if_neg c3]
    by_cases c4 : T.kind = 117 ∨ T.kind = 118
    · rw [if_pos c4, if_pos c4]
      obtain ⟨h1, h2, h3⟩ := con_bind hT hcon (by omega)
      exact star (must ((ih _ (getD_mem (i := 1) (by omega))).1 h3 _))
    rw [if_neg c4, if_neg c4]
    by_cases c5 : T.kind = 119
    · rw [if_pos c5, if_pos c5]
      obtain ⟨h1, h2, h3⟩ := con_bind hT hcon (by omega)
      rcases (ih _ (getD_mem (i := 1) (by omega))).1 h3 (T.kids.getD 0 .nil :: ctx) with h | h
      · rw [h]; exact .inl rfl
      · rw [if_pos (by omega)]; exact .inr h
    rw [if_neg c5, if_neg c5]
    by_cases c6 : T.kind = 120
    · rw [if_pos c6, if_pos c6]
      obtain ⟨h1, h2, h3⟩ := con_two hT hcon (.inr c6)
      have a0 := (ih _ (getD_mem (l := T.kids) (i := 0) (by omega))).1 h2 ctx
      have a1 := (ih _ (getD_mem (l := T.kids) (i := 1) (by omega))).1 h3 ctx
      rcases a0 with a0 | a0
      · rw [a0]
        unfold appR
        split
        · exact .inl rfl
        · rcases a1 with a1 | a1
          · rw [a1]; exact .inl rfl
          · rw [if_pos (by omega)]; exact .inr a1
      · refine .inr ?_
        unfold appR
        rw [if_pos (by omega)]; exact a0
    rw [if_neg c6, if_neg c6]
    by_cases c7 : T.kind = 121
    · rw [if_pos c7, if_pos c7]
      have h := fields 122 T.kids (starT :: ctx) (fun x h => h) (sum_fields hT hcon c7)
      rcases h with h | h
      · rw [h]
        by_cases q : gstarsIn (starT :: ctx) T.kids = 0
        · rw [if_neg (by omega), q]
          by_cases q2 : fitE T.kids = 0
          · rw [if_neg (by omega)]; exact .inl rfl
          · rw [if_pos q2]
            refine .inr ?_
            have : fitE T.kids = 0 ∨ fitE T.kids = 15 := by unfold fitE; split <;> simp
            simp only []; omega
        · rw [if_pos q]; exact .inl (starR_err q).symm
      · rw [if_pos (by omega)]; exact .inr h
    rw [if_neg c7, if_neg c7]; exact .inl rfl
/-! What makes one constructor of another, and keeps the kind -/
structure Tr (CR : Int → List Tree → List Tree → Prop) (R : Int → Tree → Tree → Prop) : Prop where
  kids : ∀ d x y, R d x y → x.kind ≠ 110 → (y ≠ .nil ∧ y.kind = x.kind ∧ y.n = x.n ∧ y.name = x.name ∧ y.mark = x.mark) ∧ y.kids.length = x.kids.length ∧ ∀ i, i < x.kids.length → R (d + bindsF x) (x.kids.getD i .nil) (y.kids.getD i .nil)
  var : ∀ d x y Γ Γ', x.kind = 110 → isConF x = true → R d x y → CR d Γ Γ' → (kindG Γ x).2 = 0 → kindG Γ' y = kindG Γ x
  up : ∀ d k Γ Γ', CR d Γ Γ' → CR (d + 1) (k :: Γ) (k :: Γ')
theorem Tr.same {CR : Int → List Tree → List Tree → Prop} {R : Int → Tree → Tree → Prop} (h : Tr CR R) (K : Tree) : isKindF K = true → ∀ d y, R d K y → y = K := by
  induction K using Tree.ind' with
  | h0 => intro h; rw [isKindF] at h; cases h
  | h1 T hT ih =>
    intro hk d y hR
    have h110 : T.kind ≠ 110 := by
      intro e; rw [isKindF_eq hT, if_neg (by omega), if_neg (by omega)] at hk; cases hk
    obtain ⟨⟨r1, r2, r3, r4, r5⟩, r6, r7⟩ := h.kids d T y hR h110
    have hkk : ∀ x ∈ T.kids, isKindF x = true := by
      rw [isKindF_eq hT] at hk
      by_cases k1 : T.kind = 100
      · rw [if_pos k1, Bool.and_eq_true, beq_iff_eq] at hk
        intro x hx
        have : T.kids = [] := List.length_eq_zero_iff.1 (by omega)
        rw [this] at hx; cases hx
      rw [if_neg k1] at hk
      by_cases k2 : T.kind = 101
      · rw [if_pos k2] at hk
        simp only [Bool.and_eq_true, beq_iff_eq] at hk
        intro x hx
        rcases mem_two (by omega : T.kids.length = 2) hx with e | e <;> rw [e]
        · exact hk.1.2
        · exact hk.2
      · rw [if_neg k2] at hk; cases hk
    have hkids : y.kids = T.kids := by
      apply List.ext_getElem r6
      intro i h1' h2'
      have hm := getD_mem (l := T.kids) h2'
      have := ih _ hm (hkk _ hm) _ _ (r7 i h2')
      simpa [List.getD_eq_getElem?_getD, h1', h2'] using this
    cases y with
    | nil => exact absurd rfl r1
    | node k n nm mk l =>
      cases T with
      | nil => exact absurd rfl hT
      | node k' n' nm' mk' l' =>
        simp only [Tree.kind, Tree.n, Tree.name, Tree.mark, Tree.kids] at r2 r3 r4 r5 hkids
        subst r2 r3 r4 r5 hkids
        rfl
theorem kindG_map {CR : Int → List Tree → List Tree → Prop} {R : Int → Tree → Tree → Prop} (h : Tr CR R) (T : Tree) : isConF T = true → ∀ d y Γ Γ', R d T y → CR d Γ Γ' → (kindG Γ T).2 = 0 → kindG Γ' y = kindG Γ T := by
  suffices g : (isConF T = true → ∀ d y Γ Γ', R d T y → CR d Γ Γ' → (kindG Γ T).2 = 0 → kindG Γ' y = kindG Γ T) ∧ ∀ x ∈ T.kids, isConF x = true → ∀ d y Γ Γ', R d x y → CR d Γ Γ' → (kindG Γ x).2 = 0 → kindG Γ' y = kindG Γ x from g.1
  induction T using Tree.ind' with
  | h0 => exact ⟨fun h => (by rw [isConF] at h; cases h), fun x hx => (by cases hx)⟩
  | h1 T hT ih =>
    refine ⟨fun hcon d y Γ Γ' hR hC hk => ?_, fun x hx => (ih x hx).1⟩
    by_cases c1 : T.kind = 110
    · exact h.var d T y Γ Γ' c1 hcon hR hC hk
    obtain ⟨⟨r1, r2, _⟩, r3, r4⟩ := h.kids d T y hR c1
    have fields : ∀ (kind : Int) (e : Int) (Γ Γ' : List Tree), kind = 116 ∨ kind = 122 → (∀ x ∈ T.kids, fieldF kind x = true) → (∀ i, i < T.kids.length → R e (T.kids.getD i .nil) (y.kids.getD i .nil)) → CR e Γ Γ' → gstarsIn Γ T.kids = 0 → gstarsIn Γ' y.kids = 0 := by
      intro kind e Γ Γ' hkind hf hr hc hs
      refine gstarsIn_zero.2 fun i hi => ?_
      have hi' : i < T.kids.length := by omega
      have hm := getD_mem hi'
      have h1 := gstarsIn_zero.1 hs i hi'
      obtain ⟨f1, f2, f3⟩ := field_ne (hf _ hm)
      have hfk := field_kind (hf _ hm)
      obtain ⟨⟨q1, q2, _⟩, q3, q4⟩ := h.kids e _ _ (hr i hi') (by omega)
      have hb : bindsF (T.kids.getD i .nil) = 0 := binds_zero (by omega) (by omega) (by omega) (by omega)
      have q5 := q4 0 (by omega)
      rw [hb, Int.add_zero] at q5
      rw [gstarIn_eq Γ f1] at h1
      rw [gstarIn_eq Γ' q1, (ih _ hm).2 _ (getD_mem (by omega)) f3 e _ Γ Γ' q5 hc (mustE_zero h1)]
      exact h1
    rw [kindG_eq Γ hT] at hk ⊢
    rw [kindG_eq Γ' r1, r2]
    rw [if_neg c1] at hk ⊢
    rw [if_neg c1]
    by_cases c2 : T.kind = 114
    · rw [if_pos c2] at hk ⊢
      rw [if_pos c2]
      obtain ⟨h1, h2, h3⟩ := con_two hT hcon (.inl c2)
      have hb : bindsF T = 0 := binds_zero (by omega) (by omega) (by omega) (by omega)
      rw [hb, Int.add_zero] at r4
      have hz := gstarsE_zero.1 (starR_zero' hk)
      rw [gstar_same hk, starR_zero (gstarsE_zero.2 fun i hi => ?_)]
      have hi' : i < T.kids.length := by omega
      have hcx : isConF (T.kids.getD i .nil) = true := by
        rcases (show i = 0 ∨ i = 1 by omega) with rfl | rfl
        · exact h2
        · exact h3
      rw [(ih _ (getD_mem hi')).1 hcx d _ Γ Γ' (r4 i hi') hC (mustE_zero (hz i hi'))]
      exact hz i hi'
    rw [if_neg c2] at hk ⊢
    rw [if_neg c2]
    by_cases c3 : T.kind = 115
    · rw [if_pos c3] at hk ⊢
      rw [if_pos c3]
      have hb : bindsF T = 0 := binds_zero (by omega) (by omega) (by omega) (by omega)
      rw [hb, Int.add_zero] at r4
      rw [gstar_same hk, starR_zero (fields 116 d Γ Γ' (.inl rfl) (rec_fields hT hcon c3) r4 hC (starR_zero' hk))]
    rw [if_neg c3] at hk ⊢
    rw [if_neg c3]
    by_cases c4 : T.kind = 117 ∨ T.kind = 118
    · rw [if_pos c4] at hk ⊢
      rw [if_pos c4]
      obtain ⟨h1, h2, h3⟩ := con_bind hT hcon (by omega)
      have hb : bindsF T = 1 := binds_one (by omega)
      rw [hb] at r4
      rw [h.same _ h2 _ _ (r4 0 (by omega)), (ih _ (getD_mem (i := 1) (by omega))).1 h3 (d + 1) _ _ _ (r4 1 (by omega)) (h.up d (T.kids.getD 0 .nil) Γ Γ' hC) (mustE_zero (starR_zero' hk))]
    rw [if_neg c4] at hk ⊢
    rw [if_neg c4]
    by_cases c5 : T.kind = 119
    · rw [if_pos c5] at hk ⊢
      rw [if_pos c5]
      obtain ⟨h1, h2, h3⟩ := con_bind hT hcon (by omega)
      have hb : bindsF T = 1 := binds_one (by omega)
      rw [hb] at r4
      have hk' : (kindG (T.kids.getD 0 .nil :: Γ) (T.kids.getD 1 .nil)).2 = 0 := by
        apply Decidable.byContradiction
        intro hn
        rw [if_pos hn] at hk; exact hn hk
      rw [h.same _ h2 _ _ (r4 0 (by omega)), (ih _ (getD_mem (i := 1) (by omega))).1 h3 (d + 1) _ _ _ (r4 1 (by omega)) (h.up d (T.kids.getD 0 .nil) Γ Γ' hC) hk']
    rw [if_neg c5] at hk ⊢
    rw [if_neg c5]
    by_cases c6 : T.kind = 120
    · rw [if_pos c6] at hk ⊢
      rw [if_pos c6]
      obtain ⟨h1, h2, h3⟩ := con_two hT hcon (.inr c6)
      have hb : bindsF T = 0 := binds_zero (by omega) (by omega) (by omega) (by omega)
      rw [hb, Int.add_zero] at r4
      obtain ⟨z0, z1⟩ := appR_zero hk
      rw [(ih _ (getD_mem (i := 0) (by omega))).1 h2 d _ Γ Γ' (r4 0 (by omega)) hC z0, (ih _ (getD_mem (i := 1) (by omega))).1 h3 d _ Γ Γ' (r4 1 (by omega)) hC z1]
    rw [if_neg c6] at hk ⊢
    rw [if_neg c6]
    by_cases c7 : T.kind = 121
    · rw [if_pos c7] at hk ⊢
      rw [if_pos c7]
      have hb : bindsF T = 1 := binds_one (by omega)
      rw [hb] at r4
      rw [gstar_same hk, starR_zero (fields 122 (d + 1) (starT :: Γ) (starT :: Γ') (.inr rfl) (sum_fields hT hcon c7) r4 (h.up d starT Γ Γ' hC) (starR_zero' hk))]
    rw [if_neg c7, if_neg c7]
end Ki
end Go.Proofs.Ytoajaklekmbcdaa

namespace Go.Proofs.Ytoajaklekmbcdaa
namespace Ki
open Go Go.Mq
set_option linter.all false

/-! More in the middle of a context; what is put in; a step -/
def WR (m : Int) (d : Int) (x y : Tree) : Prop := Plain x ∧ 0 ≤ d ∧ d + sizeN x ≤ lim ∧ vmap (fM m 0) x d = some y
def WC (M : List Tree) (d : Int) (Γ Γ' : List Tree) : Prop := ∃ Δ Γ0 : List Tree, Γ = Δ ++ Γ0 ∧ Γ' = Δ ++ (M ++ Γ0) ∧ d = Δ.length
theorem get_more {a b : List Tree} {i : Nat} : (a ++ b).getD (a.length + i) .nil = b.getD i .nil := by
  simp [List.getD_eq_getElem?_getD, List.getElem?_append_right]
theorem weak_tr (M : List Tree) : Tr (WC M) (WR M.length) where
  kids := fun d x y ⟨h1, h2, h3, h4⟩ hk => by
    have hx : x ≠ .nil := h1.full.ne
    obtain ⟨v1, v2, v3, v4, v5, _⟩ := vmap_inv h4
    obtain ⟨v5, v6⟩ := v5 hk
    obtain ⟨u1, u2⟩ := vmaps_get v6
    have hs := sizeN_kids hx
    have hb := bindsF_b x
    refine ⟨⟨v1, v2, v5, v3, v4⟩, u1, fun i hi => ?_⟩
    have hm := getD_mem hi
    have s1 := sizesN_mem hm
    exact ⟨Ex.plain_kids h1 _ hm, by omega, by omega, u2 i hi⟩
  var := fun d x y Γ Γ' hk hc ⟨h1, h2, h3, h4⟩ ⟨Δ, Γ0, e1, e2, e3⟩ ho => by
    have hx : x ≠ .nil := h1.full.ne
    obtain ⟨v1, v2, _, _, _, v5⟩ := vmap_inv h4
    obtain ⟨v5, v6⟩ := v5 hk
    have hv := con_var hx hc hk
    rw [kindG_eq Γ hx, if_pos hk] at ho ⊢
    rw [kindG_eq Γ' v1, v2, if_pos hk]
    have hn : ¬ (Γ.length : Int) ≤ x.n := by
      intro hn
      rw [if_pos hn] at ho
      cases ho
    rw [if_neg hn]
    subst e1 e2 e3
    rw [List.length_append] at hn
    unfold fM at v5
    by_cases c : (Δ.length : Int) ≤ x.n
    · rw [if_pos ⟨c, by omega⟩] at v5
      split at v5
      · cases v5
      · have e := Option.some.inj v5
        rw [if_neg (by simp only [List.length_append]; omega)]
        congr 1
        rw [← e]
        obtain ⟨i, hi⟩ : ∃ i : Nat, x.n = Δ.length + i := ⟨(x.n - Δ.length).toNat, by omega⟩
        rw [show (x.n + (M.length : Int)).toNat = Δ.length + (M.length + i) by omega, get_more, get_more, show x.n.toNat = Δ.length + i by omega, get_more]
    · rw [if_neg (by omega)] at v5
      have e := Option.some.inj v5
      rw [← e]
      rw [if_neg (by simp only [List.length_append]; omega)]
      congr 1
      rw [more_get (by omega), more_get (by omega)]
  up := fun d k Γ Γ' ⟨Δ, Γ0, e1, e2, e3⟩ => ⟨k :: Δ, Γ0, by rw [e1]; rfl, by rw [e2]; rfl, by rw [e3]; simp⟩
def PR (B : Tree) (d : Int) (x y : Tree) : Prop := Plain x ∧ 0 ≤ d ∧ d + sizeN x ≤ 549755813888 ∧ rputF 0 B x d = some y
def PC (K : Tree) (Γ0 : List Tree) (d : Int) (Γ Γ' : List Tree) : Prop := ∃ Δ : List Tree, Γ = Δ ++ K :: Γ0 ∧ Γ' = Δ ++ Γ0 ∧ d = Δ.length
theorem put_var3 {s T y : Tree} {d : Int} (hp : Plain T) (hk : T.kind = 110) (hd : 0 ≤ d ∧ d ≤ lim) (h : rputF 0 s T d = some y) :
    (T.n < d ∧ y = T) ∨ (T.n = d ∧ rmovedF d 0 s 0 = some y) ∨ (d < T.n ∧ y ≠ .nil ∧ y.kind = 110 ∧ y.n = T.n - 1) := by
  cases T with
  | nil => cases hp
  | node k n nm mk l =>
    have hk : k = 110 := hk
    subst hk
    obtain ⟨rfl, hv, _⟩ := hp.inv
    obtain ⟨rfl, rfl, h0, h1⟩ := hv rfl
    have hlim : lim = 1099511627776 := rfl
    have w : IntKind.i64.wrap (n - d) = n - d := wrap64 (by omega) (by omega)
    have w2 : IntKind.i64.wrap (n - 1) = n - 1 := wrap64 (by omega) (by omega)
    show (n < d ∧ _) ∨ (n = d ∧ _) ∨ (d < n ∧ _ ∧ _ ∧ y.n = n - 1)
    by_cases q : n = d
    · rw [rputF, if_pos (pHit_node.2 ⟨rfl, by omega, by rw [w]; omega⟩)] at h
      exact .inr (.inl ⟨q, h⟩)
    · rw [rputF, if_neg (fun z => q (by have := (pHit_node.1 z).2.2; rw [w] at this; omega))] at h
      by_cases q2 : d < n
      · rw [if_pos (pAbove_node.2 ⟨rfl, by omega, by rw [w]; omega⟩), rputsF, w2] at h
        cases h
        exact .inr (.inr ⟨q2, by simp, rfl, rfl⟩)
      · rw [if_neg (fun z => q2 (by have := pAbove_node.1 z; omega)), rputsF] at h
        cases h
        exact .inl ⟨by omega, rfl⟩
theorem put_tr {B K : Tree} {Γ0 : List Tree} (hB : conE B = 0) (hk0 : kindG Γ0 B = (K, 0)) : Tr (PC K Γ0) (PR B) where
  kids := fun d x y ⟨h1, h2, h3, h4⟩ hk => by
    have hlim : lim = 1099511627776 := rfl
    have hx : x ≠ .nil := h1.full.ne
    have hs := sizeN_kids hx
    have hb := bindsF_b x
    obtain ⟨p0, p1, p2, p3, p4, p5⟩ := Ex.put_inv h1 hk h4
    obtain ⟨u1, u2⟩ := Ex.put_kids h1 hk ⟨h2, by omega⟩ h4
    refine ⟨⟨p0, p1, p2, p3, p4⟩, u1, fun i hi => ?_⟩
    have hm := getD_mem hi
    have s1 := sizesN_mem hm
    exact ⟨Ex.plain_kids h1 _ hm, by omega, by omega, u2 i hi⟩
  var := fun d x y Γ Γ' hk hc ⟨h1, h2, h3, h4⟩ ⟨Δ, e1, e2, e3⟩ ho => by
    have hlim : lim = 1099511627776 := rfl
    have hx : x ≠ .nil := h1.full.ne
    have hv := con_var hx hc hk
    have hzB := conE_size hB
    have hxk := ho
    rw [kindG_eq Γ hx, if_pos hk] at ho
    have hn : ¬ (Γ.length : Int) ≤ x.n := by
      intro hn
      rw [if_pos hn] at ho
      cases ho
    have ex : kindG Γ x = (Γ.getD x.n.toNat .nil, 0) := by rw [kindG_eq Γ hx, if_pos hk, if_neg hn]
    rw [ex]
    subst e1 e2 e3
    rw [List.length_append, List.length_cons] at hn
    rcases put_var3 h1 hk ⟨by omega, by omega⟩ h4 with ⟨q1, rfl⟩ | ⟨q1, q2⟩ | ⟨q1, q2, q3, q4⟩
    · rw [kindG_eq _ hx, if_pos hk, if_neg (by simp only [List.length_append]; omega), more_get (by omega), more_get (by omega)]
    · rw [rmoved_vmap _ 0 B 0 (conE_plain hB) (by omega) (by omega)] at q2
      have := kindG_map (weak_tr Δ) B (conE_full hB).2 0 y Γ0 (Δ ++ Γ0) ⟨conE_plain hB, by omega, by omega, q2⟩ ⟨[], Γ0, rfl, rfl, rfl⟩ (by rw [hk0])
      rw [this, hk0]
      congr 1
      rw [show x.n.toNat = Δ.length + 0 by omega, get_more]
      rfl
    · rw [kindG_eq _ q2, if_pos q3, q4, if_neg (by simp only [List.length_append]; omega)]
      congr 1
      obtain ⟨i, hi⟩ : ∃ i : Nat, x.n = Δ.length + (i + 1) := ⟨(x.n - Δ.length - 1).toNat, by omega⟩
      rw [show (x.n - 1).toNat = Δ.length + i by omega, get_more, show x.n.toNat = Δ.length + (i + 1) by omega, get_more]
      rfl
  up := fun d k Γ Γ' ⟨Δ, e1, e2, e3⟩ => ⟨k :: Δ, by rw [e1]; rfl, by rw [e2]; rfl, by rw [e3]; simp⟩
theorem subst_inv {N B s : Tree} {i : Int} (h : substR N i B = (s, 0)) : conE N = 0 ∧ conE B = 0 ∧ 0 ≤ i ∧ rputF i B N 0 = some s := by
  rw [substR_eq] at h
  unfold rsubstR at h
  by_cases h1 : conE N = 0
  · rw [if_pos h1] at h
    by_cases h2 : conE B = 0
    · rw [if_pos h2] at h
      split at h
      · exact absurd (Prod.mk.inj h).2 (by decide)
      split at h
      · exact absurd (Prod.mk.inj h).2 (by decide)
      split at h
      · rename_i hi _ hs
        have := (Prod.mk.inj h).1
        refine ⟨h1, h2, by omega, ?_⟩
        cases hr : rputF i B N 0 with
        | none => rw [hr] at hs; cases hs
        | some z => rw [hr] at this; rw [← this]; rfl
      · exact absurd (Prod.mk.inj h).2 (by decide)
    · rw [if_neg h2] at h; exact absurd (Prod.mk.inj h).2 h2
  · rw [if_neg h1] at h; exact absurd (Prod.mk.inj h).2 h1
/-- Beta. -/
theorem beta_kind {K N B s : Tree} {Γ : List Tree} (h : substR N 0 B = (s, 0)) (hB : kindG Γ B = (K, 0)) (hN : (kindG (K :: Γ) N).2 = 0) : kindG Γ s = kindG (K :: Γ) N := by
  obtain ⟨h1, h2, _, h4⟩ := subst_inv h
  have hz := conE_size h1
  exact kindG_map (put_tr h2 hB) N (conE_full h1).2 0 s (K :: Γ) Γ ⟨conE_plain h1, by omega, by omega, h4⟩ ⟨[], rfl, rfl, rfl⟩ hN
theorem steps_get : ∀ {l l' : List Tree} {e : Int}, No.stepsF l = some (l', e) → ∃ (i : Nat) (x' : Tree), i < l.length ∧ No.stepF (l.getD i .nil) = some (x', e) ∧ l' = l.set i x'
  | [], l', e, h => by rw [No.stepsF] at h; cases h
  | x :: l, l', e, h => by
    rw [No.stepsF] at h
    cases hx : No.stepF x with
    | some p =>
      rw [hx] at h
      cases h
      exact ⟨0, p.1, by simp, by rw [List.getD_cons_zero, hx], rfl⟩
    | none =>
      rw [hx] at h
      cases hr : No.stepsF l with
      | none => rw [hr] at h; cases h
      | some q =>
        rw [hr] at h
        cases h
        obtain ⟨i, x', h1, h2, h3⟩ := steps_get hr
        exact ⟨i + 1, x', by simpa using h1, by rw [List.getD_cons_succ]; exact h2, by rw [List.set_cons_succ, ← h3]⟩
theorem kind_nostep (K : Tree) : isKindF K = true → No.stepF K = none := by
  induction K using Tree.ind' with
  | h0 => intro h; rw [isKindF] at h; cases h
  | h1 T hT ih =>
    intro hk
    rw [No.stepF_eq hT]
    rw [isKindF_eq hT] at hk
    have hk' : T.kind ≠ 120 := by
      intro e; rw [if_neg (by omega), if_neg (by omega)] at hk; cases hk
    rw [if_neg (fun q => hk' q.1)]
    have hn : No.stepsF T.kids = none := by
      cases hs : No.stepsF T.kids with
      | none => rfl
      | some p =>
        exfalso
        obtain ⟨i, x', h1, h2, h3⟩ := steps_get (l' := p.1) (e := p.2) hs
        have hm := getD_mem h1
        have : isKindF (T.kids.getD i .nil) = true := by
          by_cases k1 : T.kind = 100
          · rw [if_pos k1, Bool.and_eq_true, beq_iff_eq] at hk
            omega
          rw [if_neg k1] at hk
          by_cases k2 : T.kind = 101
          · rw [if_pos k2] at hk
            simp only [Bool.and_eq_true, beq_iff_eq] at hk
            rcases (show i = 0 ∨ i = 1 by omega) with rfl | rfl
            · exact hk.1.2
            · exact hk.2
          · rw [if_neg k2] at hk; cases hk
        rw [ih _ hm this] at h2
        cases h2
    rw [hn]; rfl
theorem set_get {l : List Tree} {i j : Nat} {x : Tree} : (l.set i x).getD j .nil = if i = j ∧ j < l.length then x else l.getD j .nil := by
  simp only [List.getD_eq_getElem?_getD, List.getElem?_set]
  by_cases h : i = j
  · subst h
    by_cases h2 : i < l.length
    · simp [h2]
    · simp [h2, List.getElem?_eq_none (show l.length ≤ i by omega)]
  · simp [h]
theorem step_kind (T : Tree) : isConF T = true → ∀ (Γ : List Tree) (m : Tree), No.stepF T = some (m, 0) → (kindG Γ T).2 = 0 → kindG Γ m = kindG Γ T := by
  suffices g : (isConF T = true → ∀ (Γ : List Tree) (m : Tree), No.stepF T = some (m, 0) → (kindG Γ T).2 = 0 → kindG Γ m = kindG Γ T) ∧ ∀ x ∈ T.kids, isConF x = true → ∀ (Γ : List Tree) (m : Tree), No.stepF x = some (m, 0) → (kindG Γ x).2 = 0 → kindG Γ m = kindG Γ x from g.1
  induction T using Tree.ind' with
  | h0 => exact ⟨fun h => (by rw [isConF] at h; cases h), fun x hx => (by cases hx)⟩
  | h1 T hT ih =>
    refine ⟨fun hcon Γ m hst hk => ?_, fun x hx => (ih x hx).1⟩
    rw [No.stepF_eq hT] at hst
    by_cases hr : No.redexF T
    · rw [if_pos hr] at hst
      obtain ⟨r1, r2⟩ := hr
      obtain ⟨h1, h2, h3⟩ := con_two hT hcon (.inr r1)
      have hf : T.kids.getD 0 .nil ≠ .nil := by intro e; rw [e] at r2; cases r2
      obtain ⟨g1, g2, g3⟩ := con_bind hf h2 (.inr (.inr r2))
      have hred : substR ((T.kids.getD 0 .nil).kids.getD 1 .nil) 0 (T.kids.getD 1 .nil) = (m, 0) := Option.some.inj hst
      rw [kindG_eq Γ hT, if_neg (by omega), if_neg (by omega), if_neg (by omega), if_neg (by omega), if_neg (by omega), if_pos r1] at hk ⊢
      obtain ⟨z0, z1⟩ := appR_zero hk
      have ef := kindG_eq Γ hf
      rw [if_neg (by omega), if_neg (by omega), if_neg (by omega), if_neg (by omega), if_pos r2] at ef
      generalize hK : (T.kids.getD 0 .nil).kids.getD 0 .nil = K at *
      generalize hN : (T.kids.getD 0 .nil).kids.getD 1 .nil = N at *
      have hN0 : (kindG (K :: Γ) N).2 = 0 := by
        apply Decidable.byContradiction
        intro hn
        rw [ef, if_pos hn] at z0; exact hn z0
      rw [if_neg (by omega)] at ef
      rw [ef] at hk ⊢
      unfold appR at hk ⊢
      rw [if_neg (by simp), if_neg (by omega)] at hk ⊢
      by_cases hs : (karrT K (kindG (K :: Γ) N).1).kind ≠ 101 ∨ sameF ((karrT K (kindG (K :: Γ) N).1).kids.getD 0 .nil) (kindG Γ (T.kids.getD 1 .nil)).1 = false
      · rw [if_pos hs] at hk; cases hk
      · rw [if_neg hs]
        have hsame : sameF K (kindG Γ (T.kids.getD 1 .nil)).1 = true := by
          cases hq : sameF K (kindG Γ (T.kids.getD 1 .nil)).1 with
          | true => rfl
          | false => exact absurd (.inr hq) hs
        have hB : kindG Γ (T.kids.getD 1 .nil) = (K, 0) := Prod.ext ((sameF_iff _ _).1 hsame).symm z1
        rw [beta_kind hred hB hN0]
        exact Prod.ext rfl hN0
    · rw [if_neg hr] at hst
      cases hss : No.stepsF T.kids with
      | none => rw [hss] at hst; cases hst
      | some p =>
        rw [hss] at hst
        have hst := Prod.mk.inj (Option.some.inj hst)
        have hm : m = .node T.kind T.n T.name T.mark p.1 ∧ p.2 = 0 := ⟨hst.1.symm, hst.2⟩
        obtain ⟨rfl, hp2⟩ := hm
        obtain ⟨i, x', hi, hx, hl'⟩ := steps_get (l' := p.1) (e := 0) (by rw [hss]; exact congrArg some (Prod.ext rfl hp2))
        have hmx := getD_mem hi
        rw [hl']
        have fields : ∀ (kind : Int) (Γ : List Tree), kind = 116 ∨ kind = 122 → (∀ x ∈ T.kids, fieldF kind x = true) → gstarsIn Γ T.kids = 0 → gstarsIn Γ (T.kids.set i x') = 0 := by
          intro kind Γ hkind hf hs
          refine gstarsIn_zero.2 fun j hj => ?_
          rw [List.length_set] at hj
          rw [set_get]
          by_cases e : i = j ∧ j < T.kids.length
          · rw [if_pos e]
            obtain ⟨f1, f2, f3⟩ := field_ne (hf _ hmx)
            have hfk := field_kind (hf _ hmx)
            have h1 := gstarsIn_zero.1 hs i hi
            rw [gstarIn_eq Γ f1] at h1
            rw [No.stepF_eq f1, if_neg (fun q => by have := q.1; omega)] at hx
            cases hq : No.stepsF (T.kids.getD i .nil).kids with
            | none => rw [hq] at hx; cases hx
            | some q =>
              rw [hq] at hx
              have hx' : x' = .node (T.kids.getD i .nil).kind (T.kids.getD i .nil).n (T.kids.getD i .nil).name (T.kids.getD i .nil).mark q.1 ∧ q.2 = 0 := ⟨(Prod.mk.inj (Option.some.inj hx)).1.symm, (Prod.mk.inj (Option.some.inj hx)).2⟩
              obtain ⟨rfl, hq2⟩ := hx'
              obtain ⟨j', y', hj', hy', hl2⟩ := steps_get (l' := q.1) (e := 0) (by rw [hq]; exact congrArg some (Prod.ext rfl hq2))
              obtain rfl : j' = 0 := by omega
              rw [gstarIn_eq Γ (by simp)]
              show mustE (kindG Γ (q.1.getD 0 .nil)) = 0
              rw [hl2, set_get, if_pos ⟨rfl, hj'⟩, (ih _ hmx).2 _ (getD_mem hj') f3 Γ y' hy' (mustE_zero h1)]
              exact h1
          · rw [if_neg e]; exact gstarsIn_zero.1 hs j hj
        have nokind : ∀ j, isKindF (T.kids.getD j .nil) = true → i ≠ j := fun j hj e => by
          subst e
          rw [kind_nostep _ hj] at hx; cases hx
        have e1 := kindG_eq Γ hT
        have e2 := kindG_eq Γ (T := .node T.kind T.n T.name T.mark (T.kids.set i x')) (by simp)
        rw [show (Tree.node T.kind T.n T.name T.mark (T.kids.set i x')).kind = T.kind from rfl, show (Tree.node T.kind T.n T.name T.mark (T.kids.set i x')).n = T.n from rfl, show (Tree.node T.kind T.n T.name T.mark (T.kids.set i x')).kids = T.kids.set i x' from rfl] at e2
        rw [e1] at hk
        rw [e1, e2]
        rcases con_kids hT hcon with hc | hc | hc | hc | hc | hc | hc | hc | hc | hc | hc
        · rw [if_pos hc, if_pos hc]
        · rw [if_neg (by omega), if_neg (by omega), if_neg (by omega), if_neg (by omega), if_neg (by omega), if_neg (by omega), if_neg (by omega), if_neg (by omega), if_neg (by omega), if_neg (by omega), if_neg (by omega), if_neg (by omega), if_neg (by omega), if_neg (by omega)]
        · rw [if_neg (by omega), if_neg (by omega), if_neg (by omega), if_neg (by omega), if_neg (by omega), if_neg (by omega), if_neg (by omega), if_neg (by omega), if_neg (by omega), if_neg (by omega), if_neg (by omega), if_neg (by omega), if_neg (by omega), if_neg (by omega)]
        · rw [if_neg (by omega), if_neg (by omega), if_neg (by omega), if_neg (by omega), if_neg (by omega), if_neg (by omega), if_neg (by omega), if_neg (by omega), if_neg (by omega), if_neg (by omega), if_neg (by omega), if_neg (by omega), if_neg (by omega), if_neg (by omega)]
        · rw [if_neg (by omega), if_pos hc] at hk
          rw [if_neg (by omega), if_pos hc, if_neg (by omega), if_pos hc]
          obtain ⟨h1, h2, h3⟩ := con_two hT hcon (.inl hc)
          have hz := gstarsE_zero.1 (starR_zero' hk)
          rw [gstar_same hk, starR_zero (gstarsE_zero.2 fun j hj => ?_)]
          rw [List.length_set] at hj
          rw [set_get]
          by_cases e : i = j ∧ j < T.kids.length
          · rw [if_pos e]
            have hcx : isConF (T.kids.getD i .nil) = true := by
              rcases (show i = 0 ∨ i = 1 by omega) with rfl | rfl
              · exact h2
              · exact h3
            rw [(ih _ hmx).1 hcx Γ x' hx (mustE_zero (hz i hi))]
            exact hz i hi
          · rw [if_neg e]; exact hz j hj
        · rw [if_neg (by omega), if_neg (by omega), if_pos hc] at hk
          rw [if_neg (by omega), if_neg (by omega), if_pos hc, if_neg (by omega), if_neg (by omega), if_pos hc]
          rw [gstar_same hk, starR_zero (fields 116 Γ (.inl rfl) (rec_fields hT hcon hc) (starR_zero' hk))]
        · rw [if_neg (by omega), if_neg (by omega), if_neg (by omega), if_pos (.inl hc)] at hk
          rw [if_neg (by omega), if_neg (by omega), if_neg (by omega), if_pos (.inl hc), if_neg (by omega), if_neg (by omega), if_neg (by omega), if_pos (.inl hc)]
          obtain ⟨h1, h2, h3⟩ := con_bind hT hcon (by omega)
          have hne := nokind 0 h2
          obtain rfl : i = 1 := by omega
          rw [set_get, if_neg (by omega), set_get, if_pos ⟨rfl, hi⟩, (ih _ hmx).1 h3 _ x' hx (mustE_zero (starR_zero' hk))]
        · rw [if_neg (by omega), if_neg (by omega), if_neg (by omega), if_pos (.inr hc)] at hk
          rw [if_neg (by omega), if_neg (by omega), if_neg (by omega), if_pos (.inr hc), if_neg (by omega), if_neg (by omega), if_neg (by omega), if_pos (.inr hc)]
          obtain ⟨h1, h2, h3⟩ := con_bind hT hcon (by omega)
          have hne := nokind 0 h2
          obtain rfl : i = 1 := by omega
          rw [set_get, if_neg (by omega), set_get, if_pos ⟨rfl, hi⟩, (ih _ hmx).1 h3 _ x' hx (mustE_zero (starR_zero' hk))]
        · rw [if_neg (by omega), if_neg (by omega), if_neg (by omega), if_neg (by omega), if_pos hc] at hk
          rw [if_neg (by omega), if_neg (by omega), if_neg (by omega), if_neg (show ¬ (T.kind = 117 ∨ T.kind = 118) by omega), if_pos hc, if_neg (show ¬ T.kind = 110 by omega), if_neg (show ¬ T.kind = 114 by omega), if_neg (show ¬ T.kind = 115 by omega), if_neg (show ¬ (T.kind = 117 ∨ T.kind = 118) by omega), if_pos hc]
          obtain ⟨h1, h2, h3⟩ := con_bind hT hcon (by omega)
          have hne := nokind 0 h2
          obtain rfl : i = 1 := by omega
          have g0 : (T.kids.set 1 x').getD 0 .nil = T.kids.getD 0 .nil := by rw [set_get, if_neg (by omega)]
          have g1 : (T.kids.set 1 x').getD 1 .nil = x' := by rw [set_get, if_pos ⟨rfl, hi⟩]
          have hk' : (kindG (T.kids.getD 0 .nil :: Γ) (T.kids.getD 1 .nil)).2 = 0 := by
            apply Decidable.byContradiction
            intro hn
            rw [if_pos hn] at hk; exact hn hk
          rw [g0, g1, (ih _ hmx).1 h3 _ x' hx hk']
        · rw [if_neg (by omega), if_neg (by omega), if_neg (by omega), if_neg (by omega), if_neg (by omega), if_pos hc] at hk
          rw [if_neg (by omega), if_neg (by omega), if_neg (by omega), if_neg (by omega), if_neg (by omega), if_pos hc, if_neg (by omega), if_neg (by omega), if_neg (by omega), if_neg (by omega), if_neg (by omega), if_pos hc]
          obtain ⟨h1, h2, h3⟩ := con_two hT hcon (.inr hc)
          obtain ⟨z0, z1⟩ := appR_zero hk
          rcases (show i = 0 ∨ i = 1 by omega) with rfl | rfl
          · rw [set_get, if_pos ⟨rfl, hi⟩, set_get, if_neg (by omega), (ih _ hmx).1 h2 Γ x' hx z0]
          · rw [set_get, if_neg (by omega), set_get, if_pos ⟨rfl, hi⟩, (ih _ hmx).1 h3 Γ x' hx z1]
        · rw [if_neg (by omega), if_neg (by omega), if_neg (by omega), if_neg (by omega), if_neg (by omega), if_neg (by omega), if_pos hc] at hk
          rw [if_neg (by omega), if_neg (by omega), if_neg (by omega), if_neg (by omega), if_neg (by omega), if_neg (by omega), if_pos hc, if_neg (by omega), if_neg (by omega), if_neg (by omega), if_neg (by omega), if_neg (by omega), if_neg (by omega), if_pos hc]
          rw [gstar_same hk, starR_zero (fields 122 (starT :: Γ) (.inr rfl) (sum_fields hT hcon hc) (starR_zero' hk))]
/-- Along the way to the normal form. -/
theorem norm_kind (Γ : List Tree) : ∀ (k : Nat) (T m : Tree), No.normF k T = (m, 0) → (kindG Γ T).2 = 0 → conE m = 0 ∧ kindG Γ m = kindG Γ T := by
  have one : ∀ {T : Tree}, (No.nstepR T).2.2 = 0 → conE T = 0 ∧ ((kindG Γ T).2 = 0 → (No.nstepR T).2.1 = true → kindG Γ (No.nstepR T).1 = kindG Γ T) := fun {T} h => by
    obtain ⟨h1, h2⟩ := No.nstep_zero h
    refine ⟨h1, fun hk hm => ?_⟩
    rw [h2] at h hm ⊢
    have := No.out_more (m := (No.outF (No.stepF T)).1) (by rw [← hm, ← h])
    exact step_kind T (conE_full h1).2 Γ _ this hk
  intro k
  induction k with
  | zero =>
    intro T m h hk
    rw [No.normF] at h
    by_cases h1 : (No.nstepR T).2.2 = 0
    · rw [if_neg (by omega)] at h
      split at h
      · exact absurd (Prod.mk.inj h).2 (by decide)
      · obtain rfl := (Prod.mk.inj h).1
        exact ⟨(one h1).1, rfl⟩
    · rw [if_pos h1] at h; exact absurd (Prod.mk.inj h).2 h1
  | succ k ih =>
    intro T m h hk
    rw [No.normF] at h
    by_cases h1 : (No.nstepR T).2.2 = 0
    · rw [if_neg (by omega)] at h
      split at h
      · rename_i hm
        have e := (one h1).2 hk hm
        obtain ⟨g1, g2⟩ := ih _ _ h (by rw [e]; exact hk)
        exact ⟨g1, by rw [g2, e]⟩
      · obtain rfl := (Prod.mk.inj h).1
        exact ⟨(one h1).1, rfl⟩
    · rw [if_pos h1] at h; exact absurd (Prod.mk.inj h).2 h1
theorem norm_kindR {c : List Tree} {T m : Tree} (h : (kindR c T).2 = 0) (hm : No.normR T = (m, 0)) : kindR c m = kindR c T ∨ (kindR c m).2 = 15 := by
  obtain ⟨h1, h2, h3⟩ := kindR_ok h
  have hc := (conE_full h2).2
  rw [h3] at h ⊢
  have hg : kindG c T = kindF c T := by
    rcases kind_or T hc c with q | q
    · exact q.symm
    · omega
  obtain ⟨g1, g2⟩ := norm_kind c 1000 T m hm (by rw [hg]; exact h)
  have hr : kindR c m = kindF c m := by
    unfold kindR
    simp [h1, g1]
  rw [hr]
  rcases kind_or m (conE_full g1).2 c with q | q
  · exact .inl (by rw [q, g2, hg])
  · exact .inr q
end Ki
end Go.Proofs.Ytoajaklekmbcdaa

namespace Go.Proofs.Ytoajaklekmbcdaa
namespace Ki
open Go Go.Mq
set_option linter.all false

set_option maxHeartbeats 4000000 in
set_option maxRecDepth 10000 in
theorem kindingNorm_ok (ls : List (List Cel)) (l : List Cel) : Pure P 6 [.d (treesD ls), .agg [.d (cellsD l)]] (.d (.bool true)) := by
  have hfw := few_ok l
  generalize fewF l = T at hfw
  have hcx := context_ok ls
  have hcl := contextF_len ls
  generalize contextF ls = C at *
  have h1 := Kind_ok C T (by omega)
  have h2 := No.Normal_ok T
  refine Pure.of_body tt [] [4] Try.func6 rfl rfl rfl (Nat.le_of_ble_eq_true rfl) fun g => ?_
  cases hR : No.normR T with
  | mk m f =>
  rw [hR] at h2
  simp only [] at h2
  by_cases e1 : (kindR C T).2 = 0
  · by_cases e2 : f = 0
    · subst e2
      have h3 := Kind_ok C m (by omega)
      rcases norm_kindR e1 hR with h | h
      · rw [h] at h3
        rw [e1] at h1 h3
        generalize (kindR C T).1 = A at *
        repeat' ((first
          | refine then_go hm htt ?_
          | refine Side.go ?_
          | refine Hyp.go fun hlen => ?_
          | refine Split.ct ?_
          | refine Split.cf ?_
          | refine Split.tt ?_
          | refine Split.ff ?_
          | refine Indep.go ?_
          | refine CallG.gp hcx ?_
          | refine CallG.gp hfw ?_
          | refine CallG.gp h1 ?_
          | refine CallG.gp h2 ?_
          | refine CallG.gp h3 ?_
          | refine CallG.gp (same_self _) ?_
          | refine CallG.gp works12_ok ?_
          | refine Split.go (fun hc => ?_) fun hc => ?_) <;> conv => whnf)
        all_goals exact ret_closed rfl rfl rfl
      · rw [e1] at h1
        rw [h] at h3
        generalize (kindR C T).1 = A at *
        generalize (kindR C m).1 = B at *
        repeat' ((first
          | refine then_go hm htt ?_
          | refine Side.go ?_
          | refine Hyp.go fun hlen => ?_
          | refine Split.ct ?_
          | refine Split.cf ?_
          | refine Split.tt ?_
          | refine Split.ff ?_
          | refine Indep.go ?_
          | refine CallG.gp hcx ?_
          | refine CallG.gp hfw ?_
          | refine CallG.gp h1 ?_
          | refine CallG.gp h2 ?_
          | refine CallG.gp h3 ?_
          | refine CallG.gp (same_self _) ?_
          | refine CallG.gp works12_ok ?_
          | refine Split.go (fun hc => ?_) fun hc => ?_) <;> conv => whnf)
        all_goals exact ret_closed rfl rfl rfl
    · rw [e1] at h1
      generalize (kindR C T).1 = A at *
      repeat' ((first
        | refine then_go hm htt ?_
        | refine Side.go ?_
        | refine Hyp.go fun hlen => ?_
        | refine Split.ct ?_
        | refine Split.cf ?_
        | refine Split.tt ?_
        | refine Split.ff ?_
        | refine Indep.go ?_
        | refine CallG.gp hcx ?_
        | refine CallG.gp hfw ?_
        | refine CallG.gp h1 ?_
        | refine CallG.gp h2 ?_
        | refine CallG.gp works12_ok ?_
        | refine Split.go (fun hc => ?_) fun hc => ?_) <;> conv => whnf)
      all_goals exact ret_closed rfl rfl rfl
  · generalize kindR C T = A at *
    repeat' ((first
      | refine then_go hm htt ?_
      | refine Side.go ?_
      | refine Hyp.go fun hlen => ?_
      | refine Split.ct ?_
      | refine Split.cf ?_
      | refine Split.tt ?_
      | refine Split.ff ?_
      | refine Indep.go ?_
      | refine CallG.gp hcx ?_
      | refine CallG.gp hfw ?_
      | refine CallG.gp h1 ?_
      | refine CallG.gp h2 ?_
      | refine CallG.gp works12_ok ?_
      | refine Split.go (fun hc => ?_) fun hc => ?_) <;> conv => whnf)
    all_goals exact ret_closed rfl rfl rfl
end Ki
end Go.Proofs.Ytoajaklekmbcdaa
