/- What functions of the program compute, and plain facts about it. -/
import Derived.Test.YtoajaklekmbcdaaGI
import Derived.Test.YtoajaklekmbcdaaGJ
import Derived.Test.YtoajaklekmbcdaaGC
import Derived.Test.YtoajaklekmbcdaaGD
set_option linter.all false
namespace Go.Proofs.Ytoajaklekmbcdaa
namespace Ki
open Go Go.Mq
set_option linter.all false

/-! What is put has the kind, or a sum does not fit. -/
theorem kind_put_id {b : Tree} (K : Tree) : isKindF K = true → ∀ (d : Int) y, Plain K → 0 ≤ d → d + sizeN K ≤ 549755813888 → rputF 0 b K d = some y → y = K := by
  induction K using Tree.ind' with
  | h0 => intro h; rw [isKindF] at h; cases h
  | h1 T hT ih =>
    intro h d y hp h0 h1 hy
    have hlim : lim = 1099511627776 := rfl
    have hsz := sizeN_kids hT
    have hk : T.kind ≠ 110 := by
      intro e; rw [isKindF_eq hT, if_neg (by omega), if_neg (by omega)] at h; cases h
    obtain ⟨p0, p1, p2, p3, p4, p5⟩ := Ex.put_inv hp hk hy
    obtain ⟨u1, u2⟩ := Ex.put_kids hp hk ⟨h0, by omega⟩ hy
    have hbd := bindsF_b T
    have hkk : ∀ x ∈ T.kids, isKindF x = true := by
      rw [isKindF_eq hT] at h
      by_cases k1 : T.kind = 100
      · rw [if_pos k1, Bool.and_eq_true, beq_iff_eq] at h
        intro x hx
        have : T.kids = [] := List.length_eq_zero_iff.1 (by omega)
        rw [this] at hx; cases hx
      rw [if_neg k1] at h
      by_cases k2 : T.kind = 101
      · rw [if_pos k2] at h
        simp only [Bool.and_eq_true, beq_iff_eq] at h
        intro x hx
        rcases mem_two (by omega : T.kids.length = 2) hx with e | e <;> rw [e]
        · exact h.1.2
        · exact h.2
      · rw [if_neg k2] at h; cases h
    have hkids : y.kids = T.kids := by
      apply List.ext_getElem u1
      intro i h1' h2'
      have hm := getD_mem (l := T.kids) h2'
      have s1 := sizesN_mem hm
      have := ih _ hm (hkk _ hm) (d + bindsF T) _ (Ex.plain_kids hp _ hm) (by omega) (by omega) (u2 i h2')
      simpa [List.getD_eq_getElem?_getD, h1', h2'] using this
    cases y with
    | nil => exact absurd rfl p0
    | node k n nm mk l =>
      cases T with
      | nil => exact absurd rfl hT
      | node k' n' nm' mk' l' =>
        simp only [Tree.kind, Tree.n, Tree.name, Tree.mark, Tree.kids] at p1 p2 p3 p4 hkids
        subst p1 p2 p3 p4 hkids
        rfl
def SubP (b k T : Tree) : Prop := isConF T = true → ∀ (Δ : List Tree) (y : Tree), Plain T → Δ.length + sizeN T ≤ 274877906944 → (kindF (Δ ++ [k]) T).2 = 0 → rputF 0 b T Δ.length = some y → kindF Δ y = kindF (Δ ++ [k]) T ∨ (kindF Δ y).2 = 15
theorem must_sub {r r' : Tree × Int} (h : r' = r ∨ r'.2 = 15) (hr : mustE r = 0) : mustE r' = 0 ∨ mustE r' = 15 := by
  rcases h with rfl | h
  · exact .inl hr
  · refine .inr ?_
    unfold mustE
    rw [if_pos (by omega)]; exact h
theorem stars_sub {b k : Tree} {Δ : List Tree} : ∀ {l ls : List Tree}, (∀ x ∈ l, SubP b k x ∧ isConF x = true ∧ Plain x ∧ Δ.length + sizeN x ≤ 274877906944) → ls.length = l.length → (∀ i, i < l.length → rputF 0 b (l.getD i .nil) Δ.length = some (ls.getD i .nil)) →
    starsE (Δ ++ [k]) l = 0 → starsE Δ ls = 0 ∨ starsE Δ ls = 15
  | [], [], _, _, _, _ => .inl rfl
  | [], _ :: _, _, h, _, _ => by simp at h
  | _ :: _, [], _, h, _, _ => by simp at h
  | x :: l, y :: ls, hx, hl, hp, hs => by
    rw [starsE] at hs
    have h1 : mustE (kindF (Δ ++ [k]) x) = 0 := by
      apply Decidable.byContradiction
      intro hn
      rw [if_pos hn] at hs
      exact hn hs
    rw [if_neg (by omega)] at hs
    obtain ⟨g1, g2, g3, g4⟩ := hx x (by simp)
    have h2 := must_sub (g1 g2 Δ y g3 g4 (mustE_zero h1) (hp 0 (by simp))) h1
    have h3 := stars_sub (k := k) (l := l) (ls := ls) (fun z hz => hx z (by simp [hz])) (by simpa using hl) (fun i hi => by have := hp (i + 1) (by simpa using hi); simpa only [List.getD_cons_succ] using this) hs
    rw [starsE]
    rcases h2 with h2 | h2
    · rw [if_neg (by omega)]; exact h3
    · rw [if_pos (by omega)]; exact .inr h2
theorem inner_get {l : List Tree} {i : Nat} (h : i < l.length) : (innerF l).getD i .nil = (l.getD i .nil).kids.getD 0 .nil := by
  unfold innerF
  simp [List.getD_eq_getElem?_getD, h]
theorem starsIn_sub {b k : Tree} {Δ : List Tree} {kind : Int} (hkind : kind = 116 ∨ kind = 122) {l ls : List Tree} (hf : ∀ x ∈ l, fieldF kind x = true) (hx : ∀ x ∈ l, ∀ y ∈ x.kids, SubP b k y) (hpl : ∀ x ∈ l, Plain x) (hz : Δ.length + sizesN l ≤ 274877906944) (hl : ls.length = l.length)
    (hp : ∀ i, i < l.length → rputF 0 b (l.getD i .nil) Δ.length = some (ls.getD i .nil)) (hs : starsIn (Δ ++ [k]) l = 0) : starsIn Δ ls = 0 ∨ starsIn Δ ls = 15 := by
  have hlim : lim = 1099511627776 := rfl
  have fp : ∀ x ∈ l, x ≠ .nil ∧ x.kind = kind ∧ x.kids.length = 1 ∧ isConF (x.kids.getD 0 .nil) = true := fun x hx => by
    have h := hf x hx
    have hxn : x ≠ .nil := by intro e; subst e; rw [fieldF] at h; cases h
    rw [fieldF_eq hxn] at h
    simp only [Bool.and_eq_true, beq_iff_eq] at h
    exact ⟨hxn, h.1.1.1.1, by omega, h.2⟩
  have gp : ∀ i, i < l.length → ls.getD i .nil ≠ .nil ∧ (ls.getD i .nil).kids.length = 1 ∧ rputF 0 b ((l.getD i .nil).kids.getD 0 .nil) Δ.length = some ((ls.getD i .nil).kids.getD 0 .nil) := fun i hi => by
    have hm := getD_mem hi
    have s1 := sizesN_mem hm
    obtain ⟨f1, f2, f3, f4⟩ := fp _ hm
    have h := hp i hi
    have hk : (l.getD i .nil).kind ≠ 110 := by omega
    obtain ⟨p0, _⟩ := Ex.put_inv (hpl _ hm) hk h
    obtain ⟨u1, u2⟩ := Ex.put_kids (hpl _ hm) hk ⟨by omega, by omega⟩ h
    have hb : bindsF (l.getD i .nil) = 0 := binds_zero (by omega) (by omega) (by omega) (by omega)
    have := u2 0 (by omega)
    rw [hb, Int.add_zero] at this
    exact ⟨p0, by omega, this⟩
  rw [starsIn_eq _ _ (fun x hx => (fp x hx).1)] at hs
  rw [starsIn_eq _ _ (fun x hx => by
    obtain ⟨i, hi, rfl⟩ := List.getElem_of_mem hx
    have := (gp i (by omega)).1
    simpa [List.getD_eq_getElem?_getD, hi] using this)]
  refine stars_sub (b := b) (k := k) (l := innerF l) ?_ (by unfold innerF; simp [hl]) (fun i hi => ?_) hs
  · intro y hy
    unfold innerF at hy
    obtain ⟨x, hxm, rfl⟩ := List.mem_map.1 hy
    obtain ⟨f1, f2, f3, f4⟩ := fp x hxm
    have m0 := getD_mem (l := x.kids) (i := 0) (by omega)
    have s1 := sizesN_mem hxm
    have s2 := sizesN_mem m0
    have s3 := sizeN_kids f1
    exact ⟨hx x hxm _ m0, f4, Ex.plain_kids (hpl x hxm) _ m0, by omega⟩
  · have hi' : i < l.length := by unfold innerF at hi; simpa using hi
    rw [inner_get hi', inner_get (by omega)]
    exact (gp i hi').2.2
theorem appR_sub {f g f' g' : Tree × Int} (h1 : f' = f ∨ f'.2 = 15) (h2 : g' = g ∨ g'.2 = 15) (h0 : (appR f g).2 = 0) : appR f' g' = appR f g ∨ (appR f' g').2 = 15 := by
  rcases h1 with rfl | h1
  · by_cases hf : f'.2 = 0
    · rcases h2 with rfl | h2
      · exact .inl rfl
      · refine .inr ?_
        unfold appR
        rw [if_neg (by omega), if_pos (by omega)]; exact h2
    · unfold appR at h0
      rw [if_pos hf] at h0
      exact absurd h0 hf
  · refine .inr ?_
    unfold appR
    rw [if_pos (by omega)]; exact h1
theorem appR_zero {f g : Tree × Int} (h0 : (appR f g).2 = 0) : f.2 = 0 ∧ g.2 = 0 := by
  unfold appR at h0
  by_cases hf : f.2 = 0
  · rw [if_neg (by omega)] at h0
    by_cases hg : g.2 = 0
    · exact ⟨hf, hg⟩
    · rw [if_pos hg] at h0; exact absurd h0 hg
  · rw [if_pos hf] at h0; exact absurd h0 hf
theorem star_sub {e e' : Int} (h : e' = 0 ∨ e' = 15) (h0 : (starR e).2 = 0) : starR e' = starR e ∨ (starR e').2 = 15 := by
  have := starR_zero' h0
  subst this
  rcases h with rfl | rfl
  · exact .inl rfl
  · exact .inr rfl
theorem kind_sub {b k : Tree} (hb : conE b = 0) (hk0 : kindF [] b = (k, 0)) (T : Tree) : SubP b k T := by
  have hlim : lim = 1099511627776 := rfl
  have hzb := conE_size hb
  have hcb := (conE_full hb).2
  have hfr : freeR b = 0 := by
    have h1 := (more_kind [] b hcb [] (by rw [hk0])).2 0 (by omega) (by simp) (by simp; omega)
    have h2 := Tm.freeR_le b
    rw [freeR_eq, rfreeR, if_pos hb] at h2 ⊢
    simp at h1
    omega
  suffices h : SubP b k T ∧ ∀ x ∈ T.kids, SubP b k x from h.1
  induction T using Tree.ind' with
  | h0 => exact ⟨fun h => (by rw [isConF] at h; cases h), fun x hx => (by cases hx)⟩
  | h1 T hT ih =>
    refine ⟨fun hcon Δ y hp hz hk hput => ?_, fun x hx => (ih x hx).1⟩
    have hsz := sizeN_kids hT
    have e1 := kindF_eq (Δ ++ [k]) hT
    by_cases h110 : T.kind = 110
    · have hv := con_var hT hcon h110
      rw [if_pos h110] at e1
      have hn : ¬ ((Δ ++ [k]).length : Int) ≤ T.n := by
        intro hn
        rw [e1, if_pos hn] at hk
        cases hk
      rw [if_neg hn] at e1
      have hn' : T.n ≤ Δ.length := by simp at hn; omega
      rcases Ex.put_var hp h110 ⟨by omega, by omega⟩ (by omega) hput with ⟨r1, r2, r3⟩ | ⟨r1, r2⟩
      · rw [rmoved_vmap _ 0 b 0 (conE_plain hb) (by omega) (by omega), Sb.con_fixed hb hfr] at r3
        cases r3
        have h1 := (more_kind Δ b hcb [] (by rw [hk0])).1
        rw [List.nil_append, hk0] at h1
        have e : (Δ ++ [k]).getD T.n.toNat .nil = k := by
          have : T.n.toNat = Δ.length := by omega
          rw [this]; simp [List.getD_eq_getElem?_getD]
        rw [e] at e1
        exact .inl (by rw [h1, e1])
      · rw [r2]
        have h2 : T.n < Δ.length := by omega
        have e : (Δ ++ [k]).getD T.n.toNat .nil = Δ.getD T.n.toNat .nil := more_get (by omega)
        rw [e] at e1
        refine .inl ?_
        rw [kindF_eq Δ hT, if_pos h110, if_neg (by omega), e1]
    obtain ⟨p0, p1, p2, p3, p4, p5⟩ := Ex.put_inv hp h110 hput
    obtain ⟨u1, u2⟩ := Ex.put_kids hp h110 ⟨by omega, by omega⟩ hput
    have e2 := kindF_eq Δ p0
    rw [p1] at e2
    have hpk := Ex.plain_kids hp
    rcases con_kids hT hcon with hc | hc | hc | hc | hc | hc | hc | hc | hc | hc | hc
    · exact absurd hc h110
    · rw [if_neg (by omega), if_neg (by omega), if_neg (by omega), if_neg (by omega), if_neg (by omega), if_neg (by omega), if_neg (by omega)] at e1 e2
      exact .inl (by rw [e1, e2])
    · rw [if_neg (by omega), if_neg (by omega), if_neg (by omega), if_neg (by omega), if_neg (by omega), if_neg (by omega), if_neg (by omega)] at e1 e2
      exact .inl (by rw [e1, e2])
    · rw [if_neg (by omega), if_neg (by omega), if_neg (by omega), if_neg (by omega), if_neg (by omega), if_neg (by omega), if_neg (by omega)] at e1 e2
      exact .inl (by rw [e1, e2])
    · -- two of them
      rw [if_neg (by omega), if_pos hc] at e1 e2
      obtain ⟨h1, h2, h3⟩ := con_two hT hcon (.inl hc)
      have hb0 : bindsF T = 0 := binds_zero (by omega) (by omega) (by omega) (by omega)
      rw [hb0, Int.add_zero] at u2
      rw [e1] at hk
      rw [e1, e2]
      refine star_sub (stars_sub (b := b) (k := k) (l := T.kids) (fun x hx => ?_) u1 u2 (starR_zero' hk)) hk
      have s1 := sizesN_mem hx
      refine ⟨(ih x hx).1, ?_, hpk x hx, by omega⟩
      rcases mem_two h1 hx with e | e <;> rw [e]
      · exact h2
      · exact h3
    · -- a record
      rw [if_neg (by omega), if_neg (by omega), if_pos hc] at e1 e2
      have hf := rec_fields hT hcon hc
      have hb0 : bindsF T = 0 := binds_zero (by omega) (by omega) (by omega) (by omega)
      rw [hb0, Int.add_zero] at u2
      rw [e1] at hk
      rw [e1, e2]
      exact star_sub (starsIn_sub (k := k) (.inl rfl) hf (fun x hx => (ih x hx).2) hpk (by omega) u1 u2 (starR_zero' hk)) hk
    · -- a binder
      rw [if_neg (by omega), if_neg (by omega), if_neg (by omega), if_pos (.inl hc)] at e1 e2
      obtain ⟨h1, h2, h3⟩ := con_bind hT hcon (.inl hc)
      have m0 := getD_mem (l := T.kids) (i := 0) (by omega)
      have m1 := getD_mem (l := T.kids) (i := 1) (by omega)
      have s0 := sizesN_mem m0
      have s1 := sizesN_mem m1
      have hb1 : bindsF T = 1 := binds_one (by omega)
      rw [hb1] at u2
      have hK := kind_put_id _ h2 _ _ (hpk _ m0) (by omega) (by omega) (u2 0 (by omega))
      rw [hK] at e2
      rw [e1] at hk
      rw [e1, e2]
      have hm := starR_zero' hk
      have hz' := mustE_zero hm
      have hu := u2 1 (by omega)
      rw [show (Δ.length : Int) + 1 = ((T.kids.getD 0 .nil :: Δ).length : Int) by simp] at hu
      exact star_sub (must_sub ((ih _ m1).1 h3 (T.kids.getD 0 .nil :: Δ) _ (hpk _ m1) (by simp only [List.length_cons]; omega) hz' hu) hm) hk
    · -- a binder
      rw [if_neg (by omega), if_neg (by omega), if_neg (by omega), if_pos (.inr hc)] at e1 e2
      obtain ⟨h1, h2, h3⟩ := con_bind hT hcon (.inr (.inl hc))
      have m0 := getD_mem (l := T.kids) (i := 0) (by omega)
      have m1 := getD_mem (l := T.kids) (i := 1) (by omega)
      have s0 := sizesN_mem m0
      have s1 := sizesN_mem m1
      have hb1 : bindsF T = 1 := binds_one (by omega)
      rw [hb1] at u2
      have hK := kind_put_id _ h2 _ _ (hpk _ m0) (by omega) (by omega) (u2 0 (by omega))
      rw [hK] at e2
      rw [e1] at hk
      rw [e1, e2]
      have hm := starR_zero' hk
      have hz' := mustE_zero hm
      have hu := u2 1 (by omega)
      rw [show (Δ.length : Int) + 1 = ((T.kids.getD 0 .nil :: Δ).length : Int) by simp] at hu
      exact star_sub (must_sub ((ih _ m1).1 h3 (T.kids.getD 0 .nil :: Δ) _ (hpk _ m1) (by simp only [List.length_cons]; omega) hz' hu) hm) hk
    · -- a function
      rw [if_neg (by omega), if_neg (by omega), if_neg (by omega), if_neg (by omega), if_pos hc] at e1 e2
      obtain ⟨h1, h2, h3⟩ := con_bind hT hcon (.inr (.inr hc))
      have m0 := getD_mem (l := T.kids) (i := 0) (by omega)
      have m1 := getD_mem (l := T.kids) (i := 1) (by omega)
      have s0 := sizesN_mem m0
      have s1 := sizesN_mem m1
      have hb1 : bindsF T = 1 := binds_one (by omega)
      rw [hb1] at u2
      have hK := kind_put_id _ h2 _ _ (hpk _ m0) (by omega) (by omega) (u2 0 (by omega))
      rw [hK] at e2
      have hm0 : (kindF (T.kids.getD 0 .nil :: (Δ ++ [k])) (T.kids.getD 1 .nil)).2 = 0 := by
        apply Decidable.byContradiction
        intro hn
        rw [e1, if_pos hn] at hk
        exact hn hk
      have hu := u2 1 (by omega)
      rw [show (Δ.length : Int) + 1 = ((T.kids.getD 0 .nil :: Δ).length : Int) by simp] at hu
      rw [if_neg (by omega)] at e1
      rw [e1, e2]
      rcases (ih _ m1).1 h3 (T.kids.getD 0 .nil :: Δ) _ (hpk _ m1) (by simp only [List.length_cons]; omega) hm0 hu with h | h
      · rw [h]
        rw [show (T.kids.getD 0 .nil :: Δ) ++ [k] = T.kids.getD 0 .nil :: (Δ ++ [k]) from rfl, if_neg (by omega)]
        exact .inl rfl
      · rw [if_pos (by omega)]
        exact .inr h
    · -- an application
      rw [if_neg (by omega), if_neg (by omega), if_neg (by omega), if_neg (by omega), if_neg (by omega), if_pos hc] at e1 e2
      obtain ⟨h1, h2, h3⟩ := con_two hT hcon (.inr hc)
      have m0 := getD_mem (l := T.kids) (i := 0) (by omega)
      have m1 := getD_mem (l := T.kids) (i := 1) (by omega)
      have s0 := sizesN_mem m0
      have s1 := sizesN_mem m1
      have hb0 : bindsF T = 0 := binds_zero (by omega) (by omega) (by omega) (by omega)
      rw [hb0, Int.add_zero] at u2
      rw [e1] at hk
      rw [e1, e2]
      obtain ⟨z0, z1⟩ := appR_zero hk
      exact appR_sub ((ih _ m0).1 h2 Δ _ (hpk _ m0) (by omega) z0 (u2 0 (by omega))) ((ih _ m1).1 h3 Δ _ (hpk _ m1) (by omega) z1 (u2 1 (by omega))) hk
    · -- a sum
      rw [if_neg (by omega), if_neg (by omega), if_neg (by omega), if_neg (by omega), if_neg (by omega), if_neg (by omega), if_pos hc] at e1 e2
      have hf := sum_fields hT hcon hc
      have hb1 : bindsF T = 1 := binds_one (by omega)
      rw [hb1] at u2
      have hs0 : starsIn (starT :: (Δ ++ [k])) T.kids = 0 := by
        apply Decidable.byContradiction
        intro hn
        rw [e1, if_pos hn] at hk
        exact hn hk
      rw [if_neg (by omega)] at e1
      have hfe : fitE T.kids = 0 := by
        apply Decidable.byContradiction
        intro hn
        rw [e1, if_pos hn] at hk
        exact hn hk
      rw [if_neg (by omega)] at e1
      rw [show (Δ.length : Int) + 1 = ((starT :: Δ).length : Int) by simp] at u2
      rw [e1, e2]
      rcases starsIn_sub (k := k) (Δ := starT :: Δ) (.inr rfl) hf (fun x hx => (ih x hx).2) hpk (by simp only [List.length_cons]; omega) u1 u2 hs0 with h | h
      · rw [if_neg (by omega)]
        by_cases hq : fitE y.kids = 0
        · rw [if_neg (by omega)]; exact .inl rfl
        · rw [if_pos hq]
          refine .inr ?_
          have : fitE y.kids = 0 ∨ fitE y.kids = 15 := by unfold fitE; split <;> simp
          simp only []; omega
      · rw [if_pos (by omega)]
        exact .inr h
end Ki
end Go.Proofs.Ytoajaklekmbcdaa

namespace Go.Proofs.Ytoajaklekmbcdaa
namespace Ki
open Go Go.Mq
set_option linter.all false

theorem few_le (l : List Cel) : sizeN (fewF l) ≤ 60 := by
  have h := openF_size (fewL l) (fun c hc => by
    unfold fewL at hc
    obtain ⟨c', _, rfl⟩ := List.mem_map.1 hc
    have := loF_le 12 c'.kids.length (by omega) (by omega)
    have := cutC_len c'
    omega)
  have : (fewL l).length ≤ 60 := by unfold fewL; simp; omega
  unfold fewF
  omega
def lamK (K N : Tree) : Tree := .node 119 0 ByteArray.empty ByteArray.empty [K, N]
def appK (K N B : Tree) : Tree := .node 120 0 ByteArray.empty ByteArray.empty [lamK K N, B]
theorem appK_con {K N B : Tree} (hK : isKindF K = true) (hN : isConF N = true) (hB : isConF B = true) : isConF (appK K N B) = true := by
  have hl : isConF (lamK K N) = true := by
    unfold lamK
    rw [isConF_eq (by simp)]
    simp [Tree.kind, Tree.kids, bareF, Tree.mark, Tree.name, Tree.n, hK, hN]
  unfold appK
  rw [isConF_eq (by simp)]
  simp [Tree.kind, Tree.kids, bareF, Tree.mark, Tree.name, Tree.n, hl, hB]
theorem appK_kind {K N B : Tree} (hN : (kindF [K] N).2 = 0) (hB : kindF [] B = (K, 0)) : kindF [] (appK K N B) = kindF [K] N := by
  have hl : kindF [] (lamK K N) = (karrT K (kindF [K] N).1, 0) := by
    unfold lamK
    rw [kindF_eq [] (by simp)]
    simp [Tree.kind, Tree.kids, hN]
  unfold appK
  rw [kindF_eq [] (by simp)]
  have e : appR (kindF [] (lamK K N)) (kindF [] B) = kindF [K] N := by
    rw [hl, hB]
    unfold appR karrT
    have hs := (sameF_iff K K).2 rfl
    simp [Tree.kind, Tree.kids, hs]
    rw [← hN]
  simpa [Tree.kind, Tree.kids] using e
/-- What comes of it by a substitution. -/
theorem subst_kind {K N B s : Tree} (hN : conE N = 0) (hB : conE B = 0) (hkN : (kindF [K] N).2 = 0) (hkB : kindF [] B = (K, 0)) (h : substR N 0 B = (s, 0)) :
    conE s = 0 ∧ (kindF [] s = kindF [K] N ∨ (kindF [] s).2 = 15) := by
  have hlim : lim = 1099511627776 := rfl
  have hzN := conE_size hN
  have hzB := conE_size hB
  have hcB := (conE_full hB).2
  have hcN := (conE_full hN).2
  have hfr : freeR B = 0 := by
    have h1 := (more_kind [] B hcB [] (by rw [hkB])).2 0 (by omega) (by simp) (by simp; omega)
    have h2 := Tm.freeR_le B
    rw [freeR_eq, rfreeR, if_pos hB] at h2 ⊢
    simp at h1
    omega
  obtain ⟨y, hy, ⟨g1, g2⟩ | ⟨g1, _⟩⟩ := Sb.step_con hB hfr hN (Int.le_refl 0) (by omega)
  · rw [h] at g1
    obtain rfl : s = y := (Prod.mk.inj g1).1
    have hfN : rfreeF N 0 ≤ 1 := by
      have h1 := (more_kind [] N hcN [K] hkN).2 0 (by omega) (by simp) (by simp; omega)
      simp at h1
      omega
    obtain ⟨f1, _, _⟩ := free_hits N 0 (conE_plain hN) (by omega) (by omega)
    have hna : vmap (fM 1 (1 + 0)) N 0 = some N := Sb.nohits_gen (i0 := 1) (by omega) (fun n d h => by unfold fM; rw [if_neg (by omega)]) N 0 (conE_plain hN) (by omega) (by omega) fun j hj => f1 j (by omega)
    have hcs := Ex.con_put (D := 0) (s := B) (Int.le_refl 0) (fun d y h0 h1 hy => by
      rw [rmoved_vmap d 0 B 0 (conE_plain hB) (by omega) (by omega), Sb.con_fixed hB hfr] at hy
      cases hy; exact hcB) N hcN 0 s (conE_plain hN) (by omega) (by omega) hna hy
    refine ⟨conE_of hcs g2, ?_⟩
    exact kind_sub hB hkB N hcN [] s (conE_plain hN) (by simp; omega) hkN hy
  · rw [h] at g1; exact absurd rfl g1
theorem kindR_one {T : Tree} (h : conE T = 0) : kindR [] T = kindF [] T := by
  unfold kindR
  have : ctxE 0 [] = 0 := rfl
  rw [this, if_neg (by decide), if_neg (by omega), if_neg (by decide)]
set_option maxHeartbeats 4000000 in
set_option maxRecDepth 10000 in
theorem kindingSubst_ok (l0 l1 l2 : List Cel) : Pure P 3 [.agg [.d (cellsD l0)], .agg [.d (cellsD l1)], .agg [.d (cellsD l2)]] (.d (.bool true)) := by
  have hf0 := few_ok l0
  have hf1 := few_ok l1
  have hf2 := few_ok l2
  have z0 := few_le l0
  have z1 := few_le l1
  have z2 := few_le l2
  generalize fewF l0 = K at *
  generalize fewF l1 = N at *
  generalize fewF l2 = B at *
  have h1 := Kind_ok [K] N (by simp)
  have h2 := (Kind_ok [] B (by simp)).nils
  have h3 := same_ok (kindR [] B).1 K
  refine Pure.of_body tt [29, 54, 56, 58, 60] [6] Try.func3 rfl rfl rfl (Nat.le_of_ble_eq_true rfl) fun g => ?_
  by_cases e1 : (kindR [K] N).2 = 0
  · by_cases e2 : (kindR [] B).2 = 0
    · cases e3 : sameF (kindR [] B).1 K with
      | false =>
        rw [e3] at h3
        generalize kindR [K] N = R1 at *
        generalize kindR [] B = R2 at *
        rw [e1] at h1
        rw [e2] at h2
        repeat' ((first
          | refine then_go hm htt ?_
          | refine Side.go ?_
          | refine Hyp.go fun hlen => ?_
          | refine Split.ct ?_
          | refine Split.cf ?_
          | refine Split.tt ?_
          | refine Split.ff ?_
          | refine Indep.go ?_
          | refine CallG.gp hf0 ?_
          | refine CallG.gp hf1 ?_
          | refine CallG.gp hf2 ?_
          | refine CallG.gp h1 ?_
          | refine CallG.gp h2 ?_
          | refine CallG.gp h3 ?_
          | refine CallG.gp works12_ok ?_
          | refine Split.go (fun hc => ?_) fun hc => ?_) <;> conv => whnf)
        all_goals exact ret_closed rfl rfl rfl
      | true =>
        obtain ⟨a1, a2, a3⟩ := kindR_ok e1
        obtain ⟨b1, b2, b3⟩ := kindR_ok e2
        have eK := (sameF_iff _ _).1 e3
        rw [b3] at eK e2
        rw [a3] at e1 h1
        have hkB : kindF [] B = (K, 0) := Prod.ext eK e2
        have hKk : isKindF K = true := kindE_full' (ctxE_ok [K] a1 K (by simp))
        rw [e3] at h3
        rw [b3, hkB] at h2 h3
        simp only [] at h2 h3
        have hac := conE_of (appK_con hKk (conE_full a2).2 (conE_full b2).2) (by unfold appK lamK; simp [sizeN, sizesN]; omega)
        have h4 := (Kind_ok [] (appK K N B) (by simp)).nils
        rw [kindR_one hac, appK_kind e1 hkB] at h4
        have h5 := subst_ok N 0 B
        rw [e1] at h1 h4
        by_cases e5 : (substR N 0 B).2 = 0
        · obtain ⟨hcs, hks⟩ := subst_kind a2 b2 e1 hkB (Prod.ext rfl e5)
          have h6 := (Kind_ok [] (substR N 0 B).1 (by simp)).nils
          rw [kindR_one hcs] at h6
          rw [e5] at h5
          generalize (substR N 0 B).1 = s at *
          rcases hks with hks | hks
          · rw [hks, e1] at h6
            generalize (kindF [K] N).1 = A at *
            repeat' ((first
              | refine then_go hm htt ?_
              | refine Side.go ?_
              | refine Hyp.go fun hlen => ?_
              | refine Split.ct ?_
              | refine Split.cf ?_
              | refine Split.tt ?_
              | refine Split.ff ?_
              | refine Indep.go ?_
              | refine CallG.gp hf0 ?_
              | refine CallG.gp hf1 ?_
              | refine CallG.gp hf2 ?_
              | refine CallG.gp h1 ?_
              | refine CallG.gp h2 ?_
              | refine CallG.gp h3 ?_
              | refine CallG.gp h4 ?_
              | refine CallG.gp (same_self _) ?_
              | refine CallG.gp h5 ?_
              | refine CallG.gp h6 ?_
              | refine CallG.gp works12_ok ?_
              | refine Split.go (fun hc => ?_) fun hc => ?_) <;> conv => whnf)
            all_goals exact ret_closed rfl rfl rfl
          · rw [hks] at h6
            generalize (kindF [K] N).1 = A at *
            generalize (kindF [] s).1 = A2 at *
            repeat' ((first
              | refine then_go hm htt ?_
              | refine Side.go ?_
              | refine Hyp.go fun hlen => ?_
              | refine Split.ct ?_
              | refine Split.cf ?_
              | refine Split.tt ?_
              | refine Split.ff ?_
              | refine Indep.go ?_
              | refine CallG.gp hf0 ?_
              | refine CallG.gp hf1 ?_
              | refine CallG.gp hf2 ?_
              | refine CallG.gp h1 ?_
              | refine CallG.gp h2 ?_
              | refine CallG.gp h3 ?_
              | refine CallG.gp h4 ?_
              | refine CallG.gp (same_self _) ?_
              | refine CallG.gp h5 ?_
              | refine CallG.gp h6 ?_
              | refine CallG.gp works12_ok ?_
              | refine Split.go (fun hc => ?_) fun hc => ?_) <;> conv => whnf)
            all_goals exact ret_closed rfl rfl rfl
        · generalize substR N 0 B = S at *
          generalize (kindF [K] N).1 = A at *
          repeat' ((first
            | refine then_go hm htt ?_
            | refine Side.go ?_
            | refine Hyp.go fun hlen => ?_
            | refine Split.ct ?_
            | refine Split.cf ?_
            | refine Split.tt ?_
            | refine Split.ff ?_
            | refine Indep.go ?_
            | refine CallG.gp hf0 ?_
            | refine CallG.gp hf1 ?_
            | refine CallG.gp hf2 ?_
            | refine CallG.gp h1 ?_
            | refine CallG.gp h2 ?_
            | refine CallG.gp h3 ?_
            | refine CallG.gp h4 ?_
            | refine CallG.gp (same_self _) ?_
            | refine CallG.gp h5 ?_
            | refine CallG.gp works12_ok ?_
            | refine Split.go (fun hc => ?_) fun hc => ?_) <;> conv => whnf)
          all_goals exact ret_closed rfl rfl rfl
    · generalize kindR [K] N = R1 at *
      generalize kindR [] B = R2 at *
      rw [e1] at h1
      repeat' ((first
        | refine then_go hm htt ?_
        | refine Side.go ?_
        | refine Hyp.go fun hlen => ?_
        | refine Split.ct ?_
        | refine Split.cf ?_
        | refine Split.tt ?_
        | refine Split.ff ?_
        | refine Indep.go ?_
        | refine CallG.gp hf0 ?_
        | refine CallG.gp hf1 ?_
        | refine CallG.gp hf2 ?_
        | refine CallG.gp h1 ?_
        | refine CallG.gp h2 ?_
        | refine CallG.gp works12_ok ?_
        | refine Split.go (fun hc => ?_) fun hc => ?_) <;> conv => whnf)
      all_goals exact ret_closed rfl rfl rfl
  · generalize kindR [K] N = R1 at *
    repeat' ((first
      | refine then_go hm htt ?_
      | refine Side.go ?_
      | refine Hyp.go fun hlen => ?_
      | refine Split.ct ?_
      | refine Split.cf ?_
      | refine Split.tt ?_
      | refine Split.ff ?_
      | refine Indep.go ?_
      | refine CallG.gp hf0 ?_
      | refine CallG.gp hf1 ?_
      | refine CallG.gp hf2 ?_
      | refine CallG.gp h1 ?_
      | refine CallG.gp h2 ?_
      | refine CallG.gp works12_ok ?_
      | refine Split.go (fun hc => ?_) fun hc => ?_) <;> conv => whnf)
    all_goals exact ret_closed rfl rfl rfl
end Ki
end Go.Proofs.Ytoajaklekmbcdaa
