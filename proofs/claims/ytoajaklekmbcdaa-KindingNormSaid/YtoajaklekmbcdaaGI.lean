/- What functions of the program compute, and plain facts about it. -/
import Derived.Test.YtoajaklekmbcdaaGH
set_option linter.all false
namespace Go.Proofs.Ytoajaklekmbcdaa
namespace Ki
open Go Go.Mq
set_option linter.all false

/-! More of a context -/
theorem more_get {ctx m : List Tree} {i : Nat} (h : i < ctx.length) : (ctx ++ m).getD i .nil = ctx.getD i .nil := by simp [List.getElem?_append_left h]
theorem mustE_zero {r : Tree × Int} (h : mustE r = 0) : r.2 = 0 := by
  unfold mustE at h
  split at h
  · exact absurd h ‹_›
  · rename_i h1; simpa using h1
theorem starR_zero' {e : Int} (h : (starR e).2 = 0) : e = 0 := by
  unfold starR at h
  split at h
  · assumption
  · exact h
theorem kind_free (K : Tree) : isKindF K = true → ∀ d : Int, 0 ≤ d → d + sizeN K ≤ 1099511627776 → rfreeF K d = 0 := by
  induction K using Tree.ind' with
  | h0 => intro h; rw [isKindF] at h; cases h
  | h1 T hT ih =>
    intro h d hd hz
    have hk : T.kind = 100 ∨ T.kind = 101 := by
      rw [isKindF_eq hT] at h
      apply Decidable.byContradiction
      intro hn
      rw [if_neg (by omega), if_neg (by omega)] at h
      cases h
    have hb : bindsF T = 0 := by unfold bindsF; rw [if_neg (by omega), if_neg (by omega), if_neg (by omega), if_neg (by omega)]
    have hsz := sizeN_kids hT
    rw [rfreeF_eq hT, if_neg (by omega), hb, Int.add_zero, wrap64 (by omega) (by omega)]
    have hkids : ∀ x ∈ T.kids, isKindF x = true := by
      rw [isKindF_eq hT] at h
      intro x hx
      rcases hk with hk | hk
      · rw [if_pos hk, Bool.and_eq_true, beq_iff_eq] at h
        have : T.kids = [] := List.length_eq_zero_iff.1 (by omega)
        rw [this] at hx; cases hx
      · rw [if_neg (by omega), if_pos hk] at h
        simp only [Bool.and_eq_true, beq_iff_eq] at h
        rcases mem_two (by omega : T.kids.length = 2) hx with e | e
        · rw [e]; exact h.1.2
        · rw [e]; exact h.2
    have key : ∀ l : List Tree, (∀ x ∈ l, rfreeF x d = 0) → rfreesF 0 l d = 0 := by
      intro l
      induction l with
      | nil => intro _; rfl
      | cons x l ih2 =>
        intro hx
        rw [rfreesF, hx x (by simp)]
        exact ih2 fun y hy => hx y (by simp [hy])
    exact key _ fun x hx => ih x hx (hkids x hx) d hd (by have := sizesN_mem hx; omega)
theorem frees_le {m B d : Int} : ∀ l : List Tree, m ≤ B → (∀ x ∈ l, rfreeF x d ≤ B) → rfreesF m l d ≤ B
  | [], hm, _ => hm
  | x :: l, hm, h => by
    rw [rfreesF]
    split
    · exact frees_le l (h x (by simp)) fun y hy => h y (by simp [hy])
    · exact frees_le l hm fun y hy => h y (by simp [hy])
def MoreP (m : List Tree) (T : Tree) : Prop := isConF T = true → ∀ ctx : List Tree, (kindF ctx T).2 = 0 → kindF (ctx ++ m) T = kindF ctx T ∧ ∀ d : Int, 0 ≤ d → d ≤ ctx.length → ctx.length + sizeN T ≤ 1099511627776 → rfreeF T d ≤ ctx.length - d
theorem stars_more (m ctx : List Tree) : ∀ l : List Tree, (∀ x ∈ l, MoreP m x ∧ isConF x = true) → starsE ctx l = 0 → starsE (ctx ++ m) l = 0 ∧ ∀ x ∈ l, ∀ d : Int, 0 ≤ d → d ≤ ctx.length → ctx.length + sizeN x ≤ 1099511627776 → rfreeF x d ≤ ctx.length - d
  | [], _, _ => ⟨rfl, fun x hx => by cases hx⟩
  | x :: l, h, hs => by
    rw [starsE] at hs
    have hx : mustE (kindF ctx x) = 0 := by
      apply Decidable.byContradiction
      intro hn
      rw [if_pos hn] at hs
      exact hn hs
    rw [if_neg (by omega)] at hs
    obtain ⟨h1, h2⟩ := h x (by simp)
    obtain ⟨g1, g2⟩ := h1 h2 ctx (mustE_zero hx)
    obtain ⟨q1, q2⟩ := stars_more m ctx l (fun y hy => h y (by simp [hy])) hs
    refine ⟨by rw [starsE, g1, if_neg (by omega)]; exact q1, fun y hy => ?_⟩
    rcases List.mem_cons.1 hy with rfl | hy
    · exact g2
    · exact q2 y hy
theorem free_field {x : Tree} (hx : x ≠ .nil) (h1 : x.kids.length = 1) (hk : x.kind = 116 ∨ x.kind = 122) {d B : Int} (hd : 0 ≤ d) (hz : d ≤ 1099511627776) (hB : 0 ≤ B) (h : rfreeF (x.kids.getD 0 .nil) d ≤ B) : rfreeF x d ≤ B := by
  have hb : bindsF x = 0 := by unfold bindsF; rw [if_neg (by omega), if_neg (by omega), if_neg (by omega), if_neg (by omega)]
  rw [rfreeF_eq hx, if_neg (by omega), hb, Int.add_zero, wrap64 (by omega) (by omega)]
  refine frees_le _ hB fun y hy => ?_
  rw [mem_one h1 hy]; exact h
theorem field_kind {kind : Int} {x : Tree} (h : fieldF kind x = true) : x.kind = kind := by
  have hx : x ≠ .nil := by intro e; subst e; rw [fieldF] at h; cases h
  rw [fieldF_eq hx] at h
  simp only [Bool.and_eq_true, beq_iff_eq] at h
  exact h.1.1.1.1
theorem binds_zero {T : Tree} (h1 : T.kind ≠ 117) (h2 : T.kind ≠ 118) (h3 : T.kind ≠ 119) (h4 : T.kind ≠ 121) : bindsF T = 0 := by
  unfold bindsF; rw [if_neg h1, if_neg h2, if_neg h3, if_neg h4]
theorem binds_one {T : Tree} (h : T.kind = 117 ∨ T.kind = 118 ∨ T.kind = 119 ∨ T.kind = 121) : bindsF T = 1 := by
  unfold bindsF; repeat' split
  all_goals omega
/-- What has a kind in a context has it in a longer one, and needs no more of it than there is. -/
theorem more_kind (m : List Tree) (T : Tree) : MoreP m T := by
  suffices h : MoreP m T ∧ ∀ x ∈ T.kids, MoreP m x from h.1
  induction T using Tree.ind' with
  | h0 => exact ⟨fun h => (by rw [isConF] at h; cases h), fun x hx => (by cases hx)⟩
  | h1 T hT ih =>
    refine ⟨fun hcon ctx hk0 => ?_, fun x hx => (ih x hx).1⟩
    have hsz := sizeN_kids hT
    have e1 := kindF_eq ctx hT
    have e2 := kindF_eq (ctx ++ m) hT
    have hfr := rfreeF_eq hT
    have leaf : T.kids = [] → T.kind ≠ 110 → ∀ d : Int, d ≤ ctx.length → rfreeF T d ≤ ctx.length - d := fun hl hk d hd => by
      rw [hfr, if_neg (by omega), hl, rfreesF]; omega
    have empty : T.kind = 111 ∨ T.kind = 112 ∨ T.kind = 113 → T.kids = [] := fun hk => by
      rw [isConF_eq hT, Bool.and_eq_true] at hcon
      obtain ⟨_, h⟩ := hcon
      rw [if_neg (by omega), if_pos hk, beq_iff_eq] at h
      exact List.length_eq_zero_iff.1 (by omega)
    rcases con_kids hT hcon with hk | hk | hk | hk | hk | hk | hk | hk | hk | hk | hk
    · have hv := con_var hT hcon hk
      rw [if_pos hk] at e1 e2
      have hn : ¬ (ctx.length : Int) ≤ T.n := by
        intro hn
        rw [e1, if_pos hn] at hk0
        cases hk0
      rw [if_neg hn] at e1
      rw [if_neg (by simp; omega), more_get (by omega)] at e2
      refine ⟨by rw [e1, e2], fun d hd hd2 hz => ?_⟩
      have hl : T.kids = [] := by
        rw [isConF_eq hT, Bool.and_eq_true] at hcon
        obtain ⟨_, h⟩ := hcon
        rw [if_pos hk] at h
        simp only [Bool.and_eq_true, beq_iff_eq] at h
        exact List.length_eq_zero_iff.1 (by omega)
      rw [hfr, hl, rfreesF]
      split
      · rw [wrap64 (x := T.n - d) (by omega) (by omega), wrap64 (by omega) (by omega)]; omega
      · omega
    · rw [if_neg (by omega), if_neg (by omega), if_neg (by omega), if_neg (by omega), if_neg (by omega), if_neg (by omega), if_neg (by omega)] at e1 e2
      exact ⟨by rw [e1, e2], fun d hd hd2 _ => leaf (empty (by omega)) (by omega) d hd2⟩
    · rw [if_neg (by omega), if_neg (by omega), if_neg (by omega), if_neg (by omega), if_neg (by omega), if_neg (by omega), if_neg (by omega)] at e1 e2
      exact ⟨by rw [e1, e2], fun d hd hd2 _ => leaf (empty (by omega)) (by omega) d hd2⟩
    · rw [if_neg (by omega), if_neg (by omega), if_neg (by omega), if_neg (by omega), if_neg (by omega), if_neg (by omega), if_neg (by omega)] at e1 e2
      exact ⟨by rw [e1, e2], fun d hd hd2 _ => leaf (empty (by omega)) (by omega) d hd2⟩
    · rw [if_neg (by omega), if_pos hk] at e1 e2
      obtain ⟨h1, h2, h3⟩ := con_two hT hcon (.inl hk)
      have hall : ∀ x ∈ T.kids, MoreP m x ∧ isConF x = true := fun x hx => ⟨(ih x hx).1, by
        rcases mem_two h1 hx with q | q
        · rw [q]; exact h2
        · rw [q]; exact h3⟩
      have hs0 : starsE ctx T.kids = 0 := starR_zero' (by rw [← e1]; exact hk0)
      obtain ⟨q1, q2⟩ := stars_more m ctx T.kids hall hs0
      rw [hs0] at e1
      rw [q1] at e2
      refine ⟨by rw [e1, e2], fun d hd hd2 hz => ?_⟩
      rw [hfr, if_neg (by omega), binds_zero (by omega) (by omega) (by omega) (by omega), Int.add_zero, wrap64 (by omega) (by omega)]
      exact frees_le _ (by omega) fun x hx => q2 x hx d hd hd2 (by have := sizesN_mem hx; omega)
    · rw [if_neg (by omega), if_neg (by omega), if_pos hk] at e1 e2
      have hf := rec_fields hT hcon hk
      have hne : ∀ x ∈ T.kids, x ≠ .nil := fun x hx => (field_kid (hf x hx)).1
      rw [starsIn_eq _ _ hne] at e1 e2
      have hall : ∀ y ∈ innerF T.kids, MoreP m y ∧ isConF y = true := fun y hy => by
        obtain ⟨x, p1, p2, p3, p4, p5⟩ := inner_con hf y hy
        exact ⟨(ih x p1).2 y p3, p4⟩
      have hs0 : starsE ctx (innerF T.kids) = 0 := starR_zero' (by rw [← e1]; exact hk0)
      obtain ⟨q1, q2⟩ := stars_more m ctx _ hall hs0
      rw [hs0] at e1
      rw [q1] at e2
      refine ⟨by rw [e1, e2], fun d hd hd2 hz => ?_⟩
      rw [hfr, if_neg (by omega), binds_zero (by omega) (by omega) (by omega) (by omega), Int.add_zero, wrap64 (by omega) (by omega)]
      refine frees_le _ (by omega) fun x hx => ?_
      obtain ⟨f1, f2, f3⟩ := field_kid (hf x hx)
      have s1 := sizesN_mem hx
      have s2 := sizeN_kids f1
      have s3 := sizesN_mem (getD_mem (l := x.kids) (i := 0) (by omega))
      exact free_field f1 f2 (.inl (field_kind (hf x hx))) hd (by omega) (by omega) (q2 _ (List.mem_map.2 ⟨x, hx, rfl⟩) d hd hd2 (by omega))
    · rw [if_neg (by omega), if_neg (by omega), if_neg (by omega), if_pos (.inl hk)] at e1 e2
      obtain ⟨h1, h2, h3⟩ := con_bind hT hcon (.inl hk)
      have hm0 : mustE (kindF (T.kids.getD 0 .nil :: ctx) (T.kids.getD 1 .nil)) = 0 := starR_zero' (by rw [← e1]; exact hk0)
      obtain ⟨q1, q2⟩ := (ih _ (getD_mem (i := 1) (by omega))).1 h3 (T.kids.getD 0 .nil :: ctx) (mustE_zero hm0)
      rw [show T.kids.getD 0 .nil :: (ctx ++ m) = (T.kids.getD 0 .nil :: ctx) ++ m from rfl, q1] at e2
      refine ⟨by rw [e1, e2], fun d hd hd2 hz => ?_⟩
      have s0 := sizesN_mem (getD_mem (l := T.kids) (i := 0) (by omega))
      have s1 := sizesN_mem (getD_mem (l := T.kids) (i := 1) (by omega))
      rw [hfr, if_neg (by omega), binds_one (by omega), wrap64 (by omega) (by omega)]
      refine frees_le _ (by omega) fun x hx => ?_
      rcases mem_two h1 hx with q | q
      · rw [q, kind_free _ h2 (d + 1) (by omega) (by omega)]; omega
      · rw [q]
        have := q2 (d + 1) (by omega) (by simp only [List.length_cons]; push_cast; omega) (by simp only [List.length_cons]; omega)
        simp only [List.length_cons] at this
        push_cast at this
        omega
    · rw [if_neg (by omega), if_neg (by omega), if_neg (by omega), if_pos (.inr hk)] at e1 e2
      obtain ⟨h1, h2, h3⟩ := con_bind hT hcon (.inr (.inl hk))
      have hm0 : mustE (kindF (T.kids.getD 0 .nil :: ctx) (T.kids.getD 1 .nil)) = 0 := starR_zero' (by rw [← e1]; exact hk0)
      obtain ⟨q1, q2⟩ := (ih _ (getD_mem (i := 1) (by omega))).1 h3 (T.kids.getD 0 .nil :: ctx) (mustE_zero hm0)
      rw [show T.kids.getD 0 .nil :: (ctx ++ m) = (T.kids.getD 0 .nil :: ctx) ++ m from rfl, q1] at e2
      refine ⟨by rw [e1, e2], fun d hd hd2 hz => ?_⟩
      have s0 := sizesN_mem (getD_mem (l := T.kids) (i := 0) (by omega))
      have s1 := sizesN_mem (getD_mem (l := T.kids) (i := 1) (by omega))
      rw [hfr, if_neg (by omega), binds_one (by omega), wrap64 (by omega) (by omega)]
      refine frees_le _ (by omega) fun x hx => ?_
      rcases mem_two h1 hx with q | q
      · rw [q, kind_free _ h2 (d + 1) (by omega) (by omega)]; omega
      · rw [q]
        have := q2 (d + 1) (by omega) (by simp only [List.length_cons]; push_cast; omega) (by simp only [List.length_cons]; omega)
        simp only [List.length_cons] at this
        push_cast at this
        omega
    · rw [if_neg (by omega), if_neg (by omega), if_neg (by omega), if_neg (by omega), if_pos hk] at e1 e2
      obtain ⟨h1, h2, h3⟩ := con_bind hT hcon (.inr (.inr hk))
      have hm0 : (kindF (T.kids.getD 0 .nil :: ctx) (T.kids.getD 1 .nil)).2 = 0 := by
        apply Decidable.byContradiction
        intro hn
        rw [e1, if_pos hn] at hk0
        exact hn hk0
      obtain ⟨q1, q2⟩ := (ih _ (getD_mem (i := 1) (by omega))).1 h3 (T.kids.getD 0 .nil :: ctx) hm0
      rw [show T.kids.getD 0 .nil :: (ctx ++ m) = (T.kids.getD 0 .nil :: ctx) ++ m from rfl, q1] at e2
      refine ⟨by rw [e1, e2], fun d hd hd2 hz => ?_⟩
      have s0 := sizesN_mem (getD_mem (l := T.kids) (i := 0) (by omega))
      have s1 := sizesN_mem (getD_mem (l := T.kids) (i := 1) (by omega))
      rw [hfr, if_neg (by omega), binds_one (by omega), wrap64 (by omega) (by omega)]
      refine frees_le _ (by omega) fun x hx => ?_
      rcases mem_two h1 hx with q | q
      · rw [q, kind_free _ h2 (d + 1) (by omega) (by omega)]; omega
      · rw [q]
        have := q2 (d + 1) (by omega) (by simp only [List.length_cons]; push_cast; omega) (by simp only [List.length_cons]; omega)
        simp only [List.length_cons] at this
        push_cast at this
        omega
    · rw [if_neg (by omega), if_neg (by omega), if_neg (by omega), if_neg (by omega), if_neg (by omega), if_pos hk] at e1 e2
      obtain ⟨h1, h2, h3⟩ := con_two hT hcon (.inr hk)
      have hF : (kindF ctx (T.kids.getD 0 .nil)).2 = 0 := by
        apply Decidable.byContradiction
        intro hn
        rw [e1, appR, if_pos hn] at hk0
        exact hn hk0
      have hK : (kindF ctx (T.kids.getD 1 .nil)).2 = 0 := by
        apply Decidable.byContradiction
        intro hn
        rw [e1, appR, if_neg (by omega), if_pos hn] at hk0
        exact hn hk0
      obtain ⟨a1, a2⟩ := (ih _ (getD_mem (i := 0) (by omega))).1 h2 ctx hF
      obtain ⟨b1, b2⟩ := (ih _ (getD_mem (i := 1) (by omega))).1 h3 ctx hK
      rw [a1, b1] at e2
      refine ⟨by rw [e1, e2], fun d hd hd2 hz => ?_⟩
      have s0 := sizesN_mem (getD_mem (l := T.kids) (i := 0) (by omega))
      have s1 := sizesN_mem (getD_mem (l := T.kids) (i := 1) (by omega))
      rw [hfr, if_neg (by omega), binds_zero (by omega) (by omega) (by omega) (by omega), Int.add_zero, wrap64 (by omega) (by omega)]
      refine frees_le _ (by omega) fun x hx => ?_
      rcases mem_two h1 hx with q | q
      · rw [q]; exact a2 d hd hd2 (by omega)
      · rw [q]; exact b2 d hd hd2 (by omega)
    · rw [if_neg (by omega), if_neg (by omega), if_neg (by omega), if_neg (by omega), if_neg (by omega), if_neg (by omega), if_pos hk] at e1 e2
      have hf := sum_fields hT hcon hk
      have hne : ∀ x ∈ T.kids, x ≠ .nil := fun x hx => (field_kid (hf x hx)).1
      rw [starsIn_eq _ _ hne] at e1 e2
      have hall : ∀ y ∈ innerF T.kids, MoreP m y ∧ isConF y = true := fun y hy => by
        obtain ⟨x, p1, p2, p3, p4, p5⟩ := inner_con hf y hy
        exact ⟨(ih x p1).2 y p3, p4⟩
      have hs0 : starsE (starT :: ctx) (innerF T.kids) = 0 := by
        apply Decidable.byContradiction
        intro hn
        rw [e1, if_pos hn] at hk0
        exact hn hk0
      obtain ⟨q1, q2⟩ := stars_more m (starT :: ctx) _ hall hs0
      rw [hs0] at e1
      rw [show starT :: (ctx ++ m) = (starT :: ctx) ++ m from rfl, q1] at e2
      refine ⟨by rw [e1, e2], fun d hd hd2 hz => ?_⟩
      rw [hfr, if_neg (by omega), binds_one (by omega), wrap64 (by omega) (by omega)]
      refine frees_le _ (by omega) fun x hx => ?_
      obtain ⟨f1, f2, f3⟩ := field_kid (hf x hx)
      have s1 := sizesN_mem hx
      have s2 := sizeN_kids f1
      have s3 := sizesN_mem (getD_mem (l := x.kids) (i := 0) (by omega))
      have := q2 _ (List.mem_map.2 ⟨x, hx, rfl⟩) (d + 1) (by omega) (by simp only [List.length_cons]; push_cast; omega) (by simp only [List.length_cons]; omega)
      simp only [List.length_cons] at this
      push_cast at this
      exact free_field f1 f2 (.inr (field_kind (hf x hx))) (by omega) (by omega) (by omega) (by omega)

end Ki
end Go.Proofs.Ytoajaklekmbcdaa
