/- What functions of the program compute, and plain facts about it. -/
import Derived.Shelf.Spec.SlicesGrow
import Derived.Test.YtoajaklekmbcdaaGC
import Derived.Test.YtoajaklekmbcdaaGB
import Derived.Test.YtoajaklekmbcdaaGD
set_option linter.all false
namespace Go.Proofs.Ytoajaklekmbcdaa
namespace Ki
open Go Go.Mq
set_option linter.all false

/-! kinding: where a sum's own variable may stand -/
def idxF (b : Tree → Bool) : Int → List Tree → Int
  | _, [] => -1
  | i, x :: l => if b x = true then i else idxF b (i + 1) l
theorem idxF_any (b : Tree → Bool) : ∀ (l : List Tree) (i : Int), 0 ≤ i → decide (0 ≤ idxF b i l) = l.any b
  | [], i, _ => by simp [idxF]
  | x :: l, i, h => by
    rw [idxF, List.any_cons]
    split
    · rename_i hb; rw [hb]; simp [h]
    · rename_i hb
      rw [idxF_any b l (i + 1) (by omega)]
      simp only [Bool.not_eq_true] at hb
      rw [hb]; rfl
set_option maxRecDepth 10000 in
theorem index_ok (l : List Tree) (F : Nat) (b : Tree → Bool) (h : ∀ x ∈ l, Pure P F [.d (.tree x)] (.d (.bool (b x)))) :
    Pure P 165 [.d (.trees l), .fn F []] (.d (.int .i64 (idxF b 0 l))) := by
  refine Pure.of_body tt [] [4] (Try.func165) rfl rfl rfl (Nat.le_of_ble_eq_true rfl) fun g => ?_
  repeat' ((first
    | refine then_go hm htt ?_
    | refine Side.go ?_
    | refine Hyp.go fun hlen => ?_
    | refine Split.ct ?_
    | refine Split.cf ?_
    | refine Split.tt ?_
    | refine Split.ff ?_
    | refine Indep.go ?_
    | refine Split.go (fun hc => ?_) fun hc => ?_) <;> conv => whnf)
  refine loop_go (α := Nat) (fun p => ⟨[(0, .d (.trees l)), (1, .fn F []), (7, .d (.int .i64 l.length)), (8, .d (.int .i64 p))], 19, [], 0, g⟩)
      (fun p => p ≤ l.length ∧ idxF b p (l.drop p) = idxF b 0 l) (fun p => l.length - p) 0 ⟨by omega, rfl⟩
      (Ent.go []) (fun _ => rfl) fun p hpre => ?_
  obtain ⟨hp1, hp2⟩ := hpre
  by_cases hp : p < l.length
  · have hx := h _ (getD_mem hp)
    rw [drop_step hp, idxF] at hp2
    cases hb : b (l.getD p .nil) with
    | true =>
      rw [hb] at hx
      rw [if_pos hb] at hp2
      rw [← hp2]
      repeat' ((first
        | refine then_go hm htt ?_
        | refine Side.go ?_
        | refine Hyp.go fun hlen => ?_
        | refine Split.ct ?_
        | refine Split.cf ?_
        | refine Split.tt ?_
        | refine Split.ff ?_
        | refine Indep.go ?_
        | refine CallG.gp hx ?_
        | refine Split.go (fun hc => ?_) fun hc => ?_) <;> conv => whnf)
      exact ret_closed rfl rfl rfl
    | false =>
      rw [hb] at hx
      rw [if_neg (by rw [hb]; decide)] at hp2
      repeat' ((first
        | refine then_go hm htt ?_
        | refine Side.go ?_
        | refine Hyp.go fun hlen => ?_
        | refine Split.ct ?_
        | refine Split.cf ?_
        | refine Split.tt ?_
        | refine Split.ff ?_
        | refine Indep.go ?_
        | refine CallG.gp hx ?_
        | refine Split.go (fun hc => ?_) fun hc => ?_) <;> conv => whnf)
      exact ⟨p + 1, ⟨by omega, by rw [← hp2]; push_cast; rfl⟩, by omega, Ent.go []⟩
  · rw [drop_end (by omega), idxF] at hp2
    rw [← hp2]
    repeat' ((first
      | refine then_go hm htt ?_
      | refine Side.go ?_
      | refine Hyp.go fun hlen => ?_
      | refine Split.ct ?_
      | refine Split.cf ?_
      | refine Split.tt ?_
      | refine Split.ff ?_
      | refine Indep.go ?_
      | refine Split.go (fun hc => ?_) fun hc => ?_) <;> conv => whnf)
    exact ret_closed rfl rfl rfl
set_option maxRecDepth 10000 in
theorem contains_ok (l : List Tree) (F : Nat) (b : Tree → Bool) (h : ∀ x ∈ l, Pure P F [.d (.tree x)] (.d (.bool (b x)))) :
    Pure P 156 [.d (.trees l), .fn F []] (.d (.bool (l.any b))) := by
  refine Pure.of_body tt [] [4] (Try.func156) rfl rfl rfl (Nat.le_of_ble_eq_true rfl) fun g => ?_
  repeat' ((first
    | refine then_go hm htt ?_
    | refine Side.go ?_
    | refine Hyp.go fun hlen => ?_
    | refine Split.ct ?_
    | refine Split.cf ?_
    | refine Split.tt ?_
    | refine Split.ff ?_
    | refine Indep.go ?_
    | refine CallG.gp (index_ok l F b h) ?_
    | refine Split.go (fun hc => ?_) fun hc => ?_) <;> conv => whnf)
  exact ret_closed rfl (bool_eq (idxF_any b l 0 (Int.le_refl 0))) rfl

set_option maxRecDepth 10000 in
theorem koccurs_ok (T : Tree) (i : Int) : Pure P 158 [.d (.tree T), .d (.int .i64 i)] (.d (.bool (occursR T i))) := by
  refine Pure.of_body tt [] [4] Try.func158 rfl rfl rfl (Nat.le_of_ble_eq_true rfl) fun g => ?_
  repeat' ((first
    | refine then_go hm htt ?_
    | refine Side.go ?_
    | refine Hyp.go fun hlen => ?_
    | refine Split.ct ?_
    | refine Split.cf ?_
    | refine Split.tt ?_
    | refine Split.ff ?_
    | refine Indep.go ?_
    | refine CallG.gp (occurs_ok T i) ?_
    | refine Split.go (fun hc => ?_) fun hc => ?_) <;> conv => whnf)
  exact ret_closed rfl rfl rfl

mutual
def placedF : Tree → Bool
  | .nil => false
  | .node k n nm mk l => if k = 110 then true else if k = 115 then placedsF l else !(decide (0 < countF 0 (.node k n nm mk l) 0))
def placedsF : List Tree → Bool
  | [] => true
  | x :: l => placedAt x && placedsF l
def placedAt : Tree → Bool
  | .nil => false
  | .node _ _ _ _ l => match l with
    | [] => false
    | x :: _ => placedF x
end
theorem placedAt_eq (T : Tree) : placedAt T = placedF (T.kids.getD 0 .nil) := by
  cases T with
  | nil => rw [placedAt]; simp [Tree.kids, placedF]
  | node k n nm mk l =>
    rw [placedAt.eq_def]
    cases l with
    | nil => simp [Tree.kids, placedF]
    | cons => simp [Tree.kids]
theorem placedF_eq {T : Tree} (h : T ≠ .nil) : placedF T = if T.kind = 110 then true else if T.kind = 115 then placedsF T.kids else !(decide (0 < countF 0 T 0)) := by
  cases T with
  | nil => exact absurd rfl h
  | node => rw [placedF]; rfl
theorem placedsF_any : ∀ l : List Tree, placedsF l = !(l.any fun x => !(placedF (x.kids.getD 0 .nil)))
  | [] => rfl
  | x :: l => by rw [placedsF, placedAt_eq, placedsF_any l, List.any_cons]; cases placedF (x.kids.getD 0 .nil) <;> simp

theorem field_kid {kind : Int} {x : Tree} (h : fieldF kind x = true) : x ≠ .nil ∧ x.kids.length = 1 ∧ isConF (x.kids.getD 0 .nil) = true := by
  have hx : x ≠ .nil := by intro e; subst e; rw [fieldF] at h; cases h
  rw [fieldF_eq hx] at h
  simp only [Bool.and_eq_true, beq_iff_eq] at h
  exact ⟨hx, by omega, h.2⟩
theorem rec_fields {T : Tree} (hT : T ≠ .nil) (h : isConF T = true) (hk : T.kind = 115) : ∀ x ∈ T.kids, fieldF 116 x = true := by
  rw [isConF_eq hT, Bool.and_eq_true] at h
  obtain ⟨_, h⟩ := h
  simp [hk] at h
  exact fieldsF_mem h.1
theorem sum_fields {T : Tree} (hT : T ≠ .nil) (h : isConF T = true) (hk : T.kind = 121) : ∀ x ∈ T.kids, fieldF 122 x = true := by
  rw [isConF_eq hT, Bool.and_eq_true] at h
  obtain ⟨_, h⟩ := h
  simp [hk] at h
  exact fieldsF_mem h.1.2
theorem occ_count {T : Tree} (h : conE T = 0) : occursR T 0 = decide (0 < countF 0 T 0) := by
  rw [occursR_eq, roccursR, h]; simp
theorem con_zero {x : Tree} (h : isConF x = true) (hz : sizeN x ≤ 65536) : conE x = 0 := conE_of h hz

set_option maxHeartbeats 4000000 in
set_option maxRecDepth 10000 in
theorem placed_ok (T : Tree) : isConF T = true → sizeN T ≤ 65536 → Pure P 130 [.d (.tree T)] (.d (.bool (placedF T))) := by
  suffices h : (isConF T = true → sizeN T ≤ 65536 → Pure P 130 [.d (.tree T)] (.d (.bool (placedF T)))) ∧ ∀ x ∈ T.kids, isConF x = true → sizeN x ≤ 65536 → Pure P 130 [.d (.tree x)] (.d (.bool (placedF x))) from h.1
  induction T using Tree.ind' with
  | h0 => exact ⟨fun h => (by rw [isConF] at h; cases h), fun x hx => (by cases hx)⟩
  | h1 T hT ih => ?_
  refine ⟨fun hc hz => ?_, fun x hx => (ih x hx).1⟩
  have hsz := sizeN_kids hT
  have ho := koccurs_ok T 0
  rw [occ_count (con_zero hc hz)] at ho
  have hcon : T.kind = 115 → Pure P 156 [.d (.trees T.kids), .fn 157 []] (.d (.bool (T.kids.any fun x => !(placedF (x.kids.getD 0 .nil))))) := fun hk => by
    refine contains_ok T.kids 157 _ fun x hx => ?_
    obtain ⟨h1, h2, h3⟩ := field_kid (rec_fields hT hc hk x hx)
    have hs1 := sizesN_mem hx
    have hs2 := sizeN_kids h1
    have hs3 := sizesN_mem (getD_mem (l := x.kids) (i := 0) (by omega))
    have hp := (ih x hx).2 (x.kids.getD 0 .nil) (getD_mem (by omega)) h3 (by omega)
    refine Pure.of_body tt [] [2] Try.func157 rfl rfl rfl (Nat.le_of_ble_eq_true rfl) fun g => ?_
    repeat' ((first
      | refine then_go hm htt ?_
      | refine Side.go ?_
      | refine Hyp.go fun hlen => ?_
      | refine Split.ct ?_
      | refine Split.cf ?_
      | refine Split.tt ?_
      | refine Split.ff ?_
      | refine Indep.go ?_
      | refine CallG.gp hp ?_
      | refine Split.go (fun hc => ?_) fun hc => ?_) <;> conv => whnf)
    exact ret_closed rfl rfl rfl
  refine Pure.of_body tt [] [2] Try.func130 rfl rfl rfl (Nat.le_of_ble_eq_true rfl) fun g => ?_
  repeat' ((first
    | refine then_go hm htt ?_
    | refine Side.go ?_
    | refine Hyp.go fun hlen => ?_
    | refine Split.ct ?_
    | refine Split.cf ?_
    | refine Split.tt ?_
    | refine Split.ff ?_
    | refine Indep.go ?_
    | refine CallG.gp ho ?_
    | refine CallG.gp (hcon (by assumption)) ?_
    | refine Split.go (fun hc => ?_) fun hc => ?_) <;> conv => whnf)
  all_goals refine ret_closed rfl (bool_eq ?_) rfl
  · rw [placedF_eq hT, if_pos (by assumption)]
  · rw [placedF_eq hT, if_neg (by omega), if_pos (by assumption), placedsF_any]
  · rw [placedF_eq hT, if_neg (by omega), if_neg (by omega)]

/-- The error of a sum that does not fit. -/
def fitE (l : List Tree) : Int := if placedsF l = true then 0 else 15
set_option maxHeartbeats 4000000 in
set_option maxRecDepth 10000 in
theorem fits_ok (T : Tree) (hT : T ≠ .nil) (hc : isConF T = true) (hk : T.kind = 121) (hz : sizeN T ≤ 65536) : Pure P 86 [.d (.tree T)] (.d (.int .i64 (fitE T.kids))) := by
  have hsz := sizeN_kids hT
  refine Pure.of_body tt [] [2] Try.func86 rfl rfl rfl (Nat.le_of_ble_eq_true rfl) fun g => ?_
  repeat' ((first
    | refine then_go hm htt ?_
    | refine Side.go ?_
    | refine Hyp.go fun hlen => ?_
    | refine Split.ct ?_
    | refine Split.cf ?_
    | refine Split.tt ?_
    | refine Split.ff ?_
    | refine Indep.go ?_
    | refine Split.go (fun hc => ?_) fun hc => ?_) <;> conv => whnf)
  refine loop_go (α := Nat) (fun p => ⟨[(8, .d (.trees T.kids)), (9, .d (.int .i64 T.kids.length)), (10, .d (.int .i64 p))], 23, [], 0, g⟩)
      (fun p => p ≤ T.kids.length ∧ placedsF (T.kids.drop p) = placedsF T.kids) (fun p => T.kids.length - p) 0 ⟨by omega, rfl⟩
      (Ent.go []) (fun _ => rfl) fun p hpre => ?_
  obtain ⟨hp1, hp2⟩ := hpre
  unfold fitE
  by_cases hp : p < T.kids.length
  · have hx := getD_mem hp
    obtain ⟨h1, h2, h3⟩ := field_kid (sum_fields hT hc hk _ hx)
    have hs1 := sizesN_mem hx
    have hs2 := sizeN_kids h1
    have hs3 := sizesN_mem (getD_mem (l := (T.kids.getD p .nil).kids) (i := 0) (by omega))
    have hq := placed_ok ((T.kids.getD p .nil).kids.getD 0 .nil) h3 (by omega)
    rw [drop_step hp, placedsF, placedAt_eq] at hp2
    cases hb : placedF ((T.kids.getD p .nil).kids.getD 0 .nil) with
    | true =>
      rw [hb] at hq hp2
      repeat' ((first
        | refine then_go hm htt ?_
        | refine Side.go ?_
        | refine Hyp.go fun hlen => ?_
        | refine Split.ct ?_
        | refine Split.cf ?_
        | refine Split.tt ?_
        | refine Split.ff ?_
        | refine Indep.go ?_
        | refine Side.mk (show (0 : Int) ≤ 0 ∧ (0 : Int) < ((T.kids.getD p .nil).kids.length : Int) from by omega) ?_
        | refine CallG.gp hq ?_
        | refine Split.go (fun hc => ?_) fun hc => ?_) <;> conv => whnf)
      exact ⟨p + 1, ⟨by omega, by rw [← hp2]; rfl⟩, by omega, Ent.go []⟩
    | false =>
      rw [hb] at hq hp2
      rw [← hp2]
      repeat' ((first
        | refine then_go hm htt ?_
        | refine Side.go ?_
        | refine Hyp.go fun hlen => ?_
        | refine Split.ct ?_
        | refine Split.cf ?_
        | refine Split.tt ?_
        | refine Split.ff ?_
        | refine Indep.go ?_
        | refine Side.mk (show (0 : Int) ≤ 0 ∧ (0 : Int) < ((T.kids.getD p .nil).kids.length : Int) from by omega) ?_
        | refine CallG.gp hq ?_
        | refine Split.go (fun hc => ?_) fun hc => ?_) <;> conv => whnf)
      exact ret_closed rfl rfl rfl
  · rw [drop_end (by omega), placedsF] at hp2
    rw [← hp2]
    repeat' ((first
      | refine then_go hm htt ?_
      | refine Side.go ?_
      | refine Hyp.go fun hlen => ?_
      | refine Split.ct ?_
      | refine Split.cf ?_
      | refine Split.tt ?_
      | refine Split.ff ?_
      | refine Indep.go ?_
      | refine Split.go (fun hc => ?_) fun hc => ?_) <;> conv => whnf)
    exact ret_closed rfl rfl rfl
def fitsR (T : Tree) : Int := if conE T ≠ 0 then conE T else if T.kind ≠ 121 then 16 else fitE T.kids
set_option maxRecDepth 10000 in
theorem Fits_ok (T : Tree) : Pure P 49 [.d (.tree T)] (.d (.int .i64 (fitsR T))) := by
  refine Pure.of_body tt [] [2] Try.func49 rfl rfl rfl (Nat.le_of_ble_eq_true rfl) fun g => ?_
  unfold fitsR
  by_cases h : conE T = 0
  · have h1 := check_ok T
    rw [h] at h1
    obtain ⟨hF, hc⟩ := conE_full h
    have hT := hF.ne
    rw [if_neg (by omega)]
    by_cases hk : T.kind = 121
    · rw [if_neg (by omega)]
      have h2 := fits_ok T hT hc hk (conE_size h)
      repeat' ((first
        | refine then_go hm htt ?_
        | refine Side.go ?_
        | refine Hyp.go fun hlen => ?_
        | refine Split.ct ?_
        | refine Split.cf ?_
        | refine Split.tt ?_
        | refine Split.ff ?_
        | refine Indep.go ?_
        | refine CallG.gp h1 ?_
        | refine CallG.gp h2 ?_
        | refine Split.go (fun hc => ?_) fun hc => ?_) <;> conv => whnf)
      exact ret_closed rfl rfl rfl
    · rw [if_pos hk]
      repeat' ((first
        | refine then_go hm htt ?_
        | refine Side.go ?_
        | refine Hyp.go fun hlen => ?_
        | refine Split.ct ?_
        | refine Split.cf ?_
        | refine Split.tt ?_
        | refine Split.ff ?_
        | refine Indep.go ?_
        | refine CallG.gp h1 ?_
        | refine Split.go (fun hc => ?_) fun hc => ?_) <;> conv => whnf)
      exact ret_closed rfl rfl rfl
  · rw [if_pos h]
    repeat' ((first
      | refine then_go hm htt ?_
      | refine Side.go ?_
      | refine Hyp.go fun hlen => ?_
      | refine Split.ct ?_
      | refine Split.cf ?_
      | refine Split.tt ?_
      | refine Split.ff ?_
      | refine Indep.go ?_
      | refine CallG.gp (check_ok T) ?_
      | refine Split.go (fun hc => ?_) fun hc => ?_) <;> conv => whnf)
    exact ret_closed rfl rfl rfl
end Ki
end Go.Proofs.Ytoajaklekmbcdaa

/- slices.Grow: the library's contract laid at this program, and said in the words of the walk. -/
namespace Go.Proofs.Ytoajaklekmbcdaa
open Go Go.Mq Go.RowKit Go.Shelf
set_option linter.all false

def Try.grow_ren : Go.Shelf.Ren := ⟨fun | 4 => 155 | n => n, fun | 0 => 0 | 3 => 3 | 4 => 4 | 9 => 9 | 20 => 20 | 22 => 30 | 25 => 25 | n => n, fun | n => n⟩
theorem Try.grow_lays : Go.Proofs.Lays8.n4 Try.prog Try.grow_ren := {
  mixed := by kernel_rfl
  f4 := ⟨(Try.f155).name, by kernel_rfl, (Try.func155).trans (congrArg some (by kernel_rfl))⟩
  t0 := Try.underlying0
  a0 := Try.isAgg0
  z0 := Try.sizeOf0
  v0 := Try.zeroValue0
  t3 := Try.underlying3
  a3 := Try.isAgg3
  z3 := Try.sizeOf3
  v3 := Try.zeroValue3
  t4 := Try.underlying4
  a4 := Try.isAgg4
  z4 := Try.sizeOf4
  v4 := Try.zeroValue4
  t9 := Try.underlying9
  a9 := Try.isAgg9
  z9 := Try.sizeOf9
  v9 := Try.zeroValue9
  t20 := Try.underlying20
  a20 := Try.isAgg20
  z20 := Try.sizeOf20
  v20 := Try.zeroValue20
  t22 := Try.underlying30
  a22 := Try.isAgg30
  z22 := Try.sizeOf30
  v22 := Try.zeroValue30 }

theorem sgrow_ok (n : Nat) (h0 : 0 < n) (hn : n ≤ 17592186044416) :
    Fun P (155) [.d .nils, .d (.int .i64 n)] [] 0 (.row 0 0) [(0, .row 25 (.trees []))] 1 := by
  refine ⟨⟨_, Try.func155, rfl, rfl⟩, fun g E I ρ w vs hr ha => ?_⟩
  obtain ⟨vs⟩ := vs
  match vs, ha with
  | [v0, v1], ha =>
    obtain ⟨h0', h1, _⟩ := ha
    have e0 := h0'.nils
    have e1 := h1.int
    subst e0 e1
    obtain ⟨own, ho⟩ := hr
    have hr : Rel E I ρ (· < 0) (sget []) g w := ⟨own, ho⟩
    have key := Any8.slices_Grow_grow Try.grow_lays ((P.info? 25).getD default) (((P.info? 25).getD default).zero.getD undef) (by kernel_rfl) (by kernel_rfl) (Nat.le_of_ble_eq_true (by kernel_rfl)) none 0 0 n [] w (Nat.le_refl _) (by omega)
      (by have : ((P.info? 25).getD default).bytes = 8 := by kernel_rfl
          rw [this]; omega) (by omega) (by simp) (fun _ => rfl) (fun a h => by cases h)
    refine key.mono ?_
    rintro e w' ⟨rfl, rfl⟩
    have hd := hr.drew
    have hcap : grownCap w (0 + n) 0 (Try.grow_ren.t 25) ≤ 9223372036854775807 := by
      have := grownCap_le_maxLen w (0 + n) 0 (Try.grow_ren.t 25) (by unfold maxLen; omega)
      unfold maxLen at this; omega
    have hge := grownCap_ge w (0 + n) 0 (Try.grow_ren.t 25)
    refine ⟨I, upd ρ 0 ⟨w.heap.size, grownCap w (0 + n) 0 (Try.grow_ren.t 25), false⟩, _, Imm.le_refl I, fun id hid => absurd hid (Nat.not_lt_zero _), rfl, ?_, ?_⟩
    · have hz : (((P.info? 25).getD default).zero.getD undef).cells.size = 1 := by kernel_rfl
      have ha := hd.alloc (id := 0) (Nat.not_lt_zero 0) (ob := .cells (([] : List Value).toArray ++ Builtin.zeroCells (((P.info? 25).getD default).zero.getD undef).cells (0 + n - 0) ++ Builtin.zeroCells (((P.info? 25).getD default).zero.getD undef).cells (grownCap w (0 + n) 0 (Try.grow_ren.t 25) - (0 + n))) (Try.grow_ren.t 25)) (o := .row 25 (.trees [])) (cap := grownCap w (0 + n) 0 (Try.grow_ren.t 25)) (fun r hr => by
        subst hr
        refine .inr ⟨by rw [upd_same], Nat.zero_le _, ⟨Nat.zero_le _, by rw [upd_same]; exact hcap⟩, _, by rw [upd_same]; exact Go.Mq.heap_alloc_new, ?_, fun i hi => absurd hi (by simp [RowC.len])⟩
        rw [upd_same]
        simp only [RowC.sz, Nat.mul_one, Array.size_append, size_zeroCells, hz, List.size_toArray, List.length_nil]
        omega)
      have hD : dom (· < 0) 0 = (· < 1) := by funext i; simp [dom]
      rw [hD] at ha
      have hG : Objs.upd (sget []) 0 (.row 25 (.trees [])) = sget [(0, .row 25 (.trees []))] := by
        funext i
        simp only [Objs.upd, sget]
        by_cases h : i = 0
        · subst h; rfl
        · rw [if_neg h, beq_ne (Ne.symm h)]; rfl
      rw [hG] at ha
      exact ha
    · have := CA.row (I := I) (ρ := upd ρ 0 ⟨w.heap.size, grownCap w (0 + n) 0 (Try.grow_ren.t 25), false⟩) (D := (· < 1)) (id := 0) (n := 0) Nat.zero_lt_one (by rw [upd_same]) (Nat.zero_le _) (Nat.zero_le _)
      rw [upd_same] at this
      exact this
end Go.Proofs.Ytoajaklekmbcdaa

namespace Go.Proofs.Ytoajaklekmbcdaa
namespace Ki
open Go Go.Mq
set_option linter.all false

def pairD (a b : List Tree) : Mq.Data := .slice 2 1 fun k j => [Mq.Data.trees a, Mq.Data.trees b].getD (k * 1 + j) .nils
set_option maxHeartbeats 4000000 in
set_option maxRecDepth 10000 in
theorem concat_ok (a b : List Tree) (h0 : a ≠ []) (hl : a.length + b.length ≤ 1099511627776) : Pure P (129) [.d (pairD a b)] (.d (.trees (a ++ b))) := by
  have h0' : 0 < a.length := by cases a with | nil => exact absurd rfl h0 | cons => simp
  refine Pure.of_body tt [] [2] (Try.func129) rfl rfl rfl (Nat.le_of_ble_eq_true rfl) fun g => ?_
  repeat' ((first
    | refine then_go hm htt ?_
    | refine Side.go ?_
    | refine Hyp.go fun hlen => ?_
    | refine Split.ct ?_
    | refine Split.cf ?_
    | refine Split.tt ?_
    | refine Split.ff ?_
    | refine Indep.go ?_
    | refine Split.go (fun hc => ?_) fun hc => ?_) <;> conv => whnf)
  refine loop_go (α := Nat × Int) (fun p => ⟨[(0, .d (pairD a b)), (3, .d (.int .i64 p.2)), (9, .d (pairD a b)), (10, .d (.int .i64 2)), (11, .d (.int .i64 p.1))], 36, [], 0, g⟩)
      (fun p => (p.1 = 0 ∧ p.2 = 0) ∨ (p.1 = 1 ∧ p.2 = a.length) ∨ (p.1 = 2 ∧ p.2 = (a.length : Int) + b.length)) (fun p => 2 - p.1) (0, 0) (.inl ⟨rfl, rfl⟩)
      (Ent.go []) (fun _ => rfl) fun p hpre => ?_
  obtain ⟨i, s⟩ := p
  simp only [] at hpre
  rcases hpre with ⟨rfl, rfl⟩ | ⟨rfl, rfl⟩ | ⟨rfl, rfl⟩
  · have hw : IntKind.i64.wrap (0 + (a.length : Int)) = a.length := by rw [wrap64] <;> omega
    repeat' ((first
      | refine then_go hm htt ?_
      | refine Side.go ?_
      | refine Hyp.go fun hlen => ?_
      | refine Split.ct ?_
      | refine Split.cf ?_
      | refine Split.tt ?_
      | refine Split.ff ?_
      | refine Indep.go ?_
      | refine Split.of_false (show decide (IntKind.i64.wrap (0 + (a.length : Int)) < 0) = false from by rw [hw]; simp) ?_
      | refine Split.go (fun hc => ?_) fun hc => ?_) <;> conv => whnf)
    exact ⟨(1, (a.length : Int)), .inr (.inl ⟨rfl, rfl⟩), by simp only []; omega, Ent.go []⟩
  · have hw : IntKind.i64.wrap ((a.length : Int) + (b.length : Int)) = (a.length : Int) + b.length := by rw [wrap64] <;> omega
    repeat' ((first
      | refine then_go hm htt ?_
      | refine Side.go ?_
      | refine Hyp.go fun hlen => ?_
      | refine Split.ct ?_
      | refine Split.cf ?_
      | refine Split.tt ?_
      | refine Split.ff ?_
      | refine Indep.go ?_
      | refine Split.of_false (show decide (IntKind.i64.wrap ((a.length : Int) + (b.length : Int)) < 0) = false from by rw [hw]; simp; omega) ?_
      | refine Split.go (fun hc => ?_) fun hc => ?_) <;> conv => whnf)
    exact ⟨(2, (a.length : Int) + b.length), .inr (.inr ⟨rfl, rfl⟩), by simp only []; omega, Ent.go []⟩
  have hg := sgrow_ok (a.length + b.length) (by omega) (by omega)
  have hg : Fun P (155) [.d .nils, .d (.int .i64 ((a.length : Int) + b.length))] [] 0 (.row 0 0) [(0, .row 25 (.trees []))] 1 := by
    have e : ((a.length : Int) + b.length) = ((a.length + b.length : Nat) : Int) := by push_cast; rfl
    rw [e]; exact hg
  repeat' ((first
    | refine then_go hm htt ?_
    | refine Side.go ?_
    | refine Hyp.go fun hlen => ?_
    | refine Split.ct ?_
    | refine Split.cf ?_
    | refine Split.tt ?_
    | refine Split.ff ?_
    | refine Indep.go ?_
    | refine CallG.go hg [] ?_
    | refine Split.go (fun hc => ?_) fun hc => ?_) <;> conv => whnf)
  refine loop_go (α := Nat × List Tree) (fun p => ⟨[(6, .row 0 p.2.length), (25, .d (pairD a b)), (26, .d (.int .i64 2)), (27, .d (.int .i64 p.1))], 36, [(0, .row 25 (.trees p.2))], 1, g⟩)
      (fun p => (p.1 = 0 ∧ p.2 = []) ∨ (p.1 = 1 ∧ p.2 = a) ∨ (p.1 = 2 ∧ p.2 = a ++ b)) (fun p => 2 - p.1) (0, []) (.inl ⟨rfl, rfl⟩)
      (Ent.go [0]) (fun _ => rfl) fun p hpre => ?_
  obtain ⟨i, o⟩ := p
  simp only [] at hpre
  rcases hpre with ⟨rfl, rfl⟩ | ⟨rfl, rfl⟩ | ⟨rfl, rfl⟩
  · repeat' ((first
      | refine then_go hm htt ?_
      | refine Side.go ?_
      | refine Hyp.go fun hlen => ?_
      | refine Split.ct ?_
      | refine Split.cf ?_
      | refine Split.tt ?_
      | refine Split.ff ?_
      | refine Indep.go ?_
      | refine Side.mk (show (0 + a.length ≤ maxN ∧ (0 + a.length) * 8 ≤ 140737488355328) from ⟨by unfold maxN; omega, by omega⟩) ?_
      | refine Split.go (fun hc => ?_) fun hc => ?_) <;> conv => whnf)
    exact ⟨(1, a), .inr (.inl ⟨rfl, rfl⟩), by simp only []; omega, Ent.re [1] rfl rfl rfl rfl rfl rfl (by repeat' first | exact trivial | apply And.intro | rfl | (show AVal.row 1 (0 + a.length) = AVal.row 1 a.length; rw [Nat.zero_add])) (by repeat' first | exact trivial | apply And.intro | rfl | (refine int_eq ?_; rw [wrap64] <;> omega))⟩
  · repeat' ((first
      | refine then_go hm htt ?_
      | refine Side.go ?_
      | refine Hyp.go fun hlen => ?_
      | refine Split.ct ?_
      | refine Split.cf ?_
      | refine Split.tt ?_
      | refine Split.ff ?_
      | refine Indep.go ?_
      | refine Side.mk (show (o.length + b.length ≤ maxN ∧ (o.length + b.length) * 8 ≤ 140737488355328) from ⟨by unfold maxN; omega, by omega⟩) ?_
      | refine Split.go (fun hc => ?_) fun hc => ?_) <;> conv => whnf)
    exact ⟨(2, o ++ b), .inr (.inr ⟨rfl, rfl⟩), by simp only []; omega, Ent.re [1] rfl rfl rfl rfl rfl rfl (by repeat' first | exact trivial | apply And.intro | rfl | (show AVal.row 1 (o.length + b.length) = AVal.row 1 (o ++ b).length; rw [List.length_append])) (by repeat' first | exact trivial | apply And.intro | rfl | (refine int_eq ?_; rw [wrap64] <;> omega))⟩
  · repeat' ((first
      | refine then_go hm htt ?_
      | refine Side.go ?_
      | refine Hyp.go fun hlen => ?_
      | refine Split.ct ?_
      | refine Split.cf ?_
      | refine Split.tt ?_
      | refine Split.ff ?_
      | refine Indep.go ?_
      | refine Split.go (fun hc => ?_) fun hc => ?_) <;> conv => whnf)
    refine RetS.ent (σ' := ⟨[(2, .row 0 (a ++ b).length)], 36, [(0, .row 25 (.trees (a ++ b)))], 1, g⟩) (Ent.go [0]) ?_
    refine RetS.ent (Ent.fz_row 0 (l := a ++ b) rfl (by repeat' first | exact trivial | apply And.intro | rfl | exact hp2.symm | exact Nat.zero_lt_one | omega) (by repeat' first | exact trivial | apply And.intro | rfl | exact hp2.symm | exact Nat.zero_lt_one | omega)) ?_
    exact ret_closed rfl rfl rfl
set_option maxRecDepth 10000 in
theorem under_ok (k : Tree) (ctx : List Tree) (hl : ctx.length ≤ 549755813888) : Pure P 83 [.d (.tree k), .d (.trees ctx)] (.d (.trees (k :: ctx))) := by
  have hc := concat_ok [k] ctx (by simp) (by simp; omega)
  refine Pure.of_body tt [6, 8] [4] Try.func83 rfl rfl rfl (Nat.le_of_ble_eq_true rfl) fun g => ?_
  repeat' ((first
    | refine then_go hm htt ?_
    | refine Side.go ?_
    | refine Hyp.go fun hlen => ?_
    | refine Split.ct ?_
    | refine Split.cf ?_
    | refine Split.tt ?_
    | refine Split.ff ?_
    | refine Indep.go ?_
    | refine CallG.gp hc ?_
    | refine Split.go (fun hc => ?_) fun hc => ?_) <;> conv => whnf)
  exact ret_closed rfl rfl rfl
def starT : Tree := .node 100 0 ByteArray.empty ByteArray.empty []
theorem star_ok : Pure P 85 [] (.d (.tree starT)) := by
  refine Pure.of_body tt [2] [0] Try.func85 rfl rfl rfl (Nat.le_of_ble_eq_true rfl) fun g => ?_
  repeat' ((first
    | refine then_go hm htt ?_
    | refine Side.go ?_
    | refine Hyp.go fun hlen => ?_
    | refine Split.ct ?_
    | refine Split.cf ?_
    | refine Split.tt ?_
    | refine Split.ff ?_
    | refine Indep.go ?_
    | refine Split.go (fun hc => ?_) fun hc => ?_) <;> conv => whnf)
  exact ret_closed rfl rfl rfl
/-- What stands in fields, in cases. -/
def innerF (l : List Tree) : List Tree := l.map fun x => x.kids.getD 0 .nil
set_option maxHeartbeats 4000000 in
set_option maxRecDepth 10000 in
theorem inner_ok (T : Tree) (hT : T ≠ .nil) (h : ∀ x ∈ T.kids, x ≠ .nil ∧ x.kids.length = 1) : Pure P 82 [.d (.tree T)] (.d (.trees (innerF T.kids))) := by
  refine Pure.of_body tt [] [2] Try.func82 rfl rfl rfl (Nat.le_of_ble_eq_true rfl) fun g => ?_
  repeat' ((first
    | refine then_go hm htt ?_
    | refine Side.go ?_
    | refine Hyp.go fun hlen => ?_
    | refine Split.ct ?_
    | refine Split.cf ?_
    | refine Split.tt ?_
    | refine Split.ff ?_
    | refine Indep.go ?_
    | refine Split.go (fun hc => ?_) fun hc => ?_) <;> conv => whnf)
  refine loop_go (α := Nat) (fun p => ⟨[(3, .row 0 p), (9, .d (.trees T.kids)), (10, .d (.int .i64 T.kids.length)), (11, .d (.int .i64 p))], 26, [(0, .row 25 (.trees (innerF (T.kids.take p))))], 1, g⟩)
      (fun p => p ≤ T.kids.length) (fun p => T.kids.length - p) 0 (by omega)
      (Ent.nil rfl rfl rfl (by repeat' first | exact trivial | apply And.intro | rfl | (refine int_eq ?_; rw [wrap64] <;> omega)) (by repeat' first | exact trivial | apply And.intro | rfl | (refine int_eq ?_; rw [wrap64] <;> omega))) (fun _ => rfl) fun p hp1 => ?_
  have hp2 : (innerF (T.kids.take p)).length = p := by unfold innerF; simp; omega
  by_cases hp : p < T.kids.length
  · obtain ⟨h1, h2⟩ := h _ (getD_mem hp)
    have hts : innerF (T.kids.take (p + 1)) = innerF (T.kids.take p) ++ [(T.kids.getD p .nil).kids.getD 0 .nil] := by
      unfold innerF; rw [← take_step hp]; simp
    repeat' ((first
      | refine then_go hm htt ?_
      | refine Side.go ?_
      | refine Hyp.go fun hlen => ?_
      | refine Split.ct ?_
      | refine Split.cf ?_
      | refine Split.tt ?_
      | refine Split.ff ?_
      | refine Indep.go ?_
      | refine Side.mk (show (0 : Int) ≤ 0 ∧ (0 : Int) < ((T.kids.getD p .nil).kids.length : Int) from by omega) ?_
      | refine Side.mk (show (p + 1 ≤ 17592186044416 ∧ (p + 1) * 8 ≤ 140737488355328) from ⟨by omega, by omega⟩) ?_
      | refine Split.go (fun hc => ?_) fun hc => ?_) <;> conv => whnf)
    exact ⟨p + 1, by omega, by omega, Ent.re [2] rfl rfl rfl rfl rfl rfl (by repeat' first | exact trivial | apply And.intro | rfl | (refine int_eq ?_; rw [wrap64] <;> omega)) (by repeat' first | exact trivial | apply And.intro | rfl | (rw [hts]; rfl))⟩
  · have e : T.kids.take p = T.kids := List.take_of_length_le (by omega)
    rw [e]
    rw [e] at hp2
    repeat' ((first
      | refine then_go hm htt ?_
      | refine Side.go ?_
      | refine Hyp.go fun hlen => ?_
      | refine Split.ct ?_
      | refine Split.cf ?_
      | refine Split.tt ?_
      | refine Split.ff ?_
      | refine Indep.go ?_
      | refine Split.go (fun hc => ?_) fun hc => ?_) <;> conv => whnf)
    refine RetS.ent (Ent.fz_row 0 (l := innerF T.kids) rfl (by repeat' first | exact trivial | apply And.intro | rfl | exact hp2.symm | exact Nat.zero_lt_one | omega) (by repeat' first | exact trivial | apply And.intro | rfl | exact hp2.symm | exact Nat.zero_lt_one | omega)) ?_
    exact ret_closed rfl rfl rfl
end Ki
end Go.Proofs.Ytoajaklekmbcdaa

namespace Go.Proofs.Ytoajaklekmbcdaa
namespace Ki
open Go Go.Mq
set_option linter.all false

/-! A constructor's kind -/
def karrT (a b : Tree) : Tree := .node 101 0 ByteArray.empty ByteArray.empty [a, b]
def mustE (r : Tree × Int) : Int := if r.2 ≠ 0 then r.2 else if r.1.kind ≠ 100 then 10 else 0
def starR (e : Int) : Tree × Int := if e = 0 then (starT, 0) else (.nil, e)
def appR (f k : Tree × Int) : Tree × Int := if f.2 ≠ 0 then (.nil, f.2) else if k.2 ≠ 0 then (.nil, k.2) else if f.1.kind ≠ 101 ∨ sameF (f.1.kids.getD 0 .nil) k.1 = false then (.nil, 10) else (f.1.kids.getD 1 .nil, 0)
mutual
def kindF (ctx : List Tree) (t : Tree) : Tree × Int := match t with
  | .nil => (.nil, 0)
  | .node k n nm mk l =>
    if k = 110 then (if (ctx.length : Int) ≤ n then (.nil, 8) else (ctx.getD n.toNat .nil, 0))
    else if k = 114 then starR (starsE ctx l)
    else if k = 115 then starR (starsIn ctx l)
    else if k = 117 ∨ k = 118 then starR (mustE (kindAt (l.getD 0 .nil :: ctx) 1 l))
    else if k = 119 then (if (kindAt (l.getD 0 .nil :: ctx) 1 l).2 ≠ 0 then (.nil, (kindAt (l.getD 0 .nil :: ctx) 1 l).2) else (karrT (l.getD 0 .nil) (kindAt (l.getD 0 .nil :: ctx) 1 l).1, 0))
    else if k = 120 then appR (kindAt ctx 0 l) (kindAt ctx 1 l)
    else if k = 121 then (if starsIn (starT :: ctx) l ≠ 0 then (.nil, starsIn (starT :: ctx) l) else if fitE l ≠ 0 then (.nil, fitE l) else (starT, 0))
    else (starT, 0)
termination_by structural t
def kindAt (ctx : List Tree) (i : Nat) (t : List Tree) : Tree × Int := match t with
  | [] => (.nil, 0)
  | x :: l => match i with
    | 0 => kindF ctx x
    | i + 1 => kindAt ctx i l
termination_by structural t
def starsE (ctx : List Tree) (t : List Tree) : Int := match t with
  | [] => 0
  | x :: l => if mustE (kindF ctx x) ≠ 0 then mustE (kindF ctx x) else starsE ctx l
termination_by structural t
def starsIn (ctx : List Tree) (t : List Tree) : Int := match t with
  | [] => 0
  | x :: l => if starIn ctx x ≠ 0 then starIn ctx x else starsIn ctx l
termination_by structural t
def starIn (ctx : List Tree) (t : Tree) : Int := match t with
  | .nil => 0
  | .node _ _ _ _ l => mustE (kindAt ctx 0 l)
termination_by structural t
end
theorem kindAt_eq (ctx : List Tree) : ∀ (l : List Tree) (i : Nat), kindAt ctx i l = kindF ctx (l.getD i .nil)
  | [], i => by rw [kindAt]; simp [kindF]
  | x :: l, 0 => by rw [kindAt]; rfl
  | x :: l, i + 1 => by rw [kindAt]; exact kindAt_eq ctx l i
theorem starIn_eq (ctx : List Tree) {T : Tree} (h : T ≠ .nil) : starIn ctx T = mustE (kindF ctx (T.kids.getD 0 .nil)) := by
  cases T with
  | nil => exact absurd rfl h
  | node => rw [starIn, kindAt_eq]; rfl
theorem starsIn_eq (ctx : List Tree) : ∀ l : List Tree, (∀ x ∈ l, x ≠ .nil) → starsIn ctx l = starsE ctx (innerF l)
  | [], _ => by simp [starsIn, innerF, starsE]
  | x :: l, h => by
    have := starsIn_eq ctx l fun y hy => h y (by simp [hy])
    unfold innerF at *
    rw [starsIn, List.map_cons, starsE, starIn_eq ctx (h x (by simp)), this]
theorem kindF_eq (ctx : List Tree) {T : Tree} (h : T ≠ .nil) : kindF ctx T =
    if T.kind = 110 then (if (ctx.length : Int) ≤ T.n then (.nil, 8) else (ctx.getD T.n.toNat .nil, 0))
    else if T.kind = 114 then starR (starsE ctx T.kids)
    else if T.kind = 115 then starR (starsIn ctx T.kids)
    else if T.kind = 117 ∨ T.kind = 118 then starR (mustE (kindF (T.kids.getD 0 .nil :: ctx) (T.kids.getD 1 .nil)))
    else if T.kind = 119 then (if (kindF (T.kids.getD 0 .nil :: ctx) (T.kids.getD 1 .nil)).2 ≠ 0 then (.nil, (kindF (T.kids.getD 0 .nil :: ctx) (T.kids.getD 1 .nil)).2) else (karrT (T.kids.getD 0 .nil) (kindF (T.kids.getD 0 .nil :: ctx) (T.kids.getD 1 .nil)).1, 0))
    else if T.kind = 120 then appR (kindF ctx (T.kids.getD 0 .nil)) (kindF ctx (T.kids.getD 1 .nil))
    else if T.kind = 121 then (if starsIn (starT :: ctx) T.kids ≠ 0 then (.nil, starsIn (starT :: ctx) T.kids) else if fitE T.kids ≠ 0 then (.nil, fitE T.kids) else (starT, 0))
    else (starT, 0) := by
  cases T with
  | nil => exact absurd rfl h
  | node k n nm mk l => rw [kindF]; simp only [kindAt_eq]; rfl

def ctxOK (ctx : List Tree) : Prop := ∀ k ∈ ctx, isKindF k = true
theorem kind_ne {k : Tree} (h : isKindF k = true) : k ≠ .nil := by intro e; subst e; rw [isKindF] at h; cases h
theorem star_kind : isKindF starT = true := by kernel_rfl
theorem karr_kind {a b : Tree} (ha : isKindF a = true) (hb : isKindF b = true) : isKindF (karrT a b) = true := by
  unfold karrT
  rw [isKindF_eq (by simp)]
  simp [Tree.kind, Tree.kids, bareF, Tree.mark, Tree.name, Tree.n, ha, hb]
theorem karr_two {k : Tree} (h : isKindF k = true) (hk : k.kind = 101) : k.kids.length = 2 ∧ isKindF (k.kids.getD 0 .nil) = true ∧ isKindF (k.kids.getD 1 .nil) = true := by
  rw [isKindF_eq (kind_ne h), if_neg (by omega), if_pos hk] at h
  simp only [Bool.and_eq_true, beq_iff_eq] at h
  exact ⟨by omega, h.1.2, h.2⟩
theorem ctxOK_cons {k : Tree} {ctx : List Tree} (h : isKindF k = true) (hc : ctxOK ctx) : ctxOK (k :: ctx) := by
  intro x hx
  rcases List.mem_cons.1 hx with rfl | hx
  · exact h
  · exact hc x hx
theorem ctxOK_get {ctx : List Tree} (hc : ctxOK ctx) {i : Nat} (hi : i < ctx.length) : isKindF (ctx.getD i .nil) = true := hc _ (getD_mem hi)
theorem starR_kind {e : Int} (h : (starR e).2 = 0) : isKindF (starR e).1 = true := by
  unfold starR at *
  split
  · exact star_kind
  · rename_i he; rw [if_neg he] at h; exact absurd h he
/-- What a form's kids are. -/
theorem con_two {T : Tree} (hT : T ≠ .nil) (h : isConF T = true) (hk : T.kind = 114 ∨ T.kind = 120) : T.kids.length = 2 ∧ isConF (T.kids.getD 0 .nil) = true ∧ isConF (T.kids.getD 1 .nil) = true := by
  rw [isConF_eq hT, Bool.and_eq_true] at h
  obtain ⟨_, h⟩ := h
  rw [if_neg (by omega), if_neg (by omega), if_pos hk] at h
  simp only [Bool.and_eq_true, beq_iff_eq] at h
  exact ⟨by omega, h.1.2, h.2⟩
theorem con_bind {T : Tree} (hT : T ≠ .nil) (h : isConF T = true) (hk : T.kind = 117 ∨ T.kind = 118 ∨ T.kind = 119) : T.kids.length = 2 ∧ isKindF (T.kids.getD 0 .nil) = true ∧ isConF (T.kids.getD 1 .nil) = true := by
  rw [isConF_eq hT, Bool.and_eq_true] at h
  obtain ⟨_, h⟩ := h
  rw [if_neg (by omega), if_neg (by omega), if_neg (by omega), if_neg (by omega), if_pos hk] at h
  simp only [Bool.and_eq_true, beq_iff_eq] at h
  exact ⟨by omega, h.1.2, h.2⟩
theorem con_var {T : Tree} (hT : T ≠ .nil) (h : isConF T = true) (hk : T.kind = 110) : 0 ≤ T.n ∧ T.n ≤ 65536 := by
  rw [isConF_eq hT, Bool.and_eq_true] at h
  obtain ⟨_, h⟩ := h
  rw [if_pos hk] at h
  simp only [Bool.and_eq_true, decide_eq_true_eq] at h
  exact h.1
theorem con_kids {T : Tree} (hT : T ≠ .nil) (h : isConF T = true) : T.kind = 110 ∨ T.kind = 111 ∨ T.kind = 112 ∨ T.kind = 113 ∨ T.kind = 114 ∨ T.kind = 115 ∨ T.kind = 117 ∨ T.kind = 118 ∨ T.kind = 119 ∨ T.kind = 120 ∨ T.kind = 121 := by
  rw [isConF_eq hT, Bool.and_eq_true] at h
  obtain ⟨_, h⟩ := h
  apply Decidable.byContradiction
  intro hn
  rw [if_neg (by omega), if_neg (by omega), if_neg (by omega), if_neg (by omega), if_neg (by omega), if_neg (by omega)] at h
  cases h

theorem kindF_kind (T : Tree) : isConF T = true → ∀ ctx, ctxOK ctx → (kindF ctx T).2 = 0 → isKindF (kindF ctx T).1 = true := by
  induction T using Tree.ind' with
  | h0 => intro h; rw [isConF] at h; cases h
  | h1 T hT ih =>
    intro hc ctx hx
    rw [kindF_eq ctx hT]
    split
    · rename_i hk
      have hv := con_var hT hc hk
      split
      · intro h; cases h
      · intro _; exact ctxOK_get hx (by omega)
    split
    · exact starR_kind
    split
    · exact starR_kind
    split
    · exact starR_kind
    split
    · rename_i hk
      obtain ⟨h1, h2, h3⟩ := con_bind hT hc (.inr (.inr hk))
      split
      · intro h; exact absurd h ‹_›
      · rename_i he
        intro _
        exact karr_kind h2 (ih _ (getD_mem (by omega)) h3 _ (ctxOK_cons h2 hx) (by simpa using he))
    split
    · rename_i hk
      obtain ⟨h1, h2, h3⟩ := con_two hT hc (.inr hk)
      unfold appR
      split
      · intro h; exact absurd h ‹_›
      · rename_i he
        split
        · intro h; exact absurd h ‹_›
        · split
          · intro h; cases h
          · rename_i hs
            intro _
            have hf := ih _ (getD_mem (i := 0) (by omega)) h2 ctx hx (by simpa using he)
            exact (karr_two hf (by apply Decidable.byContradiction; intro h; exact hs (.inl h))).2.2
    split
    · split
      · intro h; exact absurd h ‹_›
      · split
        · intro h; exact absurd h ‹_›
        · intro _; exact star_kind
    · intro _; exact star_kind

theorem mustE_ok {R : Tree × Int} (h : R.2 = 0) (hk : R.1.kind = 100) : mustE R = 0 := by
  unfold mustE; rw [if_neg (by omega), if_neg (by omega)]
theorem mustE_kind {R : Tree × Int} (h : R.2 = 0) (hk : R.1.kind ≠ 100) : mustE R = 10 := by
  unfold mustE; rw [if_neg (by omega), if_pos hk]
theorem mustE_err {R : Tree × Int} (h : R.2 ≠ 0) : mustE R = R.2 := by
  unfold mustE; rw [if_pos h]
/-- The contract of kind at a constructor, in whatever context. -/
def KindP (x : Tree) : Prop := isConF x = true → ∀ ctx : List Tree, ctxOK ctx → ctx.length + sizeN x ≤ 274877906944 → Pure P 45 [.d (.trees ctx), .d (.tree x)] (.tuple [.d (.tree (kindF ctx x).1), .d (.int .i64 (kindF ctx x).2)])
set_option maxHeartbeats 4000000 in
set_option maxRecDepth 10000 in
theorem stars_ok (ctx l : List Tree) (hx : ctxOK ctx) (h : ∀ x ∈ l, KindP x ∧ isConF x = true ∧ ctx.length + sizeN x ≤ 274877906944) :
    Pure P 81 [.d (.trees ctx), .d (.trees l)] (.tuple [.d (.tree (starR (starsE ctx l)).1), .d (.int .i64 (starR (starsE ctx l)).2)]) := by
  refine Pure.of_body tt [] [4, 5] Try.func81 rfl rfl rfl (Nat.le_of_ble_eq_true rfl) fun g => ?_
  repeat' ((first
    | refine then_go hm htt ?_
    | refine Side.go ?_
    | refine Hyp.go fun hlen => ?_
    | refine Split.ct ?_
    | refine Split.cf ?_
    | refine Split.tt ?_
    | refine Split.ff ?_
    | refine Indep.go ?_
    | refine Split.go (fun hc => ?_) fun hc => ?_) <;> conv => whnf)
  refine loop_go (α := Nat) (fun p => ⟨[(0, .d (.trees ctx)), (10, .d (.trees l)), (11, .d (.int .i64 l.length)), (12, .d (.int .i64 p))], 32, [], 0, g⟩)
      (fun p => p ≤ l.length ∧ starsE ctx (l.drop p) = starsE ctx l) (fun p => l.length - p) 0 ⟨by omega, rfl⟩
      (Ent.go []) (fun _ => rfl) fun p hpre => ?_
  obtain ⟨hp1, hp2⟩ := hpre
  by_cases hp : p < l.length
  · obtain ⟨h1, h2, h3⟩ := h _ (getD_mem hp)
    have hk := h1 h2 ctx hx h3
    have hne := kindF_kind _ h2 ctx hx
    rw [drop_step hp, starsE] at hp2
    generalize kindF ctx (l.getD p .nil) = R at *
    by_cases he : R.2 = 0
    · have hne := kind_ne (hne he)
      rw [he] at hk
      by_cases hs : R.1.kind = 100
      · rw [mustE_ok he hs, if_neg (by decide)] at hp2
        repeat' ((first
          | refine then_go hm htt ?_
          | refine Side.go ?_
          | refine Hyp.go fun hlen => ?_
          | refine Split.ct ?_
          | refine Split.cf ?_
          | refine Split.tt ?_
          | refine Split.ff ?_
          | refine Indep.go ?_
          | refine CallG.gp hk ?_
          | refine Split.go (fun hc => ?_) fun hc => ?_) <;> conv => whnf)
        exact ⟨p + 1, ⟨by omega, hp2⟩, by omega, Ent.go []⟩
      · rw [mustE_kind he hs, if_pos (by decide)] at hp2
        rw [← hp2]
        repeat' ((first
          | refine then_go hm htt ?_
          | refine Side.go ?_
          | refine Hyp.go fun hlen => ?_
          | refine Split.ct ?_
          | refine Split.cf ?_
          | refine Split.tt ?_
          | refine Split.ff ?_
          | refine Indep.go ?_
          | refine CallG.gp hk ?_
          | refine Split.go (fun hc => ?_) fun hc => ?_) <;> conv => whnf)
        exact ret_closed rfl rfl rfl
    · rw [mustE_err he, if_pos he] at hp2
      rw [← hp2]
      have e : starR R.2 = (.nil, R.2) := by unfold starR; rw [if_neg he]
      rw [e]
      repeat' ((first
        | refine then_go hm htt ?_
        | refine Side.go ?_
        | refine Hyp.go fun hlen => ?_
        | refine Split.ct ?_
        | refine Split.cf ?_
        | refine Split.tt ?_
        | refine Split.ff ?_
        | refine Indep.go ?_
        | refine CallG.gp hk ?_
        | refine Split.go (fun hc => ?_) fun hc => ?_) <;> conv => whnf)
      exact ret_closed rfl rfl rfl
  · rw [drop_end (by omega), starsE] at hp2
    rw [← hp2]
    repeat' ((first
      | refine then_go hm htt ?_
      | refine Side.go ?_
      | refine Hyp.go fun hlen => ?_
      | refine Split.ct ?_
      | refine Split.cf ?_
      | refine Split.tt ?_
      | refine Split.ff ?_
      | refine Indep.go ?_
      | refine CallG.gp star_ok ?_
      | refine Split.go (fun hc => ?_) fun hc => ?_) <;> conv => whnf)
    exact ret_closed rfl rfl rfl
set_option maxHeartbeats 4000000 in
set_option maxRecDepth 10000 in
theorem apply_ok (ctx : List Tree) (T : Tree) (hT : T ≠ .nil) (hx : ctxOK ctx) (hc : isConF T = true) (hk : T.kind = 120) (hl : ctx.length + sizeN T ≤ 274877906944) (h : ∀ x ∈ T.kids, KindP x) :
    Pure P 84 [.d (.trees ctx), .d (.tree T)] (.tuple [.d (.tree (appR (kindF ctx (T.kids.getD 0 .nil)) (kindF ctx (T.kids.getD 1 .nil))).1), .d (.int .i64 (appR (kindF ctx (T.kids.getD 0 .nil)) (kindF ctx (T.kids.getD 1 .nil))).2)]) := by
  obtain ⟨h1, h2, h3⟩ := con_two hT hc (.inr hk)
  have hsz := sizeN_kids hT
  have s0 := sizesN_mem (getD_mem (l := T.kids) (i := 0) (by omega))
  have s1 := sizesN_mem (getD_mem (l := T.kids) (i := 1) (by omega))
  have k0 := h _ (getD_mem (i := 0) (by omega)) h2 ctx hx (by omega)
  have k1 := h _ (getD_mem (i := 1) (by omega)) h3 ctx hx (by omega)
  have n0 := kindF_kind _ h2 ctx hx
  have n1 := kindF_kind _ h3 ctx hx
  refine Pure.of_body tt [] [4, 5] Try.func84 rfl rfl rfl (Nat.le_of_ble_eq_true rfl) fun g => ?_
  generalize kindF ctx (T.kids.getD 0 .nil) = F at *
  generalize kindF ctx (T.kids.getD 1 .nil) = K at *
  unfold appR
  by_cases hF : F.2 = 0
  · rw [if_neg (by omega)]
    have n0 := n0 hF
    have n0n := kind_ne n0
    rw [hF] at k0
    by_cases hK : K.2 = 0
    · rw [if_neg (by omega)]
      rw [hK] at k1
      by_cases ha : F.1.kind = 101
      · obtain ⟨a1, a2, a3⟩ := karr_two n0 ha
        have hs := same_ok (F.1.kids.getD 0 .nil) K.1
        cases hq : sameF (F.1.kids.getD 0 .nil) K.1 with
        | true =>
          rw [hq] at hs
          rw [if_neg (by rintro (h | h); exact h ha; cases h)]
          repeat' ((first
            | refine then_go hm htt ?_
            | refine Side.go ?_
            | refine Hyp.go fun hlen => ?_
            | refine Split.ct ?_
            | refine Split.cf ?_
            | refine Split.tt ?_
            | refine Split.ff ?_
            | refine Indep.go ?_
            | refine CallG.gp k0 ?_
            | refine CallG.gp k1 ?_
            | refine CallG.gp hs ?_
            | refine Split.go (fun hc => ?_) fun hc => ?_) <;> conv => whnf)
          exact ret_closed rfl rfl rfl
        | false =>
          rw [hq] at hs
          rw [if_pos (.inr rfl)]
          repeat' ((first
            | refine then_go hm htt ?_
            | refine Side.go ?_
            | refine Hyp.go fun hlen => ?_
            | refine Split.ct ?_
            | refine Split.cf ?_
            | refine Split.tt ?_
            | refine Split.ff ?_
            | refine Indep.go ?_
            | refine CallG.gp k0 ?_
            | refine CallG.gp k1 ?_
            | refine CallG.gp hs ?_
            | refine Split.go (fun hc => ?_) fun hc => ?_) <;> conv => whnf)
          exact ret_closed rfl rfl rfl
      · rw [if_pos (.inl ha)]
        repeat' ((first
          | refine then_go hm htt ?_
          | refine Side.go ?_
          | refine Hyp.go fun hlen => ?_
          | refine Split.ct ?_
          | refine Split.cf ?_
          | refine Split.tt ?_
          | refine Split.ff ?_
          | refine Indep.go ?_
          | refine CallG.gp k0 ?_
          | refine CallG.gp k1 ?_
          | refine Split.go (fun hc => ?_) fun hc => ?_) <;> conv => whnf)
        exact ret_closed rfl rfl rfl
    · rw [if_pos hK]
      repeat' ((first
        | refine then_go hm htt ?_
        | refine Side.go ?_
        | refine Hyp.go fun hlen => ?_
        | refine Split.ct ?_
        | refine Split.cf ?_
        | refine Split.tt ?_
        | refine Split.ff ?_
        | refine Indep.go ?_
        | refine CallG.gp k0 ?_
        | refine CallG.gp k1 ?_
        | refine Split.go (fun hc => ?_) fun hc => ?_) <;> conv => whnf)
      exact ret_closed rfl rfl rfl
  · rw [if_pos hF]
    repeat' ((first
      | refine then_go hm htt ?_
      | refine Side.go ?_
      | refine Hyp.go fun hlen => ?_
      | refine Split.ct ?_
      | refine Split.cf ?_
      | refine Split.tt ?_
      | refine Split.ff ?_
      | refine Indep.go ?_
      | refine CallG.gp k0 ?_
      | refine Split.go (fun hc => ?_) fun hc => ?_) <;> conv => whnf)
    exact ret_closed rfl rfl rfl
end Ki
end Go.Proofs.Ytoajaklekmbcdaa

namespace Go.Proofs.Ytoajaklekmbcdaa
namespace Ki
open Go Go.Mq
set_option linter.all false

theorem starsE_two (ctx : List Tree) (l : List Tree) (h : l.length = 2) : starsE ctx l = if mustE (kindF ctx (l.getD 0 .nil)) ≠ 0 then mustE (kindF ctx (l.getD 0 .nil)) else if mustE (kindF ctx (l.getD 1 .nil)) ≠ 0 then mustE (kindF ctx (l.getD 1 .nil)) else 0 := by
  match l, h with
  | [a, b], _ => rw [starsE, starsE, starsE]; rfl
theorem starsE_one (ctx : List Tree) (x : Tree) : starsE ctx [x] = mustE (kindF ctx x) := by
  rw [starsE, starsE]
  split
  · rfl
  · rename_i h; apply Eq.symm; simpa using h
theorem inner_con {kind : Int} {l : List Tree} (h : ∀ x ∈ l, fieldF kind x = true) : ∀ y ∈ innerF l, ∃ x ∈ l, y = x.kids.getD 0 .nil ∧ y ∈ x.kids ∧ isConF y = true ∧ sizeN y ≤ sizesN l := by
  intro y hy
  unfold innerF at hy
  obtain ⟨x, hx, rfl⟩ := List.mem_map.1 hy
  obtain ⟨h1, h2, h3⟩ := field_kid (h x hx)
  have hm := getD_mem (l := x.kids) (i := 0) (by omega)
  have s1 := sizesN_mem hx
  have s2 := sizeN_kids h1
  have s3 := sizesN_mem hm
  exact ⟨x, hx, rfl, hm, h3, by omega⟩

set_option maxHeartbeats 8000000 in
set_option maxRecDepth 10000 in
theorem kind_ok (T : Tree) : sizeN T ≤ 65536 → KindP T := by
  suffices h : (sizeN T ≤ 65536 → KindP T) ∧ ∀ x ∈ T.kids, sizeN x ≤ 65536 → KindP x from h.1
  induction T using Tree.ind' with
  | h0 => exact ⟨fun _ h => (by rw [isConF] at h; cases h), fun x hx => (by cases hx)⟩
  | h1 T hT ih => ?_
  refine ⟨fun hzz hcon ctx hx hl => ?_, fun x hx => (ih x hx).1⟩
  have hsz := sizeN_kids hT
  have kids : ∀ i, i < T.kids.length → KindP (T.kids.getD i .nil) := fun i hi => (ih _ (getD_mem hi)).1 (by have := sizesN_mem (getD_mem hi); omega)
  have e := kindF_eq ctx hT
  refine Pure.of_body tt [100, 102, 66] [4, 5] Try.func45 rfl rfl rfl (Nat.le_of_ble_eq_true rfl) fun g => ?_
  rcases con_kids hT hcon with hk | hk | hk | hk | hk | hk | hk | hk | hk | hk | hk
  · have hv := con_var hT hcon hk
    rw [if_pos hk] at e
    by_cases hn : (ctx.length : Int) ≤ T.n
    · rw [if_pos hn] at e
      rw [e]
      repeat' ((first
        | refine then_go hm htt ?_
        | refine Side.go ?_
        | refine Hyp.go fun hlen => ?_
        | refine Split.ct ?_
        | refine Split.cf ?_
        | refine Split.tt ?_
        | refine Split.ff ?_
        | refine Indep.go ?_
        | refine Split.go (fun hc => ?_) fun hc => ?_) <;> conv => whnf)
      exact ret_closed rfl rfl rfl
    · rw [if_neg hn] at e
      rw [e]
      repeat' ((first
        | refine then_go hm htt ?_
        | refine Side.go ?_
        | refine Hyp.go fun hlen => ?_
        | refine Split.ct ?_
        | refine Split.cf ?_
        | refine Split.tt ?_
        | refine Split.ff ?_
        | refine Indep.go ?_
        | refine Split.go (fun hc => ?_) fun hc => ?_) <;> conv => whnf)
      exact ret_closed rfl rfl rfl
  · rw [if_neg (by omega), if_neg (by omega), if_neg (by omega), if_neg (by omega), if_neg (by omega), if_neg (by omega), if_neg (by omega)] at e
    rw [e]
    repeat' ((first
      | refine then_go hm htt ?_
      | refine Side.go ?_
      | refine Hyp.go fun hlen => ?_
      | refine Split.ct ?_
      | refine Split.cf ?_
      | refine Split.tt ?_
      | refine Split.ff ?_
      | refine Indep.go ?_
      | refine CallG.gp star_ok ?_
      | refine Split.go (fun hc => ?_) fun hc => ?_) <;> conv => whnf)
    exact ret_closed rfl rfl rfl
  · rw [if_neg (by omega), if_neg (by omega), if_neg (by omega), if_neg (by omega), if_neg (by omega), if_neg (by omega), if_neg (by omega)] at e
    rw [e]
    repeat' ((first
      | refine then_go hm htt ?_
      | refine Side.go ?_
      | refine Hyp.go fun hlen => ?_
      | refine Split.ct ?_
      | refine Split.cf ?_
      | refine Split.tt ?_
      | refine Split.ff ?_
      | refine Indep.go ?_
      | refine CallG.gp star_ok ?_
      | refine Split.go (fun hc => ?_) fun hc => ?_) <;> conv => whnf)
    exact ret_closed rfl rfl rfl
  · rw [if_neg (by omega), if_neg (by omega), if_neg (by omega), if_neg (by omega), if_neg (by omega), if_neg (by omega), if_neg (by omega)] at e
    rw [e]
    repeat' ((first
      | refine then_go hm htt ?_
      | refine Side.go ?_
      | refine Hyp.go fun hlen => ?_
      | refine Split.ct ?_
      | refine Split.cf ?_
      | refine Split.tt ?_
      | refine Split.ff ?_
      | refine Indep.go ?_
      | refine CallG.gp star_ok ?_
      | refine Split.go (fun hc => ?_) fun hc => ?_) <;> conv => whnf)
    exact ret_closed rfl rfl rfl
  · rw [if_neg (by omega), if_pos hk] at e
    obtain ⟨h1, h2, h3⟩ := con_two hT hcon (.inl hk)
    have hs := stars_ok ctx T.kids hx (fun x hx => by
      have := sizesN_mem hx
      rcases mem_two h1 hx with q | q
      · exact ⟨by rw [q]; exact kids 0 (by omega), by rw [q]; exact h2, by omega⟩
      · exact ⟨by rw [q]; exact kids 1 (by omega), by rw [q]; exact h3, by omega⟩)
    rw [e]
    repeat' ((first
      | refine then_go hm htt ?_
      | refine Side.go ?_
      | refine Hyp.go fun hlen => ?_
      | refine Split.ct ?_
      | refine Split.cf ?_
      | refine Split.tt ?_
      | refine Split.ff ?_
      | refine Indep.go ?_
      | refine CallG.gp hs ?_
      | refine Split.go (fun hc => ?_) fun hc => ?_) <;> conv => whnf)
    exact ret_closed rfl rfl rfl
  · rw [if_neg (by omega), if_neg (by omega), if_pos hk] at e
    have hf := rec_fields hT hcon hk
    have hin := inner_ok T hT (fun x hx => by obtain ⟨q1, q2, _⟩ := field_kid (hf x hx); exact ⟨q1, q2⟩)
    rw [starsIn_eq ctx T.kids (fun x hx => (field_kid (hf x hx)).1)] at e
    have hs := stars_ok ctx (innerF T.kids) hx (fun y hy => by
      obtain ⟨x, q1, q2, q3, q4, q5⟩ := inner_con hf y hy
      exact ⟨(ih x q1).2 y q3 (by omega), q4, by omega⟩)
    rw [e]
    repeat' ((first
      | refine then_go hm htt ?_
      | refine Side.go ?_
      | refine Hyp.go fun hlen => ?_
      | refine Split.ct ?_
      | refine Split.cf ?_
      | refine Split.tt ?_
      | refine Split.ff ?_
      | refine Indep.go ?_
      | refine CallG.gp hin ?_
      | refine CallG.gp hs ?_
      | refine Split.go (fun hc => ?_) fun hc => ?_) <;> conv => whnf)
    exact ret_closed rfl rfl rfl
  · rw [if_neg (by omega), if_neg (by omega), if_neg (by omega), if_pos (.inl hk)] at e
    obtain ⟨h1, h2, h3⟩ := con_bind hT hcon (.inl hk)
    have s1 := sizesN_mem (getD_mem (l := T.kids) (i := 1) (by omega))
    have hu := under_ok (T.kids.getD 0 .nil) ctx (by omega)
    have hs := stars_ok (T.kids.getD 0 .nil :: ctx) [T.kids.getD 1 .nil] (ctxOK_cons h2 hx) (fun y hy => by
      rw [List.mem_singleton] at hy
      subst hy
      exact ⟨kids 1 (by omega), h3, by simp only [List.length_cons]; omega⟩)
    rw [starsE_one] at hs
    rw [e]
    repeat' ((first
      | refine then_go hm htt ?_
      | refine Side.go ?_
      | refine Hyp.go fun hlen => ?_
      | refine Split.ct ?_
      | refine Split.cf ?_
      | refine Split.tt ?_
      | refine Split.ff ?_
      | refine Indep.go ?_
      | refine CallG.gp hu ?_
      | refine CallG.gp hs ?_
      | refine Split.go (fun hc => ?_) fun hc => ?_) <;> conv => whnf)
    exact ret_closed rfl rfl rfl
  · rw [if_neg (by omega), if_neg (by omega), if_neg (by omega), if_pos (.inr hk)] at e
    obtain ⟨h1, h2, h3⟩ := con_bind hT hcon (.inr (.inl hk))
    have s1 := sizesN_mem (getD_mem (l := T.kids) (i := 1) (by omega))
    have hu := under_ok (T.kids.getD 0 .nil) ctx (by omega)
    have hs := stars_ok (T.kids.getD 0 .nil :: ctx) [T.kids.getD 1 .nil] (ctxOK_cons h2 hx) (fun y hy => by
      rw [List.mem_singleton] at hy
      subst hy
      exact ⟨kids 1 (by omega), h3, by simp only [List.length_cons]; omega⟩)
    rw [starsE_one] at hs
    rw [e]
    repeat' ((first
      | refine then_go hm htt ?_
      | refine Side.go ?_
      | refine Hyp.go fun hlen => ?_
      | refine Split.ct ?_
      | refine Split.cf ?_
      | refine Split.tt ?_
      | refine Split.ff ?_
      | refine Indep.go ?_
      | refine CallG.gp hu ?_
      | refine CallG.gp hs ?_
      | refine Split.go (fun hc => ?_) fun hc => ?_) <;> conv => whnf)
    exact ret_closed rfl rfl rfl
  · rw [if_neg (by omega), if_neg (by omega), if_neg (by omega), if_neg (by omega), if_pos hk] at e
    obtain ⟨h1, h2, h3⟩ := con_bind hT hcon (.inr (.inr hk))
    have s1 := sizesN_mem (getD_mem (l := T.kids) (i := 1) (by omega))
    have hu := under_ok (T.kids.getD 0 .nil) ctx (by omega)
    have hb := kids 1 (by omega) h3 (T.kids.getD 0 .nil :: ctx) (ctxOK_cons h2 hx) (by simp only [List.length_cons]; omega)
    generalize kindF (T.kids.getD 0 .nil :: ctx) (T.kids.getD 1 .nil) = R at *
    by_cases hR : R.2 = 0
    · rw [if_neg (by omega)] at e
      rw [e]
      repeat' ((first
        | refine then_go hm htt ?_
        | refine Side.go ?_
        | refine Hyp.go fun hlen => ?_
        | refine Split.ct ?_
        | refine Split.cf ?_
        | refine Split.tt ?_
        | refine Split.ff ?_
        | refine Indep.go ?_
        | refine CallG.gp hu ?_
        | refine CallG.gp hb ?_
        | refine Split.go (fun hc => ?_) fun hc => ?_) <;> conv => whnf)
      exact ret_closed rfl rfl rfl
    · rw [if_pos hR] at e
      rw [e]
      repeat' ((first
        | refine then_go hm htt ?_
        | refine Side.go ?_
        | refine Hyp.go fun hlen => ?_
        | refine Split.ct ?_
        | refine Split.cf ?_
        | refine Split.tt ?_
        | refine Split.ff ?_
        | refine Indep.go ?_
        | refine CallG.gp hu ?_
        | refine CallG.gp hb ?_
        | refine Split.go (fun hc => ?_) fun hc => ?_) <;> conv => whnf)
      exact ret_closed rfl rfl rfl
  · rw [if_neg (by omega), if_neg (by omega), if_neg (by omega), if_neg (by omega), if_neg (by omega), if_pos hk] at e
    obtain ⟨h1, h2, h3⟩ := con_two hT hcon (.inr hk)
    have ha := apply_ok ctx T hT hx hcon hk hl (fun x hx => by
      rcases mem_two h1 hx with q | q
      · rw [q]; exact kids 0 (by omega)
      · rw [q]; exact kids 1 (by omega))
    rw [e]
    repeat' ((first
      | refine then_go hm htt ?_
      | refine Side.go ?_
      | refine Hyp.go fun hlen => ?_
      | refine Split.ct ?_
      | refine Split.cf ?_
      | refine Split.tt ?_
      | refine Split.ff ?_
      | refine Indep.go ?_
      | refine CallG.gp ha ?_
      | refine Split.go (fun hc => ?_) fun hc => ?_) <;> conv => whnf)
    exact ret_closed rfl rfl rfl
  · rw [if_neg (by omega), if_neg (by omega), if_neg (by omega), if_neg (by omega), if_neg (by omega), if_neg (by omega), if_pos hk] at e
    have hf := sum_fields hT hcon hk
    have hin := inner_ok T hT (fun x hx => by obtain ⟨q1, q2, _⟩ := field_kid (hf x hx); exact ⟨q1, q2⟩)
    rw [starsIn_eq (starT :: ctx) T.kids (fun x hx => (field_kid (hf x hx)).1)] at e
    have hu := under_ok starT ctx (by omega)
    have hs := stars_ok (starT :: ctx) (innerF T.kids) (ctxOK_cons star_kind hx) (fun y hy => by
      obtain ⟨x, q1, q2, q3, q4, q5⟩ := inner_con hf y hy
      exact ⟨(ih x q1).2 y q3 (by omega), q4, by simp only [List.length_cons]; omega⟩)
    have hft := fits_ok T hT hcon hk hzz
    generalize starsE (starT :: ctx) (innerF T.kids) = S at *
    generalize fitE T.kids = W at *
    by_cases hS : S = 0
    · subst hS
      rw [if_neg (by decide)] at e
      by_cases hW : W = 0
      · rw [if_neg (by omega)] at e
        rw [e]
        repeat' ((first
          | refine then_go hm htt ?_
          | refine Side.go ?_
          | refine Hyp.go fun hlen => ?_
          | refine Split.ct ?_
          | refine Split.cf ?_
          | refine Split.tt ?_
          | refine Split.ff ?_
          | refine Indep.go ?_
          | refine CallG.gp star_ok ?_
          | refine CallG.gp hu ?_
          | refine CallG.gp hin ?_
          | refine CallG.gp hs ?_
          | refine CallG.gp hft ?_
          | refine Split.go (fun hc => ?_) fun hc => ?_) <;> conv => whnf)
        exact ret_closed rfl rfl rfl
      · rw [if_pos hW] at e
        rw [e]
        repeat' ((first
          | refine then_go hm htt ?_
          | refine Side.go ?_
          | refine Hyp.go fun hlen => ?_
          | refine Split.ct ?_
          | refine Split.cf ?_
          | refine Split.tt ?_
          | refine Split.ff ?_
          | refine Indep.go ?_
          | refine CallG.gp star_ok ?_
          | refine CallG.gp hu ?_
          | refine CallG.gp hin ?_
          | refine CallG.gp hs ?_
          | refine CallG.gp hft ?_
          | refine Split.go (fun hc => ?_) fun hc => ?_) <;> conv => whnf)
        exact ret_closed rfl rfl rfl
    · rw [if_pos hS] at e
      have eS : starR S = (.nil, S) := by unfold starR; rw [if_neg hS]
      rw [eS] at hs
      rw [e]
      repeat' ((first
        | refine then_go hm htt ?_
        | refine Side.go ?_
        | refine Hyp.go fun hlen => ?_
        | refine Split.ct ?_
        | refine Split.cf ?_
        | refine Split.tt ?_
        | refine Split.ff ?_
        | refine Indep.go ?_
        | refine CallG.gp star_ok ?_
        | refine CallG.gp hu ?_
        | refine CallG.gp hin ?_
        | refine CallG.gp hs ?_
        | refine Split.go (fun hc => ?_) fun hc => ?_) <;> conv => whnf)
      exact ret_closed rfl rfl rfl
end Ki
end Go.Proofs.Ytoajaklekmbcdaa

namespace Go.Proofs.Ytoajaklekmbcdaa
namespace Ki
open Go Go.Mq
set_option linter.all false

theorem starR_zero {e : Int} (h : e = 0) : starR e = (starT, 0) := by unfold starR; rw [if_pos h]
theorem starR_err {e : Int} (h : e ≠ 0) : starR e = (.nil, e) := by unfold starR; rw [if_neg h]

end Ki
end Go.Proofs.Ytoajaklekmbcdaa

namespace Go.Proofs.Ytoajaklekmbcdaa
namespace Ki
open Go Go.Mq
set_option linter.all false

def ctxE (bad : Int) : List Tree → Int
  | [] => bad
  | k :: l => if kindE k = 0 then ctxE bad l else if kindE k = 1 then 1 else ctxE 2 l
def kindR (ctx : List Tree) (T : Tree) : Tree × Int :=
  if ctxE 0 ctx = 1 then (.nil, 1) else if conE T ≠ 0 then (.nil, conE T) else if ctxE 0 ctx ≠ 0 then (.nil, ctxE 0 ctx) else kindF ctx T
theorem ctxE_two : ∀ (l : List Tree) (b : Int), b ≠ 0 → ctxE b l ≠ 0
  | [], b, h => h
  | k :: l, b, h => by
    rw [ctxE]
    split
    · exact ctxE_two l b h
    · split
      · decide
      · exact ctxE_two l 2 (by decide)
theorem ctxE_ok : ∀ l : List Tree, ctxE 0 l = 0 → ∀ k ∈ l, kindE k = 0
  | [], _, k, hk => by cases hk
  | x :: l, h, k, hk => by
    rw [ctxE] at h
    split at h
    · rename_i hx
      rcases List.mem_cons.1 hk with rfl | hk
      · exact hx
      · exact ctxE_ok l h k hk
    · split at h
      · cases h
      · exact absurd h (ctxE_two l 2 (by decide))
theorem kindE_full' {T : Tree} (h : kindE T = 0) : isKindF T = true := by
  unfold kindE checkF at h
  split at h
  · cases hk : isKindF T with
    | true => rfl
    | false => rw [hk] at h; cases h
  · exact absurd h ‹_›
theorem ctxE_ctx {l : List Tree} (h : ctxE 0 l = 0) : ctxOK l := fun k hk => kindE_full' (ctxE_ok l h k hk)
theorem kindR_ok {ctx : List Tree} {T : Tree} (h : (kindR ctx T).2 = 0) : ctxE 0 ctx = 0 ∧ conE T = 0 ∧ kindR ctx T = kindF ctx T := by
  unfold kindR at *
  split at h
  · cases h
  · rename_i h1
    split at h
    · exact absurd h ‹_›
    · rename_i h2
      split at h
      · exact absurd h ‹_›
      · rename_i h3
        refine ⟨by simpa using h3, by simpa using h2, ?_⟩
        rw [if_neg h1, if_neg h2, if_neg h3]

theorem starR_nil {e : Int} (h : (starR e).2 ≠ 0) : (starR e).1 = .nil := by
  unfold starR at *
  split
  · rename_i h0; rw [if_pos h0] at h; exact absurd rfl h
  · rfl
theorem appR_nil {f k : Tree × Int} (h : (appR f k).2 ≠ 0) : (appR f k).1 = .nil := by
  revert h
  unfold appR
  split
  · exact fun _ => rfl
  · split
    · exact fun _ => rfl
    · split
      · exact fun _ => rfl
      · exact fun h => absurd rfl h
theorem kindF_nil (T : Tree) (hc : isConF T = true) (ctx : List Tree) : (kindF ctx T).2 ≠ 0 → (kindF ctx T).1 = .nil := by
  have hT : T ≠ .nil := by intro e; subst e; rw [isConF] at hc; cases hc
  rw [kindF_eq ctx hT]
  split
  · split
    · exact fun _ => rfl
    · exact fun h => absurd rfl h
  split
  · exact starR_nil
  split
  · exact starR_nil
  split
  · exact starR_nil
  split
  · split
    · exact fun _ => rfl
    · exact fun h => absurd rfl h
  split
  · exact appR_nil
  split
  · split
    · exact fun _ => rfl
    · split
      · exact fun _ => rfl
      · exact fun h => absurd rfl h
  · exact fun h => absurd rfl h

set_option maxHeartbeats 4000000 in
set_option maxRecDepth 10000 in
theorem Kind_ok (ctx : List Tree) (T : Tree) (hl : ctx.length ≤ 1024) : Pure P 15 [.d (.trees ctx), .d (.tree T)] (.tuple [.d (.tree (kindR ctx T).1), .d (.int .i64 (kindR ctx T).2)]) := by
  refine Pure.of_body tt [] [4, 5] Try.func15 rfl rfl rfl (Nat.le_of_ble_eq_true rfl) fun g => ?_
  repeat' ((first
    | refine then_go hm htt ?_
    | refine Side.go ?_
    | refine Hyp.go fun hlen => ?_
    | refine Split.ct ?_
    | refine Split.cf ?_
    | refine Split.tt ?_
    | refine Split.ff ?_
    | refine Indep.go ?_
    | refine Split.go (fun hc => ?_) fun hc => ?_) <;> conv => whnf)
  refine loop_go (α := Nat × Int) (fun p => ⟨[(0, .d (.trees ctx)), (1, .d (.tree T)), (6, .d (.int .i64 p.2)), (11, .d (.trees ctx)), (12, .d (.int .i64 ctx.length)), (13, .d (.int .i64 p.1))], 39, [], 0, g⟩)
      (fun p => p.1 ≤ ctx.length ∧ (p.2 = 0 ∨ p.2 = 2) ∧ ctxE p.2 (ctx.drop p.1) = ctxE 0 ctx) (fun p => ctx.length - p.1) (0, 0) ⟨by simp, .inl rfl, rfl⟩
      (Ent.go []) (fun _ => rfl) fun p hpre => ?_
  obtain ⟨i, b⟩ := p
  obtain ⟨hp1, hb, hp2⟩ := hpre
  simp only [] at hp1 hp2 hb
  by_cases hp : i < ctx.length
  · have hk := Go.Proofs.Ytoajaklekmbcdaa.kind_ok (ctx.getD i .nil)
    rw [drop_step hp, ctxE] at hp2
    generalize kindE (ctx.getD i .nil) = E at *
    by_cases h0 : E = 0
    · rw [if_pos h0] at hp2
      repeat' ((first
        | refine then_go hm htt ?_
        | refine Side.go ?_
        | refine Hyp.go fun hlen => ?_
        | refine Split.ct ?_
        | refine Split.cf ?_
        | refine Split.tt ?_
        | refine Split.ff ?_
        | refine Indep.go ?_
        | refine CallG.gp hk ?_
        | refine Split.go (fun hc => ?_) fun hc => ?_) <;> conv => whnf)
      exact ⟨(i + 1, b), ⟨by simp only []; omega, hb, hp2⟩, by simp only []; omega, Ent.go []⟩
    · rw [if_neg h0] at hp2
      by_cases h1 : E = 1
      · rw [if_pos h1] at hp2
        have e : kindR ctx T = (.nil, 1) := by unfold kindR; rw [if_pos hp2.symm]
        rw [e]
        subst h1
        repeat' ((first
          | refine then_go hm htt ?_
          | refine Side.go ?_
          | refine Hyp.go fun hlen => ?_
          | refine Split.ct ?_
          | refine Split.cf ?_
          | refine Split.tt ?_
          | refine Split.ff ?_
          | refine Indep.go ?_
          | refine CallG.gp hk ?_
          | refine Split.go (fun hc => ?_) fun hc => ?_) <;> conv => whnf)
        exact ret_closed rfl rfl rfl
      · rw [if_neg h1] at hp2
        repeat' ((first
          | refine then_go hm htt ?_
          | refine Side.go ?_
          | refine Hyp.go fun hlen => ?_
          | refine Split.ct ?_
          | refine Split.cf ?_
          | refine Split.tt ?_
          | refine Split.ff ?_
          | refine Indep.go ?_
          | refine CallG.gp hk ?_
          | refine Split.go (fun hc => ?_) fun hc => ?_) <;> conv => whnf)
        exact ⟨(i + 1, 2), ⟨by simp only []; omega, .inr rfl, hp2⟩, by simp only []; omega, Ent.go []⟩
  · rw [drop_end (by omega), ctxE] at hp2
    have hc1 : ctxE 0 ctx ≠ 1 := by rw [← hp2]; rcases hb with h | h <;> rw [h] <;> decide
    by_cases h : conE T = 0
    · have h1 := check_ok T
      rw [h] at h1
      have hcon := (conE_full h).2
      by_cases hb0 : b = 0
      · subst hb0
        have hx := ctxE_ctx hp2.symm
        have hk := Ki.kind_ok T (conE_size h) hcon ctx hx (by have := conE_size h; omega)
        have e : kindR ctx T = kindF ctx T := by unfold kindR; rw [if_neg hc1, if_neg (by omega), if_neg (by omega)]
        rw [e]
        repeat' ((first
          | refine then_go hm htt ?_
          | refine Side.go ?_
          | refine Hyp.go fun hlen => ?_
          | refine Split.ct ?_
          | refine Split.cf ?_
          | refine Split.tt ?_
          | refine Split.ff ?_
          | refine Indep.go ?_
          | refine CallG.gp h1 ?_
          | refine CallG.gp hk ?_
          | refine Split.go (fun hc => ?_) fun hc => ?_) <;> conv => whnf)
        exact ret_closed rfl rfl rfl
      · have e : kindR ctx T = (.nil, b) := by unfold kindR; rw [if_neg hc1, if_neg (by omega), if_pos (by omega), hp2]
        rw [e]
        repeat' ((first
          | refine then_go hm htt ?_
          | refine Side.go ?_
          | refine Hyp.go fun hlen => ?_
          | refine Split.ct ?_
          | refine Split.cf ?_
          | refine Split.tt ?_
          | refine Split.ff ?_
          | refine Indep.go ?_
          | refine CallG.gp h1 ?_
          | refine Split.go (fun hc => ?_) fun hc => ?_) <;> conv => whnf)
        exact ret_closed rfl rfl rfl
    · have e : kindR ctx T = (.nil, conE T) := by unfold kindR; rw [if_neg hc1, if_pos h]
      rw [e]
      repeat' ((first
        | refine then_go hm htt ?_
        | refine Side.go ?_
        | refine Hyp.go fun hlen => ?_
        | refine Split.ct ?_
        | refine Split.cf ?_
        | refine Split.tt ?_
        | refine Split.ff ?_
        | refine Indep.go ?_
        | refine CallG.gp (check_ok T) ?_
        | refine Split.go (fun hc => ?_) fun hc => ?_) <;> conv => whnf)
      exact ret_closed rfl rfl rfl
def starE (ctx : List Tree) (T : Tree) : Int := if (kindR ctx T).2 = 0 ∧ (kindR ctx T).1.kind ≠ 100 then 10 else (kindR ctx T).2
theorem kindR_ne {ctx : List Tree} {T : Tree} (h : (kindR ctx T).2 = 0) : (kindR ctx T).1 ≠ .nil := by
  obtain ⟨h1, h2, h3⟩ := kindR_ok h
  rw [h3] at h ⊢
  exact kind_ne (kindF_kind T (conE_full h2).2 ctx (ctxE_ctx h1) h)
end Ki
end Go.Proofs.Ytoajaklekmbcdaa

namespace Go.Proofs.Ytoajaklekmbcdaa
namespace Ki
open Go Go.Mq
set_option linter.all false

def treesD (ls : List (List Cel)) : Mq.Data := .slice ls.length 1 (fun i _ => cellsD (ls.getD i []))
def contextF (ls : List (List Cel)) : List Tree := (ls.take 5).map fewF
theorem takeL_step {α : Type} {d : α} {l : List α} {i : Nat} (h : i < l.length) : l.take (i + 1) = l.take i ++ [l.getD i d] := by
  rw [List.getD_eq_getElem?_getD, List.getElem?_eq_getElem h]; simp
set_option maxHeartbeats 4000000 in
set_option maxRecDepth 10000 in
theorem context_ok (ls : List (List Cel)) : Pure P 26 [.d (treesD ls)] (.d (.trees (contextF ls))) := by
  refine Pure.of_body tt [] [2] Try.func26 rfl rfl rfl (Nat.le_of_ble_eq_true rfl) fun g => ?_
  repeat' ((first
    | refine then_go hm htt ?_
    | refine Side.go ?_
    | refine Hyp.go fun hlen => ?_
    | refine Split.ct ?_
    | refine Split.cf ?_
    | refine Split.tt ?_
    | refine Split.ff ?_
    | refine Indep.go ?_
    | refine Split.go (fun hc => ?_) fun hc => ?_) <;> conv => whnf)
  refine loop_go (α := Nat) (fun p => ⟨[(0, .d (treesD ls)), (3, .row 0 p), (4, .d (.int .i64 p))], 24, [(0, .row 25 (.trees ((ls.take p).map fewF)))], 1, g⟩)
      (fun p => p ≤ ls.length ∧ p ≤ 5) (fun p => 5 - p) 0 (by omega)
      (Ent.nil rfl rfl rfl (by repeat' first | exact trivial | apply And.intro | rfl | (refine int_eq ?_; rw [wrap64] <;> omega)) (by repeat' first | exact trivial | apply And.intro | rfl | (refine int_eq ?_; rw [wrap64] <;> omega))) (fun _ => rfl) fun p hpre => ?_
  obtain ⟨hp1, hp3⟩ := hpre
  have hp2 : ((ls.take p).map fewF).length = p := by simp; omega
  by_cases hp : p < ls.length ∧ p < 5
  · obtain ⟨h1, h2⟩ := hp
    have hf := few_ok (ls.getD p [])
    have hts : (ls.take (p + 1)).map fewF = (ls.take p).map fewF ++ [fewF (ls.getD p [])] := by rw [takeL_step h1, List.map_append]; rfl
    repeat' ((first
      | refine then_go hm htt ?_
      | refine Side.go ?_
      | refine Hyp.go fun hlen => ?_
      | refine Split.ct ?_
      | refine Split.cf ?_
      | refine Split.tt ?_
      | refine Split.ff ?_
      | refine Indep.go ?_
      | refine Side.mk (show (p + 1 ≤ 17592186044416 ∧ (p + 1) * 8 ≤ 140737488355328) from ⟨by omega, by omega⟩) ?_
      | refine Side.mk (show (0 : Int) ≤ (p : Int) ∧ (p : Int) < (ls.length : Int) from by omega) ?_
      | refine CallG.gp hf ?_
      | refine Split.go (fun hc => ?_) fun hc => ?_) <;> conv => whnf)
    exact ⟨p + 1, by omega, by omega, Ent.re [2] rfl rfl rfl rfl rfl rfl (by repeat' first | exact trivial | apply And.intro | rfl | (refine int_eq ?_; rw [wrap64] <;> omega)) (by repeat' first | exact trivial | apply And.intro | rfl | (rw [hts]; rfl))⟩
  · have e : (ls.take p).map fewF = contextF ls := by
      unfold contextF
      by_cases h5 : p = 5
      · rw [h5]
      · rw [List.take_of_length_le (by omega), List.take_of_length_le (by omega)]
    rw [e]
    rw [e] at hp2
    repeat' ((first
      | refine then_go hm htt ?_
      | refine Side.go ?_
      | refine Hyp.go fun hlen => ?_
      | refine Split.ct ?_
      | refine Split.cf ?_
      | refine Split.tt ?_
      | refine Split.ff ?_
      | refine Indep.go ?_
      | refine Split.go (fun hc => ?_) fun hc => ?_) <;> conv => whnf)
    all_goals
      refine RetS.ent (Ent.fz_row 0 (l := contextF ls) rfl (by repeat' first | exact trivial | apply And.intro | rfl | exact hp2.symm | exact Nat.zero_lt_one | omega) (by repeat' first | exact trivial | apply And.intro | rfl | exact hp2.symm | exact Nat.zero_lt_one | omega)) ?_
      exact ret_closed rfl rfl rfl
theorem contextF_len (ls : List (List Cel)) : (contextF ls).length ≤ 5 := by unfold contextF; simp; omega

theorem _root_.Go.Mq.Pure.nils {P : Program} {f : FuncId} {x r : AVal} (h : Mq.Pure P f [.d (.trees []), x] r) : Mq.Pure P f [.d .nils, x] r := by
  refine ⟨h.1, fun g E I ρ w vs hr ha => h.2 g E I ρ w vs hr ?_⟩
  obtain ⟨vs⟩ := vs
  match vs, ha with
  | [v0, v1], ha =>
    obtain ⟨h0, h1, h2⟩ := ha
    have e := h0.nils
    subst e
    exact ⟨.d (.trees (.inl ⟨rfl, rfl⟩)), h1, h2⟩
theorem _root_.Go.Mq.Pure.row1 {P : Program} {f : FuncId} {l : List Tree} {e : TypeId} {x : Mq.Data} {r : AVal} (h : Mq.Pure P f [.d (.trees l), .d x] r) : Fun P f [.row 0 l.length, .d x] [(0, .row e (.trees l))] 1 r [] 1 := by
  refine ⟨h.1, fun g E I ρ w vs hr ha => ?_⟩
  have hlen : vs.size = 2 := by have := ha.len; simpa using this.symm
  let σ : AState := ⟨[(0, .row 0 l.length), (1, .d x)], 2, [(0, .row e (.trees l))], 1, g⟩
  let E' : Env := ⟨E.base, 0, ρ⟩
  have hr' : Rel E' I ρ (· < 1) (sget [(0, .row e (.trees l))]) g w := by
    obtain ⟨own, hr⟩ := hr
    exact ⟨own, ⟨hr.env, hr.lt, hr.imm, hr.key, hr.obj, hr.ownd, hr.gst⟩⟩
  obtain ⟨vs⟩ := vs
  match vs, ha, hlen with
  | [v0, v1], ha, _ =>
    obtain ⟨h0, h1, _⟩ := ha
    have hT : RelT E' I ρ σ.fs { tmps := #[v0, v1], defers := [] } w := by
      refine ⟨hr', rfl, rfl, fun t => ?_, fun id h => absurd h (Nat.not_lt_zero id), fun id h => absurd h (Nat.not_lt_zero id)⟩
      match t with
      | 0 => exact h0
      | 1 => exact h1
      | t + 2 => exact .any
    obtain ⟨I', ρ', hI, hT'⟩ := (Ent.fz_row (nb := 0) (σ := σ) 0 (l := l) rfl ⟨rfl, trivial, trivial⟩ ⟨trivial, trivial⟩).2 E' I ρ _ w rfl hT
    have hr2 : Rel E I' ρ' (· < 0) (sget []) g w := by
      have : Rel E' I' ρ' (· < 0) (fun _ => none) g w := hT'.rel.drop
      obtain ⟨own, q⟩ := this
      exact ⟨own, ⟨q.env, q.lt, q.imm, fun _ _ e => (by cases e), fun _ _ e => (by cases e), fun _ _ e => (by cases e), q.gst⟩⟩
    have s0 : CA I' ρ' (· < 1) (.d (.trees l)) v0 := hT'.slot 0
    have s1 : CA I' ρ' (· < 1) (.d x) v1 := hT'.slot 1
    have key := h.2 g E I' ρ' w #[v0, v1] hr2 ⟨s0.unbind rfl, s1.unbind rfl, trivial⟩
    refine key.mono ?_
    rintro en w' ⟨I2, ρ2, v, g1, g2, g3, g4, g5⟩
    exact ⟨I2, ρ, v, Imm.le_trans hI g1, fun _ _ => rfl, g3, g4.drop, g5.mono (Imm.le_refl _) (fun id h => absurd h (Nat.not_lt_zero id)) (fun id h => absurd h (Nat.not_lt_zero id))⟩
end Ki
end Go.Proofs.Ytoajaklekmbcdaa

namespace Go.Proofs.Ytoajaklekmbcdaa
namespace Ki
open Go Go.Mq
set_option linter.all false

def arrT (a b : Tree) : Tree := .node 114 0 ByteArray.empty ByteArray.empty [a, b]
def lamT (a b : Tree) : Tree := .node 119 0 ByteArray.empty ByteArray.empty [a, b]
def sumT (n : Tree) : Tree := .node 121 0 ByteArray.empty ByteArray.empty [.node 122 0 ⟨#[67]⟩ ByteArray.empty [n]]
def recT (n : Tree) : Tree := .node 115 0 ByteArray.empty ByteArray.empty [.node 116 0 ⟨#[49]⟩ ByteArray.empty [n]]
def wArrow : Tree := arrT (varT 0) wI
def wLam : Tree := lamT starT wArrow
def wKS : ByteArray := ⟨#[40, 32, 42, 32, 45, 62, 32, 42, 32, 41]⟩
theorem w_kind : kindR [] wLam = (karrT starT starT, 0) := by kernel_rfl
theorem w_kshow : showR (karrT starT starT) = wKS := by kernel_rfl
theorem w_fit1 : fitsR (sumT (recT (varT 0))) = 0 := by kernel_rfl
theorem w_fit2 : fitsR (sumT wArrow) = 15 := by kernel_rfl
set_option maxRecDepth 10000 in
theorem works12s_ok (n : Tree) : Pure P 47 [.d (.tree n)] (.d (.tree (sumT n))) := by
  refine Pure.of_body tt [4, 6, 7, 9] [2] Try.func47 rfl rfl rfl (Nat.le_of_ble_eq_true rfl) fun g => ?_
  repeat' ((first
    | refine then_go hm htt ?_
    | refine Side.go ?_
    | refine Hyp.go fun hlen => ?_
    | refine Split.ct ?_
    | refine Split.cf ?_
    | refine Split.tt ?_
    | refine Split.ff ?_
    | refine Indep.go ?_
    | refine Split.go (fun hc => ?_) fun hc => ?_) <;> conv => whnf)
  exact ret_closed rfl rfl rfl
set_option maxRecDepth 10000 in
theorem works12_ok : Pure P 17 [] (.d (.bool true)) := by
  have h1 : Pure P 15 [.d .nils, .d (.tree wLam)] (.tuple [.d (.tree (karrT starT starT)), .d (.int .i64 0)]) := by
    have := Kind_ok [] wLam (by decide)
    rw [w_kind] at this
    exact this.nils
  have h2 : Pure P 48 [.d (.tree (karrT starT starT))] (.d (.str wKS)) := w_kshow ▸ Show_ok (karrT starT starT)
  have h3 : Pure P 49 [.d (.tree (sumT (recT (varT 0))))] (.d (.int .i64 0)) := w_fit1 ▸ Fits_ok (sumT (recT (varT 0)))
  have h4 : Pure P 49 [.d (.tree (sumT wArrow))] (.d (.int .i64 15)) := w_fit2 ▸ Fits_ok (sumT wArrow)
  refine Pure.of_body tt [8, 11, 12, 14, 17, 19, 21, 26, 28, 29, 31] [0] Try.func17 rfl rfl rfl (Nat.le_of_ble_eq_true rfl) fun g => ?_
  repeat' ((first
    | refine then_go hm htt ?_
    | refine Side.go ?_
    | refine Hyp.go fun hlen => ?_
    | refine Split.ct ?_
    | refine Split.cf ?_
    | refine Split.tt ?_
    | refine Split.ff ?_
    | refine Indep.go ?_
    | refine CallG.gp h1 ?_
    | refine CallG.gp h2 ?_
    | refine CallG.gp h3 ?_
    | refine CallG.gp h4 ?_
    | refine CallG.gp (works12s_ok (recT (varT 0))) ?_
    | refine CallG.gp (works12s_ok wArrow) ?_
    | refine Split.go (fun hc => ?_) fun hc => ?_) <;> conv => whnf)
  all_goals first
    | exact ret_closed rfl (bool_eq (bytes_eq.2 rfl)) rfl
    | exact ret_closed rfl rfl rfl
    | exact absurd rfl hc

end Ki
end Go.Proofs.Ytoajaklekmbcdaa

namespace Go.Proofs.Ytoajaklekmbcdaa
open Go Go.Mq Go.ChangeShapes Go.WideShapes Go.Deep Go.RowKit Go.ChangeAt
set_option linter.all false

/-! A list of trees as an argument -/
set_option maxRecDepth 100000 in
theorem open_treesL {H : Type} {enc : TypeId × Value → H} {W : World} {fuel : Nat} {v : Value} {y : DataW H × List MemPlace}
    (h : DataW.trod enc P W 0 (fun _ => true) true fuel 41 [v] = some y) (hz : ∀ n ∈ y.1.weights P 41, n ≤ reachBytes) : ∃ l : List (List Cel), Cd (immOf W) (Ki.treesD l) v := by
  rcases open_slice_fields Try.underlying41 Try.underlying24 (by kernel_rfl) (by kernel_rfl) h with ⟨hc, _⟩ | ⟨a, len, cap, m, D, Pl, hc, _, hl, hm, hmm, hy, hi⟩
  · cases hc
    exact ⟨[], .slice0⟩
  · cases hc
    simp only [if_true] at hmm
    subst hmm
    have hw := hz (((List.range len).map D).length * P.bytesOf 24 + ((List.range (m - len)).map fun j => D (len + j)).length * P.bytesOf 24) (by
      rw [hy]
      simp [DataW.weights, Try.underlying41, Nat.add_mul])
    have hb72 : P.bytesOf 24 = 24 := by kernel_rfl
    have hr := reachBytes_lt
    rw [hb72, List.length_map, List.length_range] at hw
    have hlm : len ≤ maxN := by unfold maxN; omega
    have helem : ∀ i, i < len → ∀ n ∈ (D i).weights P 24, n ≤ reachBytes := by
      intro i hil n hn
      refine hz n ?_
      rw [hy]
      simp only [DataW.weights, Try.underlying41, List.mem_cons, List.mem_append]
      exact .inr (.inl (mem_weightsAll (mem_range_map hil) hn))
    by_cases hc0 : m = 0
    · have hl0 : len = 0 := by omega
      subst hc0 hl0
      exact ⟨[], .sliceE⟩
    · have hsp : a.spot = none := by
        obtain ⟨ys, n, _, _, _, hf⟩ := hi 0 (by omega)
        obtain ⟨v0, _, hv0, _, _⟩ := hf 0 _ rfl
        exact add_spot a (World.cell?_spot hv0)
      have each : ∀ i, i < len → ∃ p : List Cel × Value, W.cell? (a.add (i * 1)) = some p.2 ∧ Cd (immOf W) (cellsD p.1) p.2 := by
        intro i hil
        obtain ⟨ys, n, hD, _, hyl, hf⟩ := hi i (by omega)
        obtain ⟨v0, y0, c0, g0, t0⟩ := hf 0 _ rfl
        have hz4 : ∀ n ∈ y0.1.weights P 22, n ≤ reachBytes := by
          intro n hn
          refine helem i hil n ?_
          rw [hD]
          simp only [DataW.weights, Try.underlying24]
          exact DataW.weights_mem_each (j := 0) (t := 22) rfl (by rw [List.getElem?_map, g0]; rfl) n hn
        obtain ⟨c, q0⟩ := open_cells t0 hz4
        exact ⟨(c, v0), c0, q0⟩
      haveI : Inhabited (List Cel × Value) := ⟨([], undef)⟩
      obtain ⟨p, hp⟩ := choose_lt each
      obtain ⟨b, o, sp⟩ := a
      simp only at hsp
      subst hsp
      refine ⟨(List.range len).map fun i => (p i).1, ?_⟩
      have hll : ((List.range len).map fun i => (p i).1).length = len := by simp
      have key : Cd (immOf W) (.slice len 1 (fun i _ => cellsD (((List.range len).map fun i => (p i).1).getD i []))) (.slice (some ⟨b, o, none⟩) len m) := by
        refine .slice (cs := fun i _ => (p i).2) hl hlm (fun i j hil hj => ?_) (fun i j hil hj => ?_)
        · have := imm_cell' rfl (hp i hil).1
          simp only at this
          rw [← this]
          congr 1
          omega
        · have e : ((List.range len).map fun i => (p i).1).getD i [] = (p i).1 := by simp [hil]
          rw [e]
          exact (hp i hil).2
      show Cd (immOf W) (.slice ((List.range len).map fun i => (p i).1).length 1 _) _
      rw [hll]
      exact key
set_option maxRecDepth 100000 in
theorem open_trees {H : Type} {enc : TypeId × Value → H} {W : World} {base : Nat} {v : Value} {d : DataW H} {p : List MemPlace}
    (hv : Value.okWide P W .any base 41 v) (h : DataW.Trod enc P W 0 (fun _ => true) true 41 v d p) (hz : ∀ n ∈ d.weights P 41, n ≤ reachBytes) :
    ∃ l : List (List Cel), ∀ ρ : Nat → RB, CA (immOf W) ρ (· < 0) (.d (Ki.treesD l)) v := by
  obtain ⟨fuel, hf⟩ := h
  obtain ⟨o, n, c, rfl⟩ := okWide_slice Try.underlying41 hv
  obtain ⟨l, hl⟩ := open_treesL hf hz
  exact ⟨l, fun ρ => .d hl⟩
end Go.Proofs.Ytoajaklekmbcdaa
