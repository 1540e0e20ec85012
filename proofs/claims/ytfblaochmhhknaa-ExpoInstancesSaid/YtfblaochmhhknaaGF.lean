/- What functions of the program compute, and plain facts about it. -/
import Derived.Test.YtfblaochmhhknaaGC
import Derived.Test.YtfblaochmhhknaaGD
import Derived.Test.YtfblaochmhhknaaGE
set_option linter.all false
namespace Go.Proofs.Ytfblaochmhhknaa
open Go Go.Mq
set_option linter.all false

/-! arena.Same -/
set_option maxHeartbeats 4000000 in
set_option maxRecDepth 10000 in
theorem eqFunc_ok (l l' : List Tree) (ih : ∀ x ∈ l, ∀ y, Pure P 23 [.d (.tree x), .d (.tree y)] (.d (.bool (sameF x y)))) :
    Pure P 66 [.d (.trees l), .d (.trees l'), .fn 23 []] (.d (.bool (samesF l l'))) := by
  refine Pure.of_body tt [] [6] (Try.func66) rfl rfl rfl (Nat.le_of_ble_eq_true rfl) fun g => ?_
  by_cases hl : l.length = l'.length
  · repeat' first
      | (refine then_go hm htt ?_; conv => whnf)
      | (refine Side.mk (by first | assumption | exact trivial | rfl | exact Nat.le_of_ble_eq_true rfl | omega) ?_; conv => whnf)
      | (refine Hyp.mk fun hlen => ?_; replace hlen : _ ≤ 17592186044416 := hlen; conv => whnf)
      | (refine Split.ct ?_; conv => whnf)
      | (refine Split.cf ?_; conv => whnf)
      | (refine Split.of_true (by first | rfl | assumption | ((try simp only [bytes_eq, bytes_ne, empty_bytes, bytes_bne, bytes_bne']); (try simp only [decide_eq_true_eq, decide_eq_false_iff_not, beq_iff_eq, beq_eq_false_iff_ne, bne_iff_ne, bne_eq_false_iff_eq, Bool.not_eq_true', Bool.not_eq_false', Tree.isNil_iff, Tree.isNil_not, Int.not_lt, Int.not_le, gt_iff_lt, ge_iff_le, ne_eq, Decidable.not_not, Int.toNat_natCast, Int.toNat_zero, Int.toNat_one]); first | assumption | omega)) ?_; conv => whnf)
      | (refine Split.of_false (by first | rfl | assumption | ((try simp only [bytes_eq, bytes_ne, empty_bytes, bytes_bne, bytes_bne']); (try simp only [decide_eq_true_eq, decide_eq_false_iff_not, beq_iff_eq, beq_eq_false_iff_ne, bne_iff_ne, bne_eq_false_iff_eq, Bool.not_eq_true', Bool.not_eq_false', Tree.isNil_iff, Tree.isNil_not, Int.not_lt, Int.not_le, gt_iff_lt, ge_iff_le, ne_eq, Decidable.not_not, Int.toNat_natCast, Int.toNat_zero, Int.toNat_one]); first | assumption | omega)) ?_; conv => whnf)
      | (refine Indep.mk (by kernel_rfl) ?_; conv => whnf)
      | (refine Split.mk (fun hc => ?_) (fun hc => ?_) <;> (try simp only [bytes_eq, bytes_ne, empty_bytes, bytes_bne, bytes_bne'] at hc) <;> (try simp only [decide_eq_true_eq, decide_eq_false_iff_not, beq_iff_eq, beq_eq_false_iff_ne, bne_iff_ne, bne_eq_false_iff_eq, Bool.not_eq_true', Bool.not_eq_false', Tree.isNil_iff, Tree.isNil_not, Int.not_lt, Int.not_le, gt_iff_lt, ge_iff_le, ne_eq, Decidable.not_not, Int.toNat_natCast, Int.toNat_zero, Int.toNat_one] at hc) <;> conv => whnf)
    refine loop_go (α := Nat) (fun p => ⟨[(1, .d (.trees l')), (2, .fn 23 []), (15, .d (.trees l)), (16, .d (.int .i64 l.length)), (17, .d (.int .i64 p))], 32, [], 0, g⟩) (fun p => p ≤ l.length ∧ samesF (l.drop p) (l'.drop p) = samesF l l') (fun p => l.length - p) 0 ⟨by omega, rfl⟩
      (Ent.re [] rfl rfl rfl rfl rfl rfl (by repeat' first | exact trivial | apply And.intro | rfl | (refine int_eq ?_; rw [wrap64] <;> omega)) (by repeat' first | exact trivial | apply And.intro | rfl | (refine int_eq ?_; rw [wrap64] <;> omega))) (fun _ => rfl) fun p hpre => ?_
    obtain ⟨hp1, hp2⟩ := hpre
    repeat' first
      | (refine then_go hm htt ?_; conv => whnf)
      | (refine Side.mk (by first | assumption | exact trivial | rfl | exact Nat.le_of_ble_eq_true rfl | omega) ?_; conv => whnf)
      | (refine Hyp.mk fun hlen => ?_; replace hlen : _ ≤ 17592186044416 := hlen; conv => whnf)
      | (refine Split.ct ?_; conv => whnf)
      | (refine Split.cf ?_; conv => whnf)
      | (refine Split.of_true (by first | rfl | assumption | ((try simp only [bytes_eq, bytes_ne, empty_bytes, bytes_bne, bytes_bne']); (try simp only [decide_eq_true_eq, decide_eq_false_iff_not, beq_iff_eq, beq_eq_false_iff_ne, bne_iff_ne, bne_eq_false_iff_eq, Bool.not_eq_true', Bool.not_eq_false', Tree.isNil_iff, Tree.isNil_not, Int.not_lt, Int.not_le, gt_iff_lt, ge_iff_le, ne_eq, Decidable.not_not, Int.toNat_natCast, Int.toNat_zero, Int.toNat_one]); first | assumption | omega)) ?_; conv => whnf)
      | (refine Split.of_false (by first | rfl | assumption | ((try simp only [bytes_eq, bytes_ne, empty_bytes, bytes_bne, bytes_bne']); (try simp only [decide_eq_true_eq, decide_eq_false_iff_not, beq_iff_eq, beq_eq_false_iff_ne, bne_iff_ne, bne_eq_false_iff_eq, Bool.not_eq_true', Bool.not_eq_false', Tree.isNil_iff, Tree.isNil_not, Int.not_lt, Int.not_le, gt_iff_lt, ge_iff_le, ne_eq, Decidable.not_not, Int.toNat_natCast, Int.toNat_zero, Int.toNat_one]); first | assumption | omega)) ?_; conv => whnf)
      | (refine Indep.mk (by kernel_rfl) ?_; conv => whnf)
      | (refine Side.mk (show (0 : Int) ≤ (p : Int) ∧ (p : Int) < (l.length : Int) from ⟨by omega, by omega⟩) ?_; conv => whnf)
      | (refine Side.mk (show (0 : Int) ≤ (p : Int) ∧ (p : Int) < (l'.length : Int) from ⟨by omega, by omega⟩) ?_; conv => whnf)
      | (refine CallG.pure (ih (l.getD p .nil) (getD_mem (by omega)) (l'.getD p .nil)) rfl ?_; conv => whnf)
      | (refine Split.mk (fun hc => ?_) (fun hc => ?_) <;> (try simp only [bytes_eq, bytes_ne, empty_bytes, bytes_bne, bytes_bne'] at hc) <;> (try simp only [decide_eq_true_eq, decide_eq_false_iff_not, beq_iff_eq, beq_eq_false_iff_ne, bne_iff_ne, bne_eq_false_iff_eq, Bool.not_eq_true', Bool.not_eq_false', Tree.isNil_iff, Tree.isNil_not, Int.not_lt, Int.not_le, gt_iff_lt, ge_iff_le, ne_eq, Decidable.not_not, Int.toNat_natCast, Int.toNat_zero, Int.toNat_one] at hc) <;> conv => whnf)
    · refine ret_closed rfl (bool_eq ?_) rfl
      rw [drop_step (l := l) (by omega), drop_step (l := l') (by omega), samesF, hc] at hp2
      rw [← hp2]; rfl
    · rw [drop_step (l := l) (by omega), drop_step (l := l') (by omega), samesF, hc, Bool.true_and] at hp2
      exact ⟨p + 1, ⟨by omega, hp2⟩, by omega, Ent.re [] rfl rfl rfl rfl rfl rfl (by repeat' first | exact trivial | apply And.intro | rfl | (refine int_eq ?_; rw [wrap64] <;> omega)) (by repeat' first | exact trivial | apply And.intro | rfl | (refine int_eq ?_; rw [wrap64] <;> omega))⟩
    · refine ret_closed rfl (bool_eq ?_) rfl
      rw [drop_end (l := l) (by omega), drop_end (l := l') (by omega), samesF] at hp2
      rw [← hp2]
  · have hs : samesF l l' = false := by
      cases hq : samesF l l' with
      | false => rfl
      | true => exact absurd (samesF_len _ _ hq) hl
    repeat' first
      | (refine then_go hm htt ?_; conv => whnf)
      | (refine Side.mk (by first | assumption | exact trivial | rfl | exact Nat.le_of_ble_eq_true rfl | omega) ?_; conv => whnf)
      | (refine Hyp.mk fun hlen => ?_; replace hlen : _ ≤ 17592186044416 := hlen; conv => whnf)
      | (refine Split.ct ?_; conv => whnf)
      | (refine Split.cf ?_; conv => whnf)
      | (refine Split.of_true (by first | rfl | assumption | ((try simp only [bytes_eq, bytes_ne, empty_bytes, bytes_bne, bytes_bne']); (try simp only [decide_eq_true_eq, decide_eq_false_iff_not, beq_iff_eq, beq_eq_false_iff_ne, bne_iff_ne, bne_eq_false_iff_eq, Bool.not_eq_true', Bool.not_eq_false', Tree.isNil_iff, Tree.isNil_not, Int.not_lt, Int.not_le, gt_iff_lt, ge_iff_le, ne_eq, Decidable.not_not, Int.toNat_natCast, Int.toNat_zero, Int.toNat_one]); first | assumption | omega)) ?_; conv => whnf)
      | (refine Split.of_false (by first | rfl | assumption | ((try simp only [bytes_eq, bytes_ne, empty_bytes, bytes_bne, bytes_bne']); (try simp only [decide_eq_true_eq, decide_eq_false_iff_not, beq_iff_eq, beq_eq_false_iff_ne, bne_iff_ne, bne_eq_false_iff_eq, Bool.not_eq_true', Bool.not_eq_false', Tree.isNil_iff, Tree.isNil_not, Int.not_lt, Int.not_le, gt_iff_lt, ge_iff_le, ne_eq, Decidable.not_not, Int.toNat_natCast, Int.toNat_zero, Int.toNat_one]); first | assumption | omega)) ?_; conv => whnf)
      | (refine Indep.mk (by kernel_rfl) ?_; conv => whnf)
      | (refine Split.mk (fun hc => ?_) (fun hc => ?_) <;> (try simp only [bytes_eq, bytes_ne, empty_bytes, bytes_bne, bytes_bne'] at hc) <;> (try simp only [decide_eq_true_eq, decide_eq_false_iff_not, beq_iff_eq, beq_eq_false_iff_ne, bne_iff_ne, bne_eq_false_iff_eq, Bool.not_eq_true', Bool.not_eq_false', Tree.isNil_iff, Tree.isNil_not, Int.not_lt, Int.not_le, gt_iff_lt, ge_iff_le, ne_eq, Decidable.not_not, Int.toNat_natCast, Int.toNat_zero, Int.toNat_one] at hc) <;> conv => whnf)
    exact ret_closed rfl (bool_eq (by rw [hs])) rfl

set_option maxHeartbeats 8000000 in
set_option maxRecDepth 10000 in
theorem same_ok (A : Tree) : ∀ B, Pure P 23 [.d (.tree A), .d (.tree B)] (.d (.bool (sameF A B))) := by
  induction A using Tree.ind' with
  | h0 => ?_
  | h1 A hA ih => ?_
  · intro B
    refine Pure.of_body tt [] [4] Try.func23 rfl rfl rfl (Nat.le_of_ble_eq_true rfl) fun g => ?_
    cases B with
    | nil =>
      repeat' first
        | (refine then_go hm htt ?_; conv => whnf)
        | (refine Side.mk (by first | assumption | exact trivial | rfl | exact Nat.le_of_ble_eq_true rfl | omega) ?_; conv => whnf)
        | (refine Hyp.mk fun hlen => ?_; replace hlen : _ ≤ 17592186044416 := hlen; conv => whnf)
        | (refine Split.ct ?_; conv => whnf)
        | (refine Split.cf ?_; conv => whnf)
        | (refine Split.of_true (by first | rfl | assumption | ((try simp only [bytes_eq, bytes_ne, empty_bytes, bytes_bne, bytes_bne']); (try simp only [decide_eq_true_eq, decide_eq_false_iff_not, beq_iff_eq, beq_eq_false_iff_ne, bne_iff_ne, bne_eq_false_iff_eq, Bool.not_eq_true', Bool.not_eq_false', Tree.isNil_iff, Tree.isNil_not, Int.not_lt, Int.not_le, gt_iff_lt, ge_iff_le, ne_eq, Decidable.not_not, Int.toNat_natCast, Int.toNat_zero, Int.toNat_one]); first | assumption | omega)) ?_; conv => whnf)
        | (refine Split.of_false (by first | rfl | assumption | ((try simp only [bytes_eq, bytes_ne, empty_bytes, bytes_bne, bytes_bne']); (try simp only [decide_eq_true_eq, decide_eq_false_iff_not, beq_iff_eq, beq_eq_false_iff_ne, bne_iff_ne, bne_eq_false_iff_eq, Bool.not_eq_true', Bool.not_eq_false', Tree.isNil_iff, Tree.isNil_not, Int.not_lt, Int.not_le, gt_iff_lt, ge_iff_le, ne_eq, Decidable.not_not, Int.toNat_natCast, Int.toNat_zero, Int.toNat_one]); first | assumption | omega)) ?_; conv => whnf)
        | (refine Indep.mk (by kernel_rfl) ?_; conv => whnf)
        | (refine Split.mk (fun hc => ?_) (fun hc => ?_) <;> (try simp only [bytes_eq, bytes_ne, empty_bytes, bytes_bne, bytes_bne'] at hc) <;> (try simp only [decide_eq_true_eq, decide_eq_false_iff_not, beq_iff_eq, beq_eq_false_iff_ne, bne_iff_ne, bne_eq_false_iff_eq, Bool.not_eq_true', Bool.not_eq_false', Tree.isNil_iff, Tree.isNil_not, Int.not_lt, Int.not_le, gt_iff_lt, ge_iff_le, ne_eq, Decidable.not_not, Int.toNat_natCast, Int.toNat_zero, Int.toNat_one] at hc) <;> conv => whnf)
      exact ret_closed rfl (bool_eq rfl) rfl
    | node =>
      repeat' first
        | (refine then_go hm htt ?_; conv => whnf)
        | (refine Side.mk (by first | assumption | exact trivial | rfl | exact Nat.le_of_ble_eq_true rfl | omega) ?_; conv => whnf)
        | (refine Hyp.mk fun hlen => ?_; replace hlen : _ ≤ 17592186044416 := hlen; conv => whnf)
        | (refine Split.ct ?_; conv => whnf)
        | (refine Split.cf ?_; conv => whnf)
        | (refine Split.of_true (by first | rfl | assumption | ((try simp only [bytes_eq, bytes_ne, empty_bytes, bytes_bne, bytes_bne']); (try simp only [decide_eq_true_eq, decide_eq_false_iff_not, beq_iff_eq, beq_eq_false_iff_ne, bne_iff_ne, bne_eq_false_iff_eq, Bool.not_eq_true', Bool.not_eq_false', Tree.isNil_iff, Tree.isNil_not, Int.not_lt, Int.not_le, gt_iff_lt, ge_iff_le, ne_eq, Decidable.not_not, Int.toNat_natCast, Int.toNat_zero, Int.toNat_one]); first | assumption | omega)) ?_; conv => whnf)
        | (refine Split.of_false (by first | rfl | assumption | ((try simp only [bytes_eq, bytes_ne, empty_bytes, bytes_bne, bytes_bne']); (try simp only [decide_eq_true_eq, decide_eq_false_iff_not, beq_iff_eq, beq_eq_false_iff_ne, bne_iff_ne, bne_eq_false_iff_eq, Bool.not_eq_true', Bool.not_eq_false', Tree.isNil_iff, Tree.isNil_not, Int.not_lt, Int.not_le, gt_iff_lt, ge_iff_le, ne_eq, Decidable.not_not, Int.toNat_natCast, Int.toNat_zero, Int.toNat_one]); first | assumption | omega)) ?_; conv => whnf)
        | (refine Indep.mk (by kernel_rfl) ?_; conv => whnf)
        | (refine Split.mk (fun hc => ?_) (fun hc => ?_) <;> (try simp only [bytes_eq, bytes_ne, empty_bytes, bytes_bne, bytes_bne'] at hc) <;> (try simp only [decide_eq_true_eq, decide_eq_false_iff_not, beq_iff_eq, beq_eq_false_iff_ne, bne_iff_ne, bne_eq_false_iff_eq, Bool.not_eq_true', Bool.not_eq_false', Tree.isNil_iff, Tree.isNil_not, Int.not_lt, Int.not_le, gt_iff_lt, ge_iff_le, ne_eq, Decidable.not_not, Int.toNat_natCast, Int.toNat_zero, Int.toNat_one] at hc) <;> conv => whnf)
      exact ret_closed rfl (bool_eq rfl) rfl
  · intro B
    refine Pure.of_body tt [] [4] Try.func23 rfl rfl rfl (Nat.le_of_ble_eq_true rfl) fun g => ?_
    by_cases hB : B = .nil
    · subst hB
      repeat' first
        | (refine then_go hm htt ?_; conv => whnf)
        | (refine Side.mk (by first | assumption | exact trivial | rfl | exact Nat.le_of_ble_eq_true rfl | omega) ?_; conv => whnf)
        | (refine Hyp.mk fun hlen => ?_; replace hlen : _ ≤ 17592186044416 := hlen; conv => whnf)
        | (refine Split.ct ?_; conv => whnf)
        | (refine Split.cf ?_; conv => whnf)
        | (refine Split.of_true (by first | rfl | assumption | ((try simp only [bytes_eq, bytes_ne, empty_bytes, bytes_bne, bytes_bne']); (try simp only [decide_eq_true_eq, decide_eq_false_iff_not, beq_iff_eq, beq_eq_false_iff_ne, bne_iff_ne, bne_eq_false_iff_eq, Bool.not_eq_true', Bool.not_eq_false', Tree.isNil_iff, Tree.isNil_not, Int.not_lt, Int.not_le, gt_iff_lt, ge_iff_le, ne_eq, Decidable.not_not, Int.toNat_natCast, Int.toNat_zero, Int.toNat_one]); first | assumption | omega)) ?_; conv => whnf)
        | (refine Split.of_false (by first | rfl | assumption | ((try simp only [bytes_eq, bytes_ne, empty_bytes, bytes_bne, bytes_bne']); (try simp only [decide_eq_true_eq, decide_eq_false_iff_not, beq_iff_eq, beq_eq_false_iff_ne, bne_iff_ne, bne_eq_false_iff_eq, Bool.not_eq_true', Bool.not_eq_false', Tree.isNil_iff, Tree.isNil_not, Int.not_lt, Int.not_le, gt_iff_lt, ge_iff_le, ne_eq, Decidable.not_not, Int.toNat_natCast, Int.toNat_zero, Int.toNat_one]); first | assumption | omega)) ?_; conv => whnf)
        | (refine Indep.mk (by kernel_rfl) ?_; conv => whnf)
        | (refine Split.mk (fun hc => ?_) (fun hc => ?_) <;> (try simp only [bytes_eq, bytes_ne, empty_bytes, bytes_bne, bytes_bne'] at hc) <;> (try simp only [decide_eq_true_eq, decide_eq_false_iff_not, beq_iff_eq, beq_eq_false_iff_ne, bne_iff_ne, bne_eq_false_iff_eq, Bool.not_eq_true', Bool.not_eq_false', Tree.isNil_iff, Tree.isNil_not, Int.not_lt, Int.not_le, gt_iff_lt, ge_iff_le, ne_eq, Decidable.not_not, Int.toNat_natCast, Int.toNat_zero, Int.toNat_one] at hc) <;> conv => whnf)
      all_goals refine ret_closed rfl (bool_eq ?_) rfl
      all_goals (rw [sameF_nil _ _ (.inr rfl)]; cases A <;> simp_all [Tree.isNil])
    · have he := sameF_eq hA hB
      repeat' first
        | (refine then_go hm htt ?_; conv => whnf)
        | (refine Side.mk (by first | assumption | exact trivial | rfl | exact Nat.le_of_ble_eq_true rfl | omega) ?_; conv => whnf)
        | (refine Hyp.mk fun hlen => ?_; replace hlen : _ ≤ 17592186044416 := hlen; conv => whnf)
        | (refine Split.ct ?_; conv => whnf)
        | (refine Split.cf ?_; conv => whnf)
        | (refine Split.of_true (by first | rfl | assumption | ((try simp only [bytes_eq, bytes_ne, empty_bytes, bytes_bne, bytes_bne']); (try simp only [decide_eq_true_eq, decide_eq_false_iff_not, beq_iff_eq, beq_eq_false_iff_ne, bne_iff_ne, bne_eq_false_iff_eq, Bool.not_eq_true', Bool.not_eq_false', Tree.isNil_iff, Tree.isNil_not, Int.not_lt, Int.not_le, gt_iff_lt, ge_iff_le, ne_eq, Decidable.not_not, Int.toNat_natCast, Int.toNat_zero, Int.toNat_one]); first | assumption | omega)) ?_; conv => whnf)
        | (refine Split.of_false (by first | rfl | assumption | ((try simp only [bytes_eq, bytes_ne, empty_bytes, bytes_bne, bytes_bne']); (try simp only [decide_eq_true_eq, decide_eq_false_iff_not, beq_iff_eq, beq_eq_false_iff_ne, bne_iff_ne, bne_eq_false_iff_eq, Bool.not_eq_true', Bool.not_eq_false', Tree.isNil_iff, Tree.isNil_not, Int.not_lt, Int.not_le, gt_iff_lt, ge_iff_le, ne_eq, Decidable.not_not, Int.toNat_natCast, Int.toNat_zero, Int.toNat_one]); first | assumption | omega)) ?_; conv => whnf)
        | (refine Indep.mk (by kernel_rfl) ?_; conv => whnf)
        | (refine CallG.pure (eqFunc_ok A.kids B.kids fun x hx y => ih x hx y) rfl ?_; conv => whnf)
        | (refine Split.mk (fun hc => ?_) (fun hc => ?_) <;> (try simp only [bytes_eq, bytes_ne, empty_bytes, bytes_bne, bytes_bne'] at hc) <;> (try simp only [decide_eq_true_eq, decide_eq_false_iff_not, beq_iff_eq, beq_eq_false_iff_ne, bne_iff_ne, bne_eq_false_iff_eq, Bool.not_eq_true', Bool.not_eq_false', Tree.isNil_iff, Tree.isNil_not, Int.not_lt, Int.not_le, gt_iff_lt, ge_iff_le, ne_eq, Decidable.not_not, Int.toNat_natCast, Int.toNat_zero, Int.toNat_one] at hc) <;> conv => whnf)
      all_goals refine ret_closed rfl (bool_eq ?_) rfl
      all_goals (rw [he]; clear he ih; simp_all)
end Go.Proofs.Ytfblaochmhhknaa

namespace Go.Proofs.Ytfblaochmhhknaa
open Go Go.Mq
set_option linter.all false

/-! What is done to each variable -/
mutual
def vmap (f : Int → Int → Option Int) : Tree → Int → Option Tree
  | .nil, _ => none
  | .node k n nm mk l, d => if k = 110 then (f n d).map fun n' => .node 110 n' nm mk l
    else (vmaps f l (d + bindsF (.node k n nm mk l))).map fun l' => .node k n nm mk l'
def vmaps (f : Int → Int → Option Int) : List Tree → Int → Option (List Tree)
  | [], _ => some []
  | x :: l, d => match vmap f x d with
    | none => none
    | some x' => (vmaps f l d).map (x' :: ·)
end
def lim : Int := 1099511627776
theorem vmap_congr {f g : Int → Int → Option Int} (h : ∀ n d, 0 ≤ n → n ≤ 65536 → 0 ≤ d → d ≤ lim → f n d = g n d) (T : Tree) : ∀ d, Plain T → 0 ≤ d → d + sizeN T ≤ lim → vmap f T d = vmap g T d := by
  induction T using Tree.ind with
  | h0 => intro d h; cases h
  | h1 k n nm mk l ih =>
    have kids : ∀ (l : List Tree), (∀ x ∈ l, ∀ d, Plain x → 0 ≤ d → d + sizeN x ≤ lim → vmap f x d = vmap g x d) → (∀ x ∈ l, Plain x) → ∀ d, 0 ≤ d → d + sizesN l ≤ lim → vmaps f l d = vmaps g l d := by
      intro l
      induction l with
      | nil => intro _ _ d _ _; rw [vmaps, vmaps]
      | cons x l ih2 =>
        intro hx hp d h0 h1
        rw [sizesN] at h1
        push_cast at h1
        rw [vmaps, vmaps, hx x (by simp) d (hp x (by simp)) h0 (by omega), ih2 (fun y hy => hx y (by simp [hy])) (fun y hy => hp y (by simp [hy])) d h0 (by omega)]
    intro d hp h0 h1
    obtain ⟨hm, hv, hk⟩ := hp.inv
    rw [sizeN] at h1
    push_cast at h1
    have hb := bindsF_b (.node k n nm mk l)
    rw [vmap, vmap]
    by_cases hk1 : k = 110
    · rw [if_pos hk1, if_pos hk1, h n d (hv hk1).2.2.1 (hv hk1).2.2.2 h0 (by omega)]
    · rw [if_neg hk1, if_neg hk1, kids l ih hk _ (by omega) (by omega)]
theorem vmap_id {f : Int → Int → Option Int} (h : ∀ n d, 0 ≤ n → n ≤ 65536 → 0 ≤ d → d ≤ lim → f n d = some n) (T : Tree) : ∀ d, Plain T → 0 ≤ d → d + sizeN T ≤ lim → vmap f T d = some T := by
  induction T using Tree.ind with
  | h0 => intro d h; cases h
  | h1 k n nm mk l ih =>
    have kids : ∀ (l : List Tree), (∀ x ∈ l, ∀ d, Plain x → 0 ≤ d → d + sizeN x ≤ lim → vmap f x d = some x) → (∀ x ∈ l, Plain x) → ∀ d, 0 ≤ d → d + sizesN l ≤ lim → vmaps f l d = some l := by
      intro l
      induction l with
      | nil => intro _ _ d _ _; rw [vmaps]
      | cons x l ih2 =>
        intro hx hp d h0 h1
        rw [sizesN] at h1
        push_cast at h1
        rw [vmaps, hx x (by simp) d (hp x (by simp)) h0 (by omega), ih2 (fun y hy => hx y (by simp [hy])) (fun y hy => hp y (by simp [hy])) d h0 (by omega)]
        rfl
    intro d hp h0 h1
    obtain ⟨hm, hv, hk⟩ := hp.inv
    rw [sizeN] at h1
    push_cast at h1
    have hb := bindsF_b (.node k n nm mk l)
    rw [vmap]
    by_cases hk1 : k = 110
    · rw [if_pos hk1, h n d (hv hk1).2.2.1 (hv hk1).2.2.2 h0 (by omega), hk1]; rfl
    · rw [if_neg hk1, kids l ih hk _ (by omega) (by omega)]; rfl
theorem vmap_comp (f g : Int → Int → Option Int) (T : Tree) : ∀ d m, vmap f T d = some m → vmap g m d = vmap (fun n d => (f n d).bind fun n' => g n' d) T d := by
  induction T using Tree.ind with
  | h0 => intro d m h; rw [vmap] at h; cases h
  | h1 k n nm mk l ih =>
    have kids : ∀ (l : List Tree), (∀ x ∈ l, ∀ d m, vmap f x d = some m → vmap g m d = vmap (fun n d => (f n d).bind fun n' => g n' d) x d) → ∀ d ms, vmaps f l d = some ms → vmaps g ms d = vmaps (fun n d => (f n d).bind fun n' => g n' d) l d := by
      intro l
      induction l with
      | nil => intro _ d ms h; rw [vmaps] at h; cases h; rw [vmaps, vmaps]
      | cons x l ih2 =>
        intro hx d ms h
        rw [vmaps] at h
        split at h
        · cases h
        · rename_i x' hq
          cases hr : vmaps f l d with
          | none => rw [hr] at h; cases h
          | some l' =>
            rw [hr] at h
            cases h
            rw [vmaps, vmaps, hx x (by simp) d x' hq, ih2 (fun y hy => hx y (by simp [hy])) d l' hr]
    intro d m h
    rw [vmap] at h
    by_cases hk1 : k = 110
    · rw [if_pos hk1] at h
      cases hf : f n d with
      | none => rw [hf] at h; cases h
      | some n' =>
        rw [hf] at h
        cases h
        rw [vmap, vmap, if_pos rfl, if_pos hk1, hf]
        rfl
    · rw [if_neg hk1] at h
      cases hr : vmaps f l (d + bindsF (.node k n nm mk l)) with
      | none => rw [hr] at h; cases h
      | some l' =>
        rw [hr] at h
        cases h
        have hb : bindsF (.node k n nm mk l') = bindsF (.node k n nm mk l) := rfl
        rw [vmap, vmap, if_neg hk1, if_neg hk1, hb, kids l ih _ l' hr]

/-! What comes of it -/
theorem vmaps_get {f : Int → Int → Option Int} : ∀ {l l' : List Tree} {d : Int}, vmaps f l d = some l' → l'.length = l.length ∧ ∀ i, i < l.length → vmap f (l.getD i .nil) d = some (l'.getD i .nil)
  | [], l', d, h => by rw [vmaps] at h; cases h; exact ⟨rfl, fun i hi => by simp at hi⟩
  | x :: l, l', d, h => by
    rw [vmaps] at h
    split at h
    · cases h
    · rename_i x' hq
      cases hr : vmaps f l d with
      | none => rw [hr] at h; cases h
      | some l'' =>
        rw [hr] at h
        cases h
        obtain ⟨h1, h2⟩ := vmaps_get hr
        refine ⟨by simp [h1], fun i hi => ?_⟩
        cases i with
        | zero => exact hq
        | succ i => simpa using h2 i (by simpa using hi)
theorem vmap_inv {f : Int → Int → Option Int} {T m : Tree} {d : Int} (h : vmap f T d = some m) : m ≠ .nil ∧ m.kind = T.kind ∧ m.name = T.name ∧ m.mark = T.mark ∧ (T.kind ≠ 110 → m.n = T.n ∧ vmaps f T.kids (d + bindsF T) = some m.kids) ∧ (T.kind = 110 → f T.n d = some m.n ∧ m.kids = T.kids) := by
  cases T with
  | nil => rw [vmap] at h; cases h
  | node k n nm mk l =>
    rw [vmap] at h
    by_cases hk : k = 110
    · rw [if_pos hk] at h
      cases hf : f n d with
      | none => rw [hf] at h; cases h
      | some n' =>
        rw [hf] at h
        cases h
        exact ⟨by simp, hk.symm, rfl, rfl, fun h => absurd hk h, fun _ => ⟨hf, rfl⟩⟩
    · rw [if_neg hk] at h
      cases hr : vmaps f l (d + bindsF (.node k n nm mk l)) with
      | none => rw [hr] at h; cases h
      | some l' =>
        rw [hr] at h
        cases h
        exact ⟨by simp, rfl, rfl, rfl, fun _ => ⟨rfl, hr⟩, fun h => absurd h hk⟩
theorem vmap_size {f : Int → Int → Option Int} (T : Tree) : ∀ d m, vmap f T d = some m → sizeN m = sizeN T := by
  induction T using Tree.ind with
  | h0 => intro d m h; rw [vmap] at h; cases h
  | h1 k n nm mk l ih =>
    have kids : ∀ (l : List Tree), (∀ x ∈ l, ∀ d m, vmap f x d = some m → sizeN m = sizeN x) → ∀ d ms, vmaps f l d = some ms → sizesN ms = sizesN l := by
      intro l
      induction l with
      | nil => intro _ d ms h; rw [vmaps] at h; cases h; rfl
      | cons x l ih2 =>
        intro hx d ms h
        rw [vmaps] at h
        split at h
        · cases h
        · rename_i x' hq
          cases hr : vmaps f l d with
          | none => rw [hr] at h; cases h
          | some l' =>
            rw [hr] at h
            cases h
            rw [sizesN, sizesN, hx x (by simp) d x' hq, ih2 (fun y hy => hx y (by simp [hy])) d l' hr]
    intro d m h
    rw [vmap] at h
    by_cases hk1 : k = 110
    · rw [if_pos hk1] at h
      cases hf : f n d with
      | none => rw [hf] at h; cases h
      | some n' => rw [hf] at h; cases h; rw [sizeN, sizeN]
    · rw [if_neg hk1] at h
      cases hr : vmaps f l (d + bindsF (.node k n nm mk l)) with
      | none => rw [hr] at h; cases h
      | some l' => rw [hr] at h; cases h; rw [sizeN, sizeN, kids l ih _ l' hr]

theorem isKindF_vmap {f : Int → Int → Option Int} (T : Tree) : isKindF T = true → ∀ d, vmap f T d = some T := by
  induction T using Tree.ind' with
  | h0 => intro h; rw [isKindF] at h; cases h
  | h1 T hT ih =>
    intro h d
    rw [isKindF_eq hT] at h
    have key : ∀ (l : List Tree), (∀ x ∈ l, ∀ d, vmap f x d = some x) → ∀ d, vmaps f l d = some l := by
      intro l
      induction l with
      | nil => intro _ d; rw [vmaps]
      | cons x l ih2 => intro hx d; rw [vmaps, hx x (by simp), ih2 (fun y hy => hx y (by simp [hy]))]; rfl
    have fin : T.kind ≠ 110 → (∀ x ∈ T.kids, ∀ d, vmap f x d = some x) → vmap f T d = some T := by
      intro hk hx
      cases T with
      | nil => exact absurd rfl hT
      | node k n nm mk l =>
        rw [vmap, if_neg (show ¬ k = 110 from hk), key l hx]; rfl
    split at h
    · rename_i hk
      rw [Bool.and_eq_true] at h
      have hl : T.kids = [] := by have := h.2; rw [beq_iff_eq] at this; exact List.length_eq_zero_iff.1 (by omega)
      exact fin (by omega) (fun x hx => by rw [hl] at hx; cases hx)
    · split at h
      · rename_i hk
        simp only [Bool.and_eq_true, beq_iff_eq] at h
        obtain ⟨⟨⟨h1, h2⟩, h3⟩, h4⟩ := h
        refine fin (by omega) (fun x hx => ?_)
        rcases mem_two (by omega : T.kids.length = 2) hx with e | e
        · exact ih x hx (by rw [e]; exact h3)
        · exact ih x hx (by rw [e]; exact h4)
      · cases h

theorem bareF_same {x T : Tree} {a b : Bool} (h1 : x.mark = T.mark) (h2 : x.name = T.name) (h3 : b = true ∨ x.n = T.n) : bareF x a b = bareF T a b := by
  unfold bareF
  rw [h1, h2]
  rcases h3 with h3 | h3
  · rw [h3]; simp
  · rw [h3]
theorem risingF_names : ∀ {l l' : List Tree}, l'.map Tree.name = l.map Tree.name → risingF l' = risingF l
  | [], [], _ => rfl
  | [a], [b], _ => rfl
  | a :: b :: l, a' :: b' :: l', h => by
    simp only [List.map_cons, List.cons.injEq] at h
    rw [risingF, risingF, h.1, h.2.1, risingF_names (l := b :: l) (l' := b' :: l') (by simp [h.2.1, h.2.2])]
  | [], _ :: _, h => by simp at h
  | _ :: _, [], h => by simp at h
  | [_], _ :: _ :: _, h => by simp at h
  | _ :: _ :: _, [_], h => by simp at h
theorem unlikeF_names : ∀ {l l' : List Tree} (seen : List ByteArray), l'.map Tree.name = l.map Tree.name → unlikeF seen l' = unlikeF seen l
  | [], [], _, _ => rfl
  | a :: l, a' :: l', seen, h => by
    simp only [List.map_cons, List.cons.injEq] at h
    rw [unlikeF, unlikeF, h.1, unlikeF_names _ h.2]
  | [], _ :: _, _, h => by simp at h
  | _ :: _, [], _, h => by simp at h

def VB (f : Int → Int → Option Int) : Prop := ∀ n d n', 0 ≤ n → n ≤ 65536 → 0 ≤ d → d ≤ lim → f n d = some n' → 0 ≤ n' ∧ n' ≤ 65536
def ConP (f : Int → Int → Option Int) (T : Tree) : Prop := isConF T = true → ∀ d m, 0 ≤ d → d + sizeN T ≤ lim → vmap f T d = some m → isConF m = true

theorem sizesN_one1 {l : List Tree} (h : l.length = 1) : sizesN l = sizeN (l.getD 0 .nil) := by
  match l, h with
  | [a], _ => simp [sizesN]
theorem fields_vmap {f : Int → Int → Option Int} {kind : Int} (hk : kind ≠ 110) (hkb : kind ≠ 117 ∧ kind ≠ 118 ∧ kind ≠ 119 ∧ kind ≠ 121) : ∀ {l l' : List Tree} {d : Int}, fieldsF kind l = true → (∀ x ∈ l, ∀ y ∈ x.kids, ConP f y) → 0 ≤ d → d + sizesN l ≤ lim → vmaps f l d = some l' → fieldsF kind l' = true ∧ l'.map Tree.name = l.map Tree.name
  | [], l', d, _, _, _, _, h => by rw [vmaps] at h; cases h; exact ⟨rfl, rfl⟩
  | x :: l, l', d, hf, ih, h0, h1, h => by
    rw [vmaps] at h
    rw [fieldsF, Bool.and_eq_true] at hf
    rw [sizesN] at h1
    push_cast at h1
    split at h
    · cases h
    · rename_i x' hq
      cases hr : vmaps f l d with
      | none => rw [hr] at h; cases h
      | some l'' =>
        rw [hr] at h
        cases h
        obtain ⟨a1, a2⟩ := fields_vmap hk hkb hf.2 (fun y hy => ih y (by simp [hy])) h0 (by omega) hr
        obtain ⟨b0, b1, b2, b3, b4, _⟩ := vmap_inv hq
        have hx : x ≠ .nil := by intro e; subst e; have := hf.1; rw [fieldF] at this; cases this
        have hfx := hf.1
        rw [fieldF_eq hx] at hfx
        simp only [Bool.and_eq_true, beq_iff_eq] at hfx
        obtain ⟨⟨⟨⟨c1, c2⟩, c3⟩, c4⟩, c5⟩ := hfx
        obtain ⟨b5, b6⟩ := b4 (by rw [c1]; exact hk)
        have hbz : bindsF x = 0 := by unfold bindsF; rw [c1, if_neg hkb.1, if_neg hkb.2.1, if_neg hkb.2.2.1, if_neg hkb.2.2.2]
        obtain ⟨g1, g2⟩ := vmaps_get b6
        have hx1 : x.kids.length = 1 := by omega
        have hsz := sizeN_kids hx
        rw [sizesN_one1 hx1] at hsz
        have hcon := ih x (by simp) (x.kids.getD 0 .nil) (getD_mem (by omega)) c5 (d + bindsF x) _ (by omega) (by omega) (g2 0 (by omega))
        refine ⟨?_, by simp [a2, b2]⟩
        rw [fieldsF, a1, Bool.and_true, fieldF_eq b0, bareF_same b3 b2 (.inr b5), b1, b2, c1, c2, c3, hcon]
        simp [g1, hx1]

theorem con_vmap {f : Int → Int → Option Int} (hVB : VB f) (T : Tree) : ConP f T := by
  suffices h : ConP f T ∧ ∀ x ∈ T.kids, ConP f x from h.1
  induction T using Tree.ind' with
  | h0 => exact ⟨fun h => (by rw [isConF] at h; cases h), fun x hx => (by cases hx)⟩
  | h1 T hT ih =>
    refine ⟨fun h d m h0 h1 hm => ?_, fun x hx => (ih x hx).1⟩
    obtain ⟨b0, b1, b2, b3, b4, b5⟩ := vmap_inv hm
    have hsz := sizeN_kids hT
    have hbd := bindsF_b T
    have two : T.kids.length = 2 → sizesN T.kids = sizeN (T.kids.getD 0 .nil) + sizeN (T.kids.getD 1 .nil) := by
      intro h
      match T.kids, h with
      | [a, b], _ => simp [sizesN]
    rw [isConF_eq hT, Bool.and_eq_true] at h
    obtain ⟨hb, h⟩ := h
    rw [isConF_eq b0, b1]
    by_cases hk0 : T.kind = 110
    · obtain ⟨q1, q2⟩ := b5 hk0
      have hbm : bareF m false (T.kind == 110) = true := by rw [bareF_same b3 b2 (.inl (by rw [hk0]; rfl))]; exact hb
      rw [if_pos hk0] at h ⊢
      simp only [Bool.and_eq_true, beq_iff_eq, decide_eq_true_eq] at h ⊢
      have := hVB T.n d m.n h.1.1 h.1.2 h0 (by omega) q1
      exact ⟨hbm, ⟨this.1, this.2⟩, by rw [q2]; exact h.2⟩
    · obtain ⟨q1, q2⟩ := b4 hk0
      obtain ⟨g1, g2⟩ := vmaps_get q2
      have hbm : bareF m false (T.kind == 110) = true := by rw [bareF_same b3 b2 (.inr q1)]; exact hb
      rw [hbm, Bool.true_and]
      rw [if_neg hk0] at h ⊢
      by_cases hk1 : T.kind = 111 ∨ T.kind = 112 ∨ T.kind = 113
      · rw [if_pos hk1] at h ⊢; rw [g1]; exact h
      rw [if_neg hk1] at h ⊢
      by_cases hk2 : T.kind = 114 ∨ T.kind = 120
      · rw [if_pos hk2] at h ⊢
        simp only [Bool.and_eq_true, beq_iff_eq] at h ⊢
        have h2 := two (by omega)
        exact ⟨⟨by rw [g1]; exact h.1.1, (ih _ (getD_mem (by omega : 0 < T.kids.length))).1 h.1.2 _ _ (by omega) (by omega) (g2 0 (by omega))⟩, (ih _ (getD_mem (by omega : 1 < T.kids.length))).1 h.2 _ _ (by omega) (by omega) (g2 1 (by omega))⟩
      rw [if_neg hk2] at h ⊢
      by_cases hk3 : T.kind = 115
      · rw [if_pos hk3] at h ⊢
        rw [Bool.and_eq_true] at h ⊢
        obtain ⟨f1, f2⟩ := fields_vmap (by decide) (by decide) h.1 (fun x hx => (ih x hx).2) (by omega) (by omega) q2
        exact ⟨f1, by rw [risingF_names f2]; exact h.2⟩
      rw [if_neg hk3] at h ⊢
      by_cases hk4 : T.kind = 117 ∨ T.kind = 118 ∨ T.kind = 119
      · rw [if_pos hk4] at h ⊢
        simp only [Bool.and_eq_true, beq_iff_eq] at h ⊢
        have h2 := two (by omega)
        have e0 := g2 0 (by omega)
        rw [isKindF_vmap _ h.1.2] at e0
        cases e0' : m.kids.getD 0 .nil with
        | nil => rw [e0'] at e0; have := h.1.2; rw [Option.some.inj e0] at this; rw [isKindF] at this; cases this
        | node k1 n1 nm1 mk1 l1 =>
          rw [e0'] at e0
          exact ⟨⟨by rw [g1]; exact h.1.1, by rw [← Option.some.inj e0]; exact h.1.2⟩, (ih _ (getD_mem (by omega : 1 < T.kids.length))).1 h.2 _ _ (by omega) (by omega) (g2 1 (by omega))⟩
      rw [if_neg hk4] at h ⊢
      by_cases hk5 : T.kind = 121
      · rw [if_pos hk5] at h ⊢
        simp only [Bool.and_eq_true, decide_eq_true_eq] at h ⊢
        obtain ⟨f1, f2⟩ := fields_vmap (by decide) (by decide) h.1.2 (fun x hx => (ih x hx).2) (by omega) (by omega) q2
        exact ⟨⟨by rw [g1]; exact h.1.1, f1⟩, by rw [unlikeF_names _ f2]; exact h.2⟩
      · rw [if_neg hk5] at h; cases h

theorem whole_full (T : Tree) : Full T → ∀ left : Int, (sizeN T : Int) ≤ left → wholeF left T = (0, left - sizeN T) := by
  induction T using Tree.ind' with
  | h0 => intro h; exact absurd rfl h.ne
  | h1 T hT ih =>
    have kids : ∀ (l : List Tree), (∀ x ∈ l, Full x → ∀ left : Int, (sizeN x : Int) ≤ left → wholeF left x = (0, left - sizeN x)) → (∀ x ∈ l, Full x) → ∀ left : Int, (sizesN l : Int) ≤ left → wholesF left l = (0, left - sizesN l) := by
      intro l
      induction l with
      | nil => intro _ _ left _; rw [wholesF, sizesN]; simp
      | cons x l ih2 =>
        intro hx hF left h
        rw [sizesN] at h
        push_cast at h
        rw [wholesF, hx x (by simp) (hF x (by simp)) left (by omega), if_pos rfl, ih2 (fun y hy => hx y (by simp [hy])) (fun y hy => hF y (by simp [hy])) _ (by omega), sizesN]
        congr 1; push_cast; omega
    intro hF left h
    have hz := sizeN_kids hT
    rw [wholeF_kids hT, if_neg (by omega), kids T.kids ih hF.kids _ (by omega), hz]
    congr 1; push_cast; omega
theorem conE_of {T : Tree} (h : isConF T = true) (hz : sizeN T ≤ 65536) : conE T = 0 := by
  have := whole_full T (isConF_plain T h).full 65536 (by omega)
  unfold conE checkF
  rw [this, if_pos rfl, h]; rfl
end Go.Proofs.Ytfblaochmhhknaa

namespace Go.Proofs.Ytfblaochmhhknaa
open Go Go.Mq
set_option linter.all false

theorem vmap_comp2 {f g h : Int → Int → Option Int} (hp : ∀ n d n', 0 ≤ n → n ≤ 65536 → 0 ≤ d → d ≤ lim → f n d = some n' → g n' d = h n d) (T : Tree) : ∀ d m, Plain T → 0 ≤ d → d + sizeN T ≤ lim → vmap f T d = some m → vmap g m d = vmap h T d := by
  induction T using Tree.ind with
  | h0 => intro d m h; cases h
  | h1 k n nm mk l ih =>
    have kids : ∀ (l : List Tree), (∀ x ∈ l, ∀ d m, Plain x → 0 ≤ d → d + sizeN x ≤ lim → vmap f x d = some m → vmap g m d = vmap h x d) → (∀ x ∈ l, Plain x) → ∀ d ms, 0 ≤ d → d + sizesN l ≤ lim → vmaps f l d = some ms → vmaps g ms d = vmaps h l d := by
      intro l
      induction l with
      | nil => intro _ _ d ms _ _ h; rw [vmaps] at h; cases h; rw [vmaps, vmaps]
      | cons x l ih2 =>
        intro hx hpl d ms h0 h1 h
        rw [sizesN] at h1
        push_cast at h1
        rw [vmaps] at h
        split at h
        · cases h
        · rename_i x' hq
          cases hr : vmaps f l d with
          | none => rw [hr] at h; cases h
          | some l' =>
            rw [hr] at h
            cases h
            rw [vmaps, vmaps, hx x (by simp) d x' (hpl x (by simp)) h0 (by omega) hq, ih2 (fun y hy => hx y (by simp [hy])) (fun y hy => hpl y (by simp [hy])) d l' h0 (by omega) hr]
    intro d m hpl h0 h1 h
    obtain ⟨hm, hv, hk⟩ := hpl.inv
    rw [sizeN] at h1
    push_cast at h1
    have hb := bindsF_b (.node k n nm mk l)
    rw [vmap] at h
    by_cases hk1 : k = 110
    · rw [if_pos hk1] at h
      cases hf : f n d with
      | none => rw [hf] at h; cases h
      | some n' =>
        rw [hf] at h
        cases h
        rw [vmap, vmap, if_pos rfl, if_pos hk1, hp n d n' (hv hk1).2.2.1 (hv hk1).2.2.2 h0 (by omega) hf]
    · rw [if_neg hk1] at h
      cases hr : vmaps f l (d + bindsF (.node k n nm mk l)) with
      | none => rw [hr] at h; cases h
      | some l' =>
        rw [hr] at h
        cases h
        have hbb : bindsF (.node k n nm mk l') = bindsF (.node k n nm mk l) := rfl
        rw [vmap, vmap, if_neg hk1, if_neg hk1, hbb, kids l ih hk _ l' (by omega) (by omega) hr]

def fM (b frm n d : Int) : Option Int := if d ≤ n ∧ frm ≤ n - d then (if b < d - n ∨ 65536 - n < b then none else some (n + b)) else some n
theorem fM_VB (b frm : Int) : VB (fM b frm) := by
  intro n d n' h0 h1 h2 h3 h
  unfold fM at h
  split at h
  · split at h
    · cases h
    · cases h; omega
  · cases h; omega

theorem rmoved_vmap (b frm : Int) (T : Tree) : ∀ d, Plain T → 0 ≤ d → d + sizeN T ≤ lim → rmovedF b frm T d = vmap (fM b frm) T d := by
  induction T using Tree.ind with
  | h0 => intro d h; cases h
  | h1 k n nm mk l ih =>
    have kids : ∀ (l : List Tree), (∀ x ∈ l, ∀ d, Plain x → 0 ≤ d → d + sizeN x ≤ lim → rmovedF b frm x d = vmap (fM b frm) x d) → (∀ x ∈ l, Plain x) → ∀ d, 0 ≤ d → d + sizesN l ≤ lim → rmovedsF b frm l d = vmaps (fM b frm) l d := by
      intro l
      induction l with
      | nil => intro _ _ d _ _; rw [rmovedsF, vmaps]
      | cons x l ih2 =>
        intro hx hp d h0 h1
        rw [sizesN] at h1
        push_cast at h1
        rw [rmovedsF, vmaps, hx x (by simp) d (hp x (by simp)) h0 (by omega)]
        cases vmap (fM b frm) x d with
        | none => rfl
        | some x' => simp only []; rw [ih2 (fun y hy => hx y (by simp [hy])) (fun y hy => hp y (by simp [hy])) d h0 (by omega)]
    intro d hp h0 h1
    obtain ⟨hm, hv, hk⟩ := hp.inv
    subst hm
    rw [sizeN] at h1
    push_cast at h1
    have hlim : lim = 1099511627776 := rfl
    have hb := bindsF_b (.node k n nm ByteArray.empty l)
    have hwb : IntKind.i64.wrap (d + bindsF (.node k n nm ByteArray.empty l)) = d + bindsF (.node k n nm ByteArray.empty l) := wrap64 (by omega) (by omega)
    by_cases hk1 : k = 110
    · subst hk1
      obtain ⟨rfl, rfl, hn0, hn1⟩ := hv rfl
      have w1 : IntKind.i64.wrap (n - d) = n - d := wrap64 (by omega) (by omega)
      have w2 : IntKind.i64.wrap (d - n) = d - n := wrap64 (by omega) (by omega)
      have w3 : IntKind.i64.wrap (65536 - n) = 65536 - n := wrap64 (by omega) (by omega)
      rw [rmovedF, rmovedsF, vmap, if_pos rfl, fM]
      by_cases c1 : d ≤ n ∧ frm ≤ n - d
      · rw [if_pos (mHit_node.2 ⟨rfl, c1.1, by rw [w1]; exact c1.2⟩), if_pos c1]
        by_cases c2 : b < d - n ∨ 65536 - n < b
        · rw [if_pos (mBad_node.2 (by rw [w2, w3]; exact c2)), if_pos c2]; rfl
        · rw [if_neg (fun h => c2 (by have := mBad_node.1 h; rw [w2, w3] at this; exact this)), if_neg c2, wrap64 (x := n + b) (by omega) (by omega)]; rfl
      · rw [if_neg (fun h => c1 (by have := mHit_node.1 h; rw [w1] at this; exact this.2)), if_neg c1]; rfl
    · rw [rmovedF, if_neg (fun h => hk1 (mHit_node.1 h).1), vmap, if_neg hk1, hwb, kids l ih hk _ (by omega) (by omega)]

theorem shiftR_vmap {T : Tree} (h : conE T = 0) {frm : Int} (hf : 0 ≤ frm) (b : Int) : shiftR T b frm = match vmap (fM b frm) T 0 with
    | some m => (m, 0)
    | none => (.nil, 2) := by
  have hs := conE_size h
  have hl : lim = 1099511627776 := rfl
  rw [shiftR_eq, rshiftR, if_pos h, if_neg (by omega), rmoved_vmap b frm T 0 (conE_plain h) (by omega) (by omega)]
  cases vmap (fM b frm) T 0 with
  | none => rfl
  | some m => rfl
theorem vmap_conE {f : Int → Int → Option Int} (hf : VB f) {T m : Tree} (h : conE T = 0) (hm : vmap f T 0 = some m) : conE m = 0 := by
  have hs := conE_size h
  have hl : lim = 1099511627776 := rfl
  exact conE_of (con_vmap hf T (conE_full h).2 0 m (by omega) (by omega) hm) (by rw [vmap_size T 0 m hm]; exact hs)

/-! Back -/
theorem back_zero {T : Tree} (h : conE T = 0) : vmap (fM 0 0) T 0 = some T := by
  have hs := conE_size h
  have hl : lim = 1099511627776 := rfl
  refine vmap_id (fun n d h0 h1 h2 h3 => ?_) T 0 (conE_plain h) (by omega) (by omega)
  unfold fM
  split
  · rw [if_neg (by omega)]; congr 1; omega
  · rfl
theorem back_id {T m : Tree} {b : Int} (h : conE T = 0) (hb : 0 ≤ b) (hm : vmap (fM b 0) T 0 = some m) : vmap (fM (-b) 0) m 0 = some T := by
  have hs := conE_size h
  have hl : lim = 1099511627776 := rfl
  rw [vmap_comp2 (h := fun n _ => some n) (fun n d n' h0 h1 h2 h3 hf => ?_) T 0 m (conE_plain h) (by omega) (by omega) hm]
  · exact vmap_id (fun n d _ _ _ _ => rfl) T 0 (conE_plain h) (by omega) (by omega)
  · unfold fM at hf ⊢
    split at hf
    · split at hf
      · cases hf
      · cases hf
        rw [if_pos (by omega), if_neg (by omega)]; congr 1; omega
    · cases hf
      rw [if_neg (by omega)]
theorem back_both {T m : Tree} {b c : Int} (h : conE T = 0) (hb : 0 ≤ b) (hc : 0 ≤ c) (hm : vmap (fM b 0) T 0 = some m) : vmap (fM c 0) m 0 = vmap (fM (b + c) 0) T 0 := by
  have hs := conE_size h
  have hl : lim = 1099511627776 := rfl
  refine vmap_comp2 (fun n d n' h0 h1 h2 h3 hf => ?_) T 0 m (conE_plain h) (by omega) (by omega) hm
  unfold fM at hf ⊢
  split at hf
  · split at hf
    · cases hf
    · cases hf
      rename_i q1 q2
      rw [if_pos (show d ≤ n + b ∧ 0 ≤ n + b - d by omega), if_pos q1]
      by_cases q : 65536 - (n + b) < c
      · rw [if_pos (.inr q), if_pos (by omega)]
      · rw [if_neg (by omega), if_neg (by omega)]; congr 1; omega
  · cases hf
    rename_i q1
    rw [if_neg (by omega), if_neg (by omega)]

/-! Gone -/
theorem hits_vmap {f : Int → Int → Option Int} {i : Int} (hp : ∀ n d n', 0 ≤ n → n ≤ 65536 → 0 ≤ d → d ≤ lim → f n d = some n' → ¬ (d ≤ n' ∧ IntKind.i64.wrap (n' - d) = i)) (T : Tree) : ∀ d m, Plain T → 0 ≤ d → d + sizeN T ≤ lim → vmap f T d = some m → hitsN i m d = 0 := by
  induction T using Tree.ind with
  | h0 => intro d m h; cases h
  | h1 k n nm mk l ih =>
    have kids : ∀ (l : List Tree), (∀ x ∈ l, ∀ d m, Plain x → 0 ≤ d → d + sizeN x ≤ lim → vmap f x d = some m → hitsN i m d = 0) → (∀ x ∈ l, Plain x) → ∀ d ms, 0 ≤ d → d + sizesN l ≤ lim → vmaps f l d = some ms → hitssN i ms d = 0 := by
      intro l
      induction l with
      | nil => intro _ _ d ms _ _ h; rw [vmaps] at h; cases h; rw [hitssN]
      | cons x l ih2 =>
        intro hx hpl d ms h0 h1 h
        rw [sizesN] at h1
        push_cast at h1
        rw [vmaps] at h
        split at h
        · cases h
        · rename_i x' hq
          cases hr : vmaps f l d with
          | none => rw [hr] at h; cases h
          | some l' =>
            rw [hr] at h
            cases h
            rw [hitssN, hx x (by simp) d x' (hpl x (by simp)) h0 (by omega) hq, ih2 (fun y hy => hx y (by simp [hy])) (fun y hy => hpl y (by simp [hy])) d l' h0 (by omega) hr]
    intro d m hpl h0 h1 h
    obtain ⟨hm, hv, hk⟩ := hpl.inv
    rw [sizeN] at h1
    push_cast at h1
    have hlim : lim = 1099511627776 := rfl
    have hb := bindsF_b (.node k n nm mk l)
    rw [vmap] at h
    by_cases hk1 : k = 110
    · rw [if_pos hk1] at h
      cases hf : f n d with
      | none => rw [hf] at h; cases h
      | some n' =>
        rw [hf] at h
        cases h
        have := hp n d n' (hv hk1).2.2.1 (hv hk1).2.2.2 h0 (by omega) hf
        rw [hitsN, if_neg (fun q => this q.2), (hv hk1).2.1, hitssN]
    · rw [if_neg hk1] at h
      cases hr : vmaps f l (d + bindsF (.node k n nm mk l)) with
      | none => rw [hr] at h; cases h
      | some l' =>
        rw [hr] at h
        cases h
        have hbb : bindsF (.node k n nm mk l') = bindsF (.node k n nm mk l) := rfl
        have hwb : IntKind.i64.wrap (d + bindsF (.node k n nm mk l)) = d + bindsF (.node k n nm mk l) := wrap64 (by omega) (by omega)
        rw [hitsN, if_neg (fun q => hk1 q.1), hbb, hwb, kids l ih hk _ l' (by omega) (by omega) hr]

def fQ (i n d : Int) : Option Int := if d ≤ n ∧ i < n - d then some (n - 1) else some n
theorem rput_vmap0 (i : Int) (u T : Tree) : ∀ d, Plain T → 0 ≤ d → d + sizeN T ≤ lim → hitsN i T d = 0 → rputF i u T d = vmap (fQ i) T d := by
  induction T using Tree.ind with
  | h0 => intro d h; cases h
  | h1 k n nm mk l ih =>
    have kids : ∀ (l : List Tree), (∀ x ∈ l, ∀ d, Plain x → 0 ≤ d → d + sizeN x ≤ lim → hitsN i x d = 0 → rputF i u x d = vmap (fQ i) x d) → (∀ x ∈ l, Plain x) → ∀ d, 0 ≤ d → d + sizesN l ≤ lim → hitssN i l d = 0 → rputsF i u l d = vmaps (fQ i) l d := by
      intro l
      induction l with
      | nil => intro _ _ d _ _ _; rw [rputsF, vmaps]
      | cons x l ih2 =>
        intro hx hp d h0 h1 hh
        rw [sizesN] at h1
        push_cast at h1
        rw [hitssN] at hh
        rw [rputsF, vmaps, hx x (by simp) d (hp x (by simp)) h0 (by omega) (by omega)]
        cases vmap (fQ i) x d with
        | none => rfl
        | some x' => simp only []; rw [ih2 (fun y hy => hx y (by simp [hy])) (fun y hy => hp y (by simp [hy])) d h0 (by omega) (by omega)]
    intro d hp h0 h1 hh
    obtain ⟨hm, hv, hk⟩ := hp.inv
    subst hm
    rw [sizeN] at h1
    push_cast at h1
    have hlim : lim = 1099511627776 := rfl
    have hb := bindsF_b (.node k n nm ByteArray.empty l)
    have hwb : IntKind.i64.wrap (d + bindsF (.node k n nm ByteArray.empty l)) = d + bindsF (.node k n nm ByteArray.empty l) := wrap64 (by omega) (by omega)
    rw [hitsN] at hh
    by_cases hk1 : k = 110
    · subst hk1
      obtain ⟨rfl, rfl, hn0, hn1⟩ := hv rfl
      have w1 : IntKind.i64.wrap (n - d) = n - d := wrap64 (by omega) (by omega)
      have w2 : IntKind.i64.wrap (n - 1) = n - 1 := wrap64 (by omega) (by omega)
      have hnp : ¬ pHit i (.node 110 n ByteArray.empty ByteArray.empty []) d := by
        intro q
        rw [if_pos (pHit_node.1 q)] at hh
        omega
      rw [rputF, rputsF, vmap, if_pos rfl, if_neg hnp, fQ]
      by_cases c1 : d ≤ n ∧ i < n - d
      · rw [if_pos (pAbove_node.2 ⟨rfl, c1.1, by rw [w1]; exact c1.2⟩), if_pos c1, w2]; rfl
      · rw [if_neg (fun h => c1 (by have := pAbove_node.1 h; rw [w1] at this; exact this.2)), if_neg c1]; rfl
    · rw [if_neg (fun q => hk1 q.1), Nat.zero_add, hwb] at hh
      rw [rputF, if_neg (fun h => hk1 (pHit_node.1 h).1), if_neg (fun h => hk1 (pAbove_node.1 h).1), vmap, if_neg hk1, hwb, kids l ih hk _ (by omega) (by omega) hh]

theorem subst_of {m T u : Tree} {i : Int} (hm : conE m = 0) (hu : conE u = 0) (hi : 0 ≤ i) (hz : (hitsN i m 0 : Int) * sizeN u ≤ 65536 ∧ (sizeN m : Int) - hitsN i m 0 + (hitsN i m 0 : Int) * sizeN u ≤ 65536) (hp : rputF i u m 0 = some T) : substR m i u = (T, 0) := by
  have hs := conE_size hm
  have hsu := conE_size hu
  have e1 := countF_hits i m 0 (by omega)
  have e2 := sizeF_sizeN u (by omega)
  have e3 := sizeF_sizeN m (by omega)
  have hh := hitsN_le i m 0
  have hn : ¬ rsLong m i u := by
    unfold rsLong
    rw [e1, e2, e3]
    have m0 : 0 ≤ (hitsN i m 0 : Int) * sizeN u := Int.mul_nonneg (by omega) (by omega)
    rw [wrap64 (x := (hitsN i m 0 : Int) * sizeN u) (by omega) (by omega), wrap64 (x := (sizeN m : Int) - hitsN i m 0) (by omega) (by omega), wrap64 (x := (sizeN m : Int) - hitsN i m 0 + _) (by omega) (by omega)]
    rintro (⟨h0, h1⟩ | h1)
    · have hd : Int.tdiv 65536 (hitsN i m 0 : Int) = 65536 / (hitsN i m 0 : Int) := Int.tdiv_eq_ediv_of_nonneg (by omega)
      have hdb : 0 ≤ (65536 : Int) / (hitsN i m 0 : Int) ∧ (65536 : Int) / (hitsN i m 0 : Int) ≤ 65536 := ⟨Int.ediv_nonneg (by omega) (by omega), Int.ediv_le_self _ (by omega)⟩
      rw [hd, wrap64 (by omega) (by omega), Int.ediv_lt_iff_lt_mul h0, Int.mul_comm] at h1
      omega
    · omega
  rw [substR_eq, rsubstR, if_pos hm, if_pos hu, if_neg (by omega), if_neg hn, hp]
  rfl

theorem gone_occ {T m : Tree} {i : Int} (h : conE T = 0) (hi : 0 ≤ i) (hi2 : i ≤ 65536) (hm : vmap (fM 1 i) T 0 = some m) : hitsN i m 0 = 0 := by
  have hs := conE_size h
  have hl : lim = 1099511627776 := rfl
  refine hits_vmap (fun n d n' h0 h1 h2 h3 hf => ?_) T 0 m (conE_plain h) (by omega) (by omega) hm
  rintro ⟨q1, q2⟩
  unfold fM at hf
  split at hf
  · split at hf
    · cases hf
    · cases hf
      rw [wrap64 (by omega) (by omega)] at q2
      omega
  · cases hf
    rw [wrap64 (by omega) (by omega)] at q2
    omega
theorem gone_id {T m : Tree} {i : Int} (h : conE T = 0) (hi : 0 ≤ i) (hm : vmap (fM 1 i) T 0 = some m) : vmap (fQ i) m 0 = some T := by
  have hs := conE_size h
  have hl : lim = 1099511627776 := rfl
  rw [vmap_comp2 (h := fun n _ => some n) (fun n d n' h0 h1 h2 h3 hf => ?_) T 0 m (conE_plain h) (by omega) (by omega) hm]
  · exact vmap_id (fun n d _ _ _ _ => rfl) T 0 (conE_plain h) (by omega) (by omega)
  · unfold fM at hf
    unfold fQ
    split at hf
    · split at hf
      · cases hf
      · cases hf
        rw [if_pos (by omega)]; congr 1; omega
    · cases hf
      rw [if_neg (by omega)]
theorem gone_subst {T m u : Tree} {i : Int} (h : conE T = 0) (hu : conE u = 0) (hi : 0 ≤ i) (hi2 : i ≤ 65536) (hm : vmap (fM 1 i) T 0 = some m) : substR m i u = (T, 0) := by
  have hcm := vmap_conE (fM_VB 1 i) h hm
  have hs := conE_size hcm
  have hl : lim = 1099511627776 := rfl
  have ho := gone_occ h hi hi2 hm
  refine subst_of hcm hu hi ?_ ?_
  · rw [ho]; simp; omega
  · rw [rput_vmap0 i u m 0 (conE_plain hcm) (by omega) (by omega) ho, gone_id h hi hm]

/-! Variable -/
def fV (n d : Int) : Option Int := if d ≤ n then (if n - d = 0 then (if 65536 < d then none else some d) else some (n - 1)) else some n
theorem rput_vmapV (T : Tree) : ∀ d, Plain T → 0 ≤ d → d + sizeN T ≤ lim → rputF 0 (.node 110 0 ByteArray.empty ByteArray.empty []) T d = vmap fV T d := by
  induction T using Tree.ind with
  | h0 => intro d h; cases h
  | h1 k n nm mk l ih =>
    have kids : ∀ (l : List Tree), (∀ x ∈ l, ∀ d, Plain x → 0 ≤ d → d + sizeN x ≤ lim → rputF 0 (.node 110 0 ByteArray.empty ByteArray.empty []) x d = vmap fV x d) → (∀ x ∈ l, Plain x) → ∀ d, 0 ≤ d → d + sizesN l ≤ lim → rputsF 0 (.node 110 0 ByteArray.empty ByteArray.empty []) l d = vmaps fV l d := by
      intro l
      induction l with
      | nil => intro _ _ d _ _; rw [rputsF, vmaps]
      | cons x l ih2 =>
        intro hx hp d h0 h1
        rw [sizesN] at h1
        push_cast at h1
        rw [rputsF, vmaps, hx x (by simp) d (hp x (by simp)) h0 (by omega)]
        cases vmap fV x d with
        | none => rfl
        | some x' => simp only []; rw [ih2 (fun y hy => hx y (by simp [hy])) (fun y hy => hp y (by simp [hy])) d h0 (by omega)]
    intro d hp h0 h1
    obtain ⟨hm, hv, hk⟩ := hp.inv
    subst hm
    rw [sizeN] at h1
    push_cast at h1
    have hlim : lim = 1099511627776 := rfl
    have hb := bindsF_b (.node k n nm ByteArray.empty l)
    have hwb : IntKind.i64.wrap (d + bindsF (.node k n nm ByteArray.empty l)) = d + bindsF (.node k n nm ByteArray.empty l) := wrap64 (by omega) (by omega)
    by_cases hk1 : k = 110
    · subst hk1
      obtain ⟨rfl, rfl, hn0, hn1⟩ := hv rfl
      have w1 : IntKind.i64.wrap (n - d) = n - d := wrap64 (by omega) (by omega)
      have w2 : IntKind.i64.wrap (n - 1) = n - 1 := wrap64 (by omega) (by omega)
      rw [rputF, rputsF, vmap, if_pos rfl, fV]
      by_cases c0 : d ≤ n
      · rw [if_pos c0]
        by_cases c1 : n - d = 0
        · rw [if_pos (pHit_node.2 ⟨rfl, c0, by rw [w1]; exact c1⟩), if_pos c1, rmoved_vmap d 0 _ 0 (.node rfl (fun _ => ⟨rfl, rfl, by omega, by omega⟩) (fun x hx => by cases hx)) (by omega) (by rw [sizeN, sizesN]; omega), vmap, if_pos rfl, fM, if_pos (by omega)]
          by_cases c2 : 65536 < d
          · rw [if_pos (by omega), if_pos c2]
          · rw [if_neg (by omega), if_neg c2, Int.zero_add]
        · rw [if_neg (fun h => c1 (by have := pHit_node.1 h; rw [w1] at this; exact this.2.2)), if_neg c1, if_pos (pAbove_node.2 ⟨rfl, c0, by rw [w1]; omega⟩), w2]; rfl
      · rw [if_neg c0, if_neg (fun h => c0 (pHit_node.1 h).2.1), if_neg (fun h => c0 (pAbove_node.1 h).2.1)]; rfl
    · rw [rputF, if_neg (fun h => hk1 (pHit_node.1 h).1), if_neg (fun h => hk1 (pAbove_node.1 h).1), vmap, if_neg hk1, hwb, kids l ih hk _ (by omega) (by omega)]
theorem var_subst {T m : Tree} (h : conE T = 0) (hm : vmap (fM 1 1) T 0 = some m) : substR m 0 (.node 110 0 ByteArray.empty ByteArray.empty []) = (T, 0) := by
  have hs0 := conE_size h
  have hcm := vmap_conE (fM_VB 1 1) h hm
  have hs := conE_size hcm
  have hl : lim = 1099511627776 := rfl
  have hh := hitsN_le 0 m 0
  refine subst_of hcm (by kernel_rfl) (by omega) ?_ ?_
  · rw [show sizeN (.node 110 0 ByteArray.empty ByteArray.empty []) = 1 from rfl]; omega
  · rw [rput_vmapV m 0 (conE_plain hcm) (by omega) (by omega), vmap_comp2 (h := fun n _ => some n) (fun n d n' h0 h1 h2 h3 hf => ?_) T 0 m (conE_plain h) (by omega) (by omega) hm]
    · exact vmap_id (fun n d _ _ _ _ => rfl) T 0 (conE_plain h) (by omega) (by omega)
    · unfold fM at hf
      unfold fV
      split at hf
      · split at hf
        · cases hf
        · cases hf
          rw [if_pos (by omega), if_neg (by omega)]; congr 1; omega
      · cases hf
        by_cases c0 : d ≤ n
        · rw [if_pos c0, if_pos (by omega), if_neg (by omega)]; congr 1; omega
        · rw [if_neg c0]

theorem free_hits (T : Tree) : ∀ d, Plain T → 0 ≤ d → d + sizeN T ≤ lim → (∀ i, rfreeF T d ≤ i → hitsN i T d = 0) ∧ 0 ≤ rfreeF T d ∧ (0 < rfreeF T d → 0 < hitsN (rfreeF T d - 1) T d) := by
  induction T using Tree.ind with
  | h0 => intro d h; cases h
  | h1 k n nm mk l ih =>
    have kids : ∀ (l : List Tree), (∀ x ∈ l, ∀ d, Plain x → 0 ≤ d → d + sizeN x ≤ lim → (∀ i, rfreeF x d ≤ i → hitsN i x d = 0) ∧ 0 ≤ rfreeF x d ∧ (0 < rfreeF x d → 0 < hitsN (rfreeF x d - 1) x d)) → (∀ x ∈ l, Plain x) → ∀ d m, 0 ≤ d → d + sizesN l ≤ lim → 0 ≤ m →
        (∀ i, rfreesF m l d ≤ i → hitssN i l d = 0) ∧ m ≤ rfreesF m l d ∧ (rfreesF m l d = m ∨ 0 < hitssN (rfreesF m l d - 1) l d) := by
      intro l
      induction l with
      | nil => intro _ _ d m _ _ _; rw [rfreesF]; exact ⟨fun i _ => by rw [hitssN], Int.le_refl _, .inl rfl⟩
      | cons x l ih2 =>
        intro hx hp d m h0 h1 h2
        rw [sizesN] at h1
        push_cast at h1
        obtain ⟨a1, a2, a3⟩ := hx x (by simp) d (hp x (by simp)) h0 (by omega)
        rw [rfreesF]
        obtain ⟨b1, b2, b3⟩ := ih2 (fun y hy => hx y (by simp [hy])) (fun y hy => hp y (by simp [hy])) d (if m < rfreeF x d then rfreeF x d else m) h0 (by omega) (by split <;> omega)
        have hmx : m ≤ (if m < rfreeF x d then rfreeF x d else m) ∧ rfreeF x d ≤ (if m < rfreeF x d then rfreeF x d else m) := by split <;> omega
        refine ⟨fun i hi => ?_, by omega, ?_⟩
        · rw [hitssN, a1 i (by omega), b1 i hi]
        · rw [hitssN]
          rcases b3 with b3 | b3
          · by_cases hc : m < rfreeF x d
            · rw [if_pos hc] at b3 ⊢
              right
              rw [b3]
              have := a3 (by omega)
              omega
            · rw [if_neg hc] at b3 ⊢
              exact .inl b3
          · right; omega
    intro d hp h0 h1
    obtain ⟨hm, hv, hk⟩ := hp.inv
    subst hm
    rw [sizeN] at h1
    push_cast at h1
    have hlim : lim = 1099511627776 := rfl
    have hb := bindsF_b (.node k n nm ByteArray.empty l)
    have hwb : IntKind.i64.wrap (d + bindsF (.node k n nm ByteArray.empty l)) = d + bindsF (.node k n nm ByteArray.empty l) := wrap64 (by omega) (by omega)
    rw [rfreeF]
    by_cases hk1 : k = 110
    · subst hk1
      obtain ⟨rfl, rfl, hn0, hn1⟩ := hv rfl
      have w1 : IntKind.i64.wrap (n - d) = n - d := wrap64 (by omega) (by omega)
      have w2 : IntKind.i64.wrap (n - d + 1) = n - d + 1 := wrap64 (by omega) (by omega)
      rw [rfreesF, w1, w2]
      by_cases c0 : d ≤ n
      · rw [if_pos (And.intro rfl c0)]
        refine ⟨fun i hi => ?_, by omega, fun _ => ?_⟩
        · rw [hitsN, hitssN, w1, if_neg (by omega)]
        · rw [hitsN, hitssN, w1, if_pos ⟨rfl, c0, by omega⟩]; omega
      · rw [if_neg (fun h => c0 h.2)]
        refine ⟨fun i hi => ?_, by omega, fun h => by omega⟩
        rw [hitsN, hitssN, if_neg (fun h => c0 h.2.1)]
    · rw [if_neg (fun h => hk1 h.1), hwb]
      obtain ⟨b1, b2, b3⟩ := kids l ih hk (d + bindsF (.node k n nm ByteArray.empty l)) 0 (by omega) (by omega) (by omega)
      refine ⟨fun i hi => ?_, b2, fun h => ?_⟩
      · rw [hitsN, if_neg (fun h => hk1 h.1), hwb, b1 i hi]
      · rw [hitsN, if_neg (fun h => hk1 h.1), hwb]
        rcases b3 with b3 | b3
        · omega
        · omega

theorem free_bound (T : Tree) : ∀ d, Plain T → 0 ≤ d → d + sizeN T ≤ lim → rfreeF T d ≤ 65537 := by
  induction T using Tree.ind with
  | h0 => intro d h; cases h
  | h1 k n nm mk l ih =>
    have kids : ∀ (l : List Tree), (∀ x ∈ l, ∀ d, Plain x → 0 ≤ d → d + sizeN x ≤ lim → rfreeF x d ≤ 65537) → (∀ x ∈ l, Plain x) → ∀ d m, 0 ≤ d → d + sizesN l ≤ lim → m ≤ 65537 → rfreesF m l d ≤ 65537 := by
      intro l
      induction l with
      | nil => intro _ _ d m _ _ hm; rw [rfreesF]; exact hm
      | cons x l ih2 =>
        intro hx hp d m h0 h1 h2
        rw [sizesN] at h1
        push_cast at h1
        have a1 := hx x (by simp) d (hp x (by simp)) h0 (by omega)
        rw [rfreesF]
        exact ih2 (fun y hy => hx y (by simp [hy])) (fun y hy => hp y (by simp [hy])) d _ h0 (by omega) (by split <;> omega)
    intro d hp h0 h1
    obtain ⟨hm, hv, hk⟩ := hp.inv
    rw [sizeN] at h1
    push_cast at h1
    have hlim : lim = 1099511627776 := rfl
    have hb := bindsF_b (.node k n nm mk l)
    have hwb : IntKind.i64.wrap (d + bindsF (.node k n nm mk l)) = d + bindsF (.node k n nm mk l) := wrap64 (by omega) (by omega)
    rw [rfreeF, hwb]
    refine kids l ih hk _ _ (by omega) (by omega) ?_
    by_cases hk1 : k = 110 ∧ d ≤ n
    · have := (hv hk1.1).2.2
      rw [if_pos hk1, wrap64 (x := n - d) (by omega) (by omega), wrap64 (by omega) (by omega)]
      omega
    · rw [if_neg hk1]; omega
end Go.Proofs.Ytfblaochmhhknaa

namespace Go.Proofs.Ytfblaochmhhknaa
open Go Go.Mq
set_option linter.all false

theorem same_self (X : Tree) : Pure P 23 [.d (.tree X), .d (.tree X)] (.d (.bool true)) := by
  have := same_ok X X
  rw [(sameF_iff X X).2 rfl] at this
  exact this
theorem check_zero {T : Tree} (h : conE T = 0) : Pure P 22 [.d (.tree T)] (.d (.int .i64 0)) := by
  have := check_ok T
  rw [h] at this
  exact this
theorem shift_val {T m : Tree} {b f e : Int} (h : shiftR T b f = (m, e)) : Pure P 33 [.d (.tree T), .d (.int .i64 b), .d (.int .i64 f)] (.tuple [.d (.tree m), .d (.int .i64 e)]) := by
  have := shift_ok T b f
  rw [h] at this
  exact this
theorem tmod_rng (b : Int) (k : Nat) (hk : 0 < k) : -(k : Int) < b.tmod k ∧ b.tmod k < k := by
  by_cases h : b < 0
  · have e : b = -(b.natAbs : Int) := by omega
    generalize b.natAbs = m at e
    subst e
    have h1 := Int.emod_lt_of_pos (m : Int) (show (0 : Int) < k by omega)
    have h2 := Int.emod_nonneg (m : Int) (show (k : Int) ≠ 0 by omega)
    rw [Int.neg_tmod, Int.tmod_eq_emod_of_nonneg (by omega)]
    omega
  · have h1 := Int.emod_lt_of_pos b (show (0 : Int) < k by omega)
    have h2 := Int.emod_nonneg b (show (k : Int) ≠ 0 by omega)
    rw [Int.tmod_eq_emod_of_nonneg (by omega)]
    omega
def m50 (b : Int) : Int := (IntKind.i64.wrap (b.tmod 50 + 50)).tmod 50
theorem m50_rng (b : Int) : 0 ≤ m50 b ∧ m50 b < 50 := by
  have h1 := tmod_rng b 50 (by omega)
  have e : b.tmod ((50 : Nat) : Int) = b.tmod 50 := rfl
  rw [e] at h1
  have h2 := Int.emod_lt_of_pos (b.tmod 50 + 50) (show (0 : Int) < 50 by omega)
  have h3 := Int.emod_nonneg (b.tmod 50 + 50) (show (50 : Int) ≠ 0 by omega)
  unfold m50
  rw [wrap64 (by omega) (by omega), Int.tmod_eq_emod_of_nonneg (by omega)]
  exact ⟨h3, h2⟩
def m5 (b : Int) : Int := (IntKind.i64.wrap (b.tmod 5 + 5)).tmod 5
theorem m5_rng (b : Int) : 0 ≤ m5 b ∧ m5 b < 5 := by
  have h1 := tmod_rng b 5 (by omega)
  have e : b.tmod ((5 : Nat) : Int) = b.tmod 5 := rfl
  rw [e] at h1
  have h2 := Int.emod_lt_of_pos (b.tmod 5 + 5) (show (0 : Int) < 5 by omega)
  have h3 := Int.emod_nonneg (b.tmod 5 + 5) (show (5 : Int) ≠ 0 by omega)
  unfold m5
  rw [wrap64 (by omega) (by omega), Int.tmod_eq_emod_of_nonneg (by omega)]
  exact ⟨h3, h2⟩

set_option maxHeartbeats 4000000 in
set_option maxRecDepth 10000 in
theorem ctorBack_ok (l : List Cel) (b c : Int) : Pure P 7 [.agg [.d (cellsD l)], .d (.int .i64 b), .d (.int .i64 c)] (.d (.bool true)) := by
  obtain ⟨hb0, hb1⟩ := m50_rng b
  obtain ⟨hc0, hc1⟩ := m50_rng c
  have hfw := few_ok l
  generalize fewF l = T at hfw
  refine Pure.of_body tt [] [6] Try.func7 rfl rfl rfl (Nat.le_of_ble_eq_true rfl) fun g => ?_
  by_cases h : conE T = 0
  · have hck := check_zero h
    have e1 := shiftR_vmap h (Int.le_refl 0) (m50 b)
    cases hvm : vmap (fM (m50 b) 0) T 0 with
    | none =>
      rw [hvm] at e1
      have s1 := shift_val e1
      clear e1 hvm
      repeat' first
        | (refine then_go hm htt ?_; conv => whnf)
        | (refine Side.mk (by first | assumption | exact trivial | rfl | exact Nat.le_of_ble_eq_true rfl | omega) ?_; conv => whnf)
        | (refine Hyp.mk fun hlen => ?_; replace hlen : _ ≤ 17592186044416 := hlen; conv => whnf)
        | (refine Split.ct ?_; conv => whnf)
        | (refine Split.cf ?_; conv => whnf)
        | (refine Split.of_true (by first | rfl | assumption | ((try simp only [bytes_eq, bytes_ne, empty_bytes, bytes_bne, bytes_bne']); (try simp only [decide_eq_true_eq, decide_eq_false_iff_not, beq_iff_eq, beq_eq_false_iff_ne, bne_iff_ne, bne_eq_false_iff_eq, Bool.not_eq_true', Bool.not_eq_false', Tree.isNil_iff, Tree.isNil_not, Int.not_lt, Int.not_le, gt_iff_lt, ge_iff_le, ne_eq, Decidable.not_not, Int.toNat_natCast, Int.toNat_zero, Int.toNat_one]); first | assumption | omega)) ?_; conv => whnf)
        | (refine Split.of_false (by first | rfl | assumption | ((try simp only [bytes_eq, bytes_ne, empty_bytes, bytes_bne, bytes_bne']); (try simp only [decide_eq_true_eq, decide_eq_false_iff_not, beq_iff_eq, beq_eq_false_iff_ne, bne_iff_ne, bne_eq_false_iff_eq, Bool.not_eq_true', Bool.not_eq_false', Tree.isNil_iff, Tree.isNil_not, Int.not_lt, Int.not_le, gt_iff_lt, ge_iff_le, ne_eq, Decidable.not_not, Int.toNat_natCast, Int.toNat_zero, Int.toNat_one]); first | assumption | omega)) ?_; conv => whnf)
        | (refine Indep.mk (by kernel_rfl) ?_; conv => whnf)
        | (refine CallG.pure hfw rfl ?_; conv => whnf)
        | (refine CallG.pure s1 rfl ?_; conv => whnf)
        | (refine CallG.pure hck rfl ?_; conv => whnf)
        | (refine CallG.pure works_ok rfl ?_; conv => whnf)
        | (refine Split.mk (fun hc => ?_) (fun hc => ?_) <;> (try simp only [bytes_eq, bytes_ne, empty_bytes, bytes_bne, bytes_bne'] at hc) <;> (try simp only [decide_eq_true_eq, decide_eq_false_iff_not, beq_iff_eq, beq_eq_false_iff_ne, bne_iff_ne, bne_eq_false_iff_eq, Bool.not_eq_true', Bool.not_eq_false', Tree.isNil_iff, Tree.isNil_not, Int.not_lt, Int.not_le, gt_iff_lt, ge_iff_le, ne_eq, Decidable.not_not, Int.toNat_natCast, Int.toNat_zero, Int.toNat_one] at hc) <;> conv => whnf)
      exact ret_closed rfl (bool_eq rfl) rfl
    | some m =>
      rw [hvm] at e1
      have s1 := shift_val e1
      have hcm := vmap_conE (fM_VB _ _) h hvm
      have w1 : IntKind.i64.wrap (0 - m50 b) = -m50 b := by rw [wrap64] <;> omega
      have w2 : IntKind.i64.wrap (m50 b + m50 c) = m50 b + m50 c := by rw [wrap64] <;> omega
      have s2 : Pure P 33 [.d (.tree m), .d (.int .i64 (IntKind.i64.wrap (0 - m50 b))), .d (.int .i64 0)] (.tuple [.d (.tree T), .d (.int .i64 0)]) :=
        shift_val (by rw [w1, shiftR_vmap hcm (Int.le_refl 0), back_id h hb0 hvm])
      have s3 : Pure P 33 [.d (.tree T), .d (.int .i64 0), .d (.int .i64 0)] (.tuple [.d (.tree T), .d (.int .i64 0)]) :=
        shift_val (by rw [shiftR_vmap h (Int.le_refl 0), back_zero h])
      have s4 := shift_ok m (m50 c) 0
      have s5 : Pure P 33 [.d (.tree T), .d (.int .i64 (IntKind.i64.wrap (m50 b + m50 c))), .d (.int .i64 0)] (.tuple [.d (.tree (shiftR m (m50 c) 0).1), .d (.int .i64 (shiftR m (m50 c) 0).2)]) :=
        shift_val (by rw [w2, shiftR_vmap h (Int.le_refl 0), shiftR_vmap hcm (Int.le_refl 0), back_both h hb0 hc0 hvm])
      clear e1 hvm w1 w2
      repeat' first
        | (refine then_go hm htt ?_; conv => whnf)
        | (refine Side.mk (by first | assumption | exact trivial | rfl | exact Nat.le_of_ble_eq_true rfl | omega) ?_; conv => whnf)
        | (refine Hyp.mk fun hlen => ?_; replace hlen : _ ≤ 17592186044416 := hlen; conv => whnf)
        | (refine Split.ct ?_; conv => whnf)
        | (refine Split.cf ?_; conv => whnf)
        | (refine Split.of_true (by first | rfl | assumption | ((try simp only [bytes_eq, bytes_ne, empty_bytes, bytes_bne, bytes_bne']); (try simp only [decide_eq_true_eq, decide_eq_false_iff_not, beq_iff_eq, beq_eq_false_iff_ne, bne_iff_ne, bne_eq_false_iff_eq, Bool.not_eq_true', Bool.not_eq_false', Tree.isNil_iff, Tree.isNil_not, Int.not_lt, Int.not_le, gt_iff_lt, ge_iff_le, ne_eq, Decidable.not_not, Int.toNat_natCast, Int.toNat_zero, Int.toNat_one]); first | assumption | omega)) ?_; conv => whnf)
        | (refine Split.of_false (by first | rfl | assumption | ((try simp only [bytes_eq, bytes_ne, empty_bytes, bytes_bne, bytes_bne']); (try simp only [decide_eq_true_eq, decide_eq_false_iff_not, beq_iff_eq, beq_eq_false_iff_ne, bne_iff_ne, bne_eq_false_iff_eq, Bool.not_eq_true', Bool.not_eq_false', Tree.isNil_iff, Tree.isNil_not, Int.not_lt, Int.not_le, gt_iff_lt, ge_iff_le, ne_eq, Decidable.not_not, Int.toNat_natCast, Int.toNat_zero, Int.toNat_one]); first | assumption | omega)) ?_; conv => whnf)
        | (refine Indep.mk (by kernel_rfl) ?_; conv => whnf)
        | (refine Split.of_false (bne_self_eq_false _) ?_; conv => whnf)
        | (refine CallG.pure hfw rfl ?_; conv => whnf)
        | (refine CallG.pure s1 rfl ?_; conv => whnf)
        | (refine CallG.pure s2 rfl ?_; conv => whnf)
        | (refine CallG.pure s3 rfl ?_; conv => whnf)
        | (refine CallG.pure s4 rfl ?_; conv => whnf)
        | (refine CallG.pure s5 rfl ?_; conv => whnf)
        | (refine CallG.pure (same_self _) rfl ?_; conv => whnf)
        | (refine CallG.pure works_ok rfl ?_; conv => whnf)
        | (refine Split.mk (fun hc => ?_) (fun hc => ?_) <;> (try simp only [bytes_eq, bytes_ne, empty_bytes, bytes_bne, bytes_bne'] at hc) <;> (try simp only [decide_eq_true_eq, decide_eq_false_iff_not, beq_iff_eq, beq_eq_false_iff_ne, bne_iff_ne, bne_eq_false_iff_eq, Bool.not_eq_true', Bool.not_eq_false', Tree.isNil_iff, Tree.isNil_not, Int.not_lt, Int.not_le, gt_iff_lt, ge_iff_le, ne_eq, Decidable.not_not, Int.toNat_natCast, Int.toNat_zero, Int.toNat_one] at hc) <;> conv => whnf)
      exact ret_closed rfl (bool_eq rfl) rfl
  · have hck := check_ok T
    have s1 := shift_val (T := T) (b := m50 b) (f := 0) (m := .nil) (e := conE T) (by rw [shiftR, if_neg h])
    repeat' first
      | (refine then_go hm htt ?_; conv => whnf)
      | (refine Side.mk (by first | assumption | exact trivial | rfl | exact Nat.le_of_ble_eq_true rfl | omega) ?_; conv => whnf)
      | (refine Hyp.mk fun hlen => ?_; replace hlen : _ ≤ 17592186044416 := hlen; conv => whnf)
      | (refine Split.ct ?_; conv => whnf)
      | (refine Split.cf ?_; conv => whnf)
      | (refine Split.of_true (by first | rfl | assumption | ((try simp only [bytes_eq, bytes_ne, empty_bytes, bytes_bne, bytes_bne']); (try simp only [decide_eq_true_eq, decide_eq_false_iff_not, beq_iff_eq, beq_eq_false_iff_ne, bne_iff_ne, bne_eq_false_iff_eq, Bool.not_eq_true', Bool.not_eq_false', Tree.isNil_iff, Tree.isNil_not, Int.not_lt, Int.not_le, gt_iff_lt, ge_iff_le, ne_eq, Decidable.not_not, Int.toNat_natCast, Int.toNat_zero, Int.toNat_one]); first | assumption | omega)) ?_; conv => whnf)
      | (refine Split.of_false (by first | rfl | assumption | ((try simp only [bytes_eq, bytes_ne, empty_bytes, bytes_bne, bytes_bne']); (try simp only [decide_eq_true_eq, decide_eq_false_iff_not, beq_iff_eq, beq_eq_false_iff_ne, bne_iff_ne, bne_eq_false_iff_eq, Bool.not_eq_true', Bool.not_eq_false', Tree.isNil_iff, Tree.isNil_not, Int.not_lt, Int.not_le, gt_iff_lt, ge_iff_le, ne_eq, Decidable.not_not, Int.toNat_natCast, Int.toNat_zero, Int.toNat_one]); first | assumption | omega)) ?_; conv => whnf)
      | (refine Indep.mk (by kernel_rfl) ?_; conv => whnf)
      | (refine CallG.pure hfw rfl ?_; conv => whnf)
      | (refine CallG.pure s1 rfl ?_; conv => whnf)
      | (refine CallG.pure hck rfl ?_; conv => whnf)
      | (refine CallG.pure works_ok rfl ?_; conv => whnf)
      | (refine Split.mk (fun hc => ?_) (fun hc => ?_) <;> (try simp only [bytes_eq, bytes_ne, empty_bytes, bytes_bne, bytes_bne'] at hc) <;> (try simp only [decide_eq_true_eq, decide_eq_false_iff_not, beq_iff_eq, beq_eq_false_iff_ne, bne_iff_ne, bne_eq_false_iff_eq, Bool.not_eq_true', Bool.not_eq_false', Tree.isNil_iff, Tree.isNil_not, Int.not_lt, Int.not_le, gt_iff_lt, ge_iff_le, ne_eq, Decidable.not_not, Int.toNat_natCast, Int.toNat_zero, Int.toNat_one] at hc) <;> conv => whnf)
    exact ret_closed rfl (bool_eq rfl) rfl

set_option maxHeartbeats 4000000 in
set_option maxRecDepth 10000 in
theorem ctorGone_ok (l u : List Cel) (i : Int) : Pure P 9 [.agg [.d (cellsD l)], .agg [.d (cellsD u)], .d (.int .i64 i)] (.d (.bool true)) := by
  obtain ⟨hi0, hi1⟩ := m5_rng i
  have hfw := few_ok l
  have hfu := few_ok u
  generalize fewF l = T at hfw
  generalize fewF u = U at hfu
  refine Pure.of_body tt [] [6] Try.func9 rfl rfl rfl (Nat.le_of_ble_eq_true rfl) fun g => ?_
  by_cases h : conE T = 0
  · have hck := check_zero h
    by_cases hU : conE U = 0
    · have hcu := check_zero hU
      have e1 := shiftR_vmap h hi0 1
      cases hvm : vmap (fM 1 (m5 i)) T 0 with
      | none =>
        rw [hvm] at e1
        have s1 := shift_val e1
        repeat' first
          | (refine then_go hm htt ?_; conv => whnf)
          | (refine Side.mk (by first | assumption | exact trivial | rfl | exact Nat.le_of_ble_eq_true rfl | omega) ?_; conv => whnf)
          | (refine Hyp.mk fun hlen => ?_; replace hlen : _ ≤ 17592186044416 := hlen; conv => whnf)
          | (refine Split.ct ?_; conv => whnf)
          | (refine Split.cf ?_; conv => whnf)
          | (refine Split.of_true (by first | rfl | assumption | ((try simp only [bytes_eq, bytes_ne, empty_bytes, bytes_bne, bytes_bne']); (try simp only [decide_eq_true_eq, decide_eq_false_iff_not, beq_iff_eq, beq_eq_false_iff_ne, bne_iff_ne, bne_eq_false_iff_eq, Bool.not_eq_true', Bool.not_eq_false', Tree.isNil_iff, Tree.isNil_not, Int.not_lt, Int.not_le, gt_iff_lt, ge_iff_le, ne_eq, Decidable.not_not, Int.toNat_natCast, Int.toNat_zero, Int.toNat_one]); first | assumption | omega)) ?_; conv => whnf)
          | (refine Split.of_false (by first | rfl | assumption | ((try simp only [bytes_eq, bytes_ne, empty_bytes, bytes_bne, bytes_bne']); (try simp only [decide_eq_true_eq, decide_eq_false_iff_not, beq_iff_eq, beq_eq_false_iff_ne, bne_iff_ne, bne_eq_false_iff_eq, Bool.not_eq_true', Bool.not_eq_false', Tree.isNil_iff, Tree.isNil_not, Int.not_lt, Int.not_le, gt_iff_lt, ge_iff_le, ne_eq, Decidable.not_not, Int.toNat_natCast, Int.toNat_zero, Int.toNat_one]); first | assumption | omega)) ?_; conv => whnf)
          | (refine Indep.mk (by kernel_rfl) ?_; conv => whnf)
          | (refine CallG.pure hfw rfl ?_; conv => whnf)
          | (refine CallG.pure hfu rfl ?_; conv => whnf)
          | (refine CallG.pure s1 rfl ?_; conv => whnf)
          | (refine CallG.pure hck rfl ?_; conv => whnf)
          | (refine CallG.pure hcu rfl ?_; conv => whnf)
          | (refine CallG.pure works_ok rfl ?_; conv => whnf)
          | (refine Split.mk (fun hc => ?_) (fun hc => ?_) <;> (try simp only [bytes_eq, bytes_ne, empty_bytes, bytes_bne, bytes_bne'] at hc) <;> (try simp only [decide_eq_true_eq, decide_eq_false_iff_not, beq_iff_eq, beq_eq_false_iff_ne, bne_iff_ne, bne_eq_false_iff_eq, Bool.not_eq_true', Bool.not_eq_false', Tree.isNil_iff, Tree.isNil_not, Int.not_lt, Int.not_le, gt_iff_lt, ge_iff_le, ne_eq, Decidable.not_not, Int.toNat_natCast, Int.toNat_zero, Int.toNat_one] at hc) <;> conv => whnf)
        exact ret_closed rfl (bool_eq rfl) rfl
      | some m =>
        rw [hvm] at e1
        have s1 := shift_val e1
        have hcm := vmap_conE (fM_VB _ _) h hvm
        have ho := occurs_ok m (m5 i)
        have hh := gone_occ h hi0 (by omega) hvm
        have hz := conE_size hcm
        have e2 : occursR m (m5 i) = false := by rw [occursR_eq, roccursR, countF_hits _ _ _ (by omega), hh]; simp
        rw [e2] at ho
        have hs := subst_ok m (m5 i) U
        rw [gone_subst h hU hi0 (by omega) hvm] at hs
        repeat' first
          | (refine then_go hm htt ?_; conv => whnf)
          | (refine Side.mk (by first | assumption | exact trivial | rfl | exact Nat.le_of_ble_eq_true rfl | omega) ?_; conv => whnf)
          | (refine Hyp.mk fun hlen => ?_; replace hlen : _ ≤ 17592186044416 := hlen; conv => whnf)
          | (refine Split.ct ?_; conv => whnf)
          | (refine Split.cf ?_; conv => whnf)
          | (refine Split.of_true (by first | rfl | assumption | ((try simp only [bytes_eq, bytes_ne, empty_bytes, bytes_bne, bytes_bne']); (try simp only [decide_eq_true_eq, decide_eq_false_iff_not, beq_iff_eq, beq_eq_false_iff_ne, bne_iff_ne, bne_eq_false_iff_eq, Bool.not_eq_true', Bool.not_eq_false', Tree.isNil_iff, Tree.isNil_not, Int.not_lt, Int.not_le, gt_iff_lt, ge_iff_le, ne_eq, Decidable.not_not, Int.toNat_natCast, Int.toNat_zero, Int.toNat_one]); first | assumption | omega)) ?_; conv => whnf)
          | (refine Split.of_false (by first | rfl | assumption | ((try simp only [bytes_eq, bytes_ne, empty_bytes, bytes_bne, bytes_bne']); (try simp only [decide_eq_true_eq, decide_eq_false_iff_not, beq_iff_eq, beq_eq_false_iff_ne, bne_iff_ne, bne_eq_false_iff_eq, Bool.not_eq_true', Bool.not_eq_false', Tree.isNil_iff, Tree.isNil_not, Int.not_lt, Int.not_le, gt_iff_lt, ge_iff_le, ne_eq, Decidable.not_not, Int.toNat_natCast, Int.toNat_zero, Int.toNat_one]); first | assumption | omega)) ?_; conv => whnf)
          | (refine Indep.mk (by kernel_rfl) ?_; conv => whnf)
          | (refine CallG.pure hfw rfl ?_; conv => whnf)
          | (refine CallG.pure hfu rfl ?_; conv => whnf)
          | (refine CallG.pure s1 rfl ?_; conv => whnf)
          | (refine CallG.pure hck rfl ?_; conv => whnf)
          | (refine CallG.pure hcu rfl ?_; conv => whnf)
          | (refine CallG.pure ho rfl ?_; conv => whnf)
          | (refine CallG.pure hs rfl ?_; conv => whnf)
          | (refine CallG.pure (same_self _) rfl ?_; conv => whnf)
          | (refine CallG.pure works_ok rfl ?_; conv => whnf)
          | (refine Split.mk (fun hc => ?_) (fun hc => ?_) <;> (try simp only [bytes_eq, bytes_ne, empty_bytes, bytes_bne, bytes_bne'] at hc) <;> (try simp only [decide_eq_true_eq, decide_eq_false_iff_not, beq_iff_eq, beq_eq_false_iff_ne, bne_iff_ne, bne_eq_false_iff_eq, Bool.not_eq_true', Bool.not_eq_false', Tree.isNil_iff, Tree.isNil_not, Int.not_lt, Int.not_le, gt_iff_lt, ge_iff_le, ne_eq, Decidable.not_not, Int.toNat_natCast, Int.toNat_zero, Int.toNat_one] at hc) <;> conv => whnf)
        exact ret_closed rfl (bool_eq rfl) rfl
    · have hcu := check_ok U
      repeat' first
        | (refine then_go hm htt ?_; conv => whnf)
        | (refine Side.mk (by first | assumption | exact trivial | rfl | exact Nat.le_of_ble_eq_true rfl | omega) ?_; conv => whnf)
        | (refine Hyp.mk fun hlen => ?_; replace hlen : _ ≤ 17592186044416 := hlen; conv => whnf)
        | (refine Split.ct ?_; conv => whnf)
        | (refine Split.cf ?_; conv => whnf)
        | (refine Split.of_true (by first | rfl | assumption | ((try simp only [bytes_eq, bytes_ne, empty_bytes, bytes_bne, bytes_bne']); (try simp only [decide_eq_true_eq, decide_eq_false_iff_not, beq_iff_eq, beq_eq_false_iff_ne, bne_iff_ne, bne_eq_false_iff_eq, Bool.not_eq_true', Bool.not_eq_false', Tree.isNil_iff, Tree.isNil_not, Int.not_lt, Int.not_le, gt_iff_lt, ge_iff_le, ne_eq, Decidable.not_not, Int.toNat_natCast, Int.toNat_zero, Int.toNat_one]); first | assumption | omega)) ?_; conv => whnf)
        | (refine Split.of_false (by first | rfl | assumption | ((try simp only [bytes_eq, bytes_ne, empty_bytes, bytes_bne, bytes_bne']); (try simp only [decide_eq_true_eq, decide_eq_false_iff_not, beq_iff_eq, beq_eq_false_iff_ne, bne_iff_ne, bne_eq_false_iff_eq, Bool.not_eq_true', Bool.not_eq_false', Tree.isNil_iff, Tree.isNil_not, Int.not_lt, Int.not_le, gt_iff_lt, ge_iff_le, ne_eq, Decidable.not_not, Int.toNat_natCast, Int.toNat_zero, Int.toNat_one]); first | assumption | omega)) ?_; conv => whnf)
        | (refine Indep.mk (by kernel_rfl) ?_; conv => whnf)
        | (refine CallG.pure hfw rfl ?_; conv => whnf)
        | (refine CallG.pure hfu rfl ?_; conv => whnf)
        | (refine CallG.pure hck rfl ?_; conv => whnf)
        | (refine CallG.pure hcu rfl ?_; conv => whnf)
        | (refine CallG.pure works_ok rfl ?_; conv => whnf)
        | (refine Split.mk (fun hc => ?_) (fun hc => ?_) <;> (try simp only [bytes_eq, bytes_ne, empty_bytes, bytes_bne, bytes_bne'] at hc) <;> (try simp only [decide_eq_true_eq, decide_eq_false_iff_not, beq_iff_eq, beq_eq_false_iff_ne, bne_iff_ne, bne_eq_false_iff_eq, Bool.not_eq_true', Bool.not_eq_false', Tree.isNil_iff, Tree.isNil_not, Int.not_lt, Int.not_le, gt_iff_lt, ge_iff_le, ne_eq, Decidable.not_not, Int.toNat_natCast, Int.toNat_zero, Int.toNat_one] at hc) <;> conv => whnf)
      exact ret_closed rfl (bool_eq rfl) rfl
  · have hck := check_ok T
    repeat' first
      | (refine then_go hm htt ?_; conv => whnf)
      | (refine Side.mk (by first | assumption | exact trivial | rfl | exact Nat.le_of_ble_eq_true rfl | omega) ?_; conv => whnf)
      | (refine Hyp.mk fun hlen => ?_; replace hlen : _ ≤ 17592186044416 := hlen; conv => whnf)
      | (refine Split.ct ?_; conv => whnf)
      | (refine Split.cf ?_; conv => whnf)
      | (refine Split.of_true (by first | rfl | assumption | ((try simp only [bytes_eq, bytes_ne, empty_bytes, bytes_bne, bytes_bne']); (try simp only [decide_eq_true_eq, decide_eq_false_iff_not, beq_iff_eq, beq_eq_false_iff_ne, bne_iff_ne, bne_eq_false_iff_eq, Bool.not_eq_true', Bool.not_eq_false', Tree.isNil_iff, Tree.isNil_not, Int.not_lt, Int.not_le, gt_iff_lt, ge_iff_le, ne_eq, Decidable.not_not, Int.toNat_natCast, Int.toNat_zero, Int.toNat_one]); first | assumption | omega)) ?_; conv => whnf)
      | (refine Split.of_false (by first | rfl | assumption | ((try simp only [bytes_eq, bytes_ne, empty_bytes, bytes_bne, bytes_bne']); (try simp only [decide_eq_true_eq, decide_eq_false_iff_not, beq_iff_eq, beq_eq_false_iff_ne, bne_iff_ne, bne_eq_false_iff_eq, Bool.not_eq_true', Bool.not_eq_false', Tree.isNil_iff, Tree.isNil_not, Int.not_lt, Int.not_le, gt_iff_lt, ge_iff_le, ne_eq, Decidable.not_not, Int.toNat_natCast, Int.toNat_zero, Int.toNat_one]); first | assumption | omega)) ?_; conv => whnf)
      | (refine Indep.mk (by kernel_rfl) ?_; conv => whnf)
      | (refine CallG.pure hfw rfl ?_; conv => whnf)
      | (refine CallG.pure hfu rfl ?_; conv => whnf)
      | (refine CallG.pure hck rfl ?_; conv => whnf)
      | (refine CallG.pure works_ok rfl ?_; conv => whnf)
      | (refine Split.mk (fun hc => ?_) (fun hc => ?_) <;> (try simp only [bytes_eq, bytes_ne, empty_bytes, bytes_bne, bytes_bne'] at hc) <;> (try simp only [decide_eq_true_eq, decide_eq_false_iff_not, beq_iff_eq, beq_eq_false_iff_ne, bne_iff_ne, bne_eq_false_iff_eq, Bool.not_eq_true', Bool.not_eq_false', Tree.isNil_iff, Tree.isNil_not, Int.not_lt, Int.not_le, gt_iff_lt, ge_iff_le, ne_eq, Decidable.not_not, Int.toNat_natCast, Int.toNat_zero, Int.toNat_one] at hc) <;> conv => whnf)
    exact ret_closed rfl (bool_eq rfl) rfl

set_option maxHeartbeats 4000000 in
set_option maxRecDepth 10000 in
theorem ctorVariable_ok (l : List Cel) : Pure P 10 [.agg [.d (cellsD l)]] (.d (.bool true)) := by
  have hfw := few_ok l
  generalize fewF l = T at hfw
  refine Pure.of_body tt [47] [2] Try.func10 rfl rfl rfl (Nat.le_of_ble_eq_true rfl) fun g => ?_
  by_cases h : conE T = 0
  · have hck := check_zero h
    have hz := conE_size h
    have hl : lim = 1099511627776 := rfl
    obtain ⟨f1, f2, f3⟩ := free_hits T 0 (conE_plain h) (by omega) (by omega)
    have hf := free_ok T
    have ef : freeR T = rfreeF T 0 := by rw [freeR_eq, rfreeR, if_pos h]
    rw [ef] at hf
    have ho := occurs_ok T (rfreeF T 0)
    have eo : occursR T (rfreeF T 0) = false := by rw [occursR_eq, roccursR, countF_hits _ _ _ (by omega), f1 _ (Int.le_refl _)]; simp
    rw [eo] at ho
    have hle : ∀ i, (hitsN i T 0 : Int) ≤ 65536 := fun i => by have := hitsN_le i T 0; omega
    have ho2 : 0 < rfreeF T 0 → Pure P 37 [.d (.tree T), .d (.int .i64 (IntKind.i64.wrap (rfreeF T 0 - 1)))] (.d (.bool true)) := by
      intro hp
      have hfb := free_bound T 0 (conE_plain h) (by omega) (by omega)
      have w1 : IntKind.i64.wrap (rfreeF T 0 - 1) = rfreeF T 0 - 1 := wrap64 (by omega) (by omega)
      have := occurs_ok T (rfreeF T 0 - 1)
      have e2 : occursR T (rfreeF T 0 - 1) = true := by
        rw [occursR_eq, roccursR, countF_hits _ _ _ (by omega)]
        have := f3 hp
        rw [decide_eq_true h, decide_eq_true (by omega), decide_eq_true (by omega)]; rfl
      rw [e2] at this
      rw [w1]
      exact this
    have e1 := shiftR_vmap h (show (0 : Int) ≤ 1 by omega) 1
    by_cases hpos : 0 < rfreeF T 0
    all_goals
      cases hvm : vmap (fM 1 1) T 0 with
      | none =>
        rw [hvm] at e1
        have s1 := shift_val e1
        repeat' first
          | (refine then_go hm htt ?_; conv => whnf)
          | (refine Side.mk (by first | assumption | exact trivial | rfl | exact Nat.le_of_ble_eq_true rfl | omega) ?_; conv => whnf)
          | (refine Hyp.mk fun hlen => ?_; replace hlen : _ ≤ 17592186044416 := hlen; conv => whnf)
          | (refine Split.ct ?_; conv => whnf)
          | (refine Split.cf ?_; conv => whnf)
          | (refine Split.of_true (by first | rfl | assumption | ((try simp only [bytes_eq, bytes_ne, empty_bytes, bytes_bne, bytes_bne']); (try simp only [decide_eq_true_eq, decide_eq_false_iff_not, beq_iff_eq, beq_eq_false_iff_ne, bne_iff_ne, bne_eq_false_iff_eq, Bool.not_eq_true', Bool.not_eq_false', Tree.isNil_iff, Tree.isNil_not, Int.not_lt, Int.not_le, gt_iff_lt, ge_iff_le, ne_eq, Decidable.not_not, Int.toNat_natCast, Int.toNat_zero, Int.toNat_one]); first | assumption | omega)) ?_; conv => whnf)
          | (refine Split.of_false (by first | rfl | assumption | ((try simp only [bytes_eq, bytes_ne, empty_bytes, bytes_bne, bytes_bne']); (try simp only [decide_eq_true_eq, decide_eq_false_iff_not, beq_iff_eq, beq_eq_false_iff_ne, bne_iff_ne, bne_eq_false_iff_eq, Bool.not_eq_true', Bool.not_eq_false', Tree.isNil_iff, Tree.isNil_not, Int.not_lt, Int.not_le, gt_iff_lt, ge_iff_le, ne_eq, Decidable.not_not, Int.toNat_natCast, Int.toNat_zero, Int.toNat_one]); first | assumption | omega)) ?_; conv => whnf)
          | (refine Indep.mk (by kernel_rfl) ?_; conv => whnf)
          | (refine CallG.pure hfw rfl ?_; conv => whnf)
          | (refine CallG.pure s1 rfl ?_; conv => whnf)
          | (refine CallG.pure hck rfl ?_; conv => whnf)
          | (refine CallG.pure hf rfl ?_; conv => whnf)
          | (refine CallG.pure ho rfl ?_; conv => whnf)
          | (refine CallG.pure (ho2 hpos) rfl ?_; conv => whnf)
          | (refine CallG.pure works_ok rfl ?_; conv => whnf)
          | (refine Split.mk (fun hc => ?_) (fun hc => ?_) <;> (try simp only [bytes_eq, bytes_ne, empty_bytes, bytes_bne, bytes_bne'] at hc) <;> (try simp only [decide_eq_true_eq, decide_eq_false_iff_not, beq_iff_eq, beq_eq_false_iff_ne, bne_iff_ne, bne_eq_false_iff_eq, Bool.not_eq_true', Bool.not_eq_false', Tree.isNil_iff, Tree.isNil_not, Int.not_lt, Int.not_le, gt_iff_lt, ge_iff_le, ne_eq, Decidable.not_not, Int.toNat_natCast, Int.toNat_zero, Int.toNat_one] at hc) <;> conv => whnf)
        exact ret_closed rfl (bool_eq rfl) rfl
      | some m =>
        rw [hvm] at e1
        have s1 := shift_val e1
        have hs := subst_ok m 0 (.node 110 0 ByteArray.empty ByteArray.empty [])
        rw [var_subst h hvm] at hs
        repeat' first
          | (refine then_go hm htt ?_; conv => whnf)
          | (refine Side.mk (by first | assumption | exact trivial | rfl | exact Nat.le_of_ble_eq_true rfl | omega) ?_; conv => whnf)
          | (refine Hyp.mk fun hlen => ?_; replace hlen : _ ≤ 17592186044416 := hlen; conv => whnf)
          | (refine Split.ct ?_; conv => whnf)
          | (refine Split.cf ?_; conv => whnf)
          | (refine Split.of_true (by first | rfl | assumption | ((try simp only [bytes_eq, bytes_ne, empty_bytes, bytes_bne, bytes_bne']); (try simp only [decide_eq_true_eq, decide_eq_false_iff_not, beq_iff_eq, beq_eq_false_iff_ne, bne_iff_ne, bne_eq_false_iff_eq, Bool.not_eq_true', Bool.not_eq_false', Tree.isNil_iff, Tree.isNil_not, Int.not_lt, Int.not_le, gt_iff_lt, ge_iff_le, ne_eq, Decidable.not_not, Int.toNat_natCast, Int.toNat_zero, Int.toNat_one]); first | assumption | omega)) ?_; conv => whnf)
          | (refine Split.of_false (by first | rfl | assumption | ((try simp only [bytes_eq, bytes_ne, empty_bytes, bytes_bne, bytes_bne']); (try simp only [decide_eq_true_eq, decide_eq_false_iff_not, beq_iff_eq, beq_eq_false_iff_ne, bne_iff_ne, bne_eq_false_iff_eq, Bool.not_eq_true', Bool.not_eq_false', Tree.isNil_iff, Tree.isNil_not, Int.not_lt, Int.not_le, gt_iff_lt, ge_iff_le, ne_eq, Decidable.not_not, Int.toNat_natCast, Int.toNat_zero, Int.toNat_one]); first | assumption | omega)) ?_; conv => whnf)
          | (refine Indep.mk (by kernel_rfl) ?_; conv => whnf)
          | (refine CallG.pure hfw rfl ?_; conv => whnf)
          | (refine CallG.pure s1 rfl ?_; conv => whnf)
          | (refine CallG.pure hck rfl ?_; conv => whnf)
          | (refine CallG.pure hf rfl ?_; conv => whnf)
          | (refine CallG.pure ho rfl ?_; conv => whnf)
          | (refine CallG.pure (ho2 hpos) rfl ?_; conv => whnf)
          | (refine CallG.pure hs rfl ?_; conv => whnf)
          | (refine CallG.pure (same_self _) rfl ?_; conv => whnf)
          | (refine CallG.pure works_ok rfl ?_; conv => whnf)
          | (refine Split.mk (fun hc => ?_) (fun hc => ?_) <;> (try simp only [bytes_eq, bytes_ne, empty_bytes, bytes_bne, bytes_bne'] at hc) <;> (try simp only [decide_eq_true_eq, decide_eq_false_iff_not, beq_iff_eq, beq_eq_false_iff_ne, bne_iff_ne, bne_eq_false_iff_eq, Bool.not_eq_true', Bool.not_eq_false', Tree.isNil_iff, Tree.isNil_not, Int.not_lt, Int.not_le, gt_iff_lt, ge_iff_le, ne_eq, Decidable.not_not, Int.toNat_natCast, Int.toNat_zero, Int.toNat_one] at hc) <;> conv => whnf)
        exact ret_closed rfl (bool_eq rfl) rfl
  · have hck := check_ok T
    have hf := free_ok T
    rw [show freeR T = 0 by rw [freeR, if_neg h]] at hf
    repeat' first
      | (refine then_go hm htt ?_; conv => whnf)
      | (refine Side.mk (by first | assumption | exact trivial | rfl | exact Nat.le_of_ble_eq_true rfl | omega) ?_; conv => whnf)
      | (refine Hyp.mk fun hlen => ?_; replace hlen : _ ≤ 17592186044416 := hlen; conv => whnf)
      | (refine Split.ct ?_; conv => whnf)
      | (refine Split.cf ?_; conv => whnf)
      | (refine Split.of_true (by first | rfl | assumption | ((try simp only [bytes_eq, bytes_ne, empty_bytes, bytes_bne, bytes_bne']); (try simp only [decide_eq_true_eq, decide_eq_false_iff_not, beq_iff_eq, beq_eq_false_iff_ne, bne_iff_ne, bne_eq_false_iff_eq, Bool.not_eq_true', Bool.not_eq_false', Tree.isNil_iff, Tree.isNil_not, Int.not_lt, Int.not_le, gt_iff_lt, ge_iff_le, ne_eq, Decidable.not_not, Int.toNat_natCast, Int.toNat_zero, Int.toNat_one]); first | assumption | omega)) ?_; conv => whnf)
      | (refine Split.of_false (by first | rfl | assumption | ((try simp only [bytes_eq, bytes_ne, empty_bytes, bytes_bne, bytes_bne']); (try simp only [decide_eq_true_eq, decide_eq_false_iff_not, beq_iff_eq, beq_eq_false_iff_ne, bne_iff_ne, bne_eq_false_iff_eq, Bool.not_eq_true', Bool.not_eq_false', Tree.isNil_iff, Tree.isNil_not, Int.not_lt, Int.not_le, gt_iff_lt, ge_iff_le, ne_eq, Decidable.not_not, Int.toNat_natCast, Int.toNat_zero, Int.toNat_one]); first | assumption | omega)) ?_; conv => whnf)
      | (refine Indep.mk (by kernel_rfl) ?_; conv => whnf)
      | (refine CallG.pure hfw rfl ?_; conv => whnf)
      | (refine CallG.pure hck rfl ?_; conv => whnf)
      | (refine CallG.pure hf rfl ?_; conv => whnf)
      | (refine CallG.pure works_ok rfl ?_; conv => whnf)
      | (refine Split.mk (fun hc => ?_) (fun hc => ?_) <;> (try simp only [bytes_eq, bytes_ne, empty_bytes, bytes_bne, bytes_bne'] at hc) <;> (try simp only [decide_eq_true_eq, decide_eq_false_iff_not, beq_iff_eq, beq_eq_false_iff_ne, bne_iff_ne, bne_eq_false_iff_eq, Bool.not_eq_true', Bool.not_eq_false', Tree.isNil_iff, Tree.isNil_not, Int.not_lt, Int.not_le, gt_iff_lt, ge_iff_le, ne_eq, Decidable.not_not, Int.toNat_natCast, Int.toNat_zero, Int.toNat_one] at hc) <;> conv => whnf)
    exact ret_closed rfl (bool_eq rfl) rfl
end Go.Proofs.Ytfblaochmhhknaa
