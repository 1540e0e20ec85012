/- What functions of the program compute, and plain facts about it. -/
import Derived.Test.YtfblaochmhhknaaGG
import Derived.Test.YtfblaochmhhknaaGC
import Derived.Test.YtfblaochmhhknaaGE
import Derived.Test.YtfblaochmhhknaaGF
set_option linter.all false
namespace Go.Proofs.Ytfblaochmhhknaa
namespace Ex
open Go Go.Mq
set_option linter.all false

def RFitsP (T : Tree) : Prop := ∀ (n : Tree) (d : Int) (cons : List Tree) (k : Nat), EB T → Full n → 0 ≤ d → d + 8192 * sizeN T ≤ 1125899906842624 → cons.length = k →
  Fun P 58 [.ref 0 0, .d (.tree T), .d (.tree n), .d (.int .i64 d)] [(0, .cells [.row 1 k]), (1, .row 25 (.trees cons))] 2
    (.d (.bool (fitsF T n d cons).1)) [(0, .cells [.row 1 k]), (1, .row 25 (.trees (fitsF T n d cons).2))] 2

theorem occ_count {n : Tree} (h : conE n = 0) (k : Nat) : occursR n k = decide (0 < countF k n 0) := by
  rw [occursR_eq, roccursR, decide_eq_true h, decide_eq_true (by omega : (0 : Int) ≤ k)]; simp

set_option maxHeartbeats 8000000 in
set_option maxRecDepth 10000 in
theorem rfits_ok (T : Tree) : RFitsP T := by
  induction T using Tree.ind' with
  | h0 => intro n d cons k hF; cases hF
  | h1 T hT ih => ?_
  intro n d cons k hF hn hd0 hd1 hk
  have hnT := hn.ne
  have hsz := sizeN_kids hT
  have he := fitsF_eq hT n d cons
  have heb := hF.ebinds
  refine Fun.of_body tt [] [8] (Try.func58) rfl rfl rfl (Nat.le_of_ble_eq_true rfl) fun g => ?_
  by_cases hv : T.kind = 110 ∧ d ≤ T.n ∧ IntKind.i64.wrap (T.n - d) < cons.length
  · rw [if_pos hv] at he
    obtain ⟨v1, v2, v3⟩ := hv
    have hvn := hF.v v1
    have hw : IntKind.i64.wrap (T.n - d) = T.n - d := wrap64 (by omega) (by omega)
    rw [hw] at v3 he
    have hw3 : IntKind.i64.wrap (T.n - d) < (k : Int) := by rw [hw]; omega
    have hw0 : (0 : Int) ≤ IntKind.i64.wrap (T.n - d) ∧ IntKind.i64.wrap (T.n - d) < (k : Int) := ⟨by rw [hw]; omega, hw3⟩
    by_cases hc0 : conE n ≠ 0
    · have e : fitsF T n d cons = (false, cons) := by rw [he]; unfold varF; rw [if_pos hc0]
      rw [e]
      repeat' first
        | (refine then_go hm htt ?_; conv => whnf)
        | (refine Side.mk (by first | assumption | exact trivial | rfl | exact Nat.le_of_ble_eq_true rfl | omega) ?_; conv => whnf)
        | (refine Hyp.mk fun hlen => ?_; replace hlen : _ ≤ 17592186044416 := hlen; conv => whnf)
        | (refine Split.ct ?_; conv => whnf)
        | (refine Split.cf ?_; conv => whnf)
        | (refine Split.of_true (by first | rfl | assumption | ((try simp only [bytes_eq, bytes_ne, empty_bytes, bytes_bne, bytes_bne']); (try simp only [decide_eq_true_eq, decide_eq_false_iff_not, beq_iff_eq, beq_eq_false_iff_ne, bne_iff_ne, bne_eq_false_iff_eq, Bool.not_eq_true', Bool.not_eq_false', Tree.isNil_iff, Tree.isNil_not, Int.not_lt, Int.not_le, gt_iff_lt, ge_iff_le, ne_eq, Decidable.not_not, Int.toNat_natCast, Int.toNat_zero, Int.toNat_one]); first | assumption | omega)) ?_; conv => whnf)
        | (refine Split.of_false (by first | rfl | assumption | ((try simp only [bytes_eq, bytes_ne, empty_bytes, bytes_bne, bytes_bne']); (try simp only [decide_eq_true_eq, decide_eq_false_iff_not, beq_iff_eq, beq_eq_false_iff_ne, bne_iff_ne, bne_eq_false_iff_eq, Bool.not_eq_true', Bool.not_eq_false', Tree.isNil_iff, Tree.isNil_not, Int.not_lt, Int.not_le, gt_iff_lt, ge_iff_le, ne_eq, Decidable.not_not, Int.toNat_natCast, Int.toNat_zero, Int.toNat_one]); first | assumption | omega)) ?_; conv => whnf)
        | (refine Indep.mk (by kernel_rfl) ?_; conv => whnf)
        | (refine CallG.pure (rcheck_ok n) rfl ?_; conv => whnf)
        | (refine Split.mk (fun hc => ?_) (fun hc => ?_) <;> (try simp only [bytes_eq, bytes_ne, empty_bytes, bytes_bne, bytes_bne'] at hc) <;> (try simp only [decide_eq_true_eq, decide_eq_false_iff_not, beq_iff_eq, beq_eq_false_iff_ne, bne_iff_ne, bne_eq_false_iff_eq, Bool.not_eq_true', Bool.not_eq_false', Tree.isNil_iff, Tree.isNil_not, Int.not_lt, Int.not_le, gt_iff_lt, ge_iff_le, ne_eq, Decidable.not_not, Int.toNat_natCast, Int.toNat_zero, Int.toNat_one] at hc) <;> conv => whnf)
      refine RetS.ent (σ' := ⟨[(8, .d (.bool false))], 177, [(0, .cells [.row 1 k]), (1, .row 25 (.trees cons))], 2, g⟩) (Ent.re [0, 1] rfl rfl rfl rfl rfl rfl (by repeat' first | exact trivial | apply And.intro | rfl | (refine int_eq ?_; rw [wrap64] <;> omega)) (by repeat' first | exact trivial | apply And.intro | rfl | (refine int_eq ?_; rw [wrap64] <;> omega))) ?_
      exact ret_objs rfl rfl (bool_eq rfl) ⟨rfl, rfl, trivial⟩ (Nat.le_refl _)
    · have hc1 : conE n = 0 := by omega
      have hck : Pure P 24 [.d (.tree n)] (.d (.int .i64 0)) := by
        have := rcheck_ok n
        rw [hc1] at this
        exact this
      repeat' first
        | (refine then_go hm htt ?_; conv => whnf)
        | (refine Side.mk (by first | assumption | exact trivial | rfl | exact Nat.le_of_ble_eq_true rfl | omega) ?_; conv => whnf)
        | (refine Hyp.mk fun hlen => ?_; replace hlen : _ ≤ 17592186044416 := hlen; conv => whnf)
        | (refine Split.ct ?_; conv => whnf)
        | (refine Split.cf ?_; conv => whnf)
        | (refine Split.of_true (by first | rfl | assumption | ((try simp only [bytes_eq, bytes_ne, empty_bytes, bytes_bne, bytes_bne']); (try simp only [decide_eq_true_eq, decide_eq_false_iff_not, beq_iff_eq, beq_eq_false_iff_ne, bne_iff_ne, bne_eq_false_iff_eq, Bool.not_eq_true', Bool.not_eq_false', Tree.isNil_iff, Tree.isNil_not, Int.not_lt, Int.not_le, gt_iff_lt, ge_iff_le, ne_eq, Decidable.not_not, Int.toNat_natCast, Int.toNat_zero, Int.toNat_one]); first | assumption | omega)) ?_; conv => whnf)
        | (refine Split.of_false (by first | rfl | assumption | ((try simp only [bytes_eq, bytes_ne, empty_bytes, bytes_bne, bytes_bne']); (try simp only [decide_eq_true_eq, decide_eq_false_iff_not, beq_iff_eq, beq_eq_false_iff_ne, bne_iff_ne, bne_eq_false_iff_eq, Bool.not_eq_true', Bool.not_eq_false', Tree.isNil_iff, Tree.isNil_not, Int.not_lt, Int.not_le, gt_iff_lt, ge_iff_le, ne_eq, Decidable.not_not, Int.toNat_natCast, Int.toNat_zero, Int.toNat_one]); first | assumption | omega)) ?_; conv => whnf)
        | (refine Indep.mk (by kernel_rfl) ?_; conv => whnf)
        | (refine CallG.pure hck rfl ?_; conv => whnf)
        | (refine Split.mk (fun hc => ?_) (fun hc => ?_) <;> (try simp only [bytes_eq, bytes_ne, empty_bytes, bytes_bne, bytes_bne'] at hc) <;> (try simp only [decide_eq_true_eq, decide_eq_false_iff_not, beq_iff_eq, beq_eq_false_iff_ne, bne_iff_ne, bne_eq_false_iff_eq, Bool.not_eq_true', Bool.not_eq_false', Tree.isNil_iff, Tree.isNil_not, Int.not_lt, Int.not_le, gt_iff_lt, ge_iff_le, ne_eq, Decidable.not_not, Int.toNat_natCast, Int.toNat_zero, Int.toNat_one] at hc) <;> conv => whnf)
      refine loop_go (α := Nat) (fun p => ⟨[(0, .ref 0 0), (1, .d (.tree T)), (2, .d (.tree n)), (3, .d (.int .i64 d)), (9, .d (.int .i64 p))], 177, [(0, .cells [.row 1 k]), (1, .row 25 (.trees cons))], 2, g⟩)
        (fun p => p ≤ d.toNat ∧ anyOcc n (d.toNat - p) p = anyOcc n d.toNat 0) (fun p => d.toNat - p) 0 ⟨by omega, rfl⟩
        (Ent.re [0, 1] rfl rfl rfl rfl rfl rfl (by repeat' first | exact trivial | apply And.intro | rfl | (refine int_eq ?_; rw [wrap64] <;> omega)) (by repeat' first | exact trivial | apply And.intro | rfl | (refine int_eq ?_; rw [wrap64] <;> omega))) (fun _ => rfl) fun p hpre => ?_
      obtain ⟨hp1, hp2⟩ := hpre
      by_cases hlt : p < d.toNat
      · obtain ⟨m, hgm⟩ : ∃ m, d.toNat - p = m + 1 := ⟨d.toNat - p - 1, by omega⟩
        rw [hgm, anyOcc, occ_count hc1] at hp2
        have hoc := rcount_ok n p 0 hn
        by_cases ho : 0 < countF p n 0
        · rw [decide_eq_true ho] at hp2
          have e : fitsF T n d cons = (false, cons) := by rw [he]; unfold varF; rw [if_neg hc0, if_pos (by rw [← hp2]; rfl)]
          rw [e]
          repeat' first
            | (refine then_go hm htt ?_; conv => whnf)
            | (refine Side.mk (by first | assumption | exact trivial | rfl | exact Nat.le_of_ble_eq_true rfl | omega) ?_; conv => whnf)
            | (refine Hyp.mk fun hlen => ?_; replace hlen : _ ≤ 17592186044416 := hlen; conv => whnf)
            | (refine Split.ct ?_; conv => whnf)
            | (refine Split.cf ?_; conv => whnf)
            | (refine Split.of_true (by first | rfl | assumption | ((try simp only [bytes_eq, bytes_ne, empty_bytes, bytes_bne, bytes_bne']); (try simp only [decide_eq_true_eq, decide_eq_false_iff_not, beq_iff_eq, beq_eq_false_iff_ne, bne_iff_ne, bne_eq_false_iff_eq, Bool.not_eq_true', Bool.not_eq_false', Tree.isNil_iff, Tree.isNil_not, Int.not_lt, Int.not_le, gt_iff_lt, ge_iff_le, ne_eq, Decidable.not_not, Int.toNat_natCast, Int.toNat_zero, Int.toNat_one]); first | assumption | omega)) ?_; conv => whnf)
            | (refine Split.of_false (by first | rfl | assumption | ((try simp only [bytes_eq, bytes_ne, empty_bytes, bytes_bne, bytes_bne']); (try simp only [decide_eq_true_eq, decide_eq_false_iff_not, beq_iff_eq, beq_eq_false_iff_ne, bne_iff_ne, bne_eq_false_iff_eq, Bool.not_eq_true', Bool.not_eq_false', Tree.isNil_iff, Tree.isNil_not, Int.not_lt, Int.not_le, gt_iff_lt, ge_iff_le, ne_eq, Decidable.not_not, Int.toNat_natCast, Int.toNat_zero, Int.toNat_one]); first | assumption | omega)) ?_; conv => whnf)
            | (refine Indep.mk (by kernel_rfl) ?_; conv => whnf)
            | (refine CallG.pure hoc rfl ?_; conv => whnf)
            | (refine Split.mk (fun hc => ?_) (fun hc => ?_) <;> (try simp only [bytes_eq, bytes_ne, empty_bytes, bytes_bne, bytes_bne'] at hc) <;> (try simp only [decide_eq_true_eq, decide_eq_false_iff_not, beq_iff_eq, beq_eq_false_iff_ne, bne_iff_ne, bne_eq_false_iff_eq, Bool.not_eq_true', Bool.not_eq_false', Tree.isNil_iff, Tree.isNil_not, Int.not_lt, Int.not_le, gt_iff_lt, ge_iff_le, ne_eq, Decidable.not_not, Int.toNat_natCast, Int.toNat_zero, Int.toNat_one] at hc) <;> conv => whnf)
          refine RetS.ent (σ' := ⟨[(8, .d (.bool false))], 177, [(0, .cells [.row 1 k]), (1, .row 25 (.trees cons))], 2, g⟩) (Ent.re [0, 1] rfl rfl rfl rfl rfl rfl (by repeat' first | exact trivial | apply And.intro | rfl | (refine int_eq ?_; rw [wrap64] <;> omega)) (by repeat' first | exact trivial | apply And.intro | rfl | (refine int_eq ?_; rw [wrap64] <;> omega))) ?_
          exact ret_objs rfl rfl (bool_eq rfl) ⟨rfl, rfl, trivial⟩ (Nat.le_refl _)
        · rw [decide_eq_false ho, Bool.false_or] at hp2
          repeat' first
            | (refine then_go hm htt ?_; conv => whnf)
            | (refine Side.mk (by first | assumption | exact trivial | rfl | exact Nat.le_of_ble_eq_true rfl | omega) ?_; conv => whnf)
            | (refine Hyp.mk fun hlen => ?_; replace hlen : _ ≤ 17592186044416 := hlen; conv => whnf)
            | (refine Split.ct ?_; conv => whnf)
            | (refine Split.cf ?_; conv => whnf)
            | (refine Split.of_true (by first | rfl | assumption | ((try simp only [bytes_eq, bytes_ne, empty_bytes, bytes_bne, bytes_bne']); (try simp only [decide_eq_true_eq, decide_eq_false_iff_not, beq_iff_eq, beq_eq_false_iff_ne, bne_iff_ne, bne_eq_false_iff_eq, Bool.not_eq_true', Bool.not_eq_false', Tree.isNil_iff, Tree.isNil_not, Int.not_lt, Int.not_le, gt_iff_lt, ge_iff_le, ne_eq, Decidable.not_not, Int.toNat_natCast, Int.toNat_zero, Int.toNat_one]); first | assumption | omega)) ?_; conv => whnf)
            | (refine Split.of_false (by first | rfl | assumption | ((try simp only [bytes_eq, bytes_ne, empty_bytes, bytes_bne, bytes_bne']); (try simp only [decide_eq_true_eq, decide_eq_false_iff_not, beq_iff_eq, beq_eq_false_iff_ne, bne_iff_ne, bne_eq_false_iff_eq, Bool.not_eq_true', Bool.not_eq_false', Tree.isNil_iff, Tree.isNil_not, Int.not_lt, Int.not_le, gt_iff_lt, ge_iff_le, ne_eq, Decidable.not_not, Int.toNat_natCast, Int.toNat_zero, Int.toNat_one]); first | assumption | omega)) ?_; conv => whnf)
            | (refine Indep.mk (by kernel_rfl) ?_; conv => whnf)
            | (refine CallG.pure hoc rfl ?_; conv => whnf)
            | (refine Split.mk (fun hc => ?_) (fun hc => ?_) <;> (try simp only [bytes_eq, bytes_ne, empty_bytes, bytes_bne, bytes_bne'] at hc) <;> (try simp only [decide_eq_true_eq, decide_eq_false_iff_not, beq_iff_eq, beq_eq_false_iff_ne, bne_iff_ne, bne_eq_false_iff_eq, Bool.not_eq_true', Bool.not_eq_false', Tree.isNil_iff, Tree.isNil_not, Int.not_lt, Int.not_le, gt_iff_lt, ge_iff_le, ne_eq, Decidable.not_not, Int.toNat_natCast, Int.toNat_zero, Int.toNat_one] at hc) <;> conv => whnf)
          exact ⟨p + 1, ⟨by omega, by rw [← hp2]; congr 1; omega⟩, by omega, Ent.re [0, 1] rfl rfl rfl rfl rfl rfl (by repeat' first | exact trivial | apply And.intro | rfl | (refine int_eq ?_; rw [wrap64] <;> omega)) (by repeat' first | exact trivial | apply And.intro | rfl | (refine int_eq ?_; rw [wrap64] <;> omega))⟩
      · rw [show d.toNat - p = 0 by omega, anyOcc] at hp2
        have hsr : shiftR n (IntKind.i64.wrap (0 - d)) 0 = if (rmovedF (IntKind.i64.wrap (0 - d)) 0 n 0).isSome = true then (oT (rmovedF (IntKind.i64.wrap (0 - d)) 0 n 0), 0) else (.nil, 2) := by rw [shiftR_eq, rshiftR, if_pos hc1, if_neg (by omega)]
        have hmv := rMoved_ok n (IntKind.i64.wrap (0 - d)) 0 0 hn
        have e : fitsF T n d cons = if (shiftR n (IntKind.i64.wrap (0 - d)) 0).2 ≠ 0 then (false, cons)
            else (sameF ((fillC cons ((T.n - d).toNat * 1) (shiftR n (IntKind.i64.wrap (0 - d)) 0).1).getD ((T.n - d).toNat * 1) .nil) (shiftR n (IntKind.i64.wrap (0 - d)) 0).1, fillC cons ((T.n - d).toNat * 1) (shiftR n (IntKind.i64.wrap (0 - d)) 0).1) := by
          rw [he]; unfold varF; rw [if_neg hc0, if_neg (by rw [← hp2]; simp)]
        rw [hsr] at e
        generalize rmovedF (IntKind.i64.wrap (0 - d)) 0 n 0 = R at e hmv
        clear hsr he
        cases R with
        | none =>
          have e : fitsF T n d cons = (false, cons) := by rw [e]; rfl
          rw [e]
          repeat' first
            | (refine then_go hm htt ?_; conv => whnf)
            | (refine Side.mk (by first | assumption | exact trivial | rfl | exact Nat.le_of_ble_eq_true rfl | omega) ?_; conv => whnf)
            | (refine Hyp.mk fun hlen => ?_; replace hlen : _ ≤ 17592186044416 := hlen; conv => whnf)
            | (refine Split.ct ?_; conv => whnf)
            | (refine Split.cf ?_; conv => whnf)
            | (refine Split.of_true (by first | rfl | assumption | ((try simp only [bytes_eq, bytes_ne, empty_bytes, bytes_bne, bytes_bne']); (try simp only [decide_eq_true_eq, decide_eq_false_iff_not, beq_iff_eq, beq_eq_false_iff_ne, bne_iff_ne, bne_eq_false_iff_eq, Bool.not_eq_true', Bool.not_eq_false', Tree.isNil_iff, Tree.isNil_not, Int.not_lt, Int.not_le, gt_iff_lt, ge_iff_le, ne_eq, Decidable.not_not, Int.toNat_natCast, Int.toNat_zero, Int.toNat_one]); first | assumption | omega)) ?_; conv => whnf)
            | (refine Split.of_false (by first | rfl | assumption | ((try simp only [bytes_eq, bytes_ne, empty_bytes, bytes_bne, bytes_bne']); (try simp only [decide_eq_true_eq, decide_eq_false_iff_not, beq_iff_eq, beq_eq_false_iff_ne, bne_iff_ne, bne_eq_false_iff_eq, Bool.not_eq_true', Bool.not_eq_false', Tree.isNil_iff, Tree.isNil_not, Int.not_lt, Int.not_le, gt_iff_lt, ge_iff_le, ne_eq, Decidable.not_not, Int.toNat_natCast, Int.toNat_zero, Int.toNat_one]); first | assumption | omega)) ?_; conv => whnf)
            | (refine Indep.mk (by kernel_rfl) ?_; conv => whnf)
            | (refine CallG.pure hmv rfl ?_; conv => whnf)
            | (refine Split.mk (fun hc => ?_) (fun hc => ?_) <;> (try simp only [bytes_eq, bytes_ne, empty_bytes, bytes_bne, bytes_bne'] at hc) <;> (try simp only [decide_eq_true_eq, decide_eq_false_iff_not, beq_iff_eq, beq_eq_false_iff_ne, bne_iff_ne, bne_eq_false_iff_eq, Bool.not_eq_true', Bool.not_eq_false', Tree.isNil_iff, Tree.isNil_not, Int.not_lt, Int.not_le, gt_iff_lt, ge_iff_le, ne_eq, Decidable.not_not, Int.toNat_natCast, Int.toNat_zero, Int.toNat_one] at hc) <;> conv => whnf)
          refine RetS.ent (σ' := ⟨[(8, .d (.bool false))], 177, [(0, .cells [.row 1 k]), (1, .row 25 (.trees cons))], 2, g⟩) (Ent.re [0, 1] rfl rfl rfl rfl rfl rfl (by repeat' first | exact trivial | apply And.intro | rfl | (refine int_eq ?_; rw [wrap64] <;> omega)) (by repeat' first | exact trivial | apply And.intro | rfl | (refine int_eq ?_; rw [wrap64] <;> omega))) ?_
          exact ret_objs rfl rfl (bool_eq rfl) ⟨rfl, rfl, trivial⟩ (Nat.le_refl _)
        | some c =>
          have e : fitsF T n d cons = (sameF ((fillC cons ((T.n - d).toNat * 1) c).getD ((T.n - d).toNat * 1) .nil) c, fillC cons ((T.n - d).toNat * 1) c) := by rw [e]; rfl
          have hoc : oT (some c) = c := rfl
          rw [hoc] at hmv
          rw [← hw] at e
          by_cases hn0 : (cons.getD ((IntKind.i64.wrap (T.n - d)).toNat * 1) .nil).isNil = true
          · have ef : fillC cons ((IntKind.i64.wrap (T.n - d)).toNat * 1) c = cons.set ((IntKind.i64.wrap (T.n - d)).toNat * 1) c := by unfold fillC; rw [if_pos hn0]
            rw [ef] at e
            have hsm := rSame_ok ((cons.set ((IntKind.i64.wrap (T.n - d)).toNat * 1) c).getD ((IntKind.i64.wrap (T.n - d)).toNat * 1) .nil) c
            rw [e]
            repeat' first
              | (refine then_go hm htt ?_; conv => whnf)
              | (refine Side.mk (by first | assumption | exact trivial | rfl | exact Nat.le_of_ble_eq_true rfl | omega) ?_; conv => whnf)
              | (refine Hyp.mk fun hlen => ?_; replace hlen : _ ≤ 17592186044416 := hlen; conv => whnf)
              | (refine Split.ct ?_; conv => whnf)
              | (refine Split.cf ?_; conv => whnf)
              | (refine Split.of_true (by first | rfl | assumption | ((try simp only [bytes_eq, bytes_ne, empty_bytes, bytes_bne, bytes_bne']); (try simp only [decide_eq_true_eq, decide_eq_false_iff_not, beq_iff_eq, beq_eq_false_iff_ne, bne_iff_ne, bne_eq_false_iff_eq, Bool.not_eq_true', Bool.not_eq_false', Tree.isNil_iff, Tree.isNil_not, Int.not_lt, Int.not_le, gt_iff_lt, ge_iff_le, ne_eq, Decidable.not_not, Int.toNat_natCast, Int.toNat_zero, Int.toNat_one]); first | assumption | omega)) ?_; conv => whnf)
              | (refine Split.of_false (by first | rfl | assumption | ((try simp only [bytes_eq, bytes_ne, empty_bytes, bytes_bne, bytes_bne']); (try simp only [decide_eq_true_eq, decide_eq_false_iff_not, beq_iff_eq, beq_eq_false_iff_ne, bne_iff_ne, bne_eq_false_iff_eq, Bool.not_eq_true', Bool.not_eq_false', Tree.isNil_iff, Tree.isNil_not, Int.not_lt, Int.not_le, gt_iff_lt, ge_iff_le, ne_eq, Decidable.not_not, Int.toNat_natCast, Int.toNat_zero, Int.toNat_one]); first | assumption | omega)) ?_; conv => whnf)
              | (refine Indep.mk (by kernel_rfl) ?_; conv => whnf)
              | (refine CallG.pure hmv rfl ?_; conv => whnf)
              | (refine Split.of_true hn0 ?_; conv => whnf)
              | (refine Side.mk hw0 ?_; conv => whnf)
              | (refine Side.mk (show (IntKind.i64.wrap (T.n - d)).toNat * 1 < cons.length from by omega) ?_; conv => whnf)
              | (refine Side.mk (show (IntKind.i64.wrap (T.n - d)).toNat * 1 < (cons.set ((IntKind.i64.wrap (T.n - d)).toNat * 1) c).length from by rw [List.length_set]; omega) ?_; conv => whnf)
              | (refine CallG.pure hsm rfl ?_; conv => whnf)
              | (refine Split.mk (fun hc => ?_) (fun hc => ?_) <;> (try simp only [bytes_eq, bytes_ne, empty_bytes, bytes_bne, bytes_bne'] at hc) <;> (try simp only [decide_eq_true_eq, decide_eq_false_iff_not, beq_iff_eq, beq_eq_false_iff_ne, bne_iff_ne, bne_eq_false_iff_eq, Bool.not_eq_true', Bool.not_eq_false', Tree.isNil_iff, Tree.isNil_not, Int.not_lt, Int.not_le, gt_iff_lt, ge_iff_le, ne_eq, Decidable.not_not, Int.toNat_natCast, Int.toNat_zero, Int.toNat_one] at hc) <;> conv => whnf)
            refine RetS.ent (σ' := ⟨[(8, .d (.bool (sameF ((cons.set ((IntKind.i64.wrap (T.n - d)).toNat * 1) c).getD ((IntKind.i64.wrap (T.n - d)).toNat * 1) .nil) c)))], 177, [(0, .cells [.row 1 k]), (1, .row 25 (.trees (cons.set ((IntKind.i64.wrap (T.n - d)).toNat * 1) c)))], 2, g⟩) (Ent.re [0, 1] rfl rfl rfl rfl rfl rfl (by repeat' first | exact trivial | apply And.intro | rfl | (refine int_eq ?_; rw [wrap64] <;> omega)) (by repeat' first | exact trivial | apply And.intro | rfl | (refine int_eq ?_; rw [wrap64] <;> omega))) ?_
            exact ret_objs rfl rfl (bool_eq rfl) ⟨rfl, rfl, trivial⟩ (Nat.le_refl _)
          · have ef : fillC cons ((IntKind.i64.wrap (T.n - d)).toNat * 1) c = cons := by unfold fillC; rw [if_neg hn0]
            rw [ef] at e
            have hsm := rSame_ok (cons.getD ((IntKind.i64.wrap (T.n - d)).toNat * 1) .nil) c
            rw [e]
            repeat' first
              | (refine then_go hm htt ?_; conv => whnf)
              | (refine Side.mk (by first | assumption | exact trivial | rfl | exact Nat.le_of_ble_eq_true rfl | omega) ?_; conv => whnf)
              | (refine Hyp.mk fun hlen => ?_; replace hlen : _ ≤ 17592186044416 := hlen; conv => whnf)
              | (refine Split.ct ?_; conv => whnf)
              | (refine Split.cf ?_; conv => whnf)
              | (refine Split.of_true (by first | rfl | assumption | ((try simp only [bytes_eq, bytes_ne, empty_bytes, bytes_bne, bytes_bne']); (try simp only [decide_eq_true_eq, decide_eq_false_iff_not, beq_iff_eq, beq_eq_false_iff_ne, bne_iff_ne, bne_eq_false_iff_eq, Bool.not_eq_true', Bool.not_eq_false', Tree.isNil_iff, Tree.isNil_not, Int.not_lt, Int.not_le, gt_iff_lt, ge_iff_le, ne_eq, Decidable.not_not, Int.toNat_natCast, Int.toNat_zero, Int.toNat_one]); first | assumption | omega)) ?_; conv => whnf)
              | (refine Split.of_false (by first | rfl | assumption | ((try simp only [bytes_eq, bytes_ne, empty_bytes, bytes_bne, bytes_bne']); (try simp only [decide_eq_true_eq, decide_eq_false_iff_not, beq_iff_eq, beq_eq_false_iff_ne, bne_iff_ne, bne_eq_false_iff_eq, Bool.not_eq_true', Bool.not_eq_false', Tree.isNil_iff, Tree.isNil_not, Int.not_lt, Int.not_le, gt_iff_lt, ge_iff_le, ne_eq, Decidable.not_not, Int.toNat_natCast, Int.toNat_zero, Int.toNat_one]); first | assumption | omega)) ?_; conv => whnf)
              | (refine Indep.mk (by kernel_rfl) ?_; conv => whnf)
              | (refine CallG.pure hmv rfl ?_; conv => whnf)
              | (refine Split.of_false (show (cons.getD ((IntKind.i64.wrap (T.n - d)).toNat * 1) .nil).isNil = false from by simpa using hn0) ?_; conv => whnf)
              | (refine Side.mk hw0 ?_; conv => whnf)
              | (refine Side.mk (show (IntKind.i64.wrap (T.n - d)).toNat * 1 < cons.length from by omega) ?_; conv => whnf)
              | (refine CallG.pure hsm rfl ?_; conv => whnf)
              | (refine Split.mk (fun hc => ?_) (fun hc => ?_) <;> (try simp only [bytes_eq, bytes_ne, empty_bytes, bytes_bne, bytes_bne'] at hc) <;> (try simp only [decide_eq_true_eq, decide_eq_false_iff_not, beq_iff_eq, beq_eq_false_iff_ne, bne_iff_ne, bne_eq_false_iff_eq, Bool.not_eq_true', Bool.not_eq_false', Tree.isNil_iff, Tree.isNil_not, Int.not_lt, Int.not_le, gt_iff_lt, ge_iff_le, ne_eq, Decidable.not_not, Int.toNat_natCast, Int.toNat_zero, Int.toNat_one] at hc) <;> conv => whnf)
            refine RetS.ent (σ' := ⟨[(8, .d (.bool (sameF (cons.getD ((IntKind.i64.wrap (T.n - d)).toNat * 1) .nil) c)))], 177, [(0, .cells [.row 1 k]), (1, .row 25 (.trees cons))], 2, g⟩) (Ent.re [0, 1] rfl rfl rfl rfl rfl rfl (by repeat' first | exact trivial | apply And.intro | rfl | (refine int_eq ?_; rw [wrap64] <;> omega)) (by repeat' first | exact trivial | apply And.intro | rfl | (refine int_eq ?_; rw [wrap64] <;> omega))) ?_
            exact ret_objs rfl rfl (bool_eq rfl) ⟨rfl, rfl, trivial⟩ (Nat.le_refl _)
  · rw [if_neg hv] at he
    have hv' : T.kind = 110 → d ≤ T.n → ¬ IntKind.i64.wrap (T.n - d) < k := fun h1 h2 h3 => hv ⟨h1, h2, by omega⟩
    clear hv
    by_cases hs : T.kind ≠ n.kind ∨ T.n ≠ n.n ∨ T.name ≠ n.name ∨ T.mark ≠ n.mark ∨ T.kids.length ≠ n.kids.length
    · rw [if_pos hs] at he
      have hfin : T.kind = n.kind → T.n = n.n → T.name = n.name → T.mark = n.mark → T.kids.length = n.kids.length → False := fun h1 h2 h3 h4 h5 => by simp [h1, h2, h3, h4, h5] at hs
      clear hs
      rw [he]
      repeat' first
        | (refine then_go hm htt ?_; conv => whnf)
        | (refine Side.mk (by first | assumption | exact trivial | rfl | exact Nat.le_of_ble_eq_true rfl | omega) ?_; conv => whnf)
        | (refine Hyp.mk fun hlen => ?_; replace hlen : _ ≤ 17592186044416 := hlen; conv => whnf)
        | (refine Split.ct ?_; conv => whnf)
        | (refine Split.cf ?_; conv => whnf)
        | (refine Split.of_true (by first | rfl | assumption | ((try simp only [bytes_eq, bytes_ne, empty_bytes, bytes_bne, bytes_bne']); (try simp only [decide_eq_true_eq, decide_eq_false_iff_not, beq_iff_eq, beq_eq_false_iff_ne, bne_iff_ne, bne_eq_false_iff_eq, Bool.not_eq_true', Bool.not_eq_false', Tree.isNil_iff, Tree.isNil_not, Int.not_lt, Int.not_le, gt_iff_lt, ge_iff_le, ne_eq, Decidable.not_not, Int.toNat_natCast, Int.toNat_zero, Int.toNat_one]); first | assumption | omega)) ?_; conv => whnf)
        | (refine Split.of_false (by first | rfl | assumption | ((try simp only [bytes_eq, bytes_ne, empty_bytes, bytes_bne, bytes_bne']); (try simp only [decide_eq_true_eq, decide_eq_false_iff_not, beq_iff_eq, beq_eq_false_iff_ne, bne_iff_ne, bne_eq_false_iff_eq, Bool.not_eq_true', Bool.not_eq_false', Tree.isNil_iff, Tree.isNil_not, Int.not_lt, Int.not_le, gt_iff_lt, ge_iff_le, ne_eq, Decidable.not_not, Int.toNat_natCast, Int.toNat_zero, Int.toNat_one]); first | assumption | omega)) ?_; conv => whnf)
        | (refine Indep.mk (by kernel_rfl) ?_; conv => whnf)
        | (exfalso; exact hv' (by omega) (by omega) (by omega))
        | (exfalso; exact hfin (by omega) (by omega) (by assumption) (by assumption) (by omega))
        | (refine Split.mk (fun hc => ?_) (fun hc => ?_) <;> (try simp only [bytes_eq, bytes_ne, empty_bytes, bytes_bne, bytes_bne'] at hc) <;> (try simp only [decide_eq_true_eq, decide_eq_false_iff_not, beq_iff_eq, beq_eq_false_iff_ne, bne_iff_ne, bne_eq_false_iff_eq, Bool.not_eq_true', Bool.not_eq_false', Tree.isNil_iff, Tree.isNil_not, Int.not_lt, Int.not_le, gt_iff_lt, ge_iff_le, ne_eq, Decidable.not_not, Int.toNat_natCast, Int.toNat_zero, Int.toNat_one] at hc) <;> conv => whnf)
      all_goals
        refine RetS.ent (σ' := ⟨[(8, .d (.bool false))], 177, [(0, .cells [.row 1 k]), (1, .row 25 (.trees cons))], 2, g⟩) (Ent.re [0, 1] rfl rfl rfl rfl rfl rfl (by repeat' first | exact trivial | apply And.intro | rfl | (refine int_eq ?_; rw [wrap64] <;> omega)) (by repeat' first | exact trivial | apply And.intro | rfl | (refine int_eq ?_; rw [wrap64] <;> omega))) ?_
        exact ret_objs rfl rfl (bool_eq rfl) ⟨rfl, rfl, trivial⟩ (Nat.le_refl _)
    · have hs1 : T.kind = n.kind ∧ T.n = n.n ∧ T.name = n.name ∧ T.mark = n.mark ∧ T.kids.length = n.kids.length := by
        refine ⟨?_, ?_, ?_, ?_, ?_⟩ <;> (apply Decidable.byContradiction; intro h; exact hs (by simp [h]))
      rw [if_neg hs] at he
      obtain ⟨s1, s2, s3, s4, s5⟩ := hs1
      clear hs
      have hwe : IntKind.i64.wrap (d + ebindsF T) = d + ebindsF T := wrap64 (by omega) (by omega)
      repeat' first
        | (refine then_go hm htt ?_; conv => whnf)
        | (refine Side.mk (by first | assumption | exact trivial | rfl | exact Nat.le_of_ble_eq_true rfl | omega) ?_; conv => whnf)
        | (refine Hyp.mk fun hlen => ?_; replace hlen : _ ≤ 17592186044416 := hlen; conv => whnf)
        | (refine Split.ct ?_; conv => whnf)
        | (refine Split.cf ?_; conv => whnf)
        | (refine Split.of_true (by first | rfl | assumption | ((try simp only [bytes_eq, bytes_ne, empty_bytes, bytes_bne, bytes_bne']); (try simp only [decide_eq_true_eq, decide_eq_false_iff_not, beq_iff_eq, beq_eq_false_iff_ne, bne_iff_ne, bne_eq_false_iff_eq, Bool.not_eq_true', Bool.not_eq_false', Tree.isNil_iff, Tree.isNil_not, Int.not_lt, Int.not_le, gt_iff_lt, ge_iff_le, ne_eq, Decidable.not_not, Int.toNat_natCast, Int.toNat_zero, Int.toNat_one]); first | assumption | omega)) ?_; conv => whnf)
        | (refine Split.of_false (by first | rfl | assumption | ((try simp only [bytes_eq, bytes_ne, empty_bytes, bytes_bne, bytes_bne']); (try simp only [decide_eq_true_eq, decide_eq_false_iff_not, beq_iff_eq, beq_eq_false_iff_ne, bne_iff_ne, bne_eq_false_iff_eq, Bool.not_eq_true', Bool.not_eq_false', Tree.isNil_iff, Tree.isNil_not, Int.not_lt, Int.not_le, gt_iff_lt, ge_iff_le, ne_eq, Decidable.not_not, Int.toNat_natCast, Int.toNat_zero, Int.toNat_one]); first | assumption | omega)) ?_; conv => whnf)
        | (refine Indep.mk (by kernel_rfl) ?_; conv => whnf)
        | (refine Split.of_false (bytes_bne'.2 s3) ?_; conv => whnf)
        | (refine Split.of_false (bytes_bne'.2 s4) ?_; conv => whnf)
        | (exfalso; exact hv' (by omega) (by omega) (by omega))
        | (refine Split.mk (fun hc => ?_) (fun hc => ?_) <;> (try simp only [bytes_eq, bytes_ne, empty_bytes, bytes_bne, bytes_bne'] at hc) <;> (try simp only [decide_eq_true_eq, decide_eq_false_iff_not, beq_iff_eq, beq_eq_false_iff_ne, bne_iff_ne, bne_eq_false_iff_eq, Bool.not_eq_true', Bool.not_eq_false', Tree.isNil_iff, Tree.isNil_not, Int.not_lt, Int.not_le, gt_iff_lt, ge_iff_le, ne_eq, Decidable.not_not, Int.toNat_natCast, Int.toNat_zero, Int.toNat_one] at hc) <;> conv => whnf)
      all_goals
        refine loop_go (α := Nat × List Tree) (fun p => ⟨[(0, .ref 0 0), (1, .d (.tree T)), (2, .d (.tree n)), (3, .d (.int .i64 d)), (13, .d (.int .i64 p.1))], 177, [(0, .cells [.row 1 k]), (1, .row 25 (.trees p.2))], 2, g⟩)
          (fun p => p.1 ≤ T.kids.length ∧ p.2.length = k ∧ fitssF (T.kids.drop p.1) (n.kids.drop p.1) (IntKind.i64.wrap (d + ebindsF T)) p.2 = fitsF T n d cons) (fun p => T.kids.length - p.1) (0, cons) ⟨by simp, hk, by rw [he]; rfl⟩
          (Ent.re [0, 1] rfl rfl rfl rfl rfl rfl (by repeat' first | exact trivial | apply And.intro | rfl | (refine int_eq ?_; rw [wrap64] <;> omega)) (by repeat' first | exact trivial | apply And.intro | rfl | (refine int_eq ?_; rw [wrap64] <;> omega))) (fun _ => rfl) fun p hpre => ?_
        obtain ⟨p, ct⟩ := p
        obtain ⟨hp1, hp2, hp3⟩ := hpre
        simp only [] at hp1 hp2 hp3
        by_cases hlt : p < T.kids.length
        · have hgm := getD_mem hlt
          have hgy := getD_mem (show p < n.kids.length by omega)
          have hsx := sizesN_mem hgm
          have hf := ih _ hgm (n.kids.getD p .nil) (IntKind.i64.wrap (d + ebindsF T)) ct k (hF.k _ hgm) (hn.kids _ hgy) (by rw [hwe]; omega) (by rw [hwe]; omega) hp2
          have hfl2 := fits_len (T.kids.getD p .nil) (n.kids.getD p .nil) (IntKind.i64.wrap (d + ebindsF T)) ct
          rw [fitss_step _ _ hlt] at hp3
          generalize fitsF (T.kids.getD p .nil) (n.kids.getD p .nil) (IntKind.i64.wrap (d + ebindsF T)) ct = R at hf hp3 hfl2
          obtain ⟨rb, rc⟩ := R
          simp only [] at hf hp3 hfl2
          cases rb with
          | true =>
            rw [if_pos rfl] at hp3
            repeat' first
              | (refine then_go hm htt ?_; conv => whnf)
              | (refine Side.mk (by first | assumption | exact trivial | rfl | exact Nat.le_of_ble_eq_true rfl | omega) ?_; conv => whnf)
              | (refine Hyp.mk fun hlen => ?_; replace hlen : _ ≤ 17592186044416 := hlen; conv => whnf)
              | (refine Split.ct ?_; conv => whnf)
              | (refine Split.cf ?_; conv => whnf)
              | (refine Split.of_true (by first | rfl | assumption | ((try simp only [bytes_eq, bytes_ne, empty_bytes, bytes_bne, bytes_bne']); (try simp only [decide_eq_true_eq, decide_eq_false_iff_not, beq_iff_eq, beq_eq_false_iff_ne, bne_iff_ne, bne_eq_false_iff_eq, Bool.not_eq_true', Bool.not_eq_false', Tree.isNil_iff, Tree.isNil_not, Int.not_lt, Int.not_le, gt_iff_lt, ge_iff_le, ne_eq, Decidable.not_not, Int.toNat_natCast, Int.toNat_zero, Int.toNat_one]); first | assumption | omega)) ?_; conv => whnf)
              | (refine Split.of_false (by first | rfl | assumption | ((try simp only [bytes_eq, bytes_ne, empty_bytes, bytes_bne, bytes_bne']); (try simp only [decide_eq_true_eq, decide_eq_false_iff_not, beq_iff_eq, beq_eq_false_iff_ne, bne_iff_ne, bne_eq_false_iff_eq, Bool.not_eq_true', Bool.not_eq_false', Tree.isNil_iff, Tree.isNil_not, Int.not_lt, Int.not_le, gt_iff_lt, ge_iff_le, ne_eq, Decidable.not_not, Int.toNat_natCast, Int.toNat_zero, Int.toNat_one]); first | assumption | omega)) ?_; conv => whnf)
              | (refine Indep.mk (by kernel_rfl) ?_; conv => whnf)
              | (refine Side.mk (show (0 : Int) ≤ (p : Int) ∧ (p : Int) < (T.kids.length : Int) from ⟨by omega, by omega⟩) ?_; conv => whnf)
              | (refine Side.mk (show (0 : Int) ≤ (p : Int) ∧ (p : Int) < (n.kids.length : Int) from ⟨by omega, by omega⟩) ?_; conv => whnf)
              | (refine CallG.pure (rinner_ok' T hT) rfl ?_; conv => whnf)
              | (refine CallG.fun hf [0, 1] rfl rfl rfl rfl rfl rfl (by repeat' first | exact trivial | apply And.intro | rfl | (refine int_eq ?_; rw [wrap64] <;> omega)) rfl ?_; conv => whnf)
              | (refine Split.mk (fun hc => ?_) (fun hc => ?_) <;> (try simp only [bytes_eq, bytes_ne, empty_bytes, bytes_bne, bytes_bne'] at hc) <;> (try simp only [decide_eq_true_eq, decide_eq_false_iff_not, beq_iff_eq, beq_eq_false_iff_ne, bne_iff_ne, bne_eq_false_iff_eq, Bool.not_eq_true', Bool.not_eq_false', Tree.isNil_iff, Tree.isNil_not, Int.not_lt, Int.not_le, gt_iff_lt, ge_iff_le, ne_eq, Decidable.not_not, Int.toNat_natCast, Int.toNat_zero, Int.toNat_one] at hc) <;> conv => whnf)
            exact ⟨(p + 1, rc), ⟨by simp only []; omega, by simp only []; omega, hp3⟩, by simp only []; omega, Ent.re [0, 1] rfl rfl rfl rfl rfl rfl (by repeat' first | exact trivial | apply And.intro | rfl | (refine int_eq ?_; rw [wrap64] <;> omega)) (by repeat' first | exact trivial | apply And.intro | rfl | (refine int_eq ?_; rw [wrap64] <;> omega))⟩
          | false =>
            rw [if_neg (by simp)] at hp3
            rw [← hp3]
            repeat' first
              | (refine then_go hm htt ?_; conv => whnf)
              | (refine Side.mk (by first | assumption | exact trivial | rfl | exact Nat.le_of_ble_eq_true rfl | omega) ?_; conv => whnf)
              | (refine Hyp.mk fun hlen => ?_; replace hlen : _ ≤ 17592186044416 := hlen; conv => whnf)
              | (refine Split.ct ?_; conv => whnf)
              | (refine Split.cf ?_; conv => whnf)
              | (refine Split.of_true (by first | rfl | assumption | ((try simp only [bytes_eq, bytes_ne, empty_bytes, bytes_bne, bytes_bne']); (try simp only [decide_eq_true_eq, decide_eq_false_iff_not, beq_iff_eq, beq_eq_false_iff_ne, bne_iff_ne, bne_eq_false_iff_eq, Bool.not_eq_true', Bool.not_eq_false', Tree.isNil_iff, Tree.isNil_not, Int.not_lt, Int.not_le, gt_iff_lt, ge_iff_le, ne_eq, Decidable.not_not, Int.toNat_natCast, Int.toNat_zero, Int.toNat_one]); first | assumption | omega)) ?_; conv => whnf)
              | (refine Split.of_false (by first | rfl | assumption | ((try simp only [bytes_eq, bytes_ne, empty_bytes, bytes_bne, bytes_bne']); (try simp only [decide_eq_true_eq, decide_eq_false_iff_not, beq_iff_eq, beq_eq_false_iff_ne, bne_iff_ne, bne_eq_false_iff_eq, Bool.not_eq_true', Bool.not_eq_false', Tree.isNil_iff, Tree.isNil_not, Int.not_lt, Int.not_le, gt_iff_lt, ge_iff_le, ne_eq, Decidable.not_not, Int.toNat_natCast, Int.toNat_zero, Int.toNat_one]); first | assumption | omega)) ?_; conv => whnf)
              | (refine Indep.mk (by kernel_rfl) ?_; conv => whnf)
              | (refine Side.mk (show (0 : Int) ≤ (p : Int) ∧ (p : Int) < (T.kids.length : Int) from ⟨by omega, by omega⟩) ?_; conv => whnf)
              | (refine Side.mk (show (0 : Int) ≤ (p : Int) ∧ (p : Int) < (n.kids.length : Int) from ⟨by omega, by omega⟩) ?_; conv => whnf)
              | (refine CallG.pure (rinner_ok' T hT) rfl ?_; conv => whnf)
              | (refine CallG.fun hf [0, 1] rfl rfl rfl rfl rfl rfl (by repeat' first | exact trivial | apply And.intro | rfl | (refine int_eq ?_; rw [wrap64] <;> omega)) rfl ?_; conv => whnf)
              | (refine Split.mk (fun hc => ?_) (fun hc => ?_) <;> (try simp only [bytes_eq, bytes_ne, empty_bytes, bytes_bne, bytes_bne'] at hc) <;> (try simp only [decide_eq_true_eq, decide_eq_false_iff_not, beq_iff_eq, beq_eq_false_iff_ne, bne_iff_ne, bne_eq_false_iff_eq, Bool.not_eq_true', Bool.not_eq_false', Tree.isNil_iff, Tree.isNil_not, Int.not_lt, Int.not_le, gt_iff_lt, ge_iff_le, ne_eq, Decidable.not_not, Int.toNat_natCast, Int.toNat_zero, Int.toNat_one] at hc) <;> conv => whnf)
            exact ret_objs rfl rfl (bool_eq rfl) ⟨rfl, rfl, trivial⟩ (Nat.le_refl _)
        · rw [fitss_end _ _ (by omega)] at hp3
          rw [← hp3]
          repeat' first
            | (refine then_go hm htt ?_; conv => whnf)
            | (refine Side.mk (by first | assumption | exact trivial | rfl | exact Nat.le_of_ble_eq_true rfl | omega) ?_; conv => whnf)
            | (refine Hyp.mk fun hlen => ?_; replace hlen : _ ≤ 17592186044416 := hlen; conv => whnf)
            | (refine Split.ct ?_; conv => whnf)
            | (refine Split.cf ?_; conv => whnf)
            | (refine Split.of_true (by first | rfl | assumption | ((try simp only [bytes_eq, bytes_ne, empty_bytes, bytes_bne, bytes_bne']); (try simp only [decide_eq_true_eq, decide_eq_false_iff_not, beq_iff_eq, beq_eq_false_iff_ne, bne_iff_ne, bne_eq_false_iff_eq, Bool.not_eq_true', Bool.not_eq_false', Tree.isNil_iff, Tree.isNil_not, Int.not_lt, Int.not_le, gt_iff_lt, ge_iff_le, ne_eq, Decidable.not_not, Int.toNat_natCast, Int.toNat_zero, Int.toNat_one]); first | assumption | omega)) ?_; conv => whnf)
            | (refine Split.of_false (by first | rfl | assumption | ((try simp only [bytes_eq, bytes_ne, empty_bytes, bytes_bne, bytes_bne']); (try simp only [decide_eq_true_eq, decide_eq_false_iff_not, beq_iff_eq, beq_eq_false_iff_ne, bne_iff_ne, bne_eq_false_iff_eq, Bool.not_eq_true', Bool.not_eq_false', Tree.isNil_iff, Tree.isNil_not, Int.not_lt, Int.not_le, gt_iff_lt, ge_iff_le, ne_eq, Decidable.not_not, Int.toNat_natCast, Int.toNat_zero, Int.toNat_one]); first | assumption | omega)) ?_; conv => whnf)
            | (refine Indep.mk (by kernel_rfl) ?_; conv => whnf)
            | (refine Split.mk (fun hc => ?_) (fun hc => ?_) <;> (try simp only [bytes_eq, bytes_ne, empty_bytes, bytes_bne, bytes_bne'] at hc) <;> (try simp only [decide_eq_true_eq, decide_eq_false_iff_not, beq_iff_eq, beq_eq_false_iff_ne, bne_iff_ne, bne_eq_false_iff_eq, Bool.not_eq_true', Bool.not_eq_false', Tree.isNil_iff, Tree.isNil_not, Int.not_lt, Int.not_le, gt_iff_lt, ge_iff_le, ne_eq, Decidable.not_not, Int.toNat_natCast, Int.toNat_zero, Int.toNat_one] at hc) <;> conv => whnf)
          exact ret_objs rfl rfl (bool_eq rfl) ⟨rfl, rfl, trivial⟩ (Nat.le_refl _)
end Ex
end Go.Proofs.Ytfblaochmhhknaa

namespace Go.Proofs.Ytfblaochmhhknaa
namespace Ex
open Go Go.Mq
set_option linter.all false

theorem beq_dec (a : Int) : (a == 0) = decide (a = 0) := by by_cases h : a = 0 <;> simp [h]
theorem trees_eq {a b : List Tree} (h : a = b) : (AVal.d (.trees a)) = (AVal.d (.trees b)) := by rw [h]

set_option maxRecDepth 10000 in
theorem inst1_ok (T : Tree) : Pure P 54 [.d (.tree T)] (.d (.bool (!formF T))) := by
  refine Pure.of_body tt [] [2] Try.func54 rfl rfl rfl (Nat.le_of_ble_eq_true rfl) fun g => ?_
  repeat' first
    | (refine then_go hm htt ?_; conv => whnf)
    | (refine Side.mk (by first | assumption | exact trivial | rfl | exact Nat.le_of_ble_eq_true rfl | omega) ?_; conv => whnf)
    | (refine Hyp.mk fun hlen => ?_; replace hlen : _ ≤ 17592186044416 := hlen; conv => whnf)
    | (refine Split.ct ?_; conv => whnf)
    | (refine Split.cf ?_; conv => whnf)
    | (refine Split.of_true (by first | rfl | assumption | ((try simp only [bytes_eq, bytes_ne, empty_bytes, bytes_bne, bytes_bne']); (try simp only [decide_eq_true_eq, decide_eq_false_iff_not, beq_iff_eq, beq_eq_false_iff_ne, bne_iff_ne, bne_eq_false_iff_eq, Bool.not_eq_true', Bool.not_eq_false', Tree.isNil_iff, Tree.isNil_not, Int.not_lt, Int.not_le, gt_iff_lt, ge_iff_le, ne_eq, Decidable.not_not, Int.toNat_natCast, Int.toNat_zero, Int.toNat_one]); first | assumption | omega)) ?_; conv => whnf)
    | (refine Split.of_false (by first | rfl | assumption | ((try simp only [bytes_eq, bytes_ne, empty_bytes, bytes_bne, bytes_bne']); (try simp only [decide_eq_true_eq, decide_eq_false_iff_not, beq_iff_eq, beq_eq_false_iff_ne, bne_iff_ne, bne_eq_false_iff_eq, Bool.not_eq_true', Bool.not_eq_false', Tree.isNil_iff, Tree.isNil_not, Int.not_lt, Int.not_le, gt_iff_lt, ge_iff_le, ne_eq, Decidable.not_not, Int.toNat_natCast, Int.toNat_zero, Int.toNat_one]); first | assumption | omega)) ?_; conv => whnf)
    | (refine Indep.mk (by kernel_rfl) ?_; conv => whnf)
    | (refine CallG.pure (check_ok T) rfl ?_; conv => whnf)
    | (refine CallG.pure (scheck_ok T) rfl ?_; conv => whnf)
    | (refine Split.mk (fun hc => ?_) (fun hc => ?_) <;> (try simp only [bytes_eq, bytes_ne, empty_bytes, bytes_bne, bytes_bne'] at hc) <;> (try simp only [decide_eq_true_eq, decide_eq_false_iff_not, beq_iff_eq, beq_eq_false_iff_ne, bne_iff_ne, bne_eq_false_iff_eq, Bool.not_eq_true', Bool.not_eq_false', Tree.isNil_iff, Tree.isNil_not, Int.not_lt, Int.not_le, gt_iff_lt, ge_iff_le, ne_eq, Decidable.not_not, Int.toNat_natCast, Int.toNat_zero, Int.toNat_one] at hc) <;> conv => whnf)
  all_goals refine ret_closed rfl (bool_eq ?_) rfl
  all_goals (unfold formF; simp_all [bne, beq_dec])
set_option maxRecDepth 10000 in
theorem rform_ok (T : Tree) : Pure P 57 [.d (.tree T)] (.d (.bool (formF T))) := by
  refine Pure.of_body tt [] [2] Try.func57 rfl rfl rfl (Nat.le_of_ble_eq_true rfl) fun g => ?_
  repeat' first
    | (refine then_go hm htt ?_; conv => whnf)
    | (refine Side.mk (by first | assumption | exact trivial | rfl | exact Nat.le_of_ble_eq_true rfl | omega) ?_; conv => whnf)
    | (refine Hyp.mk fun hlen => ?_; replace hlen : _ ≤ 17592186044416 := hlen; conv => whnf)
    | (refine Split.ct ?_; conv => whnf)
    | (refine Split.cf ?_; conv => whnf)
    | (refine Split.of_true (by first | rfl | assumption | ((try simp only [bytes_eq, bytes_ne, empty_bytes, bytes_bne, bytes_bne']); (try simp only [decide_eq_true_eq, decide_eq_false_iff_not, beq_iff_eq, beq_eq_false_iff_ne, bne_iff_ne, bne_eq_false_iff_eq, Bool.not_eq_true', Bool.not_eq_false', Tree.isNil_iff, Tree.isNil_not, Int.not_lt, Int.not_le, gt_iff_lt, ge_iff_le, ne_eq, Decidable.not_not, Int.toNat_natCast, Int.toNat_zero, Int.toNat_one]); first | assumption | omega)) ?_; conv => whnf)
    | (refine Split.of_false (by first | rfl | assumption | ((try simp only [bytes_eq, bytes_ne, empty_bytes, bytes_bne, bytes_bne']); (try simp only [decide_eq_true_eq, decide_eq_false_iff_not, beq_iff_eq, beq_eq_false_iff_ne, bne_iff_ne, bne_eq_false_iff_eq, Bool.not_eq_true', Bool.not_eq_false', Tree.isNil_iff, Tree.isNil_not, Int.not_lt, Int.not_le, gt_iff_lt, ge_iff_le, ne_eq, Decidable.not_not, Int.toNat_natCast, Int.toNat_zero, Int.toNat_one]); first | assumption | omega)) ?_; conv => whnf)
    | (refine Indep.mk (by kernel_rfl) ?_; conv => whnf)
    | (refine CallG.pure (rcheck_ok T) rfl ?_; conv => whnf)
    | (refine CallG.pure (rSemCheck_ok T) rfl ?_; conv => whnf)
    | (refine Split.mk (fun hc => ?_) (fun hc => ?_) <;> (try simp only [bytes_eq, bytes_ne, empty_bytes, bytes_bne, bytes_bne'] at hc) <;> (try simp only [decide_eq_true_eq, decide_eq_false_iff_not, beq_iff_eq, beq_eq_false_iff_ne, bne_iff_ne, bne_eq_false_iff_eq, Bool.not_eq_true', Bool.not_eq_false', Tree.isNil_iff, Tree.isNil_not, Int.not_lt, Int.not_le, gt_iff_lt, ge_iff_le, ne_eq, Decidable.not_not, Int.toNat_natCast, Int.toNat_zero, Int.toNat_one] at hc) <;> conv => whnf)
  all_goals refine ret_closed rfl (bool_eq ?_) rfl
  all_goals (unfold formF; simp_all [bne, beq_dec])

def instF (p n : Tree) (vars : Int) : List Tree × Int :=
  if formF p = false then ([], 16) else if formF n = false then ([], 16) else if vars < 0 then ([], 2) else if 8192 < vars then ([], 2)
  else if (fitsF p n 0 (List.replicate vars.toNat .nil)).1 = true then ((fitsF p n 0 (List.replicate vars.toNat .nil)).2, 0) else ([], 24)

theorem sizeN_room {T : Tree} (h : sizeN T ≤ 65536) : (0 : Int) + 8192 * sizeN T ≤ 1125899906842624 := by omega

set_option maxHeartbeats 4000000 in
set_option maxRecDepth 10000 in
theorem inst_ok (p n : Tree) (vars : Int) : Pure P 16 [.d (.tree p), .d (.tree n), .d (.int .i64 vars)] (.tuple [.d (.trees (instF p n vars).1), .d (.int .i64 (instF p n vars).2)]) := by
  refine Pure.of_body tt [] [6, 7] Try.func16 rfl rfl rfl (Nat.le_of_ble_eq_true rfl) fun g => ?_
  have h1 := inst1_ok p
  have h2 := inst1_ok n
  cases hp : formF p with
  | false =>
    rw [hp] at h1
    have e : instF p n vars = ([], 16) := by unfold instF; rw [if_pos hp]
    rw [e]
    repeat' first
      | (refine then_go hm htt ?_; conv => whnf)
      | (refine Side.mk (by first | assumption | exact trivial | rfl | exact Nat.le_of_ble_eq_true rfl | omega) ?_; conv => whnf)
      | (refine Hyp.mk fun hlen => ?_; replace hlen : _ ≤ 17592186044416 := hlen; conv => whnf)
      | (refine Split.ct ?_; conv => whnf)
      | (refine Split.cf ?_; conv => whnf)
      | (refine Split.of_true (by first | rfl | assumption | ((try simp only [bytes_eq, bytes_ne, empty_bytes, bytes_bne, bytes_bne']); (try simp only [decide_eq_true_eq, decide_eq_false_iff_not, beq_iff_eq, beq_eq_false_iff_ne, bne_iff_ne, bne_eq_false_iff_eq, Bool.not_eq_true', Bool.not_eq_false', Tree.isNil_iff, Tree.isNil_not, Int.not_lt, Int.not_le, gt_iff_lt, ge_iff_le, ne_eq, Decidable.not_not, Int.toNat_natCast, Int.toNat_zero, Int.toNat_one]); first | assumption | omega)) ?_; conv => whnf)
      | (refine Split.of_false (by first | rfl | assumption | ((try simp only [bytes_eq, bytes_ne, empty_bytes, bytes_bne, bytes_bne']); (try simp only [decide_eq_true_eq, decide_eq_false_iff_not, beq_iff_eq, beq_eq_false_iff_ne, bne_iff_ne, bne_eq_false_iff_eq, Bool.not_eq_true', Bool.not_eq_false', Tree.isNil_iff, Tree.isNil_not, Int.not_lt, Int.not_le, gt_iff_lt, ge_iff_le, ne_eq, Decidable.not_not, Int.toNat_natCast, Int.toNat_zero, Int.toNat_one]); first | assumption | omega)) ?_; conv => whnf)
      | (refine Indep.mk (by kernel_rfl) ?_; conv => whnf)
      | (refine CallG.pure h1 rfl ?_; conv => whnf)
      | (refine Split.mk (fun hc => ?_) (fun hc => ?_) <;> (try simp only [bytes_eq, bytes_ne, empty_bytes, bytes_bne, bytes_bne'] at hc) <;> (try simp only [decide_eq_true_eq, decide_eq_false_iff_not, beq_iff_eq, beq_eq_false_iff_ne, bne_iff_ne, bne_eq_false_iff_eq, Bool.not_eq_true', Bool.not_eq_false', Tree.isNil_iff, Tree.isNil_not, Int.not_lt, Int.not_le, gt_iff_lt, ge_iff_le, ne_eq, Decidable.not_not, Int.toNat_natCast, Int.toNat_zero, Int.toNat_one] at hc) <;> conv => whnf)
    refine RetS.ent (σ' := ⟨[(6, .row 0 0), (7, .d (.int .i64 16))], 39, [(0, .row 25 (.trees []))], 1, g⟩) (Ent.nil rfl rfl rfl (by repeat' first | exact trivial | apply And.intro | rfl | (refine int_eq ?_; rw [wrap64] <;> omega)) (by repeat' first | exact trivial | apply And.intro | rfl | (refine int_eq ?_; rw [wrap64] <;> omega))) ?_
    refine RetS.ent (Ent.fz_row 0 (l := []) rfl (by repeat' first | exact trivial | apply And.intro | rfl | exact hp2.symm | exact Nat.zero_lt_one | omega) (by repeat' first | exact trivial | apply And.intro | rfl | exact hp2.symm | exact Nat.zero_lt_one | omega)) ?_
    exact ret_closed rfl rfl rfl
  | true =>
    rw [hp] at h1
    cases hn : formF n with
    | false =>
      rw [hn] at h2
      have e : instF p n vars = ([], 16) := by unfold instF; rw [if_neg (by simp [hp]), if_pos hn]
      rw [e]
      repeat' first
        | (refine then_go hm htt ?_; conv => whnf)
        | (refine Side.mk (by first | assumption | exact trivial | rfl | exact Nat.le_of_ble_eq_true rfl | omega) ?_; conv => whnf)
        | (refine Hyp.mk fun hlen => ?_; replace hlen : _ ≤ 17592186044416 := hlen; conv => whnf)
        | (refine Split.ct ?_; conv => whnf)
        | (refine Split.cf ?_; conv => whnf)
        | (refine Split.of_true (by first | rfl | assumption | ((try simp only [bytes_eq, bytes_ne, empty_bytes, bytes_bne, bytes_bne']); (try simp only [decide_eq_true_eq, decide_eq_false_iff_not, beq_iff_eq, beq_eq_false_iff_ne, bne_iff_ne, bne_eq_false_iff_eq, Bool.not_eq_true', Bool.not_eq_false', Tree.isNil_iff, Tree.isNil_not, Int.not_lt, Int.not_le, gt_iff_lt, ge_iff_le, ne_eq, Decidable.not_not, Int.toNat_natCast, Int.toNat_zero, Int.toNat_one]); first | assumption | omega)) ?_; conv => whnf)
        | (refine Split.of_false (by first | rfl | assumption | ((try simp only [bytes_eq, bytes_ne, empty_bytes, bytes_bne, bytes_bne']); (try simp only [decide_eq_true_eq, decide_eq_false_iff_not, beq_iff_eq, beq_eq_false_iff_ne, bne_iff_ne, bne_eq_false_iff_eq, Bool.not_eq_true', Bool.not_eq_false', Tree.isNil_iff, Tree.isNil_not, Int.not_lt, Int.not_le, gt_iff_lt, ge_iff_le, ne_eq, Decidable.not_not, Int.toNat_natCast, Int.toNat_zero, Int.toNat_one]); first | assumption | omega)) ?_; conv => whnf)
        | (refine Indep.mk (by kernel_rfl) ?_; conv => whnf)
        | (refine CallG.pure h1 rfl ?_; conv => whnf)
        | (refine CallG.pure h2 rfl ?_; conv => whnf)
        | (refine Split.mk (fun hc => ?_) (fun hc => ?_) <;> (try simp only [bytes_eq, bytes_ne, empty_bytes, bytes_bne, bytes_bne'] at hc) <;> (try simp only [decide_eq_true_eq, decide_eq_false_iff_not, beq_iff_eq, beq_eq_false_iff_ne, bne_iff_ne, bne_eq_false_iff_eq, Bool.not_eq_true', Bool.not_eq_false', Tree.isNil_iff, Tree.isNil_not, Int.not_lt, Int.not_le, gt_iff_lt, ge_iff_le, ne_eq, Decidable.not_not, Int.toNat_natCast, Int.toNat_zero, Int.toNat_one] at hc) <;> conv => whnf)
      refine RetS.ent (σ' := ⟨[(6, .row 0 0), (7, .d (.int .i64 16))], 39, [(0, .row 25 (.trees []))], 1, g⟩) (Ent.nil rfl rfl rfl (by repeat' first | exact trivial | apply And.intro | rfl | (refine int_eq ?_; rw [wrap64] <;> omega)) (by repeat' first | exact trivial | apply And.intro | rfl | (refine int_eq ?_; rw [wrap64] <;> omega))) ?_
      refine RetS.ent (Ent.fz_row 0 (l := []) rfl (by repeat' first | exact trivial | apply And.intro | rfl | exact hp2.symm | exact Nat.zero_lt_one | omega) (by repeat' first | exact trivial | apply And.intro | rfl | exact hp2.symm | exact Nat.zero_lt_one | omega)) ?_
      exact ret_closed rfl rfl rfl
    | true =>
      rw [hn] at h2
      by_cases hv : vars < 0 ∨ 8192 < vars
      · have e : instF p n vars = ([], 2) := by
          unfold instF; rw [if_neg (by simp [hp]), if_neg (by simp [hn])]
          by_cases hv0 : vars < 0
          · rw [if_pos hv0]
          · rw [if_neg hv0, if_pos (by omega)]
        rw [e]
        repeat' first
          | (refine then_go hm htt ?_; conv => whnf)
          | (refine Side.mk (by first | assumption | exact trivial | rfl | exact Nat.le_of_ble_eq_true rfl | omega) ?_; conv => whnf)
          | (refine Hyp.mk fun hlen => ?_; replace hlen : _ ≤ 17592186044416 := hlen; conv => whnf)
          | (refine Split.ct ?_; conv => whnf)
          | (refine Split.cf ?_; conv => whnf)
          | (refine Split.of_true (by first | rfl | assumption | ((try simp only [bytes_eq, bytes_ne, empty_bytes, bytes_bne, bytes_bne']); (try simp only [decide_eq_true_eq, decide_eq_false_iff_not, beq_iff_eq, beq_eq_false_iff_ne, bne_iff_ne, bne_eq_false_iff_eq, Bool.not_eq_true', Bool.not_eq_false', Tree.isNil_iff, Tree.isNil_not, Int.not_lt, Int.not_le, gt_iff_lt, ge_iff_le, ne_eq, Decidable.not_not, Int.toNat_natCast, Int.toNat_zero, Int.toNat_one]); first | assumption | omega)) ?_; conv => whnf)
          | (refine Split.of_false (by first | rfl | assumption | ((try simp only [bytes_eq, bytes_ne, empty_bytes, bytes_bne, bytes_bne']); (try simp only [decide_eq_true_eq, decide_eq_false_iff_not, beq_iff_eq, beq_eq_false_iff_ne, bne_iff_ne, bne_eq_false_iff_eq, Bool.not_eq_true', Bool.not_eq_false', Tree.isNil_iff, Tree.isNil_not, Int.not_lt, Int.not_le, gt_iff_lt, ge_iff_le, ne_eq, Decidable.not_not, Int.toNat_natCast, Int.toNat_zero, Int.toNat_one]); first | assumption | omega)) ?_; conv => whnf)
          | (refine Indep.mk (by kernel_rfl) ?_; conv => whnf)
          | (refine CallG.pure h1 rfl ?_; conv => whnf)
          | (refine CallG.pure h2 rfl ?_; conv => whnf)
          | (refine Split.mk (fun hc => ?_) (fun hc => ?_) <;> (try simp only [bytes_eq, bytes_ne, empty_bytes, bytes_bne, bytes_bne'] at hc) <;> (try simp only [decide_eq_true_eq, decide_eq_false_iff_not, beq_iff_eq, beq_eq_false_iff_ne, bne_iff_ne, bne_eq_false_iff_eq, Bool.not_eq_true', Bool.not_eq_false', Tree.isNil_iff, Tree.isNil_not, Int.not_lt, Int.not_le, gt_iff_lt, ge_iff_le, ne_eq, Decidable.not_not, Int.toNat_natCast, Int.toNat_zero, Int.toNat_one] at hc) <;> conv => whnf)
        all_goals
          refine RetS.ent (σ' := ⟨[(6, .row 0 0), (7, .d (.int .i64 2))], 39, [(0, .row 25 (.trees []))], 1, g⟩) (Ent.nil rfl rfl rfl (by repeat' first | exact trivial | apply And.intro | rfl | (refine int_eq ?_; rw [wrap64] <;> omega)) (by repeat' first | exact trivial | apply And.intro | rfl | (refine int_eq ?_; rw [wrap64] <;> omega))) ?_
          refine RetS.ent (Ent.fz_row 0 (l := []) rfl (by repeat' first | exact trivial | apply And.intro | rfl | exact hp2.symm | exact Nat.zero_lt_one | omega) (by repeat' first | exact trivial | apply And.intro | rfl | exact hp2.symm | exact Nat.zero_lt_one | omega)) ?_
          exact ret_closed rfl rfl rfl
      · have hv0 : 0 ≤ vars := by omega
        have hv1 : vars ≤ 8192 := by omega
        clear hv
        obtain ⟨hpe, hps⟩ := form_EB hp
        have hnf := (form_EB hn).1.full
        have hf := fits_ok p n 0 (List.replicate vars.toNat .nil) vars.toNat hpe hnf (Int.le_refl 0) (sizeN_room hps) List.length_replicate
        have e : instF p n vars = if (fitsF p n 0 (List.replicate vars.toNat .nil)).1 = true then ((fitsF p n 0 (List.replicate vars.toNat .nil)).2, 0) else ([], 24) := by
          unfold instF; rw [if_neg (by simp [hp]), if_neg (by simp [hn]), if_neg (by omega), if_neg (by omega)]
        have hfl := fits_len p n 0 (List.replicate vars.toNat .nil)
        rw [List.length_replicate] at hfl
        generalize fitsF p n 0 (List.replicate vars.toNat .nil) = R at hf e hfl
        obtain ⟨rb, rc⟩ := R
        simp only [] at hf e hfl
        cases rb with
        | true =>
          have e : instF p n vars = (rc, 0) := by rw [e]; rfl
          rw [e]
          repeat' first
            | (refine then_go hm htt ?_; conv => whnf)
            | (refine Side.mk (by first | assumption | exact trivial | rfl | exact Nat.le_of_ble_eq_true rfl | omega) ?_; conv => whnf)
            | (refine Hyp.mk fun hlen => ?_; replace hlen : _ ≤ 17592186044416 := hlen; conv => whnf)
            | (refine Split.ct ?_; conv => whnf)
            | (refine Split.cf ?_; conv => whnf)
            | (refine Split.of_true (by first | rfl | assumption | ((try simp only [bytes_eq, bytes_ne, empty_bytes, bytes_bne, bytes_bne']); (try simp only [decide_eq_true_eq, decide_eq_false_iff_not, beq_iff_eq, beq_eq_false_iff_ne, bne_iff_ne, bne_eq_false_iff_eq, Bool.not_eq_true', Bool.not_eq_false', Tree.isNil_iff, Tree.isNil_not, Int.not_lt, Int.not_le, gt_iff_lt, ge_iff_le, ne_eq, Decidable.not_not, Int.toNat_natCast, Int.toNat_zero, Int.toNat_one]); first | assumption | omega)) ?_; conv => whnf)
            | (refine Split.of_false (by first | rfl | assumption | ((try simp only [bytes_eq, bytes_ne, empty_bytes, bytes_bne, bytes_bne']); (try simp only [decide_eq_true_eq, decide_eq_false_iff_not, beq_iff_eq, beq_eq_false_iff_ne, bne_iff_ne, bne_eq_false_iff_eq, Bool.not_eq_true', Bool.not_eq_false', Tree.isNil_iff, Tree.isNil_not, Int.not_lt, Int.not_le, gt_iff_lt, ge_iff_le, ne_eq, Decidable.not_not, Int.toNat_natCast, Int.toNat_zero, Int.toNat_one]); first | assumption | omega)) ?_; conv => whnf)
            | (refine Indep.mk (by kernel_rfl) ?_; conv => whnf)
            | (refine CallG.pure h1 rfl ?_; conv => whnf)
            | (refine CallG.pure h2 rfl ?_; conv => whnf)
            | (refine Side.mk hv0 ?_; conv => whnf)
            | (refine Side.mk (show (vars ≤ 16777216 ∧ (8 : Int) * vars ≤ 140737488355328) from ⟨by omega, by omega⟩) ?_; conv => whnf)
            | (refine CallG.fun hf [1, 0] rfl rfl rfl rfl rfl rfl (by repeat' first | exact trivial | apply And.intro | rfl | (refine int_eq ?_; rw [wrap64] <;> omega)) rfl ?_; conv => whnf)
            | (refine Split.mk (fun hc => ?_) (fun hc => ?_) <;> (try simp only [bytes_eq, bytes_ne, empty_bytes, bytes_bne, bytes_bne'] at hc) <;> (try simp only [decide_eq_true_eq, decide_eq_false_iff_not, beq_iff_eq, beq_eq_false_iff_ne, bne_iff_ne, bne_eq_false_iff_eq, Bool.not_eq_true', Bool.not_eq_false', Tree.isNil_iff, Tree.isNil_not, Int.not_lt, Int.not_le, gt_iff_lt, ge_iff_le, ne_eq, Decidable.not_not, Int.toNat_natCast, Int.toNat_zero, Int.toNat_one] at hc) <;> conv => whnf)
          refine RetS.ent (σ' := ⟨[(6, .row 0 vars.toNat), (7, .d (.int .i64 0))], 39, [(0, .row 25 (.trees rc))], 1, g⟩) (Ent.re [0] rfl rfl rfl rfl rfl rfl (by repeat' first | exact trivial | apply And.intro | rfl | (refine int_eq ?_; rw [wrap64] <;> omega)) (by repeat' first | exact trivial | apply And.intro | rfl | (refine int_eq ?_; rw [wrap64] <;> omega))) ?_
          have hfz : AVal.fzOk 0 rc.length 0 (AVal.row 0 vars.toNat) := hfl.symm
          refine RetS.ent (Ent.fz_row 0 (l := rc) rfl ⟨hfz, trivial, trivial⟩ (by repeat' first | exact trivial | apply And.intro | rfl | exact hp2.symm | exact Nat.zero_lt_one | omega)) ?_
          exact ret_closed rfl rfl rfl
        | false =>
          have e : instF p n vars = ([], 24) := by rw [e]; rfl
          rw [e]
          repeat' first
            | (refine then_go hm htt ?_; conv => whnf)
            | (refine Side.mk (by first | assumption | exact trivial | rfl | exact Nat.le_of_ble_eq_true rfl | omega) ?_; conv => whnf)
            | (refine Hyp.mk fun hlen => ?_; replace hlen : _ ≤ 17592186044416 := hlen; conv => whnf)
            | (refine Split.ct ?_; conv => whnf)
            | (refine Split.cf ?_; conv => whnf)
            | (refine Split.of_true (by first | rfl | assumption | ((try simp only [bytes_eq, bytes_ne, empty_bytes, bytes_bne, bytes_bne']); (try simp only [decide_eq_true_eq, decide_eq_false_iff_not, beq_iff_eq, beq_eq_false_iff_ne, bne_iff_ne, bne_eq_false_iff_eq, Bool.not_eq_true', Bool.not_eq_false', Tree.isNil_iff, Tree.isNil_not, Int.not_lt, Int.not_le, gt_iff_lt, ge_iff_le, ne_eq, Decidable.not_not, Int.toNat_natCast, Int.toNat_zero, Int.toNat_one]); first | assumption | omega)) ?_; conv => whnf)
            | (refine Split.of_false (by first | rfl | assumption | ((try simp only [bytes_eq, bytes_ne, empty_bytes, bytes_bne, bytes_bne']); (try simp only [decide_eq_true_eq, decide_eq_false_iff_not, beq_iff_eq, beq_eq_false_iff_ne, bne_iff_ne, bne_eq_false_iff_eq, Bool.not_eq_true', Bool.not_eq_false', Tree.isNil_iff, Tree.isNil_not, Int.not_lt, Int.not_le, gt_iff_lt, ge_iff_le, ne_eq, Decidable.not_not, Int.toNat_natCast, Int.toNat_zero, Int.toNat_one]); first | assumption | omega)) ?_; conv => whnf)
            | (refine Indep.mk (by kernel_rfl) ?_; conv => whnf)
            | (refine CallG.pure h1 rfl ?_; conv => whnf)
            | (refine CallG.pure h2 rfl ?_; conv => whnf)
            | (refine Side.mk hv0 ?_; conv => whnf)
            | (refine Side.mk (show (vars ≤ 16777216 ∧ (8 : Int) * vars ≤ 140737488355328) from ⟨by omega, by omega⟩) ?_; conv => whnf)
            | (refine CallG.fun hf [1, 0] rfl rfl rfl rfl rfl rfl (by repeat' first | exact trivial | apply And.intro | rfl | (refine int_eq ?_; rw [wrap64] <;> omega)) rfl ?_; conv => whnf)
            | (refine Split.mk (fun hc => ?_) (fun hc => ?_) <;> (try simp only [bytes_eq, bytes_ne, empty_bytes, bytes_bne, bytes_bne'] at hc) <;> (try simp only [decide_eq_true_eq, decide_eq_false_iff_not, beq_iff_eq, beq_eq_false_iff_ne, bne_iff_ne, bne_eq_false_iff_eq, Bool.not_eq_true', Bool.not_eq_false', Tree.isNil_iff, Tree.isNil_not, Int.not_lt, Int.not_le, gt_iff_lt, ge_iff_le, ne_eq, Decidable.not_not, Int.toNat_natCast, Int.toNat_zero, Int.toNat_one] at hc) <;> conv => whnf)
          refine RetS.ent (σ' := ⟨[(6, .d .nils), (7, .d (.int .i64 24))], 39, [], 0, g⟩) (Ent.re [] rfl rfl rfl rfl rfl rfl (by repeat' first | exact trivial | apply And.intro | rfl | (refine int_eq ?_; rw [wrap64] <;> omega)) (by repeat' first | exact trivial | apply And.intro | rfl | (refine int_eq ?_; rw [wrap64] <;> omega))) ?_
          refine RetS.ent (σ' := ⟨[(6, .row 0 0), (7, .d (.int .i64 24))], 39, [(0, .row 25 (.trees []))], 1, g⟩) (Ent.nil rfl rfl rfl (by repeat' first | exact trivial | apply And.intro | rfl | (refine int_eq ?_; rw [wrap64] <;> omega)) (by repeat' first | exact trivial | apply And.intro | rfl | (refine int_eq ?_; rw [wrap64] <;> omega))) ?_
          refine RetS.ent (Ent.fz_row 0 (l := []) rfl (by repeat' first | exact trivial | apply And.intro | rfl | exact hp2.symm | exact Nat.zero_lt_one | omega) (by repeat' first | exact trivial | apply And.intro | rfl | exact hp2.symm | exact Nat.zero_lt_one | omega)) ?_
          exact ret_closed rfl rfl rfl


set_option maxHeartbeats 4000000 in
set_option maxRecDepth 10000 in
theorem rinst_ok (p n : Tree) (vars : Int) : Pure P 17 [.d (.tree p), .d (.tree n), .d (.int .i64 vars)] (.tuple [.d (.trees (instF p n vars).1), .d (.int .i64 (instF p n vars).2)]) := by
  refine Pure.of_body tt [] [6, 7] Try.func17 rfl rfl rfl (Nat.le_of_ble_eq_true rfl) fun g => ?_
  have h1 := rform_ok p
  have h2 := rform_ok n
  cases hp : formF p with
  | false =>
    rw [hp] at h1
    have e : instF p n vars = ([], 16) := by unfold instF; rw [if_pos hp]
    rw [e]
    repeat' first
      | (refine then_go hm htt ?_; conv => whnf)
      | (refine Side.mk (by first | assumption | exact trivial | rfl | exact Nat.le_of_ble_eq_true rfl | omega) ?_; conv => whnf)
      | (refine Hyp.mk fun hlen => ?_; replace hlen : _ ≤ 17592186044416 := hlen; conv => whnf)
      | (refine Split.ct ?_; conv => whnf)
      | (refine Split.cf ?_; conv => whnf)
      | (refine Split.of_true (by first | rfl | assumption | ((try simp only [bytes_eq, bytes_ne, empty_bytes, bytes_bne, bytes_bne']); (try simp only [decide_eq_true_eq, decide_eq_false_iff_not, beq_iff_eq, beq_eq_false_iff_ne, bne_iff_ne, bne_eq_false_iff_eq, Bool.not_eq_true', Bool.not_eq_false', Tree.isNil_iff, Tree.isNil_not, Int.not_lt, Int.not_le, gt_iff_lt, ge_iff_le, ne_eq, Decidable.not_not, Int.toNat_natCast, Int.toNat_zero, Int.toNat_one]); first | assumption | omega)) ?_; conv => whnf)
      | (refine Split.of_false (by first | rfl | assumption | ((try simp only [bytes_eq, bytes_ne, empty_bytes, bytes_bne, bytes_bne']); (try simp only [decide_eq_true_eq, decide_eq_false_iff_not, beq_iff_eq, beq_eq_false_iff_ne, bne_iff_ne, bne_eq_false_iff_eq, Bool.not_eq_true', Bool.not_eq_false', Tree.isNil_iff, Tree.isNil_not, Int.not_lt, Int.not_le, gt_iff_lt, ge_iff_le, ne_eq, Decidable.not_not, Int.toNat_natCast, Int.toNat_zero, Int.toNat_one]); first | assumption | omega)) ?_; conv => whnf)
      | (refine Indep.mk (by kernel_rfl) ?_; conv => whnf)
      | (refine CallG.pure h1 rfl ?_; conv => whnf)
      | (refine Split.mk (fun hc => ?_) (fun hc => ?_) <;> (try simp only [bytes_eq, bytes_ne, empty_bytes, bytes_bne, bytes_bne'] at hc) <;> (try simp only [decide_eq_true_eq, decide_eq_false_iff_not, beq_iff_eq, beq_eq_false_iff_ne, bne_iff_ne, bne_eq_false_iff_eq, Bool.not_eq_true', Bool.not_eq_false', Tree.isNil_iff, Tree.isNil_not, Int.not_lt, Int.not_le, gt_iff_lt, ge_iff_le, ne_eq, Decidable.not_not, Int.toNat_natCast, Int.toNat_zero, Int.toNat_one] at hc) <;> conv => whnf)
    refine RetS.ent (σ' := ⟨[(6, .row 0 0), (7, .d (.int .i64 16))], 36, [(0, .row 25 (.trees []))], 1, g⟩) (Ent.nil rfl rfl rfl (by repeat' first | exact trivial | apply And.intro | rfl | (refine int_eq ?_; rw [wrap64] <;> omega)) (by repeat' first | exact trivial | apply And.intro | rfl | (refine int_eq ?_; rw [wrap64] <;> omega))) ?_
    refine RetS.ent (Ent.fz_row 0 (l := []) rfl (by repeat' first | exact trivial | apply And.intro | rfl | exact hp2.symm | exact Nat.zero_lt_one | omega) (by repeat' first | exact trivial | apply And.intro | rfl | exact hp2.symm | exact Nat.zero_lt_one | omega)) ?_
    exact ret_closed rfl rfl rfl
  | true =>
    rw [hp] at h1
    cases hn : formF n with
    | false =>
      rw [hn] at h2
      have e : instF p n vars = ([], 16) := by unfold instF; rw [if_neg (by simp [hp]), if_pos hn]
      rw [e]
      repeat' first
        | (refine then_go hm htt ?_; conv => whnf)
        | (refine Side.mk (by first | assumption | exact trivial | rfl | exact Nat.le_of_ble_eq_true rfl | omega) ?_; conv => whnf)
        | (refine Hyp.mk fun hlen => ?_; replace hlen : _ ≤ 17592186044416 := hlen; conv => whnf)
        | (refine Split.ct ?_; conv => whnf)
        | (refine Split.cf ?_; conv => whnf)
        | (refine Split.of_true (by first | rfl | assumption | ((try simp only [bytes_eq, bytes_ne, empty_bytes, bytes_bne, bytes_bne']); (try simp only [decide_eq_true_eq, decide_eq_false_iff_not, beq_iff_eq, beq_eq_false_iff_ne, bne_iff_ne, bne_eq_false_iff_eq, Bool.not_eq_true', Bool.not_eq_false', Tree.isNil_iff, Tree.isNil_not, Int.not_lt, Int.not_le, gt_iff_lt, ge_iff_le, ne_eq, Decidable.not_not, Int.toNat_natCast, Int.toNat_zero, Int.toNat_one]); first | assumption | omega)) ?_; conv => whnf)
        | (refine Split.of_false (by first | rfl | assumption | ((try simp only [bytes_eq, bytes_ne, empty_bytes, bytes_bne, bytes_bne']); (try simp only [decide_eq_true_eq, decide_eq_false_iff_not, beq_iff_eq, beq_eq_false_iff_ne, bne_iff_ne, bne_eq_false_iff_eq, Bool.not_eq_true', Bool.not_eq_false', Tree.isNil_iff, Tree.isNil_not, Int.not_lt, Int.not_le, gt_iff_lt, ge_iff_le, ne_eq, Decidable.not_not, Int.toNat_natCast, Int.toNat_zero, Int.toNat_one]); first | assumption | omega)) ?_; conv => whnf)
        | (refine Indep.mk (by kernel_rfl) ?_; conv => whnf)
        | (refine CallG.pure h1 rfl ?_; conv => whnf)
        | (refine CallG.pure h2 rfl ?_; conv => whnf)
        | (refine Split.mk (fun hc => ?_) (fun hc => ?_) <;> (try simp only [bytes_eq, bytes_ne, empty_bytes, bytes_bne, bytes_bne'] at hc) <;> (try simp only [decide_eq_true_eq, decide_eq_false_iff_not, beq_iff_eq, beq_eq_false_iff_ne, bne_iff_ne, bne_eq_false_iff_eq, Bool.not_eq_true', Bool.not_eq_false', Tree.isNil_iff, Tree.isNil_not, Int.not_lt, Int.not_le, gt_iff_lt, ge_iff_le, ne_eq, Decidable.not_not, Int.toNat_natCast, Int.toNat_zero, Int.toNat_one] at hc) <;> conv => whnf)
      refine RetS.ent (σ' := ⟨[(6, .row 0 0), (7, .d (.int .i64 16))], 36, [(0, .row 25 (.trees []))], 1, g⟩) (Ent.nil rfl rfl rfl (by repeat' first | exact trivial | apply And.intro | rfl | (refine int_eq ?_; rw [wrap64] <;> omega)) (by repeat' first | exact trivial | apply And.intro | rfl | (refine int_eq ?_; rw [wrap64] <;> omega))) ?_
      refine RetS.ent (Ent.fz_row 0 (l := []) rfl (by repeat' first | exact trivial | apply And.intro | rfl | exact hp2.symm | exact Nat.zero_lt_one | omega) (by repeat' first | exact trivial | apply And.intro | rfl | exact hp2.symm | exact Nat.zero_lt_one | omega)) ?_
      exact ret_closed rfl rfl rfl
    | true =>
      rw [hn] at h2
      by_cases hv : vars < 0 ∨ 8192 < vars
      · have e : instF p n vars = ([], 2) := by
          unfold instF; rw [if_neg (by simp [hp]), if_neg (by simp [hn])]
          by_cases hv0 : vars < 0
          · rw [if_pos hv0]
          · rw [if_neg hv0, if_pos (by omega)]
        rw [e]
        repeat' first
          | (refine then_go hm htt ?_; conv => whnf)
          | (refine Side.mk (by first | assumption | exact trivial | rfl | exact Nat.le_of_ble_eq_true rfl | omega) ?_; conv => whnf)
          | (refine Hyp.mk fun hlen => ?_; replace hlen : _ ≤ 17592186044416 := hlen; conv => whnf)
          | (refine Split.ct ?_; conv => whnf)
          | (refine Split.cf ?_; conv => whnf)
          | (refine Split.of_true (by first | rfl | assumption | ((try simp only [bytes_eq, bytes_ne, empty_bytes, bytes_bne, bytes_bne']); (try simp only [decide_eq_true_eq, decide_eq_false_iff_not, beq_iff_eq, beq_eq_false_iff_ne, bne_iff_ne, bne_eq_false_iff_eq, Bool.not_eq_true', Bool.not_eq_false', Tree.isNil_iff, Tree.isNil_not, Int.not_lt, Int.not_le, gt_iff_lt, ge_iff_le, ne_eq, Decidable.not_not, Int.toNat_natCast, Int.toNat_zero, Int.toNat_one]); first | assumption | omega)) ?_; conv => whnf)
          | (refine Split.of_false (by first | rfl | assumption | ((try simp only [bytes_eq, bytes_ne, empty_bytes, bytes_bne, bytes_bne']); (try simp only [decide_eq_true_eq, decide_eq_false_iff_not, beq_iff_eq, beq_eq_false_iff_ne, bne_iff_ne, bne_eq_false_iff_eq, Bool.not_eq_true', Bool.not_eq_false', Tree.isNil_iff, Tree.isNil_not, Int.not_lt, Int.not_le, gt_iff_lt, ge_iff_le, ne_eq, Decidable.not_not, Int.toNat_natCast, Int.toNat_zero, Int.toNat_one]); first | assumption | omega)) ?_; conv => whnf)
          | (refine Indep.mk (by kernel_rfl) ?_; conv => whnf)
          | (refine CallG.pure h1 rfl ?_; conv => whnf)
          | (refine CallG.pure h2 rfl ?_; conv => whnf)
          | (refine Split.mk (fun hc => ?_) (fun hc => ?_) <;> (try simp only [bytes_eq, bytes_ne, empty_bytes, bytes_bne, bytes_bne'] at hc) <;> (try simp only [decide_eq_true_eq, decide_eq_false_iff_not, beq_iff_eq, beq_eq_false_iff_ne, bne_iff_ne, bne_eq_false_iff_eq, Bool.not_eq_true', Bool.not_eq_false', Tree.isNil_iff, Tree.isNil_not, Int.not_lt, Int.not_le, gt_iff_lt, ge_iff_le, ne_eq, Decidable.not_not, Int.toNat_natCast, Int.toNat_zero, Int.toNat_one] at hc) <;> conv => whnf)
        all_goals
          refine RetS.ent (σ' := ⟨[(6, .row 0 0), (7, .d (.int .i64 2))], 36, [(0, .row 25 (.trees []))], 1, g⟩) (Ent.nil rfl rfl rfl (by repeat' first | exact trivial | apply And.intro | rfl | (refine int_eq ?_; rw [wrap64] <;> omega)) (by repeat' first | exact trivial | apply And.intro | rfl | (refine int_eq ?_; rw [wrap64] <;> omega))) ?_
          refine RetS.ent (Ent.fz_row 0 (l := []) rfl (by repeat' first | exact trivial | apply And.intro | rfl | exact hp2.symm | exact Nat.zero_lt_one | omega) (by repeat' first | exact trivial | apply And.intro | rfl | exact hp2.symm | exact Nat.zero_lt_one | omega)) ?_
          exact ret_closed rfl rfl rfl
      · have hv0 : 0 ≤ vars := by omega
        have hv1 : vars ≤ 8192 := by omega
        clear hv
        obtain ⟨hpe, hps⟩ := form_EB hp
        have hnf := (form_EB hn).1.full
        have hf := rfits_ok p n 0 (List.replicate vars.toNat .nil) vars.toNat hpe hnf (Int.le_refl 0) (sizeN_room hps) List.length_replicate
        have e : instF p n vars = if (fitsF p n 0 (List.replicate vars.toNat .nil)).1 = true then ((fitsF p n 0 (List.replicate vars.toNat .nil)).2, 0) else ([], 24) := by
          unfold instF; rw [if_neg (by simp [hp]), if_neg (by simp [hn]), if_neg (by omega), if_neg (by omega)]
        have hfl := fits_len p n 0 (List.replicate vars.toNat .nil)
        rw [List.length_replicate] at hfl
        generalize fitsF p n 0 (List.replicate vars.toNat .nil) = R at hf e hfl
        obtain ⟨rb, rc⟩ := R
        simp only [] at hf e hfl
        cases rb with
        | true =>
          have e : instF p n vars = (rc, 0) := by rw [e]; rfl
          rw [e]
          repeat' first
            | (refine then_go hm htt ?_; conv => whnf)
            | (refine Side.mk (by first | assumption | exact trivial | rfl | exact Nat.le_of_ble_eq_true rfl | omega) ?_; conv => whnf)
            | (refine Hyp.mk fun hlen => ?_; replace hlen : _ ≤ 17592186044416 := hlen; conv => whnf)
            | (refine Split.ct ?_; conv => whnf)
            | (refine Split.cf ?_; conv => whnf)
            | (refine Split.of_true (by first | rfl | assumption | ((try simp only [bytes_eq, bytes_ne, empty_bytes, bytes_bne, bytes_bne']); (try simp only [decide_eq_true_eq, decide_eq_false_iff_not, beq_iff_eq, beq_eq_false_iff_ne, bne_iff_ne, bne_eq_false_iff_eq, Bool.not_eq_true', Bool.not_eq_false', Tree.isNil_iff, Tree.isNil_not, Int.not_lt, Int.not_le, gt_iff_lt, ge_iff_le, ne_eq, Decidable.not_not, Int.toNat_natCast, Int.toNat_zero, Int.toNat_one]); first | assumption | omega)) ?_; conv => whnf)
            | (refine Split.of_false (by first | rfl | assumption | ((try simp only [bytes_eq, bytes_ne, empty_bytes, bytes_bne, bytes_bne']); (try simp only [decide_eq_true_eq, decide_eq_false_iff_not, beq_iff_eq, beq_eq_false_iff_ne, bne_iff_ne, bne_eq_false_iff_eq, Bool.not_eq_true', Bool.not_eq_false', Tree.isNil_iff, Tree.isNil_not, Int.not_lt, Int.not_le, gt_iff_lt, ge_iff_le, ne_eq, Decidable.not_not, Int.toNat_natCast, Int.toNat_zero, Int.toNat_one]); first | assumption | omega)) ?_; conv => whnf)
            | (refine Indep.mk (by kernel_rfl) ?_; conv => whnf)
            | (refine CallG.pure h1 rfl ?_; conv => whnf)
            | (refine CallG.pure h2 rfl ?_; conv => whnf)
            | (refine Side.mk hv0 ?_; conv => whnf)
            | (refine Side.mk (show (vars ≤ 16777216 ∧ (8 : Int) * vars ≤ 140737488355328) from ⟨by omega, by omega⟩) ?_; conv => whnf)
            | (refine CallG.fun hf [1, 0] rfl rfl rfl rfl rfl rfl (by repeat' first | exact trivial | apply And.intro | rfl | (refine int_eq ?_; rw [wrap64] <;> omega)) rfl ?_; conv => whnf)
            | (refine Split.mk (fun hc => ?_) (fun hc => ?_) <;> (try simp only [bytes_eq, bytes_ne, empty_bytes, bytes_bne, bytes_bne'] at hc) <;> (try simp only [decide_eq_true_eq, decide_eq_false_iff_not, beq_iff_eq, beq_eq_false_iff_ne, bne_iff_ne, bne_eq_false_iff_eq, Bool.not_eq_true', Bool.not_eq_false', Tree.isNil_iff, Tree.isNil_not, Int.not_lt, Int.not_le, gt_iff_lt, ge_iff_le, ne_eq, Decidable.not_not, Int.toNat_natCast, Int.toNat_zero, Int.toNat_one] at hc) <;> conv => whnf)
          refine RetS.ent (σ' := ⟨[(6, .row 0 vars.toNat), (7, .d (.int .i64 0))], 36, [(0, .row 25 (.trees rc))], 1, g⟩) (Ent.re [0] rfl rfl rfl rfl rfl rfl (by repeat' first | exact trivial | apply And.intro | rfl | (refine int_eq ?_; rw [wrap64] <;> omega)) (by repeat' first | exact trivial | apply And.intro | rfl | (refine int_eq ?_; rw [wrap64] <;> omega))) ?_
          have hfz : AVal.fzOk 0 rc.length 0 (AVal.row 0 vars.toNat) := hfl.symm
          refine RetS.ent (Ent.fz_row 0 (l := rc) rfl ⟨hfz, trivial, trivial⟩ (by repeat' first | exact trivial | apply And.intro | rfl | exact hp2.symm | exact Nat.zero_lt_one | omega)) ?_
          exact ret_closed rfl rfl rfl
        | false =>
          have e : instF p n vars = ([], 24) := by rw [e]; rfl
          rw [e]
          repeat' first
            | (refine then_go hm htt ?_; conv => whnf)
            | (refine Side.mk (by first | assumption | exact trivial | rfl | exact Nat.le_of_ble_eq_true rfl | omega) ?_; conv => whnf)
            | (refine Hyp.mk fun hlen => ?_; replace hlen : _ ≤ 17592186044416 := hlen; conv => whnf)
            | (refine Split.ct ?_; conv => whnf)
            | (refine Split.cf ?_; conv => whnf)
            | (refine Split.of_true (by first | rfl | assumption | ((try simp only [bytes_eq, bytes_ne, empty_bytes, bytes_bne, bytes_bne']); (try simp only [decide_eq_true_eq, decide_eq_false_iff_not, beq_iff_eq, beq_eq_false_iff_ne, bne_iff_ne, bne_eq_false_iff_eq, Bool.not_eq_true', Bool.not_eq_false', Tree.isNil_iff, Tree.isNil_not, Int.not_lt, Int.not_le, gt_iff_lt, ge_iff_le, ne_eq, Decidable.not_not, Int.toNat_natCast, Int.toNat_zero, Int.toNat_one]); first | assumption | omega)) ?_; conv => whnf)
            | (refine Split.of_false (by first | rfl | assumption | ((try simp only [bytes_eq, bytes_ne, empty_bytes, bytes_bne, bytes_bne']); (try simp only [decide_eq_true_eq, decide_eq_false_iff_not, beq_iff_eq, beq_eq_false_iff_ne, bne_iff_ne, bne_eq_false_iff_eq, Bool.not_eq_true', Bool.not_eq_false', Tree.isNil_iff, Tree.isNil_not, Int.not_lt, Int.not_le, gt_iff_lt, ge_iff_le, ne_eq, Decidable.not_not, Int.toNat_natCast, Int.toNat_zero, Int.toNat_one]); first | assumption | omega)) ?_; conv => whnf)
            | (refine Indep.mk (by kernel_rfl) ?_; conv => whnf)
            | (refine CallG.pure h1 rfl ?_; conv => whnf)
            | (refine CallG.pure h2 rfl ?_; conv => whnf)
            | (refine Side.mk hv0 ?_; conv => whnf)
            | (refine Side.mk (show (vars ≤ 16777216 ∧ (8 : Int) * vars ≤ 140737488355328) from ⟨by omega, by omega⟩) ?_; conv => whnf)
            | (refine CallG.fun hf [1, 0] rfl rfl rfl rfl rfl rfl (by repeat' first | exact trivial | apply And.intro | rfl | (refine int_eq ?_; rw [wrap64] <;> omega)) rfl ?_; conv => whnf)
            | (refine Split.mk (fun hc => ?_) (fun hc => ?_) <;> (try simp only [bytes_eq, bytes_ne, empty_bytes, bytes_bne, bytes_bne'] at hc) <;> (try simp only [decide_eq_true_eq, decide_eq_false_iff_not, beq_iff_eq, beq_eq_false_iff_ne, bne_iff_ne, bne_eq_false_iff_eq, Bool.not_eq_true', Bool.not_eq_false', Tree.isNil_iff, Tree.isNil_not, Int.not_lt, Int.not_le, gt_iff_lt, ge_iff_le, ne_eq, Decidable.not_not, Int.toNat_natCast, Int.toNat_zero, Int.toNat_one] at hc) <;> conv => whnf)
          refine RetS.ent (σ' := ⟨[(6, .d .nils), (7, .d (.int .i64 24))], 36, [], 0, g⟩) (Ent.re [] rfl rfl rfl rfl rfl rfl (by repeat' first | exact trivial | apply And.intro | rfl | (refine int_eq ?_; rw [wrap64] <;> omega)) (by repeat' first | exact trivial | apply And.intro | rfl | (refine int_eq ?_; rw [wrap64] <;> omega))) ?_
          refine RetS.ent (σ' := ⟨[(6, .row 0 0), (7, .d (.int .i64 24))], 36, [(0, .row 25 (.trees []))], 1, g⟩) (Ent.nil rfl rfl rfl (by repeat' first | exact trivial | apply And.intro | rfl | (refine int_eq ?_; rw [wrap64] <;> omega)) (by repeat' first | exact trivial | apply And.intro | rfl | (refine int_eq ?_; rw [wrap64] <;> omega))) ?_
          refine RetS.ent (Ent.fz_row 0 (l := []) rfl (by repeat' first | exact trivial | apply And.intro | rfl | exact hp2.symm | exact Nat.zero_lt_one | omega) (by repeat' first | exact trivial | apply And.intro | rfl | exact hp2.symm | exact Nat.zero_lt_one | omega)) ?_
          exact ret_closed rfl rfl rfl


set_option maxHeartbeats 4000000 in
set_option maxRecDepth 10000 in
theorem samecons_self (l : List Tree) : Pure P 18 [.d (.trees l), .d (.trees l)] (.d (.bool true)) := by
  refine Pure.of_body tt [] [4] Try.func18 rfl rfl rfl (Nat.le_of_ble_eq_true rfl) fun g => ?_
  repeat' first
    | (refine then_go hm htt ?_; conv => whnf)
    | (refine Side.mk (by first | assumption | exact trivial | rfl | exact Nat.le_of_ble_eq_true rfl | omega) ?_; conv => whnf)
    | (refine Hyp.mk fun hlen => ?_; replace hlen : _ ≤ 17592186044416 := hlen; conv => whnf)
    | (refine Split.ct ?_; conv => whnf)
    | (refine Split.cf ?_; conv => whnf)
    | (refine Split.of_true (by first | rfl | assumption | ((try simp only [bytes_eq, bytes_ne, empty_bytes, bytes_bne, bytes_bne']); (try simp only [decide_eq_true_eq, decide_eq_false_iff_not, beq_iff_eq, beq_eq_false_iff_ne, bne_iff_ne, bne_eq_false_iff_eq, Bool.not_eq_true', Bool.not_eq_false', Tree.isNil_iff, Tree.isNil_not, Int.not_lt, Int.not_le, gt_iff_lt, ge_iff_le, ne_eq, Decidable.not_not, Int.toNat_natCast, Int.toNat_zero, Int.toNat_one]); first | assumption | omega)) ?_; conv => whnf)
    | (refine Split.of_false (by first | rfl | assumption | ((try simp only [bytes_eq, bytes_ne, empty_bytes, bytes_bne, bytes_bne']); (try simp only [decide_eq_true_eq, decide_eq_false_iff_not, beq_iff_eq, beq_eq_false_iff_ne, bne_iff_ne, bne_eq_false_iff_eq, Bool.not_eq_true', Bool.not_eq_false', Tree.isNil_iff, Tree.isNil_not, Int.not_lt, Int.not_le, gt_iff_lt, ge_iff_le, ne_eq, Decidable.not_not, Int.toNat_natCast, Int.toNat_zero, Int.toNat_one]); first | assumption | omega)) ?_; conv => whnf)
    | (refine Indep.mk (by kernel_rfl) ?_; conv => whnf)
    | (refine Split.mk (fun hc => ?_) (fun hc => ?_) <;> (try simp only [bytes_eq, bytes_ne, empty_bytes, bytes_bne, bytes_bne'] at hc) <;> (try simp only [decide_eq_true_eq, decide_eq_false_iff_not, beq_iff_eq, beq_eq_false_iff_ne, bne_iff_ne, bne_eq_false_iff_eq, Bool.not_eq_true', Bool.not_eq_false', Tree.isNil_iff, Tree.isNil_not, Int.not_lt, Int.not_le, gt_iff_lt, ge_iff_le, ne_eq, Decidable.not_not, Int.toNat_natCast, Int.toNat_zero, Int.toNat_one] at hc) <;> conv => whnf)
  · exact absurd trivial hc
  refine loop_go (α := Nat) (fun p => ⟨[(0, .d (.trees l)), (1, .d (.trees l)), (5, .d (.int .i64 p))], 27, [], 0, g⟩) (fun p => p ≤ l.length) (fun p => l.length - p) 0 (by omega)
      (Ent.re [] rfl rfl rfl rfl rfl rfl (by repeat' first | exact trivial | apply And.intro | rfl | (refine int_eq ?_; rw [wrap64] <;> omega)) (by repeat' first | exact trivial | apply And.intro | rfl | (refine int_eq ?_; rw [wrap64] <;> omega))) (fun _ => rfl) fun p hpre => ?_
  repeat' first
    | (refine then_go hm htt ?_; conv => whnf)
    | (refine Side.mk (by first | assumption | exact trivial | rfl | exact Nat.le_of_ble_eq_true rfl | omega) ?_; conv => whnf)
    | (refine Hyp.mk fun hlen => ?_; replace hlen : _ ≤ 17592186044416 := hlen; conv => whnf)
    | (refine Split.ct ?_; conv => whnf)
    | (refine Split.cf ?_; conv => whnf)
    | (refine Split.of_true (by first | rfl | assumption | ((try simp only [bytes_eq, bytes_ne, empty_bytes, bytes_bne, bytes_bne']); (try simp only [decide_eq_true_eq, decide_eq_false_iff_not, beq_iff_eq, beq_eq_false_iff_ne, bne_iff_ne, bne_eq_false_iff_eq, Bool.not_eq_true', Bool.not_eq_false', Tree.isNil_iff, Tree.isNil_not, Int.not_lt, Int.not_le, gt_iff_lt, ge_iff_le, ne_eq, Decidable.not_not, Int.toNat_natCast, Int.toNat_zero, Int.toNat_one]); first | assumption | omega)) ?_; conv => whnf)
    | (refine Split.of_false (by first | rfl | assumption | ((try simp only [bytes_eq, bytes_ne, empty_bytes, bytes_bne, bytes_bne']); (try simp only [decide_eq_true_eq, decide_eq_false_iff_not, beq_iff_eq, beq_eq_false_iff_ne, bne_iff_ne, bne_eq_false_iff_eq, Bool.not_eq_true', Bool.not_eq_false', Tree.isNil_iff, Tree.isNil_not, Int.not_lt, Int.not_le, gt_iff_lt, ge_iff_le, ne_eq, Decidable.not_not, Int.toNat_natCast, Int.toNat_zero, Int.toNat_one]); first | assumption | omega)) ?_; conv => whnf)
    | (refine Indep.mk (by kernel_rfl) ?_; conv => whnf)
    | (refine Side.mk (show (0 : Int) ≤ (p : Int) ∧ (p : Int) < (l.length : Int) from ⟨by omega, by omega⟩) ?_; conv => whnf)
    | (refine CallG.pure (rsame_self _) rfl ?_; conv => whnf)
    | (refine Split.mk (fun hc => ?_) (fun hc => ?_) <;> (try simp only [bytes_eq, bytes_ne, empty_bytes, bytes_bne, bytes_bne'] at hc) <;> (try simp only [decide_eq_true_eq, decide_eq_false_iff_not, beq_iff_eq, beq_eq_false_iff_ne, bne_iff_ne, bne_eq_false_iff_eq, Bool.not_eq_true', Bool.not_eq_false', Tree.isNil_iff, Tree.isNil_not, Int.not_lt, Int.not_le, gt_iff_lt, ge_iff_le, ne_eq, Decidable.not_not, Int.toNat_natCast, Int.toNat_zero, Int.toNat_one] at hc) <;> conv => whnf)
  · exact ⟨p + 1, by omega, by omega, Ent.re [] rfl rfl rfl rfl rfl rfl (by repeat' first | exact trivial | apply And.intro | rfl | (refine int_eq ?_; rw [wrap64] <;> omega)) (by repeat' first | exact trivial | apply And.intro | rfl | (refine int_eq ?_; rw [wrap64] <;> omega))⟩
  · exact ret_closed rfl rfl rfl
end Ex
end Go.Proofs.Ytfblaochmhhknaa

namespace Go.Proofs.Ytfblaochmhhknaa
namespace Ex
open Go Go.Mq
set_option linter.all false

theorem beq_dec' (a b : Int) : (a == b) = decide (a = b) := by by_cases h : a = b <;> simp [h]
mutual
def narrF : Tree → Tree → Bool
  | .nil, _ => false
  | .node k _ _ _ l, u => (k == u.kind) && (!(k == 162) || (decide (l.length = u.kids.length) && narrsF l u.kids))
def narrsF : List Tree → List Tree → Bool
  | [], _ => true
  | x :: l, ys => narrfF x (ys.getD 0 .nil) && narrsF l (ys.drop 1)
def narrfF : Tree → Tree → Bool
  | .nil, _ => false
  | .node _ _ nm _ l, y => decide (nm = y.name) && narrhF l (y.kids.getD 0 .nil)
def narrhF : List Tree → Tree → Bool
  | [], _ => false
  | x :: _, u => narrF x u
end
theorem narrF_eq {T : Tree} (h : T ≠ .nil) (u : Tree) : narrF T u = ((T.kind == u.kind) && (!(T.kind == 162) || (decide (T.kids.length = u.kids.length) && narrsF T.kids u.kids))) := by
  cases T with
  | nil => exact absurd rfl h
  | node => rw [narrF]; rfl
theorem narrh_eq (l : List Tree) (u : Tree) : narrhF l u = narrF (l.getD 0 .nil) u := by
  cases l with
  | nil => rw [narrhF]; simp [narrF]
  | cons x l => rw [narrhF]; simp
theorem narrfF_eq {x : Tree} (h : x ≠ .nil) (y : Tree) : narrfF x y = (decide (x.name = y.name) && narrF (x.kids.getD 0 .nil) (y.kids.getD 0 .nil)) := by
  cases x with
  | nil => exact absurd rfl h
  | node => rw [narrfF, narrh_eq]; rfl
theorem narrs_step {l ys : List Tree} {p : Nat} (h : p < l.length) : narrsF (l.drop p) (ys.drop p) = (narrfF (l.getD p .nil) (ys.getD p .nil) && narrsF (l.drop (p + 1)) (ys.drop (p + 1))) := by
  have e : (ys.drop p).getD 0 .nil = ys.getD p .nil := by simp
  rw [drop_step h, narrsF, e, List.drop_drop]
theorem narrs_end {l ys : List Tree} {p : Nat} (h : l.length ≤ p) : narrsF (l.drop p) ys = true := by
  rw [drop_end h, narrsF]

structure SigField (x : Tree) : Prop where
  ne : x ≠ .nil
  one : x.kids.length = 1
  sig : isSigF (x.kids.getD 0 .nil) = true
theorem sigField_of {x : Tree} (h : sigFieldF x = true) : SigField x := by
  have hx0 : x ≠ .nil := by intro e; subst e; rw [sigFieldF] at h; cases h
  rw [sigFieldF_eq hx0] at h
  simp only [Bool.and_eq_true, beq_iff_eq] at h
  exact ⟨hx0, by omega, h.2⟩
theorem isSigF_ne {T : Tree} (h : isSigF T = true) : T ≠ .nil := by intro e; subst e; rw [isSigF] at h; cases h
theorem isSig_fields {T : Tree} (h : isSigF T = true) (hk : T.kind = 162) : ∀ x ∈ T.kids, SigField x := by
  rw [isSigF_eq (isSigF_ne h), Bool.and_eq_true, if_neg (by omega), if_pos hk, Bool.and_eq_true] at h
  exact fun x hx => sigField_of (sigFieldsF_mem h.2.1 x hx)
theorem isSig_kind {T : Tree} (h : isSigF T = true) : (T.kind = 160 ∨ T.kind = 161) ∨ T.kind = 162 := by
  rw [isSigF_eq (isSigF_ne h), Bool.and_eq_true] at h
  obtain ⟨_, h⟩ := h
  split at h
  · exact .inl ‹_›
  · split at h
    · exact .inr ‹_›
    · cases h

def NarrP (T : Tree) : Prop := ∀ U, isSigF T = true → isSigF U = true → Pure P 60 [.d (.tree T), .d (.tree U)] (.d (.bool (narrF T U)))

set_option maxHeartbeats 4000000 in
set_option maxRecDepth 10000 in
theorem narr1_ok (x y : Tree) (hx : SigField x) (hy : SigField y) (ih : NarrP (x.kids.getD 0 .nil)) : Pure P 112 [.d (.tree x), .d (.tree y)] (.d (.bool (narrfF x y))) := by
  have hc1 := ih (y.kids.getD 0 .nil) hx.sig hy.sig
  have he := narrfF_eq hx.ne y
  have hxn := hx.ne
  have hyn := hy.ne
  have hx1 := hx.one
  have hy1 := hy.one
  refine Pure.of_body tt [] [4] Try.func112 rfl rfl rfl (Nat.le_of_ble_eq_true rfl) fun g => ?_
  by_cases hn : x.name = y.name
  · rw [decide_eq_true hn, Bool.true_and] at he
    rw [he]
    repeat' first
      | (refine then_go hm htt ?_; conv => whnf)
      | (refine Side.mk (by first | assumption | exact trivial | rfl | exact Nat.le_of_ble_eq_true rfl | omega) ?_; conv => whnf)
      | (refine Hyp.mk fun hlen => ?_; replace hlen : _ ≤ 17592186044416 := hlen; conv => whnf)
      | (refine Split.ct ?_; conv => whnf)
      | (refine Split.cf ?_; conv => whnf)
      | (refine Split.of_true (by first | rfl | assumption | ((try simp only [bytes_eq, bytes_ne, empty_bytes, bytes_bne, bytes_bne']); (try simp only [decide_eq_true_eq, decide_eq_false_iff_not, beq_iff_eq, beq_eq_false_iff_ne, bne_iff_ne, bne_eq_false_iff_eq, Bool.not_eq_true', Bool.not_eq_false', Tree.isNil_iff, Tree.isNil_not, Int.not_lt, Int.not_le, gt_iff_lt, ge_iff_le, ne_eq, Decidable.not_not, Int.toNat_natCast, Int.toNat_zero, Int.toNat_one]); first | assumption | omega)) ?_; conv => whnf)
      | (refine Split.of_false (by first | rfl | assumption | ((try simp only [bytes_eq, bytes_ne, empty_bytes, bytes_bne, bytes_bne']); (try simp only [decide_eq_true_eq, decide_eq_false_iff_not, beq_iff_eq, beq_eq_false_iff_ne, bne_iff_ne, bne_eq_false_iff_eq, Bool.not_eq_true', Bool.not_eq_false', Tree.isNil_iff, Tree.isNil_not, Int.not_lt, Int.not_le, gt_iff_lt, ge_iff_le, ne_eq, Decidable.not_not, Int.toNat_natCast, Int.toNat_zero, Int.toNat_one]); first | assumption | omega)) ?_; conv => whnf)
      | (refine Indep.mk (by kernel_rfl) ?_; conv => whnf)
      | (refine Split.of_true (bytes_eq.2 hn) ?_; conv => whnf)
      | (refine Side.mk hxn ?_; conv => whnf)
      | (refine Side.mk hyn ?_; conv => whnf)
      | (refine Side.mk (show (0 : Int) ≤ 0 ∧ (0 : Int) < (x.kids.length : Int) from ⟨by omega, by omega⟩) ?_; conv => whnf)
      | (refine Side.mk (show (0 : Int) ≤ 0 ∧ (0 : Int) < (y.kids.length : Int) from ⟨by omega, by omega⟩) ?_; conv => whnf)
      | (refine CallG.pure hc1 rfl ?_; conv => whnf)
      | (refine Split.mk (fun hc => ?_) (fun hc => ?_) <;> (try simp only [bytes_eq, bytes_ne, empty_bytes, bytes_bne, bytes_bne'] at hc) <;> (try simp only [decide_eq_true_eq, decide_eq_false_iff_not, beq_iff_eq, beq_eq_false_iff_ne, bne_iff_ne, bne_eq_false_iff_eq, Bool.not_eq_true', Bool.not_eq_false', Tree.isNil_iff, Tree.isNil_not, Int.not_lt, Int.not_le, gt_iff_lt, ge_iff_le, ne_eq, Decidable.not_not, Int.toNat_natCast, Int.toNat_zero, Int.toNat_one] at hc) <;> conv => whnf)
    all_goals first | exact ret_closed rfl (bool_eq rfl) rfl | (exfalso; exact hc hn)
  · rw [decide_eq_false hn, Bool.false_and] at he
    rw [he]
    repeat' first
      | (refine then_go hm htt ?_; conv => whnf)
      | (refine Side.mk (by first | assumption | exact trivial | rfl | exact Nat.le_of_ble_eq_true rfl | omega) ?_; conv => whnf)
      | (refine Hyp.mk fun hlen => ?_; replace hlen : _ ≤ 17592186044416 := hlen; conv => whnf)
      | (refine Split.ct ?_; conv => whnf)
      | (refine Split.cf ?_; conv => whnf)
      | (refine Split.of_true (by first | rfl | assumption | ((try simp only [bytes_eq, bytes_ne, empty_bytes, bytes_bne, bytes_bne']); (try simp only [decide_eq_true_eq, decide_eq_false_iff_not, beq_iff_eq, beq_eq_false_iff_ne, bne_iff_ne, bne_eq_false_iff_eq, Bool.not_eq_true', Bool.not_eq_false', Tree.isNil_iff, Tree.isNil_not, Int.not_lt, Int.not_le, gt_iff_lt, ge_iff_le, ne_eq, Decidable.not_not, Int.toNat_natCast, Int.toNat_zero, Int.toNat_one]); first | assumption | omega)) ?_; conv => whnf)
      | (refine Split.of_false (by first | rfl | assumption | ((try simp only [bytes_eq, bytes_ne, empty_bytes, bytes_bne, bytes_bne']); (try simp only [decide_eq_true_eq, decide_eq_false_iff_not, beq_iff_eq, beq_eq_false_iff_ne, bne_iff_ne, bne_eq_false_iff_eq, Bool.not_eq_true', Bool.not_eq_false', Tree.isNil_iff, Tree.isNil_not, Int.not_lt, Int.not_le, gt_iff_lt, ge_iff_le, ne_eq, Decidable.not_not, Int.toNat_natCast, Int.toNat_zero, Int.toNat_one]); first | assumption | omega)) ?_; conv => whnf)
      | (refine Indep.mk (by kernel_rfl) ?_; conv => whnf)
      | (refine Split.of_false (bytes_bne'.2 hn) ?_; conv => whnf)
      | (refine Side.mk hxn ?_; conv => whnf)
      | (refine Side.mk hyn ?_; conv => whnf)
      | (refine Split.mk (fun hc => ?_) (fun hc => ?_) <;> (try simp only [bytes_eq, bytes_ne, empty_bytes, bytes_bne, bytes_bne'] at hc) <;> (try simp only [decide_eq_true_eq, decide_eq_false_iff_not, beq_iff_eq, beq_eq_false_iff_ne, bne_iff_ne, bne_eq_false_iff_eq, Bool.not_eq_true', Bool.not_eq_false', Tree.isNil_iff, Tree.isNil_not, Int.not_lt, Int.not_le, gt_iff_lt, ge_iff_le, ne_eq, Decidable.not_not, Int.toNat_natCast, Int.toNat_zero, Int.toNat_one] at hc) <;> conv => whnf)
    all_goals first | exact ret_closed rfl (bool_eq rfl) rfl | (exfalso; exact hn hc)

set_option maxHeartbeats 4000000 in
set_option maxRecDepth 10000 in
theorem eqNarr_ok (l l' : List Tree) (hx : ∀ x ∈ l, SigField x) (hy : ∀ x ∈ l', SigField x) (ih : ∀ x ∈ l, NarrP (x.kids.getD 0 .nil)) :
    Pure P 66 [.d (.trees l), .d (.trees l'), .fn 112 []] (.d (.bool (decide (l.length = l'.length) && narrsF l l'))) := by
  refine Pure.of_body tt [] [6] (Try.func66) rfl rfl rfl (Nat.le_of_ble_eq_true rfl) fun g => ?_
  by_cases hl : l.length = l'.length
  · rw [decide_eq_true hl, Bool.true_and]
    repeat' first
      | (refine then_go hm htt ?_; conv => whnf)
      | (refine Side.mk (by first | assumption | exact trivial | rfl | exact Nat.le_of_ble_eq_true rfl | omega) ?_; conv => whnf)
      | (refine Hyp.mk fun hlen => ?_; replace hlen : _ ≤ 17592186044416 := hlen; conv => whnf)
      | (refine Split.ct ?_; conv => whnf)
      | (refine Split.cf ?_; conv => whnf)
      | (refine Split.of_true (by first | rfl | assumption | ((try simp only [bytes_eq, bytes_ne, empty_bytes, bytes_bne, bytes_bne']); (try simp only [decide_eq_true_eq, decide_eq_false_iff_not, beq_iff_eq, beq_eq_false_iff_ne, bne_iff_ne, bne_eq_false_iff_eq, Bool.not_eq_true', Bool.not_eq_false', Tree.isNil_iff, Tree.isNil_not, Int.not_lt, Int.not_le, gt_iff_lt, ge_iff_le, ne_eq, Decidable.not_not, Int.toNat_natCast, Int.toNat_zero, Int.toNat_one]); first | assumption | omega)) ?_; conv => whnf)
      | (refine Split.of_false (by first | rfl | assumption | ((try simp only [bytes_eq, bytes_ne, empty_bytes, bytes_bne, bytes_bne']); (try simp only [decide_eq_true_eq, decide_eq_false_iff_not, beq_iff_eq, beq_eq_false_iff_ne, bne_iff_ne, bne_eq_false_iff_eq, Bool.not_eq_true', Bool.not_eq_false', Tree.isNil_iff, Tree.isNil_not, Int.not_lt, Int.not_le, gt_iff_lt, ge_iff_le, ne_eq, Decidable.not_not, Int.toNat_natCast, Int.toNat_zero, Int.toNat_one]); first | assumption | omega)) ?_; conv => whnf)
      | (refine Indep.mk (by kernel_rfl) ?_; conv => whnf)
      | (refine Split.mk (fun hc => ?_) (fun hc => ?_) <;> (try simp only [bytes_eq, bytes_ne, empty_bytes, bytes_bne, bytes_bne'] at hc) <;> (try simp only [decide_eq_true_eq, decide_eq_false_iff_not, beq_iff_eq, beq_eq_false_iff_ne, bne_iff_ne, bne_eq_false_iff_eq, Bool.not_eq_true', Bool.not_eq_false', Tree.isNil_iff, Tree.isNil_not, Int.not_lt, Int.not_le, gt_iff_lt, ge_iff_le, ne_eq, Decidable.not_not, Int.toNat_natCast, Int.toNat_zero, Int.toNat_one] at hc) <;> conv => whnf)
    refine loop_go (α := Nat) (fun p => ⟨[(1, .d (.trees l')), (2, .fn 112 []), (15, .d (.trees l)), (16, .d (.int .i64 l.length)), (17, .d (.int .i64 p))], 32, [], 0, g⟩) (fun p => p ≤ l.length ∧ narrsF (l.drop p) (l'.drop p) = narrsF l l') (fun p => l.length - p) 0 ⟨by omega, rfl⟩
      (Ent.re [] rfl rfl rfl rfl rfl rfl (by repeat' first | exact trivial | apply And.intro | rfl | (refine int_eq ?_; rw [wrap64] <;> omega)) (by repeat' first | exact trivial | apply And.intro | rfl | (refine int_eq ?_; rw [wrap64] <;> omega))) (fun _ => rfl) fun p hpre => ?_
    obtain ⟨hp1, hp2⟩ := hpre
    by_cases hlt : p < l.length
    · have hgm := getD_mem hlt
      have hgy := getD_mem (show p < l'.length by omega)
      have h1 := narr1_ok _ _ (hx _ hgm) (hy _ hgy) (ih _ hgm)
      rw [narrs_step hlt] at hp2
      generalize narrfF (l.getD p .nil) (l'.getD p .nil) = R at h1 hp2
      cases R with
      | true =>
        repeat' first
          | (refine then_go hm htt ?_; conv => whnf)
          | (refine Side.mk (by first | assumption | exact trivial | rfl | exact Nat.le_of_ble_eq_true rfl | omega) ?_; conv => whnf)
          | (refine Hyp.mk fun hlen => ?_; replace hlen : _ ≤ 17592186044416 := hlen; conv => whnf)
          | (refine Split.ct ?_; conv => whnf)
          | (refine Split.cf ?_; conv => whnf)
          | (refine Split.of_true (by first | rfl | assumption | ((try simp only [bytes_eq, bytes_ne, empty_bytes, bytes_bne, bytes_bne']); (try simp only [decide_eq_true_eq, decide_eq_false_iff_not, beq_iff_eq, beq_eq_false_iff_ne, bne_iff_ne, bne_eq_false_iff_eq, Bool.not_eq_true', Bool.not_eq_false', Tree.isNil_iff, Tree.isNil_not, Int.not_lt, Int.not_le, gt_iff_lt, ge_iff_le, ne_eq, Decidable.not_not, Int.toNat_natCast, Int.toNat_zero, Int.toNat_one]); first | assumption | omega)) ?_; conv => whnf)
          | (refine Split.of_false (by first | rfl | assumption | ((try simp only [bytes_eq, bytes_ne, empty_bytes, bytes_bne, bytes_bne']); (try simp only [decide_eq_true_eq, decide_eq_false_iff_not, beq_iff_eq, beq_eq_false_iff_ne, bne_iff_ne, bne_eq_false_iff_eq, Bool.not_eq_true', Bool.not_eq_false', Tree.isNil_iff, Tree.isNil_not, Int.not_lt, Int.not_le, gt_iff_lt, ge_iff_le, ne_eq, Decidable.not_not, Int.toNat_natCast, Int.toNat_zero, Int.toNat_one]); first | assumption | omega)) ?_; conv => whnf)
          | (refine Indep.mk (by kernel_rfl) ?_; conv => whnf)
          | (refine Side.mk (show (0 : Int) ≤ (p : Int) ∧ (p : Int) < (l.length : Int) from ⟨by omega, by omega⟩) ?_; conv => whnf)
          | (refine Side.mk (show (0 : Int) ≤ (p : Int) ∧ (p : Int) < (l'.length : Int) from ⟨by omega, by omega⟩) ?_; conv => whnf)
          | (refine CallG.pure h1 rfl ?_; conv => whnf)
          | (refine Split.mk (fun hc => ?_) (fun hc => ?_) <;> (try simp only [bytes_eq, bytes_ne, empty_bytes, bytes_bne, bytes_bne'] at hc) <;> (try simp only [decide_eq_true_eq, decide_eq_false_iff_not, beq_iff_eq, beq_eq_false_iff_ne, bne_iff_ne, bne_eq_false_iff_eq, Bool.not_eq_true', Bool.not_eq_false', Tree.isNil_iff, Tree.isNil_not, Int.not_lt, Int.not_le, gt_iff_lt, ge_iff_le, ne_eq, Decidable.not_not, Int.toNat_natCast, Int.toNat_zero, Int.toNat_one] at hc) <;> conv => whnf)
        exact ⟨p + 1, ⟨by omega, by rw [← hp2]; rfl⟩, by omega, Ent.re [] rfl rfl rfl rfl rfl rfl (by repeat' first | exact trivial | apply And.intro | rfl | (refine int_eq ?_; rw [wrap64] <;> omega)) (by repeat' first | exact trivial | apply And.intro | rfl | (refine int_eq ?_; rw [wrap64] <;> omega))⟩
      | false =>
        repeat' first
          | (refine then_go hm htt ?_; conv => whnf)
          | (refine Side.mk (by first | assumption | exact trivial | rfl | exact Nat.le_of_ble_eq_true rfl | omega) ?_; conv => whnf)
          | (refine Hyp.mk fun hlen => ?_; replace hlen : _ ≤ 17592186044416 := hlen; conv => whnf)
          | (refine Split.ct ?_; conv => whnf)
          | (refine Split.cf ?_; conv => whnf)
          | (refine Split.of_true (by first | rfl | assumption | ((try simp only [bytes_eq, bytes_ne, empty_bytes, bytes_bne, bytes_bne']); (try simp only [decide_eq_true_eq, decide_eq_false_iff_not, beq_iff_eq, beq_eq_false_iff_ne, bne_iff_ne, bne_eq_false_iff_eq, Bool.not_eq_true', Bool.not_eq_false', Tree.isNil_iff, Tree.isNil_not, Int.not_lt, Int.not_le, gt_iff_lt, ge_iff_le, ne_eq, Decidable.not_not, Int.toNat_natCast, Int.toNat_zero, Int.toNat_one]); first | assumption | omega)) ?_; conv => whnf)
          | (refine Split.of_false (by first | rfl | assumption | ((try simp only [bytes_eq, bytes_ne, empty_bytes, bytes_bne, bytes_bne']); (try simp only [decide_eq_true_eq, decide_eq_false_iff_not, beq_iff_eq, beq_eq_false_iff_ne, bne_iff_ne, bne_eq_false_iff_eq, Bool.not_eq_true', Bool.not_eq_false', Tree.isNil_iff, Tree.isNil_not, Int.not_lt, Int.not_le, gt_iff_lt, ge_iff_le, ne_eq, Decidable.not_not, Int.toNat_natCast, Int.toNat_zero, Int.toNat_one]); first | assumption | omega)) ?_; conv => whnf)
          | (refine Indep.mk (by kernel_rfl) ?_; conv => whnf)
          | (refine Side.mk (show (0 : Int) ≤ (p : Int) ∧ (p : Int) < (l.length : Int) from ⟨by omega, by omega⟩) ?_; conv => whnf)
          | (refine Side.mk (show (0 : Int) ≤ (p : Int) ∧ (p : Int) < (l'.length : Int) from ⟨by omega, by omega⟩) ?_; conv => whnf)
          | (refine CallG.pure h1 rfl ?_; conv => whnf)
          | (refine Split.mk (fun hc => ?_) (fun hc => ?_) <;> (try simp only [bytes_eq, bytes_ne, empty_bytes, bytes_bne, bytes_bne'] at hc) <;> (try simp only [decide_eq_true_eq, decide_eq_false_iff_not, beq_iff_eq, beq_eq_false_iff_ne, bne_iff_ne, bne_eq_false_iff_eq, Bool.not_eq_true', Bool.not_eq_false', Tree.isNil_iff, Tree.isNil_not, Int.not_lt, Int.not_le, gt_iff_lt, ge_iff_le, ne_eq, Decidable.not_not, Int.toNat_natCast, Int.toNat_zero, Int.toNat_one] at hc) <;> conv => whnf)
        exact ret_closed rfl (bool_eq (by rw [← hp2]; rfl)) rfl
    · rw [narrs_end (by omega)] at hp2
      repeat' first
        | (refine then_go hm htt ?_; conv => whnf)
        | (refine Side.mk (by first | assumption | exact trivial | rfl | exact Nat.le_of_ble_eq_true rfl | omega) ?_; conv => whnf)
        | (refine Hyp.mk fun hlen => ?_; replace hlen : _ ≤ 17592186044416 := hlen; conv => whnf)
        | (refine Split.ct ?_; conv => whnf)
        | (refine Split.cf ?_; conv => whnf)
        | (refine Split.of_true (by first | rfl | assumption | ((try simp only [bytes_eq, bytes_ne, empty_bytes, bytes_bne, bytes_bne']); (try simp only [decide_eq_true_eq, decide_eq_false_iff_not, beq_iff_eq, beq_eq_false_iff_ne, bne_iff_ne, bne_eq_false_iff_eq, Bool.not_eq_true', Bool.not_eq_false', Tree.isNil_iff, Tree.isNil_not, Int.not_lt, Int.not_le, gt_iff_lt, ge_iff_le, ne_eq, Decidable.not_not, Int.toNat_natCast, Int.toNat_zero, Int.toNat_one]); first | assumption | omega)) ?_; conv => whnf)
        | (refine Split.of_false (by first | rfl | assumption | ((try simp only [bytes_eq, bytes_ne, empty_bytes, bytes_bne, bytes_bne']); (try simp only [decide_eq_true_eq, decide_eq_false_iff_not, beq_iff_eq, beq_eq_false_iff_ne, bne_iff_ne, bne_eq_false_iff_eq, Bool.not_eq_true', Bool.not_eq_false', Tree.isNil_iff, Tree.isNil_not, Int.not_lt, Int.not_le, gt_iff_lt, ge_iff_le, ne_eq, Decidable.not_not, Int.toNat_natCast, Int.toNat_zero, Int.toNat_one]); first | assumption | omega)) ?_; conv => whnf)
        | (refine Indep.mk (by kernel_rfl) ?_; conv => whnf)
        | (refine Split.mk (fun hc => ?_) (fun hc => ?_) <;> (try simp only [bytes_eq, bytes_ne, empty_bytes, bytes_bne, bytes_bne'] at hc) <;> (try simp only [decide_eq_true_eq, decide_eq_false_iff_not, beq_iff_eq, beq_eq_false_iff_ne, bne_iff_ne, bne_eq_false_iff_eq, Bool.not_eq_true', Bool.not_eq_false', Tree.isNil_iff, Tree.isNil_not, Int.not_lt, Int.not_le, gt_iff_lt, ge_iff_le, ne_eq, Decidable.not_not, Int.toNat_natCast, Int.toNat_zero, Int.toNat_one] at hc) <;> conv => whnf)
      exact ret_closed rfl (bool_eq hp2) rfl
  · rw [decide_eq_false hl, Bool.false_and]
    repeat' first
      | (refine then_go hm htt ?_; conv => whnf)
      | (refine Side.mk (by first | assumption | exact trivial | rfl | exact Nat.le_of_ble_eq_true rfl | omega) ?_; conv => whnf)
      | (refine Hyp.mk fun hlen => ?_; replace hlen : _ ≤ 17592186044416 := hlen; conv => whnf)
      | (refine Split.ct ?_; conv => whnf)
      | (refine Split.cf ?_; conv => whnf)
      | (refine Split.of_true (by first | rfl | assumption | ((try simp only [bytes_eq, bytes_ne, empty_bytes, bytes_bne, bytes_bne']); (try simp only [decide_eq_true_eq, decide_eq_false_iff_not, beq_iff_eq, beq_eq_false_iff_ne, bne_iff_ne, bne_eq_false_iff_eq, Bool.not_eq_true', Bool.not_eq_false', Tree.isNil_iff, Tree.isNil_not, Int.not_lt, Int.not_le, gt_iff_lt, ge_iff_le, ne_eq, Decidable.not_not, Int.toNat_natCast, Int.toNat_zero, Int.toNat_one]); first | assumption | omega)) ?_; conv => whnf)
      | (refine Split.of_false (by first | rfl | assumption | ((try simp only [bytes_eq, bytes_ne, empty_bytes, bytes_bne, bytes_bne']); (try simp only [decide_eq_true_eq, decide_eq_false_iff_not, beq_iff_eq, beq_eq_false_iff_ne, bne_iff_ne, bne_eq_false_iff_eq, Bool.not_eq_true', Bool.not_eq_false', Tree.isNil_iff, Tree.isNil_not, Int.not_lt, Int.not_le, gt_iff_lt, ge_iff_le, ne_eq, Decidable.not_not, Int.toNat_natCast, Int.toNat_zero, Int.toNat_one]); first | assumption | omega)) ?_; conv => whnf)
      | (refine Indep.mk (by kernel_rfl) ?_; conv => whnf)
      | (refine Split.mk (fun hc => ?_) (fun hc => ?_) <;> (try simp only [bytes_eq, bytes_ne, empty_bytes, bytes_bne, bytes_bne'] at hc) <;> (try simp only [decide_eq_true_eq, decide_eq_false_iff_not, beq_iff_eq, beq_eq_false_iff_ne, bne_iff_ne, bne_eq_false_iff_eq, Bool.not_eq_true', Bool.not_eq_false', Tree.isNil_iff, Tree.isNil_not, Int.not_lt, Int.not_le, gt_iff_lt, ge_iff_le, ne_eq, Decidable.not_not, Int.toNat_natCast, Int.toNat_zero, Int.toNat_one] at hc) <;> conv => whnf)
    exact ret_closed rfl rfl rfl

set_option maxHeartbeats 4000000 in
set_option maxRecDepth 10000 in
theorem narrow_ok (T : Tree) : NarrP T := by
  suffices h : NarrP T ∧ ∀ x ∈ T.kids, NarrP x from h.1
  induction T using Tree.ind' with
  | h0 => exact ⟨fun U h => absurd rfl (isSigF_ne h), fun x hx => (by cases hx)⟩
  | h1 T hT ih => ?_
  refine ⟨?_, fun x hx => (ih x hx).1⟩
  intro U hsT hsU
  have hU := isSigF_ne hsU
  have he := narrF_eq hT U
  refine Pure.of_body tt [] [4] Try.func60 rfl rfl rfl (Nat.le_of_ble_eq_true rfl) fun g => ?_
  by_cases hk : T.kind = U.kind
  · by_cases h2 : T.kind = 162
    · have hfT := isSig_fields hsT h2
      have hq := eqNarr_ok T.kids U.kids hfT (isSig_fields hsU (by omega)) (fun x hx => (ih x hx).2 _ (getD_mem (by rw [(hfT x hx).one]; omega)))
      have he : narrF T U = (decide (T.kids.length = U.kids.length) && narrsF T.kids U.kids) := by rw [he, beq_iff_eq.2 hk, beq_iff_eq.2 h2]; rfl
      rw [← he] at hq
      repeat' first
        | (refine then_go hm htt ?_; conv => whnf)
        | (refine Side.mk (by first | assumption | exact trivial | rfl | exact Nat.le_of_ble_eq_true rfl | omega) ?_; conv => whnf)
        | (refine Hyp.mk fun hlen => ?_; replace hlen : _ ≤ 17592186044416 := hlen; conv => whnf)
        | (refine Split.ct ?_; conv => whnf)
        | (refine Split.cf ?_; conv => whnf)
        | (refine Split.of_true (by first | rfl | assumption | ((try simp only [bytes_eq, bytes_ne, empty_bytes, bytes_bne, bytes_bne']); (try simp only [decide_eq_true_eq, decide_eq_false_iff_not, beq_iff_eq, beq_eq_false_iff_ne, bne_iff_ne, bne_eq_false_iff_eq, Bool.not_eq_true', Bool.not_eq_false', Tree.isNil_iff, Tree.isNil_not, Int.not_lt, Int.not_le, gt_iff_lt, ge_iff_le, ne_eq, Decidable.not_not, Int.toNat_natCast, Int.toNat_zero, Int.toNat_one]); first | assumption | omega)) ?_; conv => whnf)
        | (refine Split.of_false (by first | rfl | assumption | ((try simp only [bytes_eq, bytes_ne, empty_bytes, bytes_bne, bytes_bne']); (try simp only [decide_eq_true_eq, decide_eq_false_iff_not, beq_iff_eq, beq_eq_false_iff_ne, bne_iff_ne, bne_eq_false_iff_eq, Bool.not_eq_true', Bool.not_eq_false', Tree.isNil_iff, Tree.isNil_not, Int.not_lt, Int.not_le, gt_iff_lt, ge_iff_le, ne_eq, Decidable.not_not, Int.toNat_natCast, Int.toNat_zero, Int.toNat_one]); first | assumption | omega)) ?_; conv => whnf)
        | (refine Indep.mk (by kernel_rfl) ?_; conv => whnf)
        | (refine CallG.pure hq rfl ?_; conv => whnf)
        | (refine Split.mk (fun hc => ?_) (fun hc => ?_) <;> (try simp only [bytes_eq, bytes_ne, empty_bytes, bytes_bne, bytes_bne'] at hc) <;> (try simp only [decide_eq_true_eq, decide_eq_false_iff_not, beq_iff_eq, beq_eq_false_iff_ne, bne_iff_ne, bne_eq_false_iff_eq, Bool.not_eq_true', Bool.not_eq_false', Tree.isNil_iff, Tree.isNil_not, Int.not_lt, Int.not_le, gt_iff_lt, ge_iff_le, ne_eq, Decidable.not_not, Int.toNat_natCast, Int.toNat_zero, Int.toNat_one] at hc) <;> conv => whnf)
      exact ret_closed rfl rfl rfl
    · have he : narrF T U = true := by rw [he, beq_iff_eq.2 hk, beq_eq_false_iff_ne.2 h2]; rfl
      rw [he]
      repeat' first
        | (refine then_go hm htt ?_; conv => whnf)
        | (refine Side.mk (by first | assumption | exact trivial | rfl | exact Nat.le_of_ble_eq_true rfl | omega) ?_; conv => whnf)
        | (refine Hyp.mk fun hlen => ?_; replace hlen : _ ≤ 17592186044416 := hlen; conv => whnf)
        | (refine Split.ct ?_; conv => whnf)
        | (refine Split.cf ?_; conv => whnf)
        | (refine Split.of_true (by first | rfl | assumption | ((try simp only [bytes_eq, bytes_ne, empty_bytes, bytes_bne, bytes_bne']); (try simp only [decide_eq_true_eq, decide_eq_false_iff_not, beq_iff_eq, beq_eq_false_iff_ne, bne_iff_ne, bne_eq_false_iff_eq, Bool.not_eq_true', Bool.not_eq_false', Tree.isNil_iff, Tree.isNil_not, Int.not_lt, Int.not_le, gt_iff_lt, ge_iff_le, ne_eq, Decidable.not_not, Int.toNat_natCast, Int.toNat_zero, Int.toNat_one]); first | assumption | omega)) ?_; conv => whnf)
        | (refine Split.of_false (by first | rfl | assumption | ((try simp only [bytes_eq, bytes_ne, empty_bytes, bytes_bne, bytes_bne']); (try simp only [decide_eq_true_eq, decide_eq_false_iff_not, beq_iff_eq, beq_eq_false_iff_ne, bne_iff_ne, bne_eq_false_iff_eq, Bool.not_eq_true', Bool.not_eq_false', Tree.isNil_iff, Tree.isNil_not, Int.not_lt, Int.not_le, gt_iff_lt, ge_iff_le, ne_eq, Decidable.not_not, Int.toNat_natCast, Int.toNat_zero, Int.toNat_one]); first | assumption | omega)) ?_; conv => whnf)
        | (refine Indep.mk (by kernel_rfl) ?_; conv => whnf)
        | (refine Split.mk (fun hc => ?_) (fun hc => ?_) <;> (try simp only [bytes_eq, bytes_ne, empty_bytes, bytes_bne, bytes_bne'] at hc) <;> (try simp only [decide_eq_true_eq, decide_eq_false_iff_not, beq_iff_eq, beq_eq_false_iff_ne, bne_iff_ne, bne_eq_false_iff_eq, Bool.not_eq_true', Bool.not_eq_false', Tree.isNil_iff, Tree.isNil_not, Int.not_lt, Int.not_le, gt_iff_lt, ge_iff_le, ne_eq, Decidable.not_not, Int.toNat_natCast, Int.toNat_zero, Int.toNat_one] at hc) <;> conv => whnf)
      exact ret_closed rfl rfl rfl
  · have he : narrF T U = false := by rw [he]; simp [hk]
    rw [he]
    repeat' first
      | (refine then_go hm htt ?_; conv => whnf)
      | (refine Side.mk (by first | assumption | exact trivial | rfl | exact Nat.le_of_ble_eq_true rfl | omega) ?_; conv => whnf)
      | (refine Hyp.mk fun hlen => ?_; replace hlen : _ ≤ 17592186044416 := hlen; conv => whnf)
      | (refine Split.ct ?_; conv => whnf)
      | (refine Split.cf ?_; conv => whnf)
      | (refine Split.of_true (by first | rfl | assumption | ((try simp only [bytes_eq, bytes_ne, empty_bytes, bytes_bne, bytes_bne']); (try simp only [decide_eq_true_eq, decide_eq_false_iff_not, beq_iff_eq, beq_eq_false_iff_ne, bne_iff_ne, bne_eq_false_iff_eq, Bool.not_eq_true', Bool.not_eq_false', Tree.isNil_iff, Tree.isNil_not, Int.not_lt, Int.not_le, gt_iff_lt, ge_iff_le, ne_eq, Decidable.not_not, Int.toNat_natCast, Int.toNat_zero, Int.toNat_one]); first | assumption | omega)) ?_; conv => whnf)
      | (refine Split.of_false (by first | rfl | assumption | ((try simp only [bytes_eq, bytes_ne, empty_bytes, bytes_bne, bytes_bne']); (try simp only [decide_eq_true_eq, decide_eq_false_iff_not, beq_iff_eq, beq_eq_false_iff_ne, bne_iff_ne, bne_eq_false_iff_eq, Bool.not_eq_true', Bool.not_eq_false', Tree.isNil_iff, Tree.isNil_not, Int.not_lt, Int.not_le, gt_iff_lt, ge_iff_le, ne_eq, Decidable.not_not, Int.toNat_natCast, Int.toNat_zero, Int.toNat_one]); first | assumption | omega)) ?_; conv => whnf)
      | (refine Indep.mk (by kernel_rfl) ?_; conv => whnf)
      | (refine Split.mk (fun hc => ?_) (fun hc => ?_) <;> (try simp only [bytes_eq, bytes_ne, empty_bytes, bytes_bne, bytes_bne'] at hc) <;> (try simp only [decide_eq_true_eq, decide_eq_false_iff_not, beq_iff_eq, beq_eq_false_iff_ne, bne_iff_ne, bne_eq_false_iff_eq, Bool.not_eq_true', Bool.not_eq_false', Tree.isNil_iff, Tree.isNil_not, Int.not_lt, Int.not_le, gt_iff_lt, ge_iff_le, ne_eq, Decidable.not_not, Int.toNat_natCast, Int.toNat_zero, Int.toNat_one] at hc) <;> conv => whnf)
    exact ret_closed rfl rfl rfl

def RNarrP (T : Tree) : Prop := ∀ U, isSigF T = true → isSigF U = true → Pure P 62 [.d (.tree T), .d (.tree U)] (.d (.bool (narrF T U)))
set_option maxHeartbeats 4000000 in
set_option maxRecDepth 10000 in
theorem labels_ok (T : Tree) : RNarrP T := by
  suffices h : RNarrP T ∧ ∀ x ∈ T.kids, RNarrP x from h.1
  induction T using Tree.ind' with
  | h0 => exact ⟨fun U h => absurd rfl (isSigF_ne h), fun x hx => (by cases hx)⟩
  | h1 T hT ih => ?_
  refine ⟨?_, fun x hx => (ih x hx).1⟩
  intro U hsT hsU
  have hU := isSigF_ne hsU
  have he := narrF_eq hT U
  refine Pure.of_body tt [] [4] Try.func62 rfl rfl rfl (Nat.le_of_ble_eq_true rfl) fun g => ?_
  by_cases hk : T.kind = U.kind
  · by_cases h2 : T.kind = 162
    · have hfT := isSig_fields hsT h2
      have hfU := isSig_fields hsU (by omega)
      have he : narrF T U = (decide (T.kids.length = U.kids.length) && narrsF T.kids U.kids) := by rw [he, beq_iff_eq.2 hk, beq_iff_eq.2 h2]; rfl
      by_cases hl : T.kids.length = U.kids.length
      · rw [decide_eq_true hl, Bool.true_and] at he
        repeat' first
          | (refine then_go hm htt ?_; conv => whnf)
          | (refine Side.mk (by first | assumption | exact trivial | rfl | exact Nat.le_of_ble_eq_true rfl | omega) ?_; conv => whnf)
          | (refine Hyp.mk fun hlen => ?_; replace hlen : _ ≤ 17592186044416 := hlen; conv => whnf)
          | (refine Split.ct ?_; conv => whnf)
          | (refine Split.cf ?_; conv => whnf)
          | (refine Split.of_true (by first | rfl | assumption | ((try simp only [bytes_eq, bytes_ne, empty_bytes, bytes_bne, bytes_bne']); (try simp only [decide_eq_true_eq, decide_eq_false_iff_not, beq_iff_eq, beq_eq_false_iff_ne, bne_iff_ne, bne_eq_false_iff_eq, Bool.not_eq_true', Bool.not_eq_false', Tree.isNil_iff, Tree.isNil_not, Int.not_lt, Int.not_le, gt_iff_lt, ge_iff_le, ne_eq, Decidable.not_not, Int.toNat_natCast, Int.toNat_zero, Int.toNat_one]); first | assumption | omega)) ?_; conv => whnf)
          | (refine Split.of_false (by first | rfl | assumption | ((try simp only [bytes_eq, bytes_ne, empty_bytes, bytes_bne, bytes_bne']); (try simp only [decide_eq_true_eq, decide_eq_false_iff_not, beq_iff_eq, beq_eq_false_iff_ne, bne_iff_ne, bne_eq_false_iff_eq, Bool.not_eq_true', Bool.not_eq_false', Tree.isNil_iff, Tree.isNil_not, Int.not_lt, Int.not_le, gt_iff_lt, ge_iff_le, ne_eq, Decidable.not_not, Int.toNat_natCast, Int.toNat_zero, Int.toNat_one]); first | assumption | omega)) ?_; conv => whnf)
          | (refine Indep.mk (by kernel_rfl) ?_; conv => whnf)
          | (refine Split.mk (fun hc => ?_) (fun hc => ?_) <;> (try simp only [bytes_eq, bytes_ne, empty_bytes, bytes_bne, bytes_bne'] at hc) <;> (try simp only [decide_eq_true_eq, decide_eq_false_iff_not, beq_iff_eq, beq_eq_false_iff_ne, bne_iff_ne, bne_eq_false_iff_eq, Bool.not_eq_true', Bool.not_eq_false', Tree.isNil_iff, Tree.isNil_not, Int.not_lt, Int.not_le, gt_iff_lt, ge_iff_le, ne_eq, Decidable.not_not, Int.toNat_natCast, Int.toNat_zero, Int.toNat_one] at hc) <;> conv => whnf)
        refine loop_go (α := Nat) (fun p => ⟨[(0, .d (.tree T)), (1, .d (.tree U)), (5, .d (.int .i64 p))], 89, [], 0, g⟩) (fun p => p ≤ T.kids.length ∧ narrsF (T.kids.drop p) (U.kids.drop p) = narrF T U) (fun p => T.kids.length - p) 0 ⟨by omega, he.symm⟩
          (Ent.re [] rfl rfl rfl rfl rfl rfl (by repeat' first | exact trivial | apply And.intro | rfl | (refine int_eq ?_; rw [wrap64] <;> omega)) (by repeat' first | exact trivial | apply And.intro | rfl | (refine int_eq ?_; rw [wrap64] <;> omega))) (fun _ => rfl) fun p hpre => ?_
        obtain ⟨hp1, hp2⟩ := hpre
        by_cases hlt : p < T.kids.length
        · have hgm := getD_mem hlt
          have hgy := getD_mem (show p < U.kids.length by omega)
          obtain ⟨hxn, hx1, hxs⟩ := hfT _ hgm
          obtain ⟨hyn, hy1, hys⟩ := hfU _ hgy
          have hc1 := (ih _ hgm).2 _ (getD_mem (show 0 < (T.kids.getD p .nil).kids.length by omega)) _ hxs hys
          rw [narrs_step hlt, narrfF_eq hxn] at hp2
          by_cases hn : (T.kids.getD p .nil).name = (U.kids.getD p .nil).name
          · rw [decide_eq_true hn, Bool.true_and] at hp2
            generalize narrF ((T.kids.getD p .nil).kids.getD 0 .nil) ((U.kids.getD p .nil).kids.getD 0 .nil) = R at hc1 hp2
            cases R with
            | true =>
              repeat' first
                | (refine then_go hm htt ?_; conv => whnf)
                | (refine Side.mk (by first | assumption | exact trivial | rfl | exact Nat.le_of_ble_eq_true rfl | omega) ?_; conv => whnf)
                | (refine Hyp.mk fun hlen => ?_; replace hlen : _ ≤ 17592186044416 := hlen; conv => whnf)
                | (refine Split.ct ?_; conv => whnf)
                | (refine Split.cf ?_; conv => whnf)
                | (refine Split.of_true (by first | rfl | assumption | ((try simp only [bytes_eq, bytes_ne, empty_bytes, bytes_bne, bytes_bne']); (try simp only [decide_eq_true_eq, decide_eq_false_iff_not, beq_iff_eq, beq_eq_false_iff_ne, bne_iff_ne, bne_eq_false_iff_eq, Bool.not_eq_true', Bool.not_eq_false', Tree.isNil_iff, Tree.isNil_not, Int.not_lt, Int.not_le, gt_iff_lt, ge_iff_le, ne_eq, Decidable.not_not, Int.toNat_natCast, Int.toNat_zero, Int.toNat_one]); first | assumption | omega)) ?_; conv => whnf)
                | (refine Split.of_false (by first | rfl | assumption | ((try simp only [bytes_eq, bytes_ne, empty_bytes, bytes_bne, bytes_bne']); (try simp only [decide_eq_true_eq, decide_eq_false_iff_not, beq_iff_eq, beq_eq_false_iff_ne, bne_iff_ne, bne_eq_false_iff_eq, Bool.not_eq_true', Bool.not_eq_false', Tree.isNil_iff, Tree.isNil_not, Int.not_lt, Int.not_le, gt_iff_lt, ge_iff_le, ne_eq, Decidable.not_not, Int.toNat_natCast, Int.toNat_zero, Int.toNat_one]); first | assumption | omega)) ?_; conv => whnf)
                | (refine Indep.mk (by kernel_rfl) ?_; conv => whnf)
                | (refine Split.of_false (bytes_bne'.2 hn) ?_; conv => whnf)
                | (refine Side.mk (show (0 : Int) ≤ (p : Int) ∧ (p : Int) < (T.kids.length : Int) from ⟨by omega, by omega⟩) ?_; conv => whnf)
                | (refine Side.mk (show (0 : Int) ≤ (p : Int) ∧ (p : Int) < (U.kids.length : Int) from ⟨by omega, by omega⟩) ?_; conv => whnf)
                | (refine Side.mk hxn ?_; conv => whnf)
                | (refine Side.mk hyn ?_; conv => whnf)
                | (refine Side.mk (show (0 : Int) ≤ 0 ∧ (0 : Int) < ((T.kids.getD p .nil).kids.length : Int) from ⟨by omega, by omega⟩) ?_; conv => whnf)
                | (refine Side.mk (show (0 : Int) ≤ 0 ∧ (0 : Int) < ((U.kids.getD p .nil).kids.length : Int) from ⟨by omega, by omega⟩) ?_; conv => whnf)
                | (refine CallG.pure hc1 rfl ?_; conv => whnf)
                | (refine Split.mk (fun hc => ?_) (fun hc => ?_) <;> (try simp only [bytes_eq, bytes_ne, empty_bytes, bytes_bne, bytes_bne'] at hc) <;> (try simp only [decide_eq_true_eq, decide_eq_false_iff_not, beq_iff_eq, beq_eq_false_iff_ne, bne_iff_ne, bne_eq_false_iff_eq, Bool.not_eq_true', Bool.not_eq_false', Tree.isNil_iff, Tree.isNil_not, Int.not_lt, Int.not_le, gt_iff_lt, ge_iff_le, ne_eq, Decidable.not_not, Int.toNat_natCast, Int.toNat_zero, Int.toNat_one] at hc) <;> conv => whnf)
              exact ⟨p + 1, ⟨by omega, by rw [← hp2]; rfl⟩, by omega, Ent.re [] rfl rfl rfl rfl rfl rfl (by repeat' first | exact trivial | apply And.intro | rfl | (refine int_eq ?_; rw [wrap64] <;> omega)) (by repeat' first | exact trivial | apply And.intro | rfl | (refine int_eq ?_; rw [wrap64] <;> omega))⟩
            | false =>
              rw [Bool.false_and] at hp2
              rw [← hp2]
              repeat' first
                | (refine then_go hm htt ?_; conv => whnf)
                | (refine Side.mk (by first | assumption | exact trivial | rfl | exact Nat.le_of_ble_eq_true rfl | omega) ?_; conv => whnf)
                | (refine Hyp.mk fun hlen => ?_; replace hlen : _ ≤ 17592186044416 := hlen; conv => whnf)
                | (refine Split.ct ?_; conv => whnf)
                | (refine Split.cf ?_; conv => whnf)
                | (refine Split.of_true (by first | rfl | assumption | ((try simp only [bytes_eq, bytes_ne, empty_bytes, bytes_bne, bytes_bne']); (try simp only [decide_eq_true_eq, decide_eq_false_iff_not, beq_iff_eq, beq_eq_false_iff_ne, bne_iff_ne, bne_eq_false_iff_eq, Bool.not_eq_true', Bool.not_eq_false', Tree.isNil_iff, Tree.isNil_not, Int.not_lt, Int.not_le, gt_iff_lt, ge_iff_le, ne_eq, Decidable.not_not, Int.toNat_natCast, Int.toNat_zero, Int.toNat_one]); first | assumption | omega)) ?_; conv => whnf)
                | (refine Split.of_false (by first | rfl | assumption | ((try simp only [bytes_eq, bytes_ne, empty_bytes, bytes_bne, bytes_bne']); (try simp only [decide_eq_true_eq, decide_eq_false_iff_not, beq_iff_eq, beq_eq_false_iff_ne, bne_iff_ne, bne_eq_false_iff_eq, Bool.not_eq_true', Bool.not_eq_false', Tree.isNil_iff, Tree.isNil_not, Int.not_lt, Int.not_le, gt_iff_lt, ge_iff_le, ne_eq, Decidable.not_not, Int.toNat_natCast, Int.toNat_zero, Int.toNat_one]); first | assumption | omega)) ?_; conv => whnf)
                | (refine Indep.mk (by kernel_rfl) ?_; conv => whnf)
                | (refine Split.of_false (bytes_bne'.2 hn) ?_; conv => whnf)
                | (refine Side.mk (show (0 : Int) ≤ (p : Int) ∧ (p : Int) < (T.kids.length : Int) from ⟨by omega, by omega⟩) ?_; conv => whnf)
                | (refine Side.mk (show (0 : Int) ≤ (p : Int) ∧ (p : Int) < (U.kids.length : Int) from ⟨by omega, by omega⟩) ?_; conv => whnf)
                | (refine Side.mk hxn ?_; conv => whnf)
                | (refine Side.mk hyn ?_; conv => whnf)
                | (refine Side.mk (show (0 : Int) ≤ 0 ∧ (0 : Int) < ((T.kids.getD p .nil).kids.length : Int) from ⟨by omega, by omega⟩) ?_; conv => whnf)
                | (refine Side.mk (show (0 : Int) ≤ 0 ∧ (0 : Int) < ((U.kids.getD p .nil).kids.length : Int) from ⟨by omega, by omega⟩) ?_; conv => whnf)
                | (refine CallG.pure hc1 rfl ?_; conv => whnf)
                | (refine Split.mk (fun hc => ?_) (fun hc => ?_) <;> (try simp only [bytes_eq, bytes_ne, empty_bytes, bytes_bne, bytes_bne'] at hc) <;> (try simp only [decide_eq_true_eq, decide_eq_false_iff_not, beq_iff_eq, beq_eq_false_iff_ne, bne_iff_ne, bne_eq_false_iff_eq, Bool.not_eq_true', Bool.not_eq_false', Tree.isNil_iff, Tree.isNil_not, Int.not_lt, Int.not_le, gt_iff_lt, ge_iff_le, ne_eq, Decidable.not_not, Int.toNat_natCast, Int.toNat_zero, Int.toNat_one] at hc) <;> conv => whnf)
              exact ret_closed rfl rfl rfl
          · rw [decide_eq_false hn, Bool.false_and, Bool.false_and] at hp2
            rw [← hp2]
            repeat' first
              | (refine then_go hm htt ?_; conv => whnf)
              | (refine Side.mk (by first | assumption | exact trivial | rfl | exact Nat.le_of_ble_eq_true rfl | omega) ?_; conv => whnf)
              | (refine Hyp.mk fun hlen => ?_; replace hlen : _ ≤ 17592186044416 := hlen; conv => whnf)
              | (refine Split.ct ?_; conv => whnf)
              | (refine Split.cf ?_; conv => whnf)
              | (refine Split.of_true (by first | rfl | assumption | ((try simp only [bytes_eq, bytes_ne, empty_bytes, bytes_bne, bytes_bne']); (try simp only [decide_eq_true_eq, decide_eq_false_iff_not, beq_iff_eq, beq_eq_false_iff_ne, bne_iff_ne, bne_eq_false_iff_eq, Bool.not_eq_true', Bool.not_eq_false', Tree.isNil_iff, Tree.isNil_not, Int.not_lt, Int.not_le, gt_iff_lt, ge_iff_le, ne_eq, Decidable.not_not, Int.toNat_natCast, Int.toNat_zero, Int.toNat_one]); first | assumption | omega)) ?_; conv => whnf)
              | (refine Split.of_false (by first | rfl | assumption | ((try simp only [bytes_eq, bytes_ne, empty_bytes, bytes_bne, bytes_bne']); (try simp only [decide_eq_true_eq, decide_eq_false_iff_not, beq_iff_eq, beq_eq_false_iff_ne, bne_iff_ne, bne_eq_false_iff_eq, Bool.not_eq_true', Bool.not_eq_false', Tree.isNil_iff, Tree.isNil_not, Int.not_lt, Int.not_le, gt_iff_lt, ge_iff_le, ne_eq, Decidable.not_not, Int.toNat_natCast, Int.toNat_zero, Int.toNat_one]); first | assumption | omega)) ?_; conv => whnf)
              | (refine Indep.mk (by kernel_rfl) ?_; conv => whnf)
              | (refine Side.mk (show (0 : Int) ≤ (p : Int) ∧ (p : Int) < (T.kids.length : Int) from ⟨by omega, by omega⟩) ?_; conv => whnf)
              | (refine Side.mk (show (0 : Int) ≤ (p : Int) ∧ (p : Int) < (U.kids.length : Int) from ⟨by omega, by omega⟩) ?_; conv => whnf)
              | (refine Side.mk hxn ?_; conv => whnf)
              | (refine Side.mk hyn ?_; conv => whnf)
              | (exfalso; exact hn (by assumption))
              | (refine Split.mk (fun hc => ?_) (fun hc => ?_) <;> (try simp only [bytes_eq, bytes_ne, empty_bytes, bytes_bne, bytes_bne'] at hc) <;> (try simp only [decide_eq_true_eq, decide_eq_false_iff_not, beq_iff_eq, beq_eq_false_iff_ne, bne_iff_ne, bne_eq_false_iff_eq, Bool.not_eq_true', Bool.not_eq_false', Tree.isNil_iff, Tree.isNil_not, Int.not_lt, Int.not_le, gt_iff_lt, ge_iff_le, ne_eq, Decidable.not_not, Int.toNat_natCast, Int.toNat_zero, Int.toNat_one] at hc) <;> conv => whnf)
            all_goals exact ret_closed rfl rfl rfl
        · rw [narrs_end (by omega)] at hp2
          repeat' first
            | (refine then_go hm htt ?_; conv => whnf)
            | (refine Side.mk (by first | assumption | exact trivial | rfl | exact Nat.le_of_ble_eq_true rfl | omega) ?_; conv => whnf)
            | (refine Hyp.mk fun hlen => ?_; replace hlen : _ ≤ 17592186044416 := hlen; conv => whnf)
            | (refine Split.ct ?_; conv => whnf)
            | (refine Split.cf ?_; conv => whnf)
            | (refine Split.of_true (by first | rfl | assumption | ((try simp only [bytes_eq, bytes_ne, empty_bytes, bytes_bne, bytes_bne']); (try simp only [decide_eq_true_eq, decide_eq_false_iff_not, beq_iff_eq, beq_eq_false_iff_ne, bne_iff_ne, bne_eq_false_iff_eq, Bool.not_eq_true', Bool.not_eq_false', Tree.isNil_iff, Tree.isNil_not, Int.not_lt, Int.not_le, gt_iff_lt, ge_iff_le, ne_eq, Decidable.not_not, Int.toNat_natCast, Int.toNat_zero, Int.toNat_one]); first | assumption | omega)) ?_; conv => whnf)
            | (refine Split.of_false (by first | rfl | assumption | ((try simp only [bytes_eq, bytes_ne, empty_bytes, bytes_bne, bytes_bne']); (try simp only [decide_eq_true_eq, decide_eq_false_iff_not, beq_iff_eq, beq_eq_false_iff_ne, bne_iff_ne, bne_eq_false_iff_eq, Bool.not_eq_true', Bool.not_eq_false', Tree.isNil_iff, Tree.isNil_not, Int.not_lt, Int.not_le, gt_iff_lt, ge_iff_le, ne_eq, Decidable.not_not, Int.toNat_natCast, Int.toNat_zero, Int.toNat_one]); first | assumption | omega)) ?_; conv => whnf)
            | (refine Indep.mk (by kernel_rfl) ?_; conv => whnf)
            | (refine Split.mk (fun hc => ?_) (fun hc => ?_) <;> (try simp only [bytes_eq, bytes_ne, empty_bytes, bytes_bne, bytes_bne'] at hc) <;> (try simp only [decide_eq_true_eq, decide_eq_false_iff_not, beq_iff_eq, beq_eq_false_iff_ne, bne_iff_ne, bne_eq_false_iff_eq, Bool.not_eq_true', Bool.not_eq_false', Tree.isNil_iff, Tree.isNil_not, Int.not_lt, Int.not_le, gt_iff_lt, ge_iff_le, ne_eq, Decidable.not_not, Int.toNat_natCast, Int.toNat_zero, Int.toNat_one] at hc) <;> conv => whnf)
          exact ret_closed rfl (bool_eq hp2) rfl
      · have he : narrF T U = false := by rw [he]; simp [hl]
        rw [he]
        repeat' first
          | (refine then_go hm htt ?_; conv => whnf)
          | (refine Side.mk (by first | assumption | exact trivial | rfl | exact Nat.le_of_ble_eq_true rfl | omega) ?_; conv => whnf)
          | (refine Hyp.mk fun hlen => ?_; replace hlen : _ ≤ 17592186044416 := hlen; conv => whnf)
          | (refine Split.ct ?_; conv => whnf)
          | (refine Split.cf ?_; conv => whnf)
          | (refine Split.of_true (by first | rfl | assumption | ((try simp only [bytes_eq, bytes_ne, empty_bytes, bytes_bne, bytes_bne']); (try simp only [decide_eq_true_eq, decide_eq_false_iff_not, beq_iff_eq, beq_eq_false_iff_ne, bne_iff_ne, bne_eq_false_iff_eq, Bool.not_eq_true', Bool.not_eq_false', Tree.isNil_iff, Tree.isNil_not, Int.not_lt, Int.not_le, gt_iff_lt, ge_iff_le, ne_eq, Decidable.not_not, Int.toNat_natCast, Int.toNat_zero, Int.toNat_one]); first | assumption | omega)) ?_; conv => whnf)
          | (refine Split.of_false (by first | rfl | assumption | ((try simp only [bytes_eq, bytes_ne, empty_bytes, bytes_bne, bytes_bne']); (try simp only [decide_eq_true_eq, decide_eq_false_iff_not, beq_iff_eq, beq_eq_false_iff_ne, bne_iff_ne, bne_eq_false_iff_eq, Bool.not_eq_true', Bool.not_eq_false', Tree.isNil_iff, Tree.isNil_not, Int.not_lt, Int.not_le, gt_iff_lt, ge_iff_le, ne_eq, Decidable.not_not, Int.toNat_natCast, Int.toNat_zero, Int.toNat_one]); first | assumption | omega)) ?_; conv => whnf)
          | (refine Indep.mk (by kernel_rfl) ?_; conv => whnf)
          | (refine Split.mk (fun hc => ?_) (fun hc => ?_) <;> (try simp only [bytes_eq, bytes_ne, empty_bytes, bytes_bne, bytes_bne'] at hc) <;> (try simp only [decide_eq_true_eq, decide_eq_false_iff_not, beq_iff_eq, beq_eq_false_iff_ne, bne_iff_ne, bne_eq_false_iff_eq, Bool.not_eq_true', Bool.not_eq_false', Tree.isNil_iff, Tree.isNil_not, Int.not_lt, Int.not_le, gt_iff_lt, ge_iff_le, ne_eq, Decidable.not_not, Int.toNat_natCast, Int.toNat_zero, Int.toNat_one] at hc) <;> conv => whnf)
        exact ret_closed rfl rfl rfl
    · have he : narrF T U = true := by rw [he, beq_iff_eq.2 hk, beq_eq_false_iff_ne.2 h2]; rfl
      rw [he]
      repeat' first
        | (refine then_go hm htt ?_; conv => whnf)
        | (refine Side.mk (by first | assumption | exact trivial | rfl | exact Nat.le_of_ble_eq_true rfl | omega) ?_; conv => whnf)
        | (refine Hyp.mk fun hlen => ?_; replace hlen : _ ≤ 17592186044416 := hlen; conv => whnf)
        | (refine Split.ct ?_; conv => whnf)
        | (refine Split.cf ?_; conv => whnf)
        | (refine Split.of_true (by first | rfl | assumption | ((try simp only [bytes_eq, bytes_ne, empty_bytes, bytes_bne, bytes_bne']); (try simp only [decide_eq_true_eq, decide_eq_false_iff_not, beq_iff_eq, beq_eq_false_iff_ne, bne_iff_ne, bne_eq_false_iff_eq, Bool.not_eq_true', Bool.not_eq_false', Tree.isNil_iff, Tree.isNil_not, Int.not_lt, Int.not_le, gt_iff_lt, ge_iff_le, ne_eq, Decidable.not_not, Int.toNat_natCast, Int.toNat_zero, Int.toNat_one]); first | assumption | omega)) ?_; conv => whnf)
        | (refine Split.of_false (by first | rfl | assumption | ((try simp only [bytes_eq, bytes_ne, empty_bytes, bytes_bne, bytes_bne']); (try simp only [decide_eq_true_eq, decide_eq_false_iff_not, beq_iff_eq, beq_eq_false_iff_ne, bne_iff_ne, bne_eq_false_iff_eq, Bool.not_eq_true', Bool.not_eq_false', Tree.isNil_iff, Tree.isNil_not, Int.not_lt, Int.not_le, gt_iff_lt, ge_iff_le, ne_eq, Decidable.not_not, Int.toNat_natCast, Int.toNat_zero, Int.toNat_one]); first | assumption | omega)) ?_; conv => whnf)
        | (refine Indep.mk (by kernel_rfl) ?_; conv => whnf)
        | (refine Split.mk (fun hc => ?_) (fun hc => ?_) <;> (try simp only [bytes_eq, bytes_ne, empty_bytes, bytes_bne, bytes_bne'] at hc) <;> (try simp only [decide_eq_true_eq, decide_eq_false_iff_not, beq_iff_eq, beq_eq_false_iff_ne, bne_iff_ne, bne_eq_false_iff_eq, Bool.not_eq_true', Bool.not_eq_false', Tree.isNil_iff, Tree.isNil_not, Int.not_lt, Int.not_le, gt_iff_lt, ge_iff_le, ne_eq, Decidable.not_not, Int.toNat_natCast, Int.toNat_zero, Int.toNat_one] at hc) <;> conv => whnf)
      exact ret_closed rfl rfl rfl
  · have he : narrF T U = false := by rw [he]; simp [hk]
    rw [he]
    repeat' first
      | (refine then_go hm htt ?_; conv => whnf)
      | (refine Side.mk (by first | assumption | exact trivial | rfl | exact Nat.le_of_ble_eq_true rfl | omega) ?_; conv => whnf)
      | (refine Hyp.mk fun hlen => ?_; replace hlen : _ ≤ 17592186044416 := hlen; conv => whnf)
      | (refine Split.ct ?_; conv => whnf)
      | (refine Split.cf ?_; conv => whnf)
      | (refine Split.of_true (by first | rfl | assumption | ((try simp only [bytes_eq, bytes_ne, empty_bytes, bytes_bne, bytes_bne']); (try simp only [decide_eq_true_eq, decide_eq_false_iff_not, beq_iff_eq, beq_eq_false_iff_ne, bne_iff_ne, bne_eq_false_iff_eq, Bool.not_eq_true', Bool.not_eq_false', Tree.isNil_iff, Tree.isNil_not, Int.not_lt, Int.not_le, gt_iff_lt, ge_iff_le, ne_eq, Decidable.not_not, Int.toNat_natCast, Int.toNat_zero, Int.toNat_one]); first | assumption | omega)) ?_; conv => whnf)
      | (refine Split.of_false (by first | rfl | assumption | ((try simp only [bytes_eq, bytes_ne, empty_bytes, bytes_bne, bytes_bne']); (try simp only [decide_eq_true_eq, decide_eq_false_iff_not, beq_iff_eq, beq_eq_false_iff_ne, bne_iff_ne, bne_eq_false_iff_eq, Bool.not_eq_true', Bool.not_eq_false', Tree.isNil_iff, Tree.isNil_not, Int.not_lt, Int.not_le, gt_iff_lt, ge_iff_le, ne_eq, Decidable.not_not, Int.toNat_natCast, Int.toNat_zero, Int.toNat_one]); first | assumption | omega)) ?_; conv => whnf)
      | (refine Indep.mk (by kernel_rfl) ?_; conv => whnf)
      | (refine Split.mk (fun hc => ?_) (fun hc => ?_) <;> (try simp only [bytes_eq, bytes_ne, empty_bytes, bytes_bne, bytes_bne'] at hc) <;> (try simp only [decide_eq_true_eq, decide_eq_false_iff_not, beq_iff_eq, beq_eq_false_iff_ne, bne_iff_ne, bne_eq_false_iff_eq, Bool.not_eq_true', Bool.not_eq_false', Tree.isNil_iff, Tree.isNil_not, Int.not_lt, Int.not_le, gt_iff_lt, ge_iff_le, ne_eq, Decidable.not_not, Int.toNat_natCast, Int.toNat_zero, Int.toNat_one] at hc) <;> conv => whnf)
    exact ret_closed rfl rfl rfl

/-! Narrow -/
def slimF (T : Tree) : Bool := decide (semE T = 0) && decide (T.kind ≠ 164) && decide (T.kind ≠ 165)
theorem slim_sig {T : Tree} (h : slimF T = true) : isSigF T = true := by
  unfold slimF at h
  simp only [Bool.and_eq_true, decide_eq_true_eq] at h
  obtain ⟨⟨h1, h2⟩, h3⟩ := h
  obtain ⟨_, h4, _⟩ := semE_full h1
  simp only [Bool.or_eq_true] at h4
  rcases h4 with (h4 | h4) | h4
  · exact h4
  · unfold exF at h4; simp only [Bool.and_eq_true, beq_iff_eq] at h4; exact absurd h4.1.1.1 h2
  · unfold funF at h4; simp only [Bool.and_eq_true, beq_iff_eq] at h4; exact absurd h4.1.1.1.1 h3
theorem semE_ne {T : Tree} (h : semE T = 0) : T ≠ .nil := (semE_full h).1.ne
theorem semE_kind {T : Tree} (h : semE T = 0) : T.kind < 164 ↔ (T.kind ≠ 164 ∧ T.kind ≠ 165) := by
  obtain ⟨_, h4, _⟩ := semE_full h
  simp only [Bool.or_eq_true] at h4
  rcases h4 with (h4 | h4) | h4
  · have := isSig_kind h4; omega
  · unfold exF at h4; simp only [Bool.and_eq_true, beq_iff_eq] at h4; have := h4.1.1.1; omega
  · unfold funF at h4; simp only [Bool.and_eq_true, beq_iff_eq] at h4; have := h4.1.1.1.1; omega
def narrowF (p n : Tree) : Bool := slimF p && slimF n && narrF p n
set_option maxRecDepth 10000 in
theorem slim_ok (T : Tree) : Pure P 59 [.d (.tree T)] (.d (.bool (slimF T))) := by
  refine Pure.of_body tt [] [2] Try.func59 rfl rfl rfl (Nat.le_of_ble_eq_true rfl) fun g => ?_
  repeat' first
    | (refine then_go hm htt ?_; conv => whnf)
    | (refine Side.mk (by first | assumption | exact trivial | rfl | exact Nat.le_of_ble_eq_true rfl | omega) ?_; conv => whnf)
    | (refine Hyp.mk fun hlen => ?_; replace hlen : _ ≤ 17592186044416 := hlen; conv => whnf)
    | (refine Split.ct ?_; conv => whnf)
    | (refine Split.cf ?_; conv => whnf)
    | (refine Split.of_true (by first | rfl | assumption | ((try simp only [bytes_eq, bytes_ne, empty_bytes, bytes_bne, bytes_bne']); (try simp only [decide_eq_true_eq, decide_eq_false_iff_not, beq_iff_eq, beq_eq_false_iff_ne, bne_iff_ne, bne_eq_false_iff_eq, Bool.not_eq_true', Bool.not_eq_false', Tree.isNil_iff, Tree.isNil_not, Int.not_lt, Int.not_le, gt_iff_lt, ge_iff_le, ne_eq, Decidable.not_not, Int.toNat_natCast, Int.toNat_zero, Int.toNat_one]); first | assumption | omega)) ?_; conv => whnf)
    | (refine Split.of_false (by first | rfl | assumption | ((try simp only [bytes_eq, bytes_ne, empty_bytes, bytes_bne, bytes_bne']); (try simp only [decide_eq_true_eq, decide_eq_false_iff_not, beq_iff_eq, beq_eq_false_iff_ne, bne_iff_ne, bne_eq_false_iff_eq, Bool.not_eq_true', Bool.not_eq_false', Tree.isNil_iff, Tree.isNil_not, Int.not_lt, Int.not_le, gt_iff_lt, ge_iff_le, ne_eq, Decidable.not_not, Int.toNat_natCast, Int.toNat_zero, Int.toNat_one]); first | assumption | omega)) ?_; conv => whnf)
    | (refine Indep.mk (by kernel_rfl) ?_; conv => whnf)
    | (refine CallG.pure (scheck_ok T) rfl ?_; conv => whnf)
    | (refine Side.mk (semE_ne (by assumption)) ?_; conv => whnf)
    | (refine Split.mk (fun hc => ?_) (fun hc => ?_) <;> (try simp only [bytes_eq, bytes_ne, empty_bytes, bytes_bne, bytes_bne'] at hc) <;> (try simp only [decide_eq_true_eq, decide_eq_false_iff_not, beq_iff_eq, beq_eq_false_iff_ne, bne_iff_ne, bne_eq_false_iff_eq, Bool.not_eq_true', Bool.not_eq_false', Tree.isNil_iff, Tree.isNil_not, Int.not_lt, Int.not_le, gt_iff_lt, ge_iff_le, ne_eq, Decidable.not_not, Int.toNat_natCast, Int.toNat_zero, Int.toNat_one] at hc) <;> conv => whnf)
  all_goals refine ret_closed rfl (bool_eq ?_) rfl
  all_goals (unfold slimF; simp_all [bne, beq_dec, beq_dec'])
set_option maxRecDepth 10000 in
theorem Narrow_ok (p n : Tree) : Pure P 19 [.d (.tree p), .d (.tree n)] (.d (.bool (narrowF p n))) := by
  have h1 := slim_ok p
  have h2 := slim_ok n
  unfold narrowF
  refine Pure.of_body tt [] [4] Try.func19 rfl rfl rfl (Nat.le_of_ble_eq_true rfl) fun g => ?_
  cases hp : slimF p with
  | false =>
    rw [hp] at h1
    repeat' first
      | (refine then_go hm htt ?_; conv => whnf)
      | (refine Side.mk (by first | assumption | exact trivial | rfl | exact Nat.le_of_ble_eq_true rfl | omega) ?_; conv => whnf)
      | (refine Hyp.mk fun hlen => ?_; replace hlen : _ ≤ 17592186044416 := hlen; conv => whnf)
      | (refine Split.ct ?_; conv => whnf)
      | (refine Split.cf ?_; conv => whnf)
      | (refine Split.of_true (by first | rfl | assumption | ((try simp only [bytes_eq, bytes_ne, empty_bytes, bytes_bne, bytes_bne']); (try simp only [decide_eq_true_eq, decide_eq_false_iff_not, beq_iff_eq, beq_eq_false_iff_ne, bne_iff_ne, bne_eq_false_iff_eq, Bool.not_eq_true', Bool.not_eq_false', Tree.isNil_iff, Tree.isNil_not, Int.not_lt, Int.not_le, gt_iff_lt, ge_iff_le, ne_eq, Decidable.not_not, Int.toNat_natCast, Int.toNat_zero, Int.toNat_one]); first | assumption | omega)) ?_; conv => whnf)
      | (refine Split.of_false (by first | rfl | assumption | ((try simp only [bytes_eq, bytes_ne, empty_bytes, bytes_bne, bytes_bne']); (try simp only [decide_eq_true_eq, decide_eq_false_iff_not, beq_iff_eq, beq_eq_false_iff_ne, bne_iff_ne, bne_eq_false_iff_eq, Bool.not_eq_true', Bool.not_eq_false', Tree.isNil_iff, Tree.isNil_not, Int.not_lt, Int.not_le, gt_iff_lt, ge_iff_le, ne_eq, Decidable.not_not, Int.toNat_natCast, Int.toNat_zero, Int.toNat_one]); first | assumption | omega)) ?_; conv => whnf)
      | (refine Indep.mk (by kernel_rfl) ?_; conv => whnf)
      | (refine CallG.pure h1 rfl ?_; conv => whnf)
      | (refine Split.mk (fun hc => ?_) (fun hc => ?_) <;> (try simp only [bytes_eq, bytes_ne, empty_bytes, bytes_bne, bytes_bne'] at hc) <;> (try simp only [decide_eq_true_eq, decide_eq_false_iff_not, beq_iff_eq, beq_eq_false_iff_ne, bne_iff_ne, bne_eq_false_iff_eq, Bool.not_eq_true', Bool.not_eq_false', Tree.isNil_iff, Tree.isNil_not, Int.not_lt, Int.not_le, gt_iff_lt, ge_iff_le, ne_eq, Decidable.not_not, Int.toNat_natCast, Int.toNat_zero, Int.toNat_one] at hc) <;> conv => whnf)
    exact ret_closed rfl rfl rfl
  | true =>
    rw [hp] at h1
    cases hn : slimF n with
    | false =>
      rw [hn] at h2
      repeat' first
        | (refine then_go hm htt ?_; conv => whnf)
        | (refine Side.mk (by first | assumption | exact trivial | rfl | exact Nat.le_of_ble_eq_true rfl | omega) ?_; conv => whnf)
        | (refine Hyp.mk fun hlen => ?_; replace hlen : _ ≤ 17592186044416 := hlen; conv => whnf)
        | (refine Split.ct ?_; conv => whnf)
        | (refine Split.cf ?_; conv => whnf)
        | (refine Split.of_true (by first | rfl | assumption | ((try simp only [bytes_eq, bytes_ne, empty_bytes, bytes_bne, bytes_bne']); (try simp only [decide_eq_true_eq, decide_eq_false_iff_not, beq_iff_eq, beq_eq_false_iff_ne, bne_iff_ne, bne_eq_false_iff_eq, Bool.not_eq_true', Bool.not_eq_false', Tree.isNil_iff, Tree.isNil_not, Int.not_lt, Int.not_le, gt_iff_lt, ge_iff_le, ne_eq, Decidable.not_not, Int.toNat_natCast, Int.toNat_zero, Int.toNat_one]); first | assumption | omega)) ?_; conv => whnf)
        | (refine Split.of_false (by first | rfl | assumption | ((try simp only [bytes_eq, bytes_ne, empty_bytes, bytes_bne, bytes_bne']); (try simp only [decide_eq_true_eq, decide_eq_false_iff_not, beq_iff_eq, beq_eq_false_iff_ne, bne_iff_ne, bne_eq_false_iff_eq, Bool.not_eq_true', Bool.not_eq_false', Tree.isNil_iff, Tree.isNil_not, Int.not_lt, Int.not_le, gt_iff_lt, ge_iff_le, ne_eq, Decidable.not_not, Int.toNat_natCast, Int.toNat_zero, Int.toNat_one]); first | assumption | omega)) ?_; conv => whnf)
        | (refine Indep.mk (by kernel_rfl) ?_; conv => whnf)
        | (refine CallG.pure h1 rfl ?_; conv => whnf)
        | (refine CallG.pure h2 rfl ?_; conv => whnf)
        | (refine Split.mk (fun hc => ?_) (fun hc => ?_) <;> (try simp only [bytes_eq, bytes_ne, empty_bytes, bytes_bne, bytes_bne'] at hc) <;> (try simp only [decide_eq_true_eq, decide_eq_false_iff_not, beq_iff_eq, beq_eq_false_iff_ne, bne_iff_ne, bne_eq_false_iff_eq, Bool.not_eq_true', Bool.not_eq_false', Tree.isNil_iff, Tree.isNil_not, Int.not_lt, Int.not_le, gt_iff_lt, ge_iff_le, ne_eq, Decidable.not_not, Int.toNat_natCast, Int.toNat_zero, Int.toNat_one] at hc) <;> conv => whnf)
      exact ret_closed rfl rfl rfl
    | true =>
      rw [hn] at h2
      have h3 := narrow_ok p n (slim_sig hp) (slim_sig hn)
      repeat' first
        | (refine then_go hm htt ?_; conv => whnf)
        | (refine Side.mk (by first | assumption | exact trivial | rfl | exact Nat.le_of_ble_eq_true rfl | omega) ?_; conv => whnf)
        | (refine Hyp.mk fun hlen => ?_; replace hlen : _ ≤ 17592186044416 := hlen; conv => whnf)
        | (refine Split.ct ?_; conv => whnf)
        | (refine Split.cf ?_; conv => whnf)
        | (refine Split.of_true (by first | rfl | assumption | ((try simp only [bytes_eq, bytes_ne, empty_bytes, bytes_bne, bytes_bne']); (try simp only [decide_eq_true_eq, decide_eq_false_iff_not, beq_iff_eq, beq_eq_false_iff_ne, bne_iff_ne, bne_eq_false_iff_eq, Bool.not_eq_true', Bool.not_eq_false', Tree.isNil_iff, Tree.isNil_not, Int.not_lt, Int.not_le, gt_iff_lt, ge_iff_le, ne_eq, Decidable.not_not, Int.toNat_natCast, Int.toNat_zero, Int.toNat_one]); first | assumption | omega)) ?_; conv => whnf)
        | (refine Split.of_false (by first | rfl | assumption | ((try simp only [bytes_eq, bytes_ne, empty_bytes, bytes_bne, bytes_bne']); (try simp only [decide_eq_true_eq, decide_eq_false_iff_not, beq_iff_eq, beq_eq_false_iff_ne, bne_iff_ne, bne_eq_false_iff_eq, Bool.not_eq_true', Bool.not_eq_false', Tree.isNil_iff, Tree.isNil_not, Int.not_lt, Int.not_le, gt_iff_lt, ge_iff_le, ne_eq, Decidable.not_not, Int.toNat_natCast, Int.toNat_zero, Int.toNat_one]); first | assumption | omega)) ?_; conv => whnf)
        | (refine Indep.mk (by kernel_rfl) ?_; conv => whnf)
        | (refine CallG.pure h1 rfl ?_; conv => whnf)
        | (refine CallG.pure h2 rfl ?_; conv => whnf)
        | (refine CallG.pure h3 rfl ?_; conv => whnf)
        | (refine Split.mk (fun hc => ?_) (fun hc => ?_) <;> (try simp only [bytes_eq, bytes_ne, empty_bytes, bytes_bne, bytes_bne'] at hc) <;> (try simp only [decide_eq_true_eq, decide_eq_false_iff_not, beq_iff_eq, beq_eq_false_iff_ne, bne_iff_ne, bne_eq_false_iff_eq, Bool.not_eq_true', Bool.not_eq_false', Tree.isNil_iff, Tree.isNil_not, Int.not_lt, Int.not_le, gt_iff_lt, ge_iff_le, ne_eq, Decidable.not_not, Int.toNat_natCast, Int.toNat_zero, Int.toNat_one] at hc) <;> conv => whnf)
      exact ret_closed rfl rfl rfl
set_option maxRecDepth 10000 in
theorem rNarrow_ok (p n : Tree) : Pure P 20 [.d (.tree p), .d (.tree n)] (.d (.bool (narrowF p n))) := by
  have h1 := rSemCheck_ok p
  have h2 := rSemCheck_ok n
  by_cases hs : slimF p = true ∧ slimF n = true
  · obtain ⟨hp, hn⟩ := hs
    have h3 := labels_ok p n (slim_sig hp) (slim_sig hn)
    have e : narrowF p n = narrF p n := by unfold narrowF; rw [hp, hn]; rfl
    unfold slimF at hp hn
    simp only [Bool.and_eq_true, decide_eq_true_eq] at hp hn
    have hkp := (semE_kind hp.1.1).2 ⟨hp.1.2, hp.2⟩
    have hkn := (semE_kind hn.1.1).2 ⟨hn.1.2, hn.2⟩
    rw [hp.1.1] at h1
    rw [hn.1.1] at h2
    have hp0 := semE_ne hp.1.1
    have hn0 := semE_ne hn.1.1
    clear hp hn
    rw [e]
    refine Pure.of_body tt [] [4] Try.func20 rfl rfl rfl (Nat.le_of_ble_eq_true rfl) fun g => ?_
    repeat' first
      | (refine then_go hm htt ?_; conv => whnf)
      | (refine Side.mk (by first | assumption | exact trivial | rfl | exact Nat.le_of_ble_eq_true rfl | omega) ?_; conv => whnf)
      | (refine Hyp.mk fun hlen => ?_; replace hlen : _ ≤ 17592186044416 := hlen; conv => whnf)
      | (refine Split.ct ?_; conv => whnf)
      | (refine Split.cf ?_; conv => whnf)
      | (refine Split.of_true (by first | rfl | assumption | ((try simp only [bytes_eq, bytes_ne, empty_bytes, bytes_bne, bytes_bne']); (try simp only [decide_eq_true_eq, decide_eq_false_iff_not, beq_iff_eq, beq_eq_false_iff_ne, bne_iff_ne, bne_eq_false_iff_eq, Bool.not_eq_true', Bool.not_eq_false', Tree.isNil_iff, Tree.isNil_not, Int.not_lt, Int.not_le, gt_iff_lt, ge_iff_le, ne_eq, Decidable.not_not, Int.toNat_natCast, Int.toNat_zero, Int.toNat_one]); first | assumption | omega)) ?_; conv => whnf)
      | (refine Split.of_false (by first | rfl | assumption | ((try simp only [bytes_eq, bytes_ne, empty_bytes, bytes_bne, bytes_bne']); (try simp only [decide_eq_true_eq, decide_eq_false_iff_not, beq_iff_eq, beq_eq_false_iff_ne, bne_iff_ne, bne_eq_false_iff_eq, Bool.not_eq_true', Bool.not_eq_false', Tree.isNil_iff, Tree.isNil_not, Int.not_lt, Int.not_le, gt_iff_lt, ge_iff_le, ne_eq, Decidable.not_not, Int.toNat_natCast, Int.toNat_zero, Int.toNat_one]); first | assumption | omega)) ?_; conv => whnf)
      | (refine Indep.mk (by kernel_rfl) ?_; conv => whnf)
      | (refine CallG.pure h1 rfl ?_; conv => whnf)
      | (refine CallG.pure h2 rfl ?_; conv => whnf)
      | (refine CallG.pure h3 rfl ?_; conv => whnf)
      | (refine Side.mk hp0 ?_; conv => whnf)
      | (refine Side.mk hn0 ?_; conv => whnf)
      | (refine Split.mk (fun hc => ?_) (fun hc => ?_) <;> (try simp only [bytes_eq, bytes_ne, empty_bytes, bytes_bne, bytes_bne'] at hc) <;> (try simp only [decide_eq_true_eq, decide_eq_false_iff_not, beq_iff_eq, beq_eq_false_iff_ne, bne_iff_ne, bne_eq_false_iff_eq, Bool.not_eq_true', Bool.not_eq_false', Tree.isNil_iff, Tree.isNil_not, Int.not_lt, Int.not_le, gt_iff_lt, ge_iff_le, ne_eq, Decidable.not_not, Int.toNat_natCast, Int.toNat_zero, Int.toNat_one] at hc) <;> conv => whnf)
    exact ret_closed rfl rfl rfl
  · have e : narrowF p n = false := by
      unfold narrowF
      cases h1 : slimF p <;> cases h2 : slimF n <;> simp_all
    have hfin : semE p = 0 → semE n = 0 → p.kind < 164 → n.kind < 164 → False := by
      intro a b c d
      have hkp := (semE_kind a).1 c
      have hkn := (semE_kind b).1 d
      exact hs ⟨by unfold slimF; simp [a, hkp], by unfold slimF; simp [b, hkn]⟩
    rw [e]
    refine Pure.of_body tt [] [4] Try.func20 rfl rfl rfl (Nat.le_of_ble_eq_true rfl) fun g => ?_
    repeat' first
      | (refine then_go hm htt ?_; conv => whnf)
      | (refine Side.mk (by first | assumption | exact trivial | rfl | exact Nat.le_of_ble_eq_true rfl | omega) ?_; conv => whnf)
      | (refine Hyp.mk fun hlen => ?_; replace hlen : _ ≤ 17592186044416 := hlen; conv => whnf)
      | (refine Split.ct ?_; conv => whnf)
      | (refine Split.cf ?_; conv => whnf)
      | (refine Split.of_true (by first | rfl | assumption | ((try simp only [bytes_eq, bytes_ne, empty_bytes, bytes_bne, bytes_bne']); (try simp only [decide_eq_true_eq, decide_eq_false_iff_not, beq_iff_eq, beq_eq_false_iff_ne, bne_iff_ne, bne_eq_false_iff_eq, Bool.not_eq_true', Bool.not_eq_false', Tree.isNil_iff, Tree.isNil_not, Int.not_lt, Int.not_le, gt_iff_lt, ge_iff_le, ne_eq, Decidable.not_not, Int.toNat_natCast, Int.toNat_zero, Int.toNat_one]); first | assumption | omega)) ?_; conv => whnf)
      | (refine Split.of_false (by first | rfl | assumption | ((try simp only [bytes_eq, bytes_ne, empty_bytes, bytes_bne, bytes_bne']); (try simp only [decide_eq_true_eq, decide_eq_false_iff_not, beq_iff_eq, beq_eq_false_iff_ne, bne_iff_ne, bne_eq_false_iff_eq, Bool.not_eq_true', Bool.not_eq_false', Tree.isNil_iff, Tree.isNil_not, Int.not_lt, Int.not_le, gt_iff_lt, ge_iff_le, ne_eq, Decidable.not_not, Int.toNat_natCast, Int.toNat_zero, Int.toNat_one]); first | assumption | omega)) ?_; conv => whnf)
      | (refine Indep.mk (by kernel_rfl) ?_; conv => whnf)
      | (refine CallG.pure h1 rfl ?_; conv => whnf)
      | (refine CallG.pure h2 rfl ?_; conv => whnf)
      | (refine Side.mk (semE_ne (by assumption)) ?_; conv => whnf)
      | (exfalso; exact hfin (by assumption) (by assumption) (by omega) (by omega))
      | (refine Split.mk (fun hc => ?_) (fun hc => ?_) <;> (try simp only [bytes_eq, bytes_ne, empty_bytes, bytes_bne, bytes_bne'] at hc) <;> (try simp only [decide_eq_true_eq, decide_eq_false_iff_not, beq_iff_eq, beq_eq_false_iff_ne, bne_iff_ne, bne_eq_false_iff_eq, Bool.not_eq_true', Bool.not_eq_false', Tree.isNil_iff, Tree.isNil_not, Int.not_lt, Int.not_le, gt_iff_lt, ge_iff_le, ne_eq, Decidable.not_not, Int.toNat_natCast, Int.toNat_zero, Int.toNat_one] at hc) <;> conv => whnf)
    all_goals exact ret_closed rfl (bool_eq (by simp_all)) rfl
end Ex
end Go.Proofs.Ytfblaochmhhknaa

namespace Go.Proofs.Ytfblaochmhhknaa
namespace Ex
open Go Go.Mq
set_option linter.all false

/-! The chapter's example -/
def typT (c : Tree) : Tree := .node 161 0 ByteArray.empty ByteArray.empty [c]
theorem w_inst1 : instF (typT (varT 0)) (typT wI) 1 = ([wI], 0) := by kernel_rfl
theorem w_inst2 : instF (typT wI) (typT (varT 0)) 1 = ([], 24) := by kernel_rfl
theorem w_narrow : narrowF (typT (varT 0)) (typT wI) = true := by kernel_rfl
set_option maxRecDepth 10000 in
theorem typ_ok (c : Tree) : Pure P 63 [.d (.tree c)] (.d (.tree (typT c))) := by
  refine Pure.of_body tt [4, 6] [2] Try.func63 rfl rfl rfl (Nat.le_of_ble_eq_true rfl) fun g => ?_
  repeat' first
    | (refine then_go hm htt ?_; conv => whnf)
    | (refine Side.mk (by first | assumption | exact trivial | rfl | exact Nat.le_of_ble_eq_true rfl | omega) ?_; conv => whnf)
    | (refine Hyp.mk fun hlen => ?_; replace hlen : _ ≤ 17592186044416 := hlen; conv => whnf)
    | (refine Split.ct ?_; conv => whnf)
    | (refine Split.cf ?_; conv => whnf)
    | (refine Split.of_true (by first | rfl | assumption | ((try simp only [bytes_eq, bytes_ne, empty_bytes, bytes_bne, bytes_bne']); (try simp only [decide_eq_true_eq, decide_eq_false_iff_not, beq_iff_eq, beq_eq_false_iff_ne, bne_iff_ne, bne_eq_false_iff_eq, Bool.not_eq_true', Bool.not_eq_false', Tree.isNil_iff, Tree.isNil_not, Int.not_lt, Int.not_le, gt_iff_lt, ge_iff_le, ne_eq, Decidable.not_not, Int.toNat_natCast, Int.toNat_zero, Int.toNat_one]); first | assumption | omega)) ?_; conv => whnf)
    | (refine Split.of_false (by first | rfl | assumption | ((try simp only [bytes_eq, bytes_ne, empty_bytes, bytes_bne, bytes_bne']); (try simp only [decide_eq_true_eq, decide_eq_false_iff_not, beq_iff_eq, beq_eq_false_iff_ne, bne_iff_ne, bne_eq_false_iff_eq, Bool.not_eq_true', Bool.not_eq_false', Tree.isNil_iff, Tree.isNil_not, Int.not_lt, Int.not_le, gt_iff_lt, ge_iff_le, ne_eq, Decidable.not_not, Int.toNat_natCast, Int.toNat_zero, Int.toNat_one]); first | assumption | omega)) ?_; conv => whnf)
    | (refine Indep.mk (by kernel_rfl) ?_; conv => whnf)
    | (refine Split.mk (fun hc => ?_) (fun hc => ?_) <;> (try simp only [bytes_eq, bytes_ne, empty_bytes, bytes_bne, bytes_bne'] at hc) <;> (try simp only [decide_eq_true_eq, decide_eq_false_iff_not, beq_iff_eq, beq_eq_false_iff_ne, bne_iff_ne, bne_eq_false_iff_eq, Bool.not_eq_true', Bool.not_eq_false', Tree.isNil_iff, Tree.isNil_not, Int.not_lt, Int.not_le, gt_iff_lt, ge_iff_le, ne_eq, Decidable.not_not, Int.toNat_natCast, Int.toNat_zero, Int.toNat_one] at hc) <;> conv => whnf)
  exact ret_closed rfl (tree_eq rfl) rfl

set_option maxRecDepth 10000 in
theorem works29_ok : Pure P 21 [] (.d (.bool true)) := by
  have h1 : Pure P 16 [.d (.tree (typT (varT 0))), .d (.tree (typT wI)), .d (.int .i64 1)] (.tuple [.d (.trees [wI]), .d (.int .i64 0)]) := by
    have := inst_ok (typT (varT 0)) (typT wI) 1
    rw [w_inst1] at this
    exact this
  have h2 : Pure P 16 [.d (.tree (typT wI)), .d (.tree (typT (varT 0))), .d (.int .i64 1)] (.tuple [.d (.trees []), .d (.int .i64 24)]) := by
    have := inst_ok (typT wI) (typT (varT 0)) 1
    rw [w_inst2] at this
    exact this
  have h3 : Pure P 19 [.d (.tree (typT (varT 0))), .d (.tree (typT wI))] (.d (.bool true)) := by
    have := Narrow_ok (typT (varT 0)) (typT wI)
    rw [w_narrow] at this
    exact this
  refine Pure.of_body tt [8, 11] [0] Try.func21 rfl rfl rfl (Nat.le_of_ble_eq_true rfl) fun g => ?_
  repeat' first
    | (refine then_go hm htt ?_; conv => whnf)
    | (refine Side.mk (by first | assumption | exact trivial | rfl | exact Nat.le_of_ble_eq_true rfl | omega) ?_; conv => whnf)
    | (refine Hyp.mk fun hlen => ?_; replace hlen : _ ≤ 17592186044416 := hlen; conv => whnf)
    | (refine Split.ct ?_; conv => whnf)
    | (refine Split.cf ?_; conv => whnf)
    | (refine Split.of_true (by first | rfl | assumption | ((try simp only [bytes_eq, bytes_ne, empty_bytes, bytes_bne, bytes_bne']); (try simp only [decide_eq_true_eq, decide_eq_false_iff_not, beq_iff_eq, beq_eq_false_iff_ne, bne_iff_ne, bne_eq_false_iff_eq, Bool.not_eq_true', Bool.not_eq_false', Tree.isNil_iff, Tree.isNil_not, Int.not_lt, Int.not_le, gt_iff_lt, ge_iff_le, ne_eq, Decidable.not_not, Int.toNat_natCast, Int.toNat_zero, Int.toNat_one]); first | assumption | omega)) ?_; conv => whnf)
    | (refine Split.of_false (by first | rfl | assumption | ((try simp only [bytes_eq, bytes_ne, empty_bytes, bytes_bne, bytes_bne']); (try simp only [decide_eq_true_eq, decide_eq_false_iff_not, beq_iff_eq, beq_eq_false_iff_ne, bne_iff_ne, bne_eq_false_iff_eq, Bool.not_eq_true', Bool.not_eq_false', Tree.isNil_iff, Tree.isNil_not, Int.not_lt, Int.not_le, gt_iff_lt, ge_iff_le, ne_eq, Decidable.not_not, Int.toNat_natCast, Int.toNat_zero, Int.toNat_one]); first | assumption | omega)) ?_; conv => whnf)
    | (refine Indep.mk (by kernel_rfl) ?_; conv => whnf)
    | (refine Side.mk (show (0 : Int) ≤ 0 ∧ (0 : Int) < (([wI] : List Tree).length : Int) from ⟨Int.le_refl 0, by decide⟩) ?_; conv => whnf)
    | (refine Side.mk (show [wI].getD (Int.toNat 0) Tree.nil ≠ Tree.nil from fun h => Tree.noConfusion h) ?_; conv => whnf)
    | (refine CallG.pure (typ_ok (varT 0)) rfl ?_; conv => whnf)
    | (refine CallG.pure (typ_ok wI) rfl ?_; conv => whnf)
    | (refine CallG.pure h1 rfl ?_; conv => whnf)
    | (refine CallG.pure h2 rfl ?_; conv => whnf)
    | (refine CallG.pure h3 rfl ?_; conv => whnf)
    | (refine Split.mk (fun hc => ?_) (fun hc => ?_) <;> (try simp only [bytes_eq, bytes_ne, empty_bytes, bytes_bne, bytes_bne'] at hc) <;> (try simp only [decide_eq_true_eq, decide_eq_false_iff_not, beq_iff_eq, beq_eq_false_iff_ne, bne_iff_ne, bne_eq_false_iff_eq, Bool.not_eq_true', Bool.not_eq_false', Tree.isNil_iff, Tree.isNil_not, Int.not_lt, Int.not_le, gt_iff_lt, ge_iff_le, ne_eq, Decidable.not_not, Int.toNat_natCast, Int.toNat_zero, Int.toNat_one] at hc) <;> conv => whnf)
  all_goals exact ret_closed rfl rfl rfl

/-! The laws -/
set_option maxHeartbeats 4000000 in
set_option maxRecDepth 10000 in
theorem expoInstances_ok (l u : List Cel) (vars : Int) : Pure P 3 [.agg [.d (cellsD l)], .agg [.d (cellsD u)], .d (.int .i64 vars)] (.d (.bool true)) := by
  have hfw := few_ok l
  have hfu := few_ok u
  generalize fewF l = T at hfw
  generalize fewF u = U at hfu
  have h1 := inst_ok T U vars
  have h2 := rinst_ok T U vars
  have h3 := Narrow_ok T U
  have h4 := rNarrow_ok T U
  generalize instF T U vars = R at h1 h2
  obtain ⟨rl, re⟩ := R
  simp only [] at h1 h2
  generalize narrowF T U = B at h3 h4
  refine Pure.of_body tt [] [6] Try.func3 rfl rfl rfl (Nat.le_of_ble_eq_true rfl) fun g => ?_
  repeat' first
    | (refine then_go hm htt ?_; conv => whnf)
    | (refine Side.mk (by first | assumption | exact trivial | rfl | exact Nat.le_of_ble_eq_true rfl | omega) ?_; conv => whnf)
    | (refine Hyp.mk fun hlen => ?_; replace hlen : _ ≤ 17592186044416 := hlen; conv => whnf)
    | (refine Split.ct ?_; conv => whnf)
    | (refine Split.cf ?_; conv => whnf)
    | (refine Split.of_true (by first | rfl | assumption | ((try simp only [bytes_eq, bytes_ne, empty_bytes, bytes_bne, bytes_bne']); (try simp only [decide_eq_true_eq, decide_eq_false_iff_not, beq_iff_eq, beq_eq_false_iff_ne, bne_iff_ne, bne_eq_false_iff_eq, Bool.not_eq_true', Bool.not_eq_false', Tree.isNil_iff, Tree.isNil_not, Int.not_lt, Int.not_le, gt_iff_lt, ge_iff_le, ne_eq, Decidable.not_not, Int.toNat_natCast, Int.toNat_zero, Int.toNat_one]); first | assumption | omega)) ?_; conv => whnf)
    | (refine Split.of_false (by first | rfl | assumption | ((try simp only [bytes_eq, bytes_ne, empty_bytes, bytes_bne, bytes_bne']); (try simp only [decide_eq_true_eq, decide_eq_false_iff_not, beq_iff_eq, beq_eq_false_iff_ne, bne_iff_ne, bne_eq_false_iff_eq, Bool.not_eq_true', Bool.not_eq_false', Tree.isNil_iff, Tree.isNil_not, Int.not_lt, Int.not_le, gt_iff_lt, ge_iff_le, ne_eq, Decidable.not_not, Int.toNat_natCast, Int.toNat_zero, Int.toNat_one]); first | assumption | omega)) ?_; conv => whnf)
    | (refine Indep.mk (by kernel_rfl) ?_; conv => whnf)
    | (refine Split.of_true (beq_self_eq_true _) ?_; conv => whnf)
    | (refine CallG.pure hfw rfl ?_; conv => whnf)
    | (refine CallG.pure hfu rfl ?_; conv => whnf)
    | (refine CallG.pure h1 rfl ?_; conv => whnf)
    | (refine CallG.pure h2 rfl ?_; conv => whnf)
    | (refine CallG.pure (samecons_self _) rfl ?_; conv => whnf)
    | (refine CallG.pure h3 rfl ?_; conv => whnf)
    | (refine CallG.pure h4 rfl ?_; conv => whnf)
    | (refine CallG.pure works29_ok rfl ?_; conv => whnf)
    | (refine Split.mk (fun hc => ?_) (fun hc => ?_) <;> (try simp only [bytes_eq, bytes_ne, empty_bytes, bytes_bne, bytes_bne'] at hc) <;> (try simp only [decide_eq_true_eq, decide_eq_false_iff_not, beq_iff_eq, beq_eq_false_iff_ne, bne_iff_ne, bne_eq_false_iff_eq, Bool.not_eq_true', Bool.not_eq_false', Tree.isNil_iff, Tree.isNil_not, Int.not_lt, Int.not_le, gt_iff_lt, ge_iff_le, ne_eq, Decidable.not_not, Int.toNat_natCast, Int.toNat_zero, Int.toNat_one] at hc) <;> conv => whnf)
  all_goals exact ret_closed rfl rfl rfl

/-! Of nothing, an instance is what is alike. -/
theorem fits_nil (T : Tree) : ∀ (n : Tree) (d : Int), EB T → Full n → 0 ≤ d → d + 8192 * sizeN T ≤ 1125899906842624 → (fitsF T n d []).1 = sameF T n := by
  induction T using Tree.ind' with
  | h0 => intro n d hF; cases hF
  | h1 T hT ih =>
    intro n d hF hn hd0 hd1
    have hsz := sizeN_kids hT
    have heb := hF.ebinds
    have hwe : IntKind.i64.wrap (d + ebindsF T) = d + ebindsF T := wrap64 (by omega) (by omega)
    rw [fitsF_eq hT, if_neg, sameF_eq hT hn.ne]
    · by_cases hs : T.kind ≠ n.kind ∨ T.n ≠ n.n ∨ T.name ≠ n.name ∨ T.mark ≠ n.mark ∨ T.kids.length ≠ n.kids.length
      · rw [if_pos hs]
        have hl : T.kids.length ≠ n.kids.length → samesF T.kids n.kids = false := fun h => by
          cases hq : samesF T.kids n.kids with
          | false => rfl
          | true => exact absurd (samesF_len _ _ hq) h
        rcases hs with h | h | h | h | h
        · simp [h]
        · simp [h]
        · simp [h]
        · simp [h]
        · rw [hl h]; simp
      · rw [if_neg hs]
        have hs1 : T.kind = n.kind ∧ T.n = n.n ∧ T.name = n.name ∧ T.mark = n.mark ∧ T.kids.length = n.kids.length := by
          refine ⟨?_, ?_, ?_, ?_, ?_⟩ <;> (apply Decidable.byContradiction; intro h; exact hs (by simp [h]))
        obtain ⟨s1, s2, s3, s4, s5⟩ := hs1
        rw [decide_eq_true s1, decide_eq_true s2, decide_eq_true s3, decide_eq_true s4]
        simp only [Bool.true_and]
        have kids : ∀ (l ys : List Tree), l.length = ys.length → (∀ x ∈ l, ∀ y ∈ ys, (fitsF x y (IntKind.i64.wrap (d + ebindsF T)) []).1 = sameF x y) → (fitssF l ys (IntKind.i64.wrap (d + ebindsF T)) []).1 = samesF l ys := by
          intro l
          induction l with
          | nil =>
            intro ys h _
            cases ys with
            | nil => rw [fitssF, samesF]
            | cons => simp at h
          | cons x l ih2 =>
            intro ys h hx
            cases ys with
            | nil => simp at h
            | cons y ys =>
              have h1 := hx x (by simp) y (by simp)
              have h2 := fits_len x y (IntKind.i64.wrap (d + ebindsF T)) []
              have h3 : (fitsF x y (IntKind.i64.wrap (d + ebindsF T)) []).2 = [] := List.length_eq_zero_iff.1 h2
              rw [fitssF, samesF, List.getD_cons_zero, List.drop_one, List.tail_cons, ← h1, h3]
              split
              · rename_i hc
                rw [hc, Bool.true_and]
                exact ih2 ys (by simpa using h) fun a ha b hb => hx a (by simp [ha]) b (by simp [hb])
              · rename_i hc
                simp only [Bool.not_eq_true] at hc
                rw [hc]; rfl
        refine kids _ _ s5 fun x hx y hy => ?_
        have hsx := sizesN_mem hx
        exact ih x hx y _ (hF.k x hx) (hn.kids y hy) (by rw [hwe]; omega) (by rw [hwe]; omega)
    · rintro ⟨h1, h2, h3⟩
      have := hF.v h1
      rw [wrap64 (by omega) (by omega)] at h3
      simp at h3
      omega
theorem inst_nil {T U : Tree} (hT : formF T = true) (hU : formF U = true) : instF T U 0 = if sameF T U = true then ([], 0) else ([], 24) := by
  obtain ⟨h1, h2⟩ := form_EB hT
  have h3 := (form_EB hU).1.full
  have e := fits_nil T U 0 h1 h3 (Int.le_refl 0) (sizeN_room h2)
  have e2 : (fitsF T U 0 []).2 = [] := List.length_eq_zero_iff.1 (fits_len T U 0 [])
  unfold instF
  rw [if_neg (by simp [hT]), if_neg (by simp [hU]), if_neg (by omega), if_neg (by omega), show List.replicate (0 : Int).toNat Tree.nil = [] from rfl, e, e2]
theorem con_form {T : Tree} (h : conE T = 0) : formF T = true := by unfold formF; simp [h]
theorem inst_one {T : Tree} (h : conE T = 0) : instF (varT 0) T 1 = ([T], 0) := by
  have hv : formF (varT 0) = true := by kernel_rfl
  have hs : shiftR T (IntKind.i64.wrap (0 - 0)) 0 = (T, 0) := by
    rw [show IntKind.i64.wrap (0 - 0) = 0 from rfl, shiftR_vmap h (Int.le_refl 0), back_zero h]
  have e : fitsF (varT 0) T 0 [.nil] = (true, [T]) := by
    rw [fitsF_eq (by unfold varT; simp), if_pos (by decide)]
    show varF [.nil] (IntKind.i64.wrap (0 - 0)) T 0 = _
    unfold varF
    rw [if_neg (by simp [h]), if_neg (by simp [anyOcc]), hs, if_neg (by simp)]
    have e1 : fillC [.nil] ((IntKind.i64.wrap (0 - 0)).toNat * 1) T = [T] := rfl
    simp only []
    rw [e1]
    have e2 : [T].getD ((IntKind.i64.wrap (0 - 0)).toNat * 1) .nil = T := rfl
    rw [e2, (sameF_iff T T).2 rfl]
  unfold instF
  rw [if_neg (by simp [hv]), if_neg (by simp [con_form h]), if_neg (by omega), if_neg (by omega), show List.replicate (1 : Int).toNat Tree.nil = [.nil] from rfl, e, if_pos rfl]
theorem inst_val {T U : Tree} {v e : Int} {m : List Tree} (h : instF T U v = (m, e)) : Pure P 16 [.d (.tree T), .d (.tree U), .d (.int .i64 v)] (.tuple [.d (.trees m), .d (.int .i64 e)]) := by
  have := inst_ok T U v
  rw [h] at this
  exact this

set_option maxHeartbeats 4000000 in
set_option maxRecDepth 10000 in
theorem expoCons_ok (l u : List Cel) : Pure P 4 [.agg [.d (cellsD l)], .agg [.d (cellsD u)]] (.d (.bool true)) := by
  have hfw := few_ok l
  have hfu := few_ok u
  generalize fewF l = T at hfw
  generalize fewF u = U at hfu
  refine Pure.of_body tt [28] [4] Try.func4 rfl rfl rfl (Nat.le_of_ble_eq_true rfl) fun g => ?_
  by_cases hT : conE T = 0
  · by_cases hU : conE U = 0
    · have c1 := check_zero hT
      have c2 := check_zero hU
      have i1 := inst_val (inst_one hT)
      have i2 : instF T T 0 = ([], 0) := by rw [inst_nil (con_form hT) (con_form hT), if_pos ((sameF_iff T T).2 rfl)]
      have i2 := inst_val i2
      have i3 := inst_nil (con_form hT) (con_form hU)
      have s1 := same_self T
      have s2 := same_ok T U
      cases hs : sameF T U with
      | true =>
        rw [hs] at i3 s2
        have i3 := inst_val i3
        repeat' first
          | (refine then_go hm htt ?_; conv => whnf)
          | (refine Side.mk (by first | assumption | exact trivial | rfl | exact Nat.le_of_ble_eq_true rfl | omega) ?_; conv => whnf)
          | (refine Hyp.mk fun hlen => ?_; replace hlen : _ ≤ 17592186044416 := hlen; conv => whnf)
          | (refine Split.ct ?_; conv => whnf)
          | (refine Split.cf ?_; conv => whnf)
          | (refine Split.of_true (by first | rfl | assumption | ((try simp only [bytes_eq, bytes_ne, empty_bytes, bytes_bne, bytes_bne']); (try simp only [decide_eq_true_eq, decide_eq_false_iff_not, beq_iff_eq, beq_eq_false_iff_ne, bne_iff_ne, bne_eq_false_iff_eq, Bool.not_eq_true', Bool.not_eq_false', Tree.isNil_iff, Tree.isNil_not, Int.not_lt, Int.not_le, gt_iff_lt, ge_iff_le, ne_eq, Decidable.not_not, Int.toNat_natCast, Int.toNat_zero, Int.toNat_one]); first | assumption | omega)) ?_; conv => whnf)
          | (refine Split.of_false (by first | rfl | assumption | ((try simp only [bytes_eq, bytes_ne, empty_bytes, bytes_bne, bytes_bne']); (try simp only [decide_eq_true_eq, decide_eq_false_iff_not, beq_iff_eq, beq_eq_false_iff_ne, bne_iff_ne, bne_eq_false_iff_eq, Bool.not_eq_true', Bool.not_eq_false', Tree.isNil_iff, Tree.isNil_not, Int.not_lt, Int.not_le, gt_iff_lt, ge_iff_le, ne_eq, Decidable.not_not, Int.toNat_natCast, Int.toNat_zero, Int.toNat_one]); first | assumption | omega)) ?_; conv => whnf)
          | (refine Indep.mk (by kernel_rfl) ?_; conv => whnf)
          | (refine Side.mk (show (0 : Int) ≤ 0 ∧ (0 : Int) < (([T] : List Tree).length : Int) from ⟨Int.le_refl 0, by simp⟩) ?_; conv => whnf)
          | (refine CallG.pure hfw rfl ?_; conv => whnf)
          | (refine CallG.pure hfu rfl ?_; conv => whnf)
          | (refine CallG.pure c1 rfl ?_; conv => whnf)
          | (refine CallG.pure c2 rfl ?_; conv => whnf)
          | (refine CallG.pure i1 rfl ?_; conv => whnf)
          | (refine CallG.pure i2 rfl ?_; conv => whnf)
          | (refine CallG.pure i3 rfl ?_; conv => whnf)
          | (refine CallG.pure s1 rfl ?_; conv => whnf)
          | (refine CallG.pure s2 rfl ?_; conv => whnf)
          | (refine CallG.pure works29_ok rfl ?_; conv => whnf)
          | (refine Split.mk (fun hc => ?_) (fun hc => ?_) <;> (try simp only [bytes_eq, bytes_ne, empty_bytes, bytes_bne, bytes_bne'] at hc) <;> (try simp only [decide_eq_true_eq, decide_eq_false_iff_not, beq_iff_eq, beq_eq_false_iff_ne, bne_iff_ne, bne_eq_false_iff_eq, Bool.not_eq_true', Bool.not_eq_false', Tree.isNil_iff, Tree.isNil_not, Int.not_lt, Int.not_le, gt_iff_lt, ge_iff_le, ne_eq, Decidable.not_not, Int.toNat_natCast, Int.toNat_zero, Int.toNat_one] at hc) <;> conv => whnf)
        all_goals exact ret_closed rfl rfl rfl
      | false =>
        rw [hs] at i3 s2
        have i3 := inst_val i3
        repeat' first
          | (refine then_go hm htt ?_; conv => whnf)
          | (refine Side.mk (by first | assumption | exact trivial | rfl | exact Nat.le_of_ble_eq_true rfl | omega) ?_; conv => whnf)
          | (refine Hyp.mk fun hlen => ?_; replace hlen : _ ≤ 17592186044416 := hlen; conv => whnf)
          | (refine Split.ct ?_; conv => whnf)
          | (refine Split.cf ?_; conv => whnf)
          | (refine Split.of_true (by first | rfl | assumption | ((try simp only [bytes_eq, bytes_ne, empty_bytes, bytes_bne, bytes_bne']); (try simp only [decide_eq_true_eq, decide_eq_false_iff_not, beq_iff_eq, beq_eq_false_iff_ne, bne_iff_ne, bne_eq_false_iff_eq, Bool.not_eq_true', Bool.not_eq_false', Tree.isNil_iff, Tree.isNil_not, Int.not_lt, Int.not_le, gt_iff_lt, ge_iff_le, ne_eq, Decidable.not_not, Int.toNat_natCast, Int.toNat_zero, Int.toNat_one]); first | assumption | omega)) ?_; conv => whnf)
          | (refine Split.of_false (by first | rfl | assumption | ((try simp only [bytes_eq, bytes_ne, empty_bytes, bytes_bne, bytes_bne']); (try simp only [decide_eq_true_eq, decide_eq_false_iff_not, beq_iff_eq, beq_eq_false_iff_ne, bne_iff_ne, bne_eq_false_iff_eq, Bool.not_eq_true', Bool.not_eq_false', Tree.isNil_iff, Tree.isNil_not, Int.not_lt, Int.not_le, gt_iff_lt, ge_iff_le, ne_eq, Decidable.not_not, Int.toNat_natCast, Int.toNat_zero, Int.toNat_one]); first | assumption | omega)) ?_; conv => whnf)
          | (refine Indep.mk (by kernel_rfl) ?_; conv => whnf)
          | (refine Side.mk (show (0 : Int) ≤ 0 ∧ (0 : Int) < (([T] : List Tree).length : Int) from ⟨Int.le_refl 0, by simp⟩) ?_; conv => whnf)
          | (refine CallG.pure hfw rfl ?_; conv => whnf)
          | (refine CallG.pure hfu rfl ?_; conv => whnf)
          | (refine CallG.pure c1 rfl ?_; conv => whnf)
          | (refine CallG.pure c2 rfl ?_; conv => whnf)
          | (refine CallG.pure i1 rfl ?_; conv => whnf)
          | (refine CallG.pure i2 rfl ?_; conv => whnf)
          | (refine CallG.pure i3 rfl ?_; conv => whnf)
          | (refine CallG.pure s1 rfl ?_; conv => whnf)
          | (refine CallG.pure s2 rfl ?_; conv => whnf)
          | (refine CallG.pure works29_ok rfl ?_; conv => whnf)
          | (refine Split.mk (fun hc => ?_) (fun hc => ?_) <;> (try simp only [bytes_eq, bytes_ne, empty_bytes, bytes_bne, bytes_bne'] at hc) <;> (try simp only [decide_eq_true_eq, decide_eq_false_iff_not, beq_iff_eq, beq_eq_false_iff_ne, bne_iff_ne, bne_eq_false_iff_eq, Bool.not_eq_true', Bool.not_eq_false', Tree.isNil_iff, Tree.isNil_not, Int.not_lt, Int.not_le, gt_iff_lt, ge_iff_le, ne_eq, Decidable.not_not, Int.toNat_natCast, Int.toNat_zero, Int.toNat_one] at hc) <;> conv => whnf)
        all_goals exact ret_closed rfl rfl rfl
    · have c1 := check_zero hT
      have c2 := check_ok U
      repeat' first
        | (refine then_go hm htt ?_; conv => whnf)
        | (refine Side.mk (by first | assumption | exact trivial | rfl | exact Nat.le_of_ble_eq_true rfl | omega) ?_; conv => whnf)
        | (refine Hyp.mk fun hlen => ?_; replace hlen : _ ≤ 17592186044416 := hlen; conv => whnf)
        | (refine Split.ct ?_; conv => whnf)
        | (refine Split.cf ?_; conv => whnf)
        | (refine Split.of_true (by first | rfl | assumption | ((try simp only [bytes_eq, bytes_ne, empty_bytes, bytes_bne, bytes_bne']); (try simp only [decide_eq_true_eq, decide_eq_false_iff_not, beq_iff_eq, beq_eq_false_iff_ne, bne_iff_ne, bne_eq_false_iff_eq, Bool.not_eq_true', Bool.not_eq_false', Tree.isNil_iff, Tree.isNil_not, Int.not_lt, Int.not_le, gt_iff_lt, ge_iff_le, ne_eq, Decidable.not_not, Int.toNat_natCast, Int.toNat_zero, Int.toNat_one]); first | assumption | omega)) ?_; conv => whnf)
        | (refine Split.of_false (by first | rfl | assumption | ((try simp only [bytes_eq, bytes_ne, empty_bytes, bytes_bne, bytes_bne']); (try simp only [decide_eq_true_eq, decide_eq_false_iff_not, beq_iff_eq, beq_eq_false_iff_ne, bne_iff_ne, bne_eq_false_iff_eq, Bool.not_eq_true', Bool.not_eq_false', Tree.isNil_iff, Tree.isNil_not, Int.not_lt, Int.not_le, gt_iff_lt, ge_iff_le, ne_eq, Decidable.not_not, Int.toNat_natCast, Int.toNat_zero, Int.toNat_one]); first | assumption | omega)) ?_; conv => whnf)
        | (refine Indep.mk (by kernel_rfl) ?_; conv => whnf)
        | (refine CallG.pure hfw rfl ?_; conv => whnf)
        | (refine CallG.pure hfu rfl ?_; conv => whnf)
        | (refine CallG.pure c1 rfl ?_; conv => whnf)
        | (refine CallG.pure c2 rfl ?_; conv => whnf)
        | (refine CallG.pure works29_ok rfl ?_; conv => whnf)
        | (refine Split.mk (fun hc => ?_) (fun hc => ?_) <;> (try simp only [bytes_eq, bytes_ne, empty_bytes, bytes_bne, bytes_bne'] at hc) <;> (try simp only [decide_eq_true_eq, decide_eq_false_iff_not, beq_iff_eq, beq_eq_false_iff_ne, bne_iff_ne, bne_eq_false_iff_eq, Bool.not_eq_true', Bool.not_eq_false', Tree.isNil_iff, Tree.isNil_not, Int.not_lt, Int.not_le, gt_iff_lt, ge_iff_le, ne_eq, Decidable.not_not, Int.toNat_natCast, Int.toNat_zero, Int.toNat_one] at hc) <;> conv => whnf)
      all_goals exact ret_closed rfl rfl rfl
  · have c1 := check_ok T
    repeat' first
      | (refine then_go hm htt ?_; conv => whnf)
      | (refine Side.mk (by first | assumption | exact trivial | rfl | exact Nat.le_of_ble_eq_true rfl | omega) ?_; conv => whnf)
      | (refine Hyp.mk fun hlen => ?_; replace hlen : _ ≤ 17592186044416 := hlen; conv => whnf)
      | (refine Split.ct ?_; conv => whnf)
      | (refine Split.cf ?_; conv => whnf)
      | (refine Split.of_true (by first | rfl | assumption | ((try simp only [bytes_eq, bytes_ne, empty_bytes, bytes_bne, bytes_bne']); (try simp only [decide_eq_true_eq, decide_eq_false_iff_not, beq_iff_eq, beq_eq_false_iff_ne, bne_iff_ne, bne_eq_false_iff_eq, Bool.not_eq_true', Bool.not_eq_false', Tree.isNil_iff, Tree.isNil_not, Int.not_lt, Int.not_le, gt_iff_lt, ge_iff_le, ne_eq, Decidable.not_not, Int.toNat_natCast, Int.toNat_zero, Int.toNat_one]); first | assumption | omega)) ?_; conv => whnf)
      | (refine Split.of_false (by first | rfl | assumption | ((try simp only [bytes_eq, bytes_ne, empty_bytes, bytes_bne, bytes_bne']); (try simp only [decide_eq_true_eq, decide_eq_false_iff_not, beq_iff_eq, beq_eq_false_iff_ne, bne_iff_ne, bne_eq_false_iff_eq, Bool.not_eq_true', Bool.not_eq_false', Tree.isNil_iff, Tree.isNil_not, Int.not_lt, Int.not_le, gt_iff_lt, ge_iff_le, ne_eq, Decidable.not_not, Int.toNat_natCast, Int.toNat_zero, Int.toNat_one]); first | assumption | omega)) ?_; conv => whnf)
      | (refine Indep.mk (by kernel_rfl) ?_; conv => whnf)
      | (refine CallG.pure hfw rfl ?_; conv => whnf)
      | (refine CallG.pure hfu rfl ?_; conv => whnf)
      | (refine CallG.pure c1 rfl ?_; conv => whnf)
      | (refine CallG.pure works29_ok rfl ?_; conv => whnf)
      | (refine Split.mk (fun hc => ?_) (fun hc => ?_) <;> (try simp only [bytes_eq, bytes_ne, empty_bytes, bytes_bne, bytes_bne'] at hc) <;> (try simp only [decide_eq_true_eq, decide_eq_false_iff_not, beq_iff_eq, beq_eq_false_iff_ne, bne_iff_ne, bne_eq_false_iff_eq, Bool.not_eq_true', Bool.not_eq_false', Tree.isNil_iff, Tree.isNil_not, Int.not_lt, Int.not_le, gt_iff_lt, ge_iff_le, ne_eq, Decidable.not_not, Int.toNat_natCast, Int.toNat_zero, Int.toNat_one] at hc) <;> conv => whnf)
    all_goals exact ret_closed rfl rfl rfl
end Ex
end Go.Proofs.Ytfblaochmhhknaa
