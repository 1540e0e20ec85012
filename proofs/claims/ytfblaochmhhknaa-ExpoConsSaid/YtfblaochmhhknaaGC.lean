/- What functions of the program compute, and plain facts about it. -/
import Derived.Test.YtfblaochmhhknaaGB
set_option linter.all false
namespace Go.Proofs.Ytfblaochmhhknaa
open Go Go.Mq
set_option linter.all false

def w64 (x : Int) : Int := IntKind.i64.wrap x
def occStep (i : Int) (T : Tree) (deep : Int) (s : Bool) : Tree × Bool := (T, s || (decide (0 ≤ i) && decide (deep ≤ T.n) && decide (IntKind.i64.wrap (T.n - deep) = i)))
set_option maxHeartbeats 2000000 in
set_option maxRecDepth 10000 in
theorem occStep_ok (i : Int) (T : Tree) (deep : Int) (s : Bool) (hF : Full T) (hk : T.kind = 110) : Fun P 86 [.d (.tree T), .d (.int .i64 deep), .ref 0 0, .ref 1 0] [(0, .cells [.d (.bool s)]), (1, .cells [.d (.int .i64 i)])] 2 (.d (.tree (occStep i T deep s).1)) [(0, .cells [.d (.bool (occStep i T deep s).2)]), (1, .cells [.d (.int .i64 i)])] 2 := by
  have hT := hF.ne
  refine Fun.of_body tt [] [6] Try.func86 rfl rfl rfl (Nat.le_of_ble_eq_true rfl) fun g => ?_
  repeat' first
    | (refine then_go hm htt ?_; conv => whnf)
    | (refine Side.mk (by first | assumption | exact trivial | rfl | exact Nat.le_of_ble_eq_true rfl | omega) ?_; conv => whnf)
    | (refine Hyp.mk fun hlen => ?_; replace hlen : _ ≤ 17592186044416 := hlen; conv => whnf)
    | (refine Split.ct ?_; conv => whnf)
    | (refine Split.cf ?_; conv => whnf)
    | (refine Split.of_true (by first | rfl | assumption | ((try simp only [bytes_eq, bytes_ne, empty_bytes, bytes_bne, bytes_bne']); (try simp only [decide_eq_true_eq, decide_eq_false_iff_not, beq_iff_eq, beq_eq_false_iff_ne, bne_iff_ne, bne_eq_false_iff_eq, Bool.not_eq_true', Bool.not_eq_false', Tree.isNil_iff, Tree.isNil_not, Int.not_lt, Int.not_le, gt_iff_lt, ge_iff_le, ne_eq, Decidable.not_not, Int.toNat_natCast, Int.toNat_zero, Int.toNat_one]); first | assumption | omega)) ?_; conv => whnf)
    | (refine Split.of_false (by first | rfl | assumption | ((try simp only [bytes_eq, bytes_ne, empty_bytes, bytes_bne, bytes_bne']); (try simp only [decide_eq_true_eq, decide_eq_false_iff_not, beq_iff_eq, beq_eq_false_iff_ne, bne_iff_ne, bne_eq_false_iff_eq, Bool.not_eq_true', Bool.not_eq_false', Tree.isNil_iff, Tree.isNil_not, Int.not_lt, Int.not_le, gt_iff_lt, ge_iff_le, ne_eq, Decidable.not_not, Int.toNat_natCast, Int.toNat_zero, Int.toNat_one]); first | assumption | omega)) ?_; conv => whnf)
    | (refine Indep.mk (by kernel_rfl) ?_; conv => whnf)
    | (refine Split.mk (fun hc => ?_) (fun hc => ?_) <;> (try simp only [bytes_eq, bytes_ne, empty_bytes, bytes_bne, bytes_bne'] at hc) <;> (try simp only [decide_eq_true_eq, decide_eq_false_iff_not, beq_iff_eq, beq_eq_false_iff_ne, bne_iff_ne, bne_eq_false_iff_eq, Bool.not_eq_true', Bool.not_eq_false', Tree.isNil_iff, Tree.isNil_not, Int.not_lt, Int.not_le, gt_iff_lt, ge_iff_le, ne_eq, Decidable.not_not, Int.toNat_natCast, Int.toNat_zero, Int.toNat_one] at hc) <;> conv => whnf)
  all_goals refine ret_objs rfl rfl (tree_eq rfl) ⟨cell_bool ?_, rfl, trivial⟩ (Nat.le_refl _)
  all_goals (simp_all [occStep, int_dec] <;> omega)

set_option maxHeartbeats 2000000 in
set_option maxRecDepth 10000 in
theorem walkOcc_ok (j : Int) (T : Tree) : ∀ (deep : Int) (s : Bool), Full T → Fun P 75 [.d (.tree T), .d (.int .i64 deep), .fn 86 [.ref 0 0, .ref 1 0]] ([(0, .cells [.d (.bool s)]), (1, .cells [.d (.int .i64 j)])]) 2 (.d (.tree (walkF (occStep j) T deep s).1)) ([(0, .cells [.d (.bool (walkF (occStep j) T deep s).2)]), (1, .cells [.d (.int .i64 j)])]) 2 := by
  induction T using Tree.ind' with
  | h0 => intro deep s hF; exact absurd rfl hF.ne
  | h1 T hT ih => ?_
  intro deep s hF
  refine Fun.of_body tt [48] [6] Try.func75 rfl rfl rfl (Nat.le_of_ble_eq_true rfl) fun g => ?_
  repeat' first
    | (refine then_go hm htt ?_; conv => whnf)
    | (refine Side.mk (by first | assumption | exact trivial | rfl | exact Nat.le_of_ble_eq_true rfl | omega) ?_; conv => whnf)
    | (refine Hyp.mk fun hlen => ?_; replace hlen : _ ≤ 17592186044416 := hlen; conv => whnf)
    | (refine Split.ct ?_; conv => whnf)
    | (refine Split.cf ?_; conv => whnf)
    | (refine Split.of_true (by first | rfl | assumption | ((try simp only [bytes_eq, bytes_ne, empty_bytes, bytes_bne, bytes_bne']); (try simp only [decide_eq_true_eq, decide_eq_false_iff_not, beq_iff_eq, beq_eq_false_iff_ne, bne_iff_ne, bne_eq_false_iff_eq, Bool.not_eq_true', Bool.not_eq_false', Tree.isNil_iff, Tree.isNil_not, Int.not_lt, Int.not_le, gt_iff_lt, ge_iff_le, ne_eq, Decidable.not_not, Int.toNat_natCast, Int.toNat_zero, Int.toNat_one]); first | assumption | omega)) ?_; conv => whnf)
    | (refine Split.of_false (by first | rfl | assumption | ((try simp only [bytes_eq, bytes_ne, empty_bytes, bytes_bne, bytes_bne']); (try simp only [decide_eq_true_eq, decide_eq_false_iff_not, beq_iff_eq, beq_eq_false_iff_ne, bne_iff_ne, bne_eq_false_iff_eq, Bool.not_eq_true', Bool.not_eq_false', Tree.isNil_iff, Tree.isNil_not, Int.not_lt, Int.not_le, gt_iff_lt, ge_iff_le, ne_eq, Decidable.not_not, Int.toNat_natCast, Int.toNat_zero, Int.toNat_one]); first | assumption | omega)) ?_; conv => whnf)
    | (refine Indep.mk (by kernel_rfl) ?_; conv => whnf)
    | (refine CallG.fun (occStep_ok j T deep s hF (by assumption)) [0, 1] rfl rfl rfl rfl rfl rfl (by repeat' first | exact trivial | apply And.intro | rfl | (refine int_eq ?_; rw [wrap64] <;> omega)) rfl ?_; conv => whnf)
    | (refine Split.mk (fun hc => ?_) (fun hc => ?_) <;> (try simp only [bytes_eq, bytes_ne, empty_bytes, bytes_bne, bytes_bne'] at hc) <;> (try simp only [decide_eq_true_eq, decide_eq_false_iff_not, beq_iff_eq, beq_eq_false_iff_ne, bne_iff_ne, bne_eq_false_iff_eq, Bool.not_eq_true', Bool.not_eq_false', Tree.isNil_iff, Tree.isNil_not, Int.not_lt, Int.not_le, gt_iff_lt, ge_iff_le, ne_eq, Decidable.not_not, Int.toNat_natCast, Int.toNat_zero, Int.toNat_one] at hc) <;> conv => whnf)
  · exact ret_objs rfl rfl (tree_eq (by rw [walkF_eq _ hT, if_pos (by assumption)])) (by rw [walkF_eq _ hT, if_pos (by assumption)]; exact (by repeat' first | exact trivial | apply And.intro | rfl | (refine int_eq ?_; rw [wrap64] <;> omega))) (Nat.le_refl _)
  · exact ret_objs rfl rfl (tree_eq (by rw [walkF_eq _ hT, if_neg (by assumption), if_pos (by omega)])) (by rw [walkF_eq _ hT, if_neg (by assumption), if_pos (by omega)]; exact (by repeat' first | exact trivial | apply And.intro | rfl | (refine int_eq ?_; rw [wrap64] <;> omega))) (Nat.le_refl _)
  refine loop_go (α := Nat × List Tree × Bool) (fun p => ⟨[(0, .d (.tree T)), (1, .d (.int .i64 deep)), (2, .fn 86 [.ref 0 0, .ref 1 0]), (7, .ref 2 0), (33, .d (.trees T.kids)), (34, .d (.int .i64 T.kids.length)), (35, .d (.int .i64 p.1))], 52, ([(0, .cells [.d (.bool p.2.2)]), (1, .cells [.d (.int .i64 j)])]) ++ [(2, .cells [.d (.int .i64 T.kind), .d (.int .i64 T.n), .d (.str T.name), .d (.str T.mark), .row 3 p.1]), (3, .row 25 (.trees p.2.1))], 4, g⟩)
        (fun p => p.1 ≤ T.kids.length ∧ p.2.1.length = p.1 ∧ walksF (occStep j) T.kids (IntKind.i64.wrap (deep + bindsF T)) s = (p.2.1 ++ (walksF (occStep j) (T.kids.drop p.1) (IntKind.i64.wrap (deep + bindsF T)) p.2.2).1, (walksF (occStep j) (T.kids.drop p.1) (IntKind.i64.wrap (deep + bindsF T)) p.2.2).2)) (fun p => T.kids.length - p.1) (0, [], s) ⟨by simp, rfl, by simp⟩
        (Ent.nil rfl rfl rfl (by repeat' first | exact trivial | apply And.intro | rfl | (refine int_eq ?_; rw [wrap64] <;> omega)) (by repeat' first | exact trivial | apply And.intro | rfl | (refine int_eq ?_; rw [wrap64] <;> omega))) (fun _ => rfl) fun p hpre => ?_
  obtain ⟨i, out, s'⟩ := p
  obtain ⟨hp1, hp2, hp3⟩ := hpre
  simp only [] at hp1 hp2 hp3
  repeat' first
    | (refine then_go hm htt ?_; conv => whnf)
    | (refine Side.mk (by first | assumption | exact trivial | rfl | exact Nat.le_of_ble_eq_true rfl | omega) ?_; conv => whnf)
    | (refine Hyp.mk fun hlen => ?_; replace hlen : _ ≤ 17592186044416 := hlen; conv => whnf)
    | (refine Split.ct ?_; conv => whnf)
    | (refine Split.cf ?_; conv => whnf)
    | (refine Split.of_true (by first | rfl | assumption | ((try simp only [bytes_eq, bytes_ne, empty_bytes, bytes_bne, bytes_bne']); (try simp only [decide_eq_true_eq, decide_eq_false_iff_not, beq_iff_eq, beq_eq_false_iff_ne, bne_iff_ne, bne_eq_false_iff_eq, Bool.not_eq_true', Bool.not_eq_false', Tree.isNil_iff, Tree.isNil_not, Int.not_lt, Int.not_le, gt_iff_lt, ge_iff_le, ne_eq, Decidable.not_not, Int.toNat_natCast, Int.toNat_zero, Int.toNat_one]); first | assumption | omega)) ?_; conv => whnf)
    | (refine Split.of_false (by first | rfl | assumption | ((try simp only [bytes_eq, bytes_ne, empty_bytes, bytes_bne, bytes_bne']); (try simp only [decide_eq_true_eq, decide_eq_false_iff_not, beq_iff_eq, beq_eq_false_iff_ne, bne_iff_ne, bne_eq_false_iff_eq, Bool.not_eq_true', Bool.not_eq_false', Tree.isNil_iff, Tree.isNil_not, Int.not_lt, Int.not_le, gt_iff_lt, ge_iff_le, ne_eq, Decidable.not_not, Int.toNat_natCast, Int.toNat_zero, Int.toNat_one]); first | assumption | omega)) ?_; conv => whnf)
    | (refine Indep.mk (by kernel_rfl) ?_; conv => whnf)
    | (refine Side.mk (show (i + 1 ≤ 17592186044416 ∧ (i + 1) * 8 ≤ 140737488355328) from ⟨by omega, by omega⟩) ?_; conv => whnf)
    | (refine CallG.pure (binds_ok T hT) rfl ?_; conv => whnf)
    | (refine CallG.fun (ih (T.kids.getD i .nil) (getD_mem (by omega)) (IntKind.i64.wrap (deep + bindsF T)) s' (hF.kid (by omega))) [0, 1] rfl rfl rfl rfl rfl rfl (by repeat' first | exact trivial | apply And.intro | rfl | (refine int_eq ?_; rw [wrap64] <;> omega)) rfl ?_; conv => whnf)
    | (refine Split.mk (fun hc => ?_) (fun hc => ?_) <;> (try simp only [bytes_eq, bytes_ne, empty_bytes, bytes_bne, bytes_bne'] at hc) <;> (try simp only [decide_eq_true_eq, decide_eq_false_iff_not, beq_iff_eq, beq_eq_false_iff_ne, bne_iff_ne, bne_eq_false_iff_eq, Bool.not_eq_true', Bool.not_eq_false', Tree.isNil_iff, Tree.isNil_not, Int.not_lt, Int.not_le, gt_iff_lt, ge_iff_le, ne_eq, Decidable.not_not, Int.toNat_natCast, Int.toNat_zero, Int.toNat_one] at hc) <;> conv => whnf)
  · rw [drop_step (by omega), walksF] at hp3
    refine ⟨(i + 1, out ++ [(walkF (occStep j) (T.kids.getD i .nil) (IntKind.i64.wrap (deep + bindsF T)) s').1], (walkF (occStep j) (T.kids.getD i .nil) (IntKind.i64.wrap (deep + bindsF T)) s').2), ⟨by simp only []; omega, by simp [hp2], by rw [hp3]; simp⟩, by simp only []; omega, Ent.re [0, 1, 2, 4] rfl rfl rfl rfl rfl rfl (by repeat' first | exact trivial | apply And.intro | rfl | (refine int_eq ?_; rw [wrap64] <;> omega)) (by repeat' first | exact trivial | apply And.intro | rfl | (refine int_eq ?_; rw [wrap64] <;> omega))⟩
  · rw [drop_end (by omega), walksF, List.append_nil] at hp3
    refine RetS.ent (Ent.fz_row 3 (l := out) rfl (by repeat' first | exact trivial | apply And.intro | rfl | exact hp2.symm | exact Nat.zero_lt_one | omega) (by repeat' first | exact trivial | apply And.intro | rfl | exact hp2.symm | exact Nat.zero_lt_one | omega)) ?_
    refine RetS.ent (Ent.fz_node 2 rfl rfl (by repeat' first | exact trivial | apply And.intro | rfl | exact hp2.symm | exact Nat.zero_lt_one | omega) (by repeat' first | exact trivial | apply And.intro | rfl | exact hp2.symm | exact Nat.zero_lt_one | omega)) ?_
    refine RetS.ent (σ' := ⟨[(6, .d (.tree (.node T.kind T.n T.name T.mark out)))], 52, [(0, .cells [.d (.bool s')]), (1, .cells [.d (.int .i64 j)])], 2, g⟩) (Ent.re [0, 1] rfl rfl rfl rfl rfl rfl (by repeat' first | exact trivial | apply And.intro | rfl | (refine int_eq ?_; rw [wrap64] <;> omega)) (by repeat' first | exact trivial | apply And.intro | rfl | (refine int_eq ?_; rw [wrap64] <;> omega))) ?_
    exact ret_objs rfl rfl (tree_eq (by rw [walkF_eq _ hT, if_neg (by assumption), if_neg (by omega), hp3])) (by rw [walkF_eq _ hT, if_neg (by assumption), if_neg (by omega), hp3]; exact (by repeat' first | exact trivial | apply And.intro | rfl | (refine int_eq ?_; rw [wrap64] <;> omega))) (Nat.le_refl _)

def shiftStep (frm by' : Int) (T : Tree) (deep : Int) (ok : Bool) : Tree × Bool :=
  if T.n < deep then (T, ok)
  else if IntKind.i64.wrap (T.n - deep) < frm then (T, ok)
  else if (ok && decide (IntKind.i64.wrap (deep - T.n) ≤ by') && decide (by' ≤ IntKind.i64.wrap (65536 - T.n))) = true then (movedF T by', true) else (T, false)
set_option maxHeartbeats 2000000 in
set_option maxRecDepth 10000 in
theorem shiftStep_ok (frm by' : Int) (T : Tree) (deep : Int) (s : Bool) (hF : Full T) (hk : T.kind = 110) : Fun P 82 [.d (.tree T), .d (.int .i64 deep), .ref 0 0, .ref 1 0, .ref 2 0] [(0, .cells [.d (.int .i64 frm)]), (1, .cells [.d (.bool s)]), (2, .cells [.d (.int .i64 by')])] 3 (.d (.tree (shiftStep frm by' T deep s).1)) [(0, .cells [.d (.int .i64 frm)]), (1, .cells [.d (.bool (shiftStep frm by' T deep s).2)]), (2, .cells [.d (.int .i64 by')])] 3 := by
  have hT := hF.ne
  refine Fun.of_body tt [] [7] Try.func82 rfl rfl rfl (Nat.le_of_ble_eq_true rfl) fun g => ?_
  repeat' first
    | (refine then_go hm htt ?_; conv => whnf)
    | (refine Side.mk (by first | assumption | exact trivial | rfl | exact Nat.le_of_ble_eq_true rfl | omega) ?_; conv => whnf)
    | (refine Hyp.mk fun hlen => ?_; replace hlen : _ ≤ 17592186044416 := hlen; conv => whnf)
    | (refine Split.ct ?_; conv => whnf)
    | (refine Split.cf ?_; conv => whnf)
    | (refine Split.of_true (by first | rfl | assumption | ((try simp only [bytes_eq, bytes_ne, empty_bytes, bytes_bne, bytes_bne']); (try simp only [decide_eq_true_eq, decide_eq_false_iff_not, beq_iff_eq, beq_eq_false_iff_ne, bne_iff_ne, bne_eq_false_iff_eq, Bool.not_eq_true', Bool.not_eq_false', Tree.isNil_iff, Tree.isNil_not, Int.not_lt, Int.not_le, gt_iff_lt, ge_iff_le, ne_eq, Decidable.not_not, Int.toNat_natCast, Int.toNat_zero, Int.toNat_one]); first | assumption | omega)) ?_; conv => whnf)
    | (refine Split.of_false (by first | rfl | assumption | ((try simp only [bytes_eq, bytes_ne, empty_bytes, bytes_bne, bytes_bne']); (try simp only [decide_eq_true_eq, decide_eq_false_iff_not, beq_iff_eq, beq_eq_false_iff_ne, bne_iff_ne, bne_eq_false_iff_eq, Bool.not_eq_true', Bool.not_eq_false', Tree.isNil_iff, Tree.isNil_not, Int.not_lt, Int.not_le, gt_iff_lt, ge_iff_le, ne_eq, Decidable.not_not, Int.toNat_natCast, Int.toNat_zero, Int.toNat_one]); first | assumption | omega)) ?_; conv => whnf)
    | (refine Indep.mk (by kernel_rfl) ?_; conv => whnf)
    | (refine CallG.pure (moved_ok T hT by') rfl ?_; conv => whnf)
    | (refine Split.mk (fun hc => ?_) (fun hc => ?_) <;> (try simp only [bytes_eq, bytes_ne, empty_bytes, bytes_bne, bytes_bne'] at hc) <;> (try simp only [decide_eq_true_eq, decide_eq_false_iff_not, beq_iff_eq, beq_eq_false_iff_ne, bne_iff_ne, bne_eq_false_iff_eq, Bool.not_eq_true', Bool.not_eq_false', Tree.isNil_iff, Tree.isNil_not, Int.not_lt, Int.not_le, gt_iff_lt, ge_iff_le, ne_eq, Decidable.not_not, Int.toNat_natCast, Int.toNat_zero, Int.toNat_one] at hc) <;> conv => whnf)
  all_goals refine ret_objs rfl rfl (tree_eq ?_) ⟨rfl, cell_bool ?_, rfl, trivial⟩ (Nat.le_refl _)
  all_goals (unfold shiftStep; (repeat' split) <;> first | rfl | omega | (exfalso; omega) | (simp_all; done) | (simp_all; omega))

set_option maxHeartbeats 2000000 in
set_option maxRecDepth 10000 in
theorem walkShift_ok (frm by' : Int) (T : Tree) : ∀ (deep : Int) (s : Bool), Full T → Fun P 75 [.d (.tree T), .d (.int .i64 deep), .fn 82 [.ref 0 0, .ref 1 0, .ref 2 0]] ([(0, .cells [.d (.int .i64 frm)]), (1, .cells [.d (.bool s)]), (2, .cells [.d (.int .i64 by')])]) 3 (.d (.tree (walkF (shiftStep frm by') T deep s).1)) ([(0, .cells [.d (.int .i64 frm)]), (1, .cells [.d (.bool (walkF (shiftStep frm by') T deep s).2)]), (2, .cells [.d (.int .i64 by')])]) 3 := by
  induction T using Tree.ind' with
  | h0 => intro deep s hF; exact absurd rfl hF.ne
  | h1 T hT ih => ?_
  intro deep s hF
  refine Fun.of_body tt [48] [6] Try.func75 rfl rfl rfl (Nat.le_of_ble_eq_true rfl) fun g => ?_
  repeat' first
    | (refine then_go hm htt ?_; conv => whnf)
    | (refine Side.mk (by first | assumption | exact trivial | rfl | exact Nat.le_of_ble_eq_true rfl | omega) ?_; conv => whnf)
    | (refine Hyp.mk fun hlen => ?_; replace hlen : _ ≤ 17592186044416 := hlen; conv => whnf)
    | (refine Split.ct ?_; conv => whnf)
    | (refine Split.cf ?_; conv => whnf)
    | (refine Split.of_true (by first | rfl | assumption | ((try simp only [bytes_eq, bytes_ne, empty_bytes, bytes_bne, bytes_bne']); (try simp only [decide_eq_true_eq, decide_eq_false_iff_not, beq_iff_eq, beq_eq_false_iff_ne, bne_iff_ne, bne_eq_false_iff_eq, Bool.not_eq_true', Bool.not_eq_false', Tree.isNil_iff, Tree.isNil_not, Int.not_lt, Int.not_le, gt_iff_lt, ge_iff_le, ne_eq, Decidable.not_not, Int.toNat_natCast, Int.toNat_zero, Int.toNat_one]); first | assumption | omega)) ?_; conv => whnf)
    | (refine Split.of_false (by first | rfl | assumption | ((try simp only [bytes_eq, bytes_ne, empty_bytes, bytes_bne, bytes_bne']); (try simp only [decide_eq_true_eq, decide_eq_false_iff_not, beq_iff_eq, beq_eq_false_iff_ne, bne_iff_ne, bne_eq_false_iff_eq, Bool.not_eq_true', Bool.not_eq_false', Tree.isNil_iff, Tree.isNil_not, Int.not_lt, Int.not_le, gt_iff_lt, ge_iff_le, ne_eq, Decidable.not_not, Int.toNat_natCast, Int.toNat_zero, Int.toNat_one]); first | assumption | omega)) ?_; conv => whnf)
    | (refine Indep.mk (by kernel_rfl) ?_; conv => whnf)
    | (refine CallG.fun (shiftStep_ok frm by' T deep s hF (by assumption)) [0, 1, 2] rfl rfl rfl rfl rfl rfl (by repeat' first | exact trivial | apply And.intro | rfl | (refine int_eq ?_; rw [wrap64] <;> omega)) rfl ?_; conv => whnf)
    | (refine Split.mk (fun hc => ?_) (fun hc => ?_) <;> (try simp only [bytes_eq, bytes_ne, empty_bytes, bytes_bne, bytes_bne'] at hc) <;> (try simp only [decide_eq_true_eq, decide_eq_false_iff_not, beq_iff_eq, beq_eq_false_iff_ne, bne_iff_ne, bne_eq_false_iff_eq, Bool.not_eq_true', Bool.not_eq_false', Tree.isNil_iff, Tree.isNil_not, Int.not_lt, Int.not_le, gt_iff_lt, ge_iff_le, ne_eq, Decidable.not_not, Int.toNat_natCast, Int.toNat_zero, Int.toNat_one] at hc) <;> conv => whnf)
  · exact ret_objs rfl rfl (tree_eq (by rw [walkF_eq _ hT, if_pos (by assumption)])) (by rw [walkF_eq _ hT, if_pos (by assumption)]; exact (by repeat' first | exact trivial | apply And.intro | rfl | (refine int_eq ?_; rw [wrap64] <;> omega))) (Nat.le_refl _)
  · exact ret_objs rfl rfl (tree_eq (by rw [walkF_eq _ hT, if_neg (by assumption), if_pos (by omega)])) (by rw [walkF_eq _ hT, if_neg (by assumption), if_pos (by omega)]; exact (by repeat' first | exact trivial | apply And.intro | rfl | (refine int_eq ?_; rw [wrap64] <;> omega))) (Nat.le_refl _)
  refine loop_go (α := Nat × List Tree × Bool) (fun p => ⟨[(0, .d (.tree T)), (1, .d (.int .i64 deep)), (2, .fn 82 [.ref 0 0, .ref 1 0, .ref 2 0]), (7, .ref 3 0), (33, .d (.trees T.kids)), (34, .d (.int .i64 T.kids.length)), (35, .d (.int .i64 p.1))], 52, ([(0, .cells [.d (.int .i64 frm)]), (1, .cells [.d (.bool p.2.2)]), (2, .cells [.d (.int .i64 by')])]) ++ [(3, .cells [.d (.int .i64 T.kind), .d (.int .i64 T.n), .d (.str T.name), .d (.str T.mark), .row 4 p.1]), (4, .row 25 (.trees p.2.1))], 5, g⟩)
        (fun p => p.1 ≤ T.kids.length ∧ p.2.1.length = p.1 ∧ walksF (shiftStep frm by') T.kids (IntKind.i64.wrap (deep + bindsF T)) s = (p.2.1 ++ (walksF (shiftStep frm by') (T.kids.drop p.1) (IntKind.i64.wrap (deep + bindsF T)) p.2.2).1, (walksF (shiftStep frm by') (T.kids.drop p.1) (IntKind.i64.wrap (deep + bindsF T)) p.2.2).2)) (fun p => T.kids.length - p.1) (0, [], s) ⟨by simp, rfl, by simp⟩
        (Ent.nil rfl rfl rfl (by repeat' first | exact trivial | apply And.intro | rfl | (refine int_eq ?_; rw [wrap64] <;> omega)) (by repeat' first | exact trivial | apply And.intro | rfl | (refine int_eq ?_; rw [wrap64] <;> omega))) (fun _ => rfl) fun p hpre => ?_
  obtain ⟨i, out, s'⟩ := p
  obtain ⟨hp1, hp2, hp3⟩ := hpre
  simp only [] at hp1 hp2 hp3
  repeat' first
    | (refine then_go hm htt ?_; conv => whnf)
    | (refine Side.mk (by first | assumption | exact trivial | rfl | exact Nat.le_of_ble_eq_true rfl | omega) ?_; conv => whnf)
    | (refine Hyp.mk fun hlen => ?_; replace hlen : _ ≤ 17592186044416 := hlen; conv => whnf)
    | (refine Split.ct ?_; conv => whnf)
    | (refine Split.cf ?_; conv => whnf)
    | (refine Split.of_true (by first | rfl | assumption | ((try simp only [bytes_eq, bytes_ne, empty_bytes, bytes_bne, bytes_bne']); (try simp only [decide_eq_true_eq, decide_eq_false_iff_not, beq_iff_eq, beq_eq_false_iff_ne, bne_iff_ne, bne_eq_false_iff_eq, Bool.not_eq_true', Bool.not_eq_false', Tree.isNil_iff, Tree.isNil_not, Int.not_lt, Int.not_le, gt_iff_lt, ge_iff_le, ne_eq, Decidable.not_not, Int.toNat_natCast, Int.toNat_zero, Int.toNat_one]); first | assumption | omega)) ?_; conv => whnf)
    | (refine Split.of_false (by first | rfl | assumption | ((try simp only [bytes_eq, bytes_ne, empty_bytes, bytes_bne, bytes_bne']); (try simp only [decide_eq_true_eq, decide_eq_false_iff_not, beq_iff_eq, beq_eq_false_iff_ne, bne_iff_ne, bne_eq_false_iff_eq, Bool.not_eq_true', Bool.not_eq_false', Tree.isNil_iff, Tree.isNil_not, Int.not_lt, Int.not_le, gt_iff_lt, ge_iff_le, ne_eq, Decidable.not_not, Int.toNat_natCast, Int.toNat_zero, Int.toNat_one]); first | assumption | omega)) ?_; conv => whnf)
    | (refine Indep.mk (by kernel_rfl) ?_; conv => whnf)
    | (refine Side.mk (show (i + 1 ≤ 17592186044416 ∧ (i + 1) * 8 ≤ 140737488355328) from ⟨by omega, by omega⟩) ?_; conv => whnf)
    | (refine CallG.pure (binds_ok T hT) rfl ?_; conv => whnf)
    | (refine CallG.fun (ih (T.kids.getD i .nil) (getD_mem (by omega)) (IntKind.i64.wrap (deep + bindsF T)) s' (hF.kid (by omega))) [0, 1, 2] rfl rfl rfl rfl rfl rfl (by repeat' first | exact trivial | apply And.intro | rfl | (refine int_eq ?_; rw [wrap64] <;> omega)) rfl ?_; conv => whnf)
    | (refine Split.mk (fun hc => ?_) (fun hc => ?_) <;> (try simp only [bytes_eq, bytes_ne, empty_bytes, bytes_bne, bytes_bne'] at hc) <;> (try simp only [decide_eq_true_eq, decide_eq_false_iff_not, beq_iff_eq, beq_eq_false_iff_ne, bne_iff_ne, bne_eq_false_iff_eq, Bool.not_eq_true', Bool.not_eq_false', Tree.isNil_iff, Tree.isNil_not, Int.not_lt, Int.not_le, gt_iff_lt, ge_iff_le, ne_eq, Decidable.not_not, Int.toNat_natCast, Int.toNat_zero, Int.toNat_one] at hc) <;> conv => whnf)
  · rw [drop_step (by omega), walksF] at hp3
    refine ⟨(i + 1, out ++ [(walkF (shiftStep frm by') (T.kids.getD i .nil) (IntKind.i64.wrap (deep + bindsF T)) s').1], (walkF (shiftStep frm by') (T.kids.getD i .nil) (IntKind.i64.wrap (deep + bindsF T)) s').2), ⟨by simp only []; omega, by simp [hp2], by rw [hp3]; simp⟩, by simp only []; omega, Ent.re [0, 1, 2, 3, 5] rfl rfl rfl rfl rfl rfl (by repeat' first | exact trivial | apply And.intro | rfl | (refine int_eq ?_; rw [wrap64] <;> omega)) (by repeat' first | exact trivial | apply And.intro | rfl | (refine int_eq ?_; rw [wrap64] <;> omega))⟩
  · rw [drop_end (by omega), walksF, List.append_nil] at hp3
    refine RetS.ent (Ent.fz_row 4 (l := out) rfl (by repeat' first | exact trivial | apply And.intro | rfl | exact hp2.symm | exact Nat.zero_lt_one | omega) (by repeat' first | exact trivial | apply And.intro | rfl | exact hp2.symm | exact Nat.zero_lt_one | omega)) ?_
    refine RetS.ent (Ent.fz_node 3 rfl rfl (by repeat' first | exact trivial | apply And.intro | rfl | exact hp2.symm | exact Nat.zero_lt_one | omega) (by repeat' first | exact trivial | apply And.intro | rfl | exact hp2.symm | exact Nat.zero_lt_one | omega)) ?_
    refine RetS.ent (σ' := ⟨[(6, .d (.tree (.node T.kind T.n T.name T.mark out)))], 52, [(0, .cells [.d (.int .i64 frm)]), (1, .cells [.d (.bool s')]), (2, .cells [.d (.int .i64 by')])], 3, g⟩) (Ent.re [0, 1, 2] rfl rfl rfl rfl rfl rfl (by repeat' first | exact trivial | apply And.intro | rfl | (refine int_eq ?_; rw [wrap64] <;> omega)) (by repeat' first | exact trivial | apply And.intro | rfl | (refine int_eq ?_; rw [wrap64] <;> omega))) ?_
    exact ret_objs rfl rfl (tree_eq (by rw [walkF_eq _ hT, if_neg (by assumption), if_neg (by omega), hp3])) (by rw [walkF_eq _ hT, if_neg (by assumption), if_neg (by omega), hp3]; exact (by repeat' first | exact trivial | apply And.intro | rfl | (refine int_eq ?_; rw [wrap64] <;> omega))) (Nat.le_refl _)
end Go.Proofs.Ytfblaochmhhknaa

namespace Go.Proofs.Ytfblaochmhhknaa
open Go Go.Mq
set_option linter.all false

def freeR (T : Tree) : Int := if conE T = 0 then (walkF freeStep T 0 0).2 else 0
set_option maxRecDepth 10000 in
theorem free_ok (T : Tree) : Pure P 35 [.d (.tree T)] (.d (.int .i64 (freeR T))) := by
  refine Pure.of_body tt [] [2] Try.func35 rfl rfl rfl (Nat.le_of_ble_eq_true rfl) fun g => ?_
  repeat' first
    | (refine then_go hm htt ?_; conv => whnf)
    | (refine Side.mk (by first | assumption | exact trivial | rfl | exact Nat.le_of_ble_eq_true rfl | omega) ?_; conv => whnf)
    | (refine Hyp.mk fun hlen => ?_; replace hlen : _ ≤ 17592186044416 := hlen; conv => whnf)
    | (refine Split.ct ?_; conv => whnf)
    | (refine Split.cf ?_; conv => whnf)
    | (refine Split.of_true (by first | rfl | assumption | ((try simp only [bytes_eq, bytes_ne, empty_bytes, bytes_bne, bytes_bne']); (try simp only [decide_eq_true_eq, decide_eq_false_iff_not, beq_iff_eq, beq_eq_false_iff_ne, bne_iff_ne, bne_eq_false_iff_eq, Bool.not_eq_true', Bool.not_eq_false', Tree.isNil_iff, Tree.isNil_not, Int.not_lt, Int.not_le, gt_iff_lt, ge_iff_le, ne_eq, Decidable.not_not, Int.toNat_natCast, Int.toNat_zero, Int.toNat_one]); first | assumption | omega)) ?_; conv => whnf)
    | (refine Split.of_false (by first | rfl | assumption | ((try simp only [bytes_eq, bytes_ne, empty_bytes, bytes_bne, bytes_bne']); (try simp only [decide_eq_true_eq, decide_eq_false_iff_not, beq_iff_eq, beq_eq_false_iff_ne, bne_iff_ne, bne_eq_false_iff_eq, Bool.not_eq_true', Bool.not_eq_false', Tree.isNil_iff, Tree.isNil_not, Int.not_lt, Int.not_le, gt_iff_lt, ge_iff_le, ne_eq, Decidable.not_not, Int.toNat_natCast, Int.toNat_zero, Int.toNat_one]); first | assumption | omega)) ?_; conv => whnf)
    | (refine Indep.mk (by kernel_rfl) ?_; conv => whnf)
    | (refine CallG.pure (check_ok T) rfl ?_; conv => whnf)
    | (refine CallG.fun (walkFree_ok T 0 0 (conE_full (by assumption)).1) [0] rfl rfl rfl rfl rfl rfl (by repeat' first | exact trivial | apply And.intro | rfl | (refine int_eq ?_; rw [wrap64] <;> omega)) rfl ?_; conv => whnf)
    | (refine Split.mk (fun hc => ?_) (fun hc => ?_) <;> (try simp only [bytes_eq, bytes_ne, empty_bytes, bytes_bne, bytes_bne'] at hc) <;> (try simp only [decide_eq_true_eq, decide_eq_false_iff_not, beq_iff_eq, beq_eq_false_iff_ne, bne_iff_ne, bne_eq_false_iff_eq, Bool.not_eq_true', Bool.not_eq_false', Tree.isNil_iff, Tree.isNil_not, Int.not_lt, Int.not_le, gt_iff_lt, ge_iff_le, ne_eq, Decidable.not_not, Int.toNat_natCast, Int.toNat_zero, Int.toNat_one] at hc) <;> conv => whnf)
  all_goals refine ret_closed rfl (int_eq ?_) rfl
  all_goals (simp_all [-List.getD_eq_getElem?_getD, int_dec, freeR] <;> omega)

def occursR (T : Tree) (i : Int) : Bool := if conE T = 0 then (walkF (occStep i) T 0 false).2 else false
set_option maxRecDepth 10000 in
theorem occurs_ok (T : Tree) (i : Int) : Pure P 37 [.d (.tree T), .d (.int .i64 i)] (.d (.bool (occursR T i))) := by
  refine Pure.of_body tt [] [4] Try.func37 rfl rfl rfl (Nat.le_of_ble_eq_true rfl) fun g => ?_
  repeat' first
    | (refine then_go hm htt ?_; conv => whnf)
    | (refine Side.mk (by first | assumption | exact trivial | rfl | exact Nat.le_of_ble_eq_true rfl | omega) ?_; conv => whnf)
    | (refine Hyp.mk fun hlen => ?_; replace hlen : _ ≤ 17592186044416 := hlen; conv => whnf)
    | (refine Split.ct ?_; conv => whnf)
    | (refine Split.cf ?_; conv => whnf)
    | (refine Split.of_true (by first | rfl | assumption | ((try simp only [bytes_eq, bytes_ne, empty_bytes, bytes_bne, bytes_bne']); (try simp only [decide_eq_true_eq, decide_eq_false_iff_not, beq_iff_eq, beq_eq_false_iff_ne, bne_iff_ne, bne_eq_false_iff_eq, Bool.not_eq_true', Bool.not_eq_false', Tree.isNil_iff, Tree.isNil_not, Int.not_lt, Int.not_le, gt_iff_lt, ge_iff_le, ne_eq, Decidable.not_not, Int.toNat_natCast, Int.toNat_zero, Int.toNat_one]); first | assumption | omega)) ?_; conv => whnf)
    | (refine Split.of_false (by first | rfl | assumption | ((try simp only [bytes_eq, bytes_ne, empty_bytes, bytes_bne, bytes_bne']); (try simp only [decide_eq_true_eq, decide_eq_false_iff_not, beq_iff_eq, beq_eq_false_iff_ne, bne_iff_ne, bne_eq_false_iff_eq, Bool.not_eq_true', Bool.not_eq_false', Tree.isNil_iff, Tree.isNil_not, Int.not_lt, Int.not_le, gt_iff_lt, ge_iff_le, ne_eq, Decidable.not_not, Int.toNat_natCast, Int.toNat_zero, Int.toNat_one]); first | assumption | omega)) ?_; conv => whnf)
    | (refine Indep.mk (by kernel_rfl) ?_; conv => whnf)
    | (refine CallG.pure (check_ok T) rfl ?_; conv => whnf)
    | (refine CallG.fun (walkOcc_ok i T 0 false (conE_full (by assumption)).1) [1, 0] rfl rfl rfl rfl rfl rfl (by repeat' first | exact trivial | apply And.intro | rfl | (refine int_eq ?_; rw [wrap64] <;> omega)) rfl ?_; conv => whnf)
    | (refine Split.mk (fun hc => ?_) (fun hc => ?_) <;> (try simp only [bytes_eq, bytes_ne, empty_bytes, bytes_bne, bytes_bne'] at hc) <;> (try simp only [decide_eq_true_eq, decide_eq_false_iff_not, beq_iff_eq, beq_eq_false_iff_ne, bne_iff_ne, bne_eq_false_iff_eq, Bool.not_eq_true', Bool.not_eq_false', Tree.isNil_iff, Tree.isNil_not, Int.not_lt, Int.not_le, gt_iff_lt, ge_iff_le, ne_eq, Decidable.not_not, Int.toNat_natCast, Int.toNat_zero, Int.toNat_one] at hc) <;> conv => whnf)
  all_goals refine ret_closed rfl (bool_eq ?_) rfl
  all_goals (simp_all [-List.getD_eq_getElem?_getD, int_dec, occursR] <;> omega)

def shiftR (T : Tree) (by' frm : Int) : Tree × Int :=
  if conE T = 0 then (if (walkF (shiftStep frm by') T 0 (decide (0 ≤ frm))).2 = true then ((walkF (shiftStep frm by') T 0 (decide (0 ≤ frm))).1, 0) else (.nil, 2)) else (.nil, conE T)
set_option maxRecDepth 10000 in
theorem shift_ok (T : Tree) (by' frm : Int) : Pure P 33 [.d (.tree T), .d (.int .i64 by'), .d (.int .i64 frm)] (.tuple [.d (.tree (shiftR T by' frm).1), .d (.int .i64 (shiftR T by' frm).2)]) := by
  refine Pure.of_body tt [] [6, 7] Try.func33 rfl rfl rfl (Nat.le_of_ble_eq_true rfl) fun g => ?_
  repeat' first
    | (refine then_go hm htt ?_; conv => whnf)
    | (refine Side.mk (by first | assumption | exact trivial | rfl | exact Nat.le_of_ble_eq_true rfl | omega) ?_; conv => whnf)
    | (refine Hyp.mk fun hlen => ?_; replace hlen : _ ≤ 17592186044416 := hlen; conv => whnf)
    | (refine Split.ct ?_; conv => whnf)
    | (refine Split.cf ?_; conv => whnf)
    | (refine Split.of_true (by first | rfl | assumption | ((try simp only [bytes_eq, bytes_ne, empty_bytes, bytes_bne, bytes_bne']); (try simp only [decide_eq_true_eq, decide_eq_false_iff_not, beq_iff_eq, beq_eq_false_iff_ne, bne_iff_ne, bne_eq_false_iff_eq, Bool.not_eq_true', Bool.not_eq_false', Tree.isNil_iff, Tree.isNil_not, Int.not_lt, Int.not_le, gt_iff_lt, ge_iff_le, ne_eq, Decidable.not_not, Int.toNat_natCast, Int.toNat_zero, Int.toNat_one]); first | assumption | omega)) ?_; conv => whnf)
    | (refine Split.of_false (by first | rfl | assumption | ((try simp only [bytes_eq, bytes_ne, empty_bytes, bytes_bne, bytes_bne']); (try simp only [decide_eq_true_eq, decide_eq_false_iff_not, beq_iff_eq, beq_eq_false_iff_ne, bne_iff_ne, bne_eq_false_iff_eq, Bool.not_eq_true', Bool.not_eq_false', Tree.isNil_iff, Tree.isNil_not, Int.not_lt, Int.not_le, gt_iff_lt, ge_iff_le, ne_eq, Decidable.not_not, Int.toNat_natCast, Int.toNat_zero, Int.toNat_one]); first | assumption | omega)) ?_; conv => whnf)
    | (refine Indep.mk (by kernel_rfl) ?_; conv => whnf)
    | (refine CallG.pure (check_ok T) rfl ?_; conv => whnf)
    | (refine CallG.fun (walkShift_ok frm by' T 0 (decide (0 ≤ frm)) (conE_full (by assumption)).1) [1, 2, 0] rfl rfl rfl rfl rfl rfl (by repeat' first | exact trivial | apply And.intro | rfl | (refine int_eq ?_; rw [wrap64] <;> omega)) rfl ?_; conv => whnf)
    | (refine Split.mk (fun hc => ?_) (fun hc => ?_) <;> (try simp only [bytes_eq, bytes_ne, empty_bytes, bytes_bne, bytes_bne'] at hc) <;> (try simp only [decide_eq_true_eq, decide_eq_false_iff_not, beq_iff_eq, beq_eq_false_iff_ne, bne_iff_ne, bne_eq_false_iff_eq, Bool.not_eq_true', Bool.not_eq_false', Tree.isNil_iff, Tree.isNil_not, Int.not_lt, Int.not_le, gt_iff_lt, ge_iff_le, ne_eq, Decidable.not_not, Int.toNat_natCast, Int.toNat_zero, Int.toNat_one] at hc) <;> conv => whnf)
  all_goals refine ret_closed rfl (tup2 (tree_eq ?_) (int_eq ?_)) rfl
  all_goals (simp_all [shiftR] <;> omega)
end Go.Proofs.Ytfblaochmhhknaa

namespace Go.Proofs.Ytfblaochmhhknaa
open Go Go.Mq
set_option linter.all false

mutual
def largeF (most : Int) : Tree → Int
  | .nil => 0
  | .node _ _ _ _ l => largesF 1 most l
def largesF (s most : Int) : List Tree → Int
  | [] => s
  | x :: l => if s > most then s else largesF (s + largeF (most - s) x) most l
end
theorem largeF_kids {T : Tree} (h : T ≠ .nil) (most : Int) : largeF most T = largesF 1 most T.kids := by
  cases T with
  | nil => exact absurd rfl h
  | node => rw [largeF]; rfl
theorem largeF_bound (T : Tree) : ∀ most : Int, 0 ≤ most → 0 ≤ largeF most T ∧ largeF most T ≤ most + 1 := by
  induction T using Tree.ind' with
  | h0 => intro most h; rw [largeF]; omega
  | h1 T hT ih =>
    have kids : ∀ (l : List Tree), (∀ x ∈ l, ∀ most : Int, 0 ≤ most → 0 ≤ largeF most x ∧ largeF most x ≤ most + 1) → ∀ (s most : Int), 0 ≤ most → 0 ≤ s → s ≤ most + 1 → 0 ≤ largesF s most l ∧ largesF s most l ≤ most + 1 := by
      intro l
      induction l with
      | nil => intro _ s most _ _ _; rw [largesF]; omega
      | cons x l ih2 =>
        intro hx s most h1 h2 h3
        rw [largesF]
        split
        · omega
        · have := hx x (by simp) (most - s) (by omega)
          exact ih2 (fun y hy => hx y (by simp [hy])) _ most h1 (by omega) (by omega)
    intro most h
    rw [largeF_kids hT]
    exact kids T.kids ih 1 most h (by omega) (by omega)

set_option maxRecDepth 10000 in
theorem large_ok (T : Tree) : ∀ (most : Int), Full T → 0 ≤ most → most ≤ 65536 → Pure P 78 [.d (.tree T), .d (.int .i64 most)] (.d (.int .i64 (largeF most T))) := by
  induction T using Tree.ind' with
  | h0 => intro most hF; exact absurd rfl hF.ne
  | h1 T hT ih => ?_
  intro most hF h1 h2
  refine Pure.of_body tt [] [4] Try.func78 rfl rfl rfl (Nat.le_of_ble_eq_true rfl) fun g => ?_
  repeat' first
    | (refine then_go hm htt ?_; conv => whnf)
    | (refine Side.mk (by first | assumption | exact trivial | rfl | exact Nat.le_of_ble_eq_true rfl | omega) ?_; conv => whnf)
    | (refine Hyp.mk fun hlen => ?_; replace hlen : _ ≤ 17592186044416 := hlen; conv => whnf)
    | (refine Split.ct ?_; conv => whnf)
    | (refine Split.cf ?_; conv => whnf)
    | (refine Split.of_true (by first | rfl | assumption | ((try simp only [bytes_eq, bytes_ne, empty_bytes, bytes_bne, bytes_bne']); (try simp only [decide_eq_true_eq, decide_eq_false_iff_not, beq_iff_eq, beq_eq_false_iff_ne, bne_iff_ne, bne_eq_false_iff_eq, Bool.not_eq_true', Bool.not_eq_false', Tree.isNil_iff, Tree.isNil_not, Int.not_lt, Int.not_le, gt_iff_lt, ge_iff_le, ne_eq, Decidable.not_not, Int.toNat_natCast, Int.toNat_zero, Int.toNat_one]); first | assumption | omega)) ?_; conv => whnf)
    | (refine Split.of_false (by first | rfl | assumption | ((try simp only [bytes_eq, bytes_ne, empty_bytes, bytes_bne, bytes_bne']); (try simp only [decide_eq_true_eq, decide_eq_false_iff_not, beq_iff_eq, beq_eq_false_iff_ne, bne_iff_ne, bne_eq_false_iff_eq, Bool.not_eq_true', Bool.not_eq_false', Tree.isNil_iff, Tree.isNil_not, Int.not_lt, Int.not_le, gt_iff_lt, ge_iff_le, ne_eq, Decidable.not_not, Int.toNat_natCast, Int.toNat_zero, Int.toNat_one]); first | assumption | omega)) ?_; conv => whnf)
    | (refine Indep.mk (by kernel_rfl) ?_; conv => whnf)
    | (refine Split.mk (fun hc => ?_) (fun hc => ?_) <;> (try simp only [bytes_eq, bytes_ne, empty_bytes, bytes_bne, bytes_bne'] at hc) <;> (try simp only [decide_eq_true_eq, decide_eq_false_iff_not, beq_iff_eq, beq_eq_false_iff_ne, bne_iff_ne, bne_eq_false_iff_eq, Bool.not_eq_true', Bool.not_eq_false', Tree.isNil_iff, Tree.isNil_not, Int.not_lt, Int.not_le, gt_iff_lt, ge_iff_le, ne_eq, Decidable.not_not, Int.toNat_natCast, Int.toNat_zero, Int.toNat_one] at hc) <;> conv => whnf)
  refine loop_go (α := Nat × Int) (fun p => ⟨[(1, .d (.int .i64 most)), (5, .d (.int .i64 p.2)), (11, .d (.trees T.kids)), (12, .d (.int .i64 T.kids.length)), (13, .d (.int .i64 p.1))], 29, [], 0, g⟩) (fun p => p.1 ≤ T.kids.length ∧ (0 ≤ p.2 ∧ p.2 ≤ most + 1) ∧ largesF p.2 most (T.kids.drop p.1) = largesF 1 most T.kids) (fun p => T.kids.length - p.1) (0, 1) ⟨by omega, by simp only []; omega, rfl⟩
        (Ent.re [] rfl rfl rfl rfl rfl rfl (by repeat' first | exact trivial | apply And.intro | rfl | (refine int_eq ?_; rw [wrap64] <;> omega)) (by repeat' first | exact trivial | apply And.intro | rfl | (refine int_eq ?_; rw [wrap64] <;> omega))) (fun _ => rfl) fun p hpre => ?_
  obtain ⟨i, s⟩ := p
  obtain ⟨hp1, hp2, hp3⟩ := hpre
  simp only [] at hp1 hp2 hp3
  have hw : IntKind.i64.wrap (most - s) = most - s := wrap64 (by omega) (by omega)
  repeat' first
    | (refine then_go hm htt ?_; conv => whnf)
    | (refine Side.mk (by first | assumption | exact trivial | rfl | exact Nat.le_of_ble_eq_true rfl | omega) ?_; conv => whnf)
    | (refine Hyp.mk fun hlen => ?_; replace hlen : _ ≤ 17592186044416 := hlen; conv => whnf)
    | (refine Split.ct ?_; conv => whnf)
    | (refine Split.cf ?_; conv => whnf)
    | (refine Split.of_true (by first | rfl | assumption | ((try simp only [bytes_eq, bytes_ne, empty_bytes, bytes_bne, bytes_bne']); (try simp only [decide_eq_true_eq, decide_eq_false_iff_not, beq_iff_eq, beq_eq_false_iff_ne, bne_iff_ne, bne_eq_false_iff_eq, Bool.not_eq_true', Bool.not_eq_false', Tree.isNil_iff, Tree.isNil_not, Int.not_lt, Int.not_le, gt_iff_lt, ge_iff_le, ne_eq, Decidable.not_not, Int.toNat_natCast, Int.toNat_zero, Int.toNat_one]); first | assumption | omega)) ?_; conv => whnf)
    | (refine Split.of_false (by first | rfl | assumption | ((try simp only [bytes_eq, bytes_ne, empty_bytes, bytes_bne, bytes_bne']); (try simp only [decide_eq_true_eq, decide_eq_false_iff_not, beq_iff_eq, beq_eq_false_iff_ne, bne_iff_ne, bne_eq_false_iff_eq, Bool.not_eq_true', Bool.not_eq_false', Tree.isNil_iff, Tree.isNil_not, Int.not_lt, Int.not_le, gt_iff_lt, ge_iff_le, ne_eq, Decidable.not_not, Int.toNat_natCast, Int.toNat_zero, Int.toNat_one]); first | assumption | omega)) ?_; conv => whnf)
    | (refine Indep.mk (by kernel_rfl) ?_; conv => whnf)
    | (rw [hw]; refine CallG.pure (ih (T.kids.getD i .nil) (getD_mem (by omega)) (most - s) (hF.kid (by omega)) (by omega) (by omega)) rfl ?_; conv => whnf)
    | (refine Split.mk (fun hc => ?_) (fun hc => ?_) <;> (try simp only [bytes_eq, bytes_ne, empty_bytes, bytes_bne, bytes_bne'] at hc) <;> (try simp only [decide_eq_true_eq, decide_eq_false_iff_not, beq_iff_eq, beq_eq_false_iff_ne, bne_iff_ne, bne_eq_false_iff_eq, Bool.not_eq_true', Bool.not_eq_false', Tree.isNil_iff, Tree.isNil_not, Int.not_lt, Int.not_le, gt_iff_lt, ge_iff_le, ne_eq, Decidable.not_not, Int.toNat_natCast, Int.toNat_zero, Int.toNat_one] at hc) <;> conv => whnf)
  · refine ret_closed rfl (int_eq ?_) rfl
    rw [drop_step (by omega), largesF, if_pos (by omega)] at hp3
    rw [largeF_kids hT, ← hp3]
  · have hb := largeF_bound (T.kids.getD i .nil) (most - s) (by omega)
    rw [drop_step (by omega), largesF, if_neg (by omega)] at hp3
    exact ⟨(i + 1, s + largeF (most - s) (T.kids.getD i .nil)), ⟨by simp only []; omega, by simp only []; omega, hp3⟩, by simp only []; omega, Ent.re [] rfl rfl rfl rfl rfl rfl (by repeat' first | exact trivial | apply And.intro | rfl | (refine int_eq ?_; rw [wrap64] <;> omega)) (by repeat' first | exact trivial | apply And.intro | rfl | (refine int_eq ?_; rw [wrap64] <;> omega))⟩
  · refine ret_closed rfl (int_eq ?_) rfl
    rw [drop_end (by omega), largesF] at hp3
    rw [largeF_kids hT, ← hp3]

def substStep (i own : Int) (b : Tree) (T : Tree) (deep : Int) (s : Int × Int) : Tree × (Int × Int) :=
  if s.1 ≠ 0 then (T, s)
  else if T.n < deep then (T, s)
  else if IntKind.i64.wrap (T.n - deep) < i then (T, s)
  else if i < IntKind.i64.wrap (T.n - deep) then (movedF T (-1), s)
  else if 65536 < IntKind.i64.wrap (s.2 + own) then (T, (3, IntKind.i64.wrap (s.2 + own)))
  else if (shiftR b deep 0).2 ≠ 0 then (T, (3, IntKind.i64.wrap (s.2 + own)))
  else ((shiftR b deep 0).1, (s.1, IntKind.i64.wrap (s.2 + own)))
set_option maxHeartbeats 4000000 in
set_option maxRecDepth 10000 in
theorem substStep_ok (i own : Int) (b : Tree) (T : Tree) (deep : Int) (s : Int × Int) (hF : Full T) (hk : T.kind = 110) : Fun P 76 [.d (.tree T), .d (.int .i64 deep), .ref 0 0, .ref 1 0, .ref 2 0, .ref 3 0, .ref 4 0] [(0, .cells [.d (.int .i64 s.1)]), (1, .cells [.d (.int .i64 i)]), (2, .cells [.d (.int .i64 s.2)]), (3, .cells [.d (.int .i64 own)]), (4, .cells [.d (.tree b)])] 5
    (.d (.tree (substStep i own b T deep s).1)) [(0, .cells [.d (.int .i64 (substStep i own b T deep s).2.1)]), (1, .cells [.d (.int .i64 i)]), (2, .cells [.d (.int .i64 (substStep i own b T deep s).2.2)]), (3, .cells [.d (.int .i64 own)]), (4, .cells [.d (.tree b)])] 5 := by
  have hT := hF.ne
  refine Fun.of_body tt [] [9] Try.func76 rfl rfl rfl (Nat.le_of_ble_eq_true rfl) fun g => ?_
  repeat' first
    | (refine then_go hm htt ?_; conv => whnf)
    | (refine Side.mk (by first | assumption | exact trivial | rfl | exact Nat.le_of_ble_eq_true rfl | omega) ?_; conv => whnf)
    | (refine Hyp.mk fun hlen => ?_; replace hlen : _ ≤ 17592186044416 := hlen; conv => whnf)
    | (refine Split.ct ?_; conv => whnf)
    | (refine Split.cf ?_; conv => whnf)
    | (refine Split.of_true (by first | rfl | assumption | ((try simp only [bytes_eq, bytes_ne, empty_bytes, bytes_bne, bytes_bne']); (try simp only [decide_eq_true_eq, decide_eq_false_iff_not, beq_iff_eq, beq_eq_false_iff_ne, bne_iff_ne, bne_eq_false_iff_eq, Bool.not_eq_true', Bool.not_eq_false', Tree.isNil_iff, Tree.isNil_not, Int.not_lt, Int.not_le, gt_iff_lt, ge_iff_le, ne_eq, Decidable.not_not, Int.toNat_natCast, Int.toNat_zero, Int.toNat_one]); first | assumption | omega)) ?_; conv => whnf)
    | (refine Split.of_false (by first | rfl | assumption | ((try simp only [bytes_eq, bytes_ne, empty_bytes, bytes_bne, bytes_bne']); (try simp only [decide_eq_true_eq, decide_eq_false_iff_not, beq_iff_eq, beq_eq_false_iff_ne, bne_iff_ne, bne_eq_false_iff_eq, Bool.not_eq_true', Bool.not_eq_false', Tree.isNil_iff, Tree.isNil_not, Int.not_lt, Int.not_le, gt_iff_lt, ge_iff_le, ne_eq, Decidable.not_not, Int.toNat_natCast, Int.toNat_zero, Int.toNat_one]); first | assumption | omega)) ?_; conv => whnf)
    | (refine Indep.mk (by kernel_rfl) ?_; conv => whnf)
    | (refine CallG.pure (moved_ok T hT (-1)) rfl ?_; conv => whnf)
    | (refine CallG.pure (shift_ok b deep 0) rfl ?_; conv => whnf)
    | (refine Split.mk (fun hc => ?_) (fun hc => ?_) <;> (try simp only [bytes_eq, bytes_ne, empty_bytes, bytes_bne, bytes_bne'] at hc) <;> (try simp only [decide_eq_true_eq, decide_eq_false_iff_not, beq_iff_eq, beq_eq_false_iff_ne, bne_iff_ne, bne_eq_false_iff_eq, Bool.not_eq_true', Bool.not_eq_false', Tree.isNil_iff, Tree.isNil_not, Int.not_lt, Int.not_le, gt_iff_lt, ge_iff_le, ne_eq, Decidable.not_not, Int.toNat_natCast, Int.toNat_zero, Int.toNat_one] at hc) <;> conv => whnf)
  all_goals refine ret_objs rfl rfl (tree_eq ?_) ⟨cell_int ?_, rfl, cell_int ?_, rfl, rfl, trivial⟩ (Nat.le_refl _)
  all_goals (unfold substStep; (repeat' split) <;> first | rfl | omega | (exfalso; omega) | (simp_all; done) | (simp_all; omega))

set_option maxHeartbeats 2000000 in
set_option maxRecDepth 10000 in
theorem walkSubst_ok (j own : Int) (b : Tree) (T : Tree) : ∀ (deep : Int) (s : (Int × Int)), Full T → Fun P 75 [.d (.tree T), .d (.int .i64 deep), .fn 76 [.ref 0 0, .ref 1 0, .ref 2 0, .ref 3 0, .ref 4 0]] ([(0, .cells [.d (.int .i64 (s).1)]), (1, .cells [.d (.int .i64 j)]), (2, .cells [.d (.int .i64 (s).2)]), (3, .cells [.d (.int .i64 own)]), (4, .cells [.d (.tree b)])]) 5 (.d (.tree (walkF (substStep j own b) T deep s).1)) ([(0, .cells [.d (.int .i64 ((walkF (substStep j own b) T deep s).2).1)]), (1, .cells [.d (.int .i64 j)]), (2, .cells [.d (.int .i64 ((walkF (substStep j own b) T deep s).2).2)]), (3, .cells [.d (.int .i64 own)]), (4, .cells [.d (.tree b)])]) 5 := by
  induction T using Tree.ind' with
  | h0 => intro deep s hF; exact absurd rfl hF.ne
  | h1 T hT ih => ?_
  intro deep s hF
  refine Fun.of_body tt [48] [6] Try.func75 rfl rfl rfl (Nat.le_of_ble_eq_true rfl) fun g => ?_
  repeat' first
    | (refine then_go hm htt ?_; conv => whnf)
    | (refine Side.mk (by first | assumption | exact trivial | rfl | exact Nat.le_of_ble_eq_true rfl | omega) ?_; conv => whnf)
    | (refine Hyp.mk fun hlen => ?_; replace hlen : _ ≤ 17592186044416 := hlen; conv => whnf)
    | (refine Split.ct ?_; conv => whnf)
    | (refine Split.cf ?_; conv => whnf)
    | (refine Split.of_true (by first | rfl | assumption | ((try simp only [bytes_eq, bytes_ne, empty_bytes, bytes_bne, bytes_bne']); (try simp only [decide_eq_true_eq, decide_eq_false_iff_not, beq_iff_eq, beq_eq_false_iff_ne, bne_iff_ne, bne_eq_false_iff_eq, Bool.not_eq_true', Bool.not_eq_false', Tree.isNil_iff, Tree.isNil_not, Int.not_lt, Int.not_le, gt_iff_lt, ge_iff_le, ne_eq, Decidable.not_not, Int.toNat_natCast, Int.toNat_zero, Int.toNat_one]); first | assumption | omega)) ?_; conv => whnf)
    | (refine Split.of_false (by first | rfl | assumption | ((try simp only [bytes_eq, bytes_ne, empty_bytes, bytes_bne, bytes_bne']); (try simp only [decide_eq_true_eq, decide_eq_false_iff_not, beq_iff_eq, beq_eq_false_iff_ne, bne_iff_ne, bne_eq_false_iff_eq, Bool.not_eq_true', Bool.not_eq_false', Tree.isNil_iff, Tree.isNil_not, Int.not_lt, Int.not_le, gt_iff_lt, ge_iff_le, ne_eq, Decidable.not_not, Int.toNat_natCast, Int.toNat_zero, Int.toNat_one]); first | assumption | omega)) ?_; conv => whnf)
    | (refine Indep.mk (by kernel_rfl) ?_; conv => whnf)
    | (refine CallG.fun (substStep_ok j own b T deep s hF (by assumption)) [0, 1, 2, 3, 4] rfl rfl rfl rfl rfl rfl (by repeat' first | exact trivial | apply And.intro | rfl | (refine int_eq ?_; rw [wrap64] <;> omega)) rfl ?_; conv => whnf)
    | (refine Split.mk (fun hc => ?_) (fun hc => ?_) <;> (try simp only [bytes_eq, bytes_ne, empty_bytes, bytes_bne, bytes_bne'] at hc) <;> (try simp only [decide_eq_true_eq, decide_eq_false_iff_not, beq_iff_eq, beq_eq_false_iff_ne, bne_iff_ne, bne_eq_false_iff_eq, Bool.not_eq_true', Bool.not_eq_false', Tree.isNil_iff, Tree.isNil_not, Int.not_lt, Int.not_le, gt_iff_lt, ge_iff_le, ne_eq, Decidable.not_not, Int.toNat_natCast, Int.toNat_zero, Int.toNat_one] at hc) <;> conv => whnf)
  · exact ret_objs rfl rfl (tree_eq (by rw [walkF_eq _ hT, if_pos (by assumption)])) (by rw [walkF_eq _ hT, if_pos (by assumption)]; exact (by repeat' first | exact trivial | apply And.intro | rfl | (refine int_eq ?_; rw [wrap64] <;> omega))) (Nat.le_refl _)
  · exact ret_objs rfl rfl (tree_eq (by rw [walkF_eq _ hT, if_neg (by assumption), if_pos (by omega)])) (by rw [walkF_eq _ hT, if_neg (by assumption), if_pos (by omega)]; exact (by repeat' first | exact trivial | apply And.intro | rfl | (refine int_eq ?_; rw [wrap64] <;> omega))) (Nat.le_refl _)
  refine loop_go (α := Nat × List Tree × (Int × Int)) (fun p => ⟨[(0, .d (.tree T)), (1, .d (.int .i64 deep)), (2, .fn 76 [.ref 0 0, .ref 1 0, .ref 2 0, .ref 3 0, .ref 4 0]), (7, .ref 5 0), (33, .d (.trees T.kids)), (34, .d (.int .i64 T.kids.length)), (35, .d (.int .i64 p.1))], 52, ([(0, .cells [.d (.int .i64 (p.2.2).1)]), (1, .cells [.d (.int .i64 j)]), (2, .cells [.d (.int .i64 (p.2.2).2)]), (3, .cells [.d (.int .i64 own)]), (4, .cells [.d (.tree b)])]) ++ [(5, .cells [.d (.int .i64 T.kind), .d (.int .i64 T.n), .d (.str T.name), .d (.str T.mark), .row 6 p.1]), (6, .row 25 (.trees p.2.1))], 7, g⟩)
        (fun p => p.1 ≤ T.kids.length ∧ p.2.1.length = p.1 ∧ walksF (substStep j own b) T.kids (IntKind.i64.wrap (deep + bindsF T)) s = (p.2.1 ++ (walksF (substStep j own b) (T.kids.drop p.1) (IntKind.i64.wrap (deep + bindsF T)) p.2.2).1, (walksF (substStep j own b) (T.kids.drop p.1) (IntKind.i64.wrap (deep + bindsF T)) p.2.2).2)) (fun p => T.kids.length - p.1) (0, [], s) ⟨by simp, rfl, by simp⟩
        (Ent.nil rfl rfl rfl (by repeat' first | exact trivial | apply And.intro | rfl | (refine int_eq ?_; rw [wrap64] <;> omega)) (by repeat' first | exact trivial | apply And.intro | rfl | (refine int_eq ?_; rw [wrap64] <;> omega))) (fun _ => rfl) fun p hpre => ?_
  obtain ⟨i, out, s'⟩ := p
  obtain ⟨hp1, hp2, hp3⟩ := hpre
  simp only [] at hp1 hp2 hp3
  repeat' first
    | (refine then_go hm htt ?_; conv => whnf)
    | (refine Side.mk (by first | assumption | exact trivial | rfl | exact Nat.le_of_ble_eq_true rfl | omega) ?_; conv => whnf)
    | (refine Hyp.mk fun hlen => ?_; replace hlen : _ ≤ 17592186044416 := hlen; conv => whnf)
    | (refine Split.ct ?_; conv => whnf)
    | (refine Split.cf ?_; conv => whnf)
    | (refine Split.of_true (by first | rfl | assumption | ((try simp only [bytes_eq, bytes_ne, empty_bytes, bytes_bne, bytes_bne']); (try simp only [decide_eq_true_eq, decide_eq_false_iff_not, beq_iff_eq, beq_eq_false_iff_ne, bne_iff_ne, bne_eq_false_iff_eq, Bool.not_eq_true', Bool.not_eq_false', Tree.isNil_iff, Tree.isNil_not, Int.not_lt, Int.not_le, gt_iff_lt, ge_iff_le, ne_eq, Decidable.not_not, Int.toNat_natCast, Int.toNat_zero, Int.toNat_one]); first | assumption | omega)) ?_; conv => whnf)
    | (refine Split.of_false (by first | rfl | assumption | ((try simp only [bytes_eq, bytes_ne, empty_bytes, bytes_bne, bytes_bne']); (try simp only [decide_eq_true_eq, decide_eq_false_iff_not, beq_iff_eq, beq_eq_false_iff_ne, bne_iff_ne, bne_eq_false_iff_eq, Bool.not_eq_true', Bool.not_eq_false', Tree.isNil_iff, Tree.isNil_not, Int.not_lt, Int.not_le, gt_iff_lt, ge_iff_le, ne_eq, Decidable.not_not, Int.toNat_natCast, Int.toNat_zero, Int.toNat_one]); first | assumption | omega)) ?_; conv => whnf)
    | (refine Indep.mk (by kernel_rfl) ?_; conv => whnf)
    | (refine Side.mk (show (i + 1 ≤ 17592186044416 ∧ (i + 1) * 8 ≤ 140737488355328) from ⟨by omega, by omega⟩) ?_; conv => whnf)
    | (refine CallG.pure (binds_ok T hT) rfl ?_; conv => whnf)
    | (refine CallG.fun (ih (T.kids.getD i .nil) (getD_mem (by omega)) (IntKind.i64.wrap (deep + bindsF T)) s' (hF.kid (by omega))) [0, 1, 2, 3, 4] rfl rfl rfl rfl rfl rfl (by repeat' first | exact trivial | apply And.intro | rfl | (refine int_eq ?_; rw [wrap64] <;> omega)) rfl ?_; conv => whnf)
    | (refine Split.mk (fun hc => ?_) (fun hc => ?_) <;> (try simp only [bytes_eq, bytes_ne, empty_bytes, bytes_bne, bytes_bne'] at hc) <;> (try simp only [decide_eq_true_eq, decide_eq_false_iff_not, beq_iff_eq, beq_eq_false_iff_ne, bne_iff_ne, bne_eq_false_iff_eq, Bool.not_eq_true', Bool.not_eq_false', Tree.isNil_iff, Tree.isNil_not, Int.not_lt, Int.not_le, gt_iff_lt, ge_iff_le, ne_eq, Decidable.not_not, Int.toNat_natCast, Int.toNat_zero, Int.toNat_one] at hc) <;> conv => whnf)
  · rw [drop_step (by omega), walksF] at hp3
    refine ⟨(i + 1, out ++ [(walkF (substStep j own b) (T.kids.getD i .nil) (IntKind.i64.wrap (deep + bindsF T)) s').1], (walkF (substStep j own b) (T.kids.getD i .nil) (IntKind.i64.wrap (deep + bindsF T)) s').2), ⟨by simp only []; omega, by simp [hp2], by rw [hp3]; simp⟩, by simp only []; omega, Ent.re [0, 1, 2, 3, 4, 5, 7] rfl rfl rfl rfl rfl rfl (by repeat' first | exact trivial | apply And.intro | rfl | (refine int_eq ?_; rw [wrap64] <;> omega)) (by repeat' first | exact trivial | apply And.intro | rfl | (refine int_eq ?_; rw [wrap64] <;> omega))⟩
  · rw [drop_end (by omega), walksF, List.append_nil] at hp3
    refine RetS.ent (Ent.fz_row 6 (l := out) rfl (by repeat' first | exact trivial | apply And.intro | rfl | exact hp2.symm | exact Nat.zero_lt_one | omega) (by repeat' first | exact trivial | apply And.intro | rfl | exact hp2.symm | exact Nat.zero_lt_one | omega)) ?_
    refine RetS.ent (Ent.fz_node 5 rfl rfl (by repeat' first | exact trivial | apply And.intro | rfl | exact hp2.symm | exact Nat.zero_lt_one | omega) (by repeat' first | exact trivial | apply And.intro | rfl | exact hp2.symm | exact Nat.zero_lt_one | omega)) ?_
    refine RetS.ent (σ' := ⟨[(6, .d (.tree (.node T.kind T.n T.name T.mark out)))], 52, [(0, .cells [.d (.int .i64 (s').1)]), (1, .cells [.d (.int .i64 j)]), (2, .cells [.d (.int .i64 (s').2)]), (3, .cells [.d (.int .i64 own)]), (4, .cells [.d (.tree b)])], 5, g⟩) (Ent.re [0, 1, 2, 3, 4] rfl rfl rfl rfl rfl rfl (by repeat' first | exact trivial | apply And.intro | rfl | (refine int_eq ?_; rw [wrap64] <;> omega)) (by repeat' first | exact trivial | apply And.intro | rfl | (refine int_eq ?_; rw [wrap64] <;> omega))) ?_
    exact ret_objs rfl rfl (tree_eq (by rw [walkF_eq _ hT, if_neg (by assumption), if_neg (by omega), hp3])) (by rw [walkF_eq _ hT, if_neg (by assumption), if_neg (by omega), hp3]; exact (by repeat' first | exact trivial | apply And.intro | rfl | (refine int_eq ?_; rw [wrap64] <;> omega))) (Nat.le_refl _)
end Go.Proofs.Ytfblaochmhhknaa

namespace Go.Proofs.Ytfblaochmhhknaa
open Go Go.Mq
set_option linter.all false

mutual
def sizeF : Tree → Int
  | .nil => 0
  | .node _ _ _ _ l => sizesF 1 l
def sizesF (a : Int) : List Tree → Int
  | [] => a
  | x :: l => sizesF (IntKind.i64.wrap (a + sizeF x)) l
end
theorem sizeF_kids {T : Tree} (h : T ≠ .nil) : sizeF T = sizesF 1 T.kids := by cases T <;> simp_all [sizeF, Tree.kids]

theorem size_ok (T : Tree) : Pure P 74 [.d (.tree T)] (.d (.int .i64 (sizeF T))) := by
  induction T using Tree.ind' with
  | h0 => ?_
  | h1 T hT ih => ?_
  · refine Pure.of_body tt [] [2] Try.func74 rfl rfl rfl (Nat.le_of_ble_eq_true rfl) fun g => ?_
    repeat' first
      | (refine then_go hm htt ?_; conv => whnf)
      | (refine Side.mk (by first | assumption | exact trivial | rfl | exact Nat.le_of_ble_eq_true rfl | omega) ?_; conv => whnf)
      | (refine Hyp.mk fun hlen => ?_; replace hlen : _ ≤ 17592186044416 := hlen; conv => whnf)
      | (refine Split.ct ?_; conv => whnf)
      | (refine Split.cf ?_; conv => whnf)
      | (refine Split.of_true (by first | rfl | assumption | ((try simp only [bytes_eq, bytes_ne, empty_bytes, bytes_bne, bytes_bne']); (try simp only [decide_eq_true_eq, decide_eq_false_iff_not, beq_iff_eq, beq_eq_false_iff_ne, bne_iff_ne, bne_eq_false_iff_eq, Bool.not_eq_true', Bool.not_eq_false', Tree.isNil_iff, Tree.isNil_not, Int.not_lt, Int.not_le, gt_iff_lt, ge_iff_le, ne_eq, Decidable.not_not, Int.toNat_natCast, Int.toNat_zero, Int.toNat_one]); first | assumption | omega)) ?_; conv => whnf)
      | (refine Split.of_false (by first | rfl | assumption | ((try simp only [bytes_eq, bytes_ne, empty_bytes, bytes_bne, bytes_bne']); (try simp only [decide_eq_true_eq, decide_eq_false_iff_not, beq_iff_eq, beq_eq_false_iff_ne, bne_iff_ne, bne_eq_false_iff_eq, Bool.not_eq_true', Bool.not_eq_false', Tree.isNil_iff, Tree.isNil_not, Int.not_lt, Int.not_le, gt_iff_lt, ge_iff_le, ne_eq, Decidable.not_not, Int.toNat_natCast, Int.toNat_zero, Int.toNat_one]); first | assumption | omega)) ?_; conv => whnf)
      | (refine Indep.mk (by kernel_rfl) ?_; conv => whnf)
      | (refine Split.mk (fun hc => ?_) (fun hc => ?_) <;> (try simp only [bytes_eq, bytes_ne, empty_bytes, bytes_bne, bytes_bne'] at hc) <;> (try simp only [decide_eq_true_eq, decide_eq_false_iff_not, beq_iff_eq, beq_eq_false_iff_ne, bne_iff_ne, bne_eq_false_iff_eq, Bool.not_eq_true', Bool.not_eq_false', Tree.isNil_iff, Tree.isNil_not, Int.not_lt, Int.not_le, gt_iff_lt, ge_iff_le, ne_eq, Decidable.not_not, Int.toNat_natCast, Int.toNat_zero, Int.toNat_one] at hc) <;> conv => whnf)
    all_goals refine ret_closed rfl (int_eq ?_) rfl
    all_goals rfl
  · refine Pure.of_body tt [] [2] Try.func74 rfl rfl rfl (Nat.le_of_ble_eq_true rfl) fun g => ?_
    repeat' first
      | (refine then_go hm htt ?_; conv => whnf)
      | (refine Side.mk (by first | assumption | exact trivial | rfl | exact Nat.le_of_ble_eq_true rfl | omega) ?_; conv => whnf)
      | (refine Hyp.mk fun hlen => ?_; replace hlen : _ ≤ 17592186044416 := hlen; conv => whnf)
      | (refine Split.ct ?_; conv => whnf)
      | (refine Split.cf ?_; conv => whnf)
      | (refine Split.of_true (by first | rfl | assumption | ((try simp only [bytes_eq, bytes_ne, empty_bytes, bytes_bne, bytes_bne']); (try simp only [decide_eq_true_eq, decide_eq_false_iff_not, beq_iff_eq, beq_eq_false_iff_ne, bne_iff_ne, bne_eq_false_iff_eq, Bool.not_eq_true', Bool.not_eq_false', Tree.isNil_iff, Tree.isNil_not, Int.not_lt, Int.not_le, gt_iff_lt, ge_iff_le, ne_eq, Decidable.not_not, Int.toNat_natCast, Int.toNat_zero, Int.toNat_one]); first | assumption | omega)) ?_; conv => whnf)
      | (refine Split.of_false (by first | rfl | assumption | ((try simp only [bytes_eq, bytes_ne, empty_bytes, bytes_bne, bytes_bne']); (try simp only [decide_eq_true_eq, decide_eq_false_iff_not, beq_iff_eq, beq_eq_false_iff_ne, bne_iff_ne, bne_eq_false_iff_eq, Bool.not_eq_true', Bool.not_eq_false', Tree.isNil_iff, Tree.isNil_not, Int.not_lt, Int.not_le, gt_iff_lt, ge_iff_le, ne_eq, Decidable.not_not, Int.toNat_natCast, Int.toNat_zero, Int.toNat_one]); first | assumption | omega)) ?_; conv => whnf)
      | (refine Indep.mk (by kernel_rfl) ?_; conv => whnf)
      | (refine Split.mk (fun hc => ?_) (fun hc => ?_) <;> (try simp only [bytes_eq, bytes_ne, empty_bytes, bytes_bne, bytes_bne'] at hc) <;> (try simp only [decide_eq_true_eq, decide_eq_false_iff_not, beq_iff_eq, beq_eq_false_iff_ne, bne_iff_ne, bne_eq_false_iff_eq, Bool.not_eq_true', Bool.not_eq_false', Tree.isNil_iff, Tree.isNil_not, Int.not_lt, Int.not_le, gt_iff_lt, ge_iff_le, ne_eq, Decidable.not_not, Int.toNat_natCast, Int.toNat_zero, Int.toNat_one] at hc) <;> conv => whnf)
    · refine loop_go (α := Nat × Int) (fun p => ⟨[(3, .d (.int .i64 p.2)), (11, .d (.trees T.kids)), (12, .d (.int .i64 T.kids.length)), (13, .d (.int .i64 p.1))], 23, [], 0, g⟩) (fun p => p.1 ≤ T.kids.length ∧ sizesF p.2 (T.kids.drop p.1) = sizesF 1 T.kids) (fun p => T.kids.length - p.1) (0, 1) ⟨by omega, rfl⟩
        (Ent.re [] rfl rfl rfl rfl rfl rfl (by repeat' first | exact trivial | apply And.intro | rfl) trivial) (fun _ => rfl) fun p hpre => ?_
      obtain ⟨hp1, hp2⟩ := hpre
      repeat' first
        | (refine then_go hm htt ?_; conv => whnf)
        | (refine Side.mk (by first | assumption | exact trivial | rfl | exact Nat.le_of_ble_eq_true rfl | omega) ?_; conv => whnf)
        | (refine Hyp.mk fun hlen => ?_; replace hlen : _ ≤ 17592186044416 := hlen; conv => whnf)
        | (refine Split.ct ?_; conv => whnf)
        | (refine Split.cf ?_; conv => whnf)
        | (refine Split.of_true (by first | rfl | assumption | ((try simp only [bytes_eq, bytes_ne, empty_bytes, bytes_bne, bytes_bne']); (try simp only [decide_eq_true_eq, decide_eq_false_iff_not, beq_iff_eq, beq_eq_false_iff_ne, bne_iff_ne, bne_eq_false_iff_eq, Bool.not_eq_true', Bool.not_eq_false', Tree.isNil_iff, Tree.isNil_not, Int.not_lt, Int.not_le, gt_iff_lt, ge_iff_le, ne_eq, Decidable.not_not, Int.toNat_natCast, Int.toNat_zero, Int.toNat_one]); first | assumption | omega)) ?_; conv => whnf)
        | (refine Split.of_false (by first | rfl | assumption | ((try simp only [bytes_eq, bytes_ne, empty_bytes, bytes_bne, bytes_bne']); (try simp only [decide_eq_true_eq, decide_eq_false_iff_not, beq_iff_eq, beq_eq_false_iff_ne, bne_iff_ne, bne_eq_false_iff_eq, Bool.not_eq_true', Bool.not_eq_false', Tree.isNil_iff, Tree.isNil_not, Int.not_lt, Int.not_le, gt_iff_lt, ge_iff_le, ne_eq, Decidable.not_not, Int.toNat_natCast, Int.toNat_zero, Int.toNat_one]); first | assumption | omega)) ?_; conv => whnf)
        | (refine Indep.mk (by kernel_rfl) ?_; conv => whnf)
        | (refine CallG.pure (ih _ (getD_mem (by omega))) rfl ?_; conv => whnf)
        | (refine Split.mk (fun hc => ?_) (fun hc => ?_) <;> (try simp only [bytes_eq, bytes_ne, empty_bytes, bytes_bne, bytes_bne'] at hc) <;> (try simp only [decide_eq_true_eq, decide_eq_false_iff_not, beq_iff_eq, beq_eq_false_iff_ne, bne_iff_ne, bne_eq_false_iff_eq, Bool.not_eq_true', Bool.not_eq_false', Tree.isNil_iff, Tree.isNil_not, Int.not_lt, Int.not_le, gt_iff_lt, ge_iff_le, ne_eq, Decidable.not_not, Int.toNat_natCast, Int.toNat_zero, Int.toNat_one] at hc) <;> conv => whnf)
      · rw [drop_step (by omega), sizesF] at hp2
        exact ⟨(p.1 + 1, _), ⟨by omega, hp2⟩, by omega, Ent.re [] rfl rfl rfl rfl rfl rfl (by repeat' first | exact trivial | apply And.intro | rfl | (refine int_eq ?_; rw [wrap64] <;> omega)) trivial⟩
      · refine ret_closed rfl (int_eq ?_) rfl
        rw [drop_end (by omega), sizesF] at hp2
        rw [sizeF_kids hT, ← hp2]

end Go.Proofs.Ytfblaochmhhknaa

namespace Go.Proofs.Ytfblaochmhhknaa
open Go Go.Mq
set_option linter.all false

theorem walkF_full {σ : Type} {f : Tree → Int → σ → Tree × σ} (hf : ∀ x deep s, Full x → Full (f x deep s).1) (T : Tree) : ∀ deep s, Full T → Full (walkF f T deep s).1 := by
  induction T using Tree.ind' with
  | h0 => intro deep s h; exact absurd rfl h.ne
  | h1 T hT ih =>
    have kids : ∀ (l : List Tree), (∀ x ∈ l, ∀ deep s, Full x → Full (walkF f x deep s).1) → (∀ x ∈ l, Full x) → ∀ deep s, ∀ y ∈ (walksF f l deep s).1, Full y := by
      intro l
      induction l with
      | nil => intro _ _ deep s y hy; rw [walksF] at hy; simp at hy
      | cons x l ih2 =>
        intro hx hF deep s y hy
        rw [walksF] at hy
        rcases List.mem_cons.1 hy with rfl | hy
        · exact hx x (by simp) deep s (hF x (by simp))
        · exact ih2 (fun z hz => hx z (by simp [hz])) (fun z hz => hF z (by simp [hz])) _ _ y hy
    intro deep s hF
    rw [walkF_eq f hT]
    split
    · exact hf T deep s hF
    · split
      · exact hF
      · exact .node (kids T.kids ih hF.kids _ _)

theorem movedF_full (T : Tree) (b : Int) : Full (movedF T b) := .node (fun x hx => by simp at hx)
theorem shiftStep_full (frm b : Int) (x : Tree) (deep : Int) (s : Bool) (h : Full x) : Full (shiftStep frm b x deep s).1 := by
  unfold shiftStep
  repeat' split
  all_goals first | exact h | exact movedF_full _ _
theorem shiftR_full {T : Tree} {b frm : Int} (h : (shiftR T b frm).2 = 0) : Full (shiftR T b frm).1 := by
  unfold shiftR at h ⊢
  split at h
  · split at h
    · rw [if_pos ‹_›, if_pos ‹_›]
      exact walkF_full (shiftStep_full frm b) T 0 _ (conE_full ‹_›).1
    · simp at h
  · exact absurd h ‹_›
theorem substStep_full (i own : Int) (b x : Tree) (deep : Int) (s : Int × Int) (h : Full x) : Full (substStep i own b x deep s).1 := by
  unfold substStep
  repeat' split
  all_goals first | exact h | exact movedF_full _ _ | skip
  rename_i hq
  exact shiftR_full (Decidable.not_not.1 hq)

def substE (T : Tree) (i : Int) (b : Tree) : Int :=
  if (walkF (substStep i (sizeF b) b) T 0 (0, 0)).2.1 = 0 ∧ 65536 < largeF 65536 (walkF (substStep i (sizeF b) b) T 0 (0, 0)).1 then 3 else (walkF (substStep i (sizeF b) b) T 0 (0, 0)).2.1
def substR (T : Tree) (i : Int) (b : Tree) : Tree × Int :=
  if conE T = 0 then
    if conE b = 0 then
      if i < 0 then (.nil, 2)
      else if substE T i b = 0 then ((walkF (substStep i (sizeF b) b) T 0 (0, 0)).1, 0) else (.nil, substE T i b)
    else (.nil, conE b)
  else (.nil, conE T)

set_option maxHeartbeats 4000000 in
set_option maxRecDepth 10000 in
theorem subst_ok (T : Tree) (i : Int) (b : Tree) : Pure P 30 [.d (.tree T), .d (.int .i64 i), .d (.tree b)] (.tuple [.d (.tree (substR T i b).1), .d (.int .i64 (substR T i b).2)]) := by
  refine Pure.of_body tt [] [6, 7] Try.func30 rfl rfl rfl (Nat.le_of_ble_eq_true rfl) fun g => ?_
  repeat' first
    | (refine then_go hm htt ?_; conv => whnf)
    | (refine Side.mk (by first | assumption | exact trivial | rfl | exact Nat.le_of_ble_eq_true rfl | omega) ?_; conv => whnf)
    | (refine Hyp.mk fun hlen => ?_; replace hlen : _ ≤ 17592186044416 := hlen; conv => whnf)
    | (refine Split.ct ?_; conv => whnf)
    | (refine Split.cf ?_; conv => whnf)
    | (refine Split.of_true (by first | rfl | assumption | ((try simp only [bytes_eq, bytes_ne, empty_bytes, bytes_bne, bytes_bne']); (try simp only [decide_eq_true_eq, decide_eq_false_iff_not, beq_iff_eq, beq_eq_false_iff_ne, bne_iff_ne, bne_eq_false_iff_eq, Bool.not_eq_true', Bool.not_eq_false', Tree.isNil_iff, Tree.isNil_not, Int.not_lt, Int.not_le, gt_iff_lt, ge_iff_le, ne_eq, Decidable.not_not, Int.toNat_natCast, Int.toNat_zero, Int.toNat_one]); first | assumption | omega)) ?_; conv => whnf)
    | (refine Split.of_false (by first | rfl | assumption | ((try simp only [bytes_eq, bytes_ne, empty_bytes, bytes_bne, bytes_bne']); (try simp only [decide_eq_true_eq, decide_eq_false_iff_not, beq_iff_eq, beq_eq_false_iff_ne, bne_iff_ne, bne_eq_false_iff_eq, Bool.not_eq_true', Bool.not_eq_false', Tree.isNil_iff, Tree.isNil_not, Int.not_lt, Int.not_le, gt_iff_lt, ge_iff_le, ne_eq, Decidable.not_not, Int.toNat_natCast, Int.toNat_zero, Int.toNat_one]); first | assumption | omega)) ?_; conv => whnf)
    | (refine Indep.mk (by kernel_rfl) ?_; conv => whnf)
    | (refine CallG.pure (check_ok T) rfl ?_; conv => whnf)
    | (refine CallG.pure (check_ok b) rfl ?_; conv => whnf)
    | (refine CallG.pure (size_ok b) rfl ?_; conv => whnf)
    | (refine CallG.fun (walkSubst_ok i (sizeF b) b T 0 (0, 0) (conE_full (by assumption)).1) [3, 0, 2, 4, 1] rfl rfl rfl rfl rfl rfl (by repeat' first | exact trivial | apply And.intro | rfl | (refine int_eq ?_; rw [wrap64] <;> omega)) rfl ?_; conv => whnf)
    | (refine CallG.pure (large_ok (walkF (substStep i (sizeF b) b) T 0 (0, 0)).1 65536 (walkF_full (substStep_full i (sizeF b) b) T 0 (0, 0) (conE_full (by assumption)).1) (by omega) (by omega)) rfl ?_; conv => whnf)
    | (refine Split.mk (fun hc => ?_) (fun hc => ?_) <;> (try simp only [bytes_eq, bytes_ne, empty_bytes, bytes_bne, bytes_bne'] at hc) <;> (try simp only [decide_eq_true_eq, decide_eq_false_iff_not, beq_iff_eq, beq_eq_false_iff_ne, bne_iff_ne, bne_eq_false_iff_eq, Bool.not_eq_true', Bool.not_eq_false', Tree.isNil_iff, Tree.isNil_not, Int.not_lt, Int.not_le, gt_iff_lt, ge_iff_le, ne_eq, Decidable.not_not, Int.toNat_natCast, Int.toNat_zero, Int.toNat_one] at hc) <;> conv => whnf)
  all_goals refine ret_closed rfl (tup2 (tree_eq ?_) (int_eq ?_)) rfl
  all_goals (unfold substR substE; (repeat' split) <;> first | rfl | omega | (exfalso; omega) | (simp_all; done) | (simp_all; omega))
end Go.Proofs.Ytfblaochmhhknaa

namespace Go.Proofs.Ytfblaochmhhknaa
open Go Go.Mq
set_option linter.all false

/-! the document's answers to layer 10 -/
set_option maxRecDepth 10000 in
theorem rplain_ok (T : Tree) (hT : T ≠ .nil) (name : Bool) : Pure P 121 [.d (.tree T), .d (.bool name)] (.d (.bool (bareF T name false))) := by
  refine Pure.of_body tt [] [4] Try.func121 rfl rfl rfl (Nat.le_of_ble_eq_true rfl) fun g => ?_
  repeat' first
    | (refine then_go hm htt ?_; conv => whnf)
    | (refine Side.mk (by first | assumption | exact trivial | rfl | exact Nat.le_of_ble_eq_true rfl | omega) ?_; conv => whnf)
    | (refine Hyp.mk fun hlen => ?_; replace hlen : _ ≤ 17592186044416 := hlen; conv => whnf)
    | (refine Split.ct ?_; conv => whnf)
    | (refine Split.cf ?_; conv => whnf)
    | (refine Split.of_true (by first | rfl | assumption | ((try simp only [bytes_eq, bytes_ne, empty_bytes, bytes_bne, bytes_bne']); (try simp only [decide_eq_true_eq, decide_eq_false_iff_not, beq_iff_eq, beq_eq_false_iff_ne, bne_iff_ne, bne_eq_false_iff_eq, Bool.not_eq_true', Bool.not_eq_false', Tree.isNil_iff, Tree.isNil_not, Int.not_lt, Int.not_le, gt_iff_lt, ge_iff_le, ne_eq, Decidable.not_not, Int.toNat_natCast, Int.toNat_zero, Int.toNat_one]); first | assumption | omega)) ?_; conv => whnf)
    | (refine Split.of_false (by first | rfl | assumption | ((try simp only [bytes_eq, bytes_ne, empty_bytes, bytes_bne, bytes_bne']); (try simp only [decide_eq_true_eq, decide_eq_false_iff_not, beq_iff_eq, beq_eq_false_iff_ne, bne_iff_ne, bne_eq_false_iff_eq, Bool.not_eq_true', Bool.not_eq_false', Tree.isNil_iff, Tree.isNil_not, Int.not_lt, Int.not_le, gt_iff_lt, ge_iff_le, ne_eq, Decidable.not_not, Int.toNat_natCast, Int.toNat_zero, Int.toNat_one]); first | assumption | omega)) ?_; conv => whnf)
    | (refine Indep.mk (by kernel_rfl) ?_; conv => whnf)
    | (refine Split.mk (fun hc => ?_) (fun hc => ?_) <;> (try simp only [bytes_eq, bytes_ne, empty_bytes, bytes_bne, bytes_bne'] at hc) <;> (try simp only [decide_eq_true_eq, decide_eq_false_iff_not, beq_iff_eq, beq_eq_false_iff_ne, bne_iff_ne, bne_eq_false_iff_eq, Bool.not_eq_true', Bool.not_eq_false', Tree.isNil_iff, Tree.isNil_not, Int.not_lt, Int.not_le, gt_iff_lt, ge_iff_le, ne_eq, Decidable.not_not, Int.toNat_natCast, Int.toNat_zero, Int.toNat_one] at hc) <;> conv => whnf)
  all_goals refine ret_closed rfl (bool_eq ?_) rfl
  all_goals (try simp only [bytes_dec, empty_bytes])
  all_goals (unfold bareF; by_cases q1 : T.mark = ByteArray.empty <;> by_cases q2 : T.name = ByteArray.empty <;> by_cases q3 : T.n = 0 <;> cases name <;> simp_all [int_dec])

set_option maxHeartbeats 2000000 in
set_option maxRecDepth 10000 in
theorem risKind_ok (T : Tree) (hF : Full T) : Pure P 70 [.d (.tree T)] (.d (.bool (isKindF T))) := by
  induction T using Tree.ind' with
  | h0 => exact absurd rfl hF.ne
  | h1 T hT ih => ?_
  refine Pure.of_body tt [] [2] Try.func70 rfl rfl rfl (Nat.le_of_ble_eq_true rfl) fun g => ?_
  repeat' first
    | (refine then_go hm htt ?_; conv => whnf)
    | (refine Side.mk (by first | assumption | exact trivial | rfl | exact Nat.le_of_ble_eq_true rfl | omega) ?_; conv => whnf)
    | (refine Hyp.mk fun hlen => ?_; replace hlen : _ ≤ 17592186044416 := hlen; conv => whnf)
    | (refine Split.ct ?_; conv => whnf)
    | (refine Split.cf ?_; conv => whnf)
    | (refine Split.of_true (by first | rfl | assumption | ((try simp only [bytes_eq, bytes_ne, empty_bytes, bytes_bne, bytes_bne']); (try simp only [decide_eq_true_eq, decide_eq_false_iff_not, beq_iff_eq, beq_eq_false_iff_ne, bne_iff_ne, bne_eq_false_iff_eq, Bool.not_eq_true', Bool.not_eq_false', Tree.isNil_iff, Tree.isNil_not, Int.not_lt, Int.not_le, gt_iff_lt, ge_iff_le, ne_eq, Decidable.not_not, Int.toNat_natCast, Int.toNat_zero, Int.toNat_one]); first | assumption | omega)) ?_; conv => whnf)
    | (refine Split.of_false (by first | rfl | assumption | ((try simp only [bytes_eq, bytes_ne, empty_bytes, bytes_bne, bytes_bne']); (try simp only [decide_eq_true_eq, decide_eq_false_iff_not, beq_iff_eq, beq_eq_false_iff_ne, bne_iff_ne, bne_eq_false_iff_eq, Bool.not_eq_true', Bool.not_eq_false', Tree.isNil_iff, Tree.isNil_not, Int.not_lt, Int.not_le, gt_iff_lt, ge_iff_le, ne_eq, Decidable.not_not, Int.toNat_natCast, Int.toNat_zero, Int.toNat_one]); first | assumption | omega)) ?_; conv => whnf)
    | (refine Indep.mk (by kernel_rfl) ?_; conv => whnf)
    | (refine CallG.pure (rplain_ok T hT false) rfl ?_; conv => whnf)
    | (refine CallG.pure (ih (T.kids.getD 0 .nil) (getD_mem (by omega)) (hF.kid (by omega))) rfl ?_; conv => whnf)
    | (refine CallG.pure (ih (T.kids.getD 1 .nil) (getD_mem (by omega)) (hF.kid (by omega))) rfl ?_; conv => whnf)
    | (refine Split.mk (fun hc => ?_) (fun hc => ?_) <;> (try simp only [bytes_eq, bytes_ne, empty_bytes, bytes_bne, bytes_bne'] at hc) <;> (try simp only [decide_eq_true_eq, decide_eq_false_iff_not, beq_iff_eq, beq_eq_false_iff_ne, bne_iff_ne, bne_eq_false_iff_eq, Bool.not_eq_true', Bool.not_eq_false', Tree.isNil_iff, Tree.isNil_not, Int.not_lt, Int.not_le, gt_iff_lt, ge_iff_le, ne_eq, Decidable.not_not, Int.toNat_natCast, Int.toNat_zero, Int.toNat_one] at hc) <;> conv => whnf)
  all_goals refine ret_closed rfl (bool_eq ?_) rfl
  all_goals (rw [isKindF_eq hT]; (repeat' split) <;> simp_all [-List.getD_eq_getElem?_getD, int_dec])

set_option maxRecDepth 10000 in
theorem rinner_ok (T : Tree) (hT : T ≠ .nil) : Pure P 128 [.d (.tree T)] (.d (.int .i64 (bindsF T))) := by
  refine Pure.of_body tt [] [2] Try.func128 rfl rfl rfl (Nat.le_of_ble_eq_true rfl) fun g => ?_
  repeat' first
    | (refine then_go hm htt ?_; conv => whnf)
    | (refine Side.mk (by first | assumption | exact trivial | rfl | exact Nat.le_of_ble_eq_true rfl | omega) ?_; conv => whnf)
    | (refine Hyp.mk fun hlen => ?_; replace hlen : _ ≤ 17592186044416 := hlen; conv => whnf)
    | (refine Split.ct ?_; conv => whnf)
    | (refine Split.cf ?_; conv => whnf)
    | (refine Split.of_true (by first | rfl | assumption | ((try simp only [bytes_eq, bytes_ne, empty_bytes, bytes_bne, bytes_bne']); (try simp only [decide_eq_true_eq, decide_eq_false_iff_not, beq_iff_eq, beq_eq_false_iff_ne, bne_iff_ne, bne_eq_false_iff_eq, Bool.not_eq_true', Bool.not_eq_false', Tree.isNil_iff, Tree.isNil_not, Int.not_lt, Int.not_le, gt_iff_lt, ge_iff_le, ne_eq, Decidable.not_not, Int.toNat_natCast, Int.toNat_zero, Int.toNat_one]); first | assumption | omega)) ?_; conv => whnf)
    | (refine Split.of_false (by first | rfl | assumption | ((try simp only [bytes_eq, bytes_ne, empty_bytes, bytes_bne, bytes_bne']); (try simp only [decide_eq_true_eq, decide_eq_false_iff_not, beq_iff_eq, beq_eq_false_iff_ne, bne_iff_ne, bne_eq_false_iff_eq, Bool.not_eq_true', Bool.not_eq_false', Tree.isNil_iff, Tree.isNil_not, Int.not_lt, Int.not_le, gt_iff_lt, ge_iff_le, ne_eq, Decidable.not_not, Int.toNat_natCast, Int.toNat_zero, Int.toNat_one]); first | assumption | omega)) ?_; conv => whnf)
    | (refine Indep.mk (by kernel_rfl) ?_; conv => whnf)
    | (refine Split.mk (fun hc => ?_) (fun hc => ?_) <;> (try simp only [bytes_eq, bytes_ne, empty_bytes, bytes_bne, bytes_bne'] at hc) <;> (try simp only [decide_eq_true_eq, decide_eq_false_iff_not, beq_iff_eq, beq_eq_false_iff_ne, bne_iff_ne, bne_eq_false_iff_eq, Bool.not_eq_true', Bool.not_eq_false', Tree.isNil_iff, Tree.isNil_not, Int.not_lt, Int.not_le, gt_iff_lt, ge_iff_le, ne_eq, Decidable.not_not, Int.toNat_natCast, Int.toNat_zero, Int.toNat_one] at hc) <;> conv => whnf)
  all_goals refine ret_closed rfl (int_eq ?_) rfl
  all_goals (unfold bindsF; (repeat' split) <;> first | rfl | omega | (exfalso; omega))

def withinL (left : Int) (T : Tree) : Int := if (wholeF left T).1 = 0 then (wholeF left T).2 else if T.isNil then left else 0
set_option maxHeartbeats 2000000 in
set_option maxRecDepth 10000 in
theorem rwithin_ok (T : Tree) : ∀ left : Int, 0 ≤ left → left ≤ 65536 → Pure P 67 [.d (.tree T), .d (.int .i64 left)] (.tuple [.d (.int .i64 (withinL left T)), .d (.int .i64 (wholeF left T).1)]) := by
  induction T using Tree.ind' with
  | h0 => ?_
  | h1 T hT ih => ?_
  · intro left h1 h2
    refine Pure.of_body tt [] [4, 5] Try.func67 rfl rfl rfl (Nat.le_of_ble_eq_true rfl) fun g => ?_
    repeat' first
      | (refine then_go hm htt ?_; conv => whnf)
      | (refine Side.mk (by first | assumption | exact trivial | rfl | exact Nat.le_of_ble_eq_true rfl | omega) ?_; conv => whnf)
      | (refine Hyp.mk fun hlen => ?_; replace hlen : _ ≤ 17592186044416 := hlen; conv => whnf)
      | (refine Split.ct ?_; conv => whnf)
      | (refine Split.cf ?_; conv => whnf)
      | (refine Split.of_true (by first | rfl | assumption | ((try simp only [bytes_eq, bytes_ne, empty_bytes, bytes_bne, bytes_bne']); (try simp only [decide_eq_true_eq, decide_eq_false_iff_not, beq_iff_eq, beq_eq_false_iff_ne, bne_iff_ne, bne_eq_false_iff_eq, Bool.not_eq_true', Bool.not_eq_false', Tree.isNil_iff, Tree.isNil_not, Int.not_lt, Int.not_le, gt_iff_lt, ge_iff_le, ne_eq, Decidable.not_not, Int.toNat_natCast, Int.toNat_zero, Int.toNat_one]); first | assumption | omega)) ?_; conv => whnf)
      | (refine Split.of_false (by first | rfl | assumption | ((try simp only [bytes_eq, bytes_ne, empty_bytes, bytes_bne, bytes_bne']); (try simp only [decide_eq_true_eq, decide_eq_false_iff_not, beq_iff_eq, beq_eq_false_iff_ne, bne_iff_ne, bne_eq_false_iff_eq, Bool.not_eq_true', Bool.not_eq_false', Tree.isNil_iff, Tree.isNil_not, Int.not_lt, Int.not_le, gt_iff_lt, ge_iff_le, ne_eq, Decidable.not_not, Int.toNat_natCast, Int.toNat_zero, Int.toNat_one]); first | assumption | omega)) ?_; conv => whnf)
      | (refine Indep.mk (by kernel_rfl) ?_; conv => whnf)
      | (refine Split.mk (fun hc => ?_) (fun hc => ?_) <;> (try simp only [bytes_eq, bytes_ne, empty_bytes, bytes_bne, bytes_bne'] at hc) <;> (try simp only [decide_eq_true_eq, decide_eq_false_iff_not, beq_iff_eq, beq_eq_false_iff_ne, bne_iff_ne, bne_eq_false_iff_eq, Bool.not_eq_true', Bool.not_eq_false', Tree.isNil_iff, Tree.isNil_not, Int.not_lt, Int.not_le, gt_iff_lt, ge_iff_le, ne_eq, Decidable.not_not, Int.toNat_natCast, Int.toNat_zero, Int.toNat_one] at hc) <;> conv => whnf)
    exact ret_closed rfl (tup2 (int_eq (by simp [withinL, wholeF, Tree.isNil])) (int_eq (by rw [wholeF]))) rfl
  · intro left h1 h2
    have hnil : T.isNil = false := Tree.isNil_not.2 hT
    refine Pure.of_body tt [] [4, 5] Try.func67 rfl rfl rfl (Nat.le_of_ble_eq_true rfl) fun g => ?_
    repeat' first
      | (refine then_go hm htt ?_; conv => whnf)
      | (refine Side.mk (by first | assumption | exact trivial | rfl | exact Nat.le_of_ble_eq_true rfl | omega) ?_; conv => whnf)
      | (refine Hyp.mk fun hlen => ?_; replace hlen : _ ≤ 17592186044416 := hlen; conv => whnf)
      | (refine Split.ct ?_; conv => whnf)
      | (refine Split.cf ?_; conv => whnf)
      | (refine Split.of_true (by first | rfl | assumption | ((try simp only [bytes_eq, bytes_ne, empty_bytes, bytes_bne, bytes_bne']); (try simp only [decide_eq_true_eq, decide_eq_false_iff_not, beq_iff_eq, beq_eq_false_iff_ne, bne_iff_ne, bne_eq_false_iff_eq, Bool.not_eq_true', Bool.not_eq_false', Tree.isNil_iff, Tree.isNil_not, Int.not_lt, Int.not_le, gt_iff_lt, ge_iff_le, ne_eq, Decidable.not_not, Int.toNat_natCast, Int.toNat_zero, Int.toNat_one]); first | assumption | omega)) ?_; conv => whnf)
      | (refine Split.of_false (by first | rfl | assumption | ((try simp only [bytes_eq, bytes_ne, empty_bytes, bytes_bne, bytes_bne']); (try simp only [decide_eq_true_eq, decide_eq_false_iff_not, beq_iff_eq, beq_eq_false_iff_ne, bne_iff_ne, bne_eq_false_iff_eq, Bool.not_eq_true', Bool.not_eq_false', Tree.isNil_iff, Tree.isNil_not, Int.not_lt, Int.not_le, gt_iff_lt, ge_iff_le, ne_eq, Decidable.not_not, Int.toNat_natCast, Int.toNat_zero, Int.toNat_one]); first | assumption | omega)) ?_; conv => whnf)
      | (refine Indep.mk (by kernel_rfl) ?_; conv => whnf)
      | (refine Split.mk (fun hc => ?_) (fun hc => ?_) <;> (try simp only [bytes_eq, bytes_ne, empty_bytes, bytes_bne, bytes_bne'] at hc) <;> (try simp only [decide_eq_true_eq, decide_eq_false_iff_not, beq_iff_eq, beq_eq_false_iff_ne, bne_iff_ne, bne_eq_false_iff_eq, Bool.not_eq_true', Bool.not_eq_false', Tree.isNil_iff, Tree.isNil_not, Int.not_lt, Int.not_le, gt_iff_lt, ge_iff_le, ne_eq, Decidable.not_not, Int.toNat_natCast, Int.toNat_zero, Int.toNat_one] at hc) <;> conv => whnf)
    · have e : wholeF left T = (3, left - 1) := by rw [wholeF_kids hT, if_pos (by omega)]
      exact ret_closed rfl (tup2 (int_eq (by simp [withinL, e, hnil])) (int_eq (by rw [e]))) rfl
    · have hw : IntKind.i64.wrap (left - 1) = left - 1 := wrap64 (by omega) (by omega)
      have e : wholeF left T = wholesF (left - 1) T.kids := by rw [wholeF_kids hT, if_neg (by omega)]
      refine loop_go (α := Nat × Int) (fun p => ⟨[(0, .d (.tree T)), (1, .d (.int .i64 p.2)), (6, .d (.int .i64 p.1))], 42, [], 0, g⟩)
        (fun p => p.1 ≤ T.kids.length ∧ (0 ≤ p.2 ∧ p.2 ≤ 65536) ∧ wholesF p.2 (T.kids.drop p.1) = wholesF (left - 1) T.kids) (fun p => T.kids.length - p.1) (0, IntKind.i64.wrap (left - 1)) ⟨by omega, by rw [hw]; simp only []; omega, by rw [hw]; rfl⟩
        (Ent.re [] rfl rfl rfl rfl rfl rfl (by repeat' first | exact trivial | apply And.intro | rfl | (refine int_eq ?_; rw [wrap64] <;> omega)) (by repeat' first | exact trivial | apply And.intro | rfl | (refine int_eq ?_; rw [wrap64] <;> omega))) (fun _ => rfl) fun p hpre => ?_
      obtain ⟨i, s⟩ := p
      obtain ⟨hp1, hp2, hp3⟩ := hpre
      simp only [] at hp1 hp2 hp3
      have hb := whole_bound (T.kids.getD i .nil) s hp2.1
      repeat' first
        | (refine then_go hm htt ?_; conv => whnf)
        | (refine Side.mk (by first | assumption | exact trivial | rfl | exact Nat.le_of_ble_eq_true rfl | omega) ?_; conv => whnf)
        | (refine Hyp.mk fun hlen => ?_; replace hlen : _ ≤ 17592186044416 := hlen; conv => whnf)
        | (refine Split.ct ?_; conv => whnf)
        | (refine Split.cf ?_; conv => whnf)
        | (refine Split.of_true (by first | rfl | assumption | ((try simp only [bytes_eq, bytes_ne, empty_bytes, bytes_bne, bytes_bne']); (try simp only [decide_eq_true_eq, decide_eq_false_iff_not, beq_iff_eq, beq_eq_false_iff_ne, bne_iff_ne, bne_eq_false_iff_eq, Bool.not_eq_true', Bool.not_eq_false', Tree.isNil_iff, Tree.isNil_not, Int.not_lt, Int.not_le, gt_iff_lt, ge_iff_le, ne_eq, Decidable.not_not, Int.toNat_natCast, Int.toNat_zero, Int.toNat_one]); first | assumption | omega)) ?_; conv => whnf)
        | (refine Split.of_false (by first | rfl | assumption | ((try simp only [bytes_eq, bytes_ne, empty_bytes, bytes_bne, bytes_bne']); (try simp only [decide_eq_true_eq, decide_eq_false_iff_not, beq_iff_eq, beq_eq_false_iff_ne, bne_iff_ne, bne_eq_false_iff_eq, Bool.not_eq_true', Bool.not_eq_false', Tree.isNil_iff, Tree.isNil_not, Int.not_lt, Int.not_le, gt_iff_lt, ge_iff_le, ne_eq, Decidable.not_not, Int.toNat_natCast, Int.toNat_zero, Int.toNat_one]); first | assumption | omega)) ?_; conv => whnf)
        | (refine Indep.mk (by kernel_rfl) ?_; conv => whnf)
        | (refine CallG.pure (ih (T.kids.getD i .nil) (getD_mem (by omega)) s (by omega) (by omega)) rfl ?_; conv => whnf)
        | (refine Split.mk (fun hc => ?_) (fun hc => ?_) <;> (try simp only [bytes_eq, bytes_ne, empty_bytes, bytes_bne, bytes_bne'] at hc) <;> (try simp only [decide_eq_true_eq, decide_eq_false_iff_not, beq_iff_eq, beq_eq_false_iff_ne, bne_iff_ne, bne_eq_false_iff_eq, Bool.not_eq_true', Bool.not_eq_false', Tree.isNil_iff, Tree.isNil_not, Int.not_lt, Int.not_le, gt_iff_lt, ge_iff_le, ne_eq, Decidable.not_not, Int.toNat_natCast, Int.toNat_zero, Int.toNat_one] at hc) <;> conv => whnf)
      · rw [drop_step (by omega), wholesF, if_neg hc] at hp3
        exact ret_closed rfl (tup2 (int_eq (by rw [withinL, e, ← hp3, if_neg hc, hnil]; rfl)) (int_eq (by rw [e, ← hp3]))) rfl
      · rw [drop_step (by omega), wholesF, if_pos hc] at hp3
        have hl : withinL s (T.kids.getD i .nil) = (wholeF s (T.kids.getD i .nil)).2 := if_pos hc
        refine ⟨(i + 1, withinL s (T.kids.getD i .nil)), ⟨by simp only []; omega, by rw [hl]; simp only []; have := hb.2 hc; omega, by rw [hl]; exact hp3⟩, by simp only []; omega, Ent.re [] rfl rfl rfl rfl rfl rfl (by repeat' first | exact trivial | apply And.intro | rfl | (refine int_eq ?_; rw [wrap64] <;> omega)) (by repeat' first | exact trivial | apply And.intro | rfl | (refine int_eq ?_; rw [wrap64] <;> omega))⟩
      · rw [drop_end (by omega), wholesF] at hp3
        exact ret_closed rfl (tup2 (int_eq (by rw [withinL, e, ← hp3]; rfl)) (int_eq (by rw [e, ← hp3]))) rfl

set_option maxRecDepth 10000 in
theorem rkind_ok (T : Tree) : Pure P 26 [.d (.tree T)] (.d (.int .i64 (kindE T))) := by
  refine Pure.of_body tt [] [2] Try.func26 rfl rfl rfl (Nat.le_of_ble_eq_true rfl) fun g => ?_
  repeat' first
    | (refine then_go hm htt ?_; conv => whnf)
    | (refine Side.mk (by first | assumption | exact trivial | rfl | exact Nat.le_of_ble_eq_true rfl | omega) ?_; conv => whnf)
    | (refine Hyp.mk fun hlen => ?_; replace hlen : _ ≤ 17592186044416 := hlen; conv => whnf)
    | (refine Split.ct ?_; conv => whnf)
    | (refine Split.cf ?_; conv => whnf)
    | (refine Split.of_true (by first | rfl | assumption | ((try simp only [bytes_eq, bytes_ne, empty_bytes, bytes_bne, bytes_bne']); (try simp only [decide_eq_true_eq, decide_eq_false_iff_not, beq_iff_eq, beq_eq_false_iff_ne, bne_iff_ne, bne_eq_false_iff_eq, Bool.not_eq_true', Bool.not_eq_false', Tree.isNil_iff, Tree.isNil_not, Int.not_lt, Int.not_le, gt_iff_lt, ge_iff_le, ne_eq, Decidable.not_not, Int.toNat_natCast, Int.toNat_zero, Int.toNat_one]); first | assumption | omega)) ?_; conv => whnf)
    | (refine Split.of_false (by first | rfl | assumption | ((try simp only [bytes_eq, bytes_ne, empty_bytes, bytes_bne, bytes_bne']); (try simp only [decide_eq_true_eq, decide_eq_false_iff_not, beq_iff_eq, beq_eq_false_iff_ne, bne_iff_ne, bne_eq_false_iff_eq, Bool.not_eq_true', Bool.not_eq_false', Tree.isNil_iff, Tree.isNil_not, Int.not_lt, Int.not_le, gt_iff_lt, ge_iff_le, ne_eq, Decidable.not_not, Int.toNat_natCast, Int.toNat_zero, Int.toNat_one]); first | assumption | omega)) ?_; conv => whnf)
    | (refine Indep.mk (by kernel_rfl) ?_; conv => whnf)
    | (refine CallG.pure (rwithin_ok T 65536 (by omega) (by omega)) rfl ?_; conv => whnf)
    | (refine CallG.pure (risKind_ok T (wholeF_full T 65536 (by assumption))) rfl ?_; conv => whnf)
    | (refine Split.mk (fun hc => ?_) (fun hc => ?_) <;> (try simp only [bytes_eq, bytes_ne, empty_bytes, bytes_bne, bytes_bne'] at hc) <;> (try simp only [decide_eq_true_eq, decide_eq_false_iff_not, beq_iff_eq, beq_eq_false_iff_ne, bne_iff_ne, bne_eq_false_iff_eq, Bool.not_eq_true', Bool.not_eq_false', Tree.isNil_iff, Tree.isNil_not, Int.not_lt, Int.not_le, gt_iff_lt, ge_iff_le, ne_eq, Decidable.not_not, Int.toNat_natCast, Int.toNat_zero, Int.toNat_one] at hc) <;> conv => whnf)
  all_goals refine ret_closed rfl (int_eq ?_) rfl
  all_goals (simp_all [-List.getD_eq_getElem?_getD, int_dec, kindE, checkF] <;> omega)
end Go.Proofs.Ytfblaochmhhknaa

namespace Go.Proofs.Ytfblaochmhhknaa
open Go Go.Mq
set_option linter.all false

def okPair (rise : Bool) (a b : ByteArray) : Bool := !(decide (a = b)) && (!rise || (ltB a b || decide (a = b)))
def labsF (kind : Int) (rise : Bool) (pre : List Tree) : List Tree → Bool
  | [] => true
  | x :: l => fieldF kind x && pre.all (fun y => okPair rise y.name x.name) && labsF kind rise (pre ++ [x]) l

theorem take_step {l : List Tree} {i : Nat} (h : i < l.length) : l.take i ++ [l.getD i .nil] = l.take (i + 1) := by
  rw [List.getD_eq_getElem?_getD, List.getElem?_eq_getElem h]; simp

theorem bytes_gt {a b : ByteArray} : (!(Op.bytesLess a.toList b.toList || a.toList == b.toList)) = !(ltB a b || decide (a = b)) := by rw [bytes_dec]; rfl

set_option maxHeartbeats 4000000 in
set_option maxRecDepth 10000 in
theorem rlabels_ok (l : List Tree) (hF : ∀ x ∈ l, Full x) (kind : Int) (rise : Bool) (ih : ∀ x ∈ l, ∀ y ∈ x.kids, Pure P 68 [.d (.tree y)] (.d (.bool (isConF y)))) : Pure P 122 [.d (.trees l), .d (.int .i64 kind), .d (.bool rise)] (.d (.bool (labsF kind rise [] l))) := by
  refine Pure.of_body tt [] [6] Try.func122 rfl rfl rfl (Nat.le_of_ble_eq_true rfl) fun g => ?_
  repeat' first
    | (refine then_go hm htt ?_; conv => whnf)
    | (refine Side.mk (by first | assumption | exact trivial | rfl | exact Nat.le_of_ble_eq_true rfl | omega) ?_; conv => whnf)
    | (refine Hyp.mk fun hlen => ?_; replace hlen : _ ≤ 17592186044416 := hlen; conv => whnf)
    | (refine Split.ct ?_; conv => whnf)
    | (refine Split.cf ?_; conv => whnf)
    | (refine Split.of_true (by first | rfl | assumption | ((try simp only [bytes_eq, bytes_ne, empty_bytes, bytes_bne, bytes_bne']); (try simp only [decide_eq_true_eq, decide_eq_false_iff_not, beq_iff_eq, beq_eq_false_iff_ne, bne_iff_ne, bne_eq_false_iff_eq, Bool.not_eq_true', Bool.not_eq_false', Tree.isNil_iff, Tree.isNil_not, Int.not_lt, Int.not_le, gt_iff_lt, ge_iff_le, ne_eq, Decidable.not_not, Int.toNat_natCast, Int.toNat_zero, Int.toNat_one]); first | assumption | omega)) ?_; conv => whnf)
    | (refine Split.of_false (by first | rfl | assumption | ((try simp only [bytes_eq, bytes_ne, empty_bytes, bytes_bne, bytes_bne']); (try simp only [decide_eq_true_eq, decide_eq_false_iff_not, beq_iff_eq, beq_eq_false_iff_ne, bne_iff_ne, bne_eq_false_iff_eq, Bool.not_eq_true', Bool.not_eq_false', Tree.isNil_iff, Tree.isNil_not, Int.not_lt, Int.not_le, gt_iff_lt, ge_iff_le, ne_eq, Decidable.not_not, Int.toNat_natCast, Int.toNat_zero, Int.toNat_one]); first | assumption | omega)) ?_; conv => whnf)
    | (refine Indep.mk (by kernel_rfl) ?_; conv => whnf)
    | (refine Split.mk (fun hc => ?_) (fun hc => ?_) <;> (try simp only [bytes_eq, bytes_ne, empty_bytes, bytes_bne, bytes_bne'] at hc) <;> (try simp only [decide_eq_true_eq, decide_eq_false_iff_not, beq_iff_eq, beq_eq_false_iff_ne, bne_iff_ne, bne_eq_false_iff_eq, Bool.not_eq_true', Bool.not_eq_false', Tree.isNil_iff, Tree.isNil_not, Int.not_lt, Int.not_le, gt_iff_lt, ge_iff_le, ne_eq, Decidable.not_not, Int.toNat_natCast, Int.toNat_zero, Int.toNat_one] at hc) <;> conv => whnf)
  refine loop_go (α := Nat) (fun p => ⟨[(0, .d (.trees l)), (1, .d (.int .i64 kind)), (2, .d (.bool rise)), (7, .d (.int .i64 p))], 99, [], 0, g⟩)
        (fun p => p ≤ l.length ∧ labsF kind rise (l.take p) (l.drop p) = labsF kind rise [] l) (fun p => l.length - p) 0 ⟨by omega, rfl⟩
        (Ent.re [] rfl rfl rfl rfl rfl rfl (by repeat' first | exact trivial | apply And.intro | rfl | (refine int_eq ?_; rw [wrap64] <;> omega)) (by repeat' first | exact trivial | apply And.intro | rfl | (refine int_eq ?_; rw [wrap64] <;> omega))) (fun _ => rfl) fun p hpre => ?_
  obtain ⟨hp1, hp2⟩ := hpre
  by_cases hlt : p < l.length
  · have hmem := getD_mem hlt
    have hx := hF _ hmem
    rw [drop_step hlt, labsF, fieldF_eq hx.ne, take_step hlt] at hp2
    repeat' first
      | (refine then_go hm htt ?_; conv => whnf)
      | (refine Side.mk (by first | assumption | exact trivial | rfl | exact Nat.le_of_ble_eq_true rfl | omega) ?_; conv => whnf)
      | (refine Hyp.mk fun hlen => ?_; replace hlen : _ ≤ 17592186044416 := hlen; conv => whnf)
      | (refine Split.ct ?_; conv => whnf)
      | (refine Split.cf ?_; conv => whnf)
      | (refine Split.of_true (by first | rfl | assumption | ((try simp only [bytes_eq, bytes_ne, empty_bytes, bytes_bne, bytes_bne']); (try simp only [decide_eq_true_eq, decide_eq_false_iff_not, beq_iff_eq, beq_eq_false_iff_ne, bne_iff_ne, bne_eq_false_iff_eq, Bool.not_eq_true', Bool.not_eq_false', Tree.isNil_iff, Tree.isNil_not, Int.not_lt, Int.not_le, gt_iff_lt, ge_iff_le, ne_eq, Decidable.not_not, Int.toNat_natCast, Int.toNat_zero, Int.toNat_one]); first | assumption | omega)) ?_; conv => whnf)
      | (refine Split.of_false (by first | rfl | assumption | ((try simp only [bytes_eq, bytes_ne, empty_bytes, bytes_bne, bytes_bne']); (try simp only [decide_eq_true_eq, decide_eq_false_iff_not, beq_iff_eq, beq_eq_false_iff_ne, bne_iff_ne, bne_eq_false_iff_eq, Bool.not_eq_true', Bool.not_eq_false', Tree.isNil_iff, Tree.isNil_not, Int.not_lt, Int.not_le, gt_iff_lt, ge_iff_le, ne_eq, Decidable.not_not, Int.toNat_natCast, Int.toNat_zero, Int.toNat_one]); first | assumption | omega)) ?_; conv => whnf)
      | (refine Indep.mk (by kernel_rfl) ?_; conv => whnf)
      | (refine Side.mk hx.ne ?_; conv => whnf)
      | (refine Side.mk (show (0 : Int) ≤ 0 ∧ (0 : Int) < ((l.getD p .nil).kids.length : Int) from ⟨by omega, by omega⟩) ?_; conv => whnf)
      | (refine CallG.pure (rplain_ok (l.getD p .nil) hx.ne _) rfl ?_; conv => whnf)
      | (refine CallG.pure (ih (l.getD p .nil) hmem ((l.getD p .nil).kids.getD 0 .nil) (getD_mem (by omega))) rfl ?_; conv => whnf)
      | (refine Split.mk (fun hc => ?_) (fun hc => ?_) <;> (try simp only [bytes_eq, bytes_ne, empty_bytes, bytes_bne, bytes_bne'] at hc) <;> (try simp only [decide_eq_true_eq, decide_eq_false_iff_not, beq_iff_eq, beq_eq_false_iff_ne, bne_iff_ne, bne_eq_false_iff_eq, Bool.not_eq_true', Bool.not_eq_false', Tree.isNil_iff, Tree.isNil_not, Int.not_lt, Int.not_le, gt_iff_lt, ge_iff_le, ne_eq, Decidable.not_not, Int.toNat_natCast, Int.toNat_zero, Int.toNat_one] at hc) <;> conv => whnf)
    all_goals first
      | (refine ret_closed rfl (bool_eq ?_) rfl; rw [← hp2]; have hq : labelF (l.getD p .nil).name = false := (by simp [labelF, -List.getD_eq_getElem?_getD]; omega); rw [hq]; simp; done)
      | (refine ret_closed rfl (bool_eq ?_) rfl; rw [← hp2]; simp_all [-List.getD_eq_getElem?_getD, int_dec]; done)
      | skip
    have hfl : labelF (l.getD p .nil).name = true := by simp [labelF, -List.getD_eq_getElem?_getD]; omega
    have hp4 : ((l.take p).all (fun y => okPair rise y.name (l.getD p .nil).name) && labsF kind rise (l.take (p + 1)) (l.drop (p + 1))) = labsF kind rise [] l := by
      rw [← hp2]; simp_all [-List.getD_eq_getElem?_getD, int_dec]
    refine loop_go (α := Nat) (fun j => ⟨[(0, .d (.trees l)), (1, .d (.int .i64 kind)), (2, .d (.bool rise)), (7, .d (.int .i64 p)), (8, .d (.tree (l.getD p .nil))), (9, .d (.int .i64 j))], 99, [], 0, g⟩)
        (fun j => j ≤ p ∧ ((l.take p).drop j).all (fun y => okPair rise y.name (l.getD p .nil).name) = (l.take p).all (fun y => okPair rise y.name (l.getD p .nil).name)) (fun j => p - j) 0 ⟨by omega, rfl⟩
        (Ent.re [] rfl rfl rfl rfl rfl rfl (by repeat' first | exact trivial | apply And.intro | rfl | (refine int_eq ?_; rw [wrap64] <;> omega)) (by repeat' first | exact trivial | apply And.intro | rfl | (refine int_eq ?_; rw [wrap64] <;> omega))) (fun _ => rfl) fun j hj => ?_
    obtain ⟨hj1, hj2⟩ := hj
    by_cases hjp : j < p
    · have hy := hF _ (getD_mem (show j < l.length by omega))
      have hd : (l.take p).drop j = l.getD j .nil :: (l.take p).drop (j + 1) := by
        rw [drop_step (by simp; omega)]
        congr 1
        simp [List.getElem?_take, hjp]
      rw [hd, List.all_cons] at hj2
      repeat' first
        | (refine then_go hm htt ?_; conv => whnf)
        | (refine Side.mk (by first | assumption | exact trivial | rfl | exact Nat.le_of_ble_eq_true rfl | omega) ?_; conv => whnf)
        | (refine Hyp.mk fun hlen => ?_; replace hlen : _ ≤ 17592186044416 := hlen; conv => whnf)
        | (refine Split.ct ?_; conv => whnf)
        | (refine Split.cf ?_; conv => whnf)
        | (refine Split.of_true (by first | rfl | assumption | ((try simp only [bytes_eq, bytes_ne, empty_bytes, bytes_bne, bytes_bne']); (try simp only [decide_eq_true_eq, decide_eq_false_iff_not, beq_iff_eq, beq_eq_false_iff_ne, bne_iff_ne, bne_eq_false_iff_eq, Bool.not_eq_true', Bool.not_eq_false', Tree.isNil_iff, Tree.isNil_not, Int.not_lt, Int.not_le, gt_iff_lt, ge_iff_le, ne_eq, Decidable.not_not, Int.toNat_natCast, Int.toNat_zero, Int.toNat_one]); first | assumption | omega)) ?_; conv => whnf)
        | (refine Split.of_false (by first | rfl | assumption | ((try simp only [bytes_eq, bytes_ne, empty_bytes, bytes_bne, bytes_bne']); (try simp only [decide_eq_true_eq, decide_eq_false_iff_not, beq_iff_eq, beq_eq_false_iff_ne, bne_iff_ne, bne_eq_false_iff_eq, Bool.not_eq_true', Bool.not_eq_false', Tree.isNil_iff, Tree.isNil_not, Int.not_lt, Int.not_le, gt_iff_lt, ge_iff_le, ne_eq, Decidable.not_not, Int.toNat_natCast, Int.toNat_zero, Int.toNat_one]); first | assumption | omega)) ?_; conv => whnf)
        | (refine Indep.mk (by kernel_rfl) ?_; conv => whnf)
        | (refine Side.mk hx.ne ?_; conv => whnf)
        | (refine Side.mk hy.ne ?_; conv => whnf)
        | (refine Split.mk (fun hc => ?_) (fun hc => ?_) <;> (try simp only [bytes_eq, bytes_ne, empty_bytes, bytes_bne, bytes_bne'] at hc) <;> (try simp only [decide_eq_true_eq, decide_eq_false_iff_not, beq_iff_eq, beq_eq_false_iff_ne, bne_iff_ne, bne_eq_false_iff_eq, Bool.not_eq_true', Bool.not_eq_false', Tree.isNil_iff, Tree.isNil_not, Int.not_lt, Int.not_le, gt_iff_lt, ge_iff_le, ne_eq, Decidable.not_not, Int.toNat_natCast, Int.toNat_zero, Int.toNat_one] at hc) <;> conv => whnf)
      · have ho : okPair rise (l.getD j .nil).name (l.getD p .nil).name = false := by unfold okPair; rw [decide_eq_true hc]; rfl
        refine ret_closed rfl (bool_eq ?_) rfl
        rw [← hp4, ← hj2, ho]; rfl
      · rename_i hne hr
        have ho : okPair rise (l.getD j .nil).name (l.getD p .nil).name = false := by
          rw [bytes_dec] at hc
          have hc' : (ltB (l.getD j .nil).name (l.getD p .nil).name || decide ((l.getD j .nil).name = (l.getD p .nil).name)) = false := hc
          unfold okPair; rw [decide_eq_false hne, hr] at *; rw [hc']; rfl
        refine ret_closed rfl (bool_eq ?_) rfl
        rw [← hp4, ← hj2, ho]; rfl
      · rename_i hne hr
        have ho : okPair rise (l.getD j .nil).name (l.getD p .nil).name = true := by
          rw [bytes_dec] at hc
          have hc' : (ltB (l.getD j .nil).name (l.getD p .nil).name || decide ((l.getD j .nil).name = (l.getD p .nil).name)) = true := hc
          unfold okPair; rw [hc', decide_eq_false hne, hr]; rfl
        rw [ho, Bool.true_and] at hj2
        exact ⟨j + 1, ⟨by omega, hj2⟩, by omega, Ent.re [] rfl rfl rfl rfl rfl rfl (by repeat' first | exact trivial | apply And.intro | rfl | (refine int_eq ?_; rw [wrap64] <;> omega)) (by repeat' first | exact trivial | apply And.intro | rfl | (refine int_eq ?_; rw [wrap64] <;> omega))⟩
      · rename_i hne
        have ho : okPair rise (l.getD j .nil).name (l.getD p .nil).name = true := by unfold okPair; rw [decide_eq_false hne, hc]; rfl
        rw [ho, Bool.true_and] at hj2
        exact ⟨j + 1, ⟨by omega, hj2⟩, by omega, Ent.re [] rfl rfl rfl rfl rfl rfl (by repeat' first | exact trivial | apply And.intro | rfl | (refine int_eq ?_; rw [wrap64] <;> omega)) (by repeat' first | exact trivial | apply And.intro | rfl | (refine int_eq ?_; rw [wrap64] <;> omega))⟩
    · repeat' first
        | (refine then_go hm htt ?_; conv => whnf)
        | (refine Side.mk (by first | assumption | exact trivial | rfl | exact Nat.le_of_ble_eq_true rfl | omega) ?_; conv => whnf)
        | (refine Hyp.mk fun hlen => ?_; replace hlen : _ ≤ 17592186044416 := hlen; conv => whnf)
        | (refine Split.ct ?_; conv => whnf)
        | (refine Split.cf ?_; conv => whnf)
        | (refine Split.of_true (by first | rfl | assumption | ((try simp only [bytes_eq, bytes_ne, empty_bytes, bytes_bne, bytes_bne']); (try simp only [decide_eq_true_eq, decide_eq_false_iff_not, beq_iff_eq, beq_eq_false_iff_ne, bne_iff_ne, bne_eq_false_iff_eq, Bool.not_eq_true', Bool.not_eq_false', Tree.isNil_iff, Tree.isNil_not, Int.not_lt, Int.not_le, gt_iff_lt, ge_iff_le, ne_eq, Decidable.not_not, Int.toNat_natCast, Int.toNat_zero, Int.toNat_one]); first | assumption | omega)) ?_; conv => whnf)
        | (refine Split.of_false (by first | rfl | assumption | ((try simp only [bytes_eq, bytes_ne, empty_bytes, bytes_bne, bytes_bne']); (try simp only [decide_eq_true_eq, decide_eq_false_iff_not, beq_iff_eq, beq_eq_false_iff_ne, bne_iff_ne, bne_eq_false_iff_eq, Bool.not_eq_true', Bool.not_eq_false', Tree.isNil_iff, Tree.isNil_not, Int.not_lt, Int.not_le, gt_iff_lt, ge_iff_le, ne_eq, Decidable.not_not, Int.toNat_natCast, Int.toNat_zero, Int.toNat_one]); first | assumption | omega)) ?_; conv => whnf)
        | (refine Indep.mk (by kernel_rfl) ?_; conv => whnf)
        | (refine Split.mk (fun hc => ?_) (fun hc => ?_) <;> (try simp only [bytes_eq, bytes_ne, empty_bytes, bytes_bne, bytes_bne'] at hc) <;> (try simp only [decide_eq_true_eq, decide_eq_false_iff_not, beq_iff_eq, beq_eq_false_iff_ne, bne_iff_ne, bne_eq_false_iff_eq, Bool.not_eq_true', Bool.not_eq_false', Tree.isNil_iff, Tree.isNil_not, Int.not_lt, Int.not_le, gt_iff_lt, ge_iff_le, ne_eq, Decidable.not_not, Int.toNat_natCast, Int.toNat_zero, Int.toNat_one] at hc) <;> conv => whnf)
      have hall : (l.take p).all (fun y => okPair rise y.name (l.getD p .nil).name) = true := by
        rw [← hj2, drop_end (by simp; omega)]; rfl
      rw [hall, Bool.true_and] at hp4
      exact ⟨p + 1, ⟨by omega, hp4⟩, by omega, Ent.re [] rfl rfl rfl rfl rfl rfl (by repeat' first | exact trivial | apply And.intro | rfl | (refine int_eq ?_; rw [wrap64] <;> omega)) (by repeat' first | exact trivial | apply And.intro | rfl | (refine int_eq ?_; rw [wrap64] <;> omega))⟩
  · repeat' first
      | (refine then_go hm htt ?_; conv => whnf)
      | (refine Side.mk (by first | assumption | exact trivial | rfl | exact Nat.le_of_ble_eq_true rfl | omega) ?_; conv => whnf)
      | (refine Hyp.mk fun hlen => ?_; replace hlen : _ ≤ 17592186044416 := hlen; conv => whnf)
      | (refine Split.ct ?_; conv => whnf)
      | (refine Split.cf ?_; conv => whnf)
      | (refine Split.of_true (by first | rfl | assumption | ((try simp only [bytes_eq, bytes_ne, empty_bytes, bytes_bne, bytes_bne']); (try simp only [decide_eq_true_eq, decide_eq_false_iff_not, beq_iff_eq, beq_eq_false_iff_ne, bne_iff_ne, bne_eq_false_iff_eq, Bool.not_eq_true', Bool.not_eq_false', Tree.isNil_iff, Tree.isNil_not, Int.not_lt, Int.not_le, gt_iff_lt, ge_iff_le, ne_eq, Decidable.not_not, Int.toNat_natCast, Int.toNat_zero, Int.toNat_one]); first | assumption | omega)) ?_; conv => whnf)
      | (refine Split.of_false (by first | rfl | assumption | ((try simp only [bytes_eq, bytes_ne, empty_bytes, bytes_bne, bytes_bne']); (try simp only [decide_eq_true_eq, decide_eq_false_iff_not, beq_iff_eq, beq_eq_false_iff_ne, bne_iff_ne, bne_eq_false_iff_eq, Bool.not_eq_true', Bool.not_eq_false', Tree.isNil_iff, Tree.isNil_not, Int.not_lt, Int.not_le, gt_iff_lt, ge_iff_le, ne_eq, Decidable.not_not, Int.toNat_natCast, Int.toNat_zero, Int.toNat_one]); first | assumption | omega)) ?_; conv => whnf)
      | (refine Indep.mk (by kernel_rfl) ?_; conv => whnf)
      | (refine Split.mk (fun hc => ?_) (fun hc => ?_) <;> (try simp only [bytes_eq, bytes_ne, empty_bytes, bytes_bne, bytes_bne'] at hc) <;> (try simp only [decide_eq_true_eq, decide_eq_false_iff_not, beq_iff_eq, beq_eq_false_iff_ne, bne_iff_ne, bne_eq_false_iff_eq, Bool.not_eq_true', Bool.not_eq_false', Tree.isNil_iff, Tree.isNil_not, Int.not_lt, Int.not_le, gt_iff_lt, ge_iff_le, ne_eq, Decidable.not_not, Int.toNat_natCast, Int.toNat_zero, Int.toNat_one] at hc) <;> conv => whnf)
    refine ret_closed rfl (bool_eq ?_) rfl
    rw [← hp2, drop_end (by omega)]; rfl
end Go.Proofs.Ytfblaochmhhknaa

namespace Go.Proofs.Ytfblaochmhhknaa
open Go Go.Mq
set_option linter.all false

theorem labs_unlike (kind : Int) : ∀ (l pre : List Tree) (seen : List ByteArray), (∀ s, memB s seen = pre.any (fun y => decide (y.name = s))) → labsF kind false pre l = (fieldsF kind l && unlikeF seen l)
  | [], pre, seen, _ => rfl
  | x :: l, pre, seen, h => by
    rw [labsF, fieldsF, unlikeF, labs_unlike kind l (pre ++ [x]) (x.name :: seen) (fun s => ?_)]
    · have e : (pre.all fun y => okPair false y.name x.name) = !(memB x.name seen) := by
        rw [h, List.not_any_eq_all_not]
        congr 1
        funext y
        simp [okPair]
      rw [e]
      cases fieldF kind x <;> cases memB x.name seen <;> simp
    · rw [List.any_append, ← h]
      simp only [memB, List.any_cons, List.any_nil, Bool.or_false]
      rw [Bool.or_comm]

theorem bl_irr : ∀ a : List UInt8, Op.bytesLess a a = false
  | [] => rfl
  | x :: a => by
    have : ¬ x < x := by simp
    simp [Op.bytesLess, bl_irr a]
theorem bl_trans : ∀ a b c : List UInt8, Op.bytesLess a b = true → Op.bytesLess b c = true → Op.bytesLess a c = true
  | _, _, [], _, h2 => by simp [Op.bytesLess] at h2
  | [], _, _ :: _, _, _ => by simp [Op.bytesLess]
  | x :: a, [], _ :: _, h1, _ => by simp [Op.bytesLess] at h1
  | x :: a, y :: b, z :: c, h1, h2 => by
    simp only [Op.bytesLess, Bool.or_eq_true, Bool.and_eq_true, decide_eq_true_eq, beq_iff_eq] at h1 h2 ⊢
    rcases h1 with h1 | ⟨rfl, h1⟩
    · rcases h2 with h2 | ⟨rfl, h2⟩
      · exact .inl (UInt8.lt_trans h1 h2)
      · exact .inl h1
    · rcases h2 with h2 | ⟨rfl, h2⟩
      · exact .inl h2
      · exact .inr ⟨rfl, bl_trans a b c h1 h2⟩
theorem okPair_rise (a b : ByteArray) : okPair true a b = ltB a b := by
  unfold okPair
  by_cases h : a = b
  · subst h; simp [ltB, bl_irr]
  · simp [h]
theorem ltB_trans {a b c : ByteArray} (h1 : ltB a b = true) (h2 : ltB b c = true) : ltB a c = true := bl_trans _ _ _ h1 h2

theorem labs_rise1 (kind : Int) : ∀ (l pre : List Tree) (last : Tree), last ∈ pre → (∀ y ∈ pre, y = last ∨ ltB y.name last.name = true) → labsF kind true pre l = (fieldsF kind l && risingF (last :: l))
  | [], pre, last, _, _ => rfl
  | x :: l, pre, last, hm, hs => by
    rw [labsF, fieldsF, risingF]
    have e : (pre.all fun y => okPair true y.name x.name) = ltB last.name x.name := by
      cases hq : ltB last.name x.name with
      | false =>
        rw [Bool.eq_false_iff]
        intro h
        have := List.all_eq_true.1 h last hm
        rw [okPair_rise, hq] at this
        cases this
      | true =>
        rw [List.all_eq_true]
        intro y hy
        rw [okPair_rise]
        rcases hs y hy with rfl | h
        · exact hq
        · exact ltB_trans h hq
    rw [e]
    cases hq : ltB last.name x.name with
    | false => simp
    | true =>
      rw [labs_rise1 kind l (pre ++ [x]) x (by simp) (fun y hy => ?_)]
      · cases fieldF kind x <;> simp
      · rcases List.mem_append.1 hy with hy | hy
        · rcases hs y hy with rfl | h
          · exact .inr hq
          · exact .inr (ltB_trans h hq)
        · exact .inl (by simpa using hy)
theorem labs_rise (kind : Int) : ∀ l : List Tree, labsF kind true [] l = (fieldsF kind l && risingF l)
  | [] => rfl
  | x :: l => by
    rw [labsF, fieldsF, List.nil_append, labs_rise1 kind l [x] x (by simp) (fun y hy => .inl (by simpa using hy))]
    cases fieldF kind x <;> simp

set_option maxHeartbeats 8000000 in
set_option maxRecDepth 10000 in
theorem risCon_ok (T : Tree) (hF : Full T) : Pure P 68 [.d (.tree T)] (.d (.bool (isConF T))) := by
  suffices h : Pure P 68 [.d (.tree T)] (.d (.bool (isConF T))) ∧ ∀ x ∈ T.kids, Pure P 68 [.d (.tree x)] (.d (.bool (isConF x))) from h.1
  induction T using Tree.ind' with
  | h0 => exact absurd rfl hF.ne
  | h1 T hT ih => ?_
  refine ⟨?_, fun x hx => (ih x hx (hF.kids x hx)).1⟩
  have hn : ∀ kind rise, Pure P 122 [.d (.trees T.kids), .d (.int .i64 kind), .d (.bool rise)] (.d (.bool (labsF kind rise [] T.kids))) := fun kind rise => rlabels_ok T.kids hF.kids kind rise fun x hx y hy => (ih x hx (hF.kids x hx)).2 y hy
  have hk : ∀ i, i < T.kids.length → Pure P 68 [.d (.tree (T.kids.getD i .nil))] (.d (.bool (isConF (T.kids.getD i .nil)))) := fun i hi => (ih _ (getD_mem hi) (hF.kid hi)).1
  have e1 := labs_rise 116 T.kids
  have e2 := labs_unlike 122 T.kids [] [] (fun s => rfl)
  refine Pure.of_body tt [] [2] Try.func68 rfl rfl rfl (Nat.le_of_ble_eq_true rfl) fun g => ?_
  repeat' first
    | (refine then_go hm htt ?_; conv => whnf)
    | (refine Side.mk (by first | assumption | exact trivial | rfl | exact Nat.le_of_ble_eq_true rfl | omega) ?_; conv => whnf)
    | (refine Hyp.mk fun hlen => ?_; replace hlen : _ ≤ 17592186044416 := hlen; conv => whnf)
    | (refine Split.ct ?_; conv => whnf)
    | (refine Split.cf ?_; conv => whnf)
    | (refine Split.of_true (by first | rfl | assumption | ((try simp only [bytes_eq, bytes_ne, empty_bytes, bytes_bne, bytes_bne']); (try simp only [decide_eq_true_eq, decide_eq_false_iff_not, beq_iff_eq, beq_eq_false_iff_ne, bne_iff_ne, bne_eq_false_iff_eq, Bool.not_eq_true', Bool.not_eq_false', Tree.isNil_iff, Tree.isNil_not, Int.not_lt, Int.not_le, gt_iff_lt, ge_iff_le, ne_eq, Decidable.not_not, Int.toNat_natCast, Int.toNat_zero, Int.toNat_one]); first | assumption | omega)) ?_; conv => whnf)
    | (refine Split.of_false (by first | rfl | assumption | ((try simp only [bytes_eq, bytes_ne, empty_bytes, bytes_bne, bytes_bne']); (try simp only [decide_eq_true_eq, decide_eq_false_iff_not, beq_iff_eq, beq_eq_false_iff_ne, bne_iff_ne, bne_eq_false_iff_eq, Bool.not_eq_true', Bool.not_eq_false', Tree.isNil_iff, Tree.isNil_not, Int.not_lt, Int.not_le, gt_iff_lt, ge_iff_le, ne_eq, Decidable.not_not, Int.toNat_natCast, Int.toNat_zero, Int.toNat_one]); first | assumption | omega)) ?_; conv => whnf)
    | (refine Indep.mk (by kernel_rfl) ?_; conv => whnf)
    | (refine CallG.pure (rplain_ok T hT _) rfl ?_; conv => whnf)
    | (refine CallG.pure (hn _ _) rfl ?_; conv => whnf)
    | (refine CallG.pure (hk 0 (by omega)) rfl ?_; conv => whnf)
    | (refine CallG.pure (hk 1 (by omega)) rfl ?_; conv => whnf)
    | (refine CallG.pure (risKind_ok (T.kids.getD 0 .nil) (hF.kid (by omega))) rfl ?_; conv => whnf)
    | (refine Split.mk (fun hc => ?_) (fun hc => ?_) <;> (try simp only [bytes_eq, bytes_ne, empty_bytes, bytes_bne, bytes_bne'] at hc) <;> (try simp only [decide_eq_true_eq, decide_eq_false_iff_not, beq_iff_eq, beq_eq_false_iff_ne, bne_iff_ne, bne_eq_false_iff_eq, Bool.not_eq_true', Bool.not_eq_false', Tree.isNil_iff, Tree.isNil_not, Int.not_lt, Int.not_le, gt_iff_lt, ge_iff_le, ne_eq, Decidable.not_not, Int.toNat_natCast, Int.toNat_zero, Int.toNat_one] at hc) <;> conv => whnf)
  all_goals refine ret_closed rfl (bool_eq ?_) rfl
  all_goals (try simp only [bytes_dec, empty_bytes])
  all_goals clear hn hk ih hF
  all_goals (rw [isConF_eq hT]; first | (simp_all [-List.getD_eq_getElem?_getD, int_dec, bareF]; done) | (simp_all [-List.getD_eq_getElem?_getD, int_dec, bareF] <;> omega) | skip)
end Go.Proofs.Ytfblaochmhhknaa

namespace Go.Proofs.Ytfblaochmhhknaa
open Go Go.Mq
set_option linter.all false

set_option maxRecDepth 10000 in
theorem rcheck_ok (T : Tree) : Pure P 24 [.d (.tree T)] (.d (.int .i64 (conE T))) := by
  refine Pure.of_body tt [] [2] Try.func24 rfl rfl rfl (Nat.le_of_ble_eq_true rfl) fun g => ?_
  repeat' first
    | (refine then_go hm htt ?_; conv => whnf)
    | (refine Side.mk (by first | assumption | exact trivial | rfl | exact Nat.le_of_ble_eq_true rfl | omega) ?_; conv => whnf)
    | (refine Hyp.mk fun hlen => ?_; replace hlen : _ ≤ 17592186044416 := hlen; conv => whnf)
    | (refine Split.ct ?_; conv => whnf)
    | (refine Split.cf ?_; conv => whnf)
    | (refine Split.of_true (by first | rfl | assumption | ((try simp only [bytes_eq, bytes_ne, empty_bytes, bytes_bne, bytes_bne']); (try simp only [decide_eq_true_eq, decide_eq_false_iff_not, beq_iff_eq, beq_eq_false_iff_ne, bne_iff_ne, bne_eq_false_iff_eq, Bool.not_eq_true', Bool.not_eq_false', Tree.isNil_iff, Tree.isNil_not, Int.not_lt, Int.not_le, gt_iff_lt, ge_iff_le, ne_eq, Decidable.not_not, Int.toNat_natCast, Int.toNat_zero, Int.toNat_one]); first | assumption | omega)) ?_; conv => whnf)
    | (refine Split.of_false (by first | rfl | assumption | ((try simp only [bytes_eq, bytes_ne, empty_bytes, bytes_bne, bytes_bne']); (try simp only [decide_eq_true_eq, decide_eq_false_iff_not, beq_iff_eq, beq_eq_false_iff_ne, bne_iff_ne, bne_eq_false_iff_eq, Bool.not_eq_true', Bool.not_eq_false', Tree.isNil_iff, Tree.isNil_not, Int.not_lt, Int.not_le, gt_iff_lt, ge_iff_le, ne_eq, Decidable.not_not, Int.toNat_natCast, Int.toNat_zero, Int.toNat_one]); first | assumption | omega)) ?_; conv => whnf)
    | (refine Indep.mk (by kernel_rfl) ?_; conv => whnf)
    | (refine CallG.pure (rwithin_ok T 65536 (by omega) (by omega)) rfl ?_; conv => whnf)
    | (refine CallG.pure (risCon_ok T (wholeF_full T 65536 (by assumption))) rfl ?_; conv => whnf)
    | (refine Split.mk (fun hc => ?_) (fun hc => ?_) <;> (try simp only [bytes_eq, bytes_ne, empty_bytes, bytes_bne, bytes_bne'] at hc) <;> (try simp only [decide_eq_true_eq, decide_eq_false_iff_not, beq_iff_eq, beq_eq_false_iff_ne, bne_iff_ne, bne_eq_false_iff_eq, Bool.not_eq_true', Bool.not_eq_false', Tree.isNil_iff, Tree.isNil_not, Int.not_lt, Int.not_le, gt_iff_lt, ge_iff_le, ne_eq, Decidable.not_not, Int.toNat_natCast, Int.toNat_zero, Int.toNat_one] at hc) <;> conv => whnf)
  all_goals refine ret_closed rfl (int_eq ?_) rfl
  all_goals (simp_all [-List.getD_eq_getElem?_getD, int_dec, conE, checkF] <;> omega)

theorem rsize_ok (T : Tree) : Pure P 80 [.d (.tree T)] (.d (.int .i64 (sizeF T))) := by
  induction T using Tree.ind' with
  | h0 => ?_
  | h1 T hT ih => ?_
  · refine Pure.of_body tt [] [2] Try.func80 rfl rfl rfl (Nat.le_of_ble_eq_true rfl) fun g => ?_
    repeat' first
      | (refine then_go hm htt ?_; conv => whnf)
      | (refine Side.mk (by first | assumption | exact trivial | rfl | exact Nat.le_of_ble_eq_true rfl | omega) ?_; conv => whnf)
      | (refine Hyp.mk fun hlen => ?_; replace hlen : _ ≤ 17592186044416 := hlen; conv => whnf)
      | (refine Split.ct ?_; conv => whnf)
      | (refine Split.cf ?_; conv => whnf)
      | (refine Split.of_true (by first | rfl | assumption | ((try simp only [bytes_eq, bytes_ne, empty_bytes, bytes_bne, bytes_bne']); (try simp only [decide_eq_true_eq, decide_eq_false_iff_not, beq_iff_eq, beq_eq_false_iff_ne, bne_iff_ne, bne_eq_false_iff_eq, Bool.not_eq_true', Bool.not_eq_false', Tree.isNil_iff, Tree.isNil_not, Int.not_lt, Int.not_le, gt_iff_lt, ge_iff_le, ne_eq, Decidable.not_not, Int.toNat_natCast, Int.toNat_zero, Int.toNat_one]); first | assumption | omega)) ?_; conv => whnf)
      | (refine Split.of_false (by first | rfl | assumption | ((try simp only [bytes_eq, bytes_ne, empty_bytes, bytes_bne, bytes_bne']); (try simp only [decide_eq_true_eq, decide_eq_false_iff_not, beq_iff_eq, beq_eq_false_iff_ne, bne_iff_ne, bne_eq_false_iff_eq, Bool.not_eq_true', Bool.not_eq_false', Tree.isNil_iff, Tree.isNil_not, Int.not_lt, Int.not_le, gt_iff_lt, ge_iff_le, ne_eq, Decidable.not_not, Int.toNat_natCast, Int.toNat_zero, Int.toNat_one]); first | assumption | omega)) ?_; conv => whnf)
      | (refine Indep.mk (by kernel_rfl) ?_; conv => whnf)
      | (refine Split.mk (fun hc => ?_) (fun hc => ?_) <;> (try simp only [bytes_eq, bytes_ne, empty_bytes, bytes_bne, bytes_bne'] at hc) <;> (try simp only [decide_eq_true_eq, decide_eq_false_iff_not, beq_iff_eq, beq_eq_false_iff_ne, bne_iff_ne, bne_eq_false_iff_eq, Bool.not_eq_true', Bool.not_eq_false', Tree.isNil_iff, Tree.isNil_not, Int.not_lt, Int.not_le, gt_iff_lt, ge_iff_le, ne_eq, Decidable.not_not, Int.toNat_natCast, Int.toNat_zero, Int.toNat_one] at hc) <;> conv => whnf)
    all_goals refine ret_closed rfl (int_eq ?_) rfl
    all_goals rfl
  · refine Pure.of_body tt [] [2] Try.func80 rfl rfl rfl (Nat.le_of_ble_eq_true rfl) fun g => ?_
    repeat' first
      | (refine then_go hm htt ?_; conv => whnf)
      | (refine Side.mk (by first | assumption | exact trivial | rfl | exact Nat.le_of_ble_eq_true rfl | omega) ?_; conv => whnf)
      | (refine Hyp.mk fun hlen => ?_; replace hlen : _ ≤ 17592186044416 := hlen; conv => whnf)
      | (refine Split.ct ?_; conv => whnf)
      | (refine Split.cf ?_; conv => whnf)
      | (refine Split.of_true (by first | rfl | assumption | ((try simp only [bytes_eq, bytes_ne, empty_bytes, bytes_bne, bytes_bne']); (try simp only [decide_eq_true_eq, decide_eq_false_iff_not, beq_iff_eq, beq_eq_false_iff_ne, bne_iff_ne, bne_eq_false_iff_eq, Bool.not_eq_true', Bool.not_eq_false', Tree.isNil_iff, Tree.isNil_not, Int.not_lt, Int.not_le, gt_iff_lt, ge_iff_le, ne_eq, Decidable.not_not, Int.toNat_natCast, Int.toNat_zero, Int.toNat_one]); first | assumption | omega)) ?_; conv => whnf)
      | (refine Split.of_false (by first | rfl | assumption | ((try simp only [bytes_eq, bytes_ne, empty_bytes, bytes_bne, bytes_bne']); (try simp only [decide_eq_true_eq, decide_eq_false_iff_not, beq_iff_eq, beq_eq_false_iff_ne, bne_iff_ne, bne_eq_false_iff_eq, Bool.not_eq_true', Bool.not_eq_false', Tree.isNil_iff, Tree.isNil_not, Int.not_lt, Int.not_le, gt_iff_lt, ge_iff_le, ne_eq, Decidable.not_not, Int.toNat_natCast, Int.toNat_zero, Int.toNat_one]); first | assumption | omega)) ?_; conv => whnf)
      | (refine Indep.mk (by kernel_rfl) ?_; conv => whnf)
      | (refine Split.mk (fun hc => ?_) (fun hc => ?_) <;> (try simp only [bytes_eq, bytes_ne, empty_bytes, bytes_bne, bytes_bne'] at hc) <;> (try simp only [decide_eq_true_eq, decide_eq_false_iff_not, beq_iff_eq, beq_eq_false_iff_ne, bne_iff_ne, bne_eq_false_iff_eq, Bool.not_eq_true', Bool.not_eq_false', Tree.isNil_iff, Tree.isNil_not, Int.not_lt, Int.not_le, gt_iff_lt, ge_iff_le, ne_eq, Decidable.not_not, Int.toNat_natCast, Int.toNat_zero, Int.toNat_one] at hc) <;> conv => whnf)
    refine loop_go (α := Nat × Int) (fun p => ⟨[(0, .d (.tree T)), (3, .d (.int .i64 p.2)), (4, .d (.int .i64 p.1))], 27, [], 0, g⟩) (fun p => p.1 ≤ T.kids.length ∧ sizesF p.2 (T.kids.drop p.1) = sizesF 1 T.kids) (fun p => T.kids.length - p.1) (0, 1) ⟨by omega, rfl⟩
        (Ent.re [] rfl rfl rfl rfl rfl rfl (by repeat' first | exact trivial | apply And.intro | rfl | (refine int_eq ?_; rw [wrap64] <;> omega)) (by repeat' first | exact trivial | apply And.intro | rfl | (refine int_eq ?_; rw [wrap64] <;> omega))) (fun _ => rfl) fun p hpre => ?_
    obtain ⟨hp1, hp2⟩ := hpre
    repeat' first
      | (refine then_go hm htt ?_; conv => whnf)
      | (refine Side.mk (by first | assumption | exact trivial | rfl | exact Nat.le_of_ble_eq_true rfl | omega) ?_; conv => whnf)
      | (refine Hyp.mk fun hlen => ?_; replace hlen : _ ≤ 17592186044416 := hlen; conv => whnf)
      | (refine Split.ct ?_; conv => whnf)
      | (refine Split.cf ?_; conv => whnf)
      | (refine Split.of_true (by first | rfl | assumption | ((try simp only [bytes_eq, bytes_ne, empty_bytes, bytes_bne, bytes_bne']); (try simp only [decide_eq_true_eq, decide_eq_false_iff_not, beq_iff_eq, beq_eq_false_iff_ne, bne_iff_ne, bne_eq_false_iff_eq, Bool.not_eq_true', Bool.not_eq_false', Tree.isNil_iff, Tree.isNil_not, Int.not_lt, Int.not_le, gt_iff_lt, ge_iff_le, ne_eq, Decidable.not_not, Int.toNat_natCast, Int.toNat_zero, Int.toNat_one]); first | assumption | omega)) ?_; conv => whnf)
      | (refine Split.of_false (by first | rfl | assumption | ((try simp only [bytes_eq, bytes_ne, empty_bytes, bytes_bne, bytes_bne']); (try simp only [decide_eq_true_eq, decide_eq_false_iff_not, beq_iff_eq, beq_eq_false_iff_ne, bne_iff_ne, bne_eq_false_iff_eq, Bool.not_eq_true', Bool.not_eq_false', Tree.isNil_iff, Tree.isNil_not, Int.not_lt, Int.not_le, gt_iff_lt, ge_iff_le, ne_eq, Decidable.not_not, Int.toNat_natCast, Int.toNat_zero, Int.toNat_one]); first | assumption | omega)) ?_; conv => whnf)
      | (refine Indep.mk (by kernel_rfl) ?_; conv => whnf)
      | (refine CallG.pure (ih (T.kids.getD p.1 .nil) (getD_mem (by omega))) rfl ?_; conv => whnf)
      | (refine Split.mk (fun hc => ?_) (fun hc => ?_) <;> (try simp only [bytes_eq, bytes_ne, empty_bytes, bytes_bne, bytes_bne'] at hc) <;> (try simp only [decide_eq_true_eq, decide_eq_false_iff_not, beq_iff_eq, beq_eq_false_iff_ne, bne_iff_ne, bne_eq_false_iff_eq, Bool.not_eq_true', Bool.not_eq_false', Tree.isNil_iff, Tree.isNil_not, Int.not_lt, Int.not_le, gt_iff_lt, ge_iff_le, ne_eq, Decidable.not_not, Int.toNat_natCast, Int.toNat_zero, Int.toNat_one] at hc) <;> conv => whnf)
    · rw [drop_step (by omega), sizesF] at hp2
      exact ⟨(p.1 + 1, _), ⟨by simp only []; omega, hp2⟩, by simp only []; omega, Ent.re [] rfl rfl rfl rfl rfl rfl (by repeat' first | exact trivial | apply And.intro | rfl | (refine int_eq ?_; rw [wrap64] <;> omega)) (by repeat' first | exact trivial | apply And.intro | rfl | (refine int_eq ?_; rw [wrap64] <;> omega))⟩
    · refine ret_closed rfl (int_eq ?_) rfl
      rw [drop_end (by omega), sizesF] at hp2
      rw [sizeF_kids hT, ← hp2]

mutual
def countF (i : Int) : Tree → Int → Int
  | .nil, _ => 0
  | .node k n nm mk l, deep => countsF i (if k = 110 ∧ deep ≤ n ∧ IntKind.i64.wrap (n - deep) = i then 1 else 0) l (IntKind.i64.wrap (deep + bindsF (.node k n nm mk l)))
def countsF (i : Int) (c : Int) : List Tree → Int → Int
  | [], _ => c
  | x :: l, deep => countsF i (IntKind.i64.wrap (c + countF i x deep)) l deep
end
theorem countF_eq {T : Tree} (h : T ≠ .nil) (i deep : Int) : countF i T deep = countsF i (if T.kind = 110 ∧ deep ≤ T.n ∧ IntKind.i64.wrap (T.n - deep) = i then 1 else 0) T.kids (IntKind.i64.wrap (deep + bindsF T)) := by
  cases T with
  | nil => exact absurd rfl h
  | node => rw [countF]; rfl

set_option maxHeartbeats 2000000 in
set_option maxRecDepth 10000 in
theorem rcount_ok (T : Tree) : ∀ (i deep : Int), Full T → Pure P 79 [.d (.tree T), .d (.int .i64 i), .d (.int .i64 deep)] (.d (.int .i64 (countF i T deep))) := by
  induction T using Tree.ind' with
  | h0 => intro i deep hF; exact absurd rfl hF.ne
  | h1 T hT ih => ?_
  intro i deep hF
  refine Pure.of_body tt [] [6] Try.func79 rfl rfl rfl (Nat.le_of_ble_eq_true rfl) fun g => ?_
  repeat' first
    | (refine then_go hm htt ?_; conv => whnf)
    | (refine Side.mk (by first | assumption | exact trivial | rfl | exact Nat.le_of_ble_eq_true rfl | omega) ?_; conv => whnf)
    | (refine Hyp.mk fun hlen => ?_; replace hlen : _ ≤ 17592186044416 := hlen; conv => whnf)
    | (refine Split.ct ?_; conv => whnf)
    | (refine Split.cf ?_; conv => whnf)
    | (refine Split.of_true (by first | rfl | assumption | ((try simp only [bytes_eq, bytes_ne, empty_bytes, bytes_bne, bytes_bne']); (try simp only [decide_eq_true_eq, decide_eq_false_iff_not, beq_iff_eq, beq_eq_false_iff_ne, bne_iff_ne, bne_eq_false_iff_eq, Bool.not_eq_true', Bool.not_eq_false', Tree.isNil_iff, Tree.isNil_not, Int.not_lt, Int.not_le, gt_iff_lt, ge_iff_le, ne_eq, Decidable.not_not, Int.toNat_natCast, Int.toNat_zero, Int.toNat_one]); first | assumption | omega)) ?_; conv => whnf)
    | (refine Split.of_false (by first | rfl | assumption | ((try simp only [bytes_eq, bytes_ne, empty_bytes, bytes_bne, bytes_bne']); (try simp only [decide_eq_true_eq, decide_eq_false_iff_not, beq_iff_eq, beq_eq_false_iff_ne, bne_iff_ne, bne_eq_false_iff_eq, Bool.not_eq_true', Bool.not_eq_false', Tree.isNil_iff, Tree.isNil_not, Int.not_lt, Int.not_le, gt_iff_lt, ge_iff_le, ne_eq, Decidable.not_not, Int.toNat_natCast, Int.toNat_zero, Int.toNat_one]); first | assumption | omega)) ?_; conv => whnf)
    | (refine Indep.mk (by kernel_rfl) ?_; conv => whnf)
    | (refine Split.mk (fun hc => ?_) (fun hc => ?_) <;> (try simp only [bytes_eq, bytes_ne, empty_bytes, bytes_bne, bytes_bne'] at hc) <;> (try simp only [decide_eq_true_eq, decide_eq_false_iff_not, beq_iff_eq, beq_eq_false_iff_ne, bne_iff_ne, bne_eq_false_iff_eq, Bool.not_eq_true', Bool.not_eq_false', Tree.isNil_iff, Tree.isNil_not, Int.not_lt, Int.not_le, gt_iff_lt, ge_iff_le, ne_eq, Decidable.not_not, Int.toNat_natCast, Int.toNat_zero, Int.toNat_one] at hc) <;> conv => whnf)
  all_goals
    refine loop_go (α := Nat × Int) (fun p => ⟨[(0, .d (.tree T)), (1, .d (.int .i64 i)), (2, .d (.int .i64 deep)), (7, .d (.int .i64 p.2)), (8, .d (.int .i64 p.1))], 57, [], 0, g⟩) (fun p => p.1 ≤ T.kids.length ∧ countsF i p.2 (T.kids.drop p.1) (IntKind.i64.wrap (deep + bindsF T)) = countF i T deep) (fun p => T.kids.length - p.1) (0, if T.kind = 110 ∧ deep ≤ T.n ∧ IntKind.i64.wrap (T.n - deep) = i then 1 else 0) ⟨by simp, by rw [countF_eq hT]; rfl⟩
        (Ent.re [] rfl rfl rfl rfl rfl rfl (by repeat' first | exact trivial | apply And.intro | rfl | (refine int_eq ?_; simp_all; done) | (refine int_eq ?_; rw [if_neg]; omega)) trivial) (fun _ => rfl) fun p hpre => ?_
    obtain ⟨c, s⟩ := p
    obtain ⟨hp1, hp2⟩ := hpre
    simp only [] at hp1 hp2
    repeat' first
      | (refine then_go hm htt ?_; conv => whnf)
      | (refine Side.mk (by first | assumption | exact trivial | rfl | exact Nat.le_of_ble_eq_true rfl | omega) ?_; conv => whnf)
      | (refine Hyp.mk fun hlen => ?_; replace hlen : _ ≤ 17592186044416 := hlen; conv => whnf)
      | (refine Split.ct ?_; conv => whnf)
      | (refine Split.cf ?_; conv => whnf)
      | (refine Split.of_true (by first | rfl | assumption | ((try simp only [bytes_eq, bytes_ne, empty_bytes, bytes_bne, bytes_bne']); (try simp only [decide_eq_true_eq, decide_eq_false_iff_not, beq_iff_eq, beq_eq_false_iff_ne, bne_iff_ne, bne_eq_false_iff_eq, Bool.not_eq_true', Bool.not_eq_false', Tree.isNil_iff, Tree.isNil_not, Int.not_lt, Int.not_le, gt_iff_lt, ge_iff_le, ne_eq, Decidable.not_not, Int.toNat_natCast, Int.toNat_zero, Int.toNat_one]); first | assumption | omega)) ?_; conv => whnf)
      | (refine Split.of_false (by first | rfl | assumption | ((try simp only [bytes_eq, bytes_ne, empty_bytes, bytes_bne, bytes_bne']); (try simp only [decide_eq_true_eq, decide_eq_false_iff_not, beq_iff_eq, beq_eq_false_iff_ne, bne_iff_ne, bne_eq_false_iff_eq, Bool.not_eq_true', Bool.not_eq_false', Tree.isNil_iff, Tree.isNil_not, Int.not_lt, Int.not_le, gt_iff_lt, ge_iff_le, ne_eq, Decidable.not_not, Int.toNat_natCast, Int.toNat_zero, Int.toNat_one]); first | assumption | omega)) ?_; conv => whnf)
      | (refine Indep.mk (by kernel_rfl) ?_; conv => whnf)
      | (refine CallG.pure (rinner_ok T hT) rfl ?_; conv => whnf)
      | (refine CallG.pure (ih (T.kids.getD c .nil) (getD_mem (by omega)) i (IntKind.i64.wrap (deep + bindsF T)) (hF.kid (by omega))) rfl ?_; conv => whnf)
      | (refine Split.mk (fun hc => ?_) (fun hc => ?_) <;> (try simp only [bytes_eq, bytes_ne, empty_bytes, bytes_bne, bytes_bne'] at hc) <;> (try simp only [decide_eq_true_eq, decide_eq_false_iff_not, beq_iff_eq, beq_eq_false_iff_ne, bne_iff_ne, bne_eq_false_iff_eq, Bool.not_eq_true', Bool.not_eq_false', Tree.isNil_iff, Tree.isNil_not, Int.not_lt, Int.not_le, gt_iff_lt, ge_iff_le, ne_eq, Decidable.not_not, Int.toNat_natCast, Int.toNat_zero, Int.toNat_one] at hc) <;> conv => whnf)
  all_goals first
    | (rw [drop_end (by omega), countsF] at hp2; exact ret_closed rfl (int_eq (by rw [← hp2])) rfl)
    | (rw [drop_step (by omega), countsF] at hp2; exact ⟨(c + 1, _), ⟨by simp only []; omega, hp2⟩, by simp only []; omega, Ent.re [] rfl rfl rfl rfl rfl rfl (by repeat' first | exact trivial | apply And.intro | rfl | (refine int_eq ?_; rw [wrap64] <;> omega)) (by repeat' first | exact trivial | apply And.intro | rfl | (refine int_eq ?_; rw [wrap64] <;> omega))⟩)
    | skip
end Go.Proofs.Ytfblaochmhhknaa

namespace Go.Proofs.Ytfblaochmhhknaa
open Go Go.Mq
set_option linter.all false

mutual
def rfreeF : Tree → Int → Int
  | .nil, _ => 0
  | .node k n nm mk l, deep => rfreesF (if k = 110 ∧ deep ≤ n then IntKind.i64.wrap (IntKind.i64.wrap (n - deep) + 1) else 0) l (IntKind.i64.wrap (deep + bindsF (.node k n nm mk l)))
def rfreesF (m : Int) : List Tree → Int → Int
  | [], _ => m
  | x :: l, deep => rfreesF (if m < rfreeF x deep then rfreeF x deep else m) l deep
end
theorem rfreeF_eq {T : Tree} (h : T ≠ .nil) (deep : Int) : rfreeF T deep = rfreesF (if T.kind = 110 ∧ deep ≤ T.n then IntKind.i64.wrap (IntKind.i64.wrap (T.n - deep) + 1) else 0) T.kids (IntKind.i64.wrap (deep + bindsF T)) := by
  cases T with
  | nil => exact absurd rfl h
  | node => rw [rfreeF]; rfl

set_option maxHeartbeats 2000000 in
set_option maxRecDepth 10000 in
theorem rfree_ok (T : Tree) : ∀ (deep : Int), Full T → Pure P 85 [.d (.tree T), .d (.int .i64 deep)] (.d (.int .i64 (rfreeF T deep))) := by
  induction T using Tree.ind' with
  | h0 => intro deep hF; exact absurd rfl hF.ne
  | h1 T hT ih => ?_
  intro deep hF
  refine Pure.of_body tt [] [4] Try.func85 rfl rfl rfl (Nat.le_of_ble_eq_true rfl) fun g => ?_
  repeat' first
    | (refine then_go hm htt ?_; conv => whnf)
    | (refine Side.mk (by first | assumption | exact trivial | rfl | exact Nat.le_of_ble_eq_true rfl | omega) ?_; conv => whnf)
    | (refine Hyp.mk fun hlen => ?_; replace hlen : _ ≤ 17592186044416 := hlen; conv => whnf)
    | (refine Split.ct ?_; conv => whnf)
    | (refine Split.cf ?_; conv => whnf)
    | (refine Split.of_true (by first | rfl | assumption | ((try simp only [bytes_eq, bytes_ne, empty_bytes, bytes_bne, bytes_bne']); (try simp only [decide_eq_true_eq, decide_eq_false_iff_not, beq_iff_eq, beq_eq_false_iff_ne, bne_iff_ne, bne_eq_false_iff_eq, Bool.not_eq_true', Bool.not_eq_false', Tree.isNil_iff, Tree.isNil_not, Int.not_lt, Int.not_le, gt_iff_lt, ge_iff_le, ne_eq, Decidable.not_not, Int.toNat_natCast, Int.toNat_zero, Int.toNat_one]); first | assumption | omega)) ?_; conv => whnf)
    | (refine Split.of_false (by first | rfl | assumption | ((try simp only [bytes_eq, bytes_ne, empty_bytes, bytes_bne, bytes_bne']); (try simp only [decide_eq_true_eq, decide_eq_false_iff_not, beq_iff_eq, beq_eq_false_iff_ne, bne_iff_ne, bne_eq_false_iff_eq, Bool.not_eq_true', Bool.not_eq_false', Tree.isNil_iff, Tree.isNil_not, Int.not_lt, Int.not_le, gt_iff_lt, ge_iff_le, ne_eq, Decidable.not_not, Int.toNat_natCast, Int.toNat_zero, Int.toNat_one]); first | assumption | omega)) ?_; conv => whnf)
    | (refine Indep.mk (by kernel_rfl) ?_; conv => whnf)
    | (refine Split.mk (fun hc => ?_) (fun hc => ?_) <;> (try simp only [bytes_eq, bytes_ne, empty_bytes, bytes_bne, bytes_bne'] at hc) <;> (try simp only [decide_eq_true_eq, decide_eq_false_iff_not, beq_iff_eq, beq_eq_false_iff_ne, bne_iff_ne, bne_eq_false_iff_eq, Bool.not_eq_true', Bool.not_eq_false', Tree.isNil_iff, Tree.isNil_not, Int.not_lt, Int.not_le, gt_iff_lt, ge_iff_le, ne_eq, Decidable.not_not, Int.toNat_natCast, Int.toNat_zero, Int.toNat_one] at hc) <;> conv => whnf)
  all_goals
    refine loop_go (α := Nat × Int) (fun p => ⟨[(0, .d (.tree T)), (1, .d (.int .i64 deep)), (5, .d (.int .i64 p.2)), (6, .d (.int .i64 p.1))], 54, [], 0, g⟩) (fun p => p.1 ≤ T.kids.length ∧ rfreesF p.2 (T.kids.drop p.1) (IntKind.i64.wrap (deep + bindsF T)) = rfreeF T deep) (fun p => T.kids.length - p.1) (0, if T.kind = 110 ∧ deep ≤ T.n then IntKind.i64.wrap (IntKind.i64.wrap (T.n - deep) + 1) else 0) ⟨by simp, by rw [rfreeF_eq hT]; rfl⟩
        (Ent.re [] rfl rfl rfl rfl rfl rfl (by repeat' first | exact trivial | apply And.intro | rfl | (refine int_eq ?_; simp_all; done) | (refine int_eq ?_; rw [if_neg]; omega)) trivial) (fun _ => rfl) fun p hpre => ?_
    obtain ⟨c, s⟩ := p
    obtain ⟨hp1, hp2⟩ := hpre
    simp only [] at hp1 hp2
    repeat' first
      | (refine then_go hm htt ?_; conv => whnf)
      | (refine Side.mk (by first | assumption | exact trivial | rfl | exact Nat.le_of_ble_eq_true rfl | omega) ?_; conv => whnf)
      | (refine Hyp.mk fun hlen => ?_; replace hlen : _ ≤ 17592186044416 := hlen; conv => whnf)
      | (refine Split.ct ?_; conv => whnf)
      | (refine Split.cf ?_; conv => whnf)
      | (refine Split.of_true (by first | rfl | assumption | ((try simp only [bytes_eq, bytes_ne, empty_bytes, bytes_bne, bytes_bne']); (try simp only [decide_eq_true_eq, decide_eq_false_iff_not, beq_iff_eq, beq_eq_false_iff_ne, bne_iff_ne, bne_eq_false_iff_eq, Bool.not_eq_true', Bool.not_eq_false', Tree.isNil_iff, Tree.isNil_not, Int.not_lt, Int.not_le, gt_iff_lt, ge_iff_le, ne_eq, Decidable.not_not, Int.toNat_natCast, Int.toNat_zero, Int.toNat_one]); first | assumption | omega)) ?_; conv => whnf)
      | (refine Split.of_false (by first | rfl | assumption | ((try simp only [bytes_eq, bytes_ne, empty_bytes, bytes_bne, bytes_bne']); (try simp only [decide_eq_true_eq, decide_eq_false_iff_not, beq_iff_eq, beq_eq_false_iff_ne, bne_iff_ne, bne_eq_false_iff_eq, Bool.not_eq_true', Bool.not_eq_false', Tree.isNil_iff, Tree.isNil_not, Int.not_lt, Int.not_le, gt_iff_lt, ge_iff_le, ne_eq, Decidable.not_not, Int.toNat_natCast, Int.toNat_zero, Int.toNat_one]); first | assumption | omega)) ?_; conv => whnf)
      | (refine Indep.mk (by kernel_rfl) ?_; conv => whnf)
      | (refine CallG.pure (rinner_ok T hT) rfl ?_; conv => whnf)
      | (refine CallG.pure (ih (T.kids.getD c .nil) (getD_mem (by omega)) (IntKind.i64.wrap (deep + bindsF T)) (hF.kid (by omega))) rfl ?_; conv => whnf)
      | (refine Split.mk (fun hc => ?_) (fun hc => ?_) <;> (try simp only [bytes_eq, bytes_ne, empty_bytes, bytes_bne, bytes_bne'] at hc) <;> (try simp only [decide_eq_true_eq, decide_eq_false_iff_not, beq_iff_eq, beq_eq_false_iff_ne, bne_iff_ne, bne_eq_false_iff_eq, Bool.not_eq_true', Bool.not_eq_false', Tree.isNil_iff, Tree.isNil_not, Int.not_lt, Int.not_le, gt_iff_lt, ge_iff_le, ne_eq, Decidable.not_not, Int.toNat_natCast, Int.toNat_zero, Int.toNat_one] at hc) <;> conv => whnf)
  all_goals first
    | (rw [drop_end (by omega), rfreesF] at hp2; exact ret_closed rfl (int_eq (by rw [← hp2])) rfl)
    | (rw [drop_step (by omega), rfreesF, if_pos (by assumption)] at hp2; exact ⟨(c + 1, _), ⟨by simp only []; omega, hp2⟩, by simp only []; omega, Ent.re [] rfl rfl rfl rfl rfl rfl (by repeat' first | exact trivial | apply And.intro | rfl | (refine int_eq ?_; rw [wrap64] <;> omega)) (by repeat' first | exact trivial | apply And.intro | rfl | (refine int_eq ?_; rw [wrap64] <;> omega))⟩)
    | (rw [drop_step (by omega), rfreesF, if_neg (by omega)] at hp2; exact ⟨(c + 1, _), ⟨by simp only []; omega, hp2⟩, by simp only []; omega, Ent.re [] rfl rfl rfl rfl rfl rfl (by repeat' first | exact trivial | apply And.intro | rfl | (refine int_eq ?_; rw [wrap64] <;> omega)) (by repeat' first | exact trivial | apply And.intro | rfl | (refine int_eq ?_; rw [wrap64] <;> omega))⟩)

def rfreeR (T : Tree) : Int := if conE T = 0 then rfreeF T 0 else 0
set_option maxRecDepth 10000 in
theorem rFree_ok (T : Tree) : Pure P 36 [.d (.tree T)] (.d (.int .i64 (rfreeR T))) := by
  refine Pure.of_body tt [] [2] Try.func36 rfl rfl rfl (Nat.le_of_ble_eq_true rfl) fun g => ?_
  repeat' first
    | (refine then_go hm htt ?_; conv => whnf)
    | (refine Side.mk (by first | assumption | exact trivial | rfl | exact Nat.le_of_ble_eq_true rfl | omega) ?_; conv => whnf)
    | (refine Hyp.mk fun hlen => ?_; replace hlen : _ ≤ 17592186044416 := hlen; conv => whnf)
    | (refine Split.ct ?_; conv => whnf)
    | (refine Split.cf ?_; conv => whnf)
    | (refine Split.of_true (by first | rfl | assumption | ((try simp only [bytes_eq, bytes_ne, empty_bytes, bytes_bne, bytes_bne']); (try simp only [decide_eq_true_eq, decide_eq_false_iff_not, beq_iff_eq, beq_eq_false_iff_ne, bne_iff_ne, bne_eq_false_iff_eq, Bool.not_eq_true', Bool.not_eq_false', Tree.isNil_iff, Tree.isNil_not, Int.not_lt, Int.not_le, gt_iff_lt, ge_iff_le, ne_eq, Decidable.not_not, Int.toNat_natCast, Int.toNat_zero, Int.toNat_one]); first | assumption | omega)) ?_; conv => whnf)
    | (refine Split.of_false (by first | rfl | assumption | ((try simp only [bytes_eq, bytes_ne, empty_bytes, bytes_bne, bytes_bne']); (try simp only [decide_eq_true_eq, decide_eq_false_iff_not, beq_iff_eq, beq_eq_false_iff_ne, bne_iff_ne, bne_eq_false_iff_eq, Bool.not_eq_true', Bool.not_eq_false', Tree.isNil_iff, Tree.isNil_not, Int.not_lt, Int.not_le, gt_iff_lt, ge_iff_le, ne_eq, Decidable.not_not, Int.toNat_natCast, Int.toNat_zero, Int.toNat_one]); first | assumption | omega)) ?_; conv => whnf)
    | (refine Indep.mk (by kernel_rfl) ?_; conv => whnf)
    | (refine CallG.pure (rcheck_ok T) rfl ?_; conv => whnf)
    | (refine CallG.pure (rfree_ok T 0 (conE_full (by assumption)).1) rfl ?_; conv => whnf)
    | (refine Split.mk (fun hc => ?_) (fun hc => ?_) <;> (try simp only [bytes_eq, bytes_ne, empty_bytes, bytes_bne, bytes_bne'] at hc) <;> (try simp only [decide_eq_true_eq, decide_eq_false_iff_not, beq_iff_eq, beq_eq_false_iff_ne, bne_iff_ne, bne_eq_false_iff_eq, Bool.not_eq_true', Bool.not_eq_false', Tree.isNil_iff, Tree.isNil_not, Int.not_lt, Int.not_le, gt_iff_lt, ge_iff_le, ne_eq, Decidable.not_not, Int.toNat_natCast, Int.toNat_zero, Int.toNat_one] at hc) <;> conv => whnf)
  all_goals refine ret_closed rfl (int_eq ?_) rfl
  all_goals (simp_all [-List.getD_eq_getElem?_getD, int_dec, rfreeR] <;> omega)

def roccursR (T : Tree) (i : Int) : Bool := decide (conE T = 0) && decide (0 ≤ i) && decide (0 < countF i T 0)
set_option maxRecDepth 10000 in
theorem rOccurs_ok (T : Tree) (i : Int) : Pure P 38 [.d (.tree T), .d (.int .i64 i)] (.d (.bool (roccursR T i))) := by
  refine Pure.of_body tt [] [4] Try.func38 rfl rfl rfl (Nat.le_of_ble_eq_true rfl) fun g => ?_
  repeat' first
    | (refine then_go hm htt ?_; conv => whnf)
    | (refine Side.mk (by first | assumption | exact trivial | rfl | exact Nat.le_of_ble_eq_true rfl | omega) ?_; conv => whnf)
    | (refine Hyp.mk fun hlen => ?_; replace hlen : _ ≤ 17592186044416 := hlen; conv => whnf)
    | (refine Split.ct ?_; conv => whnf)
    | (refine Split.cf ?_; conv => whnf)
    | (refine Split.of_true (by first | rfl | assumption | ((try simp only [bytes_eq, bytes_ne, empty_bytes, bytes_bne, bytes_bne']); (try simp only [decide_eq_true_eq, decide_eq_false_iff_not, beq_iff_eq, beq_eq_false_iff_ne, bne_iff_ne, bne_eq_false_iff_eq, Bool.not_eq_true', Bool.not_eq_false', Tree.isNil_iff, Tree.isNil_not, Int.not_lt, Int.not_le, gt_iff_lt, ge_iff_le, ne_eq, Decidable.not_not, Int.toNat_natCast, Int.toNat_zero, Int.toNat_one]); first | assumption | omega)) ?_; conv => whnf)
    | (refine Split.of_false (by first | rfl | assumption | ((try simp only [bytes_eq, bytes_ne, empty_bytes, bytes_bne, bytes_bne']); (try simp only [decide_eq_true_eq, decide_eq_false_iff_not, beq_iff_eq, beq_eq_false_iff_ne, bne_iff_ne, bne_eq_false_iff_eq, Bool.not_eq_true', Bool.not_eq_false', Tree.isNil_iff, Tree.isNil_not, Int.not_lt, Int.not_le, gt_iff_lt, ge_iff_le, ne_eq, Decidable.not_not, Int.toNat_natCast, Int.toNat_zero, Int.toNat_one]); first | assumption | omega)) ?_; conv => whnf)
    | (refine Indep.mk (by kernel_rfl) ?_; conv => whnf)
    | (refine CallG.pure (rcheck_ok T) rfl ?_; conv => whnf)
    | (refine CallG.pure (rcount_ok T i 0 (conE_full (by assumption)).1) rfl ?_; conv => whnf)
    | (refine Split.mk (fun hc => ?_) (fun hc => ?_) <;> (try simp only [bytes_eq, bytes_ne, empty_bytes, bytes_bne, bytes_bne'] at hc) <;> (try simp only [decide_eq_true_eq, decide_eq_false_iff_not, beq_iff_eq, beq_eq_false_iff_ne, bne_iff_ne, bne_eq_false_iff_eq, Bool.not_eq_true', Bool.not_eq_false', Tree.isNil_iff, Tree.isNil_not, Int.not_lt, Int.not_le, gt_iff_lt, ge_iff_le, ne_eq, Decidable.not_not, Int.toNat_natCast, Int.toNat_zero, Int.toNat_one] at hc) <;> conv => whnf)
  all_goals refine ret_closed rfl (bool_eq ?_) rfl
  all_goals (unfold roccursR; simp_all [int_dec] <;> omega)
end Go.Proofs.Ytfblaochmhhknaa

namespace Go.Proofs.Ytfblaochmhhknaa
open Go Go.Mq
set_option linter.all false

def mHit (frm : Int) (T : Tree) (deep : Int) : Prop := T.kind = 110 ∧ deep ≤ T.n ∧ frm ≤ IntKind.i64.wrap (T.n - deep)
instance (frm : Int) (T : Tree) (deep : Int) : Decidable (mHit frm T deep) := by unfold mHit; infer_instance
def mBad (b : Int) (T : Tree) (deep : Int) : Prop := b < IntKind.i64.wrap (deep - T.n) ∨ IntKind.i64.wrap (65536 - T.n) < b
instance (b : Int) (T : Tree) (deep : Int) : Decidable (mBad b T deep) := by unfold mBad; infer_instance
mutual
def rmovedF (b frm : Int) : Tree → Int → Option Tree
  | .nil, _ => none
  | .node k n nm mk l, deep =>
    if mHit frm (.node k n nm mk l) deep then
      (if mBad b (.node k n nm mk l) deep then none else (rmovedsF b frm l (IntKind.i64.wrap (deep + bindsF (.node k n nm mk l)))).map fun l' => .node k (IntKind.i64.wrap (n + b)) nm ByteArray.empty l')
    else (rmovedsF b frm l (IntKind.i64.wrap (deep + bindsF (.node k n nm mk l)))).map fun l' => .node k n nm ByteArray.empty l'
def rmovedsF (b frm : Int) : List Tree → Int → Option (List Tree)
  | [], _ => some []
  | x :: l, deep => match rmovedF b frm x deep with
    | none => none
    | some x' => (rmovedsF b frm l deep).map (x' :: ·)
end
theorem rmovedF_eq {T : Tree} (h : T ≠ .nil) (b frm deep : Int) : rmovedF b frm T deep = if mHit frm T deep then
      (if mBad b T deep then none else (rmovedsF b frm T.kids (IntKind.i64.wrap (deep + bindsF T))).map fun l' => .node T.kind (IntKind.i64.wrap (T.n + b)) T.name ByteArray.empty l')
    else (rmovedsF b frm T.kids (IntKind.i64.wrap (deep + bindsF T))).map fun l' => .node T.kind T.n T.name ByteArray.empty l' := by
  cases T with
  | nil => exact absurd rfl h
  | node => rw [rmovedF]; rfl
def oT (o : Option Tree) : Tree := o.getD .nil

set_option maxHeartbeats 4000000 in
set_option maxRecDepth 10000 in
theorem rMoved_ok (T : Tree) : ∀ (b frm deep : Int), Full T → Pure P 83 [.d (.tree T), .d (.int .i64 b), .d (.int .i64 frm), .d (.int .i64 deep)] (.tuple [.d (.tree (oT (rmovedF b frm T deep))), .d (.bool (rmovedF b frm T deep).isSome)]) := by
  induction T using Tree.ind' with
  | h0 => intro b frm deep hF; exact absurd rfl hF.ne
  | h1 T hT ih => ?_
  intro b frm deep hF
  refine Pure.of_body tt [111] [8, 9] Try.func83 rfl rfl rfl (Nat.le_of_ble_eq_true rfl) fun g => ?_
  repeat' first
    | (refine then_go hm htt ?_; conv => whnf)
    | (refine Side.mk (by first | assumption | exact trivial | rfl | exact Nat.le_of_ble_eq_true rfl | omega) ?_; conv => whnf)
    | (refine Hyp.mk fun hlen => ?_; replace hlen : _ ≤ 17592186044416 := hlen; conv => whnf)
    | (refine Split.ct ?_; conv => whnf)
    | (refine Split.cf ?_; conv => whnf)
    | (refine Split.of_true (by first | rfl | assumption | ((try simp only [bytes_eq, bytes_ne, empty_bytes, bytes_bne, bytes_bne']); (try simp only [decide_eq_true_eq, decide_eq_false_iff_not, beq_iff_eq, beq_eq_false_iff_ne, bne_iff_ne, bne_eq_false_iff_eq, Bool.not_eq_true', Bool.not_eq_false', Tree.isNil_iff, Tree.isNil_not, Int.not_lt, Int.not_le, gt_iff_lt, ge_iff_le, ne_eq, Decidable.not_not, Int.toNat_natCast, Int.toNat_zero, Int.toNat_one]); first | assumption | omega)) ?_; conv => whnf)
    | (refine Split.of_false (by first | rfl | assumption | ((try simp only [bytes_eq, bytes_ne, empty_bytes, bytes_bne, bytes_bne']); (try simp only [decide_eq_true_eq, decide_eq_false_iff_not, beq_iff_eq, beq_eq_false_iff_ne, bne_iff_ne, bne_eq_false_iff_eq, Bool.not_eq_true', Bool.not_eq_false', Tree.isNil_iff, Tree.isNil_not, Int.not_lt, Int.not_le, gt_iff_lt, ge_iff_le, ne_eq, Decidable.not_not, Int.toNat_natCast, Int.toNat_zero, Int.toNat_one]); first | assumption | omega)) ?_; conv => whnf)
    | (refine Indep.mk (by kernel_rfl) ?_; conv => whnf)
    | (refine Split.mk (fun hc => ?_) (fun hc => ?_) <;> (try simp only [bytes_eq, bytes_ne, empty_bytes, bytes_bne, bytes_bne'] at hc) <;> (try simp only [decide_eq_true_eq, decide_eq_false_iff_not, beq_iff_eq, beq_eq_false_iff_ne, bne_iff_ne, bne_eq_false_iff_eq, Bool.not_eq_true', Bool.not_eq_false', Tree.isNil_iff, Tree.isNil_not, Int.not_lt, Int.not_le, gt_iff_lt, ge_iff_le, ne_eq, Decidable.not_not, Int.toNat_natCast, Int.toNat_zero, Int.toNat_one] at hc) <;> conv => whnf)
  · have e : rmovedF b frm T deep = none := by rw [rmovedF_eq hT, if_pos ⟨by assumption, by assumption, by assumption⟩, if_pos (.inl (by assumption))]
    exact ret_closed rfl (tup2 (tree_eq (by rw [e]; rfl)) (bool_eq (by rw [e]; rfl))) rfl
  · have e : rmovedF b frm T deep = none := by rw [rmovedF_eq hT, if_pos ⟨by assumption, by assumption, by assumption⟩, if_pos (.inr (by assumption))]
    exact ret_closed rfl (tup2 (tree_eq (by rw [e]; rfl)) (bool_eq (by rw [e]; rfl))) rfl
  · have e : rmovedF b frm T deep = (rmovedsF b frm T.kids (IntKind.i64.wrap (deep + bindsF T))).map fun l' => .node T.kind (IntKind.i64.wrap (T.n + b)) T.name ByteArray.empty l' := by rw [rmovedF_eq hT, if_pos ⟨by assumption, by assumption, by assumption⟩, if_neg (by unfold mBad; omega)]
    refine loop_go (α := Nat × List Tree) (fun p => ⟨[(0, .d (.tree T)), (1, .d (.int .i64 b)), (2, .d (.int .i64 frm)), (3, .d (.int .i64 deep)), (10, .ref 0 0), (11, .d (.int .i64 p.1))], 116, [(0, .cells [.d (.int .i64 T.kind), .d (.int .i64 (IntKind.i64.wrap (T.n + b))), .d (.str T.name), .d (.str ByteArray.empty), .row 1 p.1]), (1, .row 25 (.trees p.2))], 2, g⟩)
        (fun p => p.1 ≤ T.kids.length ∧ p.2.length = p.1 ∧ rmovedsF b frm T.kids (IntKind.i64.wrap (deep + bindsF T)) = (rmovedsF b frm (T.kids.drop p.1) (IntKind.i64.wrap (deep + bindsF T))).map (p.2 ++ ·)) (fun p => T.kids.length - p.1) (0, []) ⟨by simp, rfl, by simp⟩
        (Ent.nil rfl rfl rfl (by repeat' first | exact trivial | apply And.intro | rfl | (refine int_eq ?_; rw [wrap64] <;> omega)) (by repeat' first | exact trivial | apply And.intro | rfl | (refine int_eq ?_; rw [wrap64] <;> omega))) (fun _ => rfl) fun p hpre => ?_
    obtain ⟨i, out⟩ := p
    obtain ⟨hp1, hp2, hp3⟩ := hpre
    simp only [] at hp1 hp2 hp3
    repeat' first
      | (refine then_go hm htt ?_; conv => whnf)
      | (refine Side.mk (by first | assumption | exact trivial | rfl | exact Nat.le_of_ble_eq_true rfl | omega) ?_; conv => whnf)
      | (refine Hyp.mk fun hlen => ?_; replace hlen : _ ≤ 17592186044416 := hlen; conv => whnf)
      | (refine Split.ct ?_; conv => whnf)
      | (refine Split.cf ?_; conv => whnf)
      | (refine Split.of_true (by first | rfl | assumption | ((try simp only [bytes_eq, bytes_ne, empty_bytes, bytes_bne, bytes_bne']); (try simp only [decide_eq_true_eq, decide_eq_false_iff_not, beq_iff_eq, beq_eq_false_iff_ne, bne_iff_ne, bne_eq_false_iff_eq, Bool.not_eq_true', Bool.not_eq_false', Tree.isNil_iff, Tree.isNil_not, Int.not_lt, Int.not_le, gt_iff_lt, ge_iff_le, ne_eq, Decidable.not_not, Int.toNat_natCast, Int.toNat_zero, Int.toNat_one]); first | assumption | omega)) ?_; conv => whnf)
      | (refine Split.of_false (by first | rfl | assumption | ((try simp only [bytes_eq, bytes_ne, empty_bytes, bytes_bne, bytes_bne']); (try simp only [decide_eq_true_eq, decide_eq_false_iff_not, beq_iff_eq, beq_eq_false_iff_ne, bne_iff_ne, bne_eq_false_iff_eq, Bool.not_eq_true', Bool.not_eq_false', Tree.isNil_iff, Tree.isNil_not, Int.not_lt, Int.not_le, gt_iff_lt, ge_iff_le, ne_eq, Decidable.not_not, Int.toNat_natCast, Int.toNat_zero, Int.toNat_one]); first | assumption | omega)) ?_; conv => whnf)
      | (refine Indep.mk (by kernel_rfl) ?_; conv => whnf)
      | (refine Side.mk (show (i + 1 ≤ 17592186044416 ∧ (i + 1) * 8 ≤ 140737488355328) from ⟨by omega, by omega⟩) ?_; conv => whnf)
      | (refine CallG.pure (rinner_ok T hT) rfl ?_; conv => whnf)
      | (refine CallG.pure (ih (T.kids.getD i .nil) (getD_mem (by omega)) b frm (IntKind.i64.wrap (deep + bindsF T)) (hF.kid (by omega))) rfl ?_; conv => whnf)
      | (refine Split.mk (fun hc => ?_) (fun hc => ?_) <;> (try simp only [bytes_eq, bytes_ne, empty_bytes, bytes_bne, bytes_bne'] at hc) <;> (try simp only [decide_eq_true_eq, decide_eq_false_iff_not, beq_iff_eq, beq_eq_false_iff_ne, bne_iff_ne, bne_eq_false_iff_eq, Bool.not_eq_true', Bool.not_eq_false', Tree.isNil_iff, Tree.isNil_not, Int.not_lt, Int.not_le, gt_iff_lt, ge_iff_le, ne_eq, Decidable.not_not, Int.toNat_natCast, Int.toNat_zero, Int.toNat_one] at hc) <;> conv => whnf)
    · rw [drop_step (by omega), rmovedsF] at hp3
      cases hq : rmovedF b frm (T.kids.getD i .nil) (IntKind.i64.wrap (deep + bindsF T)) with
      | some x' => rw [hq] at hc; cases hc
      | none =>
        rw [hq] at hp3
        exact ret_closed rfl (tup2 (tree_eq (by rw [e, hp3]; rfl)) (bool_eq (by rw [e, hp3]; rfl))) rfl
    · rw [drop_step (by omega), rmovedsF] at hp3
      cases hq : rmovedF b frm (T.kids.getD i .nil) (IntKind.i64.wrap (deep + bindsF T)) with
      | none => rw [hq] at hc; cases hc
      | some x' =>
        rw [hq] at hp3
        exact ⟨(i + 1, out ++ [x']), ⟨by simp only []; omega, by simp [hp2], by rw [hp3]; simp [Option.map_map, Function.comp_def]⟩, by simp only []; omega, Ent.re [0, 2] rfl rfl rfl rfl rfl rfl (by repeat' first | exact trivial | apply And.intro | rfl | (refine int_eq ?_; rw [wrap64] <;> omega)) (by repeat' first | exact trivial | apply And.intro | rfl | (rw [hq]; rfl))⟩
    · rw [drop_end (by omega), rmovedsF] at hp3
      have hp4 : rmovedsF b frm T.kids (IntKind.i64.wrap (deep + bindsF T)) = some out := by rw [hp3]; simp
      refine RetS.ent (Ent.fz_row 1 (l := out) rfl (by repeat' first | exact trivial | apply And.intro | rfl | exact hp2.symm | exact Nat.zero_lt_one | omega) (by repeat' first | exact trivial | apply And.intro | rfl | exact hp2.symm | exact Nat.zero_lt_one | omega)) ?_
      refine RetS.ent (Ent.fz_node 0 rfl rfl (by repeat' first | exact trivial | apply And.intro | rfl | exact hp2.symm | exact Nat.zero_lt_one | omega) (by repeat' first | exact trivial | apply And.intro | rfl | exact hp2.symm | exact Nat.zero_lt_one | omega)) ?_
      exact ret_closed rfl (tup2 (tree_eq (by rw [e, hp4]; rfl)) (bool_eq (by rw [e, hp4]; rfl))) rfl
  all_goals
    have e : rmovedF b frm T deep = (rmovedsF b frm T.kids (IntKind.i64.wrap (deep + bindsF T))).map fun l' => .node T.kind T.n T.name ByteArray.empty l' := by rw [rmovedF_eq hT, if_neg (by unfold mHit; omega)]
    refine loop_go (α := Nat × List Tree) (fun p => ⟨[(0, .d (.tree T)), (1, .d (.int .i64 b)), (2, .d (.int .i64 frm)), (3, .d (.int .i64 deep)), (10, .ref 0 0), (11, .d (.int .i64 p.1))], 116, [(0, .cells [.d (.int .i64 T.kind), .d (.int .i64 T.n), .d (.str T.name), .d (.str ByteArray.empty), .row 1 p.1]), (1, .row 25 (.trees p.2))], 2, g⟩)
        (fun p => p.1 ≤ T.kids.length ∧ p.2.length = p.1 ∧ rmovedsF b frm T.kids (IntKind.i64.wrap (deep + bindsF T)) = (rmovedsF b frm (T.kids.drop p.1) (IntKind.i64.wrap (deep + bindsF T))).map (p.2 ++ ·)) (fun p => T.kids.length - p.1) (0, []) ⟨by simp, rfl, by simp⟩
        (Ent.nil rfl rfl rfl (by repeat' first | exact trivial | apply And.intro | rfl | (refine int_eq ?_; rw [wrap64] <;> omega)) (by repeat' first | exact trivial | apply And.intro | rfl | (refine int_eq ?_; rw [wrap64] <;> omega))) (fun _ => rfl) fun p hpre => ?_
    obtain ⟨i, out⟩ := p
    obtain ⟨hp1, hp2, hp3⟩ := hpre
    simp only [] at hp1 hp2 hp3
    repeat' first
      | (refine then_go hm htt ?_; conv => whnf)
      | (refine Side.mk (by first | assumption | exact trivial | rfl | exact Nat.le_of_ble_eq_true rfl | omega) ?_; conv => whnf)
      | (refine Hyp.mk fun hlen => ?_; replace hlen : _ ≤ 17592186044416 := hlen; conv => whnf)
      | (refine Split.ct ?_; conv => whnf)
      | (refine Split.cf ?_; conv => whnf)
      | (refine Split.of_true (by first | rfl | assumption | ((try simp only [bytes_eq, bytes_ne, empty_bytes, bytes_bne, bytes_bne']); (try simp only [decide_eq_true_eq, decide_eq_false_iff_not, beq_iff_eq, beq_eq_false_iff_ne, bne_iff_ne, bne_eq_false_iff_eq, Bool.not_eq_true', Bool.not_eq_false', Tree.isNil_iff, Tree.isNil_not, Int.not_lt, Int.not_le, gt_iff_lt, ge_iff_le, ne_eq, Decidable.not_not, Int.toNat_natCast, Int.toNat_zero, Int.toNat_one]); first | assumption | omega)) ?_; conv => whnf)
      | (refine Split.of_false (by first | rfl | assumption | ((try simp only [bytes_eq, bytes_ne, empty_bytes, bytes_bne, bytes_bne']); (try simp only [decide_eq_true_eq, decide_eq_false_iff_not, beq_iff_eq, beq_eq_false_iff_ne, bne_iff_ne, bne_eq_false_iff_eq, Bool.not_eq_true', Bool.not_eq_false', Tree.isNil_iff, Tree.isNil_not, Int.not_lt, Int.not_le, gt_iff_lt, ge_iff_le, ne_eq, Decidable.not_not, Int.toNat_natCast, Int.toNat_zero, Int.toNat_one]); first | assumption | omega)) ?_; conv => whnf)
      | (refine Indep.mk (by kernel_rfl) ?_; conv => whnf)
      | (refine Side.mk (show (i + 1 ≤ 17592186044416 ∧ (i + 1) * 8 ≤ 140737488355328) from ⟨by omega, by omega⟩) ?_; conv => whnf)
      | (refine CallG.pure (rinner_ok T hT) rfl ?_; conv => whnf)
      | (refine CallG.pure (ih (T.kids.getD i .nil) (getD_mem (by omega)) b frm (IntKind.i64.wrap (deep + bindsF T)) (hF.kid (by omega))) rfl ?_; conv => whnf)
      | (refine Split.mk (fun hc => ?_) (fun hc => ?_) <;> (try simp only [bytes_eq, bytes_ne, empty_bytes, bytes_bne, bytes_bne'] at hc) <;> (try simp only [decide_eq_true_eq, decide_eq_false_iff_not, beq_iff_eq, beq_eq_false_iff_ne, bne_iff_ne, bne_eq_false_iff_eq, Bool.not_eq_true', Bool.not_eq_false', Tree.isNil_iff, Tree.isNil_not, Int.not_lt, Int.not_le, gt_iff_lt, ge_iff_le, ne_eq, Decidable.not_not, Int.toNat_natCast, Int.toNat_zero, Int.toNat_one] at hc) <;> conv => whnf)
    · rw [drop_step (by omega), rmovedsF] at hp3
      cases hq : rmovedF b frm (T.kids.getD i .nil) (IntKind.i64.wrap (deep + bindsF T)) with
      | some x' => rw [hq] at hc; cases hc
      | none =>
        rw [hq] at hp3
        exact ret_closed rfl (tup2 (tree_eq (by rw [e, hp3]; rfl)) (bool_eq (by rw [e, hp3]; rfl))) rfl
    · rw [drop_step (by omega), rmovedsF] at hp3
      cases hq : rmovedF b frm (T.kids.getD i .nil) (IntKind.i64.wrap (deep + bindsF T)) with
      | none => rw [hq] at hc; cases hc
      | some x' =>
        rw [hq] at hp3
        exact ⟨(i + 1, out ++ [x']), ⟨by simp only []; omega, by simp [hp2], by rw [hp3]; simp [Option.map_map, Function.comp_def]⟩, by simp only []; omega, Ent.re [0, 2] rfl rfl rfl rfl rfl rfl (by repeat' first | exact trivial | apply And.intro | rfl | (refine int_eq ?_; rw [wrap64] <;> omega)) (by repeat' first | exact trivial | apply And.intro | rfl | (rw [hq]; rfl))⟩
    · rw [drop_end (by omega), rmovedsF] at hp3
      have hp4 : rmovedsF b frm T.kids (IntKind.i64.wrap (deep + bindsF T)) = some out := by rw [hp3]; simp
      refine RetS.ent (Ent.fz_row 1 (l := out) rfl (by repeat' first | exact trivial | apply And.intro | rfl | exact hp2.symm | exact Nat.zero_lt_one | omega) (by repeat' first | exact trivial | apply And.intro | rfl | exact hp2.symm | exact Nat.zero_lt_one | omega)) ?_
      refine RetS.ent (Ent.fz_node 0 rfl rfl (by repeat' first | exact trivial | apply And.intro | rfl | exact hp2.symm | exact Nat.zero_lt_one | omega) (by repeat' first | exact trivial | apply And.intro | rfl | exact hp2.symm | exact Nat.zero_lt_one | omega)) ?_
      exact ret_closed rfl (tup2 (tree_eq (by rw [e, hp4]; rfl)) (bool_eq (by rw [e, hp4]; rfl))) rfl
end Go.Proofs.Ytfblaochmhhknaa

namespace Go.Proofs.Ytfblaochmhhknaa
open Go Go.Mq
set_option linter.all false

def rshiftR (T : Tree) (b frm : Int) : Tree × Int :=
  if conE T = 0 then (if frm < 0 then (.nil, 2) else if (rmovedF b frm T 0).isSome = true then (oT (rmovedF b frm T 0), 0) else (.nil, 2)) else (.nil, conE T)
set_option maxRecDepth 10000 in
theorem rShift_ok (T : Tree) (b frm : Int) : Pure P 34 [.d (.tree T), .d (.int .i64 b), .d (.int .i64 frm)] (.tuple [.d (.tree (rshiftR T b frm).1), .d (.int .i64 (rshiftR T b frm).2)]) := by
  refine Pure.of_body tt [] [6, 7] Try.func34 rfl rfl rfl (Nat.le_of_ble_eq_true rfl) fun g => ?_
  repeat' first
    | (refine then_go hm htt ?_; conv => whnf)
    | (refine Side.mk (by first | assumption | exact trivial | rfl | exact Nat.le_of_ble_eq_true rfl | omega) ?_; conv => whnf)
    | (refine Hyp.mk fun hlen => ?_; replace hlen : _ ≤ 17592186044416 := hlen; conv => whnf)
    | (refine Split.ct ?_; conv => whnf)
    | (refine Split.cf ?_; conv => whnf)
    | (refine Split.of_true (by first | rfl | assumption | ((try simp only [bytes_eq, bytes_ne, empty_bytes, bytes_bne, bytes_bne']); (try simp only [decide_eq_true_eq, decide_eq_false_iff_not, beq_iff_eq, beq_eq_false_iff_ne, bne_iff_ne, bne_eq_false_iff_eq, Bool.not_eq_true', Bool.not_eq_false', Tree.isNil_iff, Tree.isNil_not, Int.not_lt, Int.not_le, gt_iff_lt, ge_iff_le, ne_eq, Decidable.not_not, Int.toNat_natCast, Int.toNat_zero, Int.toNat_one]); first | assumption | omega)) ?_; conv => whnf)
    | (refine Split.of_false (by first | rfl | assumption | ((try simp only [bytes_eq, bytes_ne, empty_bytes, bytes_bne, bytes_bne']); (try simp only [decide_eq_true_eq, decide_eq_false_iff_not, beq_iff_eq, beq_eq_false_iff_ne, bne_iff_ne, bne_eq_false_iff_eq, Bool.not_eq_true', Bool.not_eq_false', Tree.isNil_iff, Tree.isNil_not, Int.not_lt, Int.not_le, gt_iff_lt, ge_iff_le, ne_eq, Decidable.not_not, Int.toNat_natCast, Int.toNat_zero, Int.toNat_one]); first | assumption | omega)) ?_; conv => whnf)
    | (refine Indep.mk (by kernel_rfl) ?_; conv => whnf)
    | (refine CallG.pure (rcheck_ok T) rfl ?_; conv => whnf)
    | (refine CallG.pure (rMoved_ok T b frm 0 (conE_full (by assumption)).1) rfl ?_; conv => whnf)
    | (refine Split.mk (fun hc => ?_) (fun hc => ?_) <;> (try simp only [bytes_eq, bytes_ne, empty_bytes, bytes_bne, bytes_bne'] at hc) <;> (try simp only [decide_eq_true_eq, decide_eq_false_iff_not, beq_iff_eq, beq_eq_false_iff_ne, bne_iff_ne, bne_eq_false_iff_eq, Bool.not_eq_true', Bool.not_eq_false', Tree.isNil_iff, Tree.isNil_not, Int.not_lt, Int.not_le, gt_iff_lt, ge_iff_le, ne_eq, Decidable.not_not, Int.toNat_natCast, Int.toNat_zero, Int.toNat_one] at hc) <;> conv => whnf)
  all_goals refine ret_closed rfl (tup2 (tree_eq ?_) (int_eq ?_)) rfl
  all_goals (unfold rshiftR; (repeat' split) <;> first | rfl | omega | (exfalso; omega) | (simp_all; done) | (simp_all; omega))
end Go.Proofs.Ytfblaochmhhknaa

namespace Go.Proofs.Ytfblaochmhhknaa
open Go Go.Mq
set_option linter.all false

def pHit (i0 : Int) (T : Tree) (deep : Int) : Prop := T.kind = 110 ∧ deep ≤ T.n ∧ IntKind.i64.wrap (T.n - deep) = i0
instance (i0 : Int) (T : Tree) (deep : Int) : Decidable (pHit i0 T deep) := by unfold pHit; infer_instance
def pAbove (i0 : Int) (T : Tree) (deep : Int) : Prop := T.kind = 110 ∧ deep ≤ T.n ∧ i0 < IntKind.i64.wrap (T.n - deep)
instance (i0 : Int) (T : Tree) (deep : Int) : Decidable (pAbove i0 T deep) := by unfold pAbove; infer_instance
mutual
def rputF (i0 : Int) (u : Tree) : Tree → Int → Option Tree
  | .nil, _ => none
  | .node k n nm mk l, deep =>
    if pHit i0 (.node k n nm mk l) deep then rmovedF deep 0 u 0
    else if pAbove i0 (.node k n nm mk l) deep then (rputsF i0 u l (IntKind.i64.wrap (deep + bindsF (.node k n nm mk l)))).map fun l' => .node k (IntKind.i64.wrap (n - 1)) nm ByteArray.empty l'
    else (rputsF i0 u l (IntKind.i64.wrap (deep + bindsF (.node k n nm mk l)))).map fun l' => .node k n nm ByteArray.empty l'
def rputsF (i0 : Int) (u : Tree) : List Tree → Int → Option (List Tree)
  | [], _ => some []
  | x :: l, deep => match rputF i0 u x deep with
    | none => none
    | some x' => (rputsF i0 u l deep).map (x' :: ·)
end
theorem rputF_eq {T : Tree} (h : T ≠ .nil) (i0 : Int) (u : Tree) (deep : Int) : rputF i0 u T deep = if pHit i0 T deep then rmovedF deep 0 u 0
    else if pAbove i0 T deep then (rputsF i0 u T.kids (IntKind.i64.wrap (deep + bindsF T))).map fun l' => .node T.kind (IntKind.i64.wrap (T.n - 1)) T.name ByteArray.empty l'
    else (rputsF i0 u T.kids (IntKind.i64.wrap (deep + bindsF T))).map fun l' => .node T.kind T.n T.name ByteArray.empty l' := by
  cases T with
  | nil => exact absurd rfl h
  | node => rw [rputF]; rfl

set_option maxHeartbeats 4000000 in
set_option maxRecDepth 10000 in
theorem rPut_ok (u : Tree) (hU : Full u) (T : Tree) : ∀ (i0 deep : Int), Full T → Pure P 81 [.d (.tree T), .d (.int .i64 i0), .d (.tree u), .d (.int .i64 deep)] (.tuple [.d (.tree (oT (rputF i0 u T deep))), .d (.bool (rputF i0 u T deep).isSome)]) := by
  induction T using Tree.ind' with
  | h0 => intro i0 deep hF; exact absurd rfl hF.ne
  | h1 T hT ih => ?_
  intro i0 deep hF
  refine Pure.of_body tt [121] [8, 9] Try.func81 rfl rfl rfl (Nat.le_of_ble_eq_true rfl) fun g => ?_
  repeat' first
    | (refine then_go hm htt ?_; conv => whnf)
    | (refine Side.mk (by first | assumption | exact trivial | rfl | exact Nat.le_of_ble_eq_true rfl | omega) ?_; conv => whnf)
    | (refine Hyp.mk fun hlen => ?_; replace hlen : _ ≤ 17592186044416 := hlen; conv => whnf)
    | (refine Split.ct ?_; conv => whnf)
    | (refine Split.cf ?_; conv => whnf)
    | (refine Split.of_true (by first | rfl | assumption | ((try simp only [bytes_eq, bytes_ne, empty_bytes, bytes_bne, bytes_bne']); (try simp only [decide_eq_true_eq, decide_eq_false_iff_not, beq_iff_eq, beq_eq_false_iff_ne, bne_iff_ne, bne_eq_false_iff_eq, Bool.not_eq_true', Bool.not_eq_false', Tree.isNil_iff, Tree.isNil_not, Int.not_lt, Int.not_le, gt_iff_lt, ge_iff_le, ne_eq, Decidable.not_not, Int.toNat_natCast, Int.toNat_zero, Int.toNat_one]); first | assumption | omega)) ?_; conv => whnf)
    | (refine Split.of_false (by first | rfl | assumption | ((try simp only [bytes_eq, bytes_ne, empty_bytes, bytes_bne, bytes_bne']); (try simp only [decide_eq_true_eq, decide_eq_false_iff_not, beq_iff_eq, beq_eq_false_iff_ne, bne_iff_ne, bne_eq_false_iff_eq, Bool.not_eq_true', Bool.not_eq_false', Tree.isNil_iff, Tree.isNil_not, Int.not_lt, Int.not_le, gt_iff_lt, ge_iff_le, ne_eq, Decidable.not_not, Int.toNat_natCast, Int.toNat_zero, Int.toNat_one]); first | assumption | omega)) ?_; conv => whnf)
    | (refine Indep.mk (by kernel_rfl) ?_; conv => whnf)
    | (refine CallG.pure (rMoved_ok u deep 0 0 hU) rfl ?_; conv => whnf)
    | (refine Split.mk (fun hc => ?_) (fun hc => ?_) <;> (try simp only [bytes_eq, bytes_ne, empty_bytes, bytes_bne, bytes_bne'] at hc) <;> (try simp only [decide_eq_true_eq, decide_eq_false_iff_not, beq_iff_eq, beq_eq_false_iff_ne, bne_iff_ne, bne_eq_false_iff_eq, Bool.not_eq_true', Bool.not_eq_false', Tree.isNil_iff, Tree.isNil_not, Int.not_lt, Int.not_le, gt_iff_lt, ge_iff_le, ne_eq, Decidable.not_not, Int.toNat_natCast, Int.toNat_zero, Int.toNat_one] at hc) <;> conv => whnf)
  · have e : rputF i0 u T deep = rmovedF deep 0 u 0 := by rw [rputF_eq hT, if_pos ⟨by assumption, by assumption, by assumption⟩]
    exact ret_closed rfl (tup2 (tree_eq (by rw [e])) (bool_eq (by rw [e]))) rfl
  all_goals first
    | have e : rputF i0 u T deep = (rputsF i0 u T.kids (IntKind.i64.wrap (deep + bindsF T))).map fun l' => .node T.kind (IntKind.i64.wrap (T.n - 1)) T.name ByteArray.empty l' := (by rw [rputF_eq hT, if_neg (by unfold pHit; omega), if_pos ⟨by assumption, by assumption, by assumption⟩])
    | have e : rputF i0 u T deep = (rputsF i0 u T.kids (IntKind.i64.wrap (deep + bindsF T))).map fun l' => .node T.kind T.n T.name ByteArray.empty l' := (by rw [rputF_eq hT, if_neg (by unfold pHit; omega), if_neg (by unfold pAbove; omega)])
  · skip
    refine loop_go (α := Nat × List Tree) (fun p => ⟨[(0, .d (.tree T)), (1, .d (.int .i64 i0)), (2, .d (.tree u)), (3, .d (.int .i64 deep)), (10, .ref 0 0), (11, .d (.int .i64 p.1))], 126, [(0, .cells [.d (.int .i64 T.kind), .d (.int .i64 (IntKind.i64.wrap (T.n - 1))), .d (.str T.name), .d (.str ByteArray.empty), .row 1 p.1]), (1, .row 25 (.trees p.2))], 2, g⟩)
        (fun p => p.1 ≤ T.kids.length ∧ p.2.length = p.1 ∧ rputsF i0 u T.kids (IntKind.i64.wrap (deep + bindsF T)) = (rputsF i0 u (T.kids.drop p.1) (IntKind.i64.wrap (deep + bindsF T))).map (p.2 ++ ·)) (fun p => T.kids.length - p.1) (0, []) ⟨by simp, rfl, by simp⟩
        (Ent.nil rfl rfl rfl (by repeat' first | exact trivial | apply And.intro | rfl | (refine int_eq ?_; rw [wrap64] <;> omega)) (by repeat' first | exact trivial | apply And.intro | rfl | (refine int_eq ?_; rw [wrap64] <;> omega))) (fun _ => rfl) fun p hpre => ?_
    obtain ⟨i, out⟩ := p
    obtain ⟨hp1, hp2, hp3⟩ := hpre
    simp only [] at hp1 hp2 hp3
    repeat' first
      | (refine then_go hm htt ?_; conv => whnf)
      | (refine Side.mk (by first | assumption | exact trivial | rfl | exact Nat.le_of_ble_eq_true rfl | omega) ?_; conv => whnf)
      | (refine Hyp.mk fun hlen => ?_; replace hlen : _ ≤ 17592186044416 := hlen; conv => whnf)
      | (refine Split.ct ?_; conv => whnf)
      | (refine Split.cf ?_; conv => whnf)
      | (refine Split.of_true (by first | rfl | assumption | ((try simp only [bytes_eq, bytes_ne, empty_bytes, bytes_bne, bytes_bne']); (try simp only [decide_eq_true_eq, decide_eq_false_iff_not, beq_iff_eq, beq_eq_false_iff_ne, bne_iff_ne, bne_eq_false_iff_eq, Bool.not_eq_true', Bool.not_eq_false', Tree.isNil_iff, Tree.isNil_not, Int.not_lt, Int.not_le, gt_iff_lt, ge_iff_le, ne_eq, Decidable.not_not, Int.toNat_natCast, Int.toNat_zero, Int.toNat_one]); first | assumption | omega)) ?_; conv => whnf)
      | (refine Split.of_false (by first | rfl | assumption | ((try simp only [bytes_eq, bytes_ne, empty_bytes, bytes_bne, bytes_bne']); (try simp only [decide_eq_true_eq, decide_eq_false_iff_not, beq_iff_eq, beq_eq_false_iff_ne, bne_iff_ne, bne_eq_false_iff_eq, Bool.not_eq_true', Bool.not_eq_false', Tree.isNil_iff, Tree.isNil_not, Int.not_lt, Int.not_le, gt_iff_lt, ge_iff_le, ne_eq, Decidable.not_not, Int.toNat_natCast, Int.toNat_zero, Int.toNat_one]); first | assumption | omega)) ?_; conv => whnf)
      | (refine Indep.mk (by kernel_rfl) ?_; conv => whnf)
      | (refine Side.mk (show (i + 1 ≤ 17592186044416 ∧ (i + 1) * 8 ≤ 140737488355328) from ⟨by omega, by omega⟩) ?_; conv => whnf)
      | (refine CallG.pure (rinner_ok T hT) rfl ?_; conv => whnf)
      | (refine CallG.pure (ih (T.kids.getD i .nil) (getD_mem (by omega)) i0 (IntKind.i64.wrap (deep + bindsF T)) (hF.kid (by omega))) rfl ?_; conv => whnf)
      | (refine Split.mk (fun hc => ?_) (fun hc => ?_) <;> (try simp only [bytes_eq, bytes_ne, empty_bytes, bytes_bne, bytes_bne'] at hc) <;> (try simp only [decide_eq_true_eq, decide_eq_false_iff_not, beq_iff_eq, beq_eq_false_iff_ne, bne_iff_ne, bne_eq_false_iff_eq, Bool.not_eq_true', Bool.not_eq_false', Tree.isNil_iff, Tree.isNil_not, Int.not_lt, Int.not_le, gt_iff_lt, ge_iff_le, ne_eq, Decidable.not_not, Int.toNat_natCast, Int.toNat_zero, Int.toNat_one] at hc) <;> conv => whnf)
    · rw [drop_step (by omega), rputsF] at hp3
      cases hq : rputF i0 u (T.kids.getD i .nil) (IntKind.i64.wrap (deep + bindsF T)) with
      | some x' => rw [hq] at hc; cases hc
      | none =>
        rw [hq] at hp3
        exact ret_closed rfl (tup2 (tree_eq (by rw [e, hp3]; rfl)) (bool_eq (by rw [e, hp3]; rfl))) rfl
    · rw [drop_step (by omega), rputsF] at hp3
      cases hq : rputF i0 u (T.kids.getD i .nil) (IntKind.i64.wrap (deep + bindsF T)) with
      | none => rw [hq] at hc; cases hc
      | some x' =>
        rw [hq] at hp3
        exact ⟨(i + 1, out ++ [x']), ⟨by simp only []; omega, by simp [hp2], by rw [hp3]; simp [Option.map_map, Function.comp_def]⟩, by simp only []; omega, Ent.re [0, 2] rfl rfl rfl rfl rfl rfl (by repeat' first | exact trivial | apply And.intro | rfl | (refine int_eq ?_; rw [wrap64] <;> omega)) (by repeat' first | exact trivial | apply And.intro | rfl | (rw [hq]; rfl))⟩
    · rw [drop_end (by omega), rputsF] at hp3
      have hp4 : rputsF i0 u T.kids (IntKind.i64.wrap (deep + bindsF T)) = some out := by rw [hp3]; simp
      refine RetS.ent (Ent.fz_row 1 (l := out) rfl (by repeat' first | exact trivial | apply And.intro | rfl | exact hp2.symm | exact Nat.zero_lt_one | omega) (by repeat' first | exact trivial | apply And.intro | rfl | exact hp2.symm | exact Nat.zero_lt_one | omega)) ?_
      refine RetS.ent (Ent.fz_node 0 rfl rfl (by repeat' first | exact trivial | apply And.intro | rfl | exact hp2.symm | exact Nat.zero_lt_one | omega) (by repeat' first | exact trivial | apply And.intro | rfl | exact hp2.symm | exact Nat.zero_lt_one | omega)) ?_
      exact ret_closed rfl (tup2 (tree_eq (by rw [e, hp4]; rfl)) (bool_eq (by rw [e, hp4]; rfl))) rfl
  all_goals
    refine loop_go (α := Nat × List Tree) (fun p => ⟨[(0, .d (.tree T)), (1, .d (.int .i64 i0)), (2, .d (.tree u)), (3, .d (.int .i64 deep)), (10, .ref 0 0), (11, .d (.int .i64 p.1))], 126, [(0, .cells [.d (.int .i64 T.kind), .d (.int .i64 T.n), .d (.str T.name), .d (.str ByteArray.empty), .row 1 p.1]), (1, .row 25 (.trees p.2))], 2, g⟩)
        (fun p => p.1 ≤ T.kids.length ∧ p.2.length = p.1 ∧ rputsF i0 u T.kids (IntKind.i64.wrap (deep + bindsF T)) = (rputsF i0 u (T.kids.drop p.1) (IntKind.i64.wrap (deep + bindsF T))).map (p.2 ++ ·)) (fun p => T.kids.length - p.1) (0, []) ⟨by simp, rfl, by simp⟩
        (Ent.nil rfl rfl rfl (by repeat' first | exact trivial | apply And.intro | rfl | (refine int_eq ?_; rw [wrap64] <;> omega)) (by repeat' first | exact trivial | apply And.intro | rfl | (refine int_eq ?_; rw [wrap64] <;> omega))) (fun _ => rfl) fun p hpre => ?_
    obtain ⟨i, out⟩ := p
    obtain ⟨hp1, hp2, hp3⟩ := hpre
    simp only [] at hp1 hp2 hp3
    repeat' first
      | (refine then_go hm htt ?_; conv => whnf)
      | (refine Side.mk (by first | assumption | exact trivial | rfl | exact Nat.le_of_ble_eq_true rfl | omega) ?_; conv => whnf)
      | (refine Hyp.mk fun hlen => ?_; replace hlen : _ ≤ 17592186044416 := hlen; conv => whnf)
      | (refine Split.ct ?_; conv => whnf)
      | (refine Split.cf ?_; conv => whnf)
      | (refine Split.of_true (by first | rfl | assumption | ((try simp only [bytes_eq, bytes_ne, empty_bytes, bytes_bne, bytes_bne']); (try simp only [decide_eq_true_eq, decide_eq_false_iff_not, beq_iff_eq, beq_eq_false_iff_ne, bne_iff_ne, bne_eq_false_iff_eq, Bool.not_eq_true', Bool.not_eq_false', Tree.isNil_iff, Tree.isNil_not, Int.not_lt, Int.not_le, gt_iff_lt, ge_iff_le, ne_eq, Decidable.not_not, Int.toNat_natCast, Int.toNat_zero, Int.toNat_one]); first | assumption | omega)) ?_; conv => whnf)
      | (refine Split.of_false (by first | rfl | assumption | ((try simp only [bytes_eq, bytes_ne, empty_bytes, bytes_bne, bytes_bne']); (try simp only [decide_eq_true_eq, decide_eq_false_iff_not, beq_iff_eq, beq_eq_false_iff_ne, bne_iff_ne, bne_eq_false_iff_eq, Bool.not_eq_true', Bool.not_eq_false', Tree.isNil_iff, Tree.isNil_not, Int.not_lt, Int.not_le, gt_iff_lt, ge_iff_le, ne_eq, Decidable.not_not, Int.toNat_natCast, Int.toNat_zero, Int.toNat_one]); first | assumption | omega)) ?_; conv => whnf)
      | (refine Indep.mk (by kernel_rfl) ?_; conv => whnf)
      | (refine Side.mk (show (i + 1 ≤ 17592186044416 ∧ (i + 1) * 8 ≤ 140737488355328) from ⟨by omega, by omega⟩) ?_; conv => whnf)
      | (refine CallG.pure (rinner_ok T hT) rfl ?_; conv => whnf)
      | (refine CallG.pure (ih (T.kids.getD i .nil) (getD_mem (by omega)) i0 (IntKind.i64.wrap (deep + bindsF T)) (hF.kid (by omega))) rfl ?_; conv => whnf)
      | (refine Split.mk (fun hc => ?_) (fun hc => ?_) <;> (try simp only [bytes_eq, bytes_ne, empty_bytes, bytes_bne, bytes_bne'] at hc) <;> (try simp only [decide_eq_true_eq, decide_eq_false_iff_not, beq_iff_eq, beq_eq_false_iff_ne, bne_iff_ne, bne_eq_false_iff_eq, Bool.not_eq_true', Bool.not_eq_false', Tree.isNil_iff, Tree.isNil_not, Int.not_lt, Int.not_le, gt_iff_lt, ge_iff_le, ne_eq, Decidable.not_not, Int.toNat_natCast, Int.toNat_zero, Int.toNat_one] at hc) <;> conv => whnf)
    · rw [drop_step (by omega), rputsF] at hp3
      cases hq : rputF i0 u (T.kids.getD i .nil) (IntKind.i64.wrap (deep + bindsF T)) with
      | some x' => rw [hq] at hc; cases hc
      | none =>
        rw [hq] at hp3
        exact ret_closed rfl (tup2 (tree_eq (by rw [e, hp3]; rfl)) (bool_eq (by rw [e, hp3]; rfl))) rfl
    · rw [drop_step (by omega), rputsF] at hp3
      cases hq : rputF i0 u (T.kids.getD i .nil) (IntKind.i64.wrap (deep + bindsF T)) with
      | none => rw [hq] at hc; cases hc
      | some x' =>
        rw [hq] at hp3
        exact ⟨(i + 1, out ++ [x']), ⟨by simp only []; omega, by simp [hp2], by rw [hp3]; simp [Option.map_map, Function.comp_def]⟩, by simp only []; omega, Ent.re [0, 2] rfl rfl rfl rfl rfl rfl (by repeat' first | exact trivial | apply And.intro | rfl | (refine int_eq ?_; rw [wrap64] <;> omega)) (by repeat' first | exact trivial | apply And.intro | rfl | (rw [hq]; rfl))⟩
    · rw [drop_end (by omega), rputsF] at hp3
      have hp4 : rputsF i0 u T.kids (IntKind.i64.wrap (deep + bindsF T)) = some out := by rw [hp3]; simp
      refine RetS.ent (Ent.fz_row 1 (l := out) rfl (by repeat' first | exact trivial | apply And.intro | rfl | exact hp2.symm | exact Nat.zero_lt_one | omega) (by repeat' first | exact trivial | apply And.intro | rfl | exact hp2.symm | exact Nat.zero_lt_one | omega)) ?_
      refine RetS.ent (Ent.fz_node 0 rfl rfl (by repeat' first | exact trivial | apply And.intro | rfl | exact hp2.symm | exact Nat.zero_lt_one | omega) (by repeat' first | exact trivial | apply And.intro | rfl | exact hp2.symm | exact Nat.zero_lt_one | omega)) ?_
      exact ret_closed rfl (tup2 (tree_eq (by rw [e, hp4]; rfl)) (bool_eq (by rw [e, hp4]; rfl))) rfl
end Go.Proofs.Ytfblaochmhhknaa

namespace Go.Proofs.Ytfblaochmhhknaa
open Go Go.Mq
set_option linter.all false

def rsLong (T : Tree) (i : Int) (b : Tree) : Prop := (0 < countF i T 0 ∧ IntKind.i64.wrap (Int.tdiv 65536 (countF i T 0)) < sizeF b) ∨ 65536 < IntKind.i64.wrap (IntKind.i64.wrap (sizeF T - countF i T 0) + IntKind.i64.wrap (countF i T 0 * sizeF b))
instance (T : Tree) (i : Int) (b : Tree) : Decidable (rsLong T i b) := by unfold rsLong; infer_instance
def rsubstR (T : Tree) (i : Int) (b : Tree) : Tree × Int :=
  if conE T = 0 then
    if conE b = 0 then
      if i < 0 then (.nil, 2)
      else if rsLong T i b then (.nil, 3)
      else if (rputF i b T 0).isSome = true then (oT (rputF i b T 0), 0) else (.nil, 3)
    else (.nil, conE b)
  else (.nil, conE T)
set_option maxHeartbeats 4000000 in
set_option maxRecDepth 10000 in
theorem rSubst_ok (T : Tree) (i : Int) (b : Tree) : Pure P 31 [.d (.tree T), .d (.int .i64 i), .d (.tree b)] (.tuple [.d (.tree (rsubstR T i b).1), .d (.int .i64 (rsubstR T i b).2)]) := by
  refine Pure.of_body tt [] [6, 7] Try.func31 rfl rfl rfl (Nat.le_of_ble_eq_true rfl) fun g => ?_
  repeat' first
    | (refine then_go hm htt ?_; conv => whnf)
    | (refine Side.mk (by first | assumption | exact trivial | rfl | exact Nat.le_of_ble_eq_true rfl | omega) ?_; conv => whnf)
    | (refine Hyp.mk fun hlen => ?_; replace hlen : _ ≤ 17592186044416 := hlen; conv => whnf)
    | (refine Split.ct ?_; conv => whnf)
    | (refine Split.cf ?_; conv => whnf)
    | (refine Split.of_true (by first | rfl | assumption | ((try simp only [bytes_eq, bytes_ne, empty_bytes, bytes_bne, bytes_bne']); (try simp only [decide_eq_true_eq, decide_eq_false_iff_not, beq_iff_eq, beq_eq_false_iff_ne, bne_iff_ne, bne_eq_false_iff_eq, Bool.not_eq_true', Bool.not_eq_false', Tree.isNil_iff, Tree.isNil_not, Int.not_lt, Int.not_le, gt_iff_lt, ge_iff_le, ne_eq, Decidable.not_not, Int.toNat_natCast, Int.toNat_zero, Int.toNat_one]); first | assumption | omega)) ?_; conv => whnf)
    | (refine Split.of_false (by first | rfl | assumption | ((try simp only [bytes_eq, bytes_ne, empty_bytes, bytes_bne, bytes_bne']); (try simp only [decide_eq_true_eq, decide_eq_false_iff_not, beq_iff_eq, beq_eq_false_iff_ne, bne_iff_ne, bne_eq_false_iff_eq, Bool.not_eq_true', Bool.not_eq_false', Tree.isNil_iff, Tree.isNil_not, Int.not_lt, Int.not_le, gt_iff_lt, ge_iff_le, ne_eq, Decidable.not_not, Int.toNat_natCast, Int.toNat_zero, Int.toNat_one]); first | assumption | omega)) ?_; conv => whnf)
    | (refine Indep.mk (by kernel_rfl) ?_; conv => whnf)
    | (refine CallG.pure (rcheck_ok T) rfl ?_; conv => whnf)
    | (refine CallG.pure (rcheck_ok b) rfl ?_; conv => whnf)
    | (refine CallG.pure (rcount_ok T i 0 (conE_full (by assumption)).1) rfl ?_; conv => whnf)
    | (refine CallG.pure (rsize_ok b) rfl ?_; conv => whnf)
    | (refine CallG.pure (rsize_ok T) rfl ?_; conv => whnf)
    | (refine CallG.pure (rPut_ok b (conE_full (by assumption)).1 T i 0 (conE_full (by assumption)).1) rfl ?_; conv => whnf)
    | (refine Split.mk (fun hc => ?_) (fun hc => ?_) <;> (try simp only [bytes_eq, bytes_ne, empty_bytes, bytes_bne, bytes_bne'] at hc) <;> (try simp only [decide_eq_true_eq, decide_eq_false_iff_not, beq_iff_eq, beq_eq_false_iff_ne, bne_iff_ne, bne_eq_false_iff_eq, Bool.not_eq_true', Bool.not_eq_false', Tree.isNil_iff, Tree.isNil_not, Int.not_lt, Int.not_le, gt_iff_lt, ge_iff_le, ne_eq, Decidable.not_not, Int.toNat_natCast, Int.toNat_zero, Int.toNat_one] at hc) <;> conv => whnf)
  all_goals refine ret_closed rfl (tup2 (tree_eq ?_) (int_eq ?_)) rfl
  all_goals (unfold rsubstR; (repeat' split) <;> first | rfl | omega | (exfalso; omega) | (exfalso; unfold rsLong at *; omega) | (simp_all; done) | (unfold rsLong at *; simp_all; omega))
end Go.Proofs.Ytfblaochmhhknaa

namespace Go.Proofs.Ytfblaochmhhknaa
open Go Go.Mq
set_option linter.all false

mutual
def sameF : Tree → Tree → Bool
  | .nil, .nil => true
  | .node k n nm mk l, .node k' n' nm' mk' l' => decide (k = k') && decide (n = n') && decide (nm = nm') && decide (mk = mk') && samesF l l'
  | _, _ => false
def samesF : List Tree → List Tree → Bool
  | [], [] => true
  | x :: l, y :: l' => sameF x y && samesF l l'
  | _, _ => false
end
theorem samesF_len : ∀ l l' : List Tree, samesF l l' = true → l.length = l'.length
  | [], [], _ => rfl
  | x :: l, y :: l', h => by
    rw [samesF, Bool.and_eq_true] at h
    simp [samesF_len l l' h.2]
  | [], _ :: _, h => by simp [samesF] at h
  | _ :: _, [], h => by simp [samesF] at h
theorem sameF_nil (A B : Tree) (h : A = .nil ∨ B = .nil) : sameF A B = (decide (A.isNil = true) && decide (B.isNil = true)) := by
  cases A <;> cases B <;> simp_all [sameF, Tree.isNil]
theorem sameF_eq {A B : Tree} (ha : A ≠ .nil) (hb : B ≠ .nil) : sameF A B = (decide (A.kind = B.kind) && decide (A.n = B.n) && decide (A.name = B.name) && decide (A.mark = B.mark) && samesF A.kids B.kids) := by
  cases A with
  | nil => exact absurd rfl ha
  | node => cases B with
    | nil => exact absurd rfl hb
    | node => rw [sameF]; rfl
theorem sameF_iff (A : Tree) : ∀ B, sameF A B = true ↔ A = B := by
  induction A using Tree.ind with
  | h0 => intro B; cases B <;> simp [sameF]
  | h1 k n nm mk l ih =>
    have kids : ∀ (l l' : List Tree), (∀ x ∈ l, ∀ B, sameF x B = true ↔ x = B) → (samesF l l' = true ↔ l = l') := by
      intro l
      induction l with
      | nil => intro l' _; cases l' <;> simp [samesF]
      | cons x l ih2 =>
        intro l' hx
        cases l' with
        | nil => simp [samesF]
        | cons y l' =>
          rw [samesF, Bool.and_eq_true, hx x (by simp), ih2 l' (fun z hz => hx z (by simp [hz]))]
          simp
    intro B
    cases B with
    | nil => simp [sameF]
    | node k' n' nm' mk' l' =>
      rw [sameF]
      simp only [Bool.and_eq_true, decide_eq_true_eq, kids l l' ih, Tree.node.injEq, and_assoc]

set_option maxHeartbeats 8000000 in
set_option maxRecDepth 10000 in
theorem rSame_ok (A : Tree) : ∀ B, Pure P 32 [.d (.tree A), .d (.tree B)] (.d (.bool (sameF A B))) := by
  induction A using Tree.ind' with
  | h0 => ?_
  | h1 A hA ih => ?_
  · intro B
    refine Pure.of_body tt [] [4] Try.func32 rfl rfl rfl (Nat.le_of_ble_eq_true rfl) fun g => ?_
    repeat' first
      | (refine then_go hm htt ?_; conv => whnf)
      | (refine Side.mk (by first | assumption | exact trivial | rfl | exact Nat.le_of_ble_eq_true rfl | omega) ?_; conv => whnf)
      | (refine Hyp.mk fun hlen => ?_; replace hlen : _ ≤ 17592186044416 := hlen; conv => whnf)
      | (refine Split.ct ?_; conv => whnf)
      | (refine Split.cf ?_; conv => whnf)
      | (refine Split.of_true (by first | rfl | assumption | ((try simp only [bytes_eq, bytes_ne, empty_bytes, bytes_bne, bytes_bne']); (try simp only [decide_eq_true_eq, decide_eq_false_iff_not, beq_iff_eq, beq_eq_false_iff_ne, bne_iff_ne, bne_eq_false_iff_eq, Bool.not_eq_true', Bool.not_eq_false', Tree.isNil_iff, Tree.isNil_not, Int.not_lt, Int.not_le, gt_iff_lt, ge_iff_le, ne_eq, Decidable.not_not, Int.toNat_natCast, Int.toNat_zero, Int.toNat_one]); first | assumption | omega)) ?_; conv => whnf)
      | (refine Split.of_false (by first | rfl | assumption | ((try simp only [bytes_eq, bytes_ne, empty_bytes, bytes_bne, bytes_bne']); (try simp only [decide_eq_true_eq, decide_eq_false_iff_not, beq_iff_eq, beq_eq_false_iff_ne, bne_iff_ne, bne_eq_false_iff_eq, Bool.not_eq_true', Bool.not_eq_false', Tree.isNil_iff, Tree.isNil_not, Int.not_lt, Int.not_le, gt_iff_lt, ge_iff_le, ne_eq, Decidable.not_not, Int.toNat_natCast, Int.toNat_zero, Int.toNat_one]); first | assumption | omega)) ?_; conv => whnf)
      | (refine Indep.mk (by kernel_rfl) ?_; conv => whnf)
      | (refine Split.mk (fun hc => ?_) (fun hc => ?_) <;> (try simp only [bytes_eq, bytes_ne, empty_bytes, bytes_bne, bytes_bne'] at hc) <;> (try simp only [decide_eq_true_eq, decide_eq_false_iff_not, beq_iff_eq, beq_eq_false_iff_ne, bne_iff_ne, bne_eq_false_iff_eq, Bool.not_eq_true', Bool.not_eq_false', Tree.isNil_iff, Tree.isNil_not, Int.not_lt, Int.not_le, gt_iff_lt, ge_iff_le, ne_eq, Decidable.not_not, Int.toNat_natCast, Int.toNat_zero, Int.toNat_one] at hc) <;> conv => whnf)
    all_goals refine ret_closed rfl (bool_eq ?_) rfl
    all_goals (rw [sameF_nil _ _ (.inl rfl)]; cases B <;> rfl)
  · intro B
    refine Pure.of_body tt [] [4] Try.func32 rfl rfl rfl (Nat.le_of_ble_eq_true rfl) fun g => ?_
    by_cases hB : B = .nil
    · subst hB
      repeat' first
        | (refine then_go hm htt ?_; conv => whnf)
        | (refine Side.mk (by first | assumption | exact trivial | rfl | exact Nat.le_of_ble_eq_true rfl | omega) ?_; conv => whnf)
        | (refine Hyp.mk fun hlen => ?_; replace hlen : _ ≤ 17592186044416 := hlen; conv => whnf)
        | (refine Split.ct ?_; conv => whnf)
        | (refine Split.cf ?_; conv => whnf)
        | (refine Split.of_true (by first | rfl | assumption | ((try simp only [bytes_eq, bytes_ne, empty_bytes, bytes_bne, bytes_bne']); (try simp only [decide_eq_true_eq, decide_eq_false_iff_not, beq_iff_eq, beq_eq_false_iff_ne, bne_iff_ne, bne_eq_false_iff_eq, Bool.not_eq_true', Bool.not_eq_false', Tree.isNil_iff, Tree.isNil_not, Int.not_lt, Int.not_le, gt_iff_lt, ge_iff_le, ne_eq, Decidable.not_not, Int.toNat_natCast, Int.toNat_zero, Int.toNat_one]); first | assumption | omega)) ?_; conv => whnf)
        | (refine Split.of_false (by first | rfl | assumption | ((try simp only [bytes_eq, bytes_ne, empty_bytes, bytes_bne, bytes_bne']); (try simp only [decide_eq_true_eq, decide_eq_false_iff_not, beq_iff_eq, beq_eq_false_iff_ne, bne_iff_ne, bne_eq_false_iff_eq, Bool.not_eq_true', Bool.not_eq_false', Tree.isNil_iff, Tree.isNil_not, Int.not_lt, Int.not_le, gt_iff_lt, ge_iff_le, ne_eq, Decidable.not_not, Int.toNat_natCast, Int.toNat_zero, Int.toNat_one]); first | assumption | omega)) ?_; conv => whnf)
        | (refine Indep.mk (by kernel_rfl) ?_; conv => whnf)
        | (refine Split.mk (fun hc => ?_) (fun hc => ?_) <;> (try simp only [bytes_eq, bytes_ne, empty_bytes, bytes_bne, bytes_bne'] at hc) <;> (try simp only [decide_eq_true_eq, decide_eq_false_iff_not, beq_iff_eq, beq_eq_false_iff_ne, bne_iff_ne, bne_eq_false_iff_eq, Bool.not_eq_true', Bool.not_eq_false', Tree.isNil_iff, Tree.isNil_not, Int.not_lt, Int.not_le, gt_iff_lt, ge_iff_le, ne_eq, Decidable.not_not, Int.toNat_natCast, Int.toNat_zero, Int.toNat_one] at hc) <;> conv => whnf)
      all_goals refine ret_closed rfl (bool_eq ?_) rfl
      all_goals (rw [sameF_nil _ _ (.inr rfl)]; cases A <;> simp_all [Tree.isNil])
    · repeat' first
        | (refine then_go hm htt ?_; conv => whnf)
        | (refine Side.mk (by first | assumption | exact trivial | rfl | exact Nat.le_of_ble_eq_true rfl | omega) ?_; conv => whnf)
        | (refine Hyp.mk fun hlen => ?_; replace hlen : _ ≤ 17592186044416 := hlen; conv => whnf)
        | (refine Split.ct ?_; conv => whnf)
        | (refine Split.cf ?_; conv => whnf)
        | (refine Split.of_true (by first | rfl | assumption | ((try simp only [bytes_eq, bytes_ne, empty_bytes, bytes_bne, bytes_bne']); (try simp only [decide_eq_true_eq, decide_eq_false_iff_not, beq_iff_eq, beq_eq_false_iff_ne, bne_iff_ne, bne_eq_false_iff_eq, Bool.not_eq_true', Bool.not_eq_false', Tree.isNil_iff, Tree.isNil_not, Int.not_lt, Int.not_le, gt_iff_lt, ge_iff_le, ne_eq, Decidable.not_not, Int.toNat_natCast, Int.toNat_zero, Int.toNat_one]); first | assumption | omega)) ?_; conv => whnf)
        | (refine Split.of_false (by first | rfl | assumption | ((try simp only [bytes_eq, bytes_ne, empty_bytes, bytes_bne, bytes_bne']); (try simp only [decide_eq_true_eq, decide_eq_false_iff_not, beq_iff_eq, beq_eq_false_iff_ne, bne_iff_ne, bne_eq_false_iff_eq, Bool.not_eq_true', Bool.not_eq_false', Tree.isNil_iff, Tree.isNil_not, Int.not_lt, Int.not_le, gt_iff_lt, ge_iff_le, ne_eq, Decidable.not_not, Int.toNat_natCast, Int.toNat_zero, Int.toNat_one]); first | assumption | omega)) ?_; conv => whnf)
        | (refine Indep.mk (by kernel_rfl) ?_; conv => whnf)
        | (refine Split.mk (fun hc => ?_) (fun hc => ?_) <;> (try simp only [bytes_eq, bytes_ne, empty_bytes, bytes_bne, bytes_bne'] at hc) <;> (try simp only [decide_eq_true_eq, decide_eq_false_iff_not, beq_iff_eq, beq_eq_false_iff_ne, bne_iff_ne, bne_eq_false_iff_eq, Bool.not_eq_true', Bool.not_eq_false', Tree.isNil_iff, Tree.isNil_not, Int.not_lt, Int.not_le, gt_iff_lt, ge_iff_le, ne_eq, Decidable.not_not, Int.toNat_natCast, Int.toNat_zero, Int.toNat_one] at hc) <;> conv => whnf)
      all_goals try (exfalso; exact hB (by assumption))
      · refine ret_closed rfl (bool_eq ?_) rfl
        rw [sameF_eq hA hB]; simp_all
      · refine ret_closed rfl (bool_eq ?_) rfl
        rw [sameF_eq hA hB]; simp_all
      · refine ret_closed rfl (bool_eq ?_) rfl
        rw [sameF_eq hA hB]; simp_all
      · refine ret_closed rfl (bool_eq ?_) rfl
        rw [sameF_eq hA hB]; simp_all
      · refine ret_closed rfl (bool_eq ?_) rfl
        have hs : samesF A.kids B.kids = false := by
          cases hq : samesF A.kids B.kids with
          | false => rfl
          | true => have := samesF_len _ _ hq; omega
        rw [sameF_eq hA hB, hs, Bool.and_false]
      · have e : sameF A B = samesF A.kids B.kids := by rw [sameF_eq hA hB]; simp_all
        refine loop_go (α := Nat) (fun p => ⟨[(0, .d (.tree A)), (1, .d (.tree B)), (5, .d (.int .i64 p))], 98, [], 0, g⟩) (fun p => p ≤ A.kids.length ∧ samesF (A.kids.drop p) (B.kids.drop p) = samesF A.kids B.kids) (fun p => A.kids.length - p) 0 ⟨by omega, rfl⟩
          (Ent.re [] rfl rfl rfl rfl rfl rfl (by repeat' first | exact trivial | apply And.intro | rfl | (refine int_eq ?_; rw [wrap64] <;> omega)) (by repeat' first | exact trivial | apply And.intro | rfl | (refine int_eq ?_; rw [wrap64] <;> omega))) (fun _ => rfl) fun p hpre => ?_
        obtain ⟨hp1, hp2⟩ := hpre
        repeat' first
          | (refine then_go hm htt ?_; conv => whnf)
          | (refine Side.mk (by first | assumption | exact trivial | rfl | exact Nat.le_of_ble_eq_true rfl | omega) ?_; conv => whnf)
          | (refine Hyp.mk fun hlen => ?_; replace hlen : _ ≤ 17592186044416 := hlen; conv => whnf)
          | (refine Split.ct ?_; conv => whnf)
          | (refine Split.cf ?_; conv => whnf)
          | (refine Split.of_true (by first | rfl | assumption | ((try simp only [bytes_eq, bytes_ne, empty_bytes, bytes_bne, bytes_bne']); (try simp only [decide_eq_true_eq, decide_eq_false_iff_not, beq_iff_eq, beq_eq_false_iff_ne, bne_iff_ne, bne_eq_false_iff_eq, Bool.not_eq_true', Bool.not_eq_false', Tree.isNil_iff, Tree.isNil_not, Int.not_lt, Int.not_le, gt_iff_lt, ge_iff_le, ne_eq, Decidable.not_not, Int.toNat_natCast, Int.toNat_zero, Int.toNat_one]); first | assumption | omega)) ?_; conv => whnf)
          | (refine Split.of_false (by first | rfl | assumption | ((try simp only [bytes_eq, bytes_ne, empty_bytes, bytes_bne, bytes_bne']); (try simp only [decide_eq_true_eq, decide_eq_false_iff_not, beq_iff_eq, beq_eq_false_iff_ne, bne_iff_ne, bne_eq_false_iff_eq, Bool.not_eq_true', Bool.not_eq_false', Tree.isNil_iff, Tree.isNil_not, Int.not_lt, Int.not_le, gt_iff_lt, ge_iff_le, ne_eq, Decidable.not_not, Int.toNat_natCast, Int.toNat_zero, Int.toNat_one]); first | assumption | omega)) ?_; conv => whnf)
          | (refine Indep.mk (by kernel_rfl) ?_; conv => whnf)
          | (refine CallG.pure (ih (A.kids.getD p .nil) (getD_mem (by omega)) (B.kids.getD p .nil)) rfl ?_; conv => whnf)
          | (refine Split.mk (fun hc => ?_) (fun hc => ?_) <;> (try simp only [bytes_eq, bytes_ne, empty_bytes, bytes_bne, bytes_bne'] at hc) <;> (try simp only [decide_eq_true_eq, decide_eq_false_iff_not, beq_iff_eq, beq_eq_false_iff_ne, bne_iff_ne, bne_eq_false_iff_eq, Bool.not_eq_true', Bool.not_eq_false', Tree.isNil_iff, Tree.isNil_not, Int.not_lt, Int.not_le, gt_iff_lt, ge_iff_le, ne_eq, Decidable.not_not, Int.toNat_natCast, Int.toNat_zero, Int.toNat_one] at hc) <;> conv => whnf)
        · refine ret_closed rfl (bool_eq ?_) rfl
          rw [drop_step (l := A.kids) (by omega), drop_step (l := B.kids) (by omega), samesF, hc] at hp2
          rw [e, ← hp2]; rfl
        · rw [drop_step (l := A.kids) (by omega), drop_step (l := B.kids) (by omega), samesF, hc, Bool.true_and] at hp2
          exact ⟨p + 1, ⟨by omega, hp2⟩, by omega, Ent.re [] rfl rfl rfl rfl rfl rfl (by repeat' first | exact trivial | apply And.intro | rfl | (refine int_eq ?_; rw [wrap64] <;> omega)) (by repeat' first | exact trivial | apply And.intro | rfl | (refine int_eq ?_; rw [wrap64] <;> omega))⟩
        · refine ret_closed rfl (bool_eq ?_) rfl
          rw [drop_end (l := A.kids) (by omega), drop_end (l := B.kids) (by omega), samesF] at hp2
          rw [e, ← hp2]
end Go.Proofs.Ytfblaochmhhknaa

namespace Go.Proofs.Ytfblaochmhhknaa
open Go Go.Mq
set_option linter.all false

/-! What is a constructor or a kind has no marks, and its variables are bare -/
inductive Plain : Tree → Prop
  | node {k n : Int} {nm mk : ByteArray} {l : List Tree} (hm : mk = ByteArray.empty) (hv : k = 110 → nm = ByteArray.empty ∧ l = [] ∧ 0 ≤ n ∧ n ≤ 65536) (h : ∀ x ∈ l, Plain x) : Plain (.node k n nm mk l)
theorem Plain.of {T : Tree} (hT : T ≠ .nil) (hm : T.mark = ByteArray.empty) (hv : T.kind = 110 → T.name = ByteArray.empty ∧ T.kids = [] ∧ 0 ≤ T.n ∧ T.n ≤ 65536) (hk : ∀ x ∈ T.kids, Plain x) : Plain T := by
  cases T with
  | nil => exact absurd rfl hT
  | node => exact .node hm hv hk
theorem Plain.inv {k n : Int} {nm mk : ByteArray} {l : List Tree} (h : Plain (.node k n nm mk l)) : mk = ByteArray.empty ∧ (k = 110 → nm = ByteArray.empty ∧ l = [] ∧ 0 ≤ n ∧ n ≤ 65536) ∧ ∀ x ∈ l, Plain x := by
  cases h with
  | node hm hv h => exact ⟨hm, hv, h⟩
theorem Plain.full {T : Tree} (h : Plain T) : Full T := by
  induction T using Tree.ind with
  | h0 => cases h
  | h1 k n nm mk l ih => exact .node fun x hx => ih x hx (h.inv.2.2 x hx)

theorem bareF_mark {T : Tree} {a b : Bool} (h : bareF T a b = true) : T.mark = ByteArray.empty := by
  unfold bareF at h; simp only [Bool.and_eq_true, decide_eq_true_eq] at h; exact h.1.1
theorem mem_two {l : List Tree} (h : l.length = 2) {x : Tree} (hx : x ∈ l) : x = l.getD 0 .nil ∨ x = l.getD 1 .nil := by
  match l, h with
  | [a, b], _ => simpa using hx
theorem mem_one {l : List Tree} (h : l.length = 1) {x : Tree} (hx : x ∈ l) : x = l.getD 0 .nil := by
  match l, h with
  | [a], _ => simpa using hx

theorem isKindF_plain (T : Tree) : isKindF T = true → Plain T := by
  induction T using Tree.ind' with
  | h0 => intro h; rw [isKindF] at h; cases h
  | h1 T hT ih =>
    intro h
    rw [isKindF_eq hT] at h
    split at h
    · rename_i hk
      rw [Bool.and_eq_true] at h
      have hl : T.kids = [] := by have := h.2; rw [beq_iff_eq] at this; exact List.length_eq_zero_iff.1 (by omega)
      exact .of hT (bareF_mark h.1) (fun e => by omega) (fun x hx => by rw [hl] at hx; cases hx)
    · split at h
      · rename_i hk
        simp only [Bool.and_eq_true, beq_iff_eq] at h
        obtain ⟨⟨⟨h1, h2⟩, h3⟩, h4⟩ := h
        refine .of hT (bareF_mark h1) (fun e => by omega) (fun x hx => ?_)
        have h2' : T.kids.length = 2 := by omega
        rcases mem_two h2' hx with e | e
        · exact ih x hx (by rw [e]; exact h3)
        · exact ih x hx (by rw [e]; exact h4)
      · cases h

theorem fieldsF_mem {kind : Int} : ∀ {l : List Tree}, fieldsF kind l = true → ∀ x ∈ l, fieldF kind x = true
  | [], _, x, hx => by cases hx
  | y :: l, h, x, hx => by
    rw [fieldsF, Bool.and_eq_true] at h
    rcases List.mem_cons.1 hx with rfl | hx
    · exact h.1
    · exact fieldsF_mem h.2 x hx

theorem fieldF_plain {kind : Int} {x : Tree} (hk : kind ≠ 110) (h : fieldF kind x = true) (ih : ∀ y ∈ x.kids, isConF y = true → Plain y) : Plain x := by
  have hx : x ≠ .nil := by intro e; subst e; rw [fieldF] at h; cases h
  rw [fieldF_eq hx] at h
  simp only [Bool.and_eq_true, beq_iff_eq] at h
  obtain ⟨⟨⟨⟨h1, h2⟩, h3⟩, h4⟩, h5⟩ := h
  refine .of hx (bareF_mark h2) (fun e => by omega) (fun y hy => ?_)
  have h4' : x.kids.length = 1 := by omega
  have e := mem_one h4' hy
  exact ih y hy (by rw [e]; exact h5)

theorem isConF_plain (T : Tree) : isConF T = true → Plain T := by
  suffices h : (isConF T = true → Plain T) ∧ ∀ x ∈ T.kids, isConF x = true → Plain x from h.1
  induction T using Tree.ind' with
  | h0 => exact ⟨fun h => (by rw [isConF] at h; cases h), fun x hx => (by cases hx)⟩
  | h1 T hT ih =>
    refine ⟨fun h => ?_, fun x hx => (ih x hx).1⟩
    rw [isConF_eq hT, Bool.and_eq_true] at h
    obtain ⟨hb, h⟩ := h
    have hm := bareF_mark hb
    split at h
    · rename_i hk
      simp only [Bool.and_eq_true, beq_iff_eq, decide_eq_true_eq] at h
      have hl : T.kids = [] := List.length_eq_zero_iff.1 (by omega)
      have hn : T.name = ByteArray.empty := by
        unfold bareF at hb; simp only [Bool.and_eq_true, Bool.false_or, decide_eq_true_eq] at hb; exact hb.1.2
      exact .of hT hm (fun _ => ⟨hn, hl, h.1.1, h.1.2⟩) (fun x hx => by rw [hl] at hx; cases hx)
    rename_i hv
    refine .of hT hm (fun e => absurd e hv) (fun x hx => ?_)
    split at h
    · rw [beq_iff_eq] at h
      have hl : T.kids = [] := List.length_eq_zero_iff.1 (by omega)
      rw [hl] at hx; cases hx
    split at h
    · simp only [Bool.and_eq_true, beq_iff_eq] at h
      have h2' : T.kids.length = 2 := by omega
      rcases mem_two h2' hx with e | e
      · exact (ih x hx).1 (by rw [e]; exact h.1.2)
      · exact (ih x hx).1 (by rw [e]; exact h.2)
    split at h
    · simp only [Bool.and_eq_true] at h
      exact fieldF_plain (by decide) (fieldsF_mem h.1 x hx) (ih x hx).2
    split at h
    · simp only [Bool.and_eq_true, beq_iff_eq] at h
      have h2' : T.kids.length = 2 := by omega
      rcases mem_two h2' hx with e | e
      · exact isKindF_plain x (by rw [e]; exact h.1.2)
      · exact (ih x hx).1 (by rw [e]; exact h.2)
    split at h
    · simp only [Bool.and_eq_true] at h
      exact fieldF_plain (by decide) (fieldsF_mem h.1.2 x hx) (ih x hx).2
    · cases h

/-! How large a tree is -/
mutual
def sizeN : Tree → Nat
  | .nil => 0
  | .node _ _ _ _ l => 1 + sizesN l
def sizesN : List Tree → Nat
  | [] => 0
  | x :: l => sizeN x + sizesN l
end
theorem sizeN_kids {T : Tree} (h : T ≠ .nil) : sizeN T = 1 + sizesN T.kids := by
  cases T with
  | nil => exact absurd rfl h
  | node => rw [sizeN]; rfl
theorem sizesN_mem : ∀ {l : List Tree} {x : Tree}, x ∈ l → sizeN x ≤ sizesN l
  | [], x, hx => by cases hx
  | y :: l, x, hx => by
    rw [sizesN]
    rcases List.mem_cons.1 hx with rfl | hx
    · omega
    · have := sizesN_mem hx; omega

theorem wholeF_size (T : Tree) : ∀ left : Int, 0 ≤ left → (wholeF left T).1 = 0 → (wholeF left T).2 = left - sizeN T ∧ (sizeN T : Int) ≤ left := by
  induction T using Tree.ind' with
  | h0 => intro left _ h; rw [wholeF] at h; simp at h
  | h1 T hT ih =>
    have kids : ∀ (l : List Tree), (∀ x ∈ l, ∀ left : Int, 0 ≤ left → (wholeF left x).1 = 0 → (wholeF left x).2 = left - sizeN x ∧ (sizeN x : Int) ≤ left) → ∀ left : Int, 0 ≤ left → (wholesF left l).1 = 0 → (wholesF left l).2 = left - sizesN l ∧ (sizesN l : Int) ≤ left := by
      intro l
      induction l with
      | nil => intro _ left h0 h; rw [wholesF, sizesN]; exact ⟨by simp, by simpa using h0⟩
      | cons x l ih2 =>
        intro hx left h0 h
        rw [wholesF] at h ⊢
        split at h
        · rename_i hc
          rw [if_pos hc]
          obtain ⟨e1, e2⟩ := hx x (by simp) left h0 hc
          obtain ⟨e3, e4⟩ := ih2 (fun y hy => hx y (by simp [hy])) _ (by rw [e1]; omega) h
          rw [e1] at e3 e4
          rw [e1]
          rw [sizesN]
          constructor
          · rw [e3]; push_cast; omega
          · push_cast; omega
        · exact absurd h ‹_›
    intro left h0 h
    rw [wholeF_kids hT] at h ⊢
    split at h
    · simp at h
    · rename_i hc
      rw [if_neg hc]
      obtain ⟨e1, e2⟩ := kids T.kids ih (left - 1) (by omega) h
      rw [sizeN_kids hT]
      constructor
      · rw [e1]; push_cast; omega
      · push_cast; omega

theorem conE_size {T : Tree} (h : conE T = 0) : sizeN T ≤ 65536 := by
  unfold conE checkF at h
  split at h
  · have := (wholeF_size T 65536 (by omega) ‹_›).2; omega
  · exact absurd h ‹_›
theorem conE_plain {T : Tree} (h : conE T = 0) : Plain T := isConF_plain T (conE_full h).2

/-! Shift -/
theorem shift_false (frm b : Int) (T : Tree) : ∀ deep, (walkF (shiftStep frm b) T deep false).2 = false := by
  induction T using Tree.ind' with
  | h0 => intro deep; rw [walkF]
  | h1 T hT ih =>
    have kids : ∀ (l : List Tree), (∀ x ∈ l, ∀ deep, (walkF (shiftStep frm b) x deep false).2 = false) → ∀ deep, (walksF (shiftStep frm b) l deep false).2 = false := by
      intro l
      induction l with
      | nil => intro _ deep; rw [walksF]
      | cons x l ih2 =>
        intro hx deep
        rw [walksF]
        simp only []
        rw [hx x (by simp) deep]
        exact ih2 (fun y hy => hx y (by simp [hy])) deep
    intro deep
    rw [walkF_eq _ hT]
    split
    · unfold shiftStep
      split
      · rfl
      · split
        · rfl
        · simp
    · split
      · rfl
      · exact kids T.kids ih _

theorem mHit_node {frm k n deep : Int} {nm mk : ByteArray} {l : List Tree} : mHit frm (.node k n nm mk l) deep ↔ k = 110 ∧ deep ≤ n ∧ frm ≤ IntKind.i64.wrap (n - deep) := Iff.rfl
theorem mBad_node {b k n deep : Int} {nm mk : ByteArray} {l : List Tree} : mBad b (.node k n nm mk l) deep ↔ b < IntKind.i64.wrap (deep - n) ∨ IntKind.i64.wrap (65536 - n) < b := Iff.rfl
theorem shiftStep_node {frm b k n deep : Int} {nm mk : ByteArray} {l : List Tree} {ok : Bool} : shiftStep frm b (.node k n nm mk l) deep ok = if n < deep then (.node k n nm mk l, ok)
  else if IntKind.i64.wrap (n - deep) < frm then (.node k n nm mk l, ok)
  else if (ok && decide (IntKind.i64.wrap (deep - n) ≤ b) && decide (b ≤ IntKind.i64.wrap (65536 - n))) = true then (.node 110 (IntKind.i64.wrap (n + b)) ByteArray.empty ByteArray.empty [], true) else (.node k n nm mk l, false) := rfl
theorem shift_plain (frm b : Int) (T : Tree) : ∀ deep, Plain T → (∀ x, rmovedF b frm T deep = some x → walkF (shiftStep frm b) T deep true = (x, true)) ∧ (rmovedF b frm T deep = none → (walkF (shiftStep frm b) T deep true).2 = false) := by
  induction T using Tree.ind with
  | h0 => intro deep h; cases h
  | h1 k n nm mk l ih =>
    have kids : ∀ (l : List Tree), (∀ x ∈ l, ∀ deep, Plain x → (∀ y, rmovedF b frm x deep = some y → walkF (shiftStep frm b) x deep true = (y, true)) ∧ (rmovedF b frm x deep = none → (walkF (shiftStep frm b) x deep true).2 = false)) → (∀ x ∈ l, Plain x) → ∀ deep,
        (∀ ys, rmovedsF b frm l deep = some ys → walksF (shiftStep frm b) l deep true = (ys, true)) ∧ (rmovedsF b frm l deep = none → (walksF (shiftStep frm b) l deep true).2 = false) := by
      intro l
      induction l with
      | nil =>
        intro _ _ deep
        refine ⟨fun ys h => ?_, fun h => ?_⟩
        · rw [rmovedsF] at h; cases h; rw [walksF]
        · rw [rmovedsF] at h; cases h
      | cons x l ih2 =>
        intro hx hp deep
        obtain ⟨a1, a2⟩ := hx x (by simp) deep (hp x (by simp))
        obtain ⟨b1, b2⟩ := ih2 (fun y hy => hx y (by simp [hy])) (fun y hy => hp y (by simp [hy])) deep
        rw [rmovedsF, walksF]
        have sf : (walksF (shiftStep frm b) l deep false).2 = false := by
          have : ∀ (l : List Tree) deep, (walksF (shiftStep frm b) l deep false).2 = false := by
            intro l
            induction l with
            | nil => intro deep; rw [walksF]
            | cons x l ih3 => intro deep; rw [walksF]; simp only []; rw [shift_false]; exact ih3 deep
          exact this l deep
        cases hq : rmovedF b frm x deep with
        | none =>
          refine ⟨fun ys h => (by simp at h), fun _ => ?_⟩
          simp only []
          rw [a2 hq]; exact sf
        | some x' =>
          rw [a1 x' hq]
          simp only []
          refine ⟨fun ys h => ?_, fun h => ?_⟩
          · cases hr : rmovedsF b frm l deep with
            | none => rw [hr] at h; cases h
            | some ys' =>
              rw [hr] at h
              simp only [Option.map_some, Option.some.injEq] at h
              rw [b1 ys' hr, ← h]
          · cases hr : rmovedsF b frm l deep with
            | none => exact b2 hr
            | some ys' => rw [hr] at h; cases h
    intro deep hp
    obtain ⟨hm, hv, hk⟩ := hp.inv
    subst hm
    by_cases h1 : k = 110
    · subst h1
      obtain ⟨rfl, rfl, hn0, hn1⟩ := hv rfl
      rw [walkF, if_pos rfl, rmovedF, rmovedsF]
      rw [shiftStep_node, Bool.true_and, Option.map_some, Option.map_some]
      by_cases c1 : n < deep
      · rw [if_pos c1, if_neg (mt mHit_node.1 (by omega))]
        exact ⟨fun x h => (by cases h; rfl), fun h => by cases h⟩
      · rw [if_neg c1]
        by_cases c2 : IntKind.i64.wrap (n - deep) < frm
        · rw [if_pos c2, if_neg (mt mHit_node.1 (by omega))]
          exact ⟨fun x h => (by cases h; rfl), fun h => by cases h⟩
        · rw [if_neg c2, if_pos (mHit_node.2 ⟨rfl, by omega, by omega⟩)]
          by_cases c3 : b < IntKind.i64.wrap (deep - n) ∨ IntKind.i64.wrap (65536 - n) < b
          · rw [if_pos (mBad_node.2 c3)]
            refine ⟨fun x h => (by cases h), fun _ => ?_⟩
            rw [if_neg]
            rw [Bool.and_eq_true, decide_eq_true_eq, decide_eq_true_eq]; omega
          · rw [if_neg (mt mBad_node.1 c3)]
            refine ⟨fun x h => ?_, fun h => (by cases h)⟩
            cases h
            rw [if_pos]
            rw [Bool.and_eq_true, decide_eq_true_eq, decide_eq_true_eq]; omega
    · have hmh : ¬ mHit frm (.node k n nm ByteArray.empty l) deep := mt mHit_node.1 (by omega)
      rw [walkF, if_neg h1, rmovedF, if_neg hmh]
      by_cases hl : l.length = 0
      · have : l = [] := List.length_eq_zero_iff.1 hl
        subst this
        rw [if_pos (show ([] : List Tree).length = 0 from rfl), rmovedsF]
        exact ⟨fun x h => (by cases h; rfl), fun h => by cases h⟩
      · rw [if_neg hl]
        obtain ⟨a1, a2⟩ := kids l ih hk (IntKind.i64.wrap (deep + bindsF (.node k n nm ByteArray.empty l)))
        cases hr : rmovedsF b frm l (IntKind.i64.wrap (deep + bindsF (.node k n nm ByteArray.empty l))) with
        | none => exact ⟨fun x h => (by cases h), fun _ => a2 hr⟩
        | some ys =>
          refine ⟨fun x h => ?_, fun h => by cases h⟩
          simp only [Option.map_some, Option.some.injEq] at h
          rw [a1 ys hr, ← h]

theorem shiftR_eq (T : Tree) (b frm : Int) : shiftR T b frm = rshiftR T b frm := by
  unfold shiftR rshiftR
  by_cases h : conE T = 0
  · rw [if_pos h, if_pos h]
    by_cases hf : frm < 0
    · rw [if_pos hf, decide_eq_false (by omega), shift_false]; rfl
    · rw [if_neg hf, decide_eq_true (by omega)]
      obtain ⟨a1, a2⟩ := shift_plain frm b T 0 (conE_plain h)
      cases hr : rmovedF b frm T 0 with
      | none => rw [a2 hr]; rfl
      | some x => rw [a1 x hr]; rfl
  · rw [if_neg h, if_neg h]
end Go.Proofs.Ytfblaochmhhknaa

namespace Go.Proofs.Ytfblaochmhhknaa
open Go Go.Mq
set_option linter.all false

theorem bindsF_b (T : Tree) : 0 ≤ bindsF T ∧ bindsF T ≤ 1 := by
  unfold bindsF; repeat' split
  all_goals omega

/-! Free -/
theorem max_if (m r : Int) : (if m < r then r else m) = max m r := by
  rw [Int.max_def]; split <;> split <;> omega

theorem free_plain (T : Tree) : ∀ deep s : Int, Plain T → 0 ≤ deep → deep + sizeN T ≤ 1099511627776 → 0 ≤ s → (walkF freeStep T deep s).2 = max s (rfreeF T deep) ∧ 0 ≤ rfreeF T deep := by
  induction T using Tree.ind with
  | h0 => intro deep s h; cases h
  | h1 k n nm mk l ih =>
    have kids : ∀ (l : List Tree), (∀ x ∈ l, ∀ deep s : Int, Plain x → 0 ≤ deep → deep + sizeN x ≤ 1099511627776 → 0 ≤ s → (walkF freeStep x deep s).2 = max s (rfreeF x deep) ∧ 0 ≤ rfreeF x deep) → (∀ x ∈ l, Plain x) → ∀ deep s m : Int, 0 ≤ deep → deep + sizesN l ≤ 1099511627776 → 0 ≤ s → 0 ≤ m →
        (walksF freeStep l deep (max s m)).2 = max s (rfreesF m l deep) ∧ 0 ≤ rfreesF m l deep := by
      intro l
      induction l with
      | nil => intro _ _ deep s m _ _ _ hm; rw [walksF, rfreesF]; exact ⟨rfl, hm⟩
      | cons x l ih2 =>
        intro hx hp deep s m h0 h1 h2 h3
        rw [sizesN] at h1
        push_cast at h1
        obtain ⟨e1, e2⟩ := hx x (by simp) deep (max s m) (hp x (by simp)) h0 (by omega) (by omega)
        rw [walksF, rfreesF, max_if]
        simp only []
        rw [e1, Int.max_assoc]
        exact ih2 (fun y hy => hx y (by simp [hy])) (fun y hy => hp y (by simp [hy])) deep s _ h0 (by omega) h2 (by omega)
    intro deep s hp h0 h1 h2
    obtain ⟨hm, hv, hk⟩ := hp.inv
    subst hm
    rw [sizeN] at h1
    push_cast at h1
    by_cases hk1 : k = 110
    · subst hk1
      obtain ⟨rfl, rfl, hn0, hn1⟩ := hv rfl
      rw [walkF, if_pos rfl, rfreeF, rfreesF]
      have w1 : IntKind.i64.wrap (n - deep) = n - deep := wrap64 (by omega) (by omega)
      have w2 : IntKind.i64.wrap (n - deep + 1) = n - deep + 1 := wrap64 (by omega) (by omega)
      have e : freeStep (.node 110 n ByteArray.empty ByteArray.empty []) deep s = (.node 110 n ByteArray.empty ByteArray.empty [], if IntKind.i64.wrap (IntKind.i64.wrap (n - deep) + 1) > s then IntKind.i64.wrap (IntKind.i64.wrap (n - deep) + 1) else s) := rfl
      rw [e, w1, w2]
      by_cases c1 : deep ≤ n
      · rw [if_pos (show (110 : Int) = 110 ∧ deep ≤ n from And.intro rfl c1), Int.max_def]
        dsimp only
        constructor
        · repeat' split
          all_goals omega
        · omega
      · rw [if_neg (show ¬ ((110 : Int) = 110 ∧ deep ≤ n) from fun h => c1 h.2), Int.max_def]
        dsimp only
        constructor
        · repeat' split
          all_goals omega
        · omega
    · rw [walkF, if_neg hk1, rfreeF, if_neg (show ¬ (k = 110 ∧ deep ≤ n) from fun h => hk1 h.1)]
      have hb := bindsF_b (.node k n nm ByteArray.empty l)
      have w1 : IntKind.i64.wrap (deep + bindsF (.node k n nm ByteArray.empty l)) = deep + bindsF (.node k n nm ByteArray.empty l) := wrap64 (by omega) (by omega)
      rw [w1]
      by_cases hl : l.length = 0
      · have : l = [] := List.length_eq_zero_iff.1 hl
        subst this
        rw [if_pos (show ([] : List Tree).length = 0 from rfl), rfreesF]
        exact ⟨by simp only []; omega, by omega⟩
      · rw [if_neg hl]
        have := kids l ih hk (deep + bindsF (.node k n nm ByteArray.empty l)) s 0 (by omega) (by omega) h2 (by omega)
        rw [Int.max_eq_left h2] at this
        exact this

theorem freeR_eq (T : Tree) : freeR T = rfreeR T := by
  unfold freeR rfreeR
  by_cases h : conE T = 0
  · rw [if_pos h, if_pos h]
    have hs := conE_size h
    obtain ⟨e1, e2⟩ := free_plain T 0 0 (conE_plain h) (by omega) (by omega) (by omega)
    rw [e1]; omega
  · rw [if_neg h, if_neg h]

/-! Occurs -/
mutual
def hitsN (i : Int) : Tree → Int → Nat
  | .nil, _ => 0
  | .node k n nm mk l, deep => (if k = 110 ∧ deep ≤ n ∧ IntKind.i64.wrap (n - deep) = i then 1 else 0) + hitssN i l (IntKind.i64.wrap (deep + bindsF (.node k n nm mk l)))
def hitssN (i : Int) : List Tree → Int → Nat
  | [], _ => 0
  | x :: l, deep => hitsN i x deep + hitssN i l deep
end
theorem hitsN_le (i : Int) (T : Tree) : ∀ deep, hitsN i T deep ≤ sizeN T := by
  induction T using Tree.ind with
  | h0 => intro deep; rw [hitsN]; omega
  | h1 k n nm mk l ih =>
    have kids : ∀ (l : List Tree), (∀ x ∈ l, ∀ deep, hitsN i x deep ≤ sizeN x) → ∀ deep, hitssN i l deep ≤ sizesN l := by
      intro l
      induction l with
      | nil => intro _ deep; rw [hitssN]; omega
      | cons x l ih2 =>
        intro hx deep
        rw [hitssN, sizesN]
        have := hx x (by simp) deep
        have := ih2 (fun y hy => hx y (by simp [hy])) deep
        omega
    intro deep
    rw [hitsN, sizeN]
    have := kids l ih (IntKind.i64.wrap (deep + bindsF (.node k n nm mk l)))
    split <;> omega
theorem countF_hits (i : Int) (T : Tree) : ∀ deep, sizeN T ≤ 1099511627776 → countF i T deep = hitsN i T deep := by
  induction T using Tree.ind with
  | h0 => intro deep _; rw [countF, hitsN]; rfl
  | h1 k n nm mk l ih =>
    have kids : ∀ (l : List Tree), (∀ x ∈ l, ∀ deep, sizeN x ≤ 1099511627776 → countF i x deep = hitsN i x deep) → ∀ (c deep : Int), 0 ≤ c → c + sizesN l ≤ 1099511627776 → countsF i c l deep = c + hitssN i l deep := by
      intro l
      induction l with
      | nil => intro _ c deep _ _; rw [countsF, hitssN]; simp
      | cons x l ih2 =>
        intro hx c deep h0 h1
        rw [sizesN] at h1
        push_cast at h1
        have hl := hitsN_le i x deep
        rw [countsF, hitssN, hx x (by simp) deep (by omega), wrap64 (by omega) (by omega), ih2 (fun y hy => hx y (by simp [hy])) _ deep (by omega) (by omega)]
        push_cast; omega
    intro deep h
    rw [sizeN] at h
    rw [countF, hitsN, kids l ih _ _ (by split <;> omega) (by split <;> omega)]
    push_cast
    congr 1
    split <;> rfl

theorem occ_plain (i : Int) (T : Tree) : ∀ (deep : Int) (s : Bool), Plain T → (walkF (occStep i) T deep s).2 = (s || (decide (0 ≤ i) && decide (0 < hitsN i T deep))) := by
  induction T using Tree.ind with
  | h0 => intro deep s h; cases h
  | h1 k n nm mk l ih =>
    have kids : ∀ (l : List Tree), (∀ x ∈ l, ∀ (deep : Int) (s : Bool), Plain x → (walkF (occStep i) x deep s).2 = (s || (decide (0 ≤ i) && decide (0 < hitsN i x deep)))) → (∀ x ∈ l, Plain x) → ∀ (deep : Int) (s : Bool),
        (walksF (occStep i) l deep s).2 = (s || (decide (0 ≤ i) && decide (0 < hitssN i l deep))) := by
      intro l
      induction l with
      | nil => intro _ _ deep s; rw [walksF, hitssN]; simp
      | cons x l ih2 =>
        intro hx hp deep s
        rw [walksF, hitssN]
        simp only []
        rw [ih2 (fun y hy => hx y (by simp [hy])) (fun y hy => hp y (by simp [hy])), hx x (by simp) deep s (hp x (by simp))]
        have e : decide (0 < hitsN i x deep + hitssN i l deep) = (decide (0 < hitsN i x deep) || decide (0 < hitssN i l deep)) := by
          rw [← Bool.decide_or]; congr 1; apply propext; omega
        rw [e]
        cases s <;> cases decide (0 ≤ i) <;> cases decide (0 < hitsN i x deep) <;> simp
    intro deep s hp
    obtain ⟨hm, hv, hk⟩ := hp.inv
    subst hm
    by_cases hk1 : k = 110
    · subst hk1
      obtain ⟨rfl, rfl, hn0, hn1⟩ := hv rfl
      rw [walkF, if_pos rfl, hitsN, hitssN]
      have e : occStep i (.node 110 n ByteArray.empty ByteArray.empty []) deep s = (.node 110 n ByteArray.empty ByteArray.empty [], s || (decide (0 ≤ i) && decide (deep ≤ n) && decide (IntKind.i64.wrap (n - deep) = i))) := rfl
      rw [e]
      simp only [true_and]
      by_cases c1 : deep ≤ n <;> by_cases c2 : IntKind.i64.wrap (n - deep) = i <;> simp [c1, c2]
    · rw [walkF, if_neg hk1, hitsN, if_neg (show ¬ (k = 110 ∧ deep ≤ n ∧ IntKind.i64.wrap (n - deep) = i) from fun h => hk1 h.1), Nat.zero_add]
      by_cases hl : l.length = 0
      · have : l = [] := List.length_eq_zero_iff.1 hl
        subst this
        rw [if_pos (show ([] : List Tree).length = 0 from rfl), hitssN]; simp
      · rw [if_neg hl]
        exact kids l ih hk _ s

theorem occursR_eq (T : Tree) (i : Int) : occursR T i = roccursR T i := by
  unfold occursR roccursR
  by_cases h : conE T = 0
  · have hs := conE_size h
    rw [if_pos h, occ_plain i T 0 false (conE_plain h), countF_hits i T 0 (by omega), decide_eq_true h]
    simp
  · rw [if_neg h, decide_eq_false h]; rfl
end Go.Proofs.Ytfblaochmhhknaa
