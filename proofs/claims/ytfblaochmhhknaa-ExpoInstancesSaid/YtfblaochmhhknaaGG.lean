/- What functions of the program compute, and plain facts about it. -/
import Derived.Test.YtfblaochmhhknaaGC
import Derived.Test.YtfblaochmhhknaaGB
import Derived.Test.YtfblaochmhhknaaGF
set_option linter.all false
namespace Go.Proofs.Ytfblaochmhhknaa
open Go Go.Mq
set_option linter.all false

/-! sem: the forms of signatures -/
set_option maxRecDepth 10000 in
theorem swhole_ok (T : Tree) : ∀ (left : Int), 0 ≤ left → left ≤ 65536 → Fun P 104 [.d (.tree T), .ref 0 0] [(0, .cells [.d (.int .i64 left)])] 1 (.d (.int .i64 (wholeF left T).1)) [(0, .cells [.d (.int .i64 (wholeF left T).2)])] 1 := by
  induction T using Tree.ind' with
  | h0 => ?_
  | h1 T hT ih => ?_
  · intro left h1 h2
    refine Fun.of_body tt [] [4] Try.func104 rfl rfl rfl (Nat.le_of_ble_eq_true rfl) fun g => ?_
    repeat' first
      | (refine then_go hm htt ?_; conv => whnf)
      | (refine Side.mk (by first | assumption | exact trivial | rfl | exact Nat.le_of_ble_eq_true rfl | omega) ?_; conv => whnf)
      | (refine Hyp.mk fun hlen => ?_; replace hlen : _ ≤ 17592186044416 := hlen; conv => whnf)
      | (refine Split.ct ?_; conv => whnf)
      | (refine Split.cf ?_; conv => whnf)
      | (refine Split.of_true (by first | rfl | assumption | ((try simp only [bytes_eq, bytes_ne, empty_bytes, bytes_bne, bytes_bne']); (try simp only [decide_eq_true_eq, decide_eq_false_iff_not, beq_iff_eq, beq_eq_false_iff_ne, bne_iff_ne, bne_eq_false_iff_eq, Bool.not_eq_true', Bool.not_eq_false', Tree.isNil_iff, Tree.isNil_not, Int.not_lt, Int.not_le, gt_iff_lt, ge_iff_le, ne_eq, Decidable.not_not, Int.toNat_natCast, Int.toNat_zero, Int.toNat_one]); first | assumption | omega)) ?_; conv => whnf)
      | (refine Split.of_false (by first | rfl | assumption | ((try simp only [bytes_eq, bytes_ne, empty_bytes, bytes_bne, bytes_bne']); (try simp only [decide_eq_true_eq, decide_eq_false_iff_not, beq_iff_eq, beq_eq_false_iff_ne, bne_iff_ne, bne_eq_false_iff_eq, Bool.not_eq_true', Bool.not_eq_false', Tree.isNil_iff, Tree.isNil_not, Int.not_lt, Int.not_le, gt_iff_lt, ge_iff_le, ne_eq, Decidable.not_not, Int.toNat_natCast, Int.toNat_zero, Int.toNat_one]); first | assumption | omega)) ?_; conv => whnf)
      | (refine Indep.mk (by kernel_rfl) ?_; conv => whnf)
      | (refine Split.mk (fun hc => ?_) (fun hc => ?_) <;> (try simp only [bytes_eq, bytes_ne, empty_bytes, bytes_bne, bytes_bne'] at hc) <;> (try simp only [decide_eq_true_eq, decide_eq_false_iff_not, beq_iff_eq, beq_eq_false_iff_ne, bne_iff_ne, bne_eq_false_iff_eq, Bool.not_eq_true', Bool.not_eq_false', Tree.isNil_iff, Tree.isNil_not, Int.not_lt, Int.not_le, gt_iff_lt, ge_iff_le, ne_eq, Decidable.not_not, Int.toNat_natCast, Int.toNat_zero, Int.toNat_one] at hc) <;> conv => whnf)
    exact ret_objs rfl rfl (int_eq (by rw [wholeF])) ⟨cell_int (by rw [wholeF]), trivial⟩ (Nat.le_refl _)
  · intro left h1 h2
    have hw : IntKind.i64.wrap (left - 1) = left - 1 := wrap64 (by omega) (by omega)
    refine Fun.of_body tt [] [4] Try.func104 rfl rfl rfl (Nat.le_of_ble_eq_true rfl) fun g => ?_
    repeat' first
      | (refine then_go hm htt ?_; conv => whnf)
      | (refine Side.mk (by first | assumption | exact trivial | rfl | exact Nat.le_of_ble_eq_true rfl | omega) ?_; conv => whnf)
      | (refine Hyp.mk fun hlen => ?_; replace hlen : _ ≤ 17592186044416 := hlen; conv => whnf)
      | (refine Split.ct ?_; conv => whnf)
      | (refine Split.cf ?_; conv => whnf)
      | (refine Split.of_true (by first | rfl | assumption | ((try simp only [bytes_eq, bytes_ne, empty_bytes, bytes_bne, bytes_bne']); (try simp only [decide_eq_true_eq, decide_eq_false_iff_not, beq_iff_eq, beq_eq_false_iff_ne, bne_iff_ne, bne_eq_false_iff_eq, Bool.not_eq_true', Bool.not_eq_false', Tree.isNil_iff, Tree.isNil_not, Int.not_lt, Int.not_le, gt_iff_lt, ge_iff_le, ne_eq, Decidable.not_not, Int.toNat_natCast, Int.toNat_zero, Int.toNat_one]); first | assumption | omega)) ?_; conv => whnf)
      | (refine Split.of_false (by first | rfl | assumption | ((try simp only [bytes_eq, bytes_ne, empty_bytes, bytes_bne, bytes_bne']); (try simp only [decide_eq_true_eq, decide_eq_false_iff_not, beq_iff_eq, beq_eq_false_iff_ne, bne_iff_ne, bne_eq_false_iff_eq, Bool.not_eq_true', Bool.not_eq_false', Tree.isNil_iff, Tree.isNil_not, Int.not_lt, Int.not_le, gt_iff_lt, ge_iff_le, ne_eq, Decidable.not_not, Int.toNat_natCast, Int.toNat_zero, Int.toNat_one]); first | assumption | omega)) ?_; conv => whnf)
      | (refine Indep.mk (by kernel_rfl) ?_; conv => whnf)
      | (refine Split.mk (fun hc => ?_) (fun hc => ?_) <;> (try simp only [bytes_eq, bytes_ne, empty_bytes, bytes_bne, bytes_bne'] at hc) <;> (try simp only [decide_eq_true_eq, decide_eq_false_iff_not, beq_iff_eq, beq_eq_false_iff_ne, bne_iff_ne, bne_eq_false_iff_eq, Bool.not_eq_true', Bool.not_eq_false', Tree.isNil_iff, Tree.isNil_not, Int.not_lt, Int.not_le, gt_iff_lt, ge_iff_le, ne_eq, Decidable.not_not, Int.toNat_natCast, Int.toNat_zero, Int.toNat_one, hw] at hc) <;> conv => whnf)
    · exact ret_objs rfl rfl (int_eq (by rw [wholeF_kids hT, if_pos (by omega)])) ⟨cell_int (by rw [wholeF_kids hT, if_pos (by omega), hw]), trivial⟩ (Nat.le_refl _)
    · refine loop_go (α := Nat × Int) (fun p => ⟨[(1, .ref 0 0), (22, .d (.trees T.kids)), (23, .d (.int .i64 T.kids.length)), (24, .d (.int .i64 p.1))], 35, [(0, .cells [.d (.int .i64 p.2)])], 1, g⟩)
        (fun p => p.1 ≤ T.kids.length ∧ (0 ≤ p.2 ∧ p.2 ≤ 65536) ∧ wholesF p.2 (T.kids.drop p.1) = wholesF (left - 1) T.kids) (fun p => T.kids.length - p.1) (0, IntKind.i64.wrap (left - 1)) ⟨by omega, by rw [hw]; simp only []; omega, by rw [hw]; rfl⟩
        (Ent.re [0] rfl rfl rfl rfl rfl rfl (by repeat' first | exact trivial | apply And.intro | rfl | (refine int_eq ?_; rw [wrap64] <;> omega)) (by repeat' first | exact trivial | apply And.intro | rfl | (refine int_eq ?_; rw [wrap64] <;> omega))) (fun _ => rfl) fun p hpre => ?_
      obtain ⟨hp1, hp2, hp3⟩ := hpre
      repeat' first
        | (refine then_go hm htt ?_; conv => whnf)
        | (refine Side.mk (by first | assumption | exact trivial | rfl | exact Nat.le_of_ble_eq_true rfl | omega) ?_; conv => whnf)
        | (refine Hyp.mk fun hlen => ?_; replace hlen : _ ≤ 17592186044416 := hlen; conv => whnf)
        | (refine Split.ct ?_; conv => whnf)
        | (refine Split.cf ?_; conv => whnf)
        | (refine Split.of_true (by first | rfl | assumption | ((try simp only [bytes_eq, bytes_ne, empty_bytes, bytes_bne, bytes_bne']); (try simp only [decide_eq_true_eq, decide_eq_false_iff_not, beq_iff_eq, beq_eq_false_iff_ne, bne_iff_ne, bne_eq_false_iff_eq, Bool.not_eq_true', Bool.not_eq_false', Tree.isNil_iff, Tree.isNil_not, Int.not_lt, Int.not_le, gt_iff_lt, ge_iff_le, ne_eq, Decidable.not_not, Int.toNat_natCast, Int.toNat_zero, Int.toNat_one]); first | assumption | omega)) ?_; conv => whnf)
        | (refine Split.of_false (by first | rfl | assumption | ((try simp only [bytes_eq, bytes_ne, empty_bytes, bytes_bne, bytes_bne']); (try simp only [decide_eq_true_eq, decide_eq_false_iff_not, beq_iff_eq, beq_eq_false_iff_ne, bne_iff_ne, bne_eq_false_iff_eq, Bool.not_eq_true', Bool.not_eq_false', Tree.isNil_iff, Tree.isNil_not, Int.not_lt, Int.not_le, gt_iff_lt, ge_iff_le, ne_eq, Decidable.not_not, Int.toNat_natCast, Int.toNat_zero, Int.toNat_one]); first | assumption | omega)) ?_; conv => whnf)
        | (refine Indep.mk (by kernel_rfl) ?_; conv => whnf)
        | (refine CallG.fun (ih (T.kids.getD p.1 .nil) (getD_mem (by omega)) p.2 (by omega) (by omega)) [0] rfl rfl rfl rfl rfl rfl ⟨⟨rfl, rfl, rfl⟩, trivial⟩ rfl ?_; conv => whnf)
        | (refine Split.mk (fun hc => ?_) (fun hc => ?_) <;> (try simp only [bytes_eq, bytes_ne, empty_bytes, bytes_bne, bytes_bne'] at hc) <;> (try simp only [decide_eq_true_eq, decide_eq_false_iff_not, beq_iff_eq, beq_eq_false_iff_ne, bne_iff_ne, bne_eq_false_iff_eq, Bool.not_eq_true', Bool.not_eq_false', Tree.isNil_iff, Tree.isNil_not, Int.not_lt, Int.not_le, gt_iff_lt, ge_iff_le, ne_eq, Decidable.not_not, Int.toNat_natCast, Int.toNat_zero, Int.toNat_one] at hc) <;> conv => whnf)
      · have hs := whole_bound (T.kids.getD p.1 .nil) p.2 hp2.1
        rw [drop_step (by omega), wholesF, if_neg hc] at hp3
        exact ret_objs rfl rfl (int_eq (by rw [wholeF_kids hT, if_neg (by omega), ← hp3])) ⟨cell_int (by rw [wholeF_kids hT, if_neg (by omega), ← hp3]), trivial⟩ (Nat.le_refl _)
      · have hs := whole_bound (T.kids.getD p.1 .nil) p.2 hp2.1
        rw [drop_step (by omega), wholesF, if_pos hc] at hp3
        exact ⟨(p.1 + 1, (wholeF p.2 (T.kids.getD p.1 .nil)).2), ⟨by simp only []; omega, ⟨hs.2 hc, by simp only []; omega⟩, hp3⟩, by simp only []; omega, Ent.re [0] rfl rfl rfl rfl rfl rfl (by repeat' first | exact trivial | apply And.intro | rfl | (refine int_eq ?_; rw [wrap64] <;> omega)) (by repeat' first | exact trivial | apply And.intro | rfl | (refine int_eq ?_; rw [wrap64] <;> omega))⟩
      · rw [drop_end (by omega), wholesF] at hp3
        exact ret_objs rfl rfl (int_eq (by rw [wholeF_kids hT, if_neg (by omega), ← hp3])) ⟨cell_int (by rw [wholeF_kids hT, if_neg (by omega), ← hp3]), trivial⟩ (Nat.le_refl _)

def bareNF (T : Tree) : Bool := decide (T.mark = ByteArray.empty) && decide (T.name = ByteArray.empty) && decide (0 ≤ T.n) && decide (T.n ≤ 8192)
set_option maxRecDepth 10000 in
theorem sbare_ok (T : Tree) (hT : T ≠ .nil) (name : Bool) : Pure P 143 [.d (.tree T), .d (.bool name), .d (.bool false)] (.d (.bool (bareF T name false))) := by
  refine Pure.of_body tt [] [6] Try.func143 rfl rfl rfl (Nat.le_of_ble_eq_true rfl) fun g => ?_
  repeat' first
    | (refine then_go hm htt ?_; conv => whnf)
    | (refine Side.mk (by first | assumption | exact trivial | rfl | exact Nat.le_of_ble_eq_true rfl | omega) ?_; conv => whnf)
    | (refine Hyp.mk fun hlen => ?_; replace hlen : _ ≤ 17592186044416 := hlen; conv => whnf)
    | (refine Split.ct ?_; conv => whnf)
    | (refine Split.cf ?_; conv => whnf)
    | (refine Split.of_true (by first | rfl | assumption | ((try simp only [bytes_eq, bytes_ne, empty_bytes, bytes_bne, bytes_bne']); (try simp only [decide_eq_true_eq, decide_eq_false_iff_not, beq_iff_eq, beq_eq_false_iff_ne, bne_iff_ne, bne_eq_false_iff_eq, Bool.not_eq_true', Bool.not_eq_false', Tree.isNil_iff, Tree.isNil_not, Int.not_lt, Int.not_le, gt_iff_lt, ge_iff_le, ne_eq, Decidable.not_not, Int.toNat_natCast, Int.toNat_zero, Int.toNat_one]); first | assumption | omega)) ?_; conv => whnf)
    | (refine Split.of_false (by first | rfl | assumption | ((try simp only [bytes_eq, bytes_ne, empty_bytes, bytes_bne, bytes_bne']); (try simp only [decide_eq_true_eq, decide_eq_false_iff_not, beq_iff_eq, beq_eq_false_iff_ne, bne_iff_ne, bne_eq_false_iff_eq, Bool.not_eq_true', Bool.not_eq_false', Tree.isNil_iff, Tree.isNil_not, Int.not_lt, Int.not_le, gt_iff_lt, ge_iff_le, ne_eq, Decidable.not_not, Int.toNat_natCast, Int.toNat_zero, Int.toNat_one]); first | assumption | omega)) ?_; conv => whnf)
    | (refine Indep.mk (by kernel_rfl) ?_; conv => whnf)
    | (refine Split.mk (fun hc => ?_) (fun hc => ?_) <;> (try simp only [bytes_eq, bytes_ne, empty_bytes, bytes_bne, bytes_bne'] at hc) <;> (try simp only [decide_eq_true_eq, decide_eq_false_iff_not, beq_iff_eq, beq_eq_false_iff_ne, bne_iff_ne, bne_eq_false_iff_eq, Bool.not_eq_true', Bool.not_eq_false', Tree.isNil_iff, Tree.isNil_not, Int.not_lt, Int.not_le, gt_iff_lt, ge_iff_le, ne_eq, Decidable.not_not, Int.toNat_natCast, Int.toNat_zero, Int.toNat_one] at hc) <;> conv => whnf)
  all_goals refine ret_closed rfl (bool_eq ?_) rfl
  all_goals (simp_all [-List.getD_eq_getElem?_getD, int_dec, bareF] <;> omega)
set_option maxRecDepth 10000 in
theorem sbareN_ok (T : Tree) (hT : T ≠ .nil) : Pure P 143 [.d (.tree T), .d (.bool false), .d (.bool true)] (.d (.bool (bareNF T))) := by
  refine Pure.of_body tt [] [6] Try.func143 rfl rfl rfl (Nat.le_of_ble_eq_true rfl) fun g => ?_
  repeat' first
    | (refine then_go hm htt ?_; conv => whnf)
    | (refine Side.mk (by first | assumption | exact trivial | rfl | exact Nat.le_of_ble_eq_true rfl | omega) ?_; conv => whnf)
    | (refine Hyp.mk fun hlen => ?_; replace hlen : _ ≤ 17592186044416 := hlen; conv => whnf)
    | (refine Split.ct ?_; conv => whnf)
    | (refine Split.cf ?_; conv => whnf)
    | (refine Split.of_true (by first | rfl | assumption | ((try simp only [bytes_eq, bytes_ne, empty_bytes, bytes_bne, bytes_bne']); (try simp only [decide_eq_true_eq, decide_eq_false_iff_not, beq_iff_eq, beq_eq_false_iff_ne, bne_iff_ne, bne_eq_false_iff_eq, Bool.not_eq_true', Bool.not_eq_false', Tree.isNil_iff, Tree.isNil_not, Int.not_lt, Int.not_le, gt_iff_lt, ge_iff_le, ne_eq, Decidable.not_not, Int.toNat_natCast, Int.toNat_zero, Int.toNat_one]); first | assumption | omega)) ?_; conv => whnf)
    | (refine Split.of_false (by first | rfl | assumption | ((try simp only [bytes_eq, bytes_ne, empty_bytes, bytes_bne, bytes_bne']); (try simp only [decide_eq_true_eq, decide_eq_false_iff_not, beq_iff_eq, beq_eq_false_iff_ne, bne_iff_ne, bne_eq_false_iff_eq, Bool.not_eq_true', Bool.not_eq_false', Tree.isNil_iff, Tree.isNil_not, Int.not_lt, Int.not_le, gt_iff_lt, ge_iff_le, ne_eq, Decidable.not_not, Int.toNat_natCast, Int.toNat_zero, Int.toNat_one]); first | assumption | omega)) ?_; conv => whnf)
    | (refine Indep.mk (by kernel_rfl) ?_; conv => whnf)
    | (refine Split.mk (fun hc => ?_) (fun hc => ?_) <;> (try simp only [bytes_eq, bytes_ne, empty_bytes, bytes_bne, bytes_bne'] at hc) <;> (try simp only [decide_eq_true_eq, decide_eq_false_iff_not, beq_iff_eq, beq_eq_false_iff_ne, bne_iff_ne, bne_eq_false_iff_eq, Bool.not_eq_true', Bool.not_eq_false', Tree.isNil_iff, Tree.isNil_not, Int.not_lt, Int.not_le, gt_iff_lt, ge_iff_le, ne_eq, Decidable.not_not, Int.toNat_natCast, Int.toNat_zero, Int.toNat_one] at hc) <;> conv => whnf)
  all_goals refine ret_closed rfl (bool_eq ?_) rfl
  all_goals (try simp only [bytes_dec, empty_bytes])
  all_goals (unfold bareNF; by_cases q1 : T.mark = ByteArray.empty <;> by_cases q2 : T.name = ByteArray.empty <;> by_cases q3 : 0 ≤ T.n <;> by_cases q4 : T.n ≤ 8192 <;> simp_all [int_dec] <;> omega)

mutual
def isSigF : Tree → Bool
  | .nil => false
  | .node k n nm mk l =>
    bareF (.node k n nm mk l) false false &&
    (if k = 160 ∨ k = 161 then ((l.length : Int) == 1) && decide (conE (l.getD 0 .nil) = 0)
     else if k = 162 then sigFieldsF l && risingF l
     else false)
def sigAt (i : Nat) : List Tree → Bool
  | [] => false
  | x :: l => match i with
    | 0 => isSigF x
    | i + 1 => sigAt i l
def sigFieldsF : List Tree → Bool
  | [] => true
  | x :: l => sigFieldF x && sigFieldsF l
def sigFieldF : Tree → Bool
  | .nil => false
  | .node k n nm mk l => (k == 163) && bareF (.node k n nm mk l) true false && labelF nm && ((l.length : Int) == 1) && sigAt 0 l
end
theorem sigAt_eq : ∀ (l : List Tree) (i : Nat), sigAt i l = isSigF (l.getD i .nil)
  | [], i => by rw [sigAt]; simp [isSigF]
  | x :: l, 0 => by rw [sigAt]; rfl
  | x :: l, i + 1 => by rw [sigAt]; exact sigAt_eq l i
theorem sigFieldF_eq {T : Tree} (h : T ≠ .nil) : sigFieldF T = ((T.kind == 163) && bareF T true false && labelF T.name && ((T.kids.length : Int) == 1) && isSigF (T.kids.getD 0 .nil)) := by
  cases T with
  | nil => exact absurd rfl h
  | node k n nm mk l => rw [sigFieldF, sigAt_eq]; rfl
theorem isSigF_eq {T : Tree} (h : T ≠ .nil) : isSigF T = (bareF T false false &&
    (if T.kind = 160 ∨ T.kind = 161 then ((T.kids.length : Int) == 1) && decide (conE (T.kids.getD 0 .nil) = 0)
     else if T.kind = 162 then sigFieldsF T.kids && risingF T.kids
     else false)) := by
  cases T with
  | nil => exact absurd rfl h
  | node k n nm mk l => rw [isSigF]; rfl
def exF (T : Tree) : Bool := (T.kind == 164) && bareNF T && ((T.kids.length : Int) == 1) && isSigF (T.kids.getD 0 .nil)
def funF (T : Tree) : Bool := (T.kind == 165) && bareNF T && ((T.kids.length : Int) == 2) && isSigF (T.kids.getD 0 .nil) && exF (T.kids.getD 1 .nil)
def semE (T : Tree) : Int := checkF (isSigF T || exF T || funF T) T

set_option maxHeartbeats 4000000 in
set_option maxRecDepth 10000 in
theorem sfields_ok (T : Tree) (hF : Full T) (ih : ∀ x ∈ T.kids, ∀ y ∈ x.kids, Full y → Pure P 105 [.d (.tree y)] (.d (.bool (isSigF y)))) : Pure P 144 [.d (.tree T)] (.d (.bool (sigFieldsF T.kids && risingF T.kids))) := by
  have hT := hF.ne
  refine Pure.of_body tt [] [2] Try.func144 rfl rfl rfl (Nat.le_of_ble_eq_true rfl) fun g => ?_
  repeat' first
    | (refine then_go hm htt ?_; conv => whnf)
    | (refine Side.mk (by first | assumption | exact trivial | rfl | exact Nat.le_of_ble_eq_true rfl | omega) ?_; conv => whnf)
    | (refine Hyp.mk fun hlen => ?_; replace hlen : _ ≤ 17592186044416 := hlen; conv => whnf)
    | (refine Split.ct ?_; conv => whnf)
    | (refine Split.cf ?_; conv => whnf)
    | (refine Split.of_true (by first | rfl | assumption | ((try simp only [bytes_eq, bytes_ne, empty_bytes, bytes_bne, bytes_bne']); (try simp only [decide_eq_true_eq, decide_eq_false_iff_not, beq_iff_eq, beq_eq_false_iff_ne, bne_iff_ne, bne_eq_false_iff_eq, Bool.not_eq_true', Bool.not_eq_false', Tree.isNil_iff, Tree.isNil_not, Int.not_lt, Int.not_le, gt_iff_lt, ge_iff_le, ne_eq, Decidable.not_not, Int.toNat_natCast, Int.toNat_zero, Int.toNat_one]); first | assumption | omega)) ?_; conv => whnf)
    | (refine Split.of_false (by first | rfl | assumption | ((try simp only [bytes_eq, bytes_ne, empty_bytes, bytes_bne, bytes_bne']); (try simp only [decide_eq_true_eq, decide_eq_false_iff_not, beq_iff_eq, beq_eq_false_iff_ne, bne_iff_ne, bne_eq_false_iff_eq, Bool.not_eq_true', Bool.not_eq_false', Tree.isNil_iff, Tree.isNil_not, Int.not_lt, Int.not_le, gt_iff_lt, ge_iff_le, ne_eq, Decidable.not_not, Int.toNat_natCast, Int.toNat_zero, Int.toNat_one]); first | assumption | omega)) ?_; conv => whnf)
    | (refine Indep.mk (by kernel_rfl) ?_; conv => whnf)
    | (refine Split.mk (fun hc => ?_) (fun hc => ?_) <;> (try simp only [bytes_eq, bytes_ne, empty_bytes, bytes_bne, bytes_bne'] at hc) <;> (try simp only [decide_eq_true_eq, decide_eq_false_iff_not, beq_iff_eq, beq_eq_false_iff_ne, bne_iff_ne, bne_eq_false_iff_eq, Bool.not_eq_true', Bool.not_eq_false', Tree.isNil_iff, Tree.isNil_not, Int.not_lt, Int.not_le, gt_iff_lt, ge_iff_le, ne_eq, Decidable.not_not, Int.toNat_natCast, Int.toNat_zero, Int.toNat_one] at hc) <;> conv => whnf)
  refine loop_go (α := Nat) (fun p => ⟨[(0, .d (.tree T)), (8, .d (.trees T.kids)), (9, .d (.int .i64 T.kids.length)), (10, .d (.int .i64 p))], 80, [], 0, g⟩)
        (fun p => p ≤ T.kids.length ∧ (sigFieldsF (T.kids.drop p) && risingF (T.kids.drop (p - 1))) = (sigFieldsF T.kids && risingF T.kids)) (fun p => T.kids.length - p) 0 ⟨by omega, rfl⟩
        (Ent.re [] rfl rfl rfl rfl rfl rfl (by repeat' first | exact trivial | apply And.intro | rfl | (refine int_eq ?_; rw [wrap64] <;> omega)) (by repeat' first | exact trivial | apply And.intro | rfl | (refine int_eq ?_; rw [wrap64] <;> omega))) (fun _ => rfl) fun p hpre => ?_
  obtain ⟨hp1, hp2⟩ := hpre
  by_cases hlt : p < T.kids.length
  · have hx := hF.kid hlt
    have hmem := getD_mem hlt
    rw [drop_step hlt, sigFieldsF] at hp2
    have hfe := sigFieldF_eq hx.ne
    have hkid : (T.kids.getD p .nil).kids.length = 1 → Pure P 105 [.d (.tree ((T.kids.getD p .nil).kids.getD 0 .nil))] (.d (.bool (isSigF ((T.kids.getD p .nil).kids.getD 0 .nil)))) := fun h => ih (T.kids.getD p .nil) hmem ((T.kids.getD p .nil).kids.getD 0 .nil) (getD_mem (by omega)) (hx.kid (by omega))
    by_cases hok : sigFieldF (T.kids.getD p .nil) = true
    · rw [hok, Bool.true_and] at hp2
      rw [hfe] at hok
      simp only [Bool.and_eq_true, beq_iff_eq, labelF, decide_eq_true_eq] at hok
      obtain ⟨⟨⟨⟨o1, o2⟩, o3, o3'⟩, o4⟩, o5⟩ := hok
      have hb : Pure P 143 [.d (.tree (T.kids.getD p .nil)), .d (.bool true), .d (.bool false)] (.d (.bool true)) := by
        have := sbare_ok (T.kids.getD p .nil) hx.ne true
        rw [o2] at this
        exact this
      have hs : Pure P 105 [.d (.tree ((T.kids.getD p .nil).kids.getD 0 .nil))] (.d (.bool true)) := by
        have := hkid (by omega)
        rw [o5] at this
        exact this
      by_cases hp0 : p = 0
      · subst hp0
        repeat' first
          | (refine then_go hm htt ?_; conv => whnf)
          | (refine Side.mk (by first | assumption | exact trivial | rfl | exact Nat.le_of_ble_eq_true rfl | omega) ?_; conv => whnf)
          | (refine Hyp.mk fun hlen => ?_; replace hlen : _ ≤ 17592186044416 := hlen; conv => whnf)
          | (refine Split.ct ?_; conv => whnf)
          | (refine Split.cf ?_; conv => whnf)
          | (refine Split.of_true (by first | rfl | assumption | ((try simp only [bytes_eq, bytes_ne, empty_bytes, bytes_bne, bytes_bne']); (try simp only [decide_eq_true_eq, decide_eq_false_iff_not, beq_iff_eq, beq_eq_false_iff_ne, bne_iff_ne, bne_eq_false_iff_eq, Bool.not_eq_true', Bool.not_eq_false', Tree.isNil_iff, Tree.isNil_not, Int.not_lt, Int.not_le, gt_iff_lt, ge_iff_le, ne_eq, Decidable.not_not, Int.toNat_natCast, Int.toNat_zero, Int.toNat_one]); first | assumption | omega)) ?_; conv => whnf)
          | (refine Split.of_false (by first | rfl | assumption | ((try simp only [bytes_eq, bytes_ne, empty_bytes, bytes_bne, bytes_bne']); (try simp only [decide_eq_true_eq, decide_eq_false_iff_not, beq_iff_eq, beq_eq_false_iff_ne, bne_iff_ne, bne_eq_false_iff_eq, Bool.not_eq_true', Bool.not_eq_false', Tree.isNil_iff, Tree.isNil_not, Int.not_lt, Int.not_le, gt_iff_lt, ge_iff_le, ne_eq, Decidable.not_not, Int.toNat_natCast, Int.toNat_zero, Int.toNat_one]); first | assumption | omega)) ?_; conv => whnf)
          | (refine Indep.mk (by kernel_rfl) ?_; conv => whnf)
          | (refine Side.mk (show (0 : Int) ≤ (0 : Int) ∧ (0 : Int) < (T.kids.length : Int) from ⟨by omega, by omega⟩) ?_; conv => whnf)
          | (refine Side.mk hx.ne ?_; conv => whnf)
          | (refine Side.mk (show (0 : Int) ≤ 0 ∧ (0 : Int) < ((T.kids.getD 0 .nil).kids.length : Int) from ⟨by omega, by omega⟩) ?_; conv => whnf)
          | (refine CallG.pure hb rfl ?_; conv => whnf)
          | (refine CallG.pure hs rfl ?_; conv => whnf)
          | (refine Split.mk (fun hc => ?_) (fun hc => ?_) <;> (try simp only [bytes_eq, bytes_ne, empty_bytes, bytes_bne, bytes_bne'] at hc) <;> (try simp only [decide_eq_true_eq, decide_eq_false_iff_not, beq_iff_eq, beq_eq_false_iff_ne, bne_iff_ne, bne_eq_false_iff_eq, Bool.not_eq_true', Bool.not_eq_false', Tree.isNil_iff, Tree.isNil_not, Int.not_lt, Int.not_le, gt_iff_lt, ge_iff_le, ne_eq, Decidable.not_not, Int.toNat_natCast, Int.toNat_zero, Int.toNat_one] at hc) <;> conv => whnf)
        exact ⟨1, ⟨by omega, hp2⟩, by omega, Ent.re [] rfl rfl rfl rfl rfl rfl (by repeat' first | exact trivial | apply And.intro | rfl | (refine int_eq ?_; rw [wrap64] <;> omega)) (by repeat' first | exact trivial | apply And.intro | rfl | (refine int_eq ?_; rw [wrap64] <;> omega))⟩
      · have hw : IntKind.i64.wrap ((p : Int) - 1) = ((p - 1 : Nat) : Int) := by rw [wrap64] <;> omega
        have hy := hF.kid (show p - 1 < T.kids.length by omega)
        have hr := risingF_drop (l := T.kids) (i := p - 1) (by omega)
        rw [show p - 1 + 1 = p by omega] at hr
        rw [hr] at hp2
        repeat' first
          | (refine then_go hm htt ?_; conv => whnf)
          | (refine Side.mk (by first | assumption | exact trivial | rfl | exact Nat.le_of_ble_eq_true rfl | omega) ?_; conv => whnf)
          | (refine Hyp.mk fun hlen => ?_; replace hlen : _ ≤ 17592186044416 := hlen; conv => whnf)
          | (refine Split.ct ?_; conv => whnf)
          | (refine Split.cf ?_; conv => whnf)
          | (refine Split.of_true (by first | rfl | assumption | ((try simp only [bytes_eq, bytes_ne, empty_bytes, bytes_bne, bytes_bne']); (try simp only [decide_eq_true_eq, decide_eq_false_iff_not, beq_iff_eq, beq_eq_false_iff_ne, bne_iff_ne, bne_eq_false_iff_eq, Bool.not_eq_true', Bool.not_eq_false', Tree.isNil_iff, Tree.isNil_not, Int.not_lt, Int.not_le, gt_iff_lt, ge_iff_le, ne_eq, Decidable.not_not, Int.toNat_natCast, Int.toNat_zero, Int.toNat_one]); first | assumption | omega)) ?_; conv => whnf)
          | (refine Split.of_false (by first | rfl | assumption | ((try simp only [bytes_eq, bytes_ne, empty_bytes, bytes_bne, bytes_bne']); (try simp only [decide_eq_true_eq, decide_eq_false_iff_not, beq_iff_eq, beq_eq_false_iff_ne, bne_iff_ne, bne_eq_false_iff_eq, Bool.not_eq_true', Bool.not_eq_false', Tree.isNil_iff, Tree.isNil_not, Int.not_lt, Int.not_le, gt_iff_lt, ge_iff_le, ne_eq, Decidable.not_not, Int.toNat_natCast, Int.toNat_zero, Int.toNat_one]); first | assumption | omega)) ?_; conv => whnf)
          | (refine Indep.mk (by kernel_rfl) ?_; conv => whnf)
          | (rw [hw]; conv => whnf)
          | (refine Side.mk (show (0 : Int) ≤ (p : Int) ∧ (p : Int) < (T.kids.length : Int) from ⟨by omega, by omega⟩) ?_; conv => whnf)
          | (refine Side.mk (show (0 : Int) ≤ ((p - 1 : Nat) : Int) ∧ ((p - 1 : Nat) : Int) < (T.kids.length : Int) from ⟨by omega, by omega⟩) ?_; conv => whnf)
          | (refine Side.mk hx.ne ?_; conv => whnf)
          | (refine Side.mk hy.ne ?_; conv => whnf)
          | (refine Side.mk (show (0 : Int) ≤ 0 ∧ (0 : Int) < ((T.kids.getD p .nil).kids.length : Int) from ⟨by omega, by omega⟩) ?_; conv => whnf)
          | (refine CallG.pure hb rfl ?_; conv => whnf)
          | (refine CallG.pure hs rfl ?_; conv => whnf)
          | (refine Split.mk (fun hc => ?_) (fun hc => ?_) <;> (try simp only [bytes_eq, bytes_ne, empty_bytes, bytes_bne, bytes_bne'] at hc) <;> (try simp only [decide_eq_true_eq, decide_eq_false_iff_not, beq_iff_eq, beq_eq_false_iff_ne, bne_iff_ne, bne_eq_false_iff_eq, Bool.not_eq_true', Bool.not_eq_false', Tree.isNil_iff, Tree.isNil_not, Int.not_lt, Int.not_le, gt_iff_lt, ge_iff_le, ne_eq, Decidable.not_not, Int.toNat_natCast, Int.toNat_zero, Int.toNat_one] at hc) <;> conv => whnf)
        · rw [show ltB (T.kids.getD (p - 1) .nil).name (T.kids.getD p .nil).name = false from hc, Bool.false_and, Bool.and_false] at hp2
          exact ret_closed rfl (bool_eq hp2) rfl
        · rw [show ltB (T.kids.getD (p - 1) .nil).name (T.kids.getD p .nil).name = true from hc, Bool.true_and] at hp2
          exact ⟨p + 1, ⟨by omega, hp2⟩, by omega, Ent.re [] rfl rfl rfl rfl rfl rfl (by repeat' first | exact trivial | apply And.intro | rfl | (refine int_eq ?_; rw [wrap64] <;> omega)) (by repeat' first | exact trivial | apply And.intro | rfl | (refine int_eq ?_; rw [wrap64] <;> omega))⟩
    · have hno : sigFieldF (T.kids.getD p .nil) = false := by cases h : sigFieldF (T.kids.getD p .nil) <;> simp_all
      rw [hno, Bool.false_and, Bool.false_and] at hp2
      rw [hfe] at hno
      have hbr := sbare_ok (T.kids.getD p .nil) hx.ne true
      have hfin : (T.kids.getD p .nil).kind = 163 → bareF (T.kids.getD p .nil) true false = true → 1 ≤ ((T.kids.getD p .nil).name.size : Int) → ((T.kids.getD p .nil).name.size : Int) ≤ 160 → ((T.kids.getD p .nil).kids.length : Int) = 1 → isSigF ((T.kids.getD p .nil).kids.getD 0 .nil) = true → False := by
        intro h1 h2 h3 h4 h5 h6
        rw [h1, h2, h5, h6, labelF, decide_eq_true h3, decide_eq_true h4] at hno
        simp at hno
      clear hok hfe
      repeat' first
        | (refine then_go hm htt ?_; conv => whnf)
        | (refine Side.mk (by first | assumption | exact trivial | rfl | exact Nat.le_of_ble_eq_true rfl | omega) ?_; conv => whnf)
        | (refine Hyp.mk fun hlen => ?_; replace hlen : _ ≤ 17592186044416 := hlen; conv => whnf)
        | (refine Split.ct ?_; conv => whnf)
        | (refine Split.cf ?_; conv => whnf)
        | (refine Split.of_true (by first | rfl | assumption | ((try simp only [bytes_eq, bytes_ne, empty_bytes, bytes_bne, bytes_bne']); (try simp only [decide_eq_true_eq, decide_eq_false_iff_not, beq_iff_eq, beq_eq_false_iff_ne, bne_iff_ne, bne_eq_false_iff_eq, Bool.not_eq_true', Bool.not_eq_false', Tree.isNil_iff, Tree.isNil_not, Int.not_lt, Int.not_le, gt_iff_lt, ge_iff_le, ne_eq, Decidable.not_not, Int.toNat_natCast, Int.toNat_zero, Int.toNat_one]); first | assumption | omega)) ?_; conv => whnf)
        | (refine Split.of_false (by first | rfl | assumption | ((try simp only [bytes_eq, bytes_ne, empty_bytes, bytes_bne, bytes_bne']); (try simp only [decide_eq_true_eq, decide_eq_false_iff_not, beq_iff_eq, beq_eq_false_iff_ne, bne_iff_ne, bne_eq_false_iff_eq, Bool.not_eq_true', Bool.not_eq_false', Tree.isNil_iff, Tree.isNil_not, Int.not_lt, Int.not_le, gt_iff_lt, ge_iff_le, ne_eq, Decidable.not_not, Int.toNat_natCast, Int.toNat_zero, Int.toNat_one]); first | assumption | omega)) ?_; conv => whnf)
        | (refine Indep.mk (by kernel_rfl) ?_; conv => whnf)
        | (refine Side.mk (show (0 : Int) ≤ (p : Int) ∧ (p : Int) < (T.kids.length : Int) from ⟨by omega, by omega⟩) ?_; conv => whnf)
        | (refine Side.mk hx.ne ?_; conv => whnf)
        | (refine Side.mk (show (0 : Int) ≤ 0 ∧ (0 : Int) < ((T.kids.getD p .nil).kids.length : Int) from ⟨by omega, by omega⟩) ?_; conv => whnf)
        | (refine CallG.pure hbr rfl ?_; conv => whnf)
        | (refine CallG.pure (hkid (by omega)) rfl ?_; conv => whnf)
        | (exfalso; exact hfin (by omega) (by assumption) (by omega) (by omega) (by omega) (by assumption))
        | (refine Split.mk (fun hc => ?_) (fun hc => ?_) <;> (try simp only [bytes_eq, bytes_ne, empty_bytes, bytes_bne, bytes_bne'] at hc) <;> (try simp only [decide_eq_true_eq, decide_eq_false_iff_not, beq_iff_eq, beq_eq_false_iff_ne, bne_iff_ne, bne_eq_false_iff_eq, Bool.not_eq_true', Bool.not_eq_false', Tree.isNil_iff, Tree.isNil_not, Int.not_lt, Int.not_le, gt_iff_lt, ge_iff_le, ne_eq, Decidable.not_not, Int.toNat_natCast, Int.toNat_zero, Int.toNat_one] at hc) <;> conv => whnf)
      all_goals exact ret_closed rfl (bool_eq hp2) rfl
  · rw [drop_end (by omega), sigFieldsF, Bool.true_and, risingF_end (by omega)] at hp2
    repeat' first
      | (refine then_go hm htt ?_; conv => whnf)
      | (refine Side.mk (by first | assumption | exact trivial | rfl | exact Nat.le_of_ble_eq_true rfl | omega) ?_; conv => whnf)
      | (refine Hyp.mk fun hlen => ?_; replace hlen : _ ≤ 17592186044416 := hlen; conv => whnf)
      | (refine Split.ct ?_; conv => whnf)
      | (refine Split.cf ?_; conv => whnf)
      | (refine Split.of_true (by first | rfl | assumption | ((try simp only [bytes_eq, bytes_ne, empty_bytes, bytes_bne, bytes_bne']); (try simp only [decide_eq_true_eq, decide_eq_false_iff_not, beq_iff_eq, beq_eq_false_iff_ne, bne_iff_ne, bne_eq_false_iff_eq, Bool.not_eq_true', Bool.not_eq_false', Tree.isNil_iff, Tree.isNil_not, Int.not_lt, Int.not_le, gt_iff_lt, ge_iff_le, ne_eq, Decidable.not_not, Int.toNat_natCast, Int.toNat_zero, Int.toNat_one]); first | assumption | omega)) ?_; conv => whnf)
      | (refine Split.of_false (by first | rfl | assumption | ((try simp only [bytes_eq, bytes_ne, empty_bytes, bytes_bne, bytes_bne']); (try simp only [decide_eq_true_eq, decide_eq_false_iff_not, beq_iff_eq, beq_eq_false_iff_ne, bne_iff_ne, bne_eq_false_iff_eq, Bool.not_eq_true', Bool.not_eq_false', Tree.isNil_iff, Tree.isNil_not, Int.not_lt, Int.not_le, gt_iff_lt, ge_iff_le, ne_eq, Decidable.not_not, Int.toNat_natCast, Int.toNat_zero, Int.toNat_one]); first | assumption | omega)) ?_; conv => whnf)
      | (refine Indep.mk (by kernel_rfl) ?_; conv => whnf)
      | (refine Split.mk (fun hc => ?_) (fun hc => ?_) <;> (try simp only [bytes_eq, bytes_ne, empty_bytes, bytes_bne, bytes_bne'] at hc) <;> (try simp only [decide_eq_true_eq, decide_eq_false_iff_not, beq_iff_eq, beq_eq_false_iff_ne, bne_iff_ne, bne_eq_false_iff_eq, Bool.not_eq_true', Bool.not_eq_false', Tree.isNil_iff, Tree.isNil_not, Int.not_lt, Int.not_le, gt_iff_lt, ge_iff_le, ne_eq, Decidable.not_not, Int.toNat_natCast, Int.toNat_zero, Int.toNat_one] at hc) <;> conv => whnf)
    exact ret_closed rfl (bool_eq hp2) rfl

set_option maxHeartbeats 4000000 in
set_option maxRecDepth 10000 in
theorem isSig_ok (T : Tree) (hF : Full T) : Pure P 105 [.d (.tree T)] (.d (.bool (isSigF T))) := by
  suffices h : Pure P 105 [.d (.tree T)] (.d (.bool (isSigF T))) ∧ ∀ x ∈ T.kids, Pure P 105 [.d (.tree x)] (.d (.bool (isSigF x))) from h.1
  induction T using Tree.ind' with
  | h0 => exact absurd rfl hF.ne
  | h1 T hT ih => ?_
  refine ⟨?_, fun x hx => (ih x hx (hF.kids x hx)).1⟩
  have hn := sfields_ok T hF fun x hx y hy _ => (ih x hx (hF.kids x hx)).2 y hy
  have hb := sbare_ok T hT false
  refine Pure.of_body tt [] [2] Try.func105 rfl rfl rfl (Nat.le_of_ble_eq_true rfl) fun g => ?_
  repeat' first
    | (refine then_go hm htt ?_; conv => whnf)
    | (refine Side.mk (by first | assumption | exact trivial | rfl | exact Nat.le_of_ble_eq_true rfl | omega) ?_; conv => whnf)
    | (refine Hyp.mk fun hlen => ?_; replace hlen : _ ≤ 17592186044416 := hlen; conv => whnf)
    | (refine Split.ct ?_; conv => whnf)
    | (refine Split.cf ?_; conv => whnf)
    | (refine Split.of_true (by first | rfl | assumption | ((try simp only [bytes_eq, bytes_ne, empty_bytes, bytes_bne, bytes_bne']); (try simp only [decide_eq_true_eq, decide_eq_false_iff_not, beq_iff_eq, beq_eq_false_iff_ne, bne_iff_ne, bne_eq_false_iff_eq, Bool.not_eq_true', Bool.not_eq_false', Tree.isNil_iff, Tree.isNil_not, Int.not_lt, Int.not_le, gt_iff_lt, ge_iff_le, ne_eq, Decidable.not_not, Int.toNat_natCast, Int.toNat_zero, Int.toNat_one]); first | assumption | omega)) ?_; conv => whnf)
    | (refine Split.of_false (by first | rfl | assumption | ((try simp only [bytes_eq, bytes_ne, empty_bytes, bytes_bne, bytes_bne']); (try simp only [decide_eq_true_eq, decide_eq_false_iff_not, beq_iff_eq, beq_eq_false_iff_ne, bne_iff_ne, bne_eq_false_iff_eq, Bool.not_eq_true', Bool.not_eq_false', Tree.isNil_iff, Tree.isNil_not, Int.not_lt, Int.not_le, gt_iff_lt, ge_iff_le, ne_eq, Decidable.not_not, Int.toNat_natCast, Int.toNat_zero, Int.toNat_one]); first | assumption | omega)) ?_; conv => whnf)
    | (refine Indep.mk (by kernel_rfl) ?_; conv => whnf)
    | (refine CallG.pure hb rfl ?_; conv => whnf)
    | (refine CallG.pure hn rfl ?_; conv => whnf)
    | (refine CallG.pure (check_ok (T.kids.getD 0 .nil)) rfl ?_; conv => whnf)
    | (refine Split.mk (fun hc => ?_) (fun hc => ?_) <;> (try simp only [bytes_eq, bytes_ne, empty_bytes, bytes_bne, bytes_bne'] at hc) <;> (try simp only [decide_eq_true_eq, decide_eq_false_iff_not, beq_iff_eq, beq_eq_false_iff_ne, bne_iff_ne, bne_eq_false_iff_eq, Bool.not_eq_true', Bool.not_eq_false', Tree.isNil_iff, Tree.isNil_not, Int.not_lt, Int.not_le, gt_iff_lt, ge_iff_le, ne_eq, Decidable.not_not, Int.toNat_natCast, Int.toNat_zero, Int.toNat_one] at hc) <;> conv => whnf)
  all_goals refine ret_closed rfl (bool_eq ?_) rfl
  all_goals (simp_all [-List.getD_eq_getElem?_getD, int_dec, isSigF_eq hT] <;> omega)

set_option maxHeartbeats 4000000 in
set_option maxRecDepth 10000 in
theorem isEx_ok (T : Tree) (hF : Full T) : Pure P 106 [.d (.tree T)] (.d (.bool (exF T))) := by
  have hT := hF.ne
  refine Pure.of_body tt [] [2] Try.func106 rfl rfl rfl (Nat.le_of_ble_eq_true rfl) fun g => ?_
  repeat' first
    | (refine then_go hm htt ?_; conv => whnf)
    | (refine Side.mk (by first | assumption | exact trivial | rfl | exact Nat.le_of_ble_eq_true rfl | omega) ?_; conv => whnf)
    | (refine Hyp.mk fun hlen => ?_; replace hlen : _ ≤ 17592186044416 := hlen; conv => whnf)
    | (refine Split.ct ?_; conv => whnf)
    | (refine Split.cf ?_; conv => whnf)
    | (refine Split.of_true (by first | rfl | assumption | ((try simp only [bytes_eq, bytes_ne, empty_bytes, bytes_bne, bytes_bne']); (try simp only [decide_eq_true_eq, decide_eq_false_iff_not, beq_iff_eq, beq_eq_false_iff_ne, bne_iff_ne, bne_eq_false_iff_eq, Bool.not_eq_true', Bool.not_eq_false', Tree.isNil_iff, Tree.isNil_not, Int.not_lt, Int.not_le, gt_iff_lt, ge_iff_le, ne_eq, Decidable.not_not, Int.toNat_natCast, Int.toNat_zero, Int.toNat_one]); first | assumption | omega)) ?_; conv => whnf)
    | (refine Split.of_false (by first | rfl | assumption | ((try simp only [bytes_eq, bytes_ne, empty_bytes, bytes_bne, bytes_bne']); (try simp only [decide_eq_true_eq, decide_eq_false_iff_not, beq_iff_eq, beq_eq_false_iff_ne, bne_iff_ne, bne_eq_false_iff_eq, Bool.not_eq_true', Bool.not_eq_false', Tree.isNil_iff, Tree.isNil_not, Int.not_lt, Int.not_le, gt_iff_lt, ge_iff_le, ne_eq, Decidable.not_not, Int.toNat_natCast, Int.toNat_zero, Int.toNat_one]); first | assumption | omega)) ?_; conv => whnf)
    | (refine Indep.mk (by kernel_rfl) ?_; conv => whnf)
    | (refine CallG.pure (sbareN_ok T hT) rfl ?_; conv => whnf)
    | (refine CallG.pure (isSig_ok (T.kids.getD 0 .nil) (hF.kid (by omega))) rfl ?_; conv => whnf)
    | (refine Split.mk (fun hc => ?_) (fun hc => ?_) <;> (try simp only [bytes_eq, bytes_ne, empty_bytes, bytes_bne, bytes_bne'] at hc) <;> (try simp only [decide_eq_true_eq, decide_eq_false_iff_not, beq_iff_eq, beq_eq_false_iff_ne, bne_iff_ne, bne_eq_false_iff_eq, Bool.not_eq_true', Bool.not_eq_false', Tree.isNil_iff, Tree.isNil_not, Int.not_lt, Int.not_le, gt_iff_lt, ge_iff_le, ne_eq, Decidable.not_not, Int.toNat_natCast, Int.toNat_zero, Int.toNat_one] at hc) <;> conv => whnf)
  all_goals refine ret_closed rfl (bool_eq ?_) rfl
  all_goals (simp_all [-List.getD_eq_getElem?_getD, int_dec, exF] <;> omega)

set_option maxHeartbeats 4000000 in
set_option maxRecDepth 10000 in
theorem isFun_ok (T : Tree) (hF : Full T) : Pure P 107 [.d (.tree T)] (.d (.bool (funF T))) := by
  have hT := hF.ne
  refine Pure.of_body tt [] [2] Try.func107 rfl rfl rfl (Nat.le_of_ble_eq_true rfl) fun g => ?_
  repeat' first
    | (refine then_go hm htt ?_; conv => whnf)
    | (refine Side.mk (by first | assumption | exact trivial | rfl | exact Nat.le_of_ble_eq_true rfl | omega) ?_; conv => whnf)
    | (refine Hyp.mk fun hlen => ?_; replace hlen : _ ≤ 17592186044416 := hlen; conv => whnf)
    | (refine Split.ct ?_; conv => whnf)
    | (refine Split.cf ?_; conv => whnf)
    | (refine Split.of_true (by first | rfl | assumption | ((try simp only [bytes_eq, bytes_ne, empty_bytes, bytes_bne, bytes_bne']); (try simp only [decide_eq_true_eq, decide_eq_false_iff_not, beq_iff_eq, beq_eq_false_iff_ne, bne_iff_ne, bne_eq_false_iff_eq, Bool.not_eq_true', Bool.not_eq_false', Tree.isNil_iff, Tree.isNil_not, Int.not_lt, Int.not_le, gt_iff_lt, ge_iff_le, ne_eq, Decidable.not_not, Int.toNat_natCast, Int.toNat_zero, Int.toNat_one]); first | assumption | omega)) ?_; conv => whnf)
    | (refine Split.of_false (by first | rfl | assumption | ((try simp only [bytes_eq, bytes_ne, empty_bytes, bytes_bne, bytes_bne']); (try simp only [decide_eq_true_eq, decide_eq_false_iff_not, beq_iff_eq, beq_eq_false_iff_ne, bne_iff_ne, bne_eq_false_iff_eq, Bool.not_eq_true', Bool.not_eq_false', Tree.isNil_iff, Tree.isNil_not, Int.not_lt, Int.not_le, gt_iff_lt, ge_iff_le, ne_eq, Decidable.not_not, Int.toNat_natCast, Int.toNat_zero, Int.toNat_one]); first | assumption | omega)) ?_; conv => whnf)
    | (refine Indep.mk (by kernel_rfl) ?_; conv => whnf)
    | (refine CallG.pure (sbareN_ok T hT) rfl ?_; conv => whnf)
    | (refine CallG.pure (isSig_ok (T.kids.getD 0 .nil) (hF.kid (by omega))) rfl ?_; conv => whnf)
    | (refine CallG.pure (isEx_ok (T.kids.getD 1 .nil) (hF.kid (by omega))) rfl ?_; conv => whnf)
    | (refine Split.mk (fun hc => ?_) (fun hc => ?_) <;> (try simp only [bytes_eq, bytes_ne, empty_bytes, bytes_bne, bytes_bne'] at hc) <;> (try simp only [decide_eq_true_eq, decide_eq_false_iff_not, beq_iff_eq, beq_eq_false_iff_ne, bne_iff_ne, bne_eq_false_iff_eq, Bool.not_eq_true', Bool.not_eq_false', Tree.isNil_iff, Tree.isNil_not, Int.not_lt, Int.not_le, gt_iff_lt, ge_iff_le, ne_eq, Decidable.not_not, Int.toNat_natCast, Int.toNat_zero, Int.toNat_one] at hc) <;> conv => whnf)
  all_goals refine ret_closed rfl (bool_eq ?_) rfl
  all_goals (simp_all [-List.getD_eq_getElem?_getD, int_dec, funF] <;> omega)

set_option maxHeartbeats 4000000 in
set_option maxRecDepth 10000 in
theorem scheck_ok (T : Tree) : Pure P 55 [.d (.tree T)] (.d (.int .i64 (semE T))) := by
  refine Pure.of_body tt [] [2] Try.func55 rfl rfl rfl (Nat.le_of_ble_eq_true rfl) fun g => ?_
  repeat' first
    | (refine then_go hm htt ?_; conv => whnf)
    | (refine Side.mk (by first | assumption | exact trivial | rfl | exact Nat.le_of_ble_eq_true rfl | omega) ?_; conv => whnf)
    | (refine Hyp.mk fun hlen => ?_; replace hlen : _ ≤ 17592186044416 := hlen; conv => whnf)
    | (refine Split.ct ?_; conv => whnf)
    | (refine Split.cf ?_; conv => whnf)
    | (refine Split.of_true (by first | rfl | assumption | ((try simp only [bytes_eq, bytes_ne, empty_bytes, bytes_bne, bytes_bne']); (try simp only [decide_eq_true_eq, decide_eq_false_iff_not, beq_iff_eq, beq_eq_false_iff_ne, bne_iff_ne, bne_eq_false_iff_eq, Bool.not_eq_true', Bool.not_eq_false', Tree.isNil_iff, Tree.isNil_not, Int.not_lt, Int.not_le, gt_iff_lt, ge_iff_le, ne_eq, Decidable.not_not, Int.toNat_natCast, Int.toNat_zero, Int.toNat_one]); first | assumption | omega)) ?_; conv => whnf)
    | (refine Split.of_false (by first | rfl | assumption | ((try simp only [bytes_eq, bytes_ne, empty_bytes, bytes_bne, bytes_bne']); (try simp only [decide_eq_true_eq, decide_eq_false_iff_not, beq_iff_eq, beq_eq_false_iff_ne, bne_iff_ne, bne_eq_false_iff_eq, Bool.not_eq_true', Bool.not_eq_false', Tree.isNil_iff, Tree.isNil_not, Int.not_lt, Int.not_le, gt_iff_lt, ge_iff_le, ne_eq, Decidable.not_not, Int.toNat_natCast, Int.toNat_zero, Int.toNat_one]); first | assumption | omega)) ?_; conv => whnf)
    | (refine Indep.mk (by kernel_rfl) ?_; conv => whnf)
    | (refine CallG.fun (swhole_ok T 65536 (by omega) (by omega)) [0] rfl rfl rfl rfl rfl rfl ⟨⟨rfl, rfl, rfl⟩, trivial⟩ rfl ?_; conv => whnf)
    | (refine CallG.pure (isSig_ok T (wholeF_full T _ (by assumption))) rfl ?_; conv => whnf)
    | (refine CallG.pure (isEx_ok T (wholeF_full T _ (by assumption))) rfl ?_; conv => whnf)
    | (refine CallG.pure (isFun_ok T (wholeF_full T _ (by assumption))) rfl ?_; conv => whnf)
    | (refine Split.mk (fun hc => ?_) (fun hc => ?_) <;> (try simp only [bytes_eq, bytes_ne, empty_bytes, bytes_bne, bytes_bne'] at hc) <;> (try simp only [decide_eq_true_eq, decide_eq_false_iff_not, beq_iff_eq, beq_eq_false_iff_ne, bne_iff_ne, bne_eq_false_iff_eq, Bool.not_eq_true', Bool.not_eq_false', Tree.isNil_iff, Tree.isNil_not, Int.not_lt, Int.not_le, gt_iff_lt, ge_iff_le, ne_eq, Decidable.not_not, Int.toNat_natCast, Int.toNat_zero, Int.toNat_one] at hc) <;> conv => whnf)
  all_goals refine ret_closed rfl (int_eq ?_) rfl
  all_goals (simp_all [-List.getD_eq_getElem?_getD, int_dec, semE, checkF] <;> omega)
end Go.Proofs.Ytfblaochmhhknaa

namespace Go.Proofs.Ytfblaochmhhknaa
open Go Go.Mq
set_option linter.all false

/-! the document's forms of signatures -/
theorem bareF_tf (T : Tree) : bareF T true false = (decide (T.mark = ByteArray.empty) && (T.n == 0)) := by unfold bareF; simp
theorem bareF_ff (T : Tree) : bareF T false false = (decide (T.mark = ByteArray.empty) && decide (T.name = ByteArray.empty) && (T.n == 0)) := by unfold bareF; simp

set_option maxHeartbeats 8000000 in
set_option maxRecDepth 10000 in
theorem rIsSig_ok (T : Tree) (hF : Full T) : Pure P 113 [.d (.tree T)] (.d (.bool (isSigF T))) := by
  suffices h : Pure P 113 [.d (.tree T)] (.d (.bool (isSigF T))) ∧ ∀ x ∈ T.kids, Pure P 113 [.d (.tree x)] (.d (.bool (isSigF x))) from h.1
  induction T using Tree.ind' with
  | h0 => exact absurd rfl hF.ne
  | h1 T hT ih => ?_
  refine ⟨?_, fun x hx => (ih x hx (hF.kids x hx)).1⟩
  have hkids : ∀ p, p < T.kids.length → (T.kids.getD p .nil).kids.length = 1 → Pure P 113 [.d (.tree ((T.kids.getD p .nil).kids.getD 0 .nil))] (.d (.bool (isSigF ((T.kids.getD p .nil).kids.getD 0 .nil)))) := fun p hp h => (ih (T.kids.getD p .nil) (getD_mem hp) (hF.kid hp)).2 _ (getD_mem (by omega))
  have he := isSigF_eq hT
  clear ih
  refine Pure.of_body tt [] [2] Try.func113 rfl rfl rfl (Nat.le_of_ble_eq_true rfl) fun g => ?_
  by_cases hb : bareF T false false = true
  · rw [hb, Bool.true_and] at he
    rw [bareF_ff] at hb
    simp only [Bool.and_eq_true, decide_eq_true_eq, beq_iff_eq] at hb
    obtain ⟨⟨hb1, hb2⟩, hb3⟩ := hb
    by_cases hk : T.kind = 162
    · rw [if_neg (by omega), if_pos hk] at he
      repeat' first
        | (refine then_go hm htt ?_; conv => whnf)
        | (refine Side.mk (by first | assumption | exact trivial | rfl | exact Nat.le_of_ble_eq_true rfl | omega) ?_; conv => whnf)
        | (refine Hyp.mk fun hlen => ?_; replace hlen : _ ≤ 17592186044416 := hlen; conv => whnf)
        | (refine Split.ct ?_; conv => whnf)
        | (refine Split.cf ?_; conv => whnf)
        | (refine Split.of_true (by first | rfl | assumption | ((try simp only [bytes_eq, bytes_ne, empty_bytes, bytes_bne, bytes_bne']); (try simp only [decide_eq_true_eq, decide_eq_false_iff_not, beq_iff_eq, beq_eq_false_iff_ne, bne_iff_ne, bne_eq_false_iff_eq, Bool.not_eq_true', Bool.not_eq_false', Tree.isNil_iff, Tree.isNil_not, Int.not_lt, Int.not_le, gt_iff_lt, ge_iff_le, ne_eq, Decidable.not_not, Int.toNat_natCast, Int.toNat_zero, Int.toNat_one]); first | assumption | omega)) ?_; conv => whnf)
        | (refine Split.of_false (by first | rfl | assumption | ((try simp only [bytes_eq, bytes_ne, empty_bytes, bytes_bne, bytes_bne']); (try simp only [decide_eq_true_eq, decide_eq_false_iff_not, beq_iff_eq, beq_eq_false_iff_ne, bne_iff_ne, bne_eq_false_iff_eq, Bool.not_eq_true', Bool.not_eq_false', Tree.isNil_iff, Tree.isNil_not, Int.not_lt, Int.not_le, gt_iff_lt, ge_iff_le, ne_eq, Decidable.not_not, Int.toNat_natCast, Int.toNat_zero, Int.toNat_one]); first | assumption | omega)) ?_; conv => whnf)
        | (refine Indep.mk (by kernel_rfl) ?_; conv => whnf)
        | (refine Split.mk (fun hc => ?_) (fun hc => ?_) <;> (try simp only [bytes_eq, bytes_ne, empty_bytes, bytes_bne, bytes_bne'] at hc) <;> (try simp only [decide_eq_true_eq, decide_eq_false_iff_not, beq_iff_eq, beq_eq_false_iff_ne, bne_iff_ne, bne_eq_false_iff_eq, Bool.not_eq_true', Bool.not_eq_false', Tree.isNil_iff, Tree.isNil_not, Int.not_lt, Int.not_le, gt_iff_lt, ge_iff_le, ne_eq, Decidable.not_not, Int.toNat_natCast, Int.toNat_zero, Int.toNat_one] at hc) <;> conv => whnf)
      refine loop_go (α := Nat) (fun p => ⟨[(0, .d (.tree T)), (3, .d (.trees T.kids)), (4, .d (.int .i64 p))], 138, [], 0, g⟩)
        (fun p => p ≤ T.kids.length ∧ (sigFieldsF (T.kids.drop p) && risingF (T.kids.drop (p - 1))) = (sigFieldsF T.kids && risingF T.kids)) (fun p => T.kids.length - p) 0 ⟨by omega, rfl⟩
        (Ent.re [] rfl rfl rfl rfl rfl rfl (by repeat' first | exact trivial | apply And.intro | rfl | (refine int_eq ?_; rw [wrap64] <;> omega)) (by repeat' first | exact trivial | apply And.intro | rfl | (refine int_eq ?_; rw [wrap64] <;> omega))) (fun _ => rfl) fun p hpre => ?_
      obtain ⟨hp1, hp2⟩ := hpre
      rw [← he] at hp2
      by_cases hlt : p < T.kids.length
      · have hx := hF.kid hlt
        rw [drop_step hlt, sigFieldsF] at hp2
        have hfe := sigFieldF_eq hx.ne
        have hkid := hkids p hlt
        by_cases hok : sigFieldF (T.kids.getD p .nil) = true
        · rw [hok, Bool.true_and] at hp2
          rw [hfe, bareF_tf] at hok
          simp only [Bool.and_eq_true, beq_iff_eq, labelF, decide_eq_true_eq] at hok
          obtain ⟨⟨⟨⟨o1, o2, o2'⟩, o3, o3'⟩, o4⟩, o5⟩ := hok
          have hs : Pure P 113 [.d (.tree ((T.kids.getD p .nil).kids.getD 0 .nil))] (.d (.bool true)) := by
            have := hkid (by omega)
            rw [o5] at this
            exact this
          by_cases hp0 : p = 0
          · subst hp0
            repeat' first
              | (refine then_go hm htt ?_; conv => whnf)
              | (refine Side.mk (by first | assumption | exact trivial | rfl | exact Nat.le_of_ble_eq_true rfl | omega) ?_; conv => whnf)
              | (refine Hyp.mk fun hlen => ?_; replace hlen : _ ≤ 17592186044416 := hlen; conv => whnf)
              | (refine Split.ct ?_; conv => whnf)
              | (refine Split.cf ?_; conv => whnf)
              | (refine Split.of_true (by first | rfl | assumption | ((try simp only [bytes_eq, bytes_ne, empty_bytes, bytes_bne, bytes_bne']); (try simp only [decide_eq_true_eq, decide_eq_false_iff_not, beq_iff_eq, beq_eq_false_iff_ne, bne_iff_ne, bne_eq_false_iff_eq, Bool.not_eq_true', Bool.not_eq_false', Tree.isNil_iff, Tree.isNil_not, Int.not_lt, Int.not_le, gt_iff_lt, ge_iff_le, ne_eq, Decidable.not_not, Int.toNat_natCast, Int.toNat_zero, Int.toNat_one]); first | assumption | omega)) ?_; conv => whnf)
              | (refine Split.of_false (by first | rfl | assumption | ((try simp only [bytes_eq, bytes_ne, empty_bytes, bytes_bne, bytes_bne']); (try simp only [decide_eq_true_eq, decide_eq_false_iff_not, beq_iff_eq, beq_eq_false_iff_ne, bne_iff_ne, bne_eq_false_iff_eq, Bool.not_eq_true', Bool.not_eq_false', Tree.isNil_iff, Tree.isNil_not, Int.not_lt, Int.not_le, gt_iff_lt, ge_iff_le, ne_eq, Decidable.not_not, Int.toNat_natCast, Int.toNat_zero, Int.toNat_one]); first | assumption | omega)) ?_; conv => whnf)
              | (refine Indep.mk (by kernel_rfl) ?_; conv => whnf)
              | (refine Side.mk (show (0 : Int) ≤ (0 : Int) ∧ (0 : Int) < (T.kids.length : Int) from ⟨by omega, by omega⟩) ?_; conv => whnf)
              | (refine Side.mk hx.ne ?_; conv => whnf)
              | (refine Side.mk (show (0 : Int) ≤ 0 ∧ (0 : Int) < ((T.kids.getD 0 .nil).kids.length : Int) from ⟨by omega, by omega⟩) ?_; conv => whnf)
              | (refine CallG.pure hs rfl ?_; conv => whnf)
              | (refine Split.mk (fun hc => ?_) (fun hc => ?_) <;> (try simp only [bytes_eq, bytes_ne, empty_bytes, bytes_bne, bytes_bne'] at hc) <;> (try simp only [decide_eq_true_eq, decide_eq_false_iff_not, beq_iff_eq, beq_eq_false_iff_ne, bne_iff_ne, bne_eq_false_iff_eq, Bool.not_eq_true', Bool.not_eq_false', Tree.isNil_iff, Tree.isNil_not, Int.not_lt, Int.not_le, gt_iff_lt, ge_iff_le, ne_eq, Decidable.not_not, Int.toNat_natCast, Int.toNat_zero, Int.toNat_one] at hc) <;> conv => whnf)
            exact ⟨1, ⟨by omega, by rw [he] at hp2; exact hp2⟩, by omega, Ent.re [] rfl rfl rfl rfl rfl rfl (by repeat' first | exact trivial | apply And.intro | rfl | (refine int_eq ?_; rw [wrap64] <;> omega)) (by repeat' first | exact trivial | apply And.intro | rfl | (refine int_eq ?_; rw [wrap64] <;> omega))⟩
          · have hy := hF.kid (show p - 1 < T.kids.length by omega)
            have hr := risingF_drop (l := T.kids) (i := p - 1) (by omega)
            rw [show p - 1 + 1 = p by omega] at hr
            rw [hr] at hp2
            repeat' first
              | (refine then_go hm htt ?_; conv => whnf)
              | (refine Side.mk (by first | assumption | exact trivial | rfl | exact Nat.le_of_ble_eq_true rfl | omega) ?_; conv => whnf)
              | (refine Hyp.mk fun hlen => ?_; replace hlen : _ ≤ 17592186044416 := hlen; conv => whnf)
              | (refine Split.ct ?_; conv => whnf)
              | (refine Split.cf ?_; conv => whnf)
              | (refine Split.of_true (by first | rfl | assumption | ((try simp only [bytes_eq, bytes_ne, empty_bytes, bytes_bne, bytes_bne']); (try simp only [decide_eq_true_eq, decide_eq_false_iff_not, beq_iff_eq, beq_eq_false_iff_ne, bne_iff_ne, bne_eq_false_iff_eq, Bool.not_eq_true', Bool.not_eq_false', Tree.isNil_iff, Tree.isNil_not, Int.not_lt, Int.not_le, gt_iff_lt, ge_iff_le, ne_eq, Decidable.not_not, Int.toNat_natCast, Int.toNat_zero, Int.toNat_one]); first | assumption | omega)) ?_; conv => whnf)
              | (refine Split.of_false (by first | rfl | assumption | ((try simp only [bytes_eq, bytes_ne, empty_bytes, bytes_bne, bytes_bne']); (try simp only [decide_eq_true_eq, decide_eq_false_iff_not, beq_iff_eq, beq_eq_false_iff_ne, bne_iff_ne, bne_eq_false_iff_eq, Bool.not_eq_true', Bool.not_eq_false', Tree.isNil_iff, Tree.isNil_not, Int.not_lt, Int.not_le, gt_iff_lt, ge_iff_le, ne_eq, Decidable.not_not, Int.toNat_natCast, Int.toNat_zero, Int.toNat_one]); first | assumption | omega)) ?_; conv => whnf)
              | (refine Indep.mk (by kernel_rfl) ?_; conv => whnf)
              | (rw [show IntKind.i64.wrap ((p : Int) - 1) = ((p - 1 : Nat) : Int) from by rw [wrap64] <;> omega]; conv => whnf)
              | (refine Side.mk (show (0 : Int) ≤ (p : Int) ∧ (p : Int) < (T.kids.length : Int) from ⟨by omega, by omega⟩) ?_; conv => whnf)
              | (refine Side.mk (show (0 : Int) ≤ ((p - 1 : Nat) : Int) ∧ ((p - 1 : Nat) : Int) < (T.kids.length : Int) from ⟨by omega, by omega⟩) ?_; conv => whnf)
              | (refine Side.mk hx.ne ?_; conv => whnf)
              | (refine Side.mk hy.ne ?_; conv => whnf)
              | (refine Side.mk (show (0 : Int) ≤ 0 ∧ (0 : Int) < ((T.kids.getD p .nil).kids.length : Int) from ⟨by omega, by omega⟩) ?_; conv => whnf)
              | (refine CallG.pure hs rfl ?_; conv => whnf)
              | (refine Split.mk (fun hc => ?_) (fun hc => ?_) <;> (try simp only [bytes_eq, bytes_ne, empty_bytes, bytes_bne, bytes_bne'] at hc) <;> (try simp only [decide_eq_true_eq, decide_eq_false_iff_not, beq_iff_eq, beq_eq_false_iff_ne, bne_iff_ne, bne_eq_false_iff_eq, Bool.not_eq_true', Bool.not_eq_false', Tree.isNil_iff, Tree.isNil_not, Int.not_lt, Int.not_le, gt_iff_lt, ge_iff_le, ne_eq, Decidable.not_not, Int.toNat_natCast, Int.toNat_zero, Int.toNat_one] at hc) <;> conv => whnf)
            · rw [show ltB (T.kids.getD (p - 1) .nil).name (T.kids.getD p .nil).name = false from hc, Bool.false_and, Bool.and_false] at hp2
              exact ret_closed rfl (bool_eq hp2) rfl
            · rw [show ltB (T.kids.getD (p - 1) .nil).name (T.kids.getD p .nil).name = true from hc, Bool.true_and, he] at hp2
              exact ⟨p + 1, ⟨by omega, hp2⟩, by omega, Ent.re [] rfl rfl rfl rfl rfl rfl (by repeat' first | exact trivial | apply And.intro | rfl | (refine int_eq ?_; rw [wrap64] <;> omega)) (by repeat' first | exact trivial | apply And.intro | rfl | (refine int_eq ?_; rw [wrap64] <;> omega))⟩
        · have hno : sigFieldF (T.kids.getD p .nil) = false := by cases h : sigFieldF (T.kids.getD p .nil) <;> simp_all
          rw [hno, Bool.false_and, Bool.false_and] at hp2
          rw [hfe, bareF_tf] at hno
          have hfin : (T.kids.getD p .nil).kind = 163 → (T.kids.getD p .nil).mark = ByteArray.empty → (T.kids.getD p .nil).n = 0 → 1 ≤ ((T.kids.getD p .nil).name.size : Int) → ((T.kids.getD p .nil).name.size : Int) ≤ 160 → ((T.kids.getD p .nil).kids.length : Int) = 1 → isSigF ((T.kids.getD p .nil).kids.getD 0 .nil) = true → False := by
            intro h1 h2 h2' h3 h4 h5 h6
            rw [h1, h2, h2', h5, h6, labelF, decide_eq_true h3, decide_eq_true h4] at hno
            simp at hno
          clear hok hfe
          repeat' first
            | (refine then_go hm htt ?_; conv => whnf)
            | (refine Side.mk (by first | assumption | exact trivial | rfl | exact Nat.le_of_ble_eq_true rfl | omega) ?_; conv => whnf)
            | (refine Hyp.mk fun hlen => ?_; replace hlen : _ ≤ 17592186044416 := hlen; conv => whnf)
            | (refine Split.ct ?_; conv => whnf)
            | (refine Split.cf ?_; conv => whnf)
            | (refine Split.of_true (by first | rfl | assumption | ((try simp only [bytes_eq, bytes_ne, empty_bytes, bytes_bne, bytes_bne']); (try simp only [decide_eq_true_eq, decide_eq_false_iff_not, beq_iff_eq, beq_eq_false_iff_ne, bne_iff_ne, bne_eq_false_iff_eq, Bool.not_eq_true', Bool.not_eq_false', Tree.isNil_iff, Tree.isNil_not, Int.not_lt, Int.not_le, gt_iff_lt, ge_iff_le, ne_eq, Decidable.not_not, Int.toNat_natCast, Int.toNat_zero, Int.toNat_one]); first | assumption | omega)) ?_; conv => whnf)
            | (refine Split.of_false (by first | rfl | assumption | ((try simp only [bytes_eq, bytes_ne, empty_bytes, bytes_bne, bytes_bne']); (try simp only [decide_eq_true_eq, decide_eq_false_iff_not, beq_iff_eq, beq_eq_false_iff_ne, bne_iff_ne, bne_eq_false_iff_eq, Bool.not_eq_true', Bool.not_eq_false', Tree.isNil_iff, Tree.isNil_not, Int.not_lt, Int.not_le, gt_iff_lt, ge_iff_le, ne_eq, Decidable.not_not, Int.toNat_natCast, Int.toNat_zero, Int.toNat_one]); first | assumption | omega)) ?_; conv => whnf)
            | (refine Indep.mk (by kernel_rfl) ?_; conv => whnf)
            | (refine Side.mk (show (0 : Int) ≤ (p : Int) ∧ (p : Int) < (T.kids.length : Int) from ⟨by omega, by omega⟩) ?_; conv => whnf)
            | (refine Side.mk hx.ne ?_; conv => whnf)
            | (refine Side.mk (show (0 : Int) ≤ 0 ∧ (0 : Int) < ((T.kids.getD p .nil).kids.length : Int) from ⟨by omega, by omega⟩) ?_; conv => whnf)
            | (refine CallG.pure (hkid (by omega)) rfl ?_; conv => whnf)
            | (exfalso; exact hfin (by omega) (by assumption) (by omega) (by omega) (by omega) (by omega) (by assumption))
            | (refine Split.mk (fun hc => ?_) (fun hc => ?_) <;> (try simp only [bytes_eq, bytes_ne, empty_bytes, bytes_bne, bytes_bne'] at hc) <;> (try simp only [decide_eq_true_eq, decide_eq_false_iff_not, beq_iff_eq, beq_eq_false_iff_ne, bne_iff_ne, bne_eq_false_iff_eq, Bool.not_eq_true', Bool.not_eq_false', Tree.isNil_iff, Tree.isNil_not, Int.not_lt, Int.not_le, gt_iff_lt, ge_iff_le, ne_eq, Decidable.not_not, Int.toNat_natCast, Int.toNat_zero, Int.toNat_one] at hc) <;> conv => whnf)
          all_goals exact ret_closed rfl (bool_eq hp2) rfl
      · rw [drop_end (by omega), sigFieldsF, Bool.true_and, risingF_end (by omega)] at hp2
        repeat' first
          | (refine then_go hm htt ?_; conv => whnf)
          | (refine Side.mk (by first | assumption | exact trivial | rfl | exact Nat.le_of_ble_eq_true rfl | omega) ?_; conv => whnf)
          | (refine Hyp.mk fun hlen => ?_; replace hlen : _ ≤ 17592186044416 := hlen; conv => whnf)
          | (refine Split.ct ?_; conv => whnf)
          | (refine Split.cf ?_; conv => whnf)
          | (refine Split.of_true (by first | rfl | assumption | ((try simp only [bytes_eq, bytes_ne, empty_bytes, bytes_bne, bytes_bne']); (try simp only [decide_eq_true_eq, decide_eq_false_iff_not, beq_iff_eq, beq_eq_false_iff_ne, bne_iff_ne, bne_eq_false_iff_eq, Bool.not_eq_true', Bool.not_eq_false', Tree.isNil_iff, Tree.isNil_not, Int.not_lt, Int.not_le, gt_iff_lt, ge_iff_le, ne_eq, Decidable.not_not, Int.toNat_natCast, Int.toNat_zero, Int.toNat_one]); first | assumption | omega)) ?_; conv => whnf)
          | (refine Split.of_false (by first | rfl | assumption | ((try simp only [bytes_eq, bytes_ne, empty_bytes, bytes_bne, bytes_bne']); (try simp only [decide_eq_true_eq, decide_eq_false_iff_not, beq_iff_eq, beq_eq_false_iff_ne, bne_iff_ne, bne_eq_false_iff_eq, Bool.not_eq_true', Bool.not_eq_false', Tree.isNil_iff, Tree.isNil_not, Int.not_lt, Int.not_le, gt_iff_lt, ge_iff_le, ne_eq, Decidable.not_not, Int.toNat_natCast, Int.toNat_zero, Int.toNat_one]); first | assumption | omega)) ?_; conv => whnf)
          | (refine Indep.mk (by kernel_rfl) ?_; conv => whnf)
          | (refine Split.mk (fun hc => ?_) (fun hc => ?_) <;> (try simp only [bytes_eq, bytes_ne, empty_bytes, bytes_bne, bytes_bne'] at hc) <;> (try simp only [decide_eq_true_eq, decide_eq_false_iff_not, beq_iff_eq, beq_eq_false_iff_ne, bne_iff_ne, bne_eq_false_iff_eq, Bool.not_eq_true', Bool.not_eq_false', Tree.isNil_iff, Tree.isNil_not, Int.not_lt, Int.not_le, gt_iff_lt, ge_iff_le, ne_eq, Decidable.not_not, Int.toNat_natCast, Int.toNat_zero, Int.toNat_one] at hc) <;> conv => whnf)
        exact ret_closed rfl (bool_eq hp2) rfl
    · rw [if_neg hk] at he
      have hck := rcheck_ok (T.kids.getD 0 .nil)
      repeat' first
        | (refine then_go hm htt ?_; conv => whnf)
        | (refine Side.mk (by first | assumption | exact trivial | rfl | exact Nat.le_of_ble_eq_true rfl | omega) ?_; conv => whnf)
        | (refine Hyp.mk fun hlen => ?_; replace hlen : _ ≤ 17592186044416 := hlen; conv => whnf)
        | (refine Split.ct ?_; conv => whnf)
        | (refine Split.cf ?_; conv => whnf)
        | (refine Split.of_true (by first | rfl | assumption | ((try simp only [bytes_eq, bytes_ne, empty_bytes, bytes_bne, bytes_bne']); (try simp only [decide_eq_true_eq, decide_eq_false_iff_not, beq_iff_eq, beq_eq_false_iff_ne, bne_iff_ne, bne_eq_false_iff_eq, Bool.not_eq_true', Bool.not_eq_false', Tree.isNil_iff, Tree.isNil_not, Int.not_lt, Int.not_le, gt_iff_lt, ge_iff_le, ne_eq, Decidable.not_not, Int.toNat_natCast, Int.toNat_zero, Int.toNat_one]); first | assumption | omega)) ?_; conv => whnf)
        | (refine Split.of_false (by first | rfl | assumption | ((try simp only [bytes_eq, bytes_ne, empty_bytes, bytes_bne, bytes_bne']); (try simp only [decide_eq_true_eq, decide_eq_false_iff_not, beq_iff_eq, beq_eq_false_iff_ne, bne_iff_ne, bne_eq_false_iff_eq, Bool.not_eq_true', Bool.not_eq_false', Tree.isNil_iff, Tree.isNil_not, Int.not_lt, Int.not_le, gt_iff_lt, ge_iff_le, ne_eq, Decidable.not_not, Int.toNat_natCast, Int.toNat_zero, Int.toNat_one]); first | assumption | omega)) ?_; conv => whnf)
        | (refine Indep.mk (by kernel_rfl) ?_; conv => whnf)
        | (refine Side.mk (show (0 : Int) ≤ 0 ∧ (0 : Int) < (T.kids.length : Int) from ⟨by omega, by omega⟩) ?_; conv => whnf)
        | (refine CallG.pure hck rfl ?_; conv => whnf)
        | (refine Split.mk (fun hc => ?_) (fun hc => ?_) <;> (try simp only [bytes_eq, bytes_ne, empty_bytes, bytes_bne, bytes_bne'] at hc) <;> (try simp only [decide_eq_true_eq, decide_eq_false_iff_not, beq_iff_eq, beq_eq_false_iff_ne, bne_iff_ne, bne_eq_false_iff_eq, Bool.not_eq_true', Bool.not_eq_false', Tree.isNil_iff, Tree.isNil_not, Int.not_lt, Int.not_le, gt_iff_lt, ge_iff_le, ne_eq, Decidable.not_not, Int.toNat_natCast, Int.toNat_zero, Int.toNat_one] at hc) <;> conv => whnf)
      all_goals refine ret_closed rfl (bool_eq ?_) rfl
      all_goals (rw [he]; first | (rw [if_neg (by omega)]; done) | (rw [if_pos (by omega)]; simp_all [-List.getD_eq_getElem?_getD, int_dec]; done))
  · have hno : isSigF T = false := by rw [he]; simp [hb]
    have hfin : T.mark = ByteArray.empty → T.name = ByteArray.empty → T.n = 0 → False := by
      intro h1 h2 h3
      rw [bareF_ff, h1, h2, h3] at hb
      simp at hb
    repeat' first
      | (refine then_go hm htt ?_; conv => whnf)
      | (refine Side.mk (by first | assumption | exact trivial | rfl | exact Nat.le_of_ble_eq_true rfl | omega) ?_; conv => whnf)
      | (refine Hyp.mk fun hlen => ?_; replace hlen : _ ≤ 17592186044416 := hlen; conv => whnf)
      | (refine Split.ct ?_; conv => whnf)
      | (refine Split.cf ?_; conv => whnf)
      | (refine Split.of_true (by first | rfl | assumption | ((try simp only [bytes_eq, bytes_ne, empty_bytes, bytes_bne, bytes_bne']); (try simp only [decide_eq_true_eq, decide_eq_false_iff_not, beq_iff_eq, beq_eq_false_iff_ne, bne_iff_ne, bne_eq_false_iff_eq, Bool.not_eq_true', Bool.not_eq_false', Tree.isNil_iff, Tree.isNil_not, Int.not_lt, Int.not_le, gt_iff_lt, ge_iff_le, ne_eq, Decidable.not_not, Int.toNat_natCast, Int.toNat_zero, Int.toNat_one]); first | assumption | omega)) ?_; conv => whnf)
      | (refine Split.of_false (by first | rfl | assumption | ((try simp only [bytes_eq, bytes_ne, empty_bytes, bytes_bne, bytes_bne']); (try simp only [decide_eq_true_eq, decide_eq_false_iff_not, beq_iff_eq, beq_eq_false_iff_ne, bne_iff_ne, bne_eq_false_iff_eq, Bool.not_eq_true', Bool.not_eq_false', Tree.isNil_iff, Tree.isNil_not, Int.not_lt, Int.not_le, gt_iff_lt, ge_iff_le, ne_eq, Decidable.not_not, Int.toNat_natCast, Int.toNat_zero, Int.toNat_one]); first | assumption | omega)) ?_; conv => whnf)
      | (refine Indep.mk (by kernel_rfl) ?_; conv => whnf)
      | (exfalso; exact hfin (by assumption) (by assumption) (by omega))
      | (refine Split.mk (fun hc => ?_) (fun hc => ?_) <;> (try simp only [bytes_eq, bytes_ne, empty_bytes, bytes_bne, bytes_bne'] at hc) <;> (try simp only [decide_eq_true_eq, decide_eq_false_iff_not, beq_iff_eq, beq_eq_false_iff_ne, bne_iff_ne, bne_eq_false_iff_eq, Bool.not_eq_true', Bool.not_eq_false', Tree.isNil_iff, Tree.isNil_not, Int.not_lt, Int.not_le, gt_iff_lt, ge_iff_le, ne_eq, Decidable.not_not, Int.toNat_natCast, Int.toNat_zero, Int.toNat_one] at hc) <;> conv => whnf)
    all_goals exact ret_closed rfl (bool_eq hno.symm) rfl

def binF (T : Tree) (kind cnt : Int) : Bool := (T.kind == kind) && bareNF T && ((T.kids.length : Int) == cnt)
set_option maxHeartbeats 4000000 in
set_option maxRecDepth 10000 in
theorem binder_ok (T : Tree) (hT : T ≠ .nil) (kind cnt : Int) : Pure P 115 [.d (.tree T), .d (.int .i64 kind), .d (.int .i64 cnt)] (.d (.bool (binF T kind cnt))) := by
  refine Pure.of_body tt [] [6] Try.func115 rfl rfl rfl (Nat.le_of_ble_eq_true rfl) fun g => ?_
  repeat' first
    | (refine then_go hm htt ?_; conv => whnf)
    | (refine Side.mk (by first | assumption | exact trivial | rfl | exact Nat.le_of_ble_eq_true rfl | omega) ?_; conv => whnf)
    | (refine Hyp.mk fun hlen => ?_; replace hlen : _ ≤ 17592186044416 := hlen; conv => whnf)
    | (refine Split.ct ?_; conv => whnf)
    | (refine Split.cf ?_; conv => whnf)
    | (refine Split.of_true (by first | rfl | assumption | ((try simp only [bytes_eq, bytes_ne, empty_bytes, bytes_bne, bytes_bne']); (try simp only [decide_eq_true_eq, decide_eq_false_iff_not, beq_iff_eq, beq_eq_false_iff_ne, bne_iff_ne, bne_eq_false_iff_eq, Bool.not_eq_true', Bool.not_eq_false', Tree.isNil_iff, Tree.isNil_not, Int.not_lt, Int.not_le, gt_iff_lt, ge_iff_le, ne_eq, Decidable.not_not, Int.toNat_natCast, Int.toNat_zero, Int.toNat_one]); first | assumption | omega)) ?_; conv => whnf)
    | (refine Split.of_false (by first | rfl | assumption | ((try simp only [bytes_eq, bytes_ne, empty_bytes, bytes_bne, bytes_bne']); (try simp only [decide_eq_true_eq, decide_eq_false_iff_not, beq_iff_eq, beq_eq_false_iff_ne, bne_iff_ne, bne_eq_false_iff_eq, Bool.not_eq_true', Bool.not_eq_false', Tree.isNil_iff, Tree.isNil_not, Int.not_lt, Int.not_le, gt_iff_lt, ge_iff_le, ne_eq, Decidable.not_not, Int.toNat_natCast, Int.toNat_zero, Int.toNat_one]); first | assumption | omega)) ?_; conv => whnf)
    | (refine Indep.mk (by kernel_rfl) ?_; conv => whnf)
    | (refine Split.mk (fun hc => ?_) (fun hc => ?_) <;> (try simp only [bytes_eq, bytes_ne, empty_bytes, bytes_bne, bytes_bne'] at hc) <;> (try simp only [decide_eq_true_eq, decide_eq_false_iff_not, beq_iff_eq, beq_eq_false_iff_ne, bne_iff_ne, bne_eq_false_iff_eq, Bool.not_eq_true', Bool.not_eq_false', Tree.isNil_iff, Tree.isNil_not, Int.not_lt, Int.not_le, gt_iff_lt, ge_iff_le, ne_eq, Decidable.not_not, Int.toNat_natCast, Int.toNat_zero, Int.toNat_one] at hc) <;> conv => whnf)
  all_goals refine ret_closed rfl (bool_eq ?_) rfl
  all_goals (simp_all [-List.getD_eq_getElem?_getD, int_dec, binF, bareNF] <;> omega)

set_option maxHeartbeats 4000000 in
set_option maxRecDepth 10000 in
theorem rIsEx_ok (T : Tree) (hF : Full T) : Pure P 114 [.d (.tree T)] (.d (.bool (exF T))) := by
  have hT := hF.ne
  have he : exF T = (binF T 164 1 && isSigF (T.kids.getD 0 .nil)) := by unfold exF binF; rfl
  have hl : binF T 164 1 = true → T.kids.length = 1 := by intro h; unfold binF at h; simp only [Bool.and_eq_true, beq_iff_eq] at h; omega
  refine Pure.of_body tt [] [2] Try.func114 rfl rfl rfl (Nat.le_of_ble_eq_true rfl) fun g => ?_
  repeat' first
    | (refine then_go hm htt ?_; conv => whnf)
    | (refine Side.mk (by first | assumption | exact trivial | rfl | exact Nat.le_of_ble_eq_true rfl | omega) ?_; conv => whnf)
    | (refine Hyp.mk fun hlen => ?_; replace hlen : _ ≤ 17592186044416 := hlen; conv => whnf)
    | (refine Split.ct ?_; conv => whnf)
    | (refine Split.cf ?_; conv => whnf)
    | (refine Split.of_true (by first | rfl | assumption | ((try simp only [bytes_eq, bytes_ne, empty_bytes, bytes_bne, bytes_bne']); (try simp only [decide_eq_true_eq, decide_eq_false_iff_not, beq_iff_eq, beq_eq_false_iff_ne, bne_iff_ne, bne_eq_false_iff_eq, Bool.not_eq_true', Bool.not_eq_false', Tree.isNil_iff, Tree.isNil_not, Int.not_lt, Int.not_le, gt_iff_lt, ge_iff_le, ne_eq, Decidable.not_not, Int.toNat_natCast, Int.toNat_zero, Int.toNat_one]); first | assumption | omega)) ?_; conv => whnf)
    | (refine Split.of_false (by first | rfl | assumption | ((try simp only [bytes_eq, bytes_ne, empty_bytes, bytes_bne, bytes_bne']); (try simp only [decide_eq_true_eq, decide_eq_false_iff_not, beq_iff_eq, beq_eq_false_iff_ne, bne_iff_ne, bne_eq_false_iff_eq, Bool.not_eq_true', Bool.not_eq_false', Tree.isNil_iff, Tree.isNil_not, Int.not_lt, Int.not_le, gt_iff_lt, ge_iff_le, ne_eq, Decidable.not_not, Int.toNat_natCast, Int.toNat_zero, Int.toNat_one]); first | assumption | omega)) ?_; conv => whnf)
    | (refine Indep.mk (by kernel_rfl) ?_; conv => whnf)
    | (refine CallG.pure (binder_ok T hT _ _) rfl ?_; conv => whnf)
    | (refine Side.mk (show (0 : Int) ≤ 0 ∧ (0 : Int) < (T.kids.length : Int) from ⟨by omega, by have := hl (by assumption); omega⟩) ?_; conv => whnf)
    | (refine CallG.pure (rIsSig_ok (T.kids.getD 0 .nil) (hF.kid (by have := hl (by assumption); omega))) rfl ?_; conv => whnf)
    | (refine Split.mk (fun hc => ?_) (fun hc => ?_) <;> (try simp only [bytes_eq, bytes_ne, empty_bytes, bytes_bne, bytes_bne'] at hc) <;> (try simp only [decide_eq_true_eq, decide_eq_false_iff_not, beq_iff_eq, beq_eq_false_iff_ne, bne_iff_ne, bne_eq_false_iff_eq, Bool.not_eq_true', Bool.not_eq_false', Tree.isNil_iff, Tree.isNil_not, Int.not_lt, Int.not_le, gt_iff_lt, ge_iff_le, ne_eq, Decidable.not_not, Int.toNat_natCast, Int.toNat_zero, Int.toNat_one] at hc) <;> conv => whnf)
  all_goals refine ret_closed rfl (bool_eq ?_) rfl
  all_goals (rw [he]; simp_all [-List.getD_eq_getElem?_getD])

theorem whole_code (T : Tree) : ∀ left : Int, (wholeF left T).1 = 0 ∨ (wholeF left T).1 = 1 ∨ (wholeF left T).1 = 3 := by
  induction T using Tree.ind' with
  | h0 => intro left; rw [wholeF]; exact .inr (.inl rfl)
  | h1 T hT ih =>
    have kids : ∀ (l : List Tree), (∀ x ∈ l, ∀ left : Int, (wholeF left x).1 = 0 ∨ (wholeF left x).1 = 1 ∨ (wholeF left x).1 = 3) → ∀ left : Int, (wholesF left l).1 = 0 ∨ (wholesF left l).1 = 1 ∨ (wholesF left l).1 = 3 := by
      intro l
      induction l with
      | nil => intro _ left; rw [wholesF]; exact .inl rfl
      | cons x l ih2 =>
        intro hx left
        rw [wholesF]
        split
        · exact ih2 (fun y hy => hx y (by simp [hy])) _
        · exact hx x (by simp) left
    intro left
    rw [wholeF_kids hT]
    split
    · exact .inr (.inr rfl)
    · exact kids T.kids ih _

set_option maxHeartbeats 4000000 in
set_option maxRecDepth 10000 in
theorem rSemCheck_ok (T : Tree) : Pure P 61 [.d (.tree T)] (.d (.int .i64 (semE T))) := by
  have hcode := whole_code T 65536
  refine Pure.of_body tt [] [2] Try.func61 rfl rfl rfl (Nat.le_of_ble_eq_true rfl) fun g => ?_
  by_cases hw : (wholeF 65536 T).1 = 0
  · have hF := wholeF_full T _ hw
    have hT := hF.ne
    have hcE : conE T = 0 ∨ conE T = 16 := by unfold conE checkF; rw [if_pos hw]; split <;> simp
    have hsE : semE T = if (isSigF T || exF T || funF T) then 0 else 16 := by unfold semE checkF; rw [if_pos hw]
    have hfe : funF T = (binF T 165 2 && isSigF (T.kids.getD 0 .nil) && exF (T.kids.getD 1 .nil)) := by unfold funF binF; rfl
    have hl : binF T 165 2 = true → T.kids.length = 2 := by intro h; unfold binF at h; simp only [Bool.and_eq_true, beq_iff_eq] at h; omega
    repeat' first
      | (refine then_go hm htt ?_; conv => whnf)
      | (refine Side.mk (by first | assumption | exact trivial | rfl | exact Nat.le_of_ble_eq_true rfl | omega) ?_; conv => whnf)
      | (refine Hyp.mk fun hlen => ?_; replace hlen : _ ≤ 17592186044416 := hlen; conv => whnf)
      | (refine Split.ct ?_; conv => whnf)
      | (refine Split.cf ?_; conv => whnf)
      | (refine Split.of_true (by first | rfl | assumption | ((try simp only [bytes_eq, bytes_ne, empty_bytes, bytes_bne, bytes_bne']); (try simp only [decide_eq_true_eq, decide_eq_false_iff_not, beq_iff_eq, beq_eq_false_iff_ne, bne_iff_ne, bne_eq_false_iff_eq, Bool.not_eq_true', Bool.not_eq_false', Tree.isNil_iff, Tree.isNil_not, Int.not_lt, Int.not_le, gt_iff_lt, ge_iff_le, ne_eq, Decidable.not_not, Int.toNat_natCast, Int.toNat_zero, Int.toNat_one]); first | assumption | omega)) ?_; conv => whnf)
      | (refine Split.of_false (by first | rfl | assumption | ((try simp only [bytes_eq, bytes_ne, empty_bytes, bytes_bne, bytes_bne']); (try simp only [decide_eq_true_eq, decide_eq_false_iff_not, beq_iff_eq, beq_eq_false_iff_ne, bne_iff_ne, bne_eq_false_iff_eq, Bool.not_eq_true', Bool.not_eq_false', Tree.isNil_iff, Tree.isNil_not, Int.not_lt, Int.not_le, gt_iff_lt, ge_iff_le, ne_eq, Decidable.not_not, Int.toNat_natCast, Int.toNat_zero, Int.toNat_one]); first | assumption | omega)) ?_; conv => whnf)
      | (refine Indep.mk (by kernel_rfl) ?_; conv => whnf)
      | (refine CallG.pure (rcheck_ok T) rfl ?_; conv => whnf)
      | (refine CallG.pure (rIsSig_ok T hF) rfl ?_; conv => whnf)
      | (refine CallG.pure (rIsEx_ok T hF) rfl ?_; conv => whnf)
      | (refine CallG.pure (binder_ok T hT _ _) rfl ?_; conv => whnf)
      | (refine Side.mk (show (0 : Int) ≤ 0 ∧ (0 : Int) < (T.kids.length : Int) from ⟨by omega, by have := hl (by assumption); omega⟩) ?_; conv => whnf)
      | (refine Side.mk (show (0 : Int) ≤ 1 ∧ (1 : Int) < (T.kids.length : Int) from ⟨by omega, by have := hl (by assumption); omega⟩) ?_; conv => whnf)
      | (refine CallG.pure (rIsSig_ok (T.kids.getD 0 .nil) (hF.kid (by have := hl (by assumption); omega))) rfl ?_; conv => whnf)
      | (refine CallG.pure (rIsEx_ok (T.kids.getD 1 .nil) (hF.kid (by have := hl (by assumption); omega))) rfl ?_; conv => whnf)
      | (refine Split.mk (fun hc => ?_) (fun hc => ?_) <;> (try simp only [bytes_eq, bytes_ne, empty_bytes, bytes_bne, bytes_bne'] at hc) <;> (try simp only [decide_eq_true_eq, decide_eq_false_iff_not, beq_iff_eq, beq_eq_false_iff_ne, bne_iff_ne, bne_eq_false_iff_eq, Bool.not_eq_true', Bool.not_eq_false', Tree.isNil_iff, Tree.isNil_not, Int.not_lt, Int.not_le, gt_iff_lt, ge_iff_le, ne_eq, Decidable.not_not, Int.toNat_natCast, Int.toNat_zero, Int.toNat_one] at hc) <;> conv => whnf)
    all_goals refine ret_closed rfl (int_eq ?_) rfl
    all_goals (rw [hsE, hfe]; simp_all [-List.getD_eq_getElem?_getD])
  · have hcE : conE T = (wholeF 65536 T).1 := by unfold conE checkF; rw [if_neg hw]
    have hsE : semE T = (wholeF 65536 T).1 := by unfold semE checkF; rw [if_neg hw]
    repeat' first
      | (refine then_go hm htt ?_; conv => whnf)
      | (refine Side.mk (by first | assumption | exact trivial | rfl | exact Nat.le_of_ble_eq_true rfl | omega) ?_; conv => whnf)
      | (refine Hyp.mk fun hlen => ?_; replace hlen : _ ≤ 17592186044416 := hlen; conv => whnf)
      | (refine Split.ct ?_; conv => whnf)
      | (refine Split.cf ?_; conv => whnf)
      | (refine Split.of_true (by first | rfl | assumption | ((try simp only [bytes_eq, bytes_ne, empty_bytes, bytes_bne, bytes_bne']); (try simp only [decide_eq_true_eq, decide_eq_false_iff_not, beq_iff_eq, beq_eq_false_iff_ne, bne_iff_ne, bne_eq_false_iff_eq, Bool.not_eq_true', Bool.not_eq_false', Tree.isNil_iff, Tree.isNil_not, Int.not_lt, Int.not_le, gt_iff_lt, ge_iff_le, ne_eq, Decidable.not_not, Int.toNat_natCast, Int.toNat_zero, Int.toNat_one]); first | assumption | omega)) ?_; conv => whnf)
      | (refine Split.of_false (by first | rfl | assumption | ((try simp only [bytes_eq, bytes_ne, empty_bytes, bytes_bne, bytes_bne']); (try simp only [decide_eq_true_eq, decide_eq_false_iff_not, beq_iff_eq, beq_eq_false_iff_ne, bne_iff_ne, bne_eq_false_iff_eq, Bool.not_eq_true', Bool.not_eq_false', Tree.isNil_iff, Tree.isNil_not, Int.not_lt, Int.not_le, gt_iff_lt, ge_iff_le, ne_eq, Decidable.not_not, Int.toNat_natCast, Int.toNat_zero, Int.toNat_one]); first | assumption | omega)) ?_; conv => whnf)
      | (refine Indep.mk (by kernel_rfl) ?_; conv => whnf)
      | (refine CallG.pure (rcheck_ok T) rfl ?_; conv => whnf)
      | (exfalso; omega)
      | (refine Split.mk (fun hc => ?_) (fun hc => ?_) <;> (try simp only [bytes_eq, bytes_ne, empty_bytes, bytes_bne, bytes_bne'] at hc) <;> (try simp only [decide_eq_true_eq, decide_eq_false_iff_not, beq_iff_eq, beq_eq_false_iff_ne, bne_iff_ne, bne_eq_false_iff_eq, Bool.not_eq_true', Bool.not_eq_false', Tree.isNil_iff, Tree.isNil_not, Int.not_lt, Int.not_le, gt_iff_lt, ge_iff_le, ne_eq, Decidable.not_not, Int.toNat_natCast, Int.toNat_zero, Int.toNat_one] at hc) <;> conv => whnf)
    all_goals exact ret_closed rfl (int_eq (by rw [hsE, ← hcE])) rfl
end Go.Proofs.Ytfblaochmhhknaa

/- More types of the program. -/
namespace Go.Proofs.Ytfblaochmhhknaa
namespace Ex
open Go Go.Mq
def ti62 : TI := ⟨(.pointer 64), 1, 8, (.pointer none), [], false, 0, 0⟩
theorem tok62 : TIok P 62 ti62 where
  und := by kernel_rfl
  info := ⟨(P.info? 62).getD default, by kernel_rfl, by kernel_rfl, by kernel_rfl, by kernel_rfl⟩
  agg := rfl
  offm := fun fs h => by cases h
  offp := rfl
  offn := rfl
  elem := fun e h => by cases h
def ti64 : TI := ⟨(.struct #[⟨ "cons", 27, 0, false, "", "marquetry/expo", 0⟩]), 1, 24, (.agg #[(.slice none 0 0)]), [(0, 1)], true, 0, 0⟩
theorem tok64 : TIok P 64 ti64 where
  und := by kernel_rfl
  info := ⟨(P.info? 64).getD default, by kernel_rfl, by kernel_rfl, by kernel_rfl, by kernel_rfl⟩
  agg := rfl
  offm := fun fs h => by cases h; kernel_rfl
  offp := rfl
  offn := rfl
  elem := fun e h => by cases h
def ti66 : TI := ⟨(.pointer 68), 1, 8, (.pointer none), [], false, 0, 0⟩
theorem tok66 : TIok P 66 ti66 where
  und := by kernel_rfl
  info := ⟨(P.info? 66).getD default, by kernel_rfl, by kernel_rfl, by kernel_rfl, by kernel_rfl⟩
  agg := rfl
  offm := fun fs h => by cases h
  offp := rfl
  offn := rfl
  elem := fun e h => by cases h
def ti68 : TI := ⟨(.struct #[⟨ "Cons", 27, 0, false, "", "", 0⟩]), 1, 24, (.agg #[(.slice none 0 0)]), [(0, 1)], true, 0, 0⟩
theorem tok68 : TIok P 68 ti68 where
  und := by kernel_rfl
  info := ⟨(P.info? 68).getD default, by kernel_rfl, by kernel_rfl, by kernel_rfl, by kernel_rfl⟩
  agg := rfl
  offm := fun fs h => by cases h; kernel_rfl
  offp := rfl
  offn := rfl
  elem := fun e h => by cases h
def tt : List (Nat × TI) := (62, ti62) :: (64, ti64) :: (66, ti66) :: (68, ti68) :: Go.Proofs.Ytfblaochmhhknaa.tt
theorem htt : TTok P tt := .cons tok62 (.cons tok64 (.cons tok66 (.cons tok68 (Go.Proofs.Ytfblaochmhhknaa.htt))))
end Ex
end Go.Proofs.Ytfblaochmhhknaa

namespace Go.Proofs.Ytfblaochmhhknaa
namespace Ex
open Go Go.Mq
set_option linter.all false

/-! expo -/
def ebindsF (T : Tree) : Int := if T.kind = 164 ∨ T.kind = 165 then T.n else bindsF T
set_option maxRecDepth 10000 in
theorem ebinds_ok (T : Tree) (hT : T ≠ .nil) : Pure P 110 [.d (.tree T)] (.d (.int .i64 (ebindsF T))) := by
  refine Pure.of_body tt [] [2] Try.func110 rfl rfl rfl (Nat.le_of_ble_eq_true rfl) fun g => ?_
  repeat' first
    | (refine then_go hm htt ?_; conv => whnf)
    | (refine Side.mk (by first | assumption | exact trivial | rfl | exact Nat.le_of_ble_eq_true rfl | omega) ?_; conv => whnf)
    | (refine Hyp.mk fun hlen => ?_; replace hlen : _ ≤ 17592186044416 := hlen; conv => whnf)
    | (refine Split.ct ?_; conv => whnf)
    | (refine Split.cf ?_; conv => whnf)
    | (refine Split.of_true (by first | rfl | assumption | ((try simp only [bytes_eq, bytes_ne, empty_bytes, bytes_bne, bytes_bne']); (try simp only [decide_eq_true_eq, decide_eq_false_iff_not, beq_iff_eq, beq_eq_false_iff_ne, bne_iff_ne, bne_eq_false_iff_eq, Bool.not_eq_true', Bool.not_eq_false', Tree.isNil_iff, Tree.isNil_not, Int.not_lt, Int.not_le, gt_iff_lt, ge_iff_le, ne_eq, Decidable.not_not, Int.toNat_natCast, Int.toNat_zero, Int.toNat_one]); first | assumption | omega)) ?_; conv => whnf)
    | (refine Split.of_false (by first | rfl | assumption | ((try simp only [bytes_eq, bytes_ne, empty_bytes, bytes_bne, bytes_bne']); (try simp only [decide_eq_true_eq, decide_eq_false_iff_not, beq_iff_eq, beq_eq_false_iff_ne, bne_iff_ne, bne_eq_false_iff_eq, Bool.not_eq_true', Bool.not_eq_false', Tree.isNil_iff, Tree.isNil_not, Int.not_lt, Int.not_le, gt_iff_lt, ge_iff_le, ne_eq, Decidable.not_not, Int.toNat_natCast, Int.toNat_zero, Int.toNat_one]); first | assumption | omega)) ?_; conv => whnf)
    | (refine Indep.mk (by kernel_rfl) ?_; conv => whnf)
    | (refine Split.mk (fun hc => ?_) (fun hc => ?_) <;> (try simp only [bytes_eq, bytes_ne, empty_bytes, bytes_bne, bytes_bne'] at hc) <;> (try simp only [decide_eq_true_eq, decide_eq_false_iff_not, beq_iff_eq, beq_eq_false_iff_ne, bne_iff_ne, bne_eq_false_iff_eq, Bool.not_eq_true', Bool.not_eq_false', Tree.isNil_iff, Tree.isNil_not, Int.not_lt, Int.not_le, gt_iff_lt, ge_iff_le, ne_eq, Decidable.not_not, Int.toNat_natCast, Int.toNat_zero, Int.toNat_one] at hc) <;> conv => whnf)
  all_goals refine ret_closed rfl (int_eq ?_) rfl
  all_goals (unfold ebindsF bindsF; (repeat' split) <;> first | rfl | omega | (exfalso; omega))
set_option maxRecDepth 10000 in
theorem rinner_ok' (T : Tree) (hT : T ≠ .nil) : Pure P 111 [.d (.tree T)] (.d (.int .i64 (ebindsF T))) := by
  refine Pure.of_body tt [] [2] Try.func111 rfl rfl rfl (Nat.le_of_ble_eq_true rfl) fun g => ?_
  repeat' first
    | (refine then_go hm htt ?_; conv => whnf)
    | (refine Side.mk (by first | assumption | exact trivial | rfl | exact Nat.le_of_ble_eq_true rfl | omega) ?_; conv => whnf)
    | (refine Hyp.mk fun hlen => ?_; replace hlen : _ ≤ 17592186044416 := hlen; conv => whnf)
    | (refine Split.ct ?_; conv => whnf)
    | (refine Split.cf ?_; conv => whnf)
    | (refine Split.of_true (by first | rfl | assumption | ((try simp only [bytes_eq, bytes_ne, empty_bytes, bytes_bne, bytes_bne']); (try simp only [decide_eq_true_eq, decide_eq_false_iff_not, beq_iff_eq, beq_eq_false_iff_ne, bne_iff_ne, bne_eq_false_iff_eq, Bool.not_eq_true', Bool.not_eq_false', Tree.isNil_iff, Tree.isNil_not, Int.not_lt, Int.not_le, gt_iff_lt, ge_iff_le, ne_eq, Decidable.not_not, Int.toNat_natCast, Int.toNat_zero, Int.toNat_one]); first | assumption | omega)) ?_; conv => whnf)
    | (refine Split.of_false (by first | rfl | assumption | ((try simp only [bytes_eq, bytes_ne, empty_bytes, bytes_bne, bytes_bne']); (try simp only [decide_eq_true_eq, decide_eq_false_iff_not, beq_iff_eq, beq_eq_false_iff_ne, bne_iff_ne, bne_eq_false_iff_eq, Bool.not_eq_true', Bool.not_eq_false', Tree.isNil_iff, Tree.isNil_not, Int.not_lt, Int.not_le, gt_iff_lt, ge_iff_le, ne_eq, Decidable.not_not, Int.toNat_natCast, Int.toNat_zero, Int.toNat_one]); first | assumption | omega)) ?_; conv => whnf)
    | (refine Indep.mk (by kernel_rfl) ?_; conv => whnf)
    | (refine CallG.pure (rinner_ok T hT) rfl ?_; conv => whnf)
    | (refine Split.mk (fun hc => ?_) (fun hc => ?_) <;> (try simp only [bytes_eq, bytes_ne, empty_bytes, bytes_bne, bytes_bne'] at hc) <;> (try simp only [decide_eq_true_eq, decide_eq_false_iff_not, beq_iff_eq, beq_eq_false_iff_ne, bne_iff_ne, bne_eq_false_iff_eq, Bool.not_eq_true', Bool.not_eq_false', Tree.isNil_iff, Tree.isNil_not, Int.not_lt, Int.not_le, gt_iff_lt, ge_iff_le, ne_eq, Decidable.not_not, Int.toNat_natCast, Int.toNat_zero, Int.toNat_one] at hc) <;> conv => whnf)
  all_goals refine ret_closed rfl (int_eq ?_) rfl
  all_goals (unfold ebindsF; (repeat' split) <;> first | rfl | omega | (exfalso; omega))

def anyOcc (n : Tree) : Nat → Nat → Bool
  | 0, _ => false
  | m + 1, k => occursR n k || anyOcc n m (k + 1)
def fillC (cons : List Tree) (i : Nat) (c : Tree) : List Tree := if (cons.getD i .nil).isNil = true then cons.set i c else cons
def varF (cons : List Tree) (i : Int) (n : Tree) (d : Int) : Bool × List Tree :=
  if conE n ≠ 0 then (false, cons) else if anyOcc n d.toNat 0 = true then (false, cons) else if (shiftR n (IntKind.i64.wrap (0 - d)) 0).2 ≠ 0 then (false, cons)
  else (sameF ((fillC cons (i.toNat * 1) (shiftR n (IntKind.i64.wrap (0 - d)) 0).1).getD (i.toNat * 1) .nil) (shiftR n (IntKind.i64.wrap (0 - d)) 0).1, fillC cons (i.toNat * 1) (shiftR n (IntKind.i64.wrap (0 - d)) 0).1)
theorem fillC_len (cons : List Tree) (i : Nat) (c : Tree) : (fillC cons i c).length = cons.length := by unfold fillC; split <;> simp
theorem varF_len (cons : List Tree) (i : Int) (n : Tree) (d : Int) : (varF cons i n d).2.length = cons.length := by
  unfold varF; repeat' split
  all_goals first | rfl | exact fillC_len _ _ _

def rng (d : Int) : Prop := -9223372036854775808 ≤ d ∧ d < 9223372036854775808
theorem wrap_rng (x : Int) : rng (IntKind.i64.wrap x) := by unfold rng; rw [IntKind.wrap_i64]; omega
theorem row_cell {e : TypeId} {a b : List Tree} (h : a = b) : some (AObj.row e (.trees a)) = some (AObj.row e (.trees b)) := by rw [h]

set_option maxHeartbeats 4000000 in
set_option maxRecDepth 10000 in
theorem var_ok (cons : List Tree) (k : Nat) (hk : cons.length = k) (i : Int) (n : Tree) (d : Int) (hi0 : 0 ≤ i) (hi1 : i < k) (hd : rng d) :
    Fun P 108 [.ref 0 0, .d (.int .i64 i), .d (.tree n), .d (.int .i64 d)] [(0, .cells [.row 1 k]), (1, .row 25 (.trees cons))] 2
      (.d (.bool (varF cons i n d).1)) [(0, .cells [.row 1 k]), (1, .row 25 (.trees (varF cons i n d).2))] 2 := by
  obtain ⟨hd0, hd1⟩ := hd
  have hv : varF cons i n d = varF cons i n d := rfl
  unfold varF at hv
  refine Fun.of_body tt [] [8] (Try.func108) rfl rfl rfl (Nat.le_of_ble_eq_true rfl) fun g => ?_
  by_cases hc0 : conE n ≠ 0
  · have e : varF cons i n d = (false, cons) := by unfold varF; rw [if_pos hc0]
    repeat' first
      | (refine then_go hm htt ?_; conv => whnf)
      | (refine Side.mk (by first | assumption | exact trivial | rfl | exact Nat.le_of_ble_eq_true rfl | omega) ?_; conv => whnf)
      | (refine Hyp.mk fun hlen => ?_; replace hlen : _ ≤ 17592186044416 := hlen; conv => whnf)
      | (refine Split.ct ?_; conv => whnf)
      | (refine Split.cf ?_; conv => whnf)
      | (refine Split.of_true (by first | rfl | assumption | ((try simp only [bytes_eq, bytes_ne, empty_bytes, bytes_bne, bytes_bne']); (try simp only [decide_eq_true_eq, decide_eq_false_iff_not, beq_iff_eq, beq_eq_false_iff_ne, bne_iff_ne, bne_eq_false_iff_eq, Bool.not_eq_true', Bool.not_eq_false', Tree.isNil_iff, Tree.isNil_not, Int.not_lt, Int.not_le, gt_iff_lt, ge_iff_le, ne_eq, Decidable.not_not, Int.toNat_natCast, Int.toNat_zero, Int.toNat_one]); first | assumption | omega)) ?_; conv => whnf)
      | (refine Split.of_false (by first | rfl | assumption | ((try simp only [bytes_eq, bytes_ne, empty_bytes, bytes_bne, bytes_bne']); (try simp only [decide_eq_true_eq, decide_eq_false_iff_not, beq_iff_eq, beq_eq_false_iff_ne, bne_iff_ne, bne_eq_false_iff_eq, Bool.not_eq_true', Bool.not_eq_false', Tree.isNil_iff, Tree.isNil_not, Int.not_lt, Int.not_le, gt_iff_lt, ge_iff_le, ne_eq, Decidable.not_not, Int.toNat_natCast, Int.toNat_zero, Int.toNat_one]); first | assumption | omega)) ?_; conv => whnf)
      | (refine Indep.mk (by kernel_rfl) ?_; conv => whnf)
      | (refine CallG.pure (check_ok n) rfl ?_; conv => whnf)
      | (refine Split.mk (fun hc => ?_) (fun hc => ?_) <;> (try simp only [bytes_eq, bytes_ne, empty_bytes, bytes_bne, bytes_bne'] at hc) <;> (try simp only [decide_eq_true_eq, decide_eq_false_iff_not, beq_iff_eq, beq_eq_false_iff_ne, bne_iff_ne, bne_eq_false_iff_eq, Bool.not_eq_true', Bool.not_eq_false', Tree.isNil_iff, Tree.isNil_not, Int.not_lt, Int.not_le, gt_iff_lt, ge_iff_le, ne_eq, Decidable.not_not, Int.toNat_natCast, Int.toNat_zero, Int.toNat_one] at hc) <;> conv => whnf)
    exact ret_objs rfl rfl (bool_eq (by rw [e]; first | done | rfl)) ⟨rfl, row_cell (by rw [e]; first | done | rfl), trivial⟩ (Nat.le_refl _)
  · have hck : Pure P 22 [.d (.tree n)] (.d (.int .i64 0)) := by
      have := check_ok n
      rw [show conE n = 0 by omega] at this
      exact this
    repeat' first
      | (refine then_go hm htt ?_; conv => whnf)
      | (refine Side.mk (by first | assumption | exact trivial | rfl | exact Nat.le_of_ble_eq_true rfl | omega) ?_; conv => whnf)
      | (refine Hyp.mk fun hlen => ?_; replace hlen : _ ≤ 17592186044416 := hlen; conv => whnf)
      | (refine Split.ct ?_; conv => whnf)
      | (refine Split.cf ?_; conv => whnf)
      | (refine Split.of_true (by first | rfl | assumption | ((try simp only [bytes_eq, bytes_ne, empty_bytes, bytes_bne, bytes_bne']); (try simp only [decide_eq_true_eq, decide_eq_false_iff_not, beq_iff_eq, beq_eq_false_iff_ne, bne_iff_ne, bne_eq_false_iff_eq, Bool.not_eq_true', Bool.not_eq_false', Tree.isNil_iff, Tree.isNil_not, Int.not_lt, Int.not_le, gt_iff_lt, ge_iff_le, ne_eq, Decidable.not_not, Int.toNat_natCast, Int.toNat_zero, Int.toNat_one]); first | assumption | omega)) ?_; conv => whnf)
      | (refine Split.of_false (by first | rfl | assumption | ((try simp only [bytes_eq, bytes_ne, empty_bytes, bytes_bne, bytes_bne']); (try simp only [decide_eq_true_eq, decide_eq_false_iff_not, beq_iff_eq, beq_eq_false_iff_ne, bne_iff_ne, bne_eq_false_iff_eq, Bool.not_eq_true', Bool.not_eq_false', Tree.isNil_iff, Tree.isNil_not, Int.not_lt, Int.not_le, gt_iff_lt, ge_iff_le, ne_eq, Decidable.not_not, Int.toNat_natCast, Int.toNat_zero, Int.toNat_one]); first | assumption | omega)) ?_; conv => whnf)
      | (refine Indep.mk (by kernel_rfl) ?_; conv => whnf)
      | (refine CallG.pure hck rfl ?_; conv => whnf)
      | (refine Split.mk (fun hc => ?_) (fun hc => ?_) <;> (try simp only [bytes_eq, bytes_ne, empty_bytes, bytes_bne, bytes_bne'] at hc) <;> (try simp only [decide_eq_true_eq, decide_eq_false_iff_not, beq_iff_eq, beq_eq_false_iff_ne, bne_iff_ne, bne_eq_false_iff_eq, Bool.not_eq_true', Bool.not_eq_false', Tree.isNil_iff, Tree.isNil_not, Int.not_lt, Int.not_le, gt_iff_lt, ge_iff_le, ne_eq, Decidable.not_not, Int.toNat_natCast, Int.toNat_zero, Int.toNat_one] at hc) <;> conv => whnf)
    refine loop_go (α := Nat) (fun p => ⟨[(0, .ref 0 0), (1, .d (.int .i64 i)), (2, .d (.tree n)), (3, .d (.int .i64 d)), (15, .d (.int .i64 d)), (16, .d (.int .i64 p))], 56, [(0, .cells [.row 1 k]), (1, .row 25 (.trees cons))], 2, g⟩)
      (fun p => p ≤ d.toNat ∧ anyOcc n (d.toNat - p) p = anyOcc n d.toNat 0) (fun p => d.toNat - p) 0 ⟨by omega, rfl⟩
      (Ent.re [0, 1] rfl rfl rfl rfl rfl rfl (by repeat' first | exact trivial | apply And.intro | rfl | (refine int_eq ?_; rw [wrap64] <;> omega)) (by repeat' first | exact trivial | apply And.intro | rfl | (refine int_eq ?_; rw [wrap64] <;> omega))) (fun _ => rfl) fun p hpre => ?_
    obtain ⟨hp1, hp2⟩ := hpre
    by_cases hlt : p < d.toNat
    · obtain ⟨m, hgm⟩ : ∃ m, d.toNat - p = m + 1 := ⟨d.toNat - p - 1, by omega⟩
      rw [hgm, anyOcc] at hp2
      have hoc := occurs_ok n p
      cases ho : occursR n p with
      | true =>
        rw [ho] at hoc hp2
        have e : varF cons i n d = (false, cons) := by unfold varF; rw [if_neg hc0, if_pos (by rw [← hp2]; rfl)]
        repeat' first
          | (refine then_go hm htt ?_; conv => whnf)
          | (refine Side.mk (by first | assumption | exact trivial | rfl | exact Nat.le_of_ble_eq_true rfl | omega) ?_; conv => whnf)
          | (refine Hyp.mk fun hlen => ?_; replace hlen : _ ≤ 17592186044416 := hlen; conv => whnf)
          | (refine Split.ct ?_; conv => whnf)
          | (refine Split.cf ?_; conv => whnf)
          | (refine Split.of_true (by first | rfl | assumption | ((try simp only [bytes_eq, bytes_ne, empty_bytes, bytes_bne, bytes_bne']); (try simp only [decide_eq_true_eq, decide_eq_false_iff_not, beq_iff_eq, beq_eq_false_iff_ne, bne_iff_ne, bne_eq_false_iff_eq, Bool.not_eq_true', Bool.not_eq_false', Tree.isNil_iff, Tree.isNil_not, Int.not_lt, Int.not_le, gt_iff_lt, ge_iff_le, ne_eq, Decidable.not_not, Int.toNat_natCast, Int.toNat_zero, Int.toNat_one]); first | assumption | omega)) ?_; conv => whnf)
          | (refine Split.of_false (by first | rfl | assumption | ((try simp only [bytes_eq, bytes_ne, empty_bytes, bytes_bne, bytes_bne']); (try simp only [decide_eq_true_eq, decide_eq_false_iff_not, beq_iff_eq, beq_eq_false_iff_ne, bne_iff_ne, bne_eq_false_iff_eq, Bool.not_eq_true', Bool.not_eq_false', Tree.isNil_iff, Tree.isNil_not, Int.not_lt, Int.not_le, gt_iff_lt, ge_iff_le, ne_eq, Decidable.not_not, Int.toNat_natCast, Int.toNat_zero, Int.toNat_one]); first | assumption | omega)) ?_; conv => whnf)
          | (refine Indep.mk (by kernel_rfl) ?_; conv => whnf)
          | (refine CallG.pure hoc rfl ?_; conv => whnf)
          | (refine Split.mk (fun hc => ?_) (fun hc => ?_) <;> (try simp only [bytes_eq, bytes_ne, empty_bytes, bytes_bne, bytes_bne'] at hc) <;> (try simp only [decide_eq_true_eq, decide_eq_false_iff_not, beq_iff_eq, beq_eq_false_iff_ne, bne_iff_ne, bne_eq_false_iff_eq, Bool.not_eq_true', Bool.not_eq_false', Tree.isNil_iff, Tree.isNil_not, Int.not_lt, Int.not_le, gt_iff_lt, ge_iff_le, ne_eq, Decidable.not_not, Int.toNat_natCast, Int.toNat_zero, Int.toNat_one] at hc) <;> conv => whnf)
        exact ret_objs rfl rfl (bool_eq (by rw [e]; first | done | rfl)) ⟨rfl, row_cell (by rw [e]; first | done | rfl), trivial⟩ (Nat.le_refl _)
      | false =>
        rw [ho, Bool.false_or] at hp2
        rw [ho] at hoc
        repeat' first
          | (refine then_go hm htt ?_; conv => whnf)
          | (refine Side.mk (by first | assumption | exact trivial | rfl | exact Nat.le_of_ble_eq_true rfl | omega) ?_; conv => whnf)
          | (refine Hyp.mk fun hlen => ?_; replace hlen : _ ≤ 17592186044416 := hlen; conv => whnf)
          | (refine Split.ct ?_; conv => whnf)
          | (refine Split.cf ?_; conv => whnf)
          | (refine Split.of_true (by first | rfl | assumption | ((try simp only [bytes_eq, bytes_ne, empty_bytes, bytes_bne, bytes_bne']); (try simp only [decide_eq_true_eq, decide_eq_false_iff_not, beq_iff_eq, beq_eq_false_iff_ne, bne_iff_ne, bne_eq_false_iff_eq, Bool.not_eq_true', Bool.not_eq_false', Tree.isNil_iff, Tree.isNil_not, Int.not_lt, Int.not_le, gt_iff_lt, ge_iff_le, ne_eq, Decidable.not_not, Int.toNat_natCast, Int.toNat_zero, Int.toNat_one]); first | assumption | omega)) ?_; conv => whnf)
          | (refine Split.of_false (by first | rfl | assumption | ((try simp only [bytes_eq, bytes_ne, empty_bytes, bytes_bne, bytes_bne']); (try simp only [decide_eq_true_eq, decide_eq_false_iff_not, beq_iff_eq, beq_eq_false_iff_ne, bne_iff_ne, bne_eq_false_iff_eq, Bool.not_eq_true', Bool.not_eq_false', Tree.isNil_iff, Tree.isNil_not, Int.not_lt, Int.not_le, gt_iff_lt, ge_iff_le, ne_eq, Decidable.not_not, Int.toNat_natCast, Int.toNat_zero, Int.toNat_one]); first | assumption | omega)) ?_; conv => whnf)
          | (refine Indep.mk (by kernel_rfl) ?_; conv => whnf)
          | (refine CallG.pure hoc rfl ?_; conv => whnf)
          | (refine Split.mk (fun hc => ?_) (fun hc => ?_) <;> (try simp only [bytes_eq, bytes_ne, empty_bytes, bytes_bne, bytes_bne'] at hc) <;> (try simp only [decide_eq_true_eq, decide_eq_false_iff_not, beq_iff_eq, beq_eq_false_iff_ne, bne_iff_ne, bne_eq_false_iff_eq, Bool.not_eq_true', Bool.not_eq_false', Tree.isNil_iff, Tree.isNil_not, Int.not_lt, Int.not_le, gt_iff_lt, ge_iff_le, ne_eq, Decidable.not_not, Int.toNat_natCast, Int.toNat_zero, Int.toNat_one] at hc) <;> conv => whnf)
        exact ⟨p + 1, ⟨by omega, by rw [← hp2]; congr 1; omega⟩, by omega, Ent.re [0, 1] rfl rfl rfl rfl rfl rfl (by repeat' first | exact trivial | apply And.intro | rfl | (refine int_eq ?_; rw [wrap64] <;> omega)) (by repeat' first | exact trivial | apply And.intro | rfl | (refine int_eq ?_; rw [wrap64] <;> omega))⟩
    · rw [show d.toNat - p = 0 by omega, anyOcc] at hp2
      have e : varF cons i n d = if (shiftR n (IntKind.i64.wrap (0 - d)) 0).2 ≠ 0 then (false, cons)
          else (sameF ((fillC cons (i.toNat * 1) (shiftR n (IntKind.i64.wrap (0 - d)) 0).1).getD (i.toNat * 1) .nil) (shiftR n (IntKind.i64.wrap (0 - d)) 0).1, fillC cons (i.toNat * 1) (shiftR n (IntKind.i64.wrap (0 - d)) 0).1) := by
        unfold varF; rw [if_neg hc0, if_neg (by rw [← hp2]; simp)]
      have hsh := shift_ok n (IntKind.i64.wrap (0 - d)) 0
      generalize hS : shiftR n (IntKind.i64.wrap (0 - d)) 0 = S at e hsh
      clear hS hv
      by_cases hs : S.2 ≠ 0
      · rw [if_pos hs] at e
        repeat' first
          | (refine then_go hm htt ?_; conv => whnf)
          | (refine Side.mk (by first | assumption | exact trivial | rfl | exact Nat.le_of_ble_eq_true rfl | omega) ?_; conv => whnf)
          | (refine Hyp.mk fun hlen => ?_; replace hlen : _ ≤ 17592186044416 := hlen; conv => whnf)
          | (refine Split.ct ?_; conv => whnf)
          | (refine Split.cf ?_; conv => whnf)
          | (refine Split.of_true (by first | rfl | assumption | ((try simp only [bytes_eq, bytes_ne, empty_bytes, bytes_bne, bytes_bne']); (try simp only [decide_eq_true_eq, decide_eq_false_iff_not, beq_iff_eq, beq_eq_false_iff_ne, bne_iff_ne, bne_eq_false_iff_eq, Bool.not_eq_true', Bool.not_eq_false', Tree.isNil_iff, Tree.isNil_not, Int.not_lt, Int.not_le, gt_iff_lt, ge_iff_le, ne_eq, Decidable.not_not, Int.toNat_natCast, Int.toNat_zero, Int.toNat_one]); first | assumption | omega)) ?_; conv => whnf)
          | (refine Split.of_false (by first | rfl | assumption | ((try simp only [bytes_eq, bytes_ne, empty_bytes, bytes_bne, bytes_bne']); (try simp only [decide_eq_true_eq, decide_eq_false_iff_not, beq_iff_eq, beq_eq_false_iff_ne, bne_iff_ne, bne_eq_false_iff_eq, Bool.not_eq_true', Bool.not_eq_false', Tree.isNil_iff, Tree.isNil_not, Int.not_lt, Int.not_le, gt_iff_lt, ge_iff_le, ne_eq, Decidable.not_not, Int.toNat_natCast, Int.toNat_zero, Int.toNat_one]); first | assumption | omega)) ?_; conv => whnf)
          | (refine Indep.mk (by kernel_rfl) ?_; conv => whnf)
          | (refine CallG.pure hsh rfl ?_; conv => whnf)
          | (refine Split.mk (fun hc => ?_) (fun hc => ?_) <;> (try simp only [bytes_eq, bytes_ne, empty_bytes, bytes_bne, bytes_bne'] at hc) <;> (try simp only [decide_eq_true_eq, decide_eq_false_iff_not, beq_iff_eq, beq_eq_false_iff_ne, bne_iff_ne, bne_eq_false_iff_eq, Bool.not_eq_true', Bool.not_eq_false', Tree.isNil_iff, Tree.isNil_not, Int.not_lt, Int.not_le, gt_iff_lt, ge_iff_le, ne_eq, Decidable.not_not, Int.toNat_natCast, Int.toNat_zero, Int.toNat_one] at hc) <;> conv => whnf)
        exact ret_objs rfl rfl (bool_eq (by rw [e]; first | done | rfl)) ⟨rfl, row_cell (by rw [e]; first | done | rfl), trivial⟩ (Nat.le_refl _)
      · rw [if_neg hs] at e
        have hs0 : S.2 = 0 := by omega
        by_cases hn : (cons.getD (i.toNat * 1) .nil).isNil = true
        · have ef : fillC cons (i.toNat * 1) S.1 = cons.set (i.toNat * 1) S.1 := by unfold fillC; rw [if_pos hn]
          rw [ef] at e
          have hsm := same_ok ((cons.set (i.toNat * 1) S.1).getD (i.toNat * 1) .nil) S.1
          repeat' first
            | (refine then_go hm htt ?_; conv => whnf)
            | (refine Side.mk (by first | assumption | exact trivial | rfl | exact Nat.le_of_ble_eq_true rfl | omega) ?_; conv => whnf)
            | (refine Hyp.mk fun hlen => ?_; replace hlen : _ ≤ 17592186044416 := hlen; conv => whnf)
            | (refine Split.ct ?_; conv => whnf)
            | (refine Split.cf ?_; conv => whnf)
            | (refine Split.of_true (by first | rfl | assumption | ((try simp only [bytes_eq, bytes_ne, empty_bytes, bytes_bne, bytes_bne']); (try simp only [decide_eq_true_eq, decide_eq_false_iff_not, beq_iff_eq, beq_eq_false_iff_ne, bne_iff_ne, bne_eq_false_iff_eq, Bool.not_eq_true', Bool.not_eq_false', Tree.isNil_iff, Tree.isNil_not, Int.not_lt, Int.not_le, gt_iff_lt, ge_iff_le, ne_eq, Decidable.not_not, Int.toNat_natCast, Int.toNat_zero, Int.toNat_one]); first | assumption | omega)) ?_; conv => whnf)
            | (refine Split.of_false (by first | rfl | assumption | ((try simp only [bytes_eq, bytes_ne, empty_bytes, bytes_bne, bytes_bne']); (try simp only [decide_eq_true_eq, decide_eq_false_iff_not, beq_iff_eq, beq_eq_false_iff_ne, bne_iff_ne, bne_eq_false_iff_eq, Bool.not_eq_true', Bool.not_eq_false', Tree.isNil_iff, Tree.isNil_not, Int.not_lt, Int.not_le, gt_iff_lt, ge_iff_le, ne_eq, Decidable.not_not, Int.toNat_natCast, Int.toNat_zero, Int.toNat_one]); first | assumption | omega)) ?_; conv => whnf)
            | (refine Indep.mk (by kernel_rfl) ?_; conv => whnf)
            | (refine CallG.pure hsh rfl ?_; conv => whnf)
            | (refine Split.of_true hn ?_; conv => whnf)
            | (refine Side.mk (show (0 : Int) ≤ i ∧ i < (k : Int) from ⟨hi0, hi1⟩) ?_; conv => whnf)
            | (refine Side.mk (show i.toNat * 1 < cons.length from by omega) ?_; conv => whnf)
            | (refine Side.mk (show i.toNat * 1 < (cons.set (i.toNat * 1) S.1).length from by rw [List.length_set]; omega) ?_; conv => whnf)
            | (refine CallG.pure hsm rfl ?_; conv => whnf)
            | (refine Split.mk (fun hc => ?_) (fun hc => ?_) <;> (try simp only [bytes_eq, bytes_ne, empty_bytes, bytes_bne, bytes_bne'] at hc) <;> (try simp only [decide_eq_true_eq, decide_eq_false_iff_not, beq_iff_eq, beq_eq_false_iff_ne, bne_iff_ne, bne_eq_false_iff_eq, Bool.not_eq_true', Bool.not_eq_false', Tree.isNil_iff, Tree.isNil_not, Int.not_lt, Int.not_le, gt_iff_lt, ge_iff_le, ne_eq, Decidable.not_not, Int.toNat_natCast, Int.toNat_zero, Int.toNat_one] at hc) <;> conv => whnf)
          exact ret_objs rfl rfl (bool_eq (by rw [e]; first | done | rfl)) ⟨rfl, row_cell (by rw [e]; first | done | rfl), trivial⟩ (Nat.le_refl _)
        · have ef : fillC cons (i.toNat * 1) S.1 = cons := by unfold fillC; rw [if_neg hn]
          rw [ef] at e
          have hsm := same_ok (cons.getD (i.toNat * 1) .nil) S.1
          repeat' first
            | (refine then_go hm htt ?_; conv => whnf)
            | (refine Side.mk (by first | assumption | exact trivial | rfl | exact Nat.le_of_ble_eq_true rfl | omega) ?_; conv => whnf)
            | (refine Hyp.mk fun hlen => ?_; replace hlen : _ ≤ 17592186044416 := hlen; conv => whnf)
            | (refine Split.ct ?_; conv => whnf)
            | (refine Split.cf ?_; conv => whnf)
            | (refine Split.of_true (by first | rfl | assumption | ((try simp only [bytes_eq, bytes_ne, empty_bytes, bytes_bne, bytes_bne']); (try simp only [decide_eq_true_eq, decide_eq_false_iff_not, beq_iff_eq, beq_eq_false_iff_ne, bne_iff_ne, bne_eq_false_iff_eq, Bool.not_eq_true', Bool.not_eq_false', Tree.isNil_iff, Tree.isNil_not, Int.not_lt, Int.not_le, gt_iff_lt, ge_iff_le, ne_eq, Decidable.not_not, Int.toNat_natCast, Int.toNat_zero, Int.toNat_one]); first | assumption | omega)) ?_; conv => whnf)
            | (refine Split.of_false (by first | rfl | assumption | ((try simp only [bytes_eq, bytes_ne, empty_bytes, bytes_bne, bytes_bne']); (try simp only [decide_eq_true_eq, decide_eq_false_iff_not, beq_iff_eq, beq_eq_false_iff_ne, bne_iff_ne, bne_eq_false_iff_eq, Bool.not_eq_true', Bool.not_eq_false', Tree.isNil_iff, Tree.isNil_not, Int.not_lt, Int.not_le, gt_iff_lt, ge_iff_le, ne_eq, Decidable.not_not, Int.toNat_natCast, Int.toNat_zero, Int.toNat_one]); first | assumption | omega)) ?_; conv => whnf)
            | (refine Indep.mk (by kernel_rfl) ?_; conv => whnf)
            | (refine CallG.pure hsh rfl ?_; conv => whnf)
            | (refine Split.of_false (show (cons.getD (i.toNat * 1) .nil).isNil = false from by simpa using hn) ?_; conv => whnf)
            | (refine Side.mk (show (0 : Int) ≤ i ∧ i < (k : Int) from ⟨hi0, hi1⟩) ?_; conv => whnf)
            | (refine Side.mk (show i.toNat * 1 < cons.length from by omega) ?_; conv => whnf)
            | (refine CallG.pure hsm rfl ?_; conv => whnf)
            | (refine Split.mk (fun hc => ?_) (fun hc => ?_) <;> (try simp only [bytes_eq, bytes_ne, empty_bytes, bytes_bne, bytes_bne'] at hc) <;> (try simp only [decide_eq_true_eq, decide_eq_false_iff_not, beq_iff_eq, beq_eq_false_iff_ne, bne_iff_ne, bne_eq_false_iff_eq, Bool.not_eq_true', Bool.not_eq_false', Tree.isNil_iff, Tree.isNil_not, Int.not_lt, Int.not_le, gt_iff_lt, ge_iff_le, ne_eq, Decidable.not_not, Int.toNat_natCast, Int.toNat_zero, Int.toNat_one] at hc) <;> conv => whnf)
          exact ret_objs rfl rfl (bool_eq (by rw [e]; first | done | rfl)) ⟨rfl, row_cell (by rw [e]; first | done | rfl), trivial⟩ (Nat.le_refl _)
end Ex
end Go.Proofs.Ytfblaochmhhknaa

namespace Go.Proofs.Ytfblaochmhhknaa
namespace Ex
open Go Go.Mq
set_option linter.all false

/-- Variables and binders are within what may be. -/
inductive EB : Tree → Prop
  | node {k n : Int} {nm mk : ByteArray} {l : List Tree} (hv : k = 110 → 0 ≤ n ∧ n ≤ 65536) (hb : k = 164 ∨ k = 165 → 0 ≤ n ∧ n ≤ 8192) (h : ∀ x ∈ l, EB x) : EB (.node k n nm mk l)
theorem EB.of {T : Tree} (hT : T ≠ .nil) (hv : T.kind = 110 → 0 ≤ T.n ∧ T.n ≤ 65536) (hb : T.kind = 164 ∨ T.kind = 165 → 0 ≤ T.n ∧ T.n ≤ 8192) (hk : ∀ x ∈ T.kids, EB x) : EB T := by
  cases T with
  | nil => exact absurd rfl hT
  | node => exact .node hv hb hk
theorem EB.v {T : Tree} (h : EB T) : T.kind = 110 → 0 ≤ T.n ∧ T.n ≤ 65536 := by cases h; assumption
theorem EB.b {T : Tree} (h : EB T) : T.kind = 164 ∨ T.kind = 165 → 0 ≤ T.n ∧ T.n ≤ 8192 := by cases h; assumption
theorem EB.k {T : Tree} (h : EB T) : ∀ x ∈ T.kids, EB x := by cases h; assumption
theorem EB.full {T : Tree} (h : EB T) : Full T := by
  induction T using Tree.ind with
  | h0 => cases h
  | h1 k n nm mk l ih => exact .node fun x hx => ih x hx (h.k x hx)
theorem EB.ebinds {T : Tree} (h : EB T) : 0 ≤ ebindsF T ∧ ebindsF T ≤ 8192 := by
  unfold ebindsF
  have := bindsF_b T
  split
  · exact h.b ‹_›
  · omega
theorem kind_EB (T : Tree) : isKindF T = true → EB T := by
  induction T using Tree.ind' with
  | h0 => intro h; rw [isKindF] at h; cases h
  | h1 T hT ih =>
    intro h
    rw [isKindF_eq hT] at h
    split at h
    · rename_i hk
      rw [Bool.and_eq_true] at h
      have hl : T.kids = [] := by have := h.2; rw [beq_iff_eq] at this; exact List.length_eq_zero_iff.1 (by omega)
      exact .of hT (fun e => by omega) (fun e => by omega) (fun x hx => by rw [hl] at hx; cases hx)
    · split at h
      · rename_i hk
        simp only [Bool.and_eq_true, beq_iff_eq] at h
        obtain ⟨⟨⟨h1, h2⟩, h3⟩, h4⟩ := h
        refine .of hT (fun e => by omega) (fun e => by omega) (fun x hx => ?_)
        rcases mem_two (by omega : T.kids.length = 2) hx with e | e
        · exact ih x hx (by rw [e]; exact h3)
        · exact ih x hx (by rw [e]; exact h4)
      · cases h
theorem field_EB {kind : Int} {x : Tree} (hk : kind ≠ 110 ∧ kind ≠ 164 ∧ kind ≠ 165) (h : fieldF kind x = true) (ih : ∀ y ∈ x.kids, isConF y = true → EB y) : EB x := by
  have hx : x ≠ .nil := by intro e; subst e; rw [fieldF] at h; cases h
  rw [fieldF_eq hx] at h
  simp only [Bool.and_eq_true, beq_iff_eq] at h
  obtain ⟨⟨⟨⟨h1, h2⟩, h3⟩, h4⟩, h5⟩ := h
  refine .of hx (fun e => by omega) (fun e => by omega) (fun y hy => ?_)
  have e := mem_one (by omega : x.kids.length = 1) hy
  exact ih y hy (by rw [e]; exact h5)
theorem con_EB (T : Tree) : isConF T = true → EB T := by
  suffices h : (isConF T = true → EB T) ∧ ∀ x ∈ T.kids, isConF x = true → EB x from h.1
  induction T using Tree.ind' with
  | h0 => exact ⟨fun h => (by rw [isConF] at h; cases h), fun x hx => (by cases hx)⟩
  | h1 T hT ih =>
    refine ⟨fun h => ?_, fun x hx => (ih x hx).1⟩
    rw [isConF_eq hT, Bool.and_eq_true] at h
    obtain ⟨_, h⟩ := h
    split at h
    · rename_i hk
      simp only [Bool.and_eq_true, beq_iff_eq, decide_eq_true_eq] at h
      have hl : T.kids = [] := List.length_eq_zero_iff.1 (by omega)
      exact .of hT (fun _ => h.1) (fun e => by omega) (fun x hx => by rw [hl] at hx; cases hx)
    rename_i hv
    split at h
    · rw [beq_iff_eq] at h
      have hl : T.kids = [] := List.length_eq_zero_iff.1 (by omega)
      exact .of hT (fun e => absurd e hv) (fun e => by omega) (fun x hx => by rw [hl] at hx; cases hx)
    split at h
    · simp only [Bool.and_eq_true, beq_iff_eq] at h
      refine .of hT (fun e => absurd e hv) (fun e => by omega) (fun x hx => ?_)
      rcases mem_two (by omega : T.kids.length = 2) hx with e | e
      · exact (ih x hx).1 (by rw [e]; exact h.1.2)
      · exact (ih x hx).1 (by rw [e]; exact h.2)
    split at h
    · simp only [Bool.and_eq_true] at h
      exact .of hT (fun e => absurd e hv) (fun e => by omega) (fun x hx => field_EB (by decide) (fieldsF_mem h.1 x hx) (ih x hx).2)
    split at h
    · simp only [Bool.and_eq_true, beq_iff_eq] at h
      refine .of hT (fun e => absurd e hv) (fun e => by omega) (fun x hx => ?_)
      rcases mem_two (by omega : T.kids.length = 2) hx with e | e
      · exact kind_EB x (by rw [e]; exact h.1.2)
      · exact (ih x hx).1 (by rw [e]; exact h.2)
    split at h
    · simp only [Bool.and_eq_true] at h
      exact .of hT (fun e => absurd e hv) (fun e => by omega) (fun x hx => field_EB (by decide) (fieldsF_mem h.1.2 x hx) (ih x hx).2)
    · cases h
theorem sigFieldsF_mem : ∀ {l : List Tree}, sigFieldsF l = true → ∀ x ∈ l, sigFieldF x = true
  | [], _, x, hx => by cases hx
  | y :: l, h, x, hx => by
    rw [sigFieldsF, Bool.and_eq_true] at h
    rcases List.mem_cons.1 hx with rfl | hx
    · exact h.1
    · exact sigFieldsF_mem h.2 x hx
theorem sig_EB (T : Tree) : isSigF T = true → EB T := by
  suffices h : (isSigF T = true → EB T) ∧ ∀ x ∈ T.kids, isSigF x = true → EB x from h.1
  induction T using Tree.ind' with
  | h0 => exact ⟨fun h => (by rw [isSigF] at h; cases h), fun x hx => (by cases hx)⟩
  | h1 T hT ih =>
    refine ⟨fun h => ?_, fun x hx => (ih x hx).1⟩
    rw [isSigF_eq hT, Bool.and_eq_true] at h
    obtain ⟨_, h⟩ := h
    split at h
    · simp only [Bool.and_eq_true, beq_iff_eq, decide_eq_true_eq] at h
      refine .of hT (fun e => by omega) (fun e => by omega) (fun x hx => ?_)
      have e := mem_one (by omega : T.kids.length = 1) hx
      exact con_EB x (by rw [e]; exact (conE_full h.2).2)
    split at h
    · rw [Bool.and_eq_true] at h
      refine .of hT (fun e => by omega) (fun e => by omega) (fun x hx => ?_)
      have hf := sigFieldsF_mem h.1 x hx
      have hx0 : x ≠ .nil := by intro e; subst e; rw [sigFieldF] at hf; cases hf
      rw [sigFieldF_eq hx0] at hf
      simp only [Bool.and_eq_true, beq_iff_eq] at hf
      obtain ⟨⟨⟨⟨h1, h2⟩, h3⟩, h4⟩, h5⟩ := hf
      refine .of hx0 (fun e => by omega) (fun e => by omega) (fun y hy => ?_)
      have e := mem_one (by omega : x.kids.length = 1) hy
      exact (ih x hx).2 y hy (by rw [e]; exact h5)
    · cases h
theorem ex_EB {T : Tree} (hT : T ≠ .nil) (h : exF T = true) : EB T := by
  unfold exF bareNF at h
  simp only [Bool.and_eq_true, beq_iff_eq, decide_eq_true_eq] at h
  obtain ⟨⟨⟨h1, h2⟩, h3⟩, h4⟩ := h
  refine .of hT (fun e => by omega) (fun e => ⟨h2.1.2, h2.2⟩) (fun x hx => ?_)
  have e := mem_one (by omega : T.kids.length = 1) hx
  exact sig_EB x (by rw [e]; exact h4)
theorem fun_EB {T : Tree} (hT : T ≠ .nil) (h : funF T = true) : EB T := by
  unfold funF bareNF at h
  simp only [Bool.and_eq_true, beq_iff_eq, decide_eq_true_eq] at h
  obtain ⟨⟨⟨⟨h1, h2⟩, h3⟩, h4⟩, h5⟩ := h
  have h5n : T.kids.getD 1 .nil ≠ .nil := by intro e; rw [e] at h5; unfold exF at h5; simp [Tree.kind] at h5
  refine .of hT (fun e => by omega) (fun e => ⟨h2.1.2, h2.2⟩) (fun x hx => ?_)
  rcases mem_two (by omega : T.kids.length = 2) hx with e | e
  · exact sig_EB x (by rw [e]; exact h4)
  · rw [e]; exact ex_EB h5n h5
/-- A constructor or a signature. -/
def formF (T : Tree) : Bool := decide (conE T = 0) || decide (semE T = 0)
theorem semE_full {T : Tree} (h : semE T = 0) : Full T ∧ (isSigF T || exF T || funF T) = true ∧ sizeN T ≤ 65536 := by
  unfold semE checkF at h
  split at h
  · refine ⟨wholeF_full T _ ‹_›, ?_, ?_⟩
    · cases hc : (isSigF T || exF T || funF T)
      · rw [hc] at h; simp at h
      · rfl
    · have := (wholeF_size T 65536 (by omega) ‹_›).2; omega
  · exact absurd h ‹_›
theorem form_EB {T : Tree} (h : formF T = true) : EB T ∧ sizeN T ≤ 65536 := by
  unfold formF at h
  simp only [Bool.or_eq_true, decide_eq_true_eq] at h
  rcases h with h | h
  · exact ⟨con_EB T (conE_full h).2, conE_size h⟩
  · obtain ⟨h1, h2, h3⟩ := semE_full h
    refine ⟨?_, h3⟩
    simp only [Bool.or_eq_true] at h2
    rcases h2 with (h2 | h2) | h2
    · exact sig_EB T h2
    · exact ex_EB h1.ne h2
    · exact fun_EB h1.ne h2

mutual
def fitsF : Tree → Tree → Int → List Tree → Bool × List Tree
  | .nil, _, _, cons => (false, cons)
  | .node k a nm mk l, n, d, cons =>
    if k = 110 ∧ d ≤ a ∧ IntKind.i64.wrap (a - d) < cons.length then varF cons (IntKind.i64.wrap (a - d)) n d
    else if k ≠ n.kind ∨ a ≠ n.n ∨ nm ≠ n.name ∨ mk ≠ n.mark ∨ l.length ≠ n.kids.length then (false, cons)
    else fitssF l n.kids (IntKind.i64.wrap (d + ebindsF (.node k a nm mk l))) cons
def fitssF : List Tree → List Tree → Int → List Tree → Bool × List Tree
  | [], _, _, cons => (true, cons)
  | x :: l, ys, d, cons => if (fitsF x (ys.getD 0 .nil) d cons).1 = true then fitssF l (ys.drop 1) d (fitsF x (ys.getD 0 .nil) d cons).2 else (false, (fitsF x (ys.getD 0 .nil) d cons).2)
end
theorem fitsF_eq {T : Tree} (h : T ≠ .nil) (n : Tree) (d : Int) (cons : List Tree) : fitsF T n d cons =
    if T.kind = 110 ∧ d ≤ T.n ∧ IntKind.i64.wrap (T.n - d) < cons.length then varF cons (IntKind.i64.wrap (T.n - d)) n d
    else if T.kind ≠ n.kind ∨ T.n ≠ n.n ∨ T.name ≠ n.name ∨ T.mark ≠ n.mark ∨ T.kids.length ≠ n.kids.length then (false, cons)
    else fitssF T.kids n.kids (IntKind.i64.wrap (d + ebindsF T)) cons := by
  cases T with
  | nil => exact absurd rfl h
  | node => rw [fitsF]; rfl
theorem fits_len (T : Tree) : ∀ n d cons, (fitsF T n d cons).2.length = cons.length := by
  induction T using Tree.ind' with
  | h0 => intro n d cons; rw [fitsF]
  | h1 T hT ih =>
    have kids : ∀ (l : List Tree), (∀ x ∈ l, ∀ n d cons, (fitsF x n d cons).2.length = cons.length) → ∀ ys d cons, (fitssF l ys d cons).2.length = cons.length := by
      intro l
      induction l with
      | nil => intro _ ys d cons; rw [fitssF]
      | cons x l ih2 =>
        intro hx ys d cons
        rw [fitssF]
        split
        · rw [ih2 (fun y hy => hx y (by simp [hy])), hx x (by simp)]
        · exact hx x (by simp) _ _ _
    intro n d cons
    rw [fitsF_eq hT]
    split
    · exact varF_len _ _ _ _
    · split
      · rfl
      · exact kids T.kids ih _ _ _
theorem fitss_step {l ys : List Tree} {p : Nat} (d : Int) (cons : List Tree) (h : p < l.length) : fitssF (l.drop p) (ys.drop p) d cons =
    if (fitsF (l.getD p .nil) (ys.getD p .nil) d cons).1 = true then fitssF (l.drop (p + 1)) (ys.drop (p + 1)) d (fitsF (l.getD p .nil) (ys.getD p .nil) d cons).2 else (false, (fitsF (l.getD p .nil) (ys.getD p .nil) d cons).2) := by
  have e : (ys.drop p).getD 0 .nil = ys.getD p .nil := by simp
  rw [drop_step h, fitssF, e, List.drop_drop]
theorem fitss_end {l ys : List Tree} {p : Nat} (d : Int) (cons : List Tree) (h : l.length ≤ p) : fitssF (l.drop p) ys d cons = (true, cons) := by
  rw [drop_end h, fitssF]

/-- What a pattern's making is asked of. -/
def FitsP (T : Tree) : Prop := ∀ (n : Tree) (d : Int) (cons : List Tree) (k : Nat), EB T → Full n → 0 ≤ d → d + 8192 * sizeN T ≤ 1125899906842624 → cons.length = k →
  Fun P 56 [.ref 0 0, .d (.tree T), .d (.tree n), .d (.int .i64 d)] [(0, .cells [.row 1 k]), (1, .row 25 (.trees cons))] 2
    (.d (.bool (fitsF T n d cons).1)) [(0, .cells [.row 1 k]), (1, .row 25 (.trees (fitsF T n d cons).2))] 2

abbrev ctx (k : Nat) (cons : List Tree) (T : Tree) (d : Int) : List (Nat × AObj) := [(0, .cells [.row 1 k]), (1, .row 25 (.trees cons)), (2, .cells [.ref 0 0]), (3, .cells [.d (.tree T)]), (4, .cells [.d (.int .i64 d)])]

set_option maxHeartbeats 4000000 in
set_option maxRecDepth 10000 in
theorem fits1_ok (T : Tree) (hT : T ≠ .nil) (x y : Tree) (hx : FitsP x) (hfx : EB x) (hfy : Full y) (d : Int) (hd0 : 0 ≤ IntKind.i64.wrap (d + ebindsF T)) (hd1 : IntKind.i64.wrap (d + ebindsF T) + 8192 * sizeN x ≤ 1125899906842624) (cons : List Tree) (k : Nat) (hk : cons.length = k) :
    Fun P 109 [.d (.tree x), .d (.tree y), .ref 2 0, .ref 4 0, .ref 3 0] [(0, .cells [.row 1 k]), (1, .row 25 (.trees cons)), (2, .cells [.ref 0 0]), (3, .cells [.d (.tree T)]), (4, .cells [.d (.int .i64 d)])] 5
      (.d (.bool (fitsF x y (IntKind.i64.wrap (d + ebindsF T)) cons).1)) [(0, .cells [.row 1 k]), (1, .row 25 (.trees (fitsF x y (IntKind.i64.wrap (d + ebindsF T)) cons).2)), (2, .cells [.ref 0 0]), (3, .cells [.d (.tree T)]), (4, .cells [.d (.int .i64 d)])] 5 := by
  have hf := hx y (IntKind.i64.wrap (d + ebindsF T)) cons k hfx hfy hd0 hd1 hk
  refine Fun.of_body tt [] [7] (Try.func109) rfl rfl rfl (Nat.le_of_ble_eq_true rfl) fun g => ?_
  repeat' first
    | (refine then_go hm htt ?_; conv => whnf)
    | (refine Side.mk (by first | assumption | exact trivial | rfl | exact Nat.le_of_ble_eq_true rfl | omega) ?_; conv => whnf)
    | (refine Hyp.mk fun hlen => ?_; replace hlen : _ ≤ 17592186044416 := hlen; conv => whnf)
    | (refine Split.ct ?_; conv => whnf)
    | (refine Split.cf ?_; conv => whnf)
    | (refine Split.of_true (by first | rfl | assumption | ((try simp only [bytes_eq, bytes_ne, empty_bytes, bytes_bne, bytes_bne']); (try simp only [decide_eq_true_eq, decide_eq_false_iff_not, beq_iff_eq, beq_eq_false_iff_ne, bne_iff_ne, bne_eq_false_iff_eq, Bool.not_eq_true', Bool.not_eq_false', Tree.isNil_iff, Tree.isNil_not, Int.not_lt, Int.not_le, gt_iff_lt, ge_iff_le, ne_eq, Decidable.not_not, Int.toNat_natCast, Int.toNat_zero, Int.toNat_one]); first | assumption | omega)) ?_; conv => whnf)
    | (refine Split.of_false (by first | rfl | assumption | ((try simp only [bytes_eq, bytes_ne, empty_bytes, bytes_bne, bytes_bne']); (try simp only [decide_eq_true_eq, decide_eq_false_iff_not, beq_iff_eq, beq_eq_false_iff_ne, bne_iff_ne, bne_eq_false_iff_eq, Bool.not_eq_true', Bool.not_eq_false', Tree.isNil_iff, Tree.isNil_not, Int.not_lt, Int.not_le, gt_iff_lt, ge_iff_le, ne_eq, Decidable.not_not, Int.toNat_natCast, Int.toNat_zero, Int.toNat_one]); first | assumption | omega)) ?_; conv => whnf)
    | (refine Indep.mk (by kernel_rfl) ?_; conv => whnf)
    | (refine CallG.pure (ebinds_ok T hT) rfl ?_; conv => whnf)
    | (refine CallG.fun hf [0, 1] rfl rfl rfl rfl rfl rfl (by repeat' first | exact trivial | apply And.intro | rfl | (refine int_eq ?_; rw [wrap64] <;> omega)) rfl ?_; conv => whnf)
    | (refine Split.mk (fun hc => ?_) (fun hc => ?_) <;> (try simp only [bytes_eq, bytes_ne, empty_bytes, bytes_bne, bytes_bne'] at hc) <;> (try simp only [decide_eq_true_eq, decide_eq_false_iff_not, beq_iff_eq, beq_eq_false_iff_ne, bne_iff_ne, bne_eq_false_iff_eq, Bool.not_eq_true', Bool.not_eq_false', Tree.isNil_iff, Tree.isNil_not, Int.not_lt, Int.not_le, gt_iff_lt, ge_iff_le, ne_eq, Decidable.not_not, Int.toNat_natCast, Int.toNat_zero, Int.toNat_one] at hc) <;> conv => whnf)
  exact ret_objs rfl rfl (bool_eq rfl) ⟨rfl, rfl, rfl, rfl, rfl, trivial⟩ (Nat.le_refl _)

set_option maxHeartbeats 8000000 in
set_option maxRecDepth 10000 in
theorem eqFits_ok (T : Tree) (hT : T ≠ .nil) (l ys : List Tree) (hl : l.length = ys.length) (ih : ∀ x ∈ l, FitsP x) (hfl : ∀ x ∈ l, EB x) (hfy : ∀ y ∈ ys, Full y) (d : Int) (hd0 : 0 ≤ IntKind.i64.wrap (d + ebindsF T)) (hd1 : ∀ x ∈ l, IntKind.i64.wrap (d + ebindsF T) + 8192 * sizeN x ≤ 1125899906842624) (cons : List Tree) (k : Nat) (hk : cons.length = k) :
    Fun P 66 [.d (.trees l), .d (.trees ys), .fn 109 [.ref 2 0, .ref 4 0, .ref 3 0]] [(0, .cells [.row 1 k]), (1, .row 25 (.trees cons)), (2, .cells [.ref 0 0]), (3, .cells [.d (.tree T)]), (4, .cells [.d (.int .i64 d)])] 5
      (.d (.bool (fitssF l ys (IntKind.i64.wrap (d + ebindsF T)) cons).1)) [(0, .cells [.row 1 k]), (1, .row 25 (.trees (fitssF l ys (IntKind.i64.wrap (d + ebindsF T)) cons).2)), (2, .cells [.ref 0 0]), (3, .cells [.d (.tree T)]), (4, .cells [.d (.int .i64 d)])] 5 := by
  refine Fun.of_body tt [] [6] (Try.func66) rfl rfl rfl (Nat.le_of_ble_eq_true rfl) fun g => ?_
  repeat' first
    | (refine then_go hm htt ?_; conv => whnf)
    | (refine Side.mk (by first | assumption | exact trivial | rfl | exact Nat.le_of_ble_eq_true rfl | omega) ?_; conv => whnf)
    | (refine Hyp.mk fun hlen => ?_; replace hlen : _ ≤ 17592186044416 := hlen; conv => whnf)
    | (refine Split.ct ?_; conv => whnf)
    | (refine Split.cf ?_; conv => whnf)
    | (refine Split.of_true (by first | rfl | assumption | ((try simp only [bytes_eq, bytes_ne, empty_bytes, bytes_bne, bytes_bne']); (try simp only [decide_eq_true_eq, decide_eq_false_iff_not, beq_iff_eq, beq_eq_false_iff_ne, bne_iff_ne, bne_eq_false_iff_eq, Bool.not_eq_true', Bool.not_eq_false', Tree.isNil_iff, Tree.isNil_not, Int.not_lt, Int.not_le, gt_iff_lt, ge_iff_le, ne_eq, Decidable.not_not, Int.toNat_natCast, Int.toNat_zero, Int.toNat_one]); first | assumption | omega)) ?_; conv => whnf)
    | (refine Split.of_false (by first | rfl | assumption | ((try simp only [bytes_eq, bytes_ne, empty_bytes, bytes_bne, bytes_bne']); (try simp only [decide_eq_true_eq, decide_eq_false_iff_not, beq_iff_eq, beq_eq_false_iff_ne, bne_iff_ne, bne_eq_false_iff_eq, Bool.not_eq_true', Bool.not_eq_false', Tree.isNil_iff, Tree.isNil_not, Int.not_lt, Int.not_le, gt_iff_lt, ge_iff_le, ne_eq, Decidable.not_not, Int.toNat_natCast, Int.toNat_zero, Int.toNat_one]); first | assumption | omega)) ?_; conv => whnf)
    | (refine Indep.mk (by kernel_rfl) ?_; conv => whnf)
    | (refine Split.mk (fun hc => ?_) (fun hc => ?_) <;> (try simp only [bytes_eq, bytes_ne, empty_bytes, bytes_bne, bytes_bne'] at hc) <;> (try simp only [decide_eq_true_eq, decide_eq_false_iff_not, beq_iff_eq, beq_eq_false_iff_ne, bne_iff_ne, bne_eq_false_iff_eq, Bool.not_eq_true', Bool.not_eq_false', Tree.isNil_iff, Tree.isNil_not, Int.not_lt, Int.not_le, gt_iff_lt, ge_iff_le, ne_eq, Decidable.not_not, Int.toNat_natCast, Int.toNat_zero, Int.toNat_one] at hc) <;> conv => whnf)
  refine loop_go (α := Nat × List Tree) (fun p => ⟨[(1, .d (.trees ys)), (2, .fn 109 [.ref 2 0, .ref 4 0, .ref 3 0]), (15, .d (.trees l)), (16, .d (.int .i64 l.length)), (17, .d (.int .i64 p.1))], 32,
        [(0, .cells [.row 1 k]), (1, .row 25 (.trees p.2)), (2, .cells [.ref 0 0]), (3, .cells [.d (.tree T)]), (4, .cells [.d (.int .i64 d)])], 5, g⟩)
      (fun p => p.1 ≤ l.length ∧ p.2.length = k ∧ fitssF (l.drop p.1) (ys.drop p.1) (IntKind.i64.wrap (d + ebindsF T)) p.2 = fitssF l ys (IntKind.i64.wrap (d + ebindsF T)) cons) (fun p => l.length - p.1) (0, cons) ⟨by simp, hk, rfl⟩
      (Ent.re [0, 1, 2, 3, 4] rfl rfl rfl rfl rfl rfl (by repeat' first | exact trivial | apply And.intro | rfl | (refine int_eq ?_; rw [wrap64] <;> omega)) (by repeat' first | exact trivial | apply And.intro | rfl | (refine int_eq ?_; rw [wrap64] <;> omega))) (fun _ => rfl) fun p hpre => ?_
  obtain ⟨p, ct⟩ := p
  obtain ⟨hp1, hp2, hp3⟩ := hpre
  simp only [] at hp1 hp2 hp3
  by_cases hlt : p < l.length
  · have hgm := getD_mem hlt
    have hmy := getD_mem (show p < ys.length by omega)
    have hf := fits1_ok T hT (l.getD p .nil) (ys.getD p .nil) (ih _ hgm) (hfl _ hgm) (hfy _ hmy) d hd0 (hd1 _ hgm) ct k hp2
    have hfl2 := fits_len (l.getD p .nil) (ys.getD p .nil) (IntKind.i64.wrap (d + ebindsF T)) ct
    rw [fitss_step _ _ hlt] at hp3
    generalize fitsF (l.getD p .nil) (ys.getD p .nil) (IntKind.i64.wrap (d + ebindsF T)) ct = R at hf hp3 hfl2
    obtain ⟨rb, rc⟩ := R
    simp only [] at hf hp3 hfl2
    cases rb with
    | true =>
      rw [if_pos rfl] at hp3
      repeat' first
        | (refine then_go hm htt ?_; conv => whnf)
        | (refine Side.mk (by first | assumption | exact trivial | rfl | exact Nat.le_of_ble_eq_true rfl | omega) ?_; conv => whnf)
        | (refine Hyp.mk fun hlen => ?_; replace hlen : _ ≤ 17592186044416 := hlen; conv => whnf)
        | (refine Split.ct ?_; conv => whnf)
        | (refine Split.cf ?_; conv => whnf)
        | (refine Split.of_true (by first | rfl | assumption | ((try simp only [bytes_eq, bytes_ne, empty_bytes, bytes_bne, bytes_bne']); (try simp only [decide_eq_true_eq, decide_eq_false_iff_not, beq_iff_eq, beq_eq_false_iff_ne, bne_iff_ne, bne_eq_false_iff_eq, Bool.not_eq_true', Bool.not_eq_false', Tree.isNil_iff, Tree.isNil_not, Int.not_lt, Int.not_le, gt_iff_lt, ge_iff_le, ne_eq, Decidable.not_not, Int.toNat_natCast, Int.toNat_zero, Int.toNat_one]); first | assumption | omega)) ?_; conv => whnf)
        | (refine Split.of_false (by first | rfl | assumption | ((try simp only [bytes_eq, bytes_ne, empty_bytes, bytes_bne, bytes_bne']); (try simp only [decide_eq_true_eq, decide_eq_false_iff_not, beq_iff_eq, beq_eq_false_iff_ne, bne_iff_ne, bne_eq_false_iff_eq, Bool.not_eq_true', Bool.not_eq_false', Tree.isNil_iff, Tree.isNil_not, Int.not_lt, Int.not_le, gt_iff_lt, ge_iff_le, ne_eq, Decidable.not_not, Int.toNat_natCast, Int.toNat_zero, Int.toNat_one]); first | assumption | omega)) ?_; conv => whnf)
        | (refine Indep.mk (by kernel_rfl) ?_; conv => whnf)
        | (refine Side.mk (show (0 : Int) ≤ (p : Int) ∧ (p : Int) < (l.length : Int) from ⟨by omega, by omega⟩) ?_; conv => whnf)
        | (refine Side.mk (show (0 : Int) ≤ (p : Int) ∧ (p : Int) < (ys.length : Int) from ⟨by omega, by omega⟩) ?_; conv => whnf)
        | (refine CallG.fun hf [0, 1, 2, 3, 4] rfl rfl rfl rfl rfl rfl (by repeat' first | exact trivial | apply And.intro | rfl | (refine int_eq ?_; rw [wrap64] <;> omega)) rfl ?_; conv => whnf)
        | (refine Split.mk (fun hc => ?_) (fun hc => ?_) <;> (try simp only [bytes_eq, bytes_ne, empty_bytes, bytes_bne, bytes_bne'] at hc) <;> (try simp only [decide_eq_true_eq, decide_eq_false_iff_not, beq_iff_eq, beq_eq_false_iff_ne, bne_iff_ne, bne_eq_false_iff_eq, Bool.not_eq_true', Bool.not_eq_false', Tree.isNil_iff, Tree.isNil_not, Int.not_lt, Int.not_le, gt_iff_lt, ge_iff_le, ne_eq, Decidable.not_not, Int.toNat_natCast, Int.toNat_zero, Int.toNat_one] at hc) <;> conv => whnf)
      exact ⟨(p + 1, rc), ⟨by simp only []; omega, by simp only []; omega, hp3⟩, by simp only []; omega, Ent.re [0, 1, 2, 3, 4] rfl rfl rfl rfl rfl rfl (by repeat' first | exact trivial | apply And.intro | rfl | (refine int_eq ?_; rw [wrap64] <;> omega)) (by repeat' first | exact trivial | apply And.intro | rfl | (refine int_eq ?_; rw [wrap64] <;> omega))⟩
    | false =>
      rw [if_neg (by simp)] at hp3
      rw [← hp3]
      repeat' first
        | (refine then_go hm htt ?_; conv => whnf)
        | (refine Side.mk (by first | assumption | exact trivial | rfl | exact Nat.le_of_ble_eq_true rfl | omega) ?_; conv => whnf)
        | (refine Hyp.mk fun hlen => ?_; replace hlen : _ ≤ 17592186044416 := hlen; conv => whnf)
        | (refine Split.ct ?_; conv => whnf)
        | (refine Split.cf ?_; conv => whnf)
        | (refine Split.of_true (by first | rfl | assumption | ((try simp only [bytes_eq, bytes_ne, empty_bytes, bytes_bne, bytes_bne']); (try simp only [decide_eq_true_eq, decide_eq_false_iff_not, beq_iff_eq, beq_eq_false_iff_ne, bne_iff_ne, bne_eq_false_iff_eq, Bool.not_eq_true', Bool.not_eq_false', Tree.isNil_iff, Tree.isNil_not, Int.not_lt, Int.not_le, gt_iff_lt, ge_iff_le, ne_eq, Decidable.not_not, Int.toNat_natCast, Int.toNat_zero, Int.toNat_one]); first | assumption | omega)) ?_; conv => whnf)
        | (refine Split.of_false (by first | rfl | assumption | ((try simp only [bytes_eq, bytes_ne, empty_bytes, bytes_bne, bytes_bne']); (try simp only [decide_eq_true_eq, decide_eq_false_iff_not, beq_iff_eq, beq_eq_false_iff_ne, bne_iff_ne, bne_eq_false_iff_eq, Bool.not_eq_true', Bool.not_eq_false', Tree.isNil_iff, Tree.isNil_not, Int.not_lt, Int.not_le, gt_iff_lt, ge_iff_le, ne_eq, Decidable.not_not, Int.toNat_natCast, Int.toNat_zero, Int.toNat_one]); first | assumption | omega)) ?_; conv => whnf)
        | (refine Indep.mk (by kernel_rfl) ?_; conv => whnf)
        | (refine Side.mk (show (0 : Int) ≤ (p : Int) ∧ (p : Int) < (l.length : Int) from ⟨by omega, by omega⟩) ?_; conv => whnf)
        | (refine Side.mk (show (0 : Int) ≤ (p : Int) ∧ (p : Int) < (ys.length : Int) from ⟨by omega, by omega⟩) ?_; conv => whnf)
        | (refine CallG.fun hf [0, 1, 2, 3, 4] rfl rfl rfl rfl rfl rfl (by repeat' first | exact trivial | apply And.intro | rfl | (refine int_eq ?_; rw [wrap64] <;> omega)) rfl ?_; conv => whnf)
        | (refine Split.mk (fun hc => ?_) (fun hc => ?_) <;> (try simp only [bytes_eq, bytes_ne, empty_bytes, bytes_bne, bytes_bne'] at hc) <;> (try simp only [decide_eq_true_eq, decide_eq_false_iff_not, beq_iff_eq, beq_eq_false_iff_ne, bne_iff_ne, bne_eq_false_iff_eq, Bool.not_eq_true', Bool.not_eq_false', Tree.isNil_iff, Tree.isNil_not, Int.not_lt, Int.not_le, gt_iff_lt, ge_iff_le, ne_eq, Decidable.not_not, Int.toNat_natCast, Int.toNat_zero, Int.toNat_one] at hc) <;> conv => whnf)
      exact ret_objs rfl rfl (bool_eq rfl) ⟨rfl, rfl, rfl, rfl, rfl, trivial⟩ (Nat.le_refl _)
  · rw [fitss_end _ _ (by omega)] at hp3
    rw [← hp3]
    repeat' first
      | (refine then_go hm htt ?_; conv => whnf)
      | (refine Side.mk (by first | assumption | exact trivial | rfl | exact Nat.le_of_ble_eq_true rfl | omega) ?_; conv => whnf)
      | (refine Hyp.mk fun hlen => ?_; replace hlen : _ ≤ 17592186044416 := hlen; conv => whnf)
      | (refine Split.ct ?_; conv => whnf)
      | (refine Split.cf ?_; conv => whnf)
      | (refine Split.of_true (by first | rfl | assumption | ((try simp only [bytes_eq, bytes_ne, empty_bytes, bytes_bne, bytes_bne']); (try simp only [decide_eq_true_eq, decide_eq_false_iff_not, beq_iff_eq, beq_eq_false_iff_ne, bne_iff_ne, bne_eq_false_iff_eq, Bool.not_eq_true', Bool.not_eq_false', Tree.isNil_iff, Tree.isNil_not, Int.not_lt, Int.not_le, gt_iff_lt, ge_iff_le, ne_eq, Decidable.not_not, Int.toNat_natCast, Int.toNat_zero, Int.toNat_one]); first | assumption | omega)) ?_; conv => whnf)
      | (refine Split.of_false (by first | rfl | assumption | ((try simp only [bytes_eq, bytes_ne, empty_bytes, bytes_bne, bytes_bne']); (try simp only [decide_eq_true_eq, decide_eq_false_iff_not, beq_iff_eq, beq_eq_false_iff_ne, bne_iff_ne, bne_eq_false_iff_eq, Bool.not_eq_true', Bool.not_eq_false', Tree.isNil_iff, Tree.isNil_not, Int.not_lt, Int.not_le, gt_iff_lt, ge_iff_le, ne_eq, Decidable.not_not, Int.toNat_natCast, Int.toNat_zero, Int.toNat_one]); first | assumption | omega)) ?_; conv => whnf)
      | (refine Indep.mk (by kernel_rfl) ?_; conv => whnf)
      | (refine Split.mk (fun hc => ?_) (fun hc => ?_) <;> (try simp only [bytes_eq, bytes_ne, empty_bytes, bytes_bne, bytes_bne'] at hc) <;> (try simp only [decide_eq_true_eq, decide_eq_false_iff_not, beq_iff_eq, beq_eq_false_iff_ne, bne_iff_ne, bne_eq_false_iff_eq, Bool.not_eq_true', Bool.not_eq_false', Tree.isNil_iff, Tree.isNil_not, Int.not_lt, Int.not_le, gt_iff_lt, ge_iff_le, ne_eq, Decidable.not_not, Int.toNat_natCast, Int.toNat_zero, Int.toNat_one] at hc) <;> conv => whnf)
    exact ret_objs rfl rfl (bool_eq rfl) ⟨rfl, rfl, rfl, rfl, rfl, trivial⟩ (Nat.le_refl _)

set_option maxHeartbeats 4000000 in
set_option maxRecDepth 10000 in
theorem eqFits_ne (T : Tree) (l ys : List Tree) (hl : l.length ≠ ys.length) (d : Int) (cons : List Tree) (k : Nat) :
    Fun P 66 [.d (.trees l), .d (.trees ys), .fn 109 [.ref 2 0, .ref 4 0, .ref 3 0]] [(0, .cells [.row 1 k]), (1, .row 25 (.trees cons)), (2, .cells [.ref 0 0]), (3, .cells [.d (.tree T)]), (4, .cells [.d (.int .i64 d)])] 5
      (.d (.bool false)) [(0, .cells [.row 1 k]), (1, .row 25 (.trees cons)), (2, .cells [.ref 0 0]), (3, .cells [.d (.tree T)]), (4, .cells [.d (.int .i64 d)])] 5 := by
  refine Fun.of_body tt [] [6] (Try.func66) rfl rfl rfl (Nat.le_of_ble_eq_true rfl) fun g => ?_
  repeat' first
    | (refine then_go hm htt ?_; conv => whnf)
    | (refine Side.mk (by first | assumption | exact trivial | rfl | exact Nat.le_of_ble_eq_true rfl | omega) ?_; conv => whnf)
    | (refine Hyp.mk fun hlen => ?_; replace hlen : _ ≤ 17592186044416 := hlen; conv => whnf)
    | (refine Split.ct ?_; conv => whnf)
    | (refine Split.cf ?_; conv => whnf)
    | (refine Split.of_true (by first | rfl | assumption | ((try simp only [bytes_eq, bytes_ne, empty_bytes, bytes_bne, bytes_bne']); (try simp only [decide_eq_true_eq, decide_eq_false_iff_not, beq_iff_eq, beq_eq_false_iff_ne, bne_iff_ne, bne_eq_false_iff_eq, Bool.not_eq_true', Bool.not_eq_false', Tree.isNil_iff, Tree.isNil_not, Int.not_lt, Int.not_le, gt_iff_lt, ge_iff_le, ne_eq, Decidable.not_not, Int.toNat_natCast, Int.toNat_zero, Int.toNat_one]); first | assumption | omega)) ?_; conv => whnf)
    | (refine Split.of_false (by first | rfl | assumption | ((try simp only [bytes_eq, bytes_ne, empty_bytes, bytes_bne, bytes_bne']); (try simp only [decide_eq_true_eq, decide_eq_false_iff_not, beq_iff_eq, beq_eq_false_iff_ne, bne_iff_ne, bne_eq_false_iff_eq, Bool.not_eq_true', Bool.not_eq_false', Tree.isNil_iff, Tree.isNil_not, Int.not_lt, Int.not_le, gt_iff_lt, ge_iff_le, ne_eq, Decidable.not_not, Int.toNat_natCast, Int.toNat_zero, Int.toNat_one]); first | assumption | omega)) ?_; conv => whnf)
    | (refine Indep.mk (by kernel_rfl) ?_; conv => whnf)
    | (refine Split.mk (fun hc => ?_) (fun hc => ?_) <;> (try simp only [bytes_eq, bytes_ne, empty_bytes, bytes_bne, bytes_bne'] at hc) <;> (try simp only [decide_eq_true_eq, decide_eq_false_iff_not, beq_iff_eq, beq_eq_false_iff_ne, bne_iff_ne, bne_eq_false_iff_eq, Bool.not_eq_true', Bool.not_eq_false', Tree.isNil_iff, Tree.isNil_not, Int.not_lt, Int.not_le, gt_iff_lt, ge_iff_le, ne_eq, Decidable.not_not, Int.toNat_natCast, Int.toNat_zero, Int.toNat_one] at hc) <;> conv => whnf)
  exact ret_objs rfl rfl (bool_eq rfl) ⟨rfl, rfl, rfl, rfl, rfl, trivial⟩ (Nat.le_refl _)

set_option maxHeartbeats 8000000 in
set_option maxRecDepth 10000 in
theorem fits_ok (T : Tree) : FitsP T := by
  induction T using Tree.ind' with
  | h0 => intro n d cons k hF; cases hF
  | h1 T hT ih => ?_
  intro n d cons k hF hn hd0 hd1 hk
  have hnT := hn.ne
  have hsz := sizeN_kids hT
  have he := fitsF_eq hT n d cons
  have heb := hF.ebinds
  refine Fun.of_body tt [] [8] (Try.func56) rfl rfl rfl (Nat.le_of_ble_eq_true rfl) fun g => ?_
  by_cases hv : T.kind = 110 ∧ d ≤ T.n ∧ IntKind.i64.wrap (T.n - d) < cons.length
  · rw [if_pos hv] at he
    obtain ⟨v1, v2, v3⟩ := hv
    have hvn := hF.v v1
    have hw : IntKind.i64.wrap (T.n - d) = T.n - d := wrap64 (by omega) (by omega)
    have hvo := var_ok cons k hk (IntKind.i64.wrap (T.n - d)) n d (by rw [hw]; omega) (by omega) ⟨by omega, by omega⟩
    rw [← he] at hvo
    repeat' first
      | (refine then_go hm htt ?_; conv => whnf)
      | (refine Side.mk (by first | assumption | exact trivial | rfl | exact Nat.le_of_ble_eq_true rfl | omega) ?_; conv => whnf)
      | (refine Hyp.mk fun hlen => ?_; replace hlen : _ ≤ 17592186044416 := hlen; conv => whnf)
      | (refine Split.ct ?_; conv => whnf)
      | (refine Split.cf ?_; conv => whnf)
      | (refine Split.of_true (by first | rfl | assumption | ((try simp only [bytes_eq, bytes_ne, empty_bytes, bytes_bne, bytes_bne']); (try simp only [decide_eq_true_eq, decide_eq_false_iff_not, beq_iff_eq, beq_eq_false_iff_ne, bne_iff_ne, bne_eq_false_iff_eq, Bool.not_eq_true', Bool.not_eq_false', Tree.isNil_iff, Tree.isNil_not, Int.not_lt, Int.not_le, gt_iff_lt, ge_iff_le, ne_eq, Decidable.not_not, Int.toNat_natCast, Int.toNat_zero, Int.toNat_one]); first | assumption | omega)) ?_; conv => whnf)
      | (refine Split.of_false (by first | rfl | assumption | ((try simp only [bytes_eq, bytes_ne, empty_bytes, bytes_bne, bytes_bne']); (try simp only [decide_eq_true_eq, decide_eq_false_iff_not, beq_iff_eq, beq_eq_false_iff_ne, bne_iff_ne, bne_eq_false_iff_eq, Bool.not_eq_true', Bool.not_eq_false', Tree.isNil_iff, Tree.isNil_not, Int.not_lt, Int.not_le, gt_iff_lt, ge_iff_le, ne_eq, Decidable.not_not, Int.toNat_natCast, Int.toNat_zero, Int.toNat_one]); first | assumption | omega)) ?_; conv => whnf)
      | (refine Indep.mk (by kernel_rfl) ?_; conv => whnf)
      | (refine CallG.fun hvo [0, 1] rfl rfl rfl rfl rfl rfl (by repeat' first | exact trivial | apply And.intro | rfl | (refine int_eq ?_; rw [wrap64] <;> omega)) rfl ?_; conv => whnf)
      | (refine Split.mk (fun hc => ?_) (fun hc => ?_) <;> (try simp only [bytes_eq, bytes_ne, empty_bytes, bytes_bne, bytes_bne'] at hc) <;> (try simp only [decide_eq_true_eq, decide_eq_false_iff_not, beq_iff_eq, beq_eq_false_iff_ne, bne_iff_ne, bne_eq_false_iff_eq, Bool.not_eq_true', Bool.not_eq_false', Tree.isNil_iff, Tree.isNil_not, Int.not_lt, Int.not_le, gt_iff_lt, ge_iff_le, ne_eq, Decidable.not_not, Int.toNat_natCast, Int.toNat_zero, Int.toNat_one] at hc) <;> conv => whnf)
    refine RetS.ent (σ' := ⟨[(8, .d (.bool (fitsF T n d cons).1))], 98, [(0, .cells [.row 1 k]), (1, .row 25 (.trees (fitsF T n d cons).2))], 2, g⟩) (Ent.re [0, 1] rfl rfl rfl rfl rfl rfl (by repeat' first | exact trivial | apply And.intro | rfl | (refine int_eq ?_; rw [wrap64] <;> omega)) (by repeat' first | exact trivial | apply And.intro | rfl | (refine int_eq ?_; rw [wrap64] <;> omega))) ?_
    exact ret_objs rfl rfl (bool_eq rfl) ⟨rfl, rfl, trivial⟩ (Nat.le_refl _)
  · rw [if_neg hv] at he
    have hv' : T.kind = 110 → d ≤ T.n → ¬ IntKind.i64.wrap (T.n - d) < k := fun h1 h2 h3 => hv ⟨h1, h2, by omega⟩
    clear hv
    by_cases hs : T.kind ≠ n.kind ∨ T.n ≠ n.n ∨ T.name ≠ n.name ∨ T.mark ≠ n.mark
    · rw [if_pos (by rcases hs with h | h | h | h <;> simp [h])] at he
      have hfin : T.kind = n.kind → T.n = n.n → T.name = n.name → T.mark = n.mark → False := fun h1 h2 h3 h4 => by simp [h1, h2, h3, h4] at hs
      clear hs
      rw [he]
      repeat' first
        | (refine then_go hm htt ?_; conv => whnf)
        | (refine Side.mk (by first | assumption | exact trivial | rfl | exact Nat.le_of_ble_eq_true rfl | omega) ?_; conv => whnf)
        | (refine Hyp.mk fun hlen => ?_; replace hlen : _ ≤ 17592186044416 := hlen; conv => whnf)
        | (refine Split.ct ?_; conv => whnf)
        | (refine Split.cf ?_; conv => whnf)
        | (refine Split.of_true (by first | rfl | assumption | ((try simp only [bytes_eq, bytes_ne, empty_bytes, bytes_bne, bytes_bne']); (try simp only [decide_eq_true_eq, decide_eq_false_iff_not, beq_iff_eq, beq_eq_false_iff_ne, bne_iff_ne, bne_eq_false_iff_eq, Bool.not_eq_true', Bool.not_eq_false', Tree.isNil_iff, Tree.isNil_not, Int.not_lt, Int.not_le, gt_iff_lt, ge_iff_le, ne_eq, Decidable.not_not, Int.toNat_natCast, Int.toNat_zero, Int.toNat_one]); first | assumption | omega)) ?_; conv => whnf)
        | (refine Split.of_false (by first | rfl | assumption | ((try simp only [bytes_eq, bytes_ne, empty_bytes, bytes_bne, bytes_bne']); (try simp only [decide_eq_true_eq, decide_eq_false_iff_not, beq_iff_eq, beq_eq_false_iff_ne, bne_iff_ne, bne_eq_false_iff_eq, Bool.not_eq_true', Bool.not_eq_false', Tree.isNil_iff, Tree.isNil_not, Int.not_lt, Int.not_le, gt_iff_lt, ge_iff_le, ne_eq, Decidable.not_not, Int.toNat_natCast, Int.toNat_zero, Int.toNat_one]); first | assumption | omega)) ?_; conv => whnf)
        | (refine Indep.mk (by kernel_rfl) ?_; conv => whnf)
        | (exfalso; exact hv' (by omega) (by omega) (by omega))
        | (exfalso; exact hfin (by omega) (by omega) (by assumption) (by assumption))
        | (refine Split.mk (fun hc => ?_) (fun hc => ?_) <;> (try simp only [bytes_eq, bytes_ne, empty_bytes, bytes_bne, bytes_bne'] at hc) <;> (try simp only [decide_eq_true_eq, decide_eq_false_iff_not, beq_iff_eq, beq_eq_false_iff_ne, bne_iff_ne, bne_eq_false_iff_eq, Bool.not_eq_true', Bool.not_eq_false', Tree.isNil_iff, Tree.isNil_not, Int.not_lt, Int.not_le, gt_iff_lt, ge_iff_le, ne_eq, Decidable.not_not, Int.toNat_natCast, Int.toNat_zero, Int.toNat_one] at hc) <;> conv => whnf)
      all_goals
        refine RetS.ent (σ' := ⟨[(8, .d (.bool false))], 98, [(0, .cells [.row 1 k]), (1, .row 25 (.trees cons))], 2, g⟩) (Ent.re [0, 1] rfl rfl rfl rfl rfl rfl (by repeat' first | exact trivial | apply And.intro | rfl | (refine int_eq ?_; rw [wrap64] <;> omega)) (by repeat' first | exact trivial | apply And.intro | rfl | (refine int_eq ?_; rw [wrap64] <;> omega))) ?_
        exact ret_objs rfl rfl (bool_eq rfl) ⟨rfl, rfl, trivial⟩ (Nat.le_refl _)
    · have hs1 : T.kind = n.kind ∧ T.n = n.n ∧ T.name = n.name ∧ T.mark = n.mark := by
        refine ⟨?_, ?_, ?_, ?_⟩ <;> (apply Decidable.byContradiction; intro h; exact hs (by simp [h]))
      obtain ⟨s1, s2, s3, s4⟩ := hs1
      clear hs
      by_cases hl : T.kids.length = n.kids.length
      · rw [if_neg (by simp [s1, s2, s3, s4, hl])] at he
        have hwe : IntKind.i64.wrap (d + ebindsF T) = d + ebindsF T := wrap64 (by omega) (by omega)
        have hq := eqFits_ok T hT T.kids n.kids hl ih hF.k hn.kids d (by rw [hwe]; omega) (fun x hx => by rw [hwe]; have := sizesN_mem hx; omega) cons k hk
        rw [← he] at hq
        repeat' first
          | (refine then_go hm htt ?_; conv => whnf)
          | (refine Side.mk (by first | assumption | exact trivial | rfl | exact Nat.le_of_ble_eq_true rfl | omega) ?_; conv => whnf)
          | (refine Hyp.mk fun hlen => ?_; replace hlen : _ ≤ 17592186044416 := hlen; conv => whnf)
          | (refine Split.ct ?_; conv => whnf)
          | (refine Split.cf ?_; conv => whnf)
          | (refine Split.of_true (by first | rfl | assumption | ((try simp only [bytes_eq, bytes_ne, empty_bytes, bytes_bne, bytes_bne']); (try simp only [decide_eq_true_eq, decide_eq_false_iff_not, beq_iff_eq, beq_eq_false_iff_ne, bne_iff_ne, bne_eq_false_iff_eq, Bool.not_eq_true', Bool.not_eq_false', Tree.isNil_iff, Tree.isNil_not, Int.not_lt, Int.not_le, gt_iff_lt, ge_iff_le, ne_eq, Decidable.not_not, Int.toNat_natCast, Int.toNat_zero, Int.toNat_one]); first | assumption | omega)) ?_; conv => whnf)
          | (refine Split.of_false (by first | rfl | assumption | ((try simp only [bytes_eq, bytes_ne, empty_bytes, bytes_bne, bytes_bne']); (try simp only [decide_eq_true_eq, decide_eq_false_iff_not, beq_iff_eq, beq_eq_false_iff_ne, bne_iff_ne, bne_eq_false_iff_eq, Bool.not_eq_true', Bool.not_eq_false', Tree.isNil_iff, Tree.isNil_not, Int.not_lt, Int.not_le, gt_iff_lt, ge_iff_le, ne_eq, Decidable.not_not, Int.toNat_natCast, Int.toNat_zero, Int.toNat_one]); first | assumption | omega)) ?_; conv => whnf)
          | (refine Indep.mk (by kernel_rfl) ?_; conv => whnf)
          | (refine Split.of_false (bytes_bne'.2 s3) ?_; conv => whnf)
          | (refine Split.of_false (bytes_bne'.2 s4) ?_; conv => whnf)
          | (exfalso; exact hv' (by omega) (by omega) (by omega))
          | (refine CallG.fun hq [0, 1, 2, 3, 4] rfl rfl rfl rfl rfl rfl (by repeat' first | exact trivial | apply And.intro | rfl | (refine int_eq ?_; rw [wrap64] <;> omega)) rfl ?_; conv => whnf)
          | (refine Split.mk (fun hc => ?_) (fun hc => ?_) <;> (try simp only [bytes_eq, bytes_ne, empty_bytes, bytes_bne, bytes_bne'] at hc) <;> (try simp only [decide_eq_true_eq, decide_eq_false_iff_not, beq_iff_eq, beq_eq_false_iff_ne, bne_iff_ne, bne_eq_false_iff_eq, Bool.not_eq_true', Bool.not_eq_false', Tree.isNil_iff, Tree.isNil_not, Int.not_lt, Int.not_le, gt_iff_lt, ge_iff_le, ne_eq, Decidable.not_not, Int.toNat_natCast, Int.toNat_zero, Int.toNat_one] at hc) <;> conv => whnf)
        all_goals
          refine RetS.ent (σ' := ⟨[(8, .d (.bool (fitsF T n d cons).1))], 98, [(0, .cells [.row 1 k]), (1, .row 25 (.trees (fitsF T n d cons).2))], 2, g⟩) (Ent.re [0, 1] rfl rfl rfl rfl rfl rfl (by repeat' first | exact trivial | apply And.intro | rfl | (refine int_eq ?_; rw [wrap64] <;> omega)) (by repeat' first | exact trivial | apply And.intro | rfl | (refine int_eq ?_; rw [wrap64] <;> omega))) ?_
          exact ret_objs rfl rfl (bool_eq rfl) ⟨rfl, rfl, trivial⟩ (Nat.le_refl _)
      · rw [if_pos (by simp [hl])] at he
        have hq := eqFits_ne T T.kids n.kids hl d cons k
        rw [he]
        repeat' first
          | (refine then_go hm htt ?_; conv => whnf)
          | (refine Side.mk (by first | assumption | exact trivial | rfl | exact Nat.le_of_ble_eq_true rfl | omega) ?_; conv => whnf)
          | (refine Hyp.mk fun hlen => ?_; replace hlen : _ ≤ 17592186044416 := hlen; conv => whnf)
          | (refine Split.ct ?_; conv => whnf)
          | (refine Split.cf ?_; conv => whnf)
          | (refine Split.of_true (by first | rfl | assumption | ((try simp only [bytes_eq, bytes_ne, empty_bytes, bytes_bne, bytes_bne']); (try simp only [decide_eq_true_eq, decide_eq_false_iff_not, beq_iff_eq, beq_eq_false_iff_ne, bne_iff_ne, bne_eq_false_iff_eq, Bool.not_eq_true', Bool.not_eq_false', Tree.isNil_iff, Tree.isNil_not, Int.not_lt, Int.not_le, gt_iff_lt, ge_iff_le, ne_eq, Decidable.not_not, Int.toNat_natCast, Int.toNat_zero, Int.toNat_one]); first | assumption | omega)) ?_; conv => whnf)
          | (refine Split.of_false (by first | rfl | assumption | ((try simp only [bytes_eq, bytes_ne, empty_bytes, bytes_bne, bytes_bne']); (try simp only [decide_eq_true_eq, decide_eq_false_iff_not, beq_iff_eq, beq_eq_false_iff_ne, bne_iff_ne, bne_eq_false_iff_eq, Bool.not_eq_true', Bool.not_eq_false', Tree.isNil_iff, Tree.isNil_not, Int.not_lt, Int.not_le, gt_iff_lt, ge_iff_le, ne_eq, Decidable.not_not, Int.toNat_natCast, Int.toNat_zero, Int.toNat_one]); first | assumption | omega)) ?_; conv => whnf)
          | (refine Indep.mk (by kernel_rfl) ?_; conv => whnf)
          | (refine Split.of_false (bytes_bne'.2 s3) ?_; conv => whnf)
          | (refine Split.of_false (bytes_bne'.2 s4) ?_; conv => whnf)
          | (exfalso; exact hv' (by omega) (by omega) (by omega))
          | (refine CallG.fun hq [0, 1, 2, 3, 4] rfl rfl rfl rfl rfl rfl (by repeat' first | exact trivial | apply And.intro | rfl | (refine int_eq ?_; rw [wrap64] <;> omega)) rfl ?_; conv => whnf)
          | (refine Split.mk (fun hc => ?_) (fun hc => ?_) <;> (try simp only [bytes_eq, bytes_ne, empty_bytes, bytes_bne, bytes_bne'] at hc) <;> (try simp only [decide_eq_true_eq, decide_eq_false_iff_not, beq_iff_eq, beq_eq_false_iff_ne, bne_iff_ne, bne_eq_false_iff_eq, Bool.not_eq_true', Bool.not_eq_false', Tree.isNil_iff, Tree.isNil_not, Int.not_lt, Int.not_le, gt_iff_lt, ge_iff_le, ne_eq, Decidable.not_not, Int.toNat_natCast, Int.toNat_zero, Int.toNat_one] at hc) <;> conv => whnf)
        all_goals
          refine RetS.ent (σ' := ⟨[(8, .d (.bool false))], 98, [(0, .cells [.row 1 k]), (1, .row 25 (.trees cons))], 2, g⟩) (Ent.re [0, 1] rfl rfl rfl rfl rfl rfl (by repeat' first | exact trivial | apply And.intro | rfl | (refine int_eq ?_; rw [wrap64] <;> omega)) (by repeat' first | exact trivial | apply And.intro | rfl | (refine int_eq ?_; rw [wrap64] <;> omega))) ?_
          exact ret_objs rfl rfl (bool_eq rfl) ⟨rfl, rfl, trivial⟩ (Nat.le_refl _)
end Ex
end Go.Proofs.Ytfblaochmhhknaa
