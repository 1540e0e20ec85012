/- What functions of the program compute, and plain facts about it. -/
import Derived.Test.YtoajaklekmbcdaaGreatGO
set_option linter.all false
namespace Go.Proofs.YtoajaklekmbcdaaGreat
namespace St
open Go Go.Mq Tm Sb
set_option linter.all false

/-! The document's own step: small ones -/
def aheadD (T : Tree) : Mq.Data := .slice ((plcF T).2 - (plcF T).1) 1 (fun i _ => .int .i64 (((plcF T).1 + i : Nat) : Int))
theorem nat_list_get {p i : Nat} (h : i < p) : ((List.range p).map fun i : Nat => (i : Int)).getD i 0 = i := by
  simp [List.getD_eq_getElem?_getD, h]
theorem nat_list_snoc (p : Nat) : ((List.range p).map fun i : Nat => (i : Int)) ++ [(p : Int)] = (List.range (p + 1)).map fun i : Nat => (i : Int) := by
  rw [List.range_succ]; simp
set_option maxHeartbeats 4000000 in
set_option maxRecDepth 10000 in
theorem ahead_ok (T : Tree) (hT : T ≠ .nil) : Pure P 46 [.d (.tree T)] (.d (aheadD T)) := by
  refine Pure.of_body tt [] [2] Tryz.func46 rfl rfl rfl (Nat.le_of_ble_eq_true rfl) fun g => ?_
  unfold aheadD
  by_cases k1 : T.kind = 135 ∨ T.kind = 145
  · have e : plcF T = (0, 2) := by unfold plcF; rw [if_pos k1]
    rw [e]
    repeat' ((first
      | refine then_go hm htt ?_
      | refine Side.go ?_
      | refine Hyp.go fun hlen => ?_
      | refine Split.ct ?_
      | refine Split.cf ?_
      | refine Split.tt ?_
      | refine Split.ff ?_
      | refine Indep.go ?_
      | refine Split.go (fun hc => ?_) fun hc => ?_) <;> conv => whnf)
    all_goals
      refine RetS.ent (σ' := ⟨[(2, .row 0 2)], 51, [(0, .row 3 (.ints .i64 [0, 1]))], 1, g⟩) (Ent.go [0]) ?_
      refine RetS.ent (Ent.fz_slice 0 (n := 2) (sz := 1) (f := fun i _ => .int .i64 ((0 + i : Nat) : Int)) rfl rfl rfl (fun i j hi hj => by
        obtain rfl : j = 0 := by omega
        rcases (show i = 0 ∨ i = 1 by omega) with rfl | rfl <;> rfl) (by repeat' first | exact trivial | apply And.intro | rfl | exact hp2.symm | exact Nat.zero_lt_one | omega) (by repeat' first | exact trivial | apply And.intro | rfl | exact hp2.symm | exact Nat.zero_lt_one | omega)) ?_
      exact ret_closed rfl rfl rfl
  by_cases k3 : T.kind = 141 ∨ T.kind = 146
  · have e : plcF T = (1, 2) := by unfold plcF; rw [if_neg k1, if_neg (by omega), if_pos k3]
    rw [e]
    repeat' ((first
      | refine then_go hm htt ?_
      | refine Side.go ?_
      | refine Hyp.go fun hlen => ?_
      | refine Split.ct ?_
      | refine Split.cf ?_
      | refine Split.tt ?_
      | refine Split.ff ?_
      | refine Indep.go ?_
      | refine Split.go (fun hc => ?_) fun hc => ?_) <;> conv => whnf)
    all_goals
      refine RetS.ent (σ' := ⟨[(2, .row 0 1)], 51, [(0, .row 3 (.ints .i64 [1]))], 1, g⟩) (Ent.go [0]) ?_
      refine RetS.ent (Ent.fz_slice 0 (n := 1) (sz := 1) (f := fun i _ => .int .i64 ((1 + i : Nat) : Int)) rfl rfl rfl (fun i j hi hj => by
        obtain rfl : j = 0 := by omega
        obtain rfl : i = 0 := by omega
        rfl) (by repeat' first | exact trivial | apply And.intro | rfl | exact hp2.symm | exact Nat.zero_lt_one | omega) (by repeat' first | exact trivial | apply And.intro | rfl | exact hp2.symm | exact Nat.zero_lt_one | omega)) ?_
      exact ret_closed rfl rfl rfl
  by_cases k2 : T.kind = 136
  · have e : plcF T = (0, T.kids.length) := by unfold plcF; rw [if_neg k1, if_pos k2]
    rw [e]
    repeat' ((first
      | refine then_go hm htt ?_
      | refine Side.go ?_
      | refine Hyp.go fun hlen => ?_
      | refine Split.ct ?_
      | refine Split.cf ?_
      | refine Split.tt ?_
      | refine Split.ff ?_
      | refine Indep.go ?_
      | refine Split.go (fun hc => ?_) fun hc => ?_) <;> conv => whnf)
    refine loop_go (α := Nat × List Int) (fun p => ⟨[(0, .d (.tree T)), (3, .row 0 p.1), (4, .d (.int .i64 p.1))], 51, [(0, .row 3 (.ints .i64 p.2))], 1, g⟩)
      (fun p => p.1 ≤ T.kids.length ∧ p.2.length = p.1 ∧ p.2 = (List.range p.1).map fun i : Nat => (i : Int)) (fun p => T.kids.length - p.1) (0, []) ⟨by simp, rfl, rfl⟩
      (Ent.nil rfl rfl rfl (by repeat' first | exact trivial | apply And.intro | rfl | (refine int_eq ?_; rw [wrap64] <;> omega)) (by repeat' first | exact trivial | apply And.intro | rfl | (refine int_eq ?_; rw [wrap64] <;> omega))) (fun _ => rfl) fun p hpre => ?_
    obtain ⟨p, out⟩ := p
    obtain ⟨hp1, hp2, hp3⟩ := hpre
    simp only [] at hp1 hp2 hp3
    by_cases hlt : p < T.kids.length
    · repeat' ((first
        | refine then_go hm htt ?_
        | refine Side.go ?_
        | refine Hyp.go fun hlen => ?_
        | refine Split.ct ?_
        | refine Split.cf ?_
        | refine Split.tt ?_
        | refine Split.ff ?_
        | refine Indep.go ?_
        | refine Side.mk (show (p + 1 ≤ 17592186044416 ∧ (p + 1) * 8 ≤ 140737488355328) from ⟨by omega, by omega⟩) ?_
        | refine Split.go (fun hc => ?_) fun hc => ?_) <;> conv => whnf)
      exact ⟨(p + 1, out ++ [(p : Int)]), ⟨by simp only []; omega, by simp [hp2], by rw [hp3]; exact nat_list_snoc p⟩, by simp only []; omega, Ent.go [2]⟩
    · obtain rfl : p = T.kids.length := by omega
      repeat' ((first
        | refine then_go hm htt ?_
        | refine Side.go ?_
        | refine Hyp.go fun hlen => ?_
        | refine Split.ct ?_
        | refine Split.cf ?_
        | refine Split.tt ?_
        | refine Split.ff ?_
        | refine Indep.go ?_
        | refine Split.go (fun hc => ?_) fun hc => ?_) <;> conv => whnf)
      refine RetS.ent (Ent.fz_slice 0 (n := T.kids.length) (sz := 1) (f := fun i _ => .int .i64 ((0 + i : Nat) : Int)) rfl hp2 rfl (fun i j hi hj => by
        obtain rfl : j = 0 := by omega
        show AVal.d (.int .i64 (out.getD (i * 1 + 0) 0)) = _
        rw [hp3, Nat.mul_one, Nat.add_zero, nat_list_get hi, Nat.zero_add]) (by repeat' first | exact trivial | apply And.intro | rfl | exact hp2.symm | exact Nat.zero_lt_one | omega) (by repeat' first | exact trivial | apply And.intro | rfl | exact hp2.symm | exact Nat.zero_lt_one | omega)) ?_
      exact ret_closed rfl rfl rfl
  · have e : plcF T = (0, 1) := by unfold plcF; rw [if_neg k1, if_neg k2, if_neg k3]
    rw [e]
    repeat' ((first
      | refine then_go hm htt ?_
      | refine Side.go ?_
      | refine Hyp.go fun hlen => ?_
      | refine Split.ct ?_
      | refine Split.cf ?_
      | refine Split.tt ?_
      | refine Split.ff ?_
      | refine Indep.go ?_
      | refine Split.go (fun hc => ?_) fun hc => ?_) <;> conv => whnf)
    refine RetS.ent (σ' := ⟨[(2, .row 0 1)], 51, [(0, .row 3 (.ints .i64 [0]))], 1, g⟩) (Ent.go [0]) ?_
    refine RetS.ent (Ent.fz_slice 0 (n := 1) (sz := 1) (f := fun i _ => .int .i64 ((0 + i : Nat) : Int)) rfl rfl rfl (fun i j hi hj => by
      obtain rfl : j = 0 := by omega
      obtain rfl : i = 0 := by omega
      rfl) (by repeat' first | exact trivial | apply And.intro | rfl | exact hp2.symm | exact Nat.zero_lt_one | omega) (by repeat' first | exact trivial | apply And.intro | rfl | exact hp2.symm | exact Nat.zero_lt_one | omega)) ?_
    exact ret_closed rfl rfl rfl
theorem set_get {l : List Tree} {i j : Nat} {x : Tree} : (l.set i x).getD j .nil = if i = j ∧ j < l.length then x else l.getD j .nil := by
  simp only [List.getD_eq_getElem?_getD, List.getElem?_set]
  by_cases h : i = j
  · subst h
    by_cases h2 : i < l.length
    · simp [h2]
    · simp [h2, List.getElem?_eq_none (show l.length ≤ i by omega)]
  · simp [h]
set_option maxHeartbeats 4000000 in
set_option maxRecDepth 10000 in
theorem rwith_ok (T : Tree) (hT : T ≠ .nil) (hmk : T.mark = ByteArray.empty) (i : Nat) (hi : i < T.kids.length) (h : T.kind = 136 → T.kids.getD i .nil ≠ .nil) (K : Tree) : Pure P 47 [.d (.tree T), .d (.int .i64 i), .d (.tree K)] (.d (.tree (withT T i K))) := by
  refine Pure.of_body tt [55, 57, 68] [6] Tryz.func47 rfl rfl rfl (Nat.le_of_ble_eq_true rfl) fun g => ?_
  unfold withT
  rw [hmk]
  have hR : ∀ p, p < T.kids.length → (T.kids.set i (if T.kind = 136 then fieldT (T.kids.getD i .nil).name K else K)).getD p .nil = if i = p then (if T.kind = 136 then fieldT (T.kids.getD i .nil).name K else K) else T.kids.getD p .nil := fun p hp => by
    rw [set_get]
    by_cases e : i = p
    · rw [if_pos ⟨e, hp⟩, if_pos e]
    · rw [if_neg (fun q => e q.1), if_neg e]
  have hRl : (T.kids.set i (if T.kind = 136 then fieldT (T.kids.getD i .nil).name K else K)).length = T.kids.length := by simp
  generalize hRe : T.kids.set i (if T.kind = 136 then fieldT (T.kids.getD i .nil).name K else K) = R at *
  repeat' ((first
    | refine then_go hm htt ?_
    | refine Side.go ?_
    | refine Hyp.go fun hlen => ?_
    | refine Split.ct ?_
    | refine Split.cf ?_
    | refine Split.tt ?_
    | refine Split.ff ?_
    | refine Indep.go ?_
    | refine Split.go (fun hc => ?_) fun hc => ?_) <;> conv => whnf)
  refine loop_go (α := Nat × List Tree) (fun p => ⟨[(0, .d (.tree T)), (1, .d (.int .i64 i)), (2, .d (.tree K)), (7, .ref 0 0), (8, .d (.int .i64 p.1))], 73, [(0, .cells [.d (.int .i64 T.kind), .d (.int .i64 T.n), .d (.str T.name), .d (.str ByteArray.empty), .row 1 p.1]), (1, .row 25 (.trees p.2))], 2, g⟩)
        (fun p => p.1 ≤ T.kids.length ∧ p.2.length = p.1 ∧ p.2 = R.take p.1) (fun p => T.kids.length - p.1) (0, []) ⟨by simp, rfl, rfl⟩
        (Ent.nil rfl rfl rfl (by repeat' first | exact trivial | apply And.intro | rfl | (refine int_eq ?_; rw [wrap64] <;> omega)) (by repeat' first | exact trivial | apply And.intro | rfl | (refine int_eq ?_; rw [wrap64] <;> omega))) (fun _ => rfl) fun p hpre => ?_
  obtain ⟨p, out⟩ := p
  obtain ⟨hp1, hp2, hp3⟩ := hpre
  simp only [] at hp1 hp2 hp3
  by_cases hlt : p < T.kids.length
  · have hts := take_step (l := R) (i := p) (by omega)
    have hRp := hR p hlt
    by_cases e : p = i
    · subst e
      rw [if_pos rfl] at hRp
      by_cases k : T.kind = 136
      · have hn := h k
        rw [if_pos k] at hRp
        repeat' ((first
          | refine then_go hm htt ?_
          | refine Side.go ?_
          | refine Hyp.go fun hlen => ?_
          | refine Split.ct ?_
          | refine Split.cf ?_
          | refine Split.tt ?_
          | refine Split.ff ?_
          | refine Indep.go ?_
          | refine Side.mk (show (p + 1 ≤ 17592186044416 ∧ (p + 1) * 8 ≤ 140737488355328) from ⟨by omega, by omega⟩) ?_
          | refine Split.of_true (beq_self_eq_true _) ?_
          | refine Side.mk hn ?_
          | refine Split.go (fun hc => ?_) fun hc => ?_) <;> conv => whnf)
        exact ⟨(p + 1, out ++ [fieldT (T.kids.getD p .nil).name K]), ⟨by simp only []; omega, by simp [hp2], by simp only []; rw [hp3, ← hts, hRp]⟩, by simp only []; omega, Ent.go [0, 2]⟩
      · rw [if_neg k] at hRp
        repeat' ((first
          | refine then_go hm htt ?_
          | refine Side.go ?_
          | refine Hyp.go fun hlen => ?_
          | refine Split.ct ?_
          | refine Split.cf ?_
          | refine Split.tt ?_
          | refine Split.ff ?_
          | refine Indep.go ?_
          | refine Side.mk (show (p + 1 ≤ 17592186044416 ∧ (p + 1) * 8 ≤ 140737488355328) from ⟨by omega, by omega⟩) ?_
          | refine Split.of_true (beq_self_eq_true _) ?_
          | refine Split.go (fun hc => ?_) fun hc => ?_) <;> conv => whnf)
        exact ⟨(p + 1, out ++ [K]), ⟨by simp only []; omega, by simp [hp2], by simp only []; rw [hp3, ← hts, hRp]⟩, by simp only []; omega, Ent.go [0, 2]⟩
    · rw [if_neg (fun q => e q.symm)] at hRp
      repeat' ((first
        | refine then_go hm htt ?_
        | refine Side.go ?_
        | refine Hyp.go fun hlen => ?_
        | refine Split.ct ?_
        | refine Split.cf ?_
        | refine Split.tt ?_
        | refine Split.ff ?_
        | refine Indep.go ?_
        | refine Side.mk (show (p + 1 ≤ 17592186044416 ∧ (p + 1) * 8 ≤ 140737488355328) from ⟨by omega, by omega⟩) ?_
        | refine Split.go (fun hc => ?_) fun hc => ?_) <;> conv => whnf)
      exact ⟨(p + 1, out ++ [T.kids.getD p .nil]), ⟨by simp only []; omega, by simp [hp2], by simp only []; rw [hp3, ← hts, hRp]⟩, by simp only []; omega, Ent.go [0, 2]⟩
  · rw [List.take_of_length_le (by omega)] at hp3
    rw [← hp3]
    repeat' ((first
      | refine then_go hm htt ?_
      | refine Side.go ?_
      | refine Hyp.go fun hlen => ?_
      | refine Split.ct ?_
      | refine Split.cf ?_
      | refine Split.tt ?_
      | refine Split.ff ?_
      | refine Indep.go ?_
      | refine Split.go (fun hc => ?_) fun hc => ?_) <;> conv => whnf)
    refine RetS.ent (Ent.fz_row 1 (l := out) rfl (by repeat' first | exact trivial | apply And.intro | rfl | exact hp2.symm | exact Nat.zero_lt_one | omega) (by repeat' first | exact trivial | apply And.intro | rfl | exact hp2.symm | exact Nat.zero_lt_one | omega)) ?_
    refine RetS.ent (Ent.fz_node 0 rfl rfl (by repeat' first | exact trivial | apply And.intro | rfl | exact hp2.symm | exact Nat.zero_lt_one | omega) (by repeat' first | exact trivial | apply And.intro | rfl | exact hp2.symm | exact Nat.zero_lt_one | omega)) ?_
    exact ret_closed rfl rfl rfl
set_option maxHeartbeats 4000000 in
set_option maxRecDepth 10000 in
theorem truth_ok (b : Bool) : Pure P 114 [.d (.bool b)] (.d (.tree (boolN b))) := by
  refine Pure.of_body tt [] [2] Tryz.func114 rfl rfl rfl (Nat.le_of_ble_eq_true rfl) fun g => ?_
  cases b with
  | true =>
    repeat' ((first
      | refine then_go hm htt ?_
      | refine Side.go ?_
      | refine Hyp.go fun hlen => ?_
      | refine Split.ct ?_
      | refine Split.cf ?_
      | refine Split.tt ?_
      | refine Split.ff ?_
      | refine Indep.go ?_
      | refine Split.go (fun hc => ?_) fun hc => ?_) <;> conv => whnf)
    refine RetS.ent (σ' := ⟨[(2, .ref 0 0)], 11, [(0, .cells [.d (.int .i64 132), .d (.int .i64 1), .d (.str ByteArray.empty), .d (.str ByteArray.empty), .d .nils])], 1, g⟩) (Ent.go [0]) ?_
    refine RetS.ent (Ent.fz_node 0 rfl rfl (by repeat' first | exact trivial | apply And.intro | rfl | exact hp2.symm | exact Nat.zero_lt_one | omega) (by repeat' first | exact trivial | apply And.intro | rfl | exact hp2.symm | exact Nat.zero_lt_one | omega)) ?_
    exact ret_closed rfl rfl rfl
  | false =>
    repeat' ((first
      | refine then_go hm htt ?_
      | refine Side.go ?_
      | refine Hyp.go fun hlen => ?_
      | refine Split.ct ?_
      | refine Split.cf ?_
      | refine Split.tt ?_
      | refine Split.ff ?_
      | refine Indep.go ?_
      | refine Split.go (fun hc => ?_) fun hc => ?_) <;> conv => whnf)
    refine RetS.ent (σ' := ⟨[(2, .ref 0 0)], 11, [(0, .cells [.d (.int .i64 132), .d (.int .i64 0), .d (.str ByteArray.empty), .d (.str ByteArray.empty), .d .nils])], 1, g⟩) (Ent.go [0]) ?_
    refine RetS.ent (Ent.fz_node 0 rfl rfl (by repeat' first | exact trivial | apply And.intro | rfl | exact hp2.symm | exact Nat.zero_lt_one | omega) (by repeat' first | exact trivial | apply And.intro | rfl | exact hp2.symm | exact Nat.zero_lt_one | omega)) ?_
    exact ret_closed rfl rfl rfl
def numberR (n a b : Int) : Tree × Int := if n = 4 then (boolN (decide (a = b)), 0) else if n = 5 then (boolN (decide (a < b)), 0) else if sumF n a b < -1073741824 ∨ 1073741824 < sumF n a b then (.nil, 19) else (numN (sumF n a b), 0)
set_option maxHeartbeats 4000000 in
set_option maxRecDepth 10000 in
theorem rnum16_ok (n a b : Int) (hn : 1 ≤ n ∧ n ≤ 5) : Pure P 83 [.d (.int .i64 n), .d (.int .i64 a), .d (.int .i64 b)] (.tuple [.d (.tree (numberR n a b).1), .d (.int .i64 (numberR n a b).2)]) := by
  refine Pure.of_body tt [44] [6, 7] Tryz.func83 rfl rfl rfl (Nat.le_of_ble_eq_true rfl) fun g => ?_
  unfold numberR
  by_cases n4 : n = 4
  · rw [if_pos n4]
    repeat' ((first
      | refine then_go hm htt ?_
      | refine Side.go ?_
      | refine Hyp.go fun hlen => ?_
      | refine Split.ct ?_
      | refine Split.cf ?_
      | refine Split.tt ?_
      | refine Split.ff ?_
      | refine Indep.go ?_
      | refine CallG.gp (truth_ok _) ?_
      | refine Split.go (fun hc => ?_) fun hc => ?_) <;> conv => whnf)
    exact ret_closed rfl (tup2 (tree_eq (by rw [int_dec])) rfl) rfl
  rw [if_neg n4]
  by_cases n5 : n = 5
  · rw [if_pos n5]
    repeat' ((first
      | refine then_go hm htt ?_
      | refine Side.go ?_
      | refine Hyp.go fun hlen => ?_
      | refine Split.ct ?_
      | refine Split.cf ?_
      | refine Split.tt ?_
      | refine Split.ff ?_
      | refine Indep.go ?_
      | refine CallG.gp (truth_ok _) ?_
      | refine Split.go (fun hc => ?_) fun hc => ?_) <;> conv => whnf)
    exact ret_closed rfl rfl rfl
  rw [if_neg n5]
  rcases (show n = 1 ∨ n = 2 ∨ n = 3 by omega) with n1 | n1 | n1
  · have e : sumF n a b = IntKind.i64.wrap (a + b) := by rw [n1]; rfl
    rw [e]
    by_cases q : IntKind.i64.wrap (a + b) < -1073741824 ∨ 1073741824 < IntKind.i64.wrap (a + b)
    · rw [if_pos q]
      repeat' ((first
        | refine then_go hm htt ?_
        | refine Side.go ?_
        | refine Hyp.go fun hlen => ?_
        | refine Split.ct ?_
        | refine Split.cf ?_
        | refine Split.tt ?_
        | refine Split.ff ?_
        | refine Indep.go ?_
        | refine Split.go (fun hc => ?_) fun hc => ?_) <;> conv => whnf)
      all_goals exact ret_closed rfl rfl rfl
    · rw [if_neg q]
      repeat' ((first
        | refine then_go hm htt ?_
        | refine Side.go ?_
        | refine Hyp.go fun hlen => ?_
        | refine Split.ct ?_
        | refine Split.cf ?_
        | refine Split.tt ?_
        | refine Split.ff ?_
        | refine Indep.go ?_
        | refine Split.go (fun hc => ?_) fun hc => ?_) <;> conv => whnf)
      all_goals exact ret_closed rfl rfl rfl
  · have e : sumF n a b = IntKind.i64.wrap (a - b) := by rw [n1]; rfl
    rw [e]
    by_cases q : IntKind.i64.wrap (a - b) < -1073741824 ∨ 1073741824 < IntKind.i64.wrap (a - b)
    · rw [if_pos q]
      repeat' ((first
        | refine then_go hm htt ?_
        | refine Side.go ?_
        | refine Hyp.go fun hlen => ?_
        | refine Split.ct ?_
        | refine Split.cf ?_
        | refine Split.tt ?_
        | refine Split.ff ?_
        | refine Indep.go ?_
        | refine Split.go (fun hc => ?_) fun hc => ?_) <;> conv => whnf)
      all_goals exact ret_closed rfl rfl rfl
    · rw [if_neg q]
      repeat' ((first
        | refine then_go hm htt ?_
        | refine Side.go ?_
        | refine Hyp.go fun hlen => ?_
        | refine Split.ct ?_
        | refine Split.cf ?_
        | refine Split.tt ?_
        | refine Split.ff ?_
        | refine Indep.go ?_
        | refine Split.go (fun hc => ?_) fun hc => ?_) <;> conv => whnf)
      all_goals exact ret_closed rfl rfl rfl
  · have e : sumF n a b = IntKind.i64.wrap (a * b) := by rw [n1]; rfl
    rw [e]
    by_cases q : IntKind.i64.wrap (a * b) < -1073741824 ∨ 1073741824 < IntKind.i64.wrap (a * b)
    · rw [if_pos q]
      repeat' ((first
        | refine then_go hm htt ?_
        | refine Side.go ?_
        | refine Hyp.go fun hlen => ?_
        | refine Split.ct ?_
        | refine Split.cf ?_
        | refine Split.tt ?_
        | refine Split.ff ?_
        | refine Indep.go ?_
        | refine Split.go (fun hc => ?_) fun hc => ?_) <;> conv => whnf)
      all_goals exact ret_closed rfl rfl rfl
    · rw [if_neg q]
      repeat' ((first
        | refine then_go hm htt ?_
        | refine Side.go ?_
        | refine Hyp.go fun hlen => ?_
        | refine Split.ct ?_
        | refine Split.cf ?_
        | refine Split.tt ?_
        | refine Split.ff ?_
        | refine Indep.go ?_
        | refine Split.go (fun hc => ?_) fun hc => ?_) <;> conv => whnf)
      all_goals exact ret_closed rfl rfl rfl
set_option maxHeartbeats 4000000 in
set_option maxRecDepth 10000 in
theorem arm_ok (T : Tree) (hT : T ≠ .nil) (i : Nat) (hi : i ≤ T.kids.length) (hl : T.kids.length ≤ 1048576) (s : ByteArray) (h : ∀ x ∈ T.kids.drop i, x ≠ .nil ∧ 0 < x.kids.length) : Pure P 84 [.d (.tree T), .d (.int .i64 i), .d (.str s)] (.d (.tree (oT (partF s (T.kids.drop i))))) := by
  refine Pure.of_body tt [] [6] Tryz.func84 rfl rfl rfl (Nat.le_of_ble_eq_true rfl) fun g => ?_
  repeat' ((first
    | refine then_go hm htt ?_
    | refine Side.go ?_
    | refine Hyp.go fun hlen => ?_
    | refine Split.ct ?_
    | refine Split.cf ?_
    | refine Split.tt ?_
    | refine Split.ff ?_
    | refine Indep.go ?_
    | refine Split.go (fun hc => ?_) fun hc => ?_) <;> conv => whnf)
  refine loop_go (α := Nat) (fun p => ⟨[(0, .d (.tree T)), (2, .d (.str s)), (7, .d (.int .i64 p))], 42, [], 0, g⟩) (fun p => i ≤ p ∧ p ≤ T.kids.length ∧ partF s (T.kids.drop p) = partF s (T.kids.drop i)) (fun p => T.kids.length - p) i ⟨Nat.le_refl _, hi, rfl⟩
    (Ent.go []) (fun _ => rfl) fun p hpre => ?_
  obtain ⟨hp0, hp1, hp2⟩ := hpre
  by_cases hlt : p < T.kids.length
  · have hmem : T.kids.getD p .nil ∈ T.kids.drop i := by
      have := getD_mem (l := T.kids.drop i) (i := p - i) (by simp; omega)
      simpa [List.getD_eq_getElem?_getD, show i + (p - i) = p by omega] using this
    obtain ⟨h1, h2⟩ := h _ hmem
    by_cases hs : (T.kids.getD p .nil).name = s
    · rw [drop_step hlt, partF, if_pos hs] at hp2
      rw [← hp2]
      repeat' ((first
        | refine then_go hm htt ?_
        | refine Side.go ?_
        | refine Hyp.go fun hlen => ?_
        | refine Split.ct ?_
        | refine Split.cf ?_
        | refine Split.tt ?_
        | refine Split.ff ?_
        | refine Indep.go ?_
        | refine Side.mk (show (0 : Int) ≤ (p : Int) ∧ (p : Int) < (T.kids.length : Int) from ⟨by omega, by omega⟩) ?_
        | refine Side.mk h1 ?_
        | refine Side.mk (show (0 : Int) ≤ 0 ∧ (0 : Int) < ((T.kids.getD p .nil).kids.length : Int) from ⟨by omega, by omega⟩) ?_
        | refine Split.go (fun hc => ?_) fun hc => ?_) <;> conv => whnf)
      exact ret_closed rfl rfl rfl
    · rw [partF_drop hlt hs] at hp2
      repeat' ((first
        | refine then_go hm htt ?_
        | refine Side.go ?_
        | refine Hyp.go fun hlen => ?_
        | refine Split.ct ?_
        | refine Split.cf ?_
        | refine Split.tt ?_
        | refine Split.ff ?_
        | refine Indep.go ?_
        | refine Side.mk (show (0 : Int) ≤ (p : Int) ∧ (p : Int) < (T.kids.length : Int) from ⟨by omega, by omega⟩) ?_
        | refine Side.mk h1 ?_
        | refine Split.go (fun hc => ?_) fun hc => ?_) <;> conv => whnf)
      exact ⟨p + 1, ⟨by omega, by omega, hp2⟩, by omega, Ent.go []⟩
  · rw [drop_end (by omega), partF] at hp2
    rw [← hp2]
    repeat' ((first
      | refine then_go hm htt ?_
      | refine Side.go ?_
      | refine Hyp.go fun hlen => ?_
      | refine Split.ct ?_
      | refine Split.cf ?_
      | refine Split.tt ?_
      | refine Split.ff ?_
      | refine Indep.go ?_
      | refine Split.go (fun hc => ?_) fun hc => ?_) <;> conv => whnf)
    exact ret_closed rfl rfl rfl
set_option maxHeartbeats 4000000 in
set_option maxRecDepth 10000 in
theorem rPart_ok (T : Tree) (hT : T ≠ .nil) (hl : T.kids.length ≤ 1048576) (s : ByteArray) (h : ∀ x ∈ T.kids, x ≠ .nil ∧ 0 < x.kids.length) : Pure P 82 [.d (.tree T), .d (.str s)] (.d (.tree (oT (partF s T.kids)))) := by
  refine Pure.of_body tt [] [4] Tryz.func82 rfl rfl rfl (Nat.le_of_ble_eq_true rfl) fun g => ?_
  repeat' ((first
    | refine then_go hm htt ?_
    | refine Side.go ?_
    | refine Hyp.go fun hlen => ?_
    | refine Split.ct ?_
    | refine Split.cf ?_
    | refine Split.tt ?_
    | refine Split.ff ?_
    | refine Indep.go ?_
    | refine Split.go (fun hc => ?_) fun hc => ?_) <;> conv => whnf)
  refine loop_go (α := Nat) (fun p => ⟨[(0, .d (.tree T)), (1, .d (.str s)), (5, .d (.int .i64 p))], 39, [], 0, g⟩) (fun p => p ≤ T.kids.length ∧ partF s (T.kids.drop p) = partF s T.kids) (fun p => T.kids.length - p) 0 ⟨by omega, rfl⟩
    (Ent.go []) (fun _ => rfl) fun p hpre => ?_
  obtain ⟨hp1, hp2⟩ := hpre
  by_cases hlt : p < T.kids.length
  · obtain ⟨h1, h2⟩ := h _ (getD_mem hlt)
    by_cases hs : (T.kids.getD p .nil).name = s
    · rw [drop_step hlt, partF, if_pos hs] at hp2
      rw [← hp2]
      repeat' ((first
        | refine then_go hm htt ?_
        | refine Side.go ?_
        | refine Hyp.go fun hlen => ?_
        | refine Split.ct ?_
        | refine Split.cf ?_
        | refine Split.tt ?_
        | refine Split.ff ?_
        | refine Indep.go ?_
        | refine Side.mk (show (0 : Int) ≤ (p : Int) ∧ (p : Int) < (T.kids.length : Int) from ⟨by omega, by omega⟩) ?_
        | refine Side.mk h1 ?_
        | refine Side.mk (show (0 : Int) ≤ 0 ∧ (0 : Int) < ((T.kids.getD p .nil).kids.length : Int) from ⟨by omega, by omega⟩) ?_
        | refine Split.go (fun hc => ?_) fun hc => ?_) <;> conv => whnf)
      exact ret_closed rfl rfl rfl
    · rw [partF_drop hlt hs] at hp2
      repeat' ((first
        | refine then_go hm htt ?_
        | refine Side.go ?_
        | refine Hyp.go fun hlen => ?_
        | refine Split.ct ?_
        | refine Split.cf ?_
        | refine Split.tt ?_
        | refine Split.ff ?_
        | refine Indep.go ?_
        | refine Side.mk (show (0 : Int) ≤ (p : Int) ∧ (p : Int) < (T.kids.length : Int) from ⟨by omega, by omega⟩) ?_
        | refine Side.mk h1 ?_
        | refine Split.go (fun hc => ?_) fun hc => ?_) <;> conv => whnf)
      exact ⟨p + 1, ⟨by omega, hp2⟩, by omega, Ent.go []⟩
  · rw [drop_end (by omega), partF] at hp2
    rw [← hp2]
    repeat' ((first
      | refine then_go hm htt ?_
      | refine Side.go ?_
      | refine Hyp.go fun hlen => ?_
      | refine Split.ct ?_
      | refine Split.cf ?_
      | refine Split.tt ?_
      | refine Split.ff ?_
      | refine Indep.go ?_
      | refine Split.go (fun hc => ?_) fun hc => ?_) <;> conv => whnf)
    exact ret_closed rfl rfl rfl
end St
end Go.Proofs.YtoajaklekmbcdaaGreat

namespace Go.Proofs.YtoajaklekmbcdaaGreat
namespace St
open Go Go.Mq Tm Sb
set_option linter.all false

/-! The document's own step: unrolled, a fold, what has values for parts -/
theorem rec_plain {v : Tree} (h : isTermF v = true) (hk : v.kind = 136) : v.n = 0 ∧ v.name = ByteArray.empty ∧ v.mark = ByteArray.empty := by
  have hm := term_mark h
  rw [isTermF_eq (term_ne h), Bool.and_eq_true] at h
  have hh := h.1
  rw [head_plain ⟨by omega, by omega⟩] at hh
  simp only [Bool.and_eq_true, decide_eq_true_eq] at hh
  have hn := hh.2
  unfold numT at hn
  rw [if_neg (by omega), if_neg (by omega), if_neg (by omega), if_neg (by omega)] at hn
  exact ⟨of_decide_eq_true hn, hh.1.2, hm⟩
theorem names_take {l l' : List Tree} (hl : l.length = l'.length) (h : ∀ j, j < l.length → (l.getD j .nil).name = (l'.getD j .nil).name) : l.map Tree.name = l'.map Tree.name := by
  apply List.ext_getElem (by simp [hl])
  intro j h1 h2
  have := h j (by simpa using h1)
  simp only [List.length_map] at h1 h2
  simpa [List.getD_eq_getElem?_getD, h1, h2] using this
theorem names_get {l l' : List Tree} (h : l.map Tree.name = l'.map Tree.name) {j : Nat} (hj : j < l.length) : (l.getD j .nil).name = (l'.getD j .nil).name := by
  have hl : l.length = l'.length := by simpa using congrArg List.length h
  have := congrArg (fun q : List ByteArray => q[j]?) h
  simp only [List.getElem?_map] at this
  rw [List.getD_eq_getElem?_getD, List.getD_eq_getElem?_getD, List.getElem?_eq_getElem hj, List.getElem?_eq_getElem (by omega)] at *
  simpa using this
set_option maxHeartbeats 8000000 in
set_option maxRecDepth 10000 in
theorem rolled_ok (f : Tree) (hf : isTermF f = true) (hfk : f.kind = 148) (hfz : sizeN f ≤ 65536) (c : Tree) : isConF c = true → ∀ v : Tree, isTermF v = true → sizeN v ≤ 65536 →
    Pure P 32 [.d (.tree c), .d (.tree v), .d (.tree f)] (.d (.tree (rollF f c v))) := by
  suffices h : (isConF c = true → ∀ v : Tree, isTermF v = true → sizeN v ≤ 65536 → Pure P 32 [.d (.tree c), .d (.tree v), .d (.tree f)] (.d (.tree (rollF f c v)))) ∧
      ∀ x ∈ c.kids, isConF x = true → ∀ v : Tree, isTermF v = true → sizeN v ≤ 65536 → Pure P 32 [.d (.tree x), .d (.tree v), .d (.tree f)] (.d (.tree (rollF f x v))) from h.1
  induction c using Tree.ind' with
  | h0 => exact ⟨fun h => (by rw [isConF] at h; cases h), fun x hx => (by cases hx)⟩
  | h1 c hc ih => ?_
  refine ⟨fun hcon v hv hvz => ?_, fun x hx => (ih x hx).1⟩
  have hvn := term_ne hv
  have hfn := term_ne hf
  obtain ⟨f1, _⟩ := term_xca hf hfk
  have hvs := sizeN_kids hvn
  have he := rollF_eq hc f v
  have vl := full_len (term_full hv)
  refine Pure.of_body tt [124, 126, 127] [6] Tryz.func32 rfl rfl rfl (Nat.le_of_ble_eq_true rfl) fun g => ?_
  by_cases c1 : c.kind = 110 ∧ c.n = 0
  · rw [if_pos c1] at he
    rw [he]
    obtain ⟨c1, c2⟩ := c1
    have hw := rwith_ok f hfn (term_mark hf) 0 (by omega) (fun k => by omega) v
    repeat' ((first
      | refine then_go hm htt ?_
      | refine Side.go ?_
      | refine Hyp.go fun hlen => ?_
      | refine Split.ct ?_
      | refine Split.cf ?_
      | refine Split.tt ?_
      | refine Split.ff ?_
      | refine Indep.go ?_
      | refine CallG.gp hw ?_
      | refine Split.go (fun hc => ?_) fun hc => ?_) <;> conv => whnf)
    exact ret_closed rfl rfl rfl
  rw [if_neg c1] at he
  by_cases c2 : c.kind = 115 ∧ v.kind = 136
  · obtain ⟨c2, c3⟩ := c2
    have hcf := rec_flds hc hcon c2
    have hvf := (term_f hv c3).1
    by_cases hleq : c.kids.length = v.kids.length
    · have hrl := rollsF_len f c.kids v.kids hleq
      have hrg := rollsF_get f c.kids v.kids
      obtain ⟨v1, v2, v3⟩ := rec_plain hv c3
      have hno : ∀ j, j < c.kids.length → (c.kids.getD j .nil).name ≠ (v.kids.getD j .nil).name → rollF f c v = v := fun j hj hn => by
        rw [he, if_neg fun q => hn (names_get q.2.2 hj)]
      have hyes : (∀ j, j < c.kids.length → (c.kids.getD j .nil).name = (v.kids.getD j .nil).name) → rollF f c v = .node 136 0 ByteArray.empty ByteArray.empty (rollsF f c.kids v.kids) := fun h => by
        rw [he, if_pos ⟨c2, c3, names_take hleq h⟩, v1, v2, v3]
      clear he
      generalize rollsF f c.kids v.kids = R at *
      generalize hZ : rollF f c v = Z at *
      repeat' ((first
        | refine then_go hm htt ?_
        | refine Side.go ?_
        | refine Hyp.go fun hlen => ?_
        | refine Split.ct ?_
        | refine Split.cf ?_
        | refine Split.tt ?_
        | refine Split.ff ?_
        | refine Indep.go ?_
        | refine Split.of_false (show ((c.kids.length : Int) != (v.kids.length : Int)) = false from by rw [hleq]; exact bne_self_eq_false _) ?_
        | refine Split.go (fun hc => ?_) fun hc => ?_) <;> conv => whnf)
      refine loop_go (α := Nat × List Tree) (fun p => ⟨[(0, .d (.tree c)), (1, .d (.tree v)), (2, .d (.tree f)), (7, .ref 0 0), (8, .d (.int .i64 p.1))], 132, [(0, .cells [.d (.int .i64 136), .d (.int .i64 0), .d (.str ByteArray.empty), .d (.str ByteArray.empty), .row 1 p.1]), (1, .row 25 (.trees p.2))], 2, g⟩)
        (fun p => p.1 ≤ c.kids.length ∧ p.2.length = p.1 ∧ p.2 = R.take p.1 ∧ ∀ j, j < p.1 → (c.kids.getD j .nil).name = (v.kids.getD j .nil).name) (fun p => c.kids.length - p.1) (0, []) ⟨by simp, rfl, rfl, fun j hj => by simp at hj⟩
        (Ent.nil rfl rfl rfl (by repeat' first | exact trivial | apply And.intro | rfl | (refine int_eq ?_; rw [wrap64] <;> omega)) (by repeat' first | exact trivial | apply And.intro | rfl | (refine int_eq ?_; rw [wrap64] <;> omega))) (fun _ => rfl) fun p hpre => ?_
      obtain ⟨p, out⟩ := p
      obtain ⟨hp1, hp2, hp3, hp4⟩ := hpre
      simp only [] at hp1 hp2 hp3 hp4
      by_cases hlt : p < c.kids.length
      · obtain ⟨g1, g2, g3⟩ := fld_parts (hcf _ (getD_mem hlt))
        have hvm := getD_mem (l := v.kids) (i := p) (by omega)
        obtain ⟨t1, t2, t3, t4, t5⟩ := tfield_parts (hvf _ hvm)
        by_cases hs : (c.kids.getD p .nil).name = (v.kids.getD p .nil).name
        · have s1 := sizesN_mem hvm
          have s2 := sizeN_kids t1
          have s3 := sizesN_mem (getD_mem (l := (v.kids.getD p .nil).kids) (i := 0) (by omega))
          have hrec := (ih _ (getD_mem hlt)).2 _ (getD_mem (i := 0) (by omega)) g3 _ t5 (by omega)
          have hget : R.getD p .nil = fieldT (c.kids.getD p .nil).name (rollF f ((c.kids.getD p .nil).kids.getD 0 .nil) ((v.kids.getD p .nil).kids.getD 0 .nil)) := by rw [hs]; exact hrg p hleq hlt
          have hts := take_step (l := R) (i := p) (by omega)
          generalize rollF f ((c.kids.getD p .nil).kids.getD 0 .nil) ((v.kids.getD p .nil).kids.getD 0 .nil) = Y at *
          repeat' ((first
            | refine then_go hm htt ?_
            | refine Side.go ?_
            | refine Hyp.go fun hlen => ?_
            | refine Split.ct ?_
            | refine Split.cf ?_
            | refine Split.tt ?_
            | refine Split.ff ?_
            | refine Indep.go ?_
            | refine Side.mk (show (p + 1 ≤ 17592186044416 ∧ (p + 1) * 8 ≤ 140737488355328) from ⟨by omega, by omega⟩) ?_
            | refine Side.mk (show (0 : Int) ≤ (p : Int) ∧ (p : Int) < (c.kids.length : Int) from ⟨by omega, by omega⟩) ?_
            | refine Side.mk (show (0 : Int) ≤ (p : Int) ∧ (p : Int) < (v.kids.length : Int) from ⟨by omega, by omega⟩) ?_
            | refine Side.mk g1 ?_
            | refine Side.mk t1 ?_
            | refine Side.mk (show (0 : Int) ≤ 0 ∧ (0 : Int) < ((c.kids.getD p .nil).kids.length : Int) from ⟨by omega, by omega⟩) ?_
            | refine Side.mk (show (0 : Int) ≤ 0 ∧ (0 : Int) < ((v.kids.getD p .nil).kids.length : Int) from ⟨by omega, by omega⟩) ?_
            | refine CallG.gp hrec ?_
            | refine Split.go (fun hc => ?_) fun hc => ?_) <;> conv => whnf)
          exact ⟨(p + 1, out ++ [fieldT (c.kids.getD p .nil).name Y]), ⟨by simp only []; omega, by simp [hp2], by simp only []; rw [hp3, ← hts, hget], fun j hj => by
            by_cases e : j = p
            · rw [e]; exact hs
            · exact hp4 j (by simp only [] at hj; omega)⟩, by simp only []; omega, Ent.go [0, 2]⟩
        · rw [hno p hlt hs]
          repeat' ((first
            | refine then_go hm htt ?_
            | refine Side.go ?_
            | refine Hyp.go fun hlen => ?_
            | refine Split.ct ?_
            | refine Split.cf ?_
            | refine Split.tt ?_
            | refine Split.ff ?_
            | refine Indep.go ?_
            | refine Side.mk (show (0 : Int) ≤ (p : Int) ∧ (p : Int) < (c.kids.length : Int) from ⟨by omega, by omega⟩) ?_
            | refine Side.mk (show (0 : Int) ≤ (p : Int) ∧ (p : Int) < (v.kids.length : Int) from ⟨by omega, by omega⟩) ?_
            | refine Side.mk g1 ?_
            | refine Side.mk t1 ?_
            | refine Split.go (fun hc => ?_) fun hc => ?_) <;> conv => whnf)
          exact ret_closed rfl rfl rfl
      · rw [List.take_of_length_le (by omega)] at hp3
        rw [hyes fun j hj => hp4 j (by omega), ← hp3]
        repeat' ((first
          | refine then_go hm htt ?_
          | refine Side.go ?_
          | refine Hyp.go fun hlen => ?_
          | refine Split.ct ?_
          | refine Split.cf ?_
          | refine Split.tt ?_
          | refine Split.ff ?_
          | refine Indep.go ?_
          | refine Split.go (fun hc => ?_) fun hc => ?_) <;> conv => whnf)
        refine RetS.ent (Ent.fz_row 1 (l := out) rfl (by repeat' first | exact trivial | apply And.intro | rfl | exact hp2.symm | exact Nat.zero_lt_one | omega) (by repeat' first | exact trivial | apply And.intro | rfl | exact hp2.symm | exact Nat.zero_lt_one | omega)) ?_
        refine RetS.ent (Ent.fz_node 0 rfl rfl (by repeat' first | exact trivial | apply And.intro | rfl | exact hp2.symm | exact Nat.zero_lt_one | omega) (by repeat' first | exact trivial | apply And.intro | rfl | exact hp2.symm | exact Nat.zero_lt_one | omega)) ?_
        exact ret_closed rfl rfl rfl
    · rw [if_neg (fun q => hleq (by simpa using congrArg List.length q.2.2))] at he
      rw [he]
      repeat' ((first
        | refine then_go hm htt ?_
        | refine Side.go ?_
        | refine Hyp.go fun hlen => ?_
        | refine Split.ct ?_
        | refine Split.cf ?_
        | refine Split.tt ?_
        | refine Split.ff ?_
        | refine Indep.go ?_
        | refine Split.go (fun hc => ?_) fun hc => ?_) <;> conv => whnf)
      exact ret_closed rfl rfl rfl
  · rw [if_neg (fun q => c2 ⟨q.1, q.2.1⟩)] at he
    rw [he]
    repeat' ((first
      | refine then_go hm htt ?_
      | refine Side.go ?_
      | refine Hyp.go fun hlen => ?_
      | refine Split.ct ?_
      | refine Split.cf ?_
      | refine Split.tt ?_
      | refine Split.ff ?_
      | refine Indep.go ?_
      | refine Split.go (fun hc => ?_) fun hc => ?_) <;> conv => whnf)
    all_goals exact ret_closed rfl rfl rfl
theorem nil_isNil {x : Tree} (h : x ≠ .nil) : x.isNil = false := by
  cases x with
  | nil => exact absurd rfl h
  | node => rfl
set_option maxHeartbeats 8000000 in
set_option maxRecDepth 10000 in
theorem rfold_ok (T : Tree) (hT : isTermF T = true) (hk : T.kind = 148) (hz : sizeN T ≤ 65536) (c0 : (T.kids.getD 0 .nil).kind = 146) : Pure P 85 [.d (.tree T), .d (.tree (T.kids.getD 0 .nil))] (.tuple [.d (.tree (foldF T).1), .d (.int .i64 (foldF T).2)]) := by
  have hTn := term_ne hT
  obtain ⟨f1, f2, f3, f4⟩ := term_xca hT hk
  have hsz := sizeN_kids hTn
  have hn0 := term_ne f2
  have m0 := getD_mem (l := T.kids) (i := 0) (by omega)
  have s0 := sizesN_mem m0
  have hse := sizeN_kids hn0
  have hlen := full_len (term_full hT)
  refine Pure.of_body tt [63, 65] [4, 5] Tryz.func85 rfl rfl rfl (Nat.le_of_ble_eq_true rfl) fun g => ?_
  unfold foldF
  unfold kidT at *
  rw [if_neg (by omega)]
  obtain ⟨g1, g2, g3⟩ := term_cx f2 (.inr c0)
  have t1 := getD_mem (l := (T.kids.getD 0 .nil).kids) (i := 1) (by omega)
  have s1 := sizesN_mem t1
  have hnm := No.rNormal_ok ((T.kids.getD 0 .nil).kids.getD 0 .nil)
  cases hR : No.normR ((T.kids.getD 0 .nil).kids.getD 0 .nil) with
  | mk S e =>
  rw [hR] at hnm
  simp only [] at hnm ⊢
  by_cases he : e = 0
  · subst he
    rw [if_neg (by omega)]
    obtain ⟨c1, c2⟩ := norm_con hR
    have hS : S ≠ .nil := by intro q; subst q; rw [isConF] at c1; cases c1
    have hp1 := arm_ok T hTn 2 (by omega) (by omega) (T.kids.getD 0 .nil).name fun x hx => by
      obtain ⟨q1, q2, q3, q4, q5⟩ := tfield_parts (f4 x hx)
      exact ⟨q1, by omega⟩
    by_cases c3 : S.kind = 121
    · have hsf := sum_flds hS c1 c3
      have hSs := sizeN_kids hS
      have hSl := full_len (isConF_plain S c1).full
      have hp2 := rPart_ok S hS (by omega) (T.kids.getD 0 .nil).name fun x hx => by
        obtain ⟨q1, q2, q3⟩ := fld_parts (hsf x hx)
        exact ⟨q1, by omega⟩
      cases hq1 : partF (T.kids.getD 0 .nil).name (T.kids.drop 2) with
      | none =>
        rw [if_pos (.inr (.inl rfl))]
        rw [hq1] at hp1
        repeat' ((first
          | refine then_go hm htt ?_
          | refine Side.go ?_
          | refine Hyp.go fun hlen => ?_
          | refine Split.ct ?_
          | refine Split.cf ?_
          | refine Split.tt ?_
          | refine Split.ff ?_
          | refine Indep.go ?_
          | refine CallG.gp hnm ?_
          | refine CallG.gp hp1 ?_
          | refine Side.mk hn0 ?_
          | refine Side.mk hS ?_
          | refine Side.mk (show (0 : Int) ≤ 0 ∧ (0 : Int) < ((T.kids.getD 0 .nil).kids.length : Int) from ⟨by omega, by omega⟩) ?_
          | refine Split.go (fun hc => ?_) fun hc => ?_) <;> conv => whnf)
        exact ret_closed rfl rfl rfl
      | some A =>
        have hA : A ≠ .nil := by
          obtain ⟨y, hy, rfl⟩ := partF_mem hq1
          exact term_ne (tfield_parts (f4 y hy)).2.2.2.2
        have hAn := nil_isNil hA
        cases hq2 : partF (T.kids.getD 0 .nil).name S.kids with
        | none =>
          rw [if_pos (.inr (.inr rfl))]
          rw [hq1, show oT (some A) = A from rfl] at hp1
          rw [hq2] at hp2
          repeat' ((first
            | refine then_go hm htt ?_
            | refine Side.go ?_
            | refine Hyp.go fun hlen => ?_
            | refine Split.ct ?_
            | refine Split.cf ?_
            | refine Split.tt ?_
            | refine Split.ff ?_
            | refine Indep.go ?_
            | refine CallG.gp hnm ?_
            | refine CallG.gp hp1 ?_
            | refine CallG.gp hp2 ?_
            | refine Side.mk hn0 ?_
            | refine Side.mk hS ?_
            | refine Side.mk (show (0 : Int) ≤ 0 ∧ (0 : Int) < ((T.kids.getD 0 .nil).kids.length : Int) from ⟨by omega, by omega⟩) ?_
            | refine Split.go (fun hc => ?_) fun hc => ?_) <;> conv => whnf)
          exact ret_closed rfl rfl rfl
        | some C =>
          rw [if_neg (by simp [c3])]
          rw [hq1] at hp1
          rw [hq2] at hp2
          rw [show oT (some A) = A from rfl] at hp1 ⊢
          rw [show oT (some C) = C from rfl] at hp2 ⊢
          have hCc : isConF C = true := by
            obtain ⟨y, hy, rfl⟩ := partF_mem hq2
            exact (fld_parts (hsf y hy)).2.2
          have hC : C ≠ .nil := by intro q; subst q; rw [isConF] at hCc; cases hCc
          have hCn := nil_isNil hC
          have hu := rolled_ok T hT hk hz C hCc _ g3 (by omega)
          generalize rollF T C ((T.kids.getD 0 .nil).kids.getD 1 .nil) = U at *
          have hch := rtCheck_ok (.node 143 0 ByteArray.empty ByteArray.empty [U, A])
          by_cases hz2 : termE (.node 143 0 ByteArray.empty ByteArray.empty [U, A]) = 0
          · rw [if_neg (by omega)]
            rw [hz2] at hch
            repeat' ((first
              | refine then_go hm htt ?_
              | refine Side.go ?_
              | refine Hyp.go fun hlen => ?_
              | refine Split.ct ?_
              | refine Split.cf ?_
              | refine Split.tt ?_
              | refine Split.ff ?_
              | refine Indep.go ?_
              | refine CallG.gp hnm ?_
              | refine CallG.gp hp1 ?_
              | refine CallG.gp hp2 ?_
              | refine CallG.gp hu ?_
              | refine CallG.gp hch ?_
              | refine Side.mk hn0 ?_
              | refine Side.mk hS ?_
              | refine Side.mk (show (0 : Int) ≤ 0 ∧ (0 : Int) < ((T.kids.getD 0 .nil).kids.length : Int) from ⟨by omega, by omega⟩) ?_
              | refine Side.mk (show (0 : Int) ≤ 1 ∧ (1 : Int) < ((T.kids.getD 0 .nil).kids.length : Int) from ⟨by omega, by omega⟩) ?_
              | refine Split.go (fun hc => ?_) fun hc => ?_) <;> conv => whnf)
            exact ret_closed rfl rfl rfl
          · rw [if_pos (by omega)]
            generalize termE (.node 143 0 ByteArray.empty ByteArray.empty [U, A]) = E at *
            repeat' ((first
              | refine then_go hm htt ?_
              | refine Side.go ?_
              | refine Hyp.go fun hlen => ?_
              | refine Split.ct ?_
              | refine Split.cf ?_
              | refine Split.tt ?_
              | refine Split.ff ?_
              | refine Indep.go ?_
              | refine CallG.gp hnm ?_
              | refine CallG.gp hp1 ?_
              | refine CallG.gp hp2 ?_
              | refine CallG.gp hu ?_
              | refine CallG.gp hch ?_
              | refine Side.mk hn0 ?_
              | refine Side.mk hS ?_
              | refine Side.mk (show (0 : Int) ≤ 0 ∧ (0 : Int) < ((T.kids.getD 0 .nil).kids.length : Int) from ⟨by omega, by omega⟩) ?_
              | refine Side.mk (show (0 : Int) ≤ 1 ∧ (1 : Int) < ((T.kids.getD 0 .nil).kids.length : Int) from ⟨by omega, by omega⟩) ?_
              | refine Split.go (fun hc => ?_) fun hc => ?_) <;> conv => whnf)
            exact ret_closed rfl rfl rfl
    · rw [if_pos (.inl c3)]
      generalize partF (T.kids.getD 0 .nil).name (T.kids.drop 2) = Q at *
      repeat' ((first
        | refine then_go hm htt ?_
        | refine Side.go ?_
        | refine Hyp.go fun hlen => ?_
        | refine Split.ct ?_
        | refine Split.cf ?_
        | refine Split.tt ?_
        | refine Split.ff ?_
        | refine Indep.go ?_
        | refine CallG.gp hnm ?_
        | refine CallG.gp hp1 ?_
        | refine Side.mk hn0 ?_
        | refine Side.mk hS ?_
        | refine Side.mk (show (0 : Int) ≤ 0 ∧ (0 : Int) < ((T.kids.getD 0 .nil).kids.length : Int) from ⟨by omega, by omega⟩) ?_
        | refine Split.go (fun hc => ?_) fun hc => ?_) <;> conv => whnf)
      exact ret_closed rfl rfl rfl
  · rw [if_pos he]
    repeat' ((first
      | refine then_go hm htt ?_
      | refine Side.go ?_
      | refine Hyp.go fun hlen => ?_
      | refine Split.ct ?_
      | refine Split.cf ?_
      | refine Split.tt ?_
      | refine Split.ff ?_
      | refine Indep.go ?_
      | refine CallG.gp hnm ?_
      | refine Side.mk hn0 ?_
      | refine Side.mk (show (0 : Int) ≤ 0 ∧ (0 : Int) < ((T.kids.getD 0 .nil).kids.length : Int) from ⟨by omega, by omega⟩) ?_
      | refine Split.go (fun hc => ?_) fun hc => ?_) <;> conv => whnf)
    exact ret_closed rfl rfl rfl
end St
end Go.Proofs.YtoajaklekmbcdaaGreat

namespace Go.Proofs.YtoajaklekmbcdaaGreat
namespace St
open Go Go.Mq Tm Sb
set_option linter.all false

/-! The document's own step -/
theorem numberR_op (T : Tree) (h0 : (kidT T 0).kind = 131) (h1 : (kidT T 1).kind = 131) : opF T = numberR T.n (kidT T 0).n (kidT T 1).n := by
  unfold opF numberR
  rw [if_neg (by omega)]
set_option maxHeartbeats 16000000 in
set_option maxRecDepth 10000 in
theorem itself_ok (T : Tree) (hD : StD T) : Pure P 48 [.d (.tree T)] (.tuple [.d (.tree (goesF T).1), .d (.int .i64 (goesF T).2)]) := by
  have hT := hD.term
  have hz := hD.size
  have hTn := term_ne hT
  have hh := (term_head hT).1
  have hkd := hD.kind
  have hsz := sizeN_kids hTn
  have hlen := full_len (term_full hT)
  refine Pure.of_body tt [] [2, 3] Tryz.func48 rfl rfl rfl (Nat.le_of_ble_eq_true rfl) fun g => ?_
  unfold goesF
  by_cases k6 : T.kind = 143
  · rw [if_neg (by omega), if_neg (by omega), if_neg (by omega), if_neg (by omega), if_neg (by omega), if_pos k6]
    obtain ⟨f1, f2, f3⟩ := term_xx hT (.inr (.inr (.inl k6)))
    unfold kidT at *
    have ht := rTerm_ok (T.kids.getD 1 .nil) 0 (T.kids.getD 0 .nil)
    generalize termR (T.kids.getD 1 .nil) 0 (T.kids.getD 0 .nil) = R at *
    repeat' ((first
      | refine then_go hm htt ?_
      | refine Side.go ?_
      | refine Hyp.go fun hlen => ?_
      | refine Split.ct ?_
      | refine Split.cf ?_
      | refine Split.tt ?_
      | refine Split.ff ?_
      | refine Indep.go ?_
      | refine CallG.gp ht ?_
      | refine Side.mk (show (0 : Int) ≤ 0 ∧ (0 : Int) < (T.kids.length : Int) from ⟨by omega, by omega⟩) ?_
      | refine Side.mk (show (0 : Int) ≤ 1 ∧ (1 : Int) < (T.kids.length : Int) from ⟨by omega, by omega⟩) ?_
      | refine Split.go (fun hc => ?_) fun hc => ?_) <;> conv => whnf)
    exact ret_closed rfl rfl rfl
  by_cases kr : T.kind = 136
  · rw [if_neg (by omega), if_neg (by omega), if_neg (by omega), if_neg (by omega), if_neg (by omega), if_neg (by omega), if_neg (by omega), if_neg (by omega), if_neg (by omega)]
    by_cases hl0 : T.kids.length = 0
    · repeat' ((first
        | refine then_go hm htt ?_
        | refine Side.go ?_
        | refine Hyp.go fun hlen => ?_
        | refine Split.ct ?_
        | refine Split.cf ?_
        | refine Split.tt ?_
        | refine Split.ff ?_
        | refine Indep.go ?_
        | refine Split.go (fun hc => ?_) fun hc => ?_) <;> conv => whnf)
      exact ret_closed rfl rfl rfl
    · repeat' ((first
        | refine then_go hm htt ?_
        | refine Side.go ?_
        | refine Hyp.go fun hlen => ?_
        | refine Split.ct ?_
        | refine Split.cf ?_
        | refine Split.tt ?_
        | refine Split.ff ?_
        | refine Indep.go ?_
        | refine Side.mk (show (0 : Int) ≤ 0 ∧ (0 : Int) < (T.kids.length : Int) from ⟨by omega, by omega⟩) ?_
        | refine Split.go (fun hc => ?_) fun hc => ?_) <;> conv => whnf)
      exact ret_closed rfl rfl rfl
  by_cases k1 : T.kind = 135
  · rw [if_pos k1]
    obtain ⟨f1, f2, f3⟩ := term_xx hT (.inl k1)
    have hn0 := term_ne f2
    unfold kidT at *
    by_cases c0 : (T.kids.getD 0 .nil).kind = 134
    · rw [if_pos c0]
      obtain ⟨g1, g2, g3⟩ := term_cx f2 (.inl c0)
      have ht := rTerm_ok ((T.kids.getD 0 .nil).kids.getD 1 .nil) 0 (T.kids.getD 1 .nil)
      generalize termR ((T.kids.getD 0 .nil).kids.getD 1 .nil) 0 (T.kids.getD 1 .nil) = R at *
      repeat' ((first
        | refine then_go hm htt ?_
        | refine Side.go ?_
        | refine Hyp.go fun hlen => ?_
        | refine Split.ct ?_
        | refine Split.cf ?_
        | refine Split.tt ?_
        | refine Split.ff ?_
        | refine Indep.go ?_
        | refine CallG.gp ht ?_
        | refine Side.mk hn0 ?_
        | refine Side.mk (show (0 : Int) ≤ 0 ∧ (0 : Int) < (T.kids.length : Int) from ⟨by omega, by omega⟩) ?_
        | refine Side.mk (show (0 : Int) ≤ 1 ∧ (1 : Int) < ((T.kids.getD 0 .nil).kids.length : Int) from ⟨by omega, by omega⟩) ?_
        | refine Side.mk (show (0 : Int) ≤ 1 ∧ (1 : Int) < (T.kids.length : Int) from ⟨by omega, by omega⟩) ?_
        | refine Split.go (fun hc => ?_) fun hc => ?_) <;> conv => whnf)
      exact ret_closed rfl rfl rfl
    · rw [if_neg c0]
      repeat' ((first
        | refine then_go hm htt ?_
        | refine Side.go ?_
        | refine Hyp.go fun hlen => ?_
        | refine Split.ct ?_
        | refine Split.cf ?_
        | refine Split.tt ?_
        | refine Split.ff ?_
        | refine Indep.go ?_
        | refine Side.mk hn0 ?_
        | refine Side.mk (show (0 : Int) ≤ 0 ∧ (0 : Int) < (T.kids.length : Int) from ⟨by omega, by omega⟩) ?_
        | refine Split.go (fun hc => ?_) fun hc => ?_) <;> conv => whnf)
      exact ret_closed rfl rfl rfl
  rw [if_neg k1]
  by_cases k2 : T.kind = 140
  · rw [if_pos k2]
    obtain ⟨f1, f2, f3⟩ := term_xc hT k2
    have hn0 := term_ne f2
    unfold kidT at *
    by_cases c0 : (T.kids.getD 0 .nil).kind = 139
    · rw [if_pos c0]
      obtain ⟨g1, g2, g3⟩ := term_kx f2 c0
      have ht := rCon_ok ((T.kids.getD 0 .nil).kids.getD 1 .nil) 0 (T.kids.getD 1 .nil)
      rw [← conR_eq] at ht
      generalize conR ((T.kids.getD 0 .nil).kids.getD 1 .nil) 0 (T.kids.getD 1 .nil) = R at *
      repeat' ((first
        | refine then_go hm htt ?_
        | refine Side.go ?_
        | refine Hyp.go fun hlen => ?_
        | refine Split.ct ?_
        | refine Split.cf ?_
        | refine Split.tt ?_
        | refine Split.ff ?_
        | refine Indep.go ?_
        | refine CallG.gp ht ?_
        | refine Side.mk hn0 ?_
        | refine Side.mk (show (0 : Int) ≤ 0 ∧ (0 : Int) < (T.kids.length : Int) from ⟨by omega, by omega⟩) ?_
        | refine Side.mk (show (0 : Int) ≤ 1 ∧ (1 : Int) < ((T.kids.getD 0 .nil).kids.length : Int) from ⟨by omega, by omega⟩) ?_
        | refine Side.mk (show (0 : Int) ≤ 1 ∧ (1 : Int) < (T.kids.length : Int) from ⟨by omega, by omega⟩) ?_
        | refine Split.go (fun hc => ?_) fun hc => ?_) <;> conv => whnf)
      exact ret_closed rfl rfl rfl
    · rw [if_neg c0]
      repeat' ((first
        | refine then_go hm htt ?_
        | refine Side.go ?_
        | refine Hyp.go fun hlen => ?_
        | refine Split.ct ?_
        | refine Split.cf ?_
        | refine Split.tt ?_
        | refine Split.ff ?_
        | refine Indep.go ?_
        | refine Side.mk hn0 ?_
        | refine Side.mk (show (0 : Int) ≤ 0 ∧ (0 : Int) < (T.kids.length : Int) from ⟨by omega, by omega⟩) ?_
        | refine Split.go (fun hc => ?_) fun hc => ?_) <;> conv => whnf)
      exact ret_closed rfl rfl rfl
  rw [if_neg k2]
  by_cases k3 : T.kind = 138
  · rw [if_pos k3]
    obtain ⟨f1, f2⟩ := term_x hT k3
    have hn0 := term_ne f2
    have m0 := sizesN_mem (getD_mem (l := T.kids) (i := 0) (by omega))
    have s0 := sizeN_kids hn0
    have l0 := full_len (term_full f2)
    unfold kidT at *
    by_cases c0 : (T.kids.getD 0 .nil).kind = 136
    · have g1 := (term_f f2 c0).1
      have hp := rPart_ok (T.kids.getD 0 .nil) hn0 (by omega) T.name fun x hx => by
        obtain ⟨q1, q2, q3, q4, q5⟩ := tfield_parts (g1 x hx)
        exact ⟨q1, by omega⟩
      cases hq : partF T.name (T.kids.getD 0 .nil).kids with
      | none =>
        rw [hq] at hp
        rw [if_neg (by simp)]
        repeat' ((first
          | refine then_go hm htt ?_
          | refine Side.go ?_
          | refine Hyp.go fun hlen => ?_
          | refine Split.ct ?_
          | refine Split.cf ?_
          | refine Split.tt ?_
          | refine Split.ff ?_
          | refine Indep.go ?_
          | refine CallG.gp hp ?_
          | refine Side.mk hn0 ?_
          | refine Side.mk (show (0 : Int) ≤ 0 ∧ (0 : Int) < (T.kids.length : Int) from ⟨by omega, by omega⟩) ?_
          | refine Split.go (fun hc => ?_) fun hc => ?_) <;> conv => whnf)
        exact ret_closed rfl rfl rfl
      | some x =>
        rw [hq] at hp
        rw [if_pos ⟨c0, rfl⟩]
        rw [show oT (some x) = x from rfl] at hp ⊢
        have hx : x ≠ .nil := by
          obtain ⟨y, hy, rfl⟩ := partF_mem hq
          exact term_ne (tfield_parts (g1 y hy)).2.2.2.2
        have hxn := nil_isNil hx
        repeat' ((first
          | refine then_go hm htt ?_
          | refine Side.go ?_
          | refine Hyp.go fun hlen => ?_
          | refine Split.ct ?_
          | refine Split.cf ?_
          | refine Split.tt ?_
          | refine Split.ff ?_
          | refine Indep.go ?_
          | refine CallG.gp hp ?_
          | refine Side.mk hn0 ?_
          | refine Side.mk (show (0 : Int) ≤ 0 ∧ (0 : Int) < (T.kids.length : Int) from ⟨by omega, by omega⟩) ?_
          | refine Split.go (fun hc => ?_) fun hc => ?_) <;> conv => whnf)
        exact ret_closed rfl rfl rfl
    · rw [if_neg (fun q => c0 q.1)]
      repeat' ((first
        | refine then_go hm htt ?_
        | refine Side.go ?_
        | refine Hyp.go fun hlen => ?_
        | refine Split.ct ?_
        | refine Split.cf ?_
        | refine Split.tt ?_
        | refine Split.ff ?_
        | refine Indep.go ?_
        | refine Side.mk hn0 ?_
        | refine Side.mk (show (0 : Int) ≤ 0 ∧ (0 : Int) < (T.kids.length : Int) from ⟨by omega, by omega⟩) ?_
        | refine Split.go (fun hc => ?_) fun hc => ?_) <;> conv => whnf)
      exact ret_closed rfl rfl rfl
  rw [if_neg k3]
  by_cases k4 : T.kind = 144
  · rw [if_pos k4]
    obtain ⟨f1, f2, f3, f4⟩ := term_xxx hT k4
    have hn0 := term_ne f2
    unfold kidT at *
    by_cases c0 : (T.kids.getD 0 .nil).kind = 132
    · rw [if_pos c0]
      by_cases n1 : (T.kids.getD 0 .nil).n = 1
      · rw [if_pos n1]
        repeat' ((first
          | refine then_go hm htt ?_
          | refine Side.go ?_
          | refine Hyp.go fun hlen => ?_
          | refine Split.ct ?_
          | refine Split.cf ?_
          | refine Split.tt ?_
          | refine Split.ff ?_
          | refine Indep.go ?_
          | refine Side.mk hn0 ?_
          | refine Side.mk (show (0 : Int) ≤ 0 ∧ (0 : Int) < (T.kids.length : Int) from ⟨by omega, by omega⟩) ?_
          | refine Side.mk (show (0 : Int) ≤ 1 ∧ (1 : Int) < (T.kids.length : Int) from ⟨by omega, by omega⟩) ?_
          | refine Split.go (fun hc => ?_) fun hc => ?_) <;> conv => whnf)
        exact ret_closed rfl rfl rfl
      · rw [if_neg n1]
        repeat' ((first
          | refine then_go hm htt ?_
          | refine Side.go ?_
          | refine Hyp.go fun hlen => ?_
          | refine Split.ct ?_
          | refine Split.cf ?_
          | refine Split.tt ?_
          | refine Split.ff ?_
          | refine Indep.go ?_
          | refine Side.mk hn0 ?_
          | refine Side.mk (show (0 : Int) ≤ 0 ∧ (0 : Int) < (T.kids.length : Int) from ⟨by omega, by omega⟩) ?_
          | refine Side.mk (show (0 : Int) ≤ 2 ∧ (2 : Int) < (T.kids.length : Int) from ⟨by omega, by omega⟩) ?_
          | refine Split.go (fun hc => ?_) fun hc => ?_) <;> conv => whnf)
        exact ret_closed rfl rfl rfl
    · rw [if_neg c0]
      repeat' ((first
        | refine then_go hm htt ?_
        | refine Side.go ?_
        | refine Hyp.go fun hlen => ?_
        | refine Split.ct ?_
        | refine Split.cf ?_
        | refine Split.tt ?_
        | refine Split.ff ?_
        | refine Indep.go ?_
        | refine Side.mk hn0 ?_
        | refine Side.mk (show (0 : Int) ≤ 0 ∧ (0 : Int) < (T.kids.length : Int) from ⟨by omega, by omega⟩) ?_
        | refine Split.go (fun hc => ?_) fun hc => ?_) <;> conv => whnf)
      exact ret_closed rfl rfl rfl
  rw [if_neg k4]
  by_cases k5 : T.kind = 142
  · rw [if_pos k5]
    obtain ⟨f1, f2, f3⟩ := term_xx hT (.inr (.inl k5))
    have hn0 := term_ne f2
    unfold kidT at *
    by_cases c0 : (T.kids.getD 0 .nil).kind = 141
    · rw [if_pos c0]
      obtain ⟨g1, g2, g3, g4⟩ := term_cxc f2 c0
      have ht := rTerm_ok (T.kids.getD 1 .nil) 0 ((T.kids.getD 0 .nil).kids.getD 1 .nil)
      have hc := rCon_ok (termR (T.kids.getD 1 .nil) 0 ((T.kids.getD 0 .nil).kids.getD 1 .nil)).1 0 ((T.kids.getD 0 .nil).kids.getD 0 .nil)
      rw [← conR_eq] at hc
      generalize termR (T.kids.getD 1 .nil) 0 ((T.kids.getD 0 .nil).kids.getD 1 .nil) = R at *
      obtain ⟨m, e⟩ := R
      simp only [] at ht hc ⊢
      by_cases he : e = 0
      · subst he
        rw [if_neg (by omega)]
        generalize conR m 0 ((T.kids.getD 0 .nil).kids.getD 0 .nil) = S at *
        repeat' ((first
          | refine then_go hm htt ?_
          | refine Side.go ?_
          | refine Hyp.go fun hlen => ?_
          | refine Split.ct ?_
          | refine Split.cf ?_
          | refine Split.tt ?_
          | refine Split.ff ?_
          | refine Indep.go ?_
          | refine CallG.gp ht ?_
          | refine CallG.gp hc ?_
          | refine Side.mk hn0 ?_
          | refine Side.mk (show (0 : Int) ≤ 0 ∧ (0 : Int) < (T.kids.length : Int) from ⟨by omega, by omega⟩) ?_
          | refine Side.mk (show (0 : Int) ≤ 0 ∧ (0 : Int) < ((T.kids.getD 0 .nil).kids.length : Int) from ⟨by omega, by omega⟩) ?_
          | refine Side.mk (show (0 : Int) ≤ 1 ∧ (1 : Int) < ((T.kids.getD 0 .nil).kids.length : Int) from ⟨by omega, by omega⟩) ?_
          | refine Side.mk (show (0 : Int) ≤ 1 ∧ (1 : Int) < (T.kids.length : Int) from ⟨by omega, by omega⟩) ?_
          | refine Split.go (fun hc => ?_) fun hc => ?_) <;> conv => whnf)
        exact ret_closed rfl rfl rfl
      · rw [if_pos he]
        repeat' ((first
          | refine then_go hm htt ?_
          | refine Side.go ?_
          | refine Hyp.go fun hlen => ?_
          | refine Split.ct ?_
          | refine Split.cf ?_
          | refine Split.tt ?_
          | refine Split.ff ?_
          | refine Indep.go ?_
          | refine CallG.gp ht ?_
          | refine Side.mk hn0 ?_
          | refine Side.mk (show (0 : Int) ≤ 0 ∧ (0 : Int) < (T.kids.length : Int) from ⟨by omega, by omega⟩) ?_
          | refine Side.mk (show (0 : Int) ≤ 1 ∧ (1 : Int) < ((T.kids.getD 0 .nil).kids.length : Int) from ⟨by omega, by omega⟩) ?_
          | refine Side.mk (show (0 : Int) ≤ 1 ∧ (1 : Int) < (T.kids.length : Int) from ⟨by omega, by omega⟩) ?_
          | refine Split.go (fun hc => ?_) fun hc => ?_) <;> conv => whnf)
        exact ret_closed rfl rfl rfl
    · rw [if_neg c0]
      repeat' ((first
        | refine then_go hm htt ?_
        | refine Side.go ?_
        | refine Hyp.go fun hlen => ?_
        | refine Split.ct ?_
        | refine Split.cf ?_
        | refine Split.tt ?_
        | refine Split.ff ?_
        | refine Indep.go ?_
        | refine Side.mk hn0 ?_
        | refine Side.mk (show (0 : Int) ≤ 0 ∧ (0 : Int) < (T.kids.length : Int) from ⟨by omega, by omega⟩) ?_
        | refine Split.go (fun hc => ?_) fun hc => ?_) <;> conv => whnf)
      exact ret_closed rfl rfl rfl
  rw [if_neg k5, if_neg k6]
  by_cases k7 : T.kind = 145
  · rw [if_pos k7]
    obtain ⟨f1, f2, f3⟩ := term_xx hT (.inr (.inr (.inr k7)))
    have hn0 := term_ne f2
    have hn1 := term_ne f3
    by_cases c0 : (kidT T 0).kind = 131 ∧ (kidT T 1).kind = 131
    · obtain ⟨c0, c1⟩ := c0
      rw [numberR_op T c0 c1]
      unfold kidT at *
      have ho := rnum16_ok T.n (T.kids.getD 0 .nil).n (T.kids.getD 1 .nil).n (hh.n145 k7)
      generalize numberR T.n (T.kids.getD 0 .nil).n (T.kids.getD 1 .nil).n = R at *
      repeat' ((first
        | refine then_go hm htt ?_
        | refine Side.go ?_
        | refine Hyp.go fun hlen => ?_
        | refine Split.ct ?_
        | refine Split.cf ?_
        | refine Split.tt ?_
        | refine Split.ff ?_
        | refine Indep.go ?_
        | refine CallG.gp ho ?_
        | refine Side.mk hn0 ?_
        | refine Side.mk hn1 ?_
        | refine Side.mk (show (0 : Int) ≤ 0 ∧ (0 : Int) < (T.kids.length : Int) from ⟨by omega, by omega⟩) ?_
        | refine Side.mk (show (0 : Int) ≤ 1 ∧ (1 : Int) < (T.kids.length : Int) from ⟨by omega, by omega⟩) ?_
        | refine Split.go (fun hc => ?_) fun hc => ?_) <;> conv => whnf)
      exact ret_closed rfl rfl rfl
    · have e : opF T = (.nil, 20) := by unfold opF; rw [if_pos (by omega)]
      rw [e]
      unfold kidT at *
      repeat' ((first
        | refine then_go hm htt ?_
        | refine Side.go ?_
        | refine Hyp.go fun hlen => ?_
        | refine Split.ct ?_
        | refine Split.cf ?_
        | refine Split.tt ?_
        | refine Split.ff ?_
        | refine Indep.go ?_
        | refine Side.mk hn0 ?_
        | refine Side.mk hn1 ?_
        | refine Side.mk (show (0 : Int) ≤ 0 ∧ (0 : Int) < (T.kids.length : Int) from ⟨by omega, by omega⟩) ?_
        | refine Side.mk (show (0 : Int) ≤ 1 ∧ (1 : Int) < (T.kids.length : Int) from ⟨by omega, by omega⟩) ?_
        | refine Split.go (fun hc => ?_) fun hc => ?_) <;> conv => whnf)
      all_goals exact ret_closed rfl rfl rfl
  rw [if_neg k7]
  by_cases k8 : T.kind = 147
  · rw [if_pos k8]
    obtain ⟨f1, f2, f3⟩ := term_xa hT k8
    have hn0 := term_ne f2
    unfold kidT at *
    by_cases c0 : (T.kids.getD 0 .nil).kind = 146
    · obtain ⟨g1, g2, g3⟩ := term_cx f2 (.inr c0)
      have hp := arm_ok T hTn 1 (by omega) (by omega) (T.kids.getD 0 .nil).name fun x hx => by
        obtain ⟨q1, q2, q3, q4, q5⟩ := tfield_parts (f3 x hx)
        exact ⟨q1, by omega⟩
      cases hq : partF (T.kids.getD 0 .nil).name (T.kids.drop 1) with
      | none =>
        rw [hq] at hp
        rw [if_neg (by simp)]
        repeat' ((first
          | refine then_go hm htt ?_
          | refine Side.go ?_
          | refine Hyp.go fun hlen => ?_
          | refine Split.ct ?_
          | refine Split.cf ?_
          | refine Split.tt ?_
          | refine Split.ff ?_
          | refine Indep.go ?_
          | refine CallG.gp hp ?_
          | refine Side.mk hn0 ?_
          | refine Side.mk (show (0 : Int) ≤ 0 ∧ (0 : Int) < (T.kids.length : Int) from ⟨by omega, by omega⟩) ?_
          | refine Split.go (fun hc => ?_) fun hc => ?_) <;> conv => whnf)
        exact ret_closed rfl rfl rfl
      | some x =>
        rw [hq] at hp
        rw [if_pos ⟨c0, rfl⟩]
        rw [show oT (some x) = x from rfl] at hp ⊢
        have hx : x ≠ .nil := by
          obtain ⟨y, hy, rfl⟩ := partF_mem hq
          exact term_ne (tfield_parts (f3 y hy)).2.2.2.2
        have hxn := nil_isNil hx
        have ht := rTerm_ok x 0 ((T.kids.getD 0 .nil).kids.getD 1 .nil)
        generalize termR x 0 ((T.kids.getD 0 .nil).kids.getD 1 .nil) = R at *
        repeat' ((first
          | refine then_go hm htt ?_
          | refine Side.go ?_
          | refine Hyp.go fun hlen => ?_
          | refine Split.ct ?_
          | refine Split.cf ?_
          | refine Split.tt ?_
          | refine Split.ff ?_
          | refine Indep.go ?_
          | refine CallG.gp hp ?_
          | refine CallG.gp ht ?_
          | refine Side.mk hn0 ?_
          | refine Side.mk (show (0 : Int) ≤ 0 ∧ (0 : Int) < (T.kids.length : Int) from ⟨by omega, by omega⟩) ?_
          | refine Side.mk (show (0 : Int) ≤ 1 ∧ (1 : Int) < ((T.kids.getD 0 .nil).kids.length : Int) from ⟨by omega, by omega⟩) ?_
          | refine Split.go (fun hc => ?_) fun hc => ?_) <;> conv => whnf)
        exact ret_closed rfl rfl rfl
    · rw [if_neg (fun q => c0 q.1)]
      repeat' ((first
        | refine then_go hm htt ?_
        | refine Side.go ?_
        | refine Hyp.go fun hlen => ?_
        | refine Split.ct ?_
        | refine Split.cf ?_
        | refine Split.tt ?_
        | refine Split.ff ?_
        | refine Indep.go ?_
        | refine Side.mk hn0 ?_
        | refine Side.mk (show (0 : Int) ≤ 0 ∧ (0 : Int) < (T.kids.length : Int) from ⟨by omega, by omega⟩) ?_
        | refine Split.go (fun hc => ?_) fun hc => ?_) <;> conv => whnf)
      exact ret_closed rfl rfl rfl
  rw [if_neg k8]
  by_cases k9 : T.kind = 148
  · rw [if_pos k9]
    obtain ⟨f1, f2, f3, f4⟩ := term_xca hT k9
    have hn0 := term_ne f2
    by_cases c0 : (T.kids.getD 0 .nil).kind = 146
    · have hf := rfold_ok T hT k9 hz c0
      generalize foldF T = R at *
      repeat' ((first
        | refine then_go hm htt ?_
        | refine Side.go ?_
        | refine Hyp.go fun hlen => ?_
        | refine Split.ct ?_
        | refine Split.cf ?_
        | refine Split.tt ?_
        | refine Split.ff ?_
        | refine Indep.go ?_
        | refine CallG.gp hf ?_
        | refine Side.mk hn0 ?_
        | refine Side.mk (show (0 : Int) ≤ 0 ∧ (0 : Int) < (T.kids.length : Int) from ⟨by omega, by omega⟩) ?_
        | refine Split.go (fun hc => ?_) fun hc => ?_) <;> conv => whnf)
      exact ret_closed rfl rfl rfl
    · have e : foldF T = (.nil, 20) := by unfold foldF kidT; rw [if_pos c0]
      rw [e]
      repeat' ((first
        | refine then_go hm htt ?_
        | refine Side.go ?_
        | refine Hyp.go fun hlen => ?_
        | refine Split.ct ?_
        | refine Split.cf ?_
        | refine Split.tt ?_
        | refine Split.ff ?_
        | refine Indep.go ?_
        | refine Side.mk hn0 ?_
        | refine Side.mk (show (0 : Int) ≤ 0 ∧ (0 : Int) < (T.kids.length : Int) from ⟨by omega, by omega⟩) ?_
        | refine Split.go (fun hc => ?_) fun hc => ?_) <;> conv => whnf)
      exact ret_closed rfl rfl rfl
  rw [if_neg k9]
  have hl0 : 0 < T.kids.length := by
    rcases (show T.kind = 141 ∨ T.kind = 146 by omega) with k | k
    · have := (term_cxc hT k).1; omega
    · have := (term_cx hT (.inr k)).1; omega
  repeat' ((first
    | refine then_go hm htt ?_
    | refine Side.go ?_
    | refine Hyp.go fun hlen => ?_
    | refine Split.ct ?_
    | refine Split.cf ?_
    | refine Split.tt ?_
    | refine Split.ff ?_
    | refine Indep.go ?_
    | refine Side.mk (show (0 : Int) ≤ 0 ∧ (0 : Int) < (T.kids.length : Int) from ⟨by omega, by omega⟩) ?_
    | refine Split.go (fun hc => ?_) fun hc => ?_) <;> conv => whnf)
  exact ret_closed rfl rfl rfl
end St
end Go.Proofs.YtoajaklekmbcdaaGreat

namespace Go.Proofs.YtoajaklekmbcdaaGreat
namespace St
open Go Go.Mq Tm Sb
set_option linter.all false

/-! The document's own: Step, Run, Unroll -/
set_option maxHeartbeats 8000000 in
set_option maxRecDepth 10000 in
theorem one_ok (T : Tree) : StD T → Pure P 24 [.d (.tree T)] (.tuple [.d (.tree (stF T).1), .d (.int .i64 (stF T).2)]) := by
  suffices h : (StD T → Pure P 24 [.d (.tree T)] (.tuple [.d (.tree (stF T).1), .d (.int .i64 (stF T).2)])) ∧ ∀ x ∈ T.kids, StD x → Pure P 24 [.d (.tree x)] (.tuple [.d (.tree (stF x).1), .d (.int .i64 (stF x).2)]) from h.1
  induction T using Tree.ind' with
  | h0 => exact ⟨fun h => absurd rfl (term_ne h.term), fun x hx => (by cases hx)⟩
  | h1 T hT ih => ?_
  refine ⟨fun hD => ?_, fun x hx => (ih x hx).1⟩
  have hpl := ahead_ok T hT
  have hgo := itself_ok T hD
  obtain ⟨hp1, hp2⟩ := hD.places
  have hin := fun i => hD.inner (i := i)
  have hat := fun i => stF_at hT (i := i)
  have hno := stF_none hT
  have hsz := sizeN_kids hT
  have hlen := full_len (term_full hD.term)
  have hz := hD.size
  have hmk := term_mark hD.term
  have hrec : ∀ i, (plcF T).1 ≤ i → i < (plcF T).2 → valueF (inF T i) = false → Pure P 24 [.d (.tree (inF T i))] (.tuple [.d (.tree (stF (inF T i)).1), .d (.int .i64 (stF (inF T i)).2)]) := fun i h1 h2 h3 => by
    obtain ⟨q1, q2, q3, q4⟩ := hin i h1 h2
    have hm := getD_mem (l := T.kids) (i := i) (by omega)
    by_cases k : T.kind = 136
    · have e : inF T i = (T.kids.getD i .nil).kids.getD 0 .nil := by unfold inF; rw [if_pos k]
      rw [e] at q1 q2 q3 h3 ⊢
      exact (ih _ hm).2 _ (getD_mem (q4 k).2) ⟨q1, q2, q3, h3⟩
    · have e : inF T i = T.kids.getD i .nil := by unfold inF; rw [if_neg k]
      rw [e] at q1 q2 q3 h3 ⊢
      exact (ih _ hm).1 ⟨q1, q2, q3, h3⟩
  clear ih
  unfold aheadD at hpl
  generalize plcF T = F at *
  obtain ⟨fr, to⟩ := F
  simp only [] at *
  refine Pure.of_body tt [] [2, 3] Tryz.func24 rfl rfl rfl (Nat.le_of_ble_eq_true rfl) fun g => ?_
  repeat' ((first
    | refine then_go hm htt ?_
    | refine Side.go ?_
    | refine Hyp.go fun hlen => ?_
    | refine Split.ct ?_
    | refine Split.cf ?_
    | refine Split.tt ?_
    | refine Split.ff ?_
    | refine Indep.go ?_
    | refine CallG.gp hpl ?_
    | refine Split.go (fun hc => ?_) fun hc => ?_) <;> conv => whnf)
  refine loop_go (α := Nat) (fun p => ⟨[(0, .d (.tree T)), (4, .d (.slice (to - fr) 1 (fun i _ => .int .i64 ((fr + i : Nat) : Int)))), (5, .d (.int .i64 p))], 60, [], 0, g⟩)
    (fun p => p ≤ to - fr ∧ ∀ j, fr ≤ j → j < fr + p → valueF (inF T j) = true) (fun p => to - fr - p) 0 ⟨by omega, fun j h1 h2 => by omega⟩
    (Ent.go []) (fun _ => rfl) fun p hpre => ?_
  obtain ⟨hq1, hq2⟩ := hpre
  by_cases hlt : p < to - fr
  · obtain ⟨q1, q2, q3, q4⟩ := hin (fr + p) (by omega) (by omega)
    have hv := rvalue_ok (inF T (fr + p)) q1
    have hs := hrec (fr + p) (by omega) (by omega)
    have he := hat (fr + p) (by omega) ⟨by omega, by omega⟩
    have hw := fun m => rwith_ok T hT hmk (fr + p) (by omega) (fun k => (q4 k).1) m
    by_cases k : T.kind = 136
    · obtain ⟨n1, n2⟩ := q4 k
      have ei : inF T (fr + p) = (T.kids.getD (fr + p) .nil).kids.getD 0 .nil := by unfold inF; rw [if_pos k]
      cases hvv : valueF (inF T (fr + p)) with
      | true =>
        rw [hvv, ei] at hv
        repeat' ((first
          | refine then_go hm htt ?_
          | refine Side.go ?_
          | refine Hyp.go fun hlen => ?_
          | refine Split.ct ?_
          | refine Split.cf ?_
          | refine Split.tt ?_
          | refine Split.ff ?_
          | refine Indep.go ?_
          | refine Side.mk (show (0 : Int) ≤ (p : Int) ∧ (p : Int) < ((to - fr : Nat) : Int) from ⟨by omega, by omega⟩) ?_
          | refine Side.mk (show (0 : Int) ≤ ((fr + p : Nat) : Int) ∧ ((fr + p : Nat) : Int) < (T.kids.length : Int) from ⟨by omega, by omega⟩) ?_
          | refine Side.mk n1 ?_
          | refine Side.mk (show (0 : Int) ≤ 0 ∧ (0 : Int) < ((T.kids.getD (fr + p) .nil).kids.length : Int) from ⟨by omega, by omega⟩) ?_
          | refine CallG.gp hv ?_
          | refine Split.go (fun hc => ?_) fun hc => ?_) <;> conv => whnf)
        refine ⟨p + 1, ⟨by omega, fun j h1 h2 => ?_⟩, by omega, Ent.go []⟩
        by_cases e : j = fr + p
        · rw [e]; exact hvv
        · exact hq2 j h1 (by omega)
      | false =>
        have hs := hs hvv
        have he := he hvv hq2
        rw [hvv, ei] at hv
        rw [ei] at hs he
        generalize stF ((T.kids.getD (fr + p) .nil).kids.getD 0 .nil) = R at *
        obtain ⟨m, e⟩ := R
        simp only [] at hs he
        by_cases h0 : e = 0
        · subst h0
          rw [if_neg (by omega)] at he
          rw [he]
          have hw := hw m
          repeat' ((first
            | refine then_go hm htt ?_
            | refine Side.go ?_
            | refine Hyp.go fun hlen => ?_
            | refine Split.ct ?_
            | refine Split.cf ?_
            | refine Split.tt ?_
            | refine Split.ff ?_
            | refine Indep.go ?_
            | refine Side.mk (show (0 : Int) ≤ (p : Int) ∧ (p : Int) < ((to - fr : Nat) : Int) from ⟨by omega, by omega⟩) ?_
            | refine Side.mk (show (0 : Int) ≤ ((fr + p : Nat) : Int) ∧ ((fr + p : Nat) : Int) < (T.kids.length : Int) from ⟨by omega, by omega⟩) ?_
            | refine Side.mk n1 ?_
            | refine Side.mk (show (0 : Int) ≤ 0 ∧ (0 : Int) < ((T.kids.getD (fr + p) .nil).kids.length : Int) from ⟨by omega, by omega⟩) ?_
            | refine CallG.gp hv ?_
            | refine CallG.gp hs ?_
            | refine CallG.gp hw ?_
            | refine Split.go (fun hc => ?_) fun hc => ?_) <;> conv => whnf)
          exact ret_closed rfl rfl rfl
        · rw [if_pos h0] at he
          rw [he]
          repeat' ((first
            | refine then_go hm htt ?_
            | refine Side.go ?_
            | refine Hyp.go fun hlen => ?_
            | refine Split.ct ?_
            | refine Split.cf ?_
            | refine Split.tt ?_
            | refine Split.ff ?_
            | refine Indep.go ?_
            | refine Side.mk (show (0 : Int) ≤ (p : Int) ∧ (p : Int) < ((to - fr : Nat) : Int) from ⟨by omega, by omega⟩) ?_
            | refine Side.mk (show (0 : Int) ≤ ((fr + p : Nat) : Int) ∧ ((fr + p : Nat) : Int) < (T.kids.length : Int) from ⟨by omega, by omega⟩) ?_
            | refine Side.mk n1 ?_
            | refine Side.mk (show (0 : Int) ≤ 0 ∧ (0 : Int) < ((T.kids.getD (fr + p) .nil).kids.length : Int) from ⟨by omega, by omega⟩) ?_
            | refine CallG.gp hv ?_
            | refine CallG.gp hs ?_
            | refine Split.go (fun hc => ?_) fun hc => ?_) <;> conv => whnf)
          exact ret_closed rfl rfl rfl
    · have ei : inF T (fr + p) = T.kids.getD (fr + p) .nil := by unfold inF; rw [if_neg k]
      cases hvv : valueF (inF T (fr + p)) with
      | true =>
        rw [hvv, ei] at hv
        repeat' ((first
          | refine then_go hm htt ?_
          | refine Side.go ?_
          | refine Hyp.go fun hlen => ?_
          | refine Split.ct ?_
          | refine Split.cf ?_
          | refine Split.tt ?_
          | refine Split.ff ?_
          | refine Indep.go ?_
          | refine Side.mk (show (0 : Int) ≤ (p : Int) ∧ (p : Int) < ((to - fr : Nat) : Int) from ⟨by omega, by omega⟩) ?_
          | refine Side.mk (show (0 : Int) ≤ ((fr + p : Nat) : Int) ∧ ((fr + p : Nat) : Int) < (T.kids.length : Int) from ⟨by omega, by omega⟩) ?_
          | refine CallG.gp hv ?_
          | refine Split.go (fun hc => ?_) fun hc => ?_) <;> conv => whnf)
        refine ⟨p + 1, ⟨by omega, fun j h1 h2 => ?_⟩, by omega, Ent.go []⟩
        by_cases e : j = fr + p
        · rw [e]; exact hvv
        · exact hq2 j h1 (by omega)
      | false =>
        have hs := hs hvv
        have he := he hvv hq2
        rw [hvv, ei] at hv
        rw [ei] at hs he
        generalize stF (T.kids.getD (fr + p) .nil) = R at *
        obtain ⟨m, e⟩ := R
        simp only [] at hs he
        by_cases h0 : e = 0
        · subst h0
          rw [if_neg (by omega)] at he
          rw [he]
          have hw := hw m
          repeat' ((first
            | refine then_go hm htt ?_
            | refine Side.go ?_
            | refine Hyp.go fun hlen => ?_
            | refine Split.ct ?_
            | refine Split.cf ?_
            | refine Split.tt ?_
            | refine Split.ff ?_
            | refine Indep.go ?_
            | refine Side.mk (show (0 : Int) ≤ (p : Int) ∧ (p : Int) < ((to - fr : Nat) : Int) from ⟨by omega, by omega⟩) ?_
            | refine Side.mk (show (0 : Int) ≤ ((fr + p : Nat) : Int) ∧ ((fr + p : Nat) : Int) < (T.kids.length : Int) from ⟨by omega, by omega⟩) ?_
            | refine CallG.gp hv ?_
            | refine CallG.gp hs ?_
            | refine CallG.gp hw ?_
            | refine Split.go (fun hc => ?_) fun hc => ?_) <;> conv => whnf)
          exact ret_closed rfl rfl rfl
        · rw [if_pos h0] at he
          rw [he]
          repeat' ((first
            | refine then_go hm htt ?_
            | refine Side.go ?_
            | refine Hyp.go fun hlen => ?_
            | refine Split.ct ?_
            | refine Split.cf ?_
            | refine Split.tt ?_
            | refine Split.ff ?_
            | refine Indep.go ?_
            | refine Side.mk (show (0 : Int) ≤ (p : Int) ∧ (p : Int) < ((to - fr : Nat) : Int) from ⟨by omega, by omega⟩) ?_
            | refine Side.mk (show (0 : Int) ≤ ((fr + p : Nat) : Int) ∧ ((fr + p : Nat) : Int) < (T.kids.length : Int) from ⟨by omega, by omega⟩) ?_
            | refine CallG.gp hv ?_
            | refine CallG.gp hs ?_
            | refine Split.go (fun hc => ?_) fun hc => ?_) <;> conv => whnf)
          exact ret_closed rfl rfl rfl
  · rw [hno fun j h1 h2 => hq2 j h1 (by omega)]
    generalize goesF T = R at *
    repeat' ((first
      | refine then_go hm htt ?_
      | refine Side.go ?_
      | refine Hyp.go fun hlen => ?_
      | refine Split.ct ?_
      | refine Split.cf ?_
      | refine Split.tt ?_
      | refine Split.ff ?_
      | refine Indep.go ?_
      | refine CallG.gp hgo ?_
      | refine Split.go (fun hc => ?_) fun hc => ?_) <;> conv => whnf)
    exact ret_closed rfl rfl rfl
set_option maxHeartbeats 4000000 in
set_option maxRecDepth 10000 in
theorem rStep_ok (T : Tree) : Pure P 8 [.d (.tree T)] (.tuple [.d (.tree (stepR T).1), .d (.bool (stepR T).2.1), .d (.int .i64 (stepR T).2.2)]) := by
  have h1 := rtCheck_ok T
  have h2 := rClosed_ok T
  refine Pure.of_body tt [] [2, 3, 4] Tryz.func8 rfl rfl rfl (Nat.le_of_ble_eq_true rfl) fun g => ?_
  unfold stepR
  by_cases e1 : termE T = 0
  · obtain ⟨t1, t2, t3⟩ := termE_ok e1
    have h3 := rvalue_ok T t1
    rw [if_neg (by omega)]
    rw [e1] at h1
    cases e2 : closedF T with
    | false =>
      rw [if_pos rfl]
      rw [e2] at h2
      repeat' ((first
        | refine then_go hm htt ?_
        | refine Side.go ?_
        | refine Hyp.go fun hlen => ?_
        | refine Split.ct ?_
        | refine Split.cf ?_
        | refine Split.tt ?_
        | refine Split.ff ?_
        | refine Indep.go ?_
        | refine CallG.gp h1 ?_
        | refine CallG.gp h2 ?_
        | refine Split.go (fun hc => ?_) fun hc => ?_) <;> conv => whnf)
      exact ret_closed rfl rfl rfl
    | true =>
      rw [if_neg (by simp)]
      rw [e2] at h2
      cases e3 : valueF T with
      | true =>
        rw [if_pos rfl]
        rw [e3] at h3
        repeat' ((first
          | refine then_go hm htt ?_
          | refine Side.go ?_
          | refine Hyp.go fun hlen => ?_
          | refine Split.ct ?_
          | refine Split.cf ?_
          | refine Split.tt ?_
          | refine Split.ff ?_
          | refine Indep.go ?_
          | refine CallG.gp h1 ?_
          | refine CallG.gp h2 ?_
          | refine CallG.gp h3 ?_
          | refine Split.go (fun hc => ?_) fun hc => ?_) <;> conv => whnf)
        exact ret_closed rfl rfl rfl
      | false =>
        rw [if_neg (by simp)]
        rw [e3] at h3
        have h4 := one_ok T ⟨t1, t2, (closed_free e1 e2).2, e3⟩
        generalize stF T = R at *
        obtain ⟨m, e⟩ := R
        simp only [] at h4 ⊢
        by_cases h0 : e = 0
        · subst h0
          rw [if_neg (by omega)]
          have h5 := rtCheck_ok m
          by_cases e5 : termE m = 0
          · rw [if_neg (by omega)]
            rw [e5] at h5
            repeat' ((first
              | refine then_go hm htt ?_
              | refine Side.go ?_
              | refine Hyp.go fun hlen => ?_
              | refine Split.ct ?_
              | refine Split.cf ?_
              | refine Split.tt ?_
              | refine Split.ff ?_
              | refine Indep.go ?_
              | refine CallG.gp h1 ?_
              | refine CallG.gp h2 ?_
              | refine CallG.gp h3 ?_
              | refine CallG.gp h4 ?_
              | refine CallG.gp h5 ?_
              | refine Split.go (fun hc => ?_) fun hc => ?_) <;> conv => whnf)
            exact ret_closed rfl rfl rfl
          · rw [if_pos e5]
            generalize termE m = E at *
            repeat' ((first
              | refine then_go hm htt ?_
              | refine Side.go ?_
              | refine Hyp.go fun hlen => ?_
              | refine Split.ct ?_
              | refine Split.cf ?_
              | refine Split.tt ?_
              | refine Split.ff ?_
              | refine Indep.go ?_
              | refine CallG.gp h1 ?_
              | refine CallG.gp h2 ?_
              | refine CallG.gp h3 ?_
              | refine CallG.gp h4 ?_
              | refine CallG.gp h5 ?_
              | refine Split.go (fun hc => ?_) fun hc => ?_) <;> conv => whnf)
            exact ret_closed rfl rfl rfl
        · rw [if_pos h0]
          repeat' ((first
            | refine then_go hm htt ?_
            | refine Side.go ?_
            | refine Hyp.go fun hlen => ?_
            | refine Split.ct ?_
            | refine Split.cf ?_
            | refine Split.tt ?_
            | refine Split.ff ?_
            | refine Indep.go ?_
            | refine CallG.gp h1 ?_
            | refine CallG.gp h2 ?_
            | refine CallG.gp h3 ?_
            | refine CallG.gp h4 ?_
            | refine Split.go (fun hc => ?_) fun hc => ?_) <;> conv => whnf)
          exact ret_closed rfl rfl rfl
  · rw [if_pos e1]
    generalize termE T = E at *
    repeat' ((first
      | refine then_go hm htt ?_
      | refine Side.go ?_
      | refine Hyp.go fun hlen => ?_
      | refine Split.ct ?_
      | refine Split.cf ?_
      | refine Split.tt ?_
      | refine Split.ff ?_
      | refine Indep.go ?_
      | refine CallG.gp h1 ?_
      | refine Split.go (fun hc => ?_) fun hc => ?_) <;> conv => whnf)
    exact ret_closed rfl rfl rfl
set_option maxHeartbeats 4000000 in
set_option maxRecDepth 10000 in
theorem rRun_ok (T : Tree) (most : Int) (hm1 : most ≤ 17592186044416) : Pure P 12 [.d (.tree T), .d (.int .i64 most)] (.tuple [.d (.tree (runR T most).1), .d (.int .i64 (runR T most).2.1), .d (.int .i64 (runR T most).2.2)]) := by
  refine Pure.of_body tt [] [4, 5, 6] Tryz.func12 rfl rfl rfl (Nat.le_of_ble_eq_true rfl) fun g => ?_
  unfold runR
  by_cases hn : most < 0
  · rw [if_pos hn]
    repeat' ((first
      | refine then_go hm htt ?_
      | refine Side.go ?_
      | refine Hyp.go fun hlen => ?_
      | refine Split.ct ?_
      | refine Split.cf ?_
      | refine Split.tt ?_
      | refine Split.ff ?_
      | refine Indep.go ?_
      | refine Split.go (fun hc => ?_) fun hc => ?_) <;> conv => whnf)
    exact ret_closed rfl rfl rfl
  rw [if_neg hn]
  generalize hZ : runF most.toNat T 0 = Z
  repeat' ((first
    | refine then_go hm htt ?_
    | refine Side.go ?_
    | refine Hyp.go fun hlen => ?_
    | refine Split.ct ?_
    | refine Split.cf ?_
    | refine Split.tt ?_
    | refine Split.ff ?_
    | refine Indep.go ?_
    | refine Split.go (fun hc => ?_) fun hc => ?_) <;> conv => whnf)
  refine loop_go (α := Nat × Tree) (fun p => ⟨[(0, .d (.tree p.2)), (1, .d (.int .i64 most)), (7, .d (.int .i64 p.1))], 34, [], 0, g⟩)
    (fun p => p.1 ≤ most.toNat ∧ runF (most.toNat - p.1) p.2 p.1 = Z) (fun p => most.toNat - p.1) (0, T) ⟨by simp, hZ⟩
    (Ent.go []) (fun _ => rfl) fun p hpre => ?_
  obtain ⟨s, U⟩ := p
  obtain ⟨hp1, hp2⟩ := hpre
  simp only [] at hp1 hp2
  have hs := rStep_ok U
  by_cases hlt : s < most.toNat
  · obtain ⟨k, hk⟩ : ∃ k, most.toNat - s = k + 1 := ⟨most.toNat - s - 1, by omega⟩
    rw [hk, runF] at hp2
    generalize stepR U = R at *
    obtain ⟨m, b, e⟩ := R
    simp only [] at hs hp2
    by_cases he : e = 0
    · subst he
      rw [if_neg (by omega)] at hp2
      cases b with
      | false =>
        rw [if_pos rfl] at hp2
        rw [← hp2]
        repeat' ((first
          | refine then_go hm htt ?_
          | refine Side.go ?_
          | refine Hyp.go fun hlen => ?_
          | refine Split.ct ?_
          | refine Split.cf ?_
          | refine Split.tt ?_
          | refine Split.ff ?_
          | refine Indep.go ?_
          | refine CallG.gp hs ?_
          | refine Split.go (fun hc => ?_) fun hc => ?_) <;> conv => whnf)
        exact ret_closed rfl rfl rfl
      | true =>
        rw [if_neg (by simp)] at hp2
        repeat' ((first
          | refine then_go hm htt ?_
          | refine Side.go ?_
          | refine Hyp.go fun hlen => ?_
          | refine Split.ct ?_
          | refine Split.cf ?_
          | refine Split.tt ?_
          | refine Split.ff ?_
          | refine Indep.go ?_
          | refine CallG.gp hs ?_
          | refine Split.go (fun hc => ?_) fun hc => ?_) <;> conv => whnf)
        exact ⟨(s + 1, m), ⟨by simp only []; omega, by
          simp only []
          rw [show most.toNat - (s + 1) = k by omega, ← hp2]
          rfl⟩, by simp only []; omega, Ent.go []⟩
    · rw [if_pos he] at hp2
      rw [← hp2]
      repeat' ((first
        | refine then_go hm htt ?_
        | refine Side.go ?_
        | refine Hyp.go fun hlen => ?_
        | refine Split.ct ?_
        | refine Split.cf ?_
        | refine Split.tt ?_
        | refine Split.ff ?_
        | refine Indep.go ?_
        | refine CallG.gp hs ?_
        | refine Split.go (fun hc => ?_) fun hc => ?_) <;> conv => whnf)
      exact ret_closed rfl rfl rfl
  · rw [show most.toNat - s = 0 by omega, runF] at hp2
    have hms : (s : Int) = most := by omega
    generalize stepR U = R at *
    obtain ⟨m, b, e⟩ := R
    simp only [] at hs hp2
    by_cases he : e = 0
    · subst he
      rw [if_neg (by omega)] at hp2
      cases b with
      | false =>
        rw [if_pos rfl] at hp2
        rw [← hp2]
        repeat' ((first
          | refine then_go hm htt ?_
          | refine Side.go ?_
          | refine Hyp.go fun hlen => ?_
          | refine Split.ct ?_
          | refine Split.cf ?_
          | refine Split.tt ?_
          | refine Split.ff ?_
          | refine Indep.go ?_
          | refine CallG.gp hs ?_
          | refine Split.go (fun hc => ?_) fun hc => ?_) <;> conv => whnf)
        exact ret_closed rfl rfl rfl
      | true =>
        rw [if_neg (by simp)] at hp2
        rw [← hp2]
        repeat' ((first
          | refine then_go hm htt ?_
          | refine Side.go ?_
          | refine Hyp.go fun hlen => ?_
          | refine Split.ct ?_
          | refine Split.cf ?_
          | refine Split.tt ?_
          | refine Split.ff ?_
          | refine Indep.go ?_
          | refine CallG.gp hs ?_
          | refine Split.go (fun hc => ?_) fun hc => ?_) <;> conv => whnf)
        exact ret_closed rfl (tup3 rfl (int_eq hms.symm) rfl) rfl
    · rw [if_pos he] at hp2
      rw [← hp2]
      repeat' ((first
        | refine then_go hm htt ?_
        | refine Side.go ?_
        | refine Hyp.go fun hlen => ?_
        | refine Split.ct ?_
        | refine Split.cf ?_
        | refine Split.tt ?_
        | refine Split.ff ?_
        | refine Indep.go ?_
        | refine CallG.gp hs ?_
        | refine Split.go (fun hc => ?_) fun hc => ?_) <;> conv => whnf)
      exact ret_closed rfl rfl rfl
theorem E_ne {T : Tree} (h : termE T = 0) : T ≠ .nil := term_ne (termE_ok h).1
set_option maxHeartbeats 4000000 in
set_option maxRecDepth 10000 in
theorem Unroll_ok (c v f : Tree) : Pure P 14 [.d (.tree c), .d (.tree v), .d (.tree f)] (.tuple [.d (.tree (unrollR c v f).1), .d (.int .i64 (unrollR c v f).2)]) := by
  have h1 := check_ok c
  have h2 := tValue_ok v
  have h3 := tCheck_ok f
  refine Pure.of_body tt [] [6, 7] Tryz.func14 rfl rfl rfl (Nat.le_of_ble_eq_true rfl) fun g => ?_
  unfold unrollR
  by_cases e1 : conE c = 0
  · rw [e1] at h1
    cases e2 : tvalueR v with
    | false =>
      rw [if_pos (.inr (.inl rfl))]
      rw [e2] at h2
      repeat' ((first
        | refine then_go hm htt ?_
        | refine Side.go ?_
        | refine Hyp.go fun hlen => ?_
        | refine Split.ct ?_
        | refine Split.cf ?_
        | refine Split.tt ?_
        | refine Split.ff ?_
        | refine Indep.go ?_
        | refine CallG.gp h1 ?_
        | refine CallG.gp h2 ?_
        | refine Split.go (fun hc => ?_) fun hc => ?_) <;> conv => whnf)
      exact ret_closed rfl rfl rfl
    | true =>
      rw [e2] at h2
      by_cases e3 : termE f = 0
      · rw [e3] at h3
        have hfn := E_ne e3
        by_cases e4 : f.kind = 148
        · rw [if_neg (by simp [e1, e3, e4])]
          obtain ⟨t1, t2, t3⟩ := termE_ok e3
          unfold tvalueR at e2
          rw [Bool.and_eq_true, decide_eq_true_eq] at e2
          obtain ⟨v1, v2, v3⟩ := termE_ok e2.1
          have h4 := unroll_ok f t1 e4 t2 c (conE_full e1).2 v v1 v2
          repeat' ((first
            | refine then_go hm htt ?_
            | refine Side.go ?_
            | refine Hyp.go fun hlen => ?_
            | refine Split.ct ?_
            | refine Split.cf ?_
            | refine Split.tt ?_
            | refine Split.ff ?_
            | refine Indep.go ?_
            | refine CallG.gp h1 ?_
            | refine CallG.gp h2 ?_
            | refine CallG.gp h3 ?_
            | refine CallG.gp h4 ?_
            | refine Split.go (fun hc => ?_) fun hc => ?_) <;> conv => whnf)
          exact ret_closed rfl rfl rfl
        · rw [if_pos (.inr (.inr (.inr e4)))]
          repeat' ((first
            | refine then_go hm htt ?_
            | refine Side.go ?_
            | refine Hyp.go fun hlen => ?_
            | refine Split.ct ?_
            | refine Split.cf ?_
            | refine Split.tt ?_
            | refine Split.ff ?_
            | refine Indep.go ?_
            | refine CallG.gp h1 ?_
            | refine CallG.gp h2 ?_
            | refine CallG.gp h3 ?_
            | refine Split.go (fun hc => ?_) fun hc => ?_) <;> conv => whnf)
          exact ret_closed rfl rfl rfl
      · rw [if_pos (.inr (.inr (.inl e3)))]
        repeat' ((first
          | refine then_go hm htt ?_
          | refine Side.go ?_
          | refine Hyp.go fun hlen => ?_
          | refine Split.ct ?_
          | refine Split.cf ?_
          | refine Split.tt ?_
          | refine Split.ff ?_
          | refine Indep.go ?_
          | refine CallG.gp h1 ?_
          | refine CallG.gp h2 ?_
          | refine CallG.gp h3 ?_
          | refine Split.go (fun hc => ?_) fun hc => ?_) <;> conv => whnf)
        exact ret_closed rfl rfl rfl
  · rw [if_pos (.inl e1)]
    repeat' ((first
      | refine then_go hm htt ?_
      | refine Side.go ?_
      | refine Hyp.go fun hlen => ?_
      | refine Split.ct ?_
      | refine Split.cf ?_
      | refine Split.tt ?_
      | refine Split.ff ?_
      | refine Indep.go ?_
      | refine CallG.gp h1 ?_
      | refine Split.go (fun hc => ?_) fun hc => ?_) <;> conv => whnf)
    exact ret_closed rfl rfl rfl
set_option maxHeartbeats 4000000 in
set_option maxRecDepth 10000 in
theorem rUnroll_ok (c v f : Tree) : Pure P 15 [.d (.tree c), .d (.tree v), .d (.tree f)] (.tuple [.d (.tree (unrollR c v f).1), .d (.int .i64 (unrollR c v f).2)]) := by
  have h1 := rcheck_ok c
  have h2 := rtValue_ok v
  have h3 := rtCheck_ok f
  refine Pure.of_body tt [] [6, 7] Tryz.func15 rfl rfl rfl (Nat.le_of_ble_eq_true rfl) fun g => ?_
  unfold unrollR
  by_cases e1 : conE c = 0
  · rw [e1] at h1
    cases e2 : tvalueR v with
    | false =>
      rw [if_pos (.inr (.inl rfl))]
      rw [e2] at h2
      repeat' ((first
        | refine then_go hm htt ?_
        | refine Side.go ?_
        | refine Hyp.go fun hlen => ?_
        | refine Split.ct ?_
        | refine Split.cf ?_
        | refine Split.tt ?_
        | refine Split.ff ?_
        | refine Indep.go ?_
        | refine CallG.gp h1 ?_
        | refine CallG.gp h2 ?_
        | refine Split.go (fun hc => ?_) fun hc => ?_) <;> conv => whnf)
      exact ret_closed rfl rfl rfl
    | true =>
      rw [e2] at h2
      by_cases e3 : termE f = 0
      · rw [e3] at h3
        have hfn := E_ne e3
        by_cases e4 : f.kind = 148
        · rw [if_neg (by simp [e1, e3, e4])]
          obtain ⟨t1, t2, t3⟩ := termE_ok e3
          unfold tvalueR at e2
          rw [Bool.and_eq_true, decide_eq_true_eq] at e2
          obtain ⟨v1, v2, v3⟩ := termE_ok e2.1
          have h4 := rolled_ok f t1 e4 t2 c (conE_full e1).2 v v1 v2
          repeat' ((first
            | refine then_go hm htt ?_
            | refine Side.go ?_
            | refine Hyp.go fun hlen => ?_
            | refine Split.ct ?_
            | refine Split.cf ?_
            | refine Split.tt ?_
            | refine Split.ff ?_
            | refine Indep.go ?_
            | refine CallG.gp h1 ?_
            | refine CallG.gp h2 ?_
            | refine CallG.gp h3 ?_
            | refine CallG.gp h4 ?_
            | refine Split.go (fun hc => ?_) fun hc => ?_) <;> conv => whnf)
          exact ret_closed rfl rfl rfl
        · rw [if_pos (.inr (.inr (.inr e4)))]
          repeat' ((first
            | refine then_go hm htt ?_
            | refine Side.go ?_
            | refine Hyp.go fun hlen => ?_
            | refine Split.ct ?_
            | refine Split.cf ?_
            | refine Split.tt ?_
            | refine Split.ff ?_
            | refine Indep.go ?_
            | refine CallG.gp h1 ?_
            | refine CallG.gp h2 ?_
            | refine CallG.gp h3 ?_
            | refine Split.go (fun hc => ?_) fun hc => ?_) <;> conv => whnf)
          exact ret_closed rfl rfl rfl
      · rw [if_pos (.inr (.inr (.inl e3)))]
        repeat' ((first
          | refine then_go hm htt ?_
          | refine Side.go ?_
          | refine Hyp.go fun hlen => ?_
          | refine Split.ct ?_
          | refine Split.cf ?_
          | refine Split.tt ?_
          | refine Split.ff ?_
          | refine Indep.go ?_
          | refine CallG.gp h1 ?_
          | refine CallG.gp h2 ?_
          | refine CallG.gp h3 ?_
          | refine Split.go (fun hc => ?_) fun hc => ?_) <;> conv => whnf)
        exact ret_closed rfl rfl rfl
  · rw [if_pos (.inl e1)]
    repeat' ((first
      | refine then_go hm htt ?_
      | refine Side.go ?_
      | refine Hyp.go fun hlen => ?_
      | refine Split.ct ?_
      | refine Split.cf ?_
      | refine Split.tt ?_
      | refine Split.ff ?_
      | refine Indep.go ?_
      | refine CallG.gp h1 ?_
      | refine Split.go (fun hc => ?_) fun hc => ?_) <;> conv => whnf)
    exact ret_closed rfl rfl rfl
/-! The laws -/
set_option maxHeartbeats 4000000 in
set_option maxRecDepth 10000 in
theorem stepSteps_ok (l : List Cel) : Pure P 3 [.agg [.d (cellsD l)]] (.d (.bool true)) := by
  have hf := few3_ok l
  generalize fewF3 l = T at *
  have h1 := Step_ok T
  have h2 := rStep_ok T
  generalize stepR T = R at *
  refine Pure.of_body tt [] [2] Tryz.func3 rfl rfl rfl (Nat.le_of_ble_eq_true rfl) fun g => ?_
  repeat' ((first
    | refine then_go hm htt ?_
    | refine Side.go ?_
    | refine Hyp.go fun hlen => ?_
    | refine Split.ct ?_
    | refine Split.cf ?_
    | refine Split.tt ?_
    | refine Split.ff ?_
    | refine Indep.go ?_
    | refine Split.of_true (beq_self_eq_true _) ?_
    | refine CallG.gp hf ?_
    | refine CallG.gp h1 ?_
    | refine CallG.gp h2 ?_
    | refine CallG.gp (rsame_self _) ?_
    | refine CallG.gp works16_ok ?_
    | refine Split.go (fun hc => ?_) fun hc => ?_) <;> conv => whnf)
  all_goals exact ret_closed rfl rfl rfl
set_option maxHeartbeats 4000000 in
set_option maxRecDepth 10000 in
theorem stepRuns_ok (l : List Cel) (most : Int) : Pure P 4 [.agg [.d (cellsD l)], .d (.int .i64 most)] (.d (.bool true)) := by
  have hf := few3_ok l
  generalize fewF3 l = T at *
  refine Pure.of_body tt [] [4] Tryz.func4 rfl rfl rfl (Nat.le_of_ble_eq_true rfl) fun g => ?_
  by_cases hm0 : 0 ≤ most
  · have hb := Int.tmod_lt_of_pos most (show (0 : Int) < 200 by omega)
    have h1 := Run_ok T (most.tmod 200) (by omega)
    have h2 := rRun_ok T (most.tmod 200) (by omega)
    generalize runR T (most.tmod 200) = R at *
    repeat' ((first
      | refine then_go hm htt ?_
      | refine Side.go ?_
      | refine Hyp.go fun hlen => ?_
      | refine Split.ct ?_
      | refine Split.cf ?_
      | refine Split.tt ?_
      | refine Split.ff ?_
      | refine Indep.go ?_
      | refine Split.of_true (beq_self_eq_true _) ?_
      | refine CallG.gp hf ?_
      | refine CallG.gp h1 ?_
      | refine CallG.gp h2 ?_
      | refine CallG.gp (rsame_self _) ?_
      | refine CallG.gp works16_ok ?_
      | refine Split.go (fun hc => ?_) fun hc => ?_) <;> conv => whnf)
    all_goals exact ret_closed rfl rfl rfl
  · have h1 := Run_ok T most (by omega)
    have h2 := rRun_ok T most (by omega)
    generalize runR T most = R at *
    repeat' ((first
      | refine then_go hm htt ?_
      | refine Side.go ?_
      | refine Hyp.go fun hlen => ?_
      | refine Split.ct ?_
      | refine Split.cf ?_
      | refine Split.tt ?_
      | refine Split.ff ?_
      | refine Indep.go ?_
      | refine Split.of_true (beq_self_eq_true _) ?_
      | refine CallG.gp hf ?_
      | refine CallG.gp h1 ?_
      | refine CallG.gp h2 ?_
      | refine CallG.gp (rsame_self _) ?_
      | refine CallG.gp works16_ok ?_
      | refine Split.go (fun hc => ?_) fun hc => ?_) <;> conv => whnf)
    all_goals exact ret_closed rfl rfl rfl
set_option maxHeartbeats 4000000 in
set_option maxRecDepth 10000 in
theorem stepUnrolls_ok (l0 l1 l2 : List Cel) : Pure P 5 [.agg [.d (cellsD l0)], .agg [.d (cellsD l1)], .agg [.d (cellsD l2)]] (.d (.bool true)) := by
  have hf0 := few_ok l0
  have hf1 := few3_ok l1
  have hf2 := few3_ok l2
  have h1 := Unroll_ok (fewF l0) (fewF3 l1) (fewF3 l2)
  have h2 := rUnroll_ok (fewF l0) (fewF3 l1) (fewF3 l2)
  generalize unrollR (fewF l0) (fewF3 l1) (fewF3 l2) = R at *
  generalize fewF l0 = C at *
  generalize fewF3 l1 = V at *
  generalize fewF3 l2 = F at *
  refine Pure.of_body tt [] [6] Tryz.func5 rfl rfl rfl (Nat.le_of_ble_eq_true rfl) fun g => ?_
  repeat' ((first
    | refine then_go hm htt ?_
    | refine Side.go ?_
    | refine Hyp.go fun hlen => ?_
    | refine Split.ct ?_
    | refine Split.cf ?_
    | refine Split.tt ?_
    | refine Split.ff ?_
    | refine Indep.go ?_
    | refine Split.of_true (beq_self_eq_true _) ?_
    | refine CallG.gp hf0 ?_
    | refine CallG.gp hf1 ?_
    | refine CallG.gp hf2 ?_
    | refine CallG.gp h1 ?_
    | refine CallG.gp h2 ?_
    | refine CallG.gp (rsame_self _) ?_
    | refine CallG.gp works16_ok ?_
    | refine Split.go (fun hc => ?_) fun hc => ?_) <;> conv => whnf)
  all_goals exact ret_closed rfl rfl rfl
end St
end Go.Proofs.YtoajaklekmbcdaaGreat
