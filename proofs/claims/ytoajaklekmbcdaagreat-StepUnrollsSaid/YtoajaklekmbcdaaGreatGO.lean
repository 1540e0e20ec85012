/- What functions of the program compute, and plain facts about it. -/
import Derived.Test.YtoajaklekmbcdaaGreatGL
import Derived.Test.YtoajaklekmbcdaaGreatGE
import Derived.Test.YtoajaklekmbcdaaGreatGM
set_option linter.all false
namespace Go.Proofs.YtoajaklekmbcdaaGreat
namespace St
open Go Go.Mq Tm Sb
set_option linter.all false

/-! What a step makes of a term. -/
def placeB (k : Int) (p : Nat) : Bool := if k = 135 ∨ k = 145 then decide (p < 2) else if k = 141 ∨ k = 146 then decide (p = 1) else decide (p = 0)
def fieldT (nm : ByteArray) (k : Tree) : Tree := .node 137 0 nm ByteArray.empty [k]
def withT (T : Tree) (i : Nat) (k : Tree) : Tree := .node T.kind T.n T.name T.mark (T.kids.set i (if T.kind = 136 then fieldT (T.kids.getD i .nil).name k else k))
def kidT (T : Tree) (i : Nat) : Tree := T.kids.getD i .nil
def partF (s : ByteArray) : List Tree → Option Tree
  | [] => none
  | x :: l => if x.name = s then some (x.kids.getD 0 .nil) else partF s l
mutual
def rollF (f : Tree) : Tree → Tree → Tree
  | .nil, v => v
  | .node k n nm mk l, v => if k = 110 ∧ n = 0 then withT f 0 v else if k = 115 ∧ v.kind = 136 ∧ l.map Tree.name = v.kids.map Tree.name then .node 136 v.n v.name v.mark (rollsF f l v.kids) else v
def rollsF (f : Tree) : List Tree → List Tree → List Tree
  | [], vs => vs
  | x :: l, vs => fieldT (vs.getD 0 .nil).name (rollI f x ((vs.getD 0 .nil).kids.getD 0 .nil)) :: rollsF f l (vs.drop 1)
def rollI (f : Tree) : Tree → Tree → Tree
  | .nil, v => v
  | .node _ _ _ _ l, v => rollH f l v
def rollH (f : Tree) : List Tree → Tree → Tree
  | [], v => v
  | x :: _, v => rollF f x v
end
theorem rollH_eq (f : Tree) (l : List Tree) (v : Tree) : rollH f l v = rollF f (l.getD 0 .nil) v := by
  cases l with
  | nil => rw [rollH]; simp only [List.getD_nil]; rw [rollF]
  | cons x l => rw [rollH]; rfl
theorem rollI_eq (f x v : Tree) : rollI f x v = rollF f (x.kids.getD 0 .nil) v := by
  cases x with
  | nil => rw [rollI]; simp only [Tree.kids, List.getD_nil]; rw [rollF]
  | node => rw [rollI, rollH_eq]; rfl
theorem rollF_eq {c : Tree} (h : c ≠ .nil) (f v : Tree) : rollF f c v = if c.kind = 110 ∧ c.n = 0 then withT f 0 v else if c.kind = 115 ∧ v.kind = 136 ∧ c.kids.map Tree.name = v.kids.map Tree.name then .node 136 v.n v.name v.mark (rollsF f c.kids v.kids) else v := by
  cases c with
  | nil => exact absurd rfl h
  | node => rw [rollF]; rfl
def foldF (T : Tree) : Tree × Int :=
  if (kidT T 0).kind ≠ 146 then (.nil, 20)
  else if (No.normR (kidT (kidT T 0) 0)).2 ≠ 0 then (.nil, (No.normR (kidT (kidT T 0) 0)).2)
  else if (No.normR (kidT (kidT T 0) 0)).1.kind ≠ 121 ∨ partF (kidT T 0).name (T.kids.drop 2) = none ∨ partF (kidT T 0).name (No.normR (kidT (kidT T 0) 0)).1.kids = none then (.nil, 20)
  else if termE (.node 143 0 ByteArray.empty ByteArray.empty [rollF T (oT (partF (kidT T 0).name (No.normR (kidT (kidT T 0) 0)).1.kids)) (kidT (kidT T 0) 1), oT (partF (kidT T 0).name (T.kids.drop 2))]) ≠ 0 then
    (.nil, termE (.node 143 0 ByteArray.empty ByteArray.empty [rollF T (oT (partF (kidT T 0).name (No.normR (kidT (kidT T 0) 0)).1.kids)) (kidT (kidT T 0) 1), oT (partF (kidT T 0).name (T.kids.drop 2))]))
  else (.node 143 0 ByteArray.empty ByteArray.empty [rollF T (oT (partF (kidT T 0).name (No.normR (kidT (kidT T 0) 0)).1.kids)) (kidT (kidT T 0) 1), oT (partF (kidT T 0).name (T.kids.drop 2))], 0)
def numN (n : Int) : Tree := .node 131 n ByteArray.empty ByteArray.empty []
def boolN (b : Bool) : Tree := .node 132 (if b then 1 else 0) ByteArray.empty ByteArray.empty []
def sumF (n a b : Int) : Int := IntKind.i64.wrap (if n = 1 then a + b else if n = 2 then a - b else a * b)
def opF (T : Tree) : Tree × Int :=
  if (kidT T 0).kind ≠ 131 ∨ (kidT T 1).kind ≠ 131 then (.nil, 20)
  else if T.n = 4 then (boolN (decide ((kidT T 0).n = (kidT T 1).n)), 0)
  else if T.n = 5 then (boolN (decide ((kidT T 0).n < (kidT T 1).n)), 0)
  else if sumF T.n (kidT T 0).n (kidT T 1).n < -1073741824 ∨ 1073741824 < sumF T.n (kidT T 0).n (kidT T 1).n then (.nil, 19)
  else (numN (sumF T.n (kidT T 0).n (kidT T 1).n), 0)
def goesF (T : Tree) : Tree × Int :=
  if T.kind = 135 then (if (kidT T 0).kind = 134 then termR (kidT (kidT T 0) 1) 0 (kidT T 1) else (.nil, 20))
  else if T.kind = 140 then (if (kidT T 0).kind = 139 then conR (kidT (kidT T 0) 1) 0 (kidT T 1) else (.nil, 20))
  else if T.kind = 138 then (if (kidT T 0).kind = 136 ∧ (partF T.name (kidT T 0).kids).isSome = true then (oT (partF T.name (kidT T 0).kids), 0) else (.nil, 20))
  else if T.kind = 144 then (if (kidT T 0).kind = 132 then (if (kidT T 0).n = 1 then (kidT T 1, 0) else (kidT T 2, 0)) else (.nil, 20))
  else if T.kind = 142 then (if (kidT T 0).kind = 141 then (if (termR (kidT T 1) 0 (kidT (kidT T 0) 1)).2 ≠ 0 then (.nil, (termR (kidT T 1) 0 (kidT (kidT T 0) 1)).2) else conR (termR (kidT T 1) 0 (kidT (kidT T 0) 1)).1 0 (kidT (kidT T 0) 0)) else (.nil, 20))
  else if T.kind = 143 then termR (kidT T 1) 0 (kidT T 0)
  else if T.kind = 145 then opF T
  else if T.kind = 147 then (if (kidT T 0).kind = 146 ∧ (partF (kidT T 0).name (T.kids.drop 1)).isSome = true then termR (oT (partF (kidT T 0).name (T.kids.drop 1))) 0 (kidT (kidT T 0) 1) else (.nil, 20))
  else if T.kind = 148 then foldF T
  else (.nil, 20)
mutual
def stF : Tree → Tree × Int
  | .nil => (.nil, 20)
  | .node k n nm mk l => match (if k = 136 then stsR 0 l else stsK k 0 l) with
    | some (p, m, e) => if e ≠ 0 then (.nil, e) else (withT (.node k n nm mk l) p m, 0)
    | none => goesF (.node k n nm mk l)
def stsK (k : Int) (p : Nat) : List Tree → Option (Nat × Tree × Int)
  | [] => none
  | x :: l => if placeB k p = true ∧ valueF x = false then some (p, stF x) else stsK k (p + 1) l
def stsR (p : Nat) : List Tree → Option (Nat × Tree × Int)
  | [] => none
  | x :: l => if valueF (x.kids.getD 0 .nil) = false then some (p, stI x) else stsR (p + 1) l
def stI : Tree → Tree × Int
  | .nil => (.nil, 20)
  | .node _ _ _ _ l => stH l
def stH : List Tree → Tree × Int
  | [] => (.nil, 20)
  | x :: _ => stF x
end
theorem stI_eq (x : Tree) : stI x = stF (x.kids.getD 0 .nil) := by
  cases x with
  | nil => rw [stI]; simp only [Tree.kids, List.getD_nil]; rw [stF]
  | node k n nm mk l =>
    rw [stI]
    cases l with
    | nil => rw [stH]; simp only [Tree.kids, List.getD_nil]; rw [stF]
    | cons x l => rw [stH]; rfl
theorem stF_eq {T : Tree} (h : T ≠ .nil) : stF T = match (if T.kind = 136 then stsR 0 T.kids else stsK T.kind 0 T.kids) with
    | some (p, m, e) => if e ≠ 0 then (.nil, e) else (withT T p m, 0)
    | none => goesF T := by
  cases T with
  | nil => exact absurd rfl h
  | node => rw [stF]; rfl
def stepR (T : Tree) : Tree × Bool × Int :=
  if termE T ≠ 0 then (.nil, false, termE T) else if closedF T = false then (.nil, false, 2) else if valueF T = true then (T, false, 0)
  else if (stF T).2 ≠ 0 then (.nil, false, (stF T).2) else if termE (stF T).1 ≠ 0 then (.nil, false, termE (stF T).1) else ((stF T).1, true, 0)
def runF : Nat → Tree → Int → Tree × Int × Int
  | 0, T, s => if (stepR T).2.2 ≠ 0 then (.nil, s, (stepR T).2.2) else if (stepR T).2.1 = false then (T, s, 0) else (.nil, s, 18)
  | k + 1, T, s => if (stepR T).2.2 ≠ 0 then (.nil, s, (stepR T).2.2) else if (stepR T).2.1 = false then (T, s, 0) else runF k (stepR T).1 (s + 1)
def runR (T : Tree) (most : Int) : Tree × Int × Int := if most < 0 then (.nil, 0, 2) else runF most.toNat T 0
def unrollR (c v f : Tree) : Tree × Int := if conE c ≠ 0 ∨ tvalueR v = false ∨ termE f ≠ 0 ∨ f.kind ≠ 148 then (.nil, 16) else (rollF f c v, 0)
end St
end Go.Proofs.YtoajaklekmbcdaaGreat

namespace Go.Proofs.YtoajaklekmbcdaaGreat
namespace St
open Go Go.Mq Tm Sb
set_option linter.all false

/-! What forms the parts of a term have -/
theorem term_ne {T : Tree} (h : isTermF T = true) : T ≠ .nil := by intro e; subst e; rw [isTermF] at h; cases h
theorem term_xx {T : Tree} (h : isTermF T = true) (hk : T.kind = 135 ∨ T.kind = 142 ∨ T.kind = 143 ∨ T.kind = 145) : T.kids.length = 2 ∧ isTermF (T.kids.getD 0 .nil) = true ∧ isTermF (T.kids.getD 1 .nil) = true := by
  rw [isTermF_eq (term_ne h), Bool.and_eq_true, if_neg (by omega), if_neg (by omega), if_neg (by omega), if_pos hk] at h
  have h := h.2
  simp only [Bool.and_eq_true, decide_eq_true_eq] at h
  exact ⟨h.1.1, h.1.2, h.2⟩
theorem term_cx {T : Tree} (h : isTermF T = true) (hk : T.kind = 134 ∨ T.kind = 146) : T.kids.length = 2 ∧ isConF (T.kids.getD 0 .nil) = true ∧ isTermF (T.kids.getD 1 .nil) = true := by
  rw [isTermF_eq (term_ne h), Bool.and_eq_true, if_neg (by omega), if_pos hk] at h
  have h := h.2
  simp only [Bool.and_eq_true, decide_eq_true_eq] at h
  exact ⟨h.1.1, h.1.2, h.2⟩
theorem term_kx {T : Tree} (h : isTermF T = true) (hk : T.kind = 139) : T.kids.length = 2 ∧ isKindF (T.kids.getD 0 .nil) = true ∧ isTermF (T.kids.getD 1 .nil) = true := by
  rw [isTermF_eq (term_ne h), Bool.and_eq_true, if_neg (by omega), if_neg (by omega), if_pos hk] at h
  have h := h.2
  simp only [Bool.and_eq_true, decide_eq_true_eq] at h
  exact ⟨h.1.1, h.1.2, h.2⟩
theorem term_f {T : Tree} (h : isTermF T = true) (hk : T.kind = 136) : (∀ x ∈ T.kids, tfieldF 137 x = true) ∧ pairsF true [] T.kids = true := by
  rw [isTermF_eq (term_ne h), Bool.and_eq_true, if_neg (by omega), if_neg (by omega), if_neg (by omega), if_neg (by omega), if_pos hk] at h
  have h := h.2
  simp only [Bool.and_eq_true, decide_eq_true_eq] at h
  exact ⟨tfieldsF_mem h.1, h.2⟩
theorem term_x {T : Tree} (h : isTermF T = true) (hk : T.kind = 138) : T.kids.length = 1 ∧ isTermF (T.kids.getD 0 .nil) = true := by
  rw [isTermF_eq (term_ne h), Bool.and_eq_true, if_neg (by omega), if_neg (by omega), if_neg (by omega), if_neg (by omega), if_neg (by omega), if_pos hk] at h
  have h := h.2
  simp only [Bool.and_eq_true, decide_eq_true_eq] at h
  exact ⟨h.1, h.2⟩
theorem term_xc {T : Tree} (h : isTermF T = true) (hk : T.kind = 140) : T.kids.length = 2 ∧ isTermF (T.kids.getD 0 .nil) = true ∧ isConF (T.kids.getD 1 .nil) = true := by
  rw [isTermF_eq (term_ne h), Bool.and_eq_true, if_neg (by omega), if_neg (by omega), if_neg (by omega), if_neg (by omega), if_neg (by omega), if_neg (by omega), if_pos hk] at h
  have h := h.2
  simp only [Bool.and_eq_true, decide_eq_true_eq] at h
  exact ⟨h.1.1, h.1.2, h.2⟩
theorem term_cxc {T : Tree} (h : isTermF T = true) (hk : T.kind = 141) : T.kids.length = 3 ∧ isConF (T.kids.getD 0 .nil) = true ∧ isTermF (T.kids.getD 1 .nil) = true ∧ isConF (T.kids.getD 2 .nil) = true := by
  rw [isTermF_eq (term_ne h), Bool.and_eq_true, if_neg (by omega), if_neg (by omega), if_neg (by omega), if_neg (by omega), if_neg (by omega), if_neg (by omega), if_neg (by omega), if_pos hk] at h
  have h := h.2
  simp only [Bool.and_eq_true, decide_eq_true_eq] at h
  exact ⟨h.1.1.1, h.1.1.2, h.1.2, h.2⟩
theorem term_xxx {T : Tree} (h : isTermF T = true) (hk : T.kind = 144) : T.kids.length = 3 ∧ isTermF (T.kids.getD 0 .nil) = true ∧ isTermF (T.kids.getD 1 .nil) = true ∧ isTermF (T.kids.getD 2 .nil) = true := by
  rw [isTermF_eq (term_ne h), Bool.and_eq_true, if_neg (by omega), if_neg (by omega), if_neg (by omega), if_neg (by omega), if_neg (by omega), if_neg (by omega), if_neg (by omega), if_neg (by omega), if_pos hk] at h
  have h := h.2
  simp only [Bool.and_eq_true, decide_eq_true_eq] at h
  exact ⟨h.1.1.1, h.1.1.2, h.1.2, h.2⟩
theorem term_xa {T : Tree} (h : isTermF T = true) (hk : T.kind = 147) : 1 < T.kids.length ∧ isTermF (T.kids.getD 0 .nil) = true ∧ ∀ x ∈ T.kids.drop 1, tfieldF 149 x = true := by
  rw [isTermF_eq (term_ne h), Bool.and_eq_true, if_neg (by omega), if_neg (by omega), if_neg (by omega), if_neg (by omega), if_neg (by omega), if_neg (by omega), if_neg (by omega), if_neg (by omega), if_neg (by omega), if_pos hk] at h
  have h := h.2
  simp only [Bool.and_eq_true, decide_eq_true_eq] at h
  exact ⟨h.1.1.1, h.1.1.2, tfieldsF_mem h.1.2⟩
theorem term_xca {T : Tree} (h : isTermF T = true) (hk : T.kind = 148) : 2 < T.kids.length ∧ isTermF (T.kids.getD 0 .nil) = true ∧ isConF (T.kids.getD 1 .nil) = true ∧ ∀ x ∈ T.kids.drop 2, tfieldF 149 x = true := by
  rw [isTermF_eq (term_ne h), Bool.and_eq_true, if_neg (by omega), if_neg (by omega), if_neg (by omega), if_neg (by omega), if_neg (by omega), if_neg (by omega), if_neg (by omega), if_neg (by omega), if_neg (by omega), if_neg (by omega), if_pos hk] at h
  have h := h.2
  simp only [Bool.and_eq_true, decide_eq_true_eq] at h
  exact ⟨h.1.1.1.1, h.1.1.1.2, h.1.1.2, tfieldsF_mem h.1.2⟩
theorem term_leaf {T : Tree} (h : isTermF T = true) (hk : T.kind = 130 ∨ T.kind = 131 ∨ T.kind = 132 ∨ T.kind = 133) : T.kids.length = 0 := by
  rw [isTermF_eq (term_ne h), Bool.and_eq_true, if_pos hk] at h
  exact of_decide_eq_true h.2

/-! The walk: small ones -/
def plcF (T : Tree) : Nat × Nat := if T.kind = 135 ∨ T.kind = 145 then (0, 2) else if T.kind = 136 then (0, T.kids.length) else if T.kind = 141 ∨ T.kind = 146 then (1, 2) else (0, 1)
set_option maxRecDepth 10000 in
theorem places_ok (T : Tree) (hT : T ≠ .nil) : Pure P 39 [.d (.tree T)] (.tuple [.d (.int .i64 (plcF T).1), .d (.int .i64 (plcF T).2)]) := by
  refine Pure.of_body tt [] [2, 3] Tryz.func39 rfl rfl rfl (Nat.le_of_ble_eq_true rfl) fun g => ?_
  unfold plcF
  by_cases k1 : T.kind = 135 ∨ T.kind = 145
  · rw [if_pos k1]
    repeat' ((first
      | refine then_go hm htt ?_
      | refine Side.go ?_
      | refine Hyp.go fun hlen => ?_
      | refine Split.ct ?_
      | refine Split.cf ?_
      | refine Split.tt ?_
      | refine Split.ff ?_
      | refine Indep.go ?_
      | refine Split.go (fun hc => ?_) fun hc => ?_) <;> conv => whnf)
    all_goals exact ret_closed rfl rfl rfl
  rw [if_neg k1]
  by_cases k2 : T.kind = 136
  · rw [if_pos k2]
    repeat' ((first
      | refine then_go hm htt ?_
      | refine Side.go ?_
      | refine Hyp.go fun hlen => ?_
      | refine Split.ct ?_
      | refine Split.cf ?_
      | refine Split.tt ?_
      | refine Split.ff ?_
      | refine Indep.go ?_
      | refine Split.go (fun hc => ?_) fun hc => ?_) <;> conv => whnf)
    all_goals exact ret_closed rfl rfl rfl
  rw [if_neg k2]
  by_cases k3 : T.kind = 141 ∨ T.kind = 146
  · rw [if_pos k3]
    repeat' ((first
      | refine then_go hm htt ?_
      | refine Side.go ?_
      | refine Hyp.go fun hlen => ?_
      | refine Split.ct ?_
      | refine Split.cf ?_
      | refine Split.tt ?_
      | refine Split.ff ?_
      | refine Indep.go ?_
      | refine Split.go (fun hc => ?_) fun hc => ?_) <;> conv => whnf)
    all_goals exact ret_closed rfl rfl rfl
  · rw [if_neg k3]
    repeat' ((first
      | refine then_go hm htt ?_
      | refine Side.go ?_
      | refine Hyp.go fun hlen => ?_
      | refine Split.ct ?_
      | refine Split.cf ?_
      | refine Split.tt ?_
      | refine Split.ff ?_
      | refine Indep.go ?_
      | refine Split.go (fun hc => ?_) fun hc => ?_) <;> conv => whnf)
    all_goals exact ret_closed rfl rfl rfl
def inF (T : Tree) (i : Nat) : Tree := if T.kind = 136 then (T.kids.getD i .nil).kids.getD 0 .nil else T.kids.getD i .nil
set_option maxRecDepth 10000 in
theorem inner_ok (T : Tree) (hT : T ≠ .nil) (i : Nat) (hi : i < T.kids.length) (h : T.kind = 136 → T.kids.getD i .nil ≠ .nil ∧ 0 < (T.kids.getD i .nil).kids.length) : Pure P 40 [.d (.tree T), .d (.int .i64 i)] (.d (.tree (inF T i))) := by
  refine Pure.of_body tt [] [4] Tryz.func40 rfl rfl rfl (Nat.le_of_ble_eq_true rfl) fun g => ?_
  unfold inF
  by_cases k : T.kind = 136
  · rw [if_pos k]
    obtain ⟨h1, h2⟩ := h k
    repeat' ((first
      | refine then_go hm htt ?_
      | refine Side.go ?_
      | refine Hyp.go fun hlen => ?_
      | refine Split.ct ?_
      | refine Split.cf ?_
      | refine Split.tt ?_
      | refine Split.ff ?_
      | refine Indep.go ?_
      | refine Side.mk (show (0 : Int) ≤ (i : Int) ∧ (i : Int) < (T.kids.length : Int) from ⟨by omega, by omega⟩) ?_
      | refine Side.mk (show (0 : Int) ≤ 0 ∧ (0 : Int) < ((T.kids.getD i .nil).kids.length : Int) from ⟨by omega, by omega⟩) ?_
      | refine Side.mk h1 ?_
      | refine Split.go (fun hc => ?_) fun hc => ?_) <;> conv => whnf)
    exact ret_closed rfl rfl rfl
  · rw [if_neg k]
    repeat' ((first
      | refine then_go hm htt ?_
      | refine Side.go ?_
      | refine Hyp.go fun hlen => ?_
      | refine Split.ct ?_
      | refine Split.cf ?_
      | refine Split.tt ?_
      | refine Split.ff ?_
      | refine Indep.go ?_
      | refine Side.mk (show (0 : Int) ≤ (i : Int) ∧ (i : Int) < (T.kids.length : Int) from ⟨by omega, by omega⟩) ?_
      | refine Split.go (fun hc => ?_) fun hc => ?_) <;> conv => whnf)
    exact ret_closed rfl rfl rfl
set_option maxHeartbeats 4000000 in
set_option maxRecDepth 10000 in
theorem with_ok (T : Tree) (hT : T ≠ .nil) (i : Nat) (hi : i < T.kids.length) (hl : T.kids.length ≤ 17592186044416) (h : T.kind = 136 → T.kids.getD i .nil ≠ .nil) (K : Tree) : Pure P 41 [.d (.tree T), .d (.int .i64 i), .d (.tree K)] (.d (.tree (withT T i K))) := by
  have hcl := No.clone_ok T.kids (by intro h; rw [h] at hi; simp at hi) hl
  refine Pure.of_body tt [33, 35] [6] Tryz.func41 rfl rfl rfl (Nat.le_of_ble_eq_true rfl) fun g => ?_
  unfold withT
  by_cases k : T.kind = 136
  · rw [if_pos k]
    have h1 := h k
    repeat' ((first
      | refine then_go hm htt ?_
      | refine Side.go ?_
      | refine Hyp.go fun hlen => ?_
      | refine Split.ct ?_
      | refine Split.cf ?_
      | refine Split.tt ?_
      | refine Split.ff ?_
      | refine Indep.go ?_
      | refine CallG.go hcl [] ?_
      | refine Side.mk (show (0 : Int) ≤ (i : Int) ∧ (i : Int) < (T.kids.length : Int) from ⟨by omega, by omega⟩) ?_
      | refine Side.mk (show (i : Int).toNat * 1 < T.kids.length from by omega) ?_
      | refine Side.mk h1 ?_
      | refine Split.go (fun hc => ?_) fun hc => ?_) <;> conv => whnf)
    have hp2 : (T.kids.set (i * 1) (fieldT (T.kids.getD i .nil).name K)).length = T.kids.length := by simp
    refine RetS.ent (σ' := ⟨[(6, .ref 0 0)], 41, [(0, .cells [.d (.int .i64 T.kind), .d (.int .i64 T.n), .d (.str T.name), .d (.str T.mark), .row 1 T.kids.length]), (1, .row 25 (.trees (T.kids.set (i * 1) (fieldT (T.kids.getD i .nil).name K))))], 2, g⟩) (Ent.go [0, 1]) ?_
    refine RetS.ent (Ent.fz_row 1 (l := T.kids.set (i * 1) (fieldT (T.kids.getD i .nil).name K)) rfl (by repeat' first | exact trivial | apply And.intro | rfl | exact hp2.symm | exact Nat.zero_lt_one | omega) (by repeat' first | exact trivial | apply And.intro | rfl | exact hp2.symm | exact Nat.zero_lt_one | omega)) ?_
    refine RetS.ent (Ent.fz_node 0 rfl rfl (by repeat' first | exact trivial | apply And.intro | rfl | exact hp2.symm | exact Nat.zero_lt_one | omega) (by repeat' first | exact trivial | apply And.intro | rfl | exact hp2.symm | exact Nat.zero_lt_one | omega)) ?_
    exact ret_closed rfl (tree_eq (by rw [Nat.mul_one])) rfl
  · rw [if_neg k]
    repeat' ((first
      | refine then_go hm htt ?_
      | refine Side.go ?_
      | refine Hyp.go fun hlen => ?_
      | refine Split.ct ?_
      | refine Split.cf ?_
      | refine Split.tt ?_
      | refine Split.ff ?_
      | refine Indep.go ?_
      | refine CallG.go hcl [] ?_
      | refine Side.mk (show (0 : Int) ≤ (i : Int) ∧ (i : Int) < (T.kids.length : Int) from ⟨by omega, by omega⟩) ?_
      | refine Side.mk (show (i : Int).toNat * 1 < T.kids.length from by omega) ?_
      | refine Split.go (fun hc => ?_) fun hc => ?_) <;> conv => whnf)
    have hp2 : (T.kids.set (i * 1) K).length = T.kids.length := by simp
    refine RetS.ent (σ' := ⟨[(6, .ref 0 0)], 41, [(0, .cells [.d (.int .i64 T.kind), .d (.int .i64 T.n), .d (.str T.name), .d (.str T.mark), .row 1 T.kids.length]), (1, .row 25 (.trees (T.kids.set (i * 1) K)))], 2, g⟩) (Ent.go [0, 1]) ?_
    refine RetS.ent (Ent.fz_row 1 (l := T.kids.set (i * 1) K) rfl (by repeat' first | exact trivial | apply And.intro | rfl | exact hp2.symm | exact Nat.zero_lt_one | omega) (by repeat' first | exact trivial | apply And.intro | rfl | exact hp2.symm | exact Nat.zero_lt_one | omega)) ?_
    refine RetS.ent (Ent.fz_node 0 rfl rfl (by repeat' first | exact trivial | apply And.intro | rfl | exact hp2.symm | exact Nat.zero_lt_one | omega) (by repeat' first | exact trivial | apply And.intro | rfl | exact hp2.symm | exact Nat.zero_lt_one | omega)) ?_
    exact ret_closed rfl (tree_eq (by rw [Nat.mul_one])) rfl
set_option maxRecDepth 10000 in
theorem kid_ok (T : Tree) (hT : T ≠ .nil) (i : Nat) (hi : i < T.kids.length) (hn : kidT T i ≠ .nil) (kind : Int) : Pure P 68 [.d (.tree T), .d (.int .i64 i), .d (.int .i64 kind)] (.tuple [.d (.tree (kidT T i)), .d (.bool (decide ((kidT T i).kind = kind)))]) := by
  unfold kidT at *
  refine Pure.of_body tt [] [6, 7] Tryz.func68 rfl rfl rfl (Nat.le_of_ble_eq_true rfl) fun g => ?_
  repeat' ((first
    | refine then_go hm htt ?_
    | refine Side.go ?_
    | refine Hyp.go fun hlen => ?_
    | refine Split.ct ?_
    | refine Split.cf ?_
    | refine Split.tt ?_
    | refine Split.ff ?_
    | refine Indep.go ?_
    | refine Side.mk (show (0 : Int) ≤ (i : Int) ∧ (i : Int) < (T.kids.length : Int) from ⟨by omega, by omega⟩) ?_
    | refine Side.mk hn ?_
    | refine Split.go (fun hc => ?_) fun hc => ?_) <;> conv => whnf)
  exact ret_closed rfl (tup2 rfl (bool_eq (by rw [int_dec]; rfl))) rfl
theorem partF_drop {s : ByteArray} {l : List Tree} {p : Nat} (h : p < l.length) (hn : (l.getD p .nil).name ≠ s) : partF s (l.drop p) = partF s (l.drop (p + 1)) := by
  rw [drop_step h, partF, if_neg hn]
set_option maxRecDepth 10000 in
theorem part_ok (l : List Tree) (s : ByteArray) (h : ∀ x ∈ l, x ≠ .nil ∧ 0 < x.kids.length) : Pure P 71 [.d (.trees l), .d (.str s)] (.tuple [.d (.tree (oT (partF s l))), .d (.bool (partF s l).isSome)]) := by
  refine Pure.of_body tt [] [4, 5] Tryz.func71 rfl rfl rfl (Nat.le_of_ble_eq_true rfl) fun g => ?_
  repeat' ((first
    | refine then_go hm htt ?_
    | refine Side.go ?_
    | refine Hyp.go fun hlen => ?_
    | refine Split.ct ?_
    | refine Split.cf ?_
    | refine Split.tt ?_
    | refine Split.ff ?_
    | refine Indep.go ?_
    | refine Split.go (fun hc => ?_) fun hc => ?_) <;> conv => whnf)
  refine loop_go (α := Nat) (fun p => ⟨[(1, .d (.str s)), (8, .d (.trees l)), (9, .d (.int .i64 l.length)), (10, .d (.int .i64 p))], 27, [], 0, g⟩) (fun p => p ≤ l.length ∧ partF s (l.drop p) = partF s l) (fun p => l.length - p) 0 ⟨by omega, rfl⟩
    (Ent.go []) (fun _ => rfl) fun p hpre => ?_
  obtain ⟨hp1, hp2⟩ := hpre
  by_cases hlt : p < l.length
  · obtain ⟨h1, h2⟩ := h _ (getD_mem hlt)
    by_cases hs : (l.getD p .nil).name = s
    · rw [drop_step hlt, partF, if_pos hs] at hp2
      rw [← hp2]
      repeat' ((first
        | refine then_go hm htt ?_
        | refine Side.go ?_
        | refine Hyp.go fun hlen => ?_
        | refine Split.ct ?_
        | refine Split.cf ?_
        | refine Split.tt ?_
        | refine Split.ff ?_
        | refine Indep.go ?_
        | refine Side.mk (show (0 : Int) ≤ (p : Int) ∧ (p : Int) < (l.length : Int) from ⟨by omega, by omega⟩) ?_
        | refine Side.mk h1 ?_
        | refine Side.mk (show (0 : Int) ≤ 0 ∧ (0 : Int) < ((l.getD p .nil).kids.length : Int) from ⟨by omega, by omega⟩) ?_
        | refine Split.go (fun hc => ?_) fun hc => ?_) <;> conv => whnf)
      exact ret_closed rfl rfl rfl
    · rw [partF_drop hlt hs] at hp2
      repeat' ((first
        | refine then_go hm htt ?_
        | refine Side.go ?_
        | refine Hyp.go fun hlen => ?_
        | refine Split.ct ?_
        | refine Split.cf ?_
        | refine Split.tt ?_
        | refine Split.ff ?_
        | refine Indep.go ?_
        | refine Side.mk (show (0 : Int) ≤ (p : Int) ∧ (p : Int) < (l.length : Int) from ⟨by omega, by omega⟩) ?_
        | refine Side.mk h1 ?_
        | refine Split.go (fun hc => ?_) fun hc => ?_) <;> conv => whnf)
      exact ⟨p + 1, ⟨by omega, hp2⟩, by omega, Ent.go []⟩
  · rw [drop_end (by omega), partF] at hp2
    rw [← hp2]
    repeat' ((first
      | refine then_go hm htt ?_
      | refine Side.go ?_
      | refine Hyp.go fun hlen => ?_
      | refine Split.ct ?_
      | refine Split.cf ?_
      | refine Split.tt ?_
      | refine Split.ff ?_
      | refine Indep.go ?_
      | refine Split.go (fun hc => ?_) fun hc => ?_) <;> conv => whnf)
    exact ret_closed rfl rfl rfl
end St
end Go.Proofs.YtoajaklekmbcdaaGreat

namespace Go.Proofs.YtoajaklekmbcdaaGreat
namespace St
open Go Go.Mq Tm Sb
set_option linter.all false

/-! The walk: an operation, a value unrolled -/
theorem tup2s {a b : Tree} {x y : Int} (h1 : a = b) (h2 : x = y) : AVal.tuple [.d (.tree a), .d (.int .i64 x)] = .tuple [.d (.tree b), .d (.int .i64 y)] := by rw [h1, h2]
set_option maxHeartbeats 4000000 in
set_option maxRecDepth 10000 in
theorem op_ok (T : Tree) (hT : T ≠ .nil) (hl : T.kids.length = 2) (h0 : kidT T 0 ≠ .nil) (h1 : kidT T 1 ≠ .nil) (hn : 1 ≤ T.n ∧ T.n ≤ 5) : Pure P 72 [.d (.tree T)] (.tuple [.d (.tree (opF T).1), .d (.int .i64 (opF T).2)]) := by
  have k0 := kid_ok T hT 0 (by omega) h0 131
  have k1 := kid_ok T hT 1 (by omega) h1 131
  refine Pure.of_body tt [91] [2, 3] Tryz.func72 rfl rfl rfl (Nat.le_of_ble_eq_true rfl) fun g => ?_
  unfold opF
  generalize kidT T 0 = A at *
  generalize kidT T 1 = B at *
  by_cases c0 : A.kind = 131
  · rw [decide_eq_true c0] at k0
    by_cases c1 : B.kind = 131
    · rw [decide_eq_true c1] at k1
      rw [if_neg (by omega)]
      by_cases n4 : T.n = 4
      · rw [if_pos n4]
        by_cases q : A.n = B.n
        · rw [decide_eq_true q]
          repeat' ((first
            | refine then_go hm htt ?_
            | refine Side.go ?_
            | refine Hyp.go fun hlen => ?_
            | refine Split.ct ?_
            | refine Split.cf ?_
            | refine Split.tt ?_
            | refine Split.ff ?_
            | refine Indep.go ?_
            | refine CallG.gp k0 ?_
            | refine CallG.gp k1 ?_
            | refine Side.mk h0 ?_
            | refine Side.mk h1 ?_
            | refine Split.go (fun hc => ?_) fun hc => ?_) <;> conv => whnf)
          refine RetS.ent (σ' := ⟨[(2, .ref 0 0), (3, .d (.int .i64 0))], 92, [(0, .cells [.d (.int .i64 132), .d (.int .i64 1), .d (.str ByteArray.empty), .d (.str ByteArray.empty), .d .nils])], 1, g⟩) (Ent.go [0]) ?_
          refine RetS.ent (Ent.fz_node 0 rfl rfl (by repeat' first | exact trivial | apply And.intro | rfl | exact hp2.symm | exact Nat.zero_lt_one | omega) (by repeat' first | exact trivial | apply And.intro | rfl | exact hp2.symm | exact Nat.zero_lt_one | omega)) ?_
          exact ret_closed rfl rfl rfl
        · rw [decide_eq_false q]
          repeat' ((first
            | refine then_go hm htt ?_
            | refine Side.go ?_
            | refine Hyp.go fun hlen => ?_
            | refine Split.ct ?_
            | refine Split.cf ?_
            | refine Split.tt ?_
            | refine Split.ff ?_
            | refine Indep.go ?_
            | refine CallG.gp k0 ?_
            | refine CallG.gp k1 ?_
            | refine Side.mk h0 ?_
            | refine Side.mk h1 ?_
            | refine Split.go (fun hc => ?_) fun hc => ?_) <;> conv => whnf)
          refine RetS.ent (σ' := ⟨[(2, .ref 0 0), (3, .d (.int .i64 0))], 92, [(0, .cells [.d (.int .i64 132), .d (.int .i64 0), .d (.str ByteArray.empty), .d (.str ByteArray.empty), .d .nils])], 1, g⟩) (Ent.go [0]) ?_
          refine RetS.ent (Ent.fz_node 0 rfl rfl (by repeat' first | exact trivial | apply And.intro | rfl | exact hp2.symm | exact Nat.zero_lt_one | omega) (by repeat' first | exact trivial | apply And.intro | rfl | exact hp2.symm | exact Nat.zero_lt_one | omega)) ?_
          exact ret_closed rfl rfl rfl
      · rw [if_neg n4]
        by_cases n5 : T.n = 5
        · rw [if_pos n5]
          by_cases q : A.n < B.n
          · rw [decide_eq_true q]
            repeat' ((first
              | refine then_go hm htt ?_
              | refine Side.go ?_
              | refine Hyp.go fun hlen => ?_
              | refine Split.ct ?_
              | refine Split.cf ?_
              | refine Split.tt ?_
              | refine Split.ff ?_
              | refine Indep.go ?_
              | refine CallG.gp k0 ?_
              | refine CallG.gp k1 ?_
              | refine Side.mk h0 ?_
              | refine Side.mk h1 ?_
              | refine Split.go (fun hc => ?_) fun hc => ?_) <;> conv => whnf)
            refine RetS.ent (σ' := ⟨[(2, .ref 0 0), (3, .d (.int .i64 0))], 92, [(0, .cells [.d (.int .i64 132), .d (.int .i64 1), .d (.str ByteArray.empty), .d (.str ByteArray.empty), .d .nils])], 1, g⟩) (Ent.go [0]) ?_
            refine RetS.ent (Ent.fz_node 0 rfl rfl (by repeat' first | exact trivial | apply And.intro | rfl | exact hp2.symm | exact Nat.zero_lt_one | omega) (by repeat' first | exact trivial | apply And.intro | rfl | exact hp2.symm | exact Nat.zero_lt_one | omega)) ?_
            exact ret_closed rfl rfl rfl
          · rw [decide_eq_false q]
            repeat' ((first
              | refine then_go hm htt ?_
              | refine Side.go ?_
              | refine Hyp.go fun hlen => ?_
              | refine Split.ct ?_
              | refine Split.cf ?_
              | refine Split.tt ?_
              | refine Split.ff ?_
              | refine Indep.go ?_
              | refine CallG.gp k0 ?_
              | refine CallG.gp k1 ?_
              | refine Side.mk h0 ?_
              | refine Side.mk h1 ?_
              | refine Split.go (fun hc => ?_) fun hc => ?_) <;> conv => whnf)
            refine RetS.ent (σ' := ⟨[(2, .ref 0 0), (3, .d (.int .i64 0))], 92, [(0, .cells [.d (.int .i64 132), .d (.int .i64 0), .d (.str ByteArray.empty), .d (.str ByteArray.empty), .d .nils])], 1, g⟩) (Ent.go [0]) ?_
            refine RetS.ent (Ent.fz_node 0 rfl rfl (by repeat' first | exact trivial | apply And.intro | rfl | exact hp2.symm | exact Nat.zero_lt_one | omega) (by repeat' first | exact trivial | apply And.intro | rfl | exact hp2.symm | exact Nat.zero_lt_one | omega)) ?_
            exact ret_closed rfl rfl rfl
        · rw [if_neg n5]
          have n3 : T.n = 1 ∨ T.n = 2 ∨ T.n = 3 := by omega
          rcases n3 with n1 | n1 | n1
          · have e : sumF T.n A.n B.n = IntKind.i64.wrap (A.n + B.n) := by rw [n1]; rfl
            rw [e]
            by_cases q : IntKind.i64.wrap (A.n + B.n) < -1073741824 ∨ 1073741824 < IntKind.i64.wrap (A.n + B.n)
            · rw [if_pos q]
              repeat' ((first
                | refine then_go hm htt ?_
                | refine Side.go ?_
                | refine Hyp.go fun hlen => ?_
                | refine Split.ct ?_
                | refine Split.cf ?_
                | refine Split.tt ?_
                | refine Split.ff ?_
                | refine Indep.go ?_
                | refine CallG.gp k0 ?_
                | refine CallG.gp k1 ?_
                | refine Side.mk h0 ?_
                | refine Side.mk h1 ?_
                | refine Split.go (fun hc => ?_) fun hc => ?_) <;> conv => whnf)
              all_goals exact ret_closed rfl rfl rfl
            · rw [if_neg q]
              repeat' ((first
                | refine then_go hm htt ?_
                | refine Side.go ?_
                | refine Hyp.go fun hlen => ?_
                | refine Split.ct ?_
                | refine Split.cf ?_
                | refine Split.tt ?_
                | refine Split.ff ?_
                | refine Indep.go ?_
                | refine CallG.gp k0 ?_
                | refine CallG.gp k1 ?_
                | refine Side.mk h0 ?_
                | refine Side.mk h1 ?_
                | refine Split.go (fun hc => ?_) fun hc => ?_) <;> conv => whnf)
              all_goals exact ret_closed rfl rfl rfl
          · have e : sumF T.n A.n B.n = IntKind.i64.wrap (A.n - B.n) := by rw [n1]; rfl
            rw [e]
            by_cases q : IntKind.i64.wrap (A.n - B.n) < -1073741824 ∨ 1073741824 < IntKind.i64.wrap (A.n - B.n)
            · rw [if_pos q]
              repeat' ((first
                | refine then_go hm htt ?_
                | refine Side.go ?_
                | refine Hyp.go fun hlen => ?_
                | refine Split.ct ?_
                | refine Split.cf ?_
                | refine Split.tt ?_
                | refine Split.ff ?_
                | refine Indep.go ?_
                | refine CallG.gp k0 ?_
                | refine CallG.gp k1 ?_
                | refine Side.mk h0 ?_
                | refine Side.mk h1 ?_
                | refine Split.go (fun hc => ?_) fun hc => ?_) <;> conv => whnf)
              all_goals exact ret_closed rfl rfl rfl
            · rw [if_neg q]
              repeat' ((first
                | refine then_go hm htt ?_
                | refine Side.go ?_
                | refine Hyp.go fun hlen => ?_
                | refine Split.ct ?_
                | refine Split.cf ?_
                | refine Split.tt ?_
                | refine Split.ff ?_
                | refine Indep.go ?_
                | refine CallG.gp k0 ?_
                | refine CallG.gp k1 ?_
                | refine Side.mk h0 ?_
                | refine Side.mk h1 ?_
                | refine Split.go (fun hc => ?_) fun hc => ?_) <;> conv => whnf)
              all_goals exact ret_closed rfl rfl rfl
          · have e : sumF T.n A.n B.n = IntKind.i64.wrap (A.n * B.n) := by rw [n1]; rfl
            rw [e]
            by_cases q : IntKind.i64.wrap (A.n * B.n) < -1073741824 ∨ 1073741824 < IntKind.i64.wrap (A.n * B.n)
            · rw [if_pos q]
              repeat' ((first
                | refine then_go hm htt ?_
                | refine Side.go ?_
                | refine Hyp.go fun hlen => ?_
                | refine Split.ct ?_
                | refine Split.cf ?_
                | refine Split.tt ?_
                | refine Split.ff ?_
                | refine Indep.go ?_
                | refine CallG.gp k0 ?_
                | refine CallG.gp k1 ?_
                | refine Side.mk h0 ?_
                | refine Side.mk h1 ?_
                | refine Split.go (fun hc => ?_) fun hc => ?_) <;> conv => whnf)
              all_goals exact ret_closed rfl rfl rfl
            · rw [if_neg q]
              repeat' ((first
                | refine then_go hm htt ?_
                | refine Side.go ?_
                | refine Hyp.go fun hlen => ?_
                | refine Split.ct ?_
                | refine Split.cf ?_
                | refine Split.tt ?_
                | refine Split.ff ?_
                | refine Indep.go ?_
                | refine CallG.gp k0 ?_
                | refine CallG.gp k1 ?_
                | refine Side.mk h0 ?_
                | refine Side.mk h1 ?_
                | refine Split.go (fun hc => ?_) fun hc => ?_) <;> conv => whnf)
              all_goals exact ret_closed rfl rfl rfl
    · rw [decide_eq_false c1] at k1
      rw [if_pos (.inr c1)]
      repeat' ((first
        | refine then_go hm htt ?_
        | refine Side.go ?_
        | refine Hyp.go fun hlen => ?_
        | refine Split.ct ?_
        | refine Split.cf ?_
        | refine Split.tt ?_
        | refine Split.ff ?_
        | refine Indep.go ?_
        | refine CallG.gp k0 ?_
        | refine CallG.gp k1 ?_
        | refine Split.go (fun hc => ?_) fun hc => ?_) <;> conv => whnf)
      exact ret_closed rfl rfl rfl
  · rw [decide_eq_false c0] at k0
    rw [if_pos (.inl c0)]
    repeat' ((first
      | refine then_go hm htt ?_
      | refine Side.go ?_
      | refine Hyp.go fun hlen => ?_
      | refine Split.ct ?_
      | refine Split.cf ?_
      | refine Split.tt ?_
      | refine Split.ff ?_
      | refine Indep.go ?_
      | refine CallG.gp k0 ?_
      | refine CallG.gp k1 ?_
      | refine Split.go (fun hc => ?_) fun hc => ?_) <;> conv => whnf)
    exact ret_closed rfl rfl rfl
def nameE : List Tree → List Tree → Bool
  | [], [] => true
  | x :: l, y :: l' => decide (x.name = y.name) && nameE l l'
  | _, _ => false
theorem nameE_iff : ∀ l l' : List Tree, nameE l l' = decide (l.map Tree.name = l'.map Tree.name)
  | [], [] => by simp [nameE]
  | x :: l, y :: l' => by
    rw [nameE, nameE_iff l l', Bool.eq_iff_iff]
    simp
  | [], _ :: _ => by simp [nameE]
  | _ :: _, [] => by simp [nameE]
theorem sameName_ok (x y : Tree) (hx : x ≠ .nil) (hy : y ≠ .nil) : Pure P 53 [.d (.tree x), .d (.tree y)] (.d (.bool (decide (x.name = y.name)))) := by
  refine Pure.of_body tt [] [4] (Tryz.func53) rfl rfl rfl (Nat.le_of_ble_eq_true rfl) fun g => ?_
  repeat' ((first
    | refine then_go hm htt ?_
    | refine Side.go ?_
    | refine Hyp.go fun hlen => ?_
    | refine Split.ct ?_
    | refine Split.cf ?_
    | refine Split.tt ?_
    | refine Split.ff ?_
    | refine Indep.go ?_
    | refine Split.go (fun hc => ?_) fun hc => ?_) <;> conv => whnf)
  exact ret_closed rfl (bool_eq (by rw [bytes_dec])) rfl
set_option maxHeartbeats 4000000 in
set_option maxRecDepth 10000 in
theorem eqNames_ok (l l' : List Tree) (h : ∀ x ∈ l, x ≠ .nil) (h' : ∀ x ∈ l', x ≠ .nil) :
    Pure P 52 [.d (.trees l), .d (.trees l'), .fn 53 []] (.d (.bool (nameE l l'))) := by
  refine Pure.of_body tt [] [6] (Tryz.func52) rfl rfl rfl (Nat.le_of_ble_eq_true rfl) fun g => ?_
  by_cases hl : l.length = l'.length
  · repeat' ((first
      | refine then_go hm htt ?_
      | refine Side.go ?_
      | refine Hyp.go fun hlen => ?_
      | refine Split.ct ?_
      | refine Split.cf ?_
      | refine Split.tt ?_
      | refine Split.ff ?_
      | refine Indep.go ?_
      | refine Split.go (fun hc => ?_) fun hc => ?_) <;> conv => whnf)
    refine loop_go (α := Nat) (fun p => ⟨[(1, .d (.trees l')), (2, .fn 53 []), (15, .d (.trees l)), (16, .d (.int .i64 l.length)), (17, .d (.int .i64 p))], 32, [], 0, g⟩) (fun p => p ≤ l.length ∧ nameE (l.drop p) (l'.drop p) = nameE l l') (fun p => l.length - p) 0 ⟨by omega, rfl⟩
      (Ent.go []) (fun _ => rfl) fun p hpre => ?_
    obtain ⟨hp1, hp2⟩ := hpre
    by_cases hlt : p < l.length
    · have hq := sameName_ok (l.getD p .nil) (l'.getD p .nil) (h _ (getD_mem hlt)) (h' _ (getD_mem (by omega)))
      rw [drop_step hlt, drop_step (l := l') (by omega), nameE] at hp2
      by_cases e : (l.getD p .nil).name = (l'.getD p .nil).name
      · rw [decide_eq_true e] at hq hp2
        rw [Bool.true_and] at hp2
        repeat' ((first
          | refine then_go hm htt ?_
          | refine Side.go ?_
          | refine Hyp.go fun hlen => ?_
          | refine Split.ct ?_
          | refine Split.cf ?_
          | refine Split.tt ?_
          | refine Split.ff ?_
          | refine Indep.go ?_
          | refine Side.mk (show (0 : Int) ≤ (p : Int) ∧ (p : Int) < (l.length : Int) from ⟨by omega, by omega⟩) ?_
          | refine Side.mk (show (0 : Int) ≤ (p : Int) ∧ (p : Int) < (l'.length : Int) from ⟨by omega, by omega⟩) ?_
          | refine CallG.gp hq ?_
          | refine Split.go (fun hc => ?_) fun hc => ?_) <;> conv => whnf)
        exact ⟨p + 1, ⟨by omega, hp2⟩, by omega, Ent.go []⟩
      · rw [decide_eq_false e] at hq hp2
        rw [← hp2]
        repeat' ((first
          | refine then_go hm htt ?_
          | refine Side.go ?_
          | refine Hyp.go fun hlen => ?_
          | refine Split.ct ?_
          | refine Split.cf ?_
          | refine Split.tt ?_
          | refine Split.ff ?_
          | refine Indep.go ?_
          | refine Side.mk (show (0 : Int) ≤ (p : Int) ∧ (p : Int) < (l.length : Int) from ⟨by omega, by omega⟩) ?_
          | refine Side.mk (show (0 : Int) ≤ (p : Int) ∧ (p : Int) < (l'.length : Int) from ⟨by omega, by omega⟩) ?_
          | refine CallG.gp hq ?_
          | refine Split.go (fun hc => ?_) fun hc => ?_) <;> conv => whnf)
        exact ret_closed rfl rfl rfl
    · rw [drop_end (by omega), drop_end (l := l') (by omega), nameE] at hp2
      rw [← hp2]
      repeat' ((first
        | refine then_go hm htt ?_
        | refine Side.go ?_
        | refine Hyp.go fun hlen => ?_
        | refine Split.ct ?_
        | refine Split.cf ?_
        | refine Split.tt ?_
        | refine Split.ff ?_
        | refine Indep.go ?_
        | refine Split.go (fun hc => ?_) fun hc => ?_) <;> conv => whnf)
      exact ret_closed rfl rfl rfl
  · have hs : nameE l l' = false := by
      rw [nameE_iff]
      apply decide_eq_false
      intro e
      have := congrArg List.length e
      simp at this
      exact hl this
    repeat' ((first
      | refine then_go hm htt ?_
      | refine Side.go ?_
      | refine Hyp.go fun hlen => ?_
      | refine Split.ct ?_
      | refine Split.cf ?_
      | refine Split.tt ?_
      | refine Split.ff ?_
      | refine Indep.go ?_
      | refine Split.go (fun hc => ?_) fun hc => ?_) <;> conv => whnf)
    exact ret_closed rfl (bool_eq (by rw [hs])) rfl
theorem rollsF_len (f : Tree) : ∀ l vs : List Tree, l.length = vs.length → (rollsF f l vs).length = vs.length
  | [], vs, h => by rw [rollsF]
  | x :: l, [], h => by simp at h
  | x :: l, v :: vs, h => by
    rw [rollsF]
    simp only [List.length_cons, List.drop_one, List.tail_cons]
    rw [rollsF_len f l vs (by simpa using h)]
theorem rollsF_get (f : Tree) : ∀ (l vs : List Tree) (i : Nat), l.length = vs.length → i < l.length → (rollsF f l vs).getD i .nil = fieldT (vs.getD i .nil).name (rollF f ((l.getD i .nil).kids.getD 0 .nil) ((vs.getD i .nil).kids.getD 0 .nil))
  | [], vs, i, h, hi => by simp at hi
  | x :: l, [], i, h, hi => by simp at h
  | x :: l, v :: vs, 0, h, hi => by rw [rollsF, rollI_eq]; rfl
  | x :: l, v :: vs, i + 1, h, hi => by
    rw [rollsF, List.getD_cons_succ, List.getD_cons_succ, List.getD_cons_succ]
    exact rollsF_get f l vs i (by simpa using h) (by simpa using hi)
theorem mixed_set {a b : List Tree} {p : Nat} (h : a.length = b.length) (hp : p < b.length) : (a.take p ++ b.drop p).set p (a.getD p .nil) = a.take (p + 1) ++ b.drop (p + 1) := by
  have h1 : (a.take p).length = p := by simp; omega
  rw [drop_step hp, ← take_step (l := a) (i := p) (by omega)]
  have := No.list_set_append (a.take p) (b.drop (p + 1)) (b.getD p .nil) (a.getD p .nil)
  rw [h1] at this
  rw [this]
  simp
theorem getapp {a b : List Tree} {i : Nat} : (a ++ b).getD (a.length + i) .nil = b.getD i .nil := by
  simp [List.getD_eq_getElem?_getD, List.getElem?_append_right]
theorem mixed_get {a b : List Tree} {p : Nat} (h : a.length = b.length) (hp : p < b.length) : (a.take p ++ b.drop p).getD p .nil = b.getD p .nil := by
  have h1 : (a.take p).length = p := by simp; omega
  have := getapp (a := a.take p) (b := b.drop p) (i := 0)
  rw [h1, Nat.add_zero] at this
  rw [this, drop_step hp]; rfl
end St
end Go.Proofs.YtoajaklekmbcdaaGreat

namespace Go.Proofs.YtoajaklekmbcdaaGreat
namespace St
open Go Go.Mq Tm Sb
set_option linter.all false

theorem rec_flds {T : Tree} (hT : T ≠ .nil) (h : isConF T = true) (hk : T.kind = 115) : ∀ x ∈ T.kids, fieldF 116 x = true := by
  rw [isConF_eq hT, Bool.and_eq_true, if_neg (by omega), if_neg (by omega), if_neg (by omega), if_pos hk] at h
  have h := h.2
  simp only [Bool.and_eq_true] at h
  exact fieldsF_mem h.1
theorem sum_flds {T : Tree} (hT : T ≠ .nil) (h : isConF T = true) (hk : T.kind = 121) : ∀ x ∈ T.kids, fieldF 122 x = true := by
  rw [isConF_eq hT, Bool.and_eq_true, if_neg (by omega), if_neg (by omega), if_neg (by omega), if_neg (by omega), if_neg (by omega), if_pos hk] at h
  have h := h.2
  simp only [Bool.and_eq_true] at h
  exact fieldsF_mem h.1.2
theorem fld_parts {kind : Int} {x : Tree} (h : fieldF kind x = true) : x ≠ .nil ∧ x.kids.length = 1 ∧ isConF (x.kids.getD 0 .nil) = true := by
  have hx : x ≠ .nil := by intro e; subst e; rw [fieldF] at h; cases h
  rw [fieldF_eq hx] at h
  simp only [Bool.and_eq_true, beq_iff_eq] at h
  exact ⟨hx, by omega, h.2⟩
theorem full_len {T : Tree} (h : Full T) : T.kids.length ≤ sizesN T.kids := len_sizes' fun x hx => (h.kids x hx).ne
theorem getD_notnil {l : List Tree} {i : Nat} (h : l.getD i .nil ≠ .nil) : i < l.length := by
  apply Decidable.byContradiction
  intro hn
  exact h (by simp [List.getD_eq_getElem?_getD, List.getElem?_eq_none (show l.length ≤ i by omega)])
set_option maxHeartbeats 8000000 in
set_option maxRecDepth 10000 in
theorem unroll_ok (f : Tree) (hf : isTermF f = true) (hfk : f.kind = 148) (hfz : sizeN f ≤ 65536) (c : Tree) : isConF c = true → ∀ v : Tree, isTermF v = true → sizeN v ≤ 65536 →
    Pure P 29 [.d (.tree c), .d (.tree v), .d (.tree f)] (.d (.tree (rollF f c v))) := by
  suffices h : (isConF c = true → ∀ v : Tree, isTermF v = true → sizeN v ≤ 65536 → Pure P 29 [.d (.tree c), .d (.tree v), .d (.tree f)] (.d (.tree (rollF f c v)))) ∧
      ∀ x ∈ c.kids, isConF x = true → ∀ v : Tree, isTermF v = true → sizeN v ≤ 65536 → Pure P 29 [.d (.tree x), .d (.tree v), .d (.tree f)] (.d (.tree (rollF f x v))) from h.1
  induction c using Tree.ind' with
  | h0 => exact ⟨fun h => (by rw [isConF] at h; cases h), fun x hx => (by cases hx)⟩
  | h1 c hc ih => ?_
  refine ⟨fun hcon v hv hvz => ?_, fun x hx => (ih x hx).1⟩
  have hvn := term_ne hv
  have hfn := term_ne hf
  obtain ⟨f1, _⟩ := term_xca hf hfk
  have hfs := sizeN_kids hfn
  have hvs := sizeN_kids hvn
  have he := rollF_eq hc f v
  have fl := full_len (term_full hf)
  have vl := full_len (term_full hv)
  refine Pure.of_body tt [] [6] Tryz.func29 rfl rfl rfl (Nat.le_of_ble_eq_true rfl) fun g => ?_
  by_cases c1 : c.kind = 110 ∧ c.n = 0
  · rw [if_pos c1] at he
    rw [he]
    obtain ⟨c1, c2⟩ := c1
    have hw := with_ok f hfn 0 (by omega) (by omega) (fun k => by omega) v
    repeat' ((first
      | refine then_go hm htt ?_
      | refine Side.go ?_
      | refine Hyp.go fun hlen => ?_
      | refine Split.ct ?_
      | refine Split.cf ?_
      | refine Split.tt ?_
      | refine Split.ff ?_
      | refine Indep.go ?_
      | refine CallG.gp hw ?_
      | refine Split.go (fun hc => ?_) fun hc => ?_) <;> conv => whnf)
    exact ret_closed rfl rfl rfl
  rw [if_neg c1] at he
  by_cases c2 : c.kind = 115 ∧ v.kind = 136
  · obtain ⟨c2, c3⟩ := c2
    have hcf := rec_flds hc hcon c2
    have hvf := (term_f hv c3).1
    have hq := eqNames_ok c.kids v.kids (fun x hx => (fld_parts (hcf x hx)).1) (fun x hx => (tfield_parts (hvf x hx)).1)
    rw [nameE_iff] at hq
    by_cases c4 : c.kids.map Tree.name = v.kids.map Tree.name
    · rw [if_pos ⟨c2, c3, c4⟩] at he
      rw [decide_eq_true c4] at hq
      rw [he]
      have hleq : c.kids.length = v.kids.length := by simpa using congrArg List.length c4
      have hrl := rollsF_len f c.kids v.kids hleq
      have hrg := rollsF_get f c.kids v.kids
      generalize rollsF f c.kids v.kids = R at *
      repeat' ((first
        | refine then_go hm htt ?_
        | refine Side.go ?_
        | refine Hyp.go fun hlen => ?_
        | refine Split.ct ?_
        | refine Split.cf ?_
        | refine Split.tt ?_
        | refine Split.ff ?_
        | refine Indep.go ?_
        | refine CallG.gp hq ?_
        | refine Split.go (fun hc => ?_) fun hc => ?_) <;> conv => whnf)
      refine loop_go (α := Nat × Tree) (fun p => ⟨[(0, .d (.tree c)), (1, .d (.tree v)), (2, .d (.tree f)), (7, .d (.tree p.2)), (56, .d (.trees c.kids)), (57, .d (.int .i64 c.kids.length)), (58, .d (.int .i64 p.1))], 79, [], 0, g⟩)
        (fun p => p.1 ≤ c.kids.length ∧ p.2 = .node 136 v.n v.name v.mark (R.take p.1 ++ v.kids.drop p.1)) (fun p => c.kids.length - p.1) (0, v) ⟨by simp, by
          simp only [List.take_zero, List.drop_zero, List.nil_append]
          rw [← c3]
          cases v with
          | nil => exact absurd rfl hvn
          | node => rfl⟩
        (Ent.go []) (fun _ => rfl) fun p hpre => ?_
      obtain ⟨p, m⟩ := p
      obtain ⟨hp1, hp2⟩ := hpre
      simp only [] at hp1 hp2
      by_cases hlt : p < c.kids.length
      · obtain ⟨g1, g2, g3⟩ := fld_parts (hcf _ (getD_mem hlt))
        have hvm := getD_mem (l := v.kids) (i := p) (by omega)
        obtain ⟨t1, t2, t3, t4, t5⟩ := tfield_parts (hvf _ hvm)
        have hin := inner_ok v hvn p (by omega) (fun _ => ⟨t1, by omega⟩)
        have s1 := sizesN_mem hvm
        have s2 := sizeN_kids t1
        have s3 := sizesN_mem (getD_mem (l := (v.kids.getD p .nil).kids) (i := 0) (by omega))
        have hie : inF v p = (v.kids.getD p .nil).kids.getD 0 .nil := by unfold inF; rw [if_pos c3]
        rw [hie] at hin
        have hrec := (ih _ (getD_mem hlt)).2 _ (getD_mem (i := 0) (by omega)) g3 _ t5 (by omega)
        have hget : R.getD p .nil = fieldT (v.kids.getD p .nil).name (rollF f ((c.kids.getD p .nil).kids.getD 0 .nil) ((v.kids.getD p .nil).kids.getD 0 .nil)) := hrg p hleq hlt
        have hmk : m.kids = R.take p ++ v.kids.drop p := by rw [hp2]; rfl
        have hmn : m ≠ .nil := by rw [hp2]; simp
        have hml : m.kids.length = v.kids.length := by rw [hmk]; simp; omega
        have hmg : m.kids.getD p .nil = v.kids.getD p .nil := by rw [hmk]; exact mixed_get (by omega) (by omega)
        have hw := with_ok m hmn p (by omega) (by omega) (fun _ => by rw [hmg]; exact t1) (rollF f ((c.kids.getD p .nil).kids.getD 0 .nil) ((v.kids.getD p .nil).kids.getD 0 .nil))
        have hwe : withT m p (rollF f ((c.kids.getD p .nil).kids.getD 0 .nil) ((v.kids.getD p .nil).kids.getD 0 .nil)) = .node 136 v.n v.name v.mark (R.take (p + 1) ++ v.kids.drop (p + 1)) := by
          unfold withT
          rw [hmg, hmk, ← mixed_set (a := R) (b := v.kids) (p := p) (by omega) (by omega), hget, hp2]
          rfl
        rw [hwe] at hw
        repeat' ((first
          | refine then_go hm htt ?_
          | refine Side.go ?_
          | refine Hyp.go fun hlen => ?_
          | refine Split.ct ?_
          | refine Split.cf ?_
          | refine Split.tt ?_
          | refine Split.ff ?_
          | refine Indep.go ?_
          | refine Side.mk (show (0 : Int) ≤ (p : Int) ∧ (p : Int) < (c.kids.length : Int) from ⟨by omega, by omega⟩) ?_
          | refine Side.mk g1 ?_
          | refine Side.mk (show (0 : Int) ≤ 0 ∧ (0 : Int) < ((c.kids.getD p .nil).kids.length : Int) from ⟨by omega, by omega⟩) ?_
          | refine CallG.gp hin ?_
          | refine CallG.gp hrec ?_
          | refine CallG.gp hw ?_
          | refine Split.go (fun hc => ?_) fun hc => ?_) <;> conv => whnf)
        exact ⟨(p + 1, .node 136 v.n v.name v.mark (R.take (p + 1) ++ v.kids.drop (p + 1))), ⟨by simp only []; omega, rfl⟩, by simp only []; omega, Ent.go []⟩
      · have e1 : R.take p = R := List.take_of_length_le (by omega)
        have e2 : v.kids.drop p = [] := drop_end (by omega)
        rw [e1, e2, List.append_nil] at hp2
        rw [← hp2]
        repeat' ((first
          | refine then_go hm htt ?_
          | refine Side.go ?_
          | refine Hyp.go fun hlen => ?_
          | refine Split.ct ?_
          | refine Split.cf ?_
          | refine Split.tt ?_
          | refine Split.ff ?_
          | refine Indep.go ?_
          | refine Split.go (fun hc => ?_) fun hc => ?_) <;> conv => whnf)
        exact ret_closed rfl rfl rfl
    · rw [if_neg (fun q => c4 q.2.2)] at he
      rw [decide_eq_false c4] at hq
      rw [he]
      repeat' ((first
        | refine then_go hm htt ?_
        | refine Side.go ?_
        | refine Hyp.go fun hlen => ?_
        | refine Split.ct ?_
        | refine Split.cf ?_
        | refine Split.tt ?_
        | refine Split.ff ?_
        | refine Indep.go ?_
        | refine CallG.gp hq ?_
        | refine Split.go (fun hc => ?_) fun hc => ?_) <;> conv => whnf)
      exact ret_closed rfl rfl rfl
  · rw [if_neg (fun q => c2 ⟨q.1, q.2.1⟩)] at he
    rw [he]
    repeat' ((first
      | refine then_go hm htt ?_
      | refine Side.go ?_
      | refine Hyp.go fun hlen => ?_
      | refine Split.ct ?_
      | refine Split.cf ?_
      | refine Split.tt ?_
      | refine Split.ff ?_
      | refine Indep.go ?_
      | refine Split.go (fun hc => ?_) fun hc => ?_) <;> conv => whnf)
    all_goals exact ret_closed rfl rfl rfl
end St
end Go.Proofs.YtoajaklekmbcdaaGreat

namespace Go.Proofs.YtoajaklekmbcdaaGreat
namespace St
open Go Go.Mq Tm Sb
set_option linter.all false

/-! The walk: a fold, a step of what has values for parts -/
theorem norm_con {T m : Tree} (h : No.normR T = (m, 0)) : isConF m = true ∧ sizeN m ≤ 65536 := by
  have h1 := No.normF_end 1000 T (by show (No.normR T).2 = 0; rw [h])
  have e : (No.normF 1000 T).1 = m := by show (No.normR T).1 = m; rw [h]
  rw [e] at h1
  have h2 := (No.nstep_zero h1.2).1
  exact ⟨(conE_full h2).2, conE_size h2⟩
theorem isSome_oT {o : Option Tree} (h : o.isSome = true) : o = some (oT o) := by
  cases o with
  | none => cases h
  | some x => rfl
theorem partF_mem {s : ByteArray} : ∀ {l : List Tree} {x : Tree}, partF s l = some x → ∃ y ∈ l, x = y.kids.getD 0 .nil
  | [], x, h => by cases h
  | y :: l, x, h => by
    rw [partF] at h
    split at h
    · cases h; exact ⟨y, by simp, rfl⟩
    · obtain ⟨z, h1, h2⟩ := partF_mem h
      exact ⟨z, by simp [h1], h2⟩
set_option maxHeartbeats 8000000 in
set_option maxRecDepth 10000 in
theorem fold_ok (T : Tree) (hT : isTermF T = true) (hk : T.kind = 148) (hz : sizeN T ≤ 65536) : Pure P 73 [.d (.tree T)] (.tuple [.d (.tree (foldF T).1), .d (.int .i64 (foldF T).2)]) := by
  have hTn := term_ne hT
  obtain ⟨f1, f2, f3, f4⟩ := term_xca hT hk
  have hsz := sizeN_kids hTn
  have hn0 := term_ne f2
  have k0 := kid_ok T hTn 0 (by omega) hn0 146
  have m0 := getD_mem (l := T.kids) (i := 0) (by omega)
  have s0 := sizesN_mem m0
  have hse := sizeN_kids hn0
  refine Pure.of_body tt [79, 81] [2, 3] Tryz.func73 rfl rfl rfl (Nat.le_of_ble_eq_true rfl) fun g => ?_
  unfold foldF
  unfold kidT at *
  by_cases c0 : (T.kids.getD 0 .nil).kind = 146
  · rw [decide_eq_true c0] at k0
    rw [if_neg (by omega)]
    obtain ⟨g1, g2, g3⟩ := term_cx f2 (.inr c0)
    have t1 := getD_mem (l := (T.kids.getD 0 .nil).kids) (i := 1) (by omega)
    have s1 := sizesN_mem t1
    have hnm := No.Normal_ok ((T.kids.getD 0 .nil).kids.getD 0 .nil)
    cases hR : No.normR ((T.kids.getD 0 .nil).kids.getD 0 .nil) with
    | mk S e =>
    rw [hR] at hnm
    simp only []
    by_cases he : e = 0
    · subst he
      rw [if_neg (by omega)]
      obtain ⟨c1, c2⟩ := norm_con hR
      have hS : S ≠ .nil := by intro q; subst q; rw [isConF] at c1; cases c1
      have hp1 := part_ok (T.kids.drop 2) (T.kids.getD 0 .nil).name fun x hx => by
        obtain ⟨q1, q2, q3, q4, q5⟩ := tfield_parts (f4 x hx)
        exact ⟨q1, by omega⟩
      by_cases c3 : S.kind = 121
      · have hsf := sum_flds hS c1 c3
        have hp2 := part_ok S.kids (T.kids.getD 0 .nil).name fun x hx => by
          obtain ⟨q1, q2, q3⟩ := fld_parts (hsf x hx)
          exact ⟨q1, by omega⟩
        cases hq1 : partF (T.kids.getD 0 .nil).name (T.kids.drop 2) with
        | none =>
          rw [if_pos (.inr (.inl rfl))]
          rw [hq1] at hp1
          repeat' ((first
            | refine then_go hm htt ?_
            | refine Side.go ?_
            | refine Hyp.go fun hlen => ?_
            | refine Split.ct ?_
            | refine Split.cf ?_
            | refine Split.tt ?_
            | refine Split.ff ?_
            | refine Indep.go ?_
            | refine CallG.gp k0 ?_
            | refine CallG.gp hnm ?_
            | refine CallG.gp hp1 ?_
            | refine Side.mk hn0 ?_
            | refine Side.mk hS ?_
            | refine Side.mk (show (0 : Int) ≤ 0 ∧ (0 : Int) < ((T.kids.getD 0 .nil).kids.length : Int) from ⟨by omega, by omega⟩) ?_
            | refine Side.mk (show (0 : Int) ≤ 2 ∧ (2 : Int) ≤ (T.kids.length : Int) from ⟨by omega, by omega⟩) ?_
            | refine Split.go (fun hc => ?_) fun hc => ?_) <;> conv => whnf)
          exact ret_closed rfl rfl rfl
        | some A =>
          cases hq2 : partF (T.kids.getD 0 .nil).name S.kids with
          | none =>
            rw [if_pos (.inr (.inr rfl))]
            rw [hq1] at hp1
            rw [hq2] at hp2
            repeat' ((first
              | refine then_go hm htt ?_
              | refine Side.go ?_
              | refine Hyp.go fun hlen => ?_
              | refine Split.ct ?_
              | refine Split.cf ?_
              | refine Split.tt ?_
              | refine Split.ff ?_
              | refine Indep.go ?_
              | refine CallG.gp k0 ?_
              | refine CallG.gp hnm ?_
              | refine CallG.gp hp1 ?_
              | refine CallG.gp hp2 ?_
              | refine Side.mk hn0 ?_
              | refine Side.mk hS ?_
              | refine Side.mk (show (0 : Int) ≤ 0 ∧ (0 : Int) < ((T.kids.getD 0 .nil).kids.length : Int) from ⟨by omega, by omega⟩) ?_
              | refine Side.mk (show (0 : Int) ≤ 2 ∧ (2 : Int) ≤ (T.kids.length : Int) from ⟨by omega, by omega⟩) ?_
              | refine Split.go (fun hc => ?_) fun hc => ?_) <;> conv => whnf)
            exact ret_closed rfl rfl rfl
          | some C =>
            rw [if_neg (by simp [c3])]
            rw [hq1] at hp1
            rw [hq2] at hp2
            rw [show oT (some A) = A from rfl] at hp1 ⊢
            rw [show oT (some C) = C from rfl] at hp2 ⊢
            rw [show (some A).isSome = true from rfl] at hp1
            rw [show (some C).isSome = true from rfl] at hp2
            obtain ⟨y, hy, rfl⟩ := partF_mem hq2
            obtain ⟨q1, q2, q3⟩ := fld_parts (hsf y hy)
            have hu := unroll_ok T hT hk hz _ q3 _ g3 (by omega)
            generalize rollF T (y.kids.getD 0 .nil) ((T.kids.getD 0 .nil).kids.getD 1 .nil) = U at *
            have hch := tCheck_ok (.node 143 0 ByteArray.empty ByteArray.empty [U, A])
            by_cases hz2 : termE (.node 143 0 ByteArray.empty ByteArray.empty [U, A]) = 0
            · rw [if_neg (by omega)]
              rw [hz2] at hch
              repeat' ((first
                | refine then_go hm htt ?_
                | refine Side.go ?_
                | refine Hyp.go fun hlen => ?_
                | refine Split.ct ?_
                | refine Split.cf ?_
                | refine Split.tt ?_
                | refine Split.ff ?_
                | refine Indep.go ?_
                | refine CallG.gp k0 ?_
                | refine CallG.gp hnm ?_
                | refine CallG.gp hp1 ?_
                | refine CallG.gp hp2 ?_
                | refine CallG.gp hu ?_
                | refine CallG.gp hch ?_
                | refine Side.mk hn0 ?_
                | refine Side.mk hS ?_
                | refine Side.mk (show (0 : Int) ≤ 0 ∧ (0 : Int) < ((T.kids.getD 0 .nil).kids.length : Int) from ⟨by omega, by omega⟩) ?_
                | refine Side.mk (show (0 : Int) ≤ 1 ∧ (1 : Int) < ((T.kids.getD 0 .nil).kids.length : Int) from ⟨by omega, by omega⟩) ?_
                | refine Side.mk (show (0 : Int) ≤ 2 ∧ (2 : Int) ≤ (T.kids.length : Int) from ⟨by omega, by omega⟩) ?_
                | refine Split.go (fun hc => ?_) fun hc => ?_) <;> conv => whnf)
              exact ret_closed rfl rfl rfl
            · rw [if_pos (by omega)]
              generalize termE (.node 143 0 ByteArray.empty ByteArray.empty [U, A]) = E at *
              repeat' ((first
                | refine then_go hm htt ?_
                | refine Side.go ?_
                | refine Hyp.go fun hlen => ?_
                | refine Split.ct ?_
                | refine Split.cf ?_
                | refine Split.tt ?_
                | refine Split.ff ?_
                | refine Indep.go ?_
                | refine CallG.gp k0 ?_
                | refine CallG.gp hnm ?_
                | refine CallG.gp hp1 ?_
                | refine CallG.gp hp2 ?_
                | refine CallG.gp hu ?_
                | refine CallG.gp hch ?_
                | refine Side.mk hn0 ?_
                | refine Side.mk hS ?_
                | refine Side.mk (show (0 : Int) ≤ 0 ∧ (0 : Int) < ((T.kids.getD 0 .nil).kids.length : Int) from ⟨by omega, by omega⟩) ?_
                | refine Side.mk (show (0 : Int) ≤ 1 ∧ (1 : Int) < ((T.kids.getD 0 .nil).kids.length : Int) from ⟨by omega, by omega⟩) ?_
                | refine Side.mk (show (0 : Int) ≤ 2 ∧ (2 : Int) ≤ (T.kids.length : Int) from ⟨by omega, by omega⟩) ?_
                | refine Split.go (fun hc => ?_) fun hc => ?_) <;> conv => whnf)
              exact ret_closed rfl rfl rfl
      · rw [if_pos (.inl c3)]
        generalize partF (T.kids.getD 0 .nil).name (T.kids.drop 2) = Q at *
        repeat' ((first
          | refine then_go hm htt ?_
          | refine Side.go ?_
          | refine Hyp.go fun hlen => ?_
          | refine Split.ct ?_
          | refine Split.cf ?_
          | refine Split.tt ?_
          | refine Split.ff ?_
          | refine Indep.go ?_
          | refine CallG.gp k0 ?_
          | refine CallG.gp hnm ?_
          | refine CallG.gp hp1 ?_
          | refine Side.mk hn0 ?_
          | refine Side.mk hS ?_
          | refine Side.mk (show (0 : Int) ≤ 0 ∧ (0 : Int) < ((T.kids.getD 0 .nil).kids.length : Int) from ⟨by omega, by omega⟩) ?_
          | refine Side.mk (show (0 : Int) ≤ 2 ∧ (2 : Int) ≤ (T.kids.length : Int) from ⟨by omega, by omega⟩) ?_
          | refine Split.go (fun hc => ?_) fun hc => ?_) <;> conv => whnf)
        exact ret_closed rfl rfl rfl
    · rw [if_pos he]
      repeat' ((first
        | refine then_go hm htt ?_
        | refine Side.go ?_
        | refine Hyp.go fun hlen => ?_
        | refine Split.ct ?_
        | refine Split.cf ?_
        | refine Split.tt ?_
        | refine Split.ff ?_
        | refine Indep.go ?_
        | refine CallG.gp k0 ?_
        | refine CallG.gp hnm ?_
        | refine Side.mk hn0 ?_
        | refine Side.mk (show (0 : Int) ≤ 0 ∧ (0 : Int) < ((T.kids.getD 0 .nil).kids.length : Int) from ⟨by omega, by omega⟩) ?_
        | refine Split.go (fun hc => ?_) fun hc => ?_) <;> conv => whnf)
      exact ret_closed rfl rfl rfl
  · rw [decide_eq_false c0] at k0
    rw [if_pos c0]
    repeat' ((first
      | refine then_go hm htt ?_
      | refine Side.go ?_
      | refine Hyp.go fun hlen => ?_
      | refine Split.ct ?_
      | refine Split.cf ?_
      | refine Split.tt ?_
      | refine Split.ff ?_
      | refine Indep.go ?_
      | refine CallG.gp k0 ?_
      | refine Split.go (fun hc => ?_) fun hc => ?_) <;> conv => whnf)
    exact ret_closed rfl rfl rfl
set_option maxHeartbeats 8000000 in
set_option maxRecDepth 10000 in
theorem goes_ok (T : Tree) (hT : isTermF T = true) (hz : sizeN T ≤ 65536) : Pure P 42 [.d (.tree T)] (.tuple [.d (.tree (goesF T).1), .d (.int .i64 (goesF T).2)]) := by
  have hTn := term_ne hT
  have hh := (term_head hT).1
  refine Pure.of_body tt [] [2, 3] Tryz.func42 rfl rfl rfl (Nat.le_of_ble_eq_true rfl) fun g => ?_
  unfold goesF
  by_cases k1 : T.kind = 135
  · rw [if_pos k1]
    obtain ⟨f1, f2, f3⟩ := term_xx hT (.inl k1)
    have hn0 := term_ne f2
    have k0 := kid_ok T hTn 0 (by omega) hn0 134
    unfold kidT at *
    by_cases c0 : (T.kids.getD 0 .nil).kind = 134
    · rw [decide_eq_true c0] at k0
      rw [if_pos c0]
      obtain ⟨g1, g2, g3⟩ := term_cx f2 (.inl c0)
      have ht := sbTerm_ok ((T.kids.getD 0 .nil).kids.getD 1 .nil) 0 (T.kids.getD 1 .nil)
      generalize termR ((T.kids.getD 0 .nil).kids.getD 1 .nil) 0 (T.kids.getD 1 .nil) = R at *
      repeat' ((first
        | refine then_go hm htt ?_
        | refine Side.go ?_
        | refine Hyp.go fun hlen => ?_
        | refine Split.ct ?_
        | refine Split.cf ?_
        | refine Split.tt ?_
        | refine Split.ff ?_
        | refine Indep.go ?_
        | refine CallG.gp k0 ?_
        | refine CallG.gp ht ?_
        | refine Side.mk hn0 ?_
        | refine Side.mk (show (0 : Int) ≤ 1 ∧ (1 : Int) < ((T.kids.getD 0 .nil).kids.length : Int) from ⟨by omega, by omega⟩) ?_
        | refine Side.mk (show (0 : Int) ≤ 1 ∧ (1 : Int) < (T.kids.length : Int) from ⟨by omega, by omega⟩) ?_
        | refine Split.go (fun hc => ?_) fun hc => ?_) <;> conv => whnf)
      exact ret_closed rfl rfl rfl
    · rw [decide_eq_false c0] at k0
      rw [if_neg c0]
      repeat' ((first
        | refine then_go hm htt ?_
        | refine Side.go ?_
        | refine Hyp.go fun hlen => ?_
        | refine Split.ct ?_
        | refine Split.cf ?_
        | refine Split.tt ?_
        | refine Split.ff ?_
        | refine Indep.go ?_
        | refine CallG.gp k0 ?_
        | refine Split.go (fun hc => ?_) fun hc => ?_) <;> conv => whnf)
      exact ret_closed rfl rfl rfl
  rw [if_neg k1]
  by_cases k2 : T.kind = 140
  · rw [if_pos k2]
    obtain ⟨f1, f2, f3⟩ := term_xc hT k2
    have hn0 := term_ne f2
    have k0 := kid_ok T hTn 0 (by omega) hn0 139
    unfold kidT at *
    by_cases c0 : (T.kids.getD 0 .nil).kind = 139
    · rw [decide_eq_true c0] at k0
      rw [if_pos c0]
      obtain ⟨g1, g2, g3⟩ := term_kx f2 c0
      have ht := sbCon_ok ((T.kids.getD 0 .nil).kids.getD 1 .nil) 0 (T.kids.getD 1 .nil)
      generalize conR ((T.kids.getD 0 .nil).kids.getD 1 .nil) 0 (T.kids.getD 1 .nil) = R at *
      repeat' ((first
        | refine then_go hm htt ?_
        | refine Side.go ?_
        | refine Hyp.go fun hlen => ?_
        | refine Split.ct ?_
        | refine Split.cf ?_
        | refine Split.tt ?_
        | refine Split.ff ?_
        | refine Indep.go ?_
        | refine CallG.gp k0 ?_
        | refine CallG.gp ht ?_
        | refine Side.mk hn0 ?_
        | refine Side.mk (show (0 : Int) ≤ 1 ∧ (1 : Int) < ((T.kids.getD 0 .nil).kids.length : Int) from ⟨by omega, by omega⟩) ?_
        | refine Side.mk (show (0 : Int) ≤ 1 ∧ (1 : Int) < (T.kids.length : Int) from ⟨by omega, by omega⟩) ?_
        | refine Split.go (fun hc => ?_) fun hc => ?_) <;> conv => whnf)
      exact ret_closed rfl rfl rfl
    · rw [decide_eq_false c0] at k0
      rw [if_neg c0]
      repeat' ((first
        | refine then_go hm htt ?_
        | refine Side.go ?_
        | refine Hyp.go fun hlen => ?_
        | refine Split.ct ?_
        | refine Split.cf ?_
        | refine Split.tt ?_
        | refine Split.ff ?_
        | refine Indep.go ?_
        | refine CallG.gp k0 ?_
        | refine Split.go (fun hc => ?_) fun hc => ?_) <;> conv => whnf)
      exact ret_closed rfl rfl rfl
  rw [if_neg k2]
  by_cases k3 : T.kind = 138
  · rw [if_pos k3]
    obtain ⟨f1, f2⟩ := term_x hT k3
    have hn0 := term_ne f2
    have k0 := kid_ok T hTn 0 (by omega) hn0 136
    unfold kidT at *
    by_cases c0 : (T.kids.getD 0 .nil).kind = 136
    · rw [decide_eq_true c0] at k0
      have g1 := (term_f f2 c0).1
      have hp := part_ok (T.kids.getD 0 .nil).kids T.name fun x hx => by
        obtain ⟨q1, q2, q3, q4, q5⟩ := tfield_parts (g1 x hx)
        exact ⟨q1, by omega⟩
      cases hq : partF T.name (T.kids.getD 0 .nil).kids with
      | none =>
        rw [hq] at hp
        rw [if_neg (by simp)]
        repeat' ((first
          | refine then_go hm htt ?_
          | refine Side.go ?_
          | refine Hyp.go fun hlen => ?_
          | refine Split.ct ?_
          | refine Split.cf ?_
          | refine Split.tt ?_
          | refine Split.ff ?_
          | refine Indep.go ?_
          | refine CallG.gp k0 ?_
          | refine CallG.gp hp ?_
          | refine Side.mk hn0 ?_
          | refine Split.go (fun hc => ?_) fun hc => ?_) <;> conv => whnf)
        exact ret_closed rfl rfl rfl
      | some x =>
        rw [hq] at hp
        rw [if_pos ⟨c0, rfl⟩]
        repeat' ((first
          | refine then_go hm htt ?_
          | refine Side.go ?_
          | refine Hyp.go fun hlen => ?_
          | refine Split.ct ?_
          | refine Split.cf ?_
          | refine Split.tt ?_
          | refine Split.ff ?_
          | refine Indep.go ?_
          | refine CallG.gp k0 ?_
          | refine CallG.gp hp ?_
          | refine Side.mk hn0 ?_
          | refine Split.go (fun hc => ?_) fun hc => ?_) <;> conv => whnf)
        exact ret_closed rfl rfl rfl
    · rw [decide_eq_false c0] at k0
      rw [if_neg (fun q => c0 q.1)]
      repeat' ((first
        | refine then_go hm htt ?_
        | refine Side.go ?_
        | refine Hyp.go fun hlen => ?_
        | refine Split.ct ?_
        | refine Split.cf ?_
        | refine Split.tt ?_
        | refine Split.ff ?_
        | refine Indep.go ?_
        | refine CallG.gp k0 ?_
        | refine Split.go (fun hc => ?_) fun hc => ?_) <;> conv => whnf)
      exact ret_closed rfl rfl rfl
  rw [if_neg k3]
  by_cases k4 : T.kind = 144
  · rw [if_pos k4]
    obtain ⟨f1, f2, f3, f4⟩ := term_xxx hT k4
    have hn0 := term_ne f2
    have k0 := kid_ok T hTn 0 (by omega) hn0 132
    unfold kidT at *
    by_cases c0 : (T.kids.getD 0 .nil).kind = 132
    · rw [decide_eq_true c0] at k0
      rw [if_pos c0]
      rcases (term_head f2).1.n132 c0 with n0 | n1
      · rw [if_neg (by omega)]
        have w : IntKind.i64.wrap (2 - (T.kids.getD 0 .nil).n) = 2 := by rw [n0]; rfl
        have wn : (IntKind.i64.wrap (2 - (T.kids.getD 0 .nil).n)).toNat = 2 := by rw [w]; rfl
        repeat' ((first
          | refine then_go hm htt ?_
          | refine Side.go ?_
          | refine Hyp.go fun hlen => ?_
          | refine Split.ct ?_
          | refine Split.cf ?_
          | refine Split.tt ?_
          | refine Split.ff ?_
          | refine Indep.go ?_
          | refine CallG.gp k0 ?_
          | refine Side.mk hn0 ?_
          | refine Side.mk (show (0 : Int) ≤ IntKind.i64.wrap (2 - (T.kids.getD 0 .nil).n) ∧ IntKind.i64.wrap (2 - (T.kids.getD 0 .nil).n) < (T.kids.length : Int) from by rw [w]; omega) ?_
          | refine Split.go (fun hc => ?_) fun hc => ?_) <;> conv => whnf)
        exact ret_closed rfl (tup2 (tree_eq (by rw [wn])) rfl) rfl
      · rw [if_pos n1]
        have w : IntKind.i64.wrap (2 - (T.kids.getD 0 .nil).n) = 1 := by rw [n1]; rfl
        have wn : (IntKind.i64.wrap (2 - (T.kids.getD 0 .nil).n)).toNat = 1 := by rw [w]; rfl
        repeat' ((first
          | refine then_go hm htt ?_
          | refine Side.go ?_
          | refine Hyp.go fun hlen => ?_
          | refine Split.ct ?_
          | refine Split.cf ?_
          | refine Split.tt ?_
          | refine Split.ff ?_
          | refine Indep.go ?_
          | refine CallG.gp k0 ?_
          | refine Side.mk hn0 ?_
          | refine Side.mk (show (0 : Int) ≤ IntKind.i64.wrap (2 - (T.kids.getD 0 .nil).n) ∧ IntKind.i64.wrap (2 - (T.kids.getD 0 .nil).n) < (T.kids.length : Int) from by rw [w]; omega) ?_
          | refine Split.go (fun hc => ?_) fun hc => ?_) <;> conv => whnf)
        exact ret_closed rfl (tup2 (tree_eq (by rw [wn])) rfl) rfl
    · rw [decide_eq_false c0] at k0
      rw [if_neg c0]
      repeat' ((first
        | refine then_go hm htt ?_
        | refine Side.go ?_
        | refine Hyp.go fun hlen => ?_
        | refine Split.ct ?_
        | refine Split.cf ?_
        | refine Split.tt ?_
        | refine Split.ff ?_
        | refine Indep.go ?_
        | refine CallG.gp k0 ?_
        | refine Split.go (fun hc => ?_) fun hc => ?_) <;> conv => whnf)
      exact ret_closed rfl rfl rfl
  rw [if_neg k4]
  by_cases k5 : T.kind = 142
  · rw [if_pos k5]
    obtain ⟨f1, f2, f3⟩ := term_xx hT (.inr (.inl k5))
    have hn0 := term_ne f2
    have k0 := kid_ok T hTn 0 (by omega) hn0 141
    unfold kidT at *
    by_cases c0 : (T.kids.getD 0 .nil).kind = 141
    · rw [decide_eq_true c0] at k0
      rw [if_pos c0]
      obtain ⟨g1, g2, g3, g4⟩ := term_cxc f2 c0
      have ht := sbTerm_ok (T.kids.getD 1 .nil) 0 ((T.kids.getD 0 .nil).kids.getD 1 .nil)
      have hc := sbCon_ok (termR (T.kids.getD 1 .nil) 0 ((T.kids.getD 0 .nil).kids.getD 1 .nil)).1 0 ((T.kids.getD 0 .nil).kids.getD 0 .nil)
      generalize termR (T.kids.getD 1 .nil) 0 ((T.kids.getD 0 .nil).kids.getD 1 .nil) = R at *
      obtain ⟨m, e⟩ := R
      simp only [] at ht hc ⊢
      by_cases he : e = 0
      · subst he
        rw [if_neg (by omega)]
        generalize conR m 0 ((T.kids.getD 0 .nil).kids.getD 0 .nil) = S at *
        repeat' ((first
          | refine then_go hm htt ?_
          | refine Side.go ?_
          | refine Hyp.go fun hlen => ?_
          | refine Split.ct ?_
          | refine Split.cf ?_
          | refine Split.tt ?_
          | refine Split.ff ?_
          | refine Indep.go ?_
          | refine CallG.gp k0 ?_
          | refine CallG.gp ht ?_
          | refine CallG.gp hc ?_
          | refine Side.mk hn0 ?_
          | refine Side.mk (show (0 : Int) ≤ 0 ∧ (0 : Int) < ((T.kids.getD 0 .nil).kids.length : Int) from ⟨by omega, by omega⟩) ?_
          | refine Side.mk (show (0 : Int) ≤ 1 ∧ (1 : Int) < ((T.kids.getD 0 .nil).kids.length : Int) from ⟨by omega, by omega⟩) ?_
          | refine Side.mk (show (0 : Int) ≤ 1 ∧ (1 : Int) < (T.kids.length : Int) from ⟨by omega, by omega⟩) ?_
          | refine Split.go (fun hc => ?_) fun hc => ?_) <;> conv => whnf)
        exact ret_closed rfl rfl rfl
      · rw [if_pos he]
        repeat' ((first
          | refine then_go hm htt ?_
          | refine Side.go ?_
          | refine Hyp.go fun hlen => ?_
          | refine Split.ct ?_
          | refine Split.cf ?_
          | refine Split.tt ?_
          | refine Split.ff ?_
          | refine Indep.go ?_
          | refine CallG.gp k0 ?_
          | refine CallG.gp ht ?_
          | refine Side.mk hn0 ?_
          | refine Side.mk (show (0 : Int) ≤ 1 ∧ (1 : Int) < ((T.kids.getD 0 .nil).kids.length : Int) from ⟨by omega, by omega⟩) ?_
          | refine Side.mk (show (0 : Int) ≤ 1 ∧ (1 : Int) < (T.kids.length : Int) from ⟨by omega, by omega⟩) ?_
          | refine Split.go (fun hc => ?_) fun hc => ?_) <;> conv => whnf)
        exact ret_closed rfl rfl rfl
    · rw [decide_eq_false c0] at k0
      rw [if_neg c0]
      repeat' ((first
        | refine then_go hm htt ?_
        | refine Side.go ?_
        | refine Hyp.go fun hlen => ?_
        | refine Split.ct ?_
        | refine Split.cf ?_
        | refine Split.tt ?_
        | refine Split.ff ?_
        | refine Indep.go ?_
        | refine CallG.gp k0 ?_
        | refine Split.go (fun hc => ?_) fun hc => ?_) <;> conv => whnf)
      exact ret_closed rfl rfl rfl
  rw [if_neg k5]
  by_cases k6 : T.kind = 143
  · rw [if_pos k6]
    obtain ⟨f1, f2, f3⟩ := term_xx hT (.inr (.inr (.inl k6)))
    unfold kidT at *
    have ht := sbTerm_ok (T.kids.getD 1 .nil) 0 (T.kids.getD 0 .nil)
    generalize termR (T.kids.getD 1 .nil) 0 (T.kids.getD 0 .nil) = R at *
    repeat' ((first
      | refine then_go hm htt ?_
      | refine Side.go ?_
      | refine Hyp.go fun hlen => ?_
      | refine Split.ct ?_
      | refine Split.cf ?_
      | refine Split.tt ?_
      | refine Split.ff ?_
      | refine Indep.go ?_
      | refine CallG.gp ht ?_
      | refine Side.mk (show (0 : Int) ≤ 0 ∧ (0 : Int) < (T.kids.length : Int) from ⟨by omega, by omega⟩) ?_
      | refine Side.mk (show (0 : Int) ≤ 1 ∧ (1 : Int) < (T.kids.length : Int) from ⟨by omega, by omega⟩) ?_
      | refine Split.go (fun hc => ?_) fun hc => ?_) <;> conv => whnf)
    exact ret_closed rfl rfl rfl
  rw [if_neg k6]
  by_cases k7 : T.kind = 145
  · rw [if_pos k7]
    obtain ⟨f1, f2, f3⟩ := term_xx hT (.inr (.inr (.inr k7)))
    have ho := op_ok T hTn f1 (term_ne f2) (term_ne f3) (hh.n145 k7)
    generalize opF T = R at *
    repeat' ((first
      | refine then_go hm htt ?_
      | refine Side.go ?_
      | refine Hyp.go fun hlen => ?_
      | refine Split.ct ?_
      | refine Split.cf ?_
      | refine Split.tt ?_
      | refine Split.ff ?_
      | refine Indep.go ?_
      | refine CallG.gp ho ?_
      | refine Split.go (fun hc => ?_) fun hc => ?_) <;> conv => whnf)
    exact ret_closed rfl rfl rfl
  rw [if_neg k7]
  by_cases k8 : T.kind = 147
  · rw [if_pos k8]
    obtain ⟨f1, f2, f3⟩ := term_xa hT k8
    have hn0 := term_ne f2
    have k0 := kid_ok T hTn 0 (by omega) hn0 146
    unfold kidT at *
    by_cases c0 : (T.kids.getD 0 .nil).kind = 146
    · rw [decide_eq_true c0] at k0
      obtain ⟨g1, g2, g3⟩ := term_cx f2 (.inr c0)
      have hp := part_ok (T.kids.drop 1) (T.kids.getD 0 .nil).name fun x hx => by
        obtain ⟨q1, q2, q3, q4, q5⟩ := tfield_parts (f3 x hx)
        exact ⟨q1, by omega⟩
      cases hq : partF (T.kids.getD 0 .nil).name (T.kids.drop 1) with
      | none =>
        rw [hq] at hp
        rw [if_neg (by simp)]
        repeat' ((first
          | refine then_go hm htt ?_
          | refine Side.go ?_
          | refine Hyp.go fun hlen => ?_
          | refine Split.ct ?_
          | refine Split.cf ?_
          | refine Split.tt ?_
          | refine Split.ff ?_
          | refine Indep.go ?_
          | refine CallG.gp k0 ?_
          | refine CallG.gp hp ?_
          | refine Side.mk hn0 ?_
          | refine Side.mk (show (0 : Int) ≤ 1 ∧ (1 : Int) ≤ (T.kids.length : Int) from ⟨by omega, by omega⟩) ?_
          | refine Split.go (fun hc => ?_) fun hc => ?_) <;> conv => whnf)
        exact ret_closed rfl rfl rfl
      | some x =>
        rw [hq] at hp
        rw [if_pos ⟨c0, rfl⟩]
        rw [show oT (some x) = x from rfl] at hp ⊢
        rw [show (some x).isSome = true from rfl] at hp
        have ht := sbTerm_ok x 0 ((T.kids.getD 0 .nil).kids.getD 1 .nil)
        generalize termR x 0 ((T.kids.getD 0 .nil).kids.getD 1 .nil) = R at *
        repeat' ((first
          | refine then_go hm htt ?_
          | refine Side.go ?_
          | refine Hyp.go fun hlen => ?_
          | refine Split.ct ?_
          | refine Split.cf ?_
          | refine Split.tt ?_
          | refine Split.ff ?_
          | refine Indep.go ?_
          | refine CallG.gp k0 ?_
          | refine CallG.gp hp ?_
          | refine CallG.gp ht ?_
          | refine Side.mk hn0 ?_
          | refine Side.mk (show (0 : Int) ≤ 1 ∧ (1 : Int) ≤ (T.kids.length : Int) from ⟨by omega, by omega⟩) ?_
          | refine Side.mk (show (0 : Int) ≤ 1 ∧ (1 : Int) < ((T.kids.getD 0 .nil).kids.length : Int) from ⟨by omega, by omega⟩) ?_
          | refine Split.go (fun hc => ?_) fun hc => ?_) <;> conv => whnf)
        exact ret_closed rfl rfl rfl
    · rw [decide_eq_false c0] at k0
      rw [if_neg (fun q => c0 q.1)]
      repeat' ((first
        | refine then_go hm htt ?_
        | refine Side.go ?_
        | refine Hyp.go fun hlen => ?_
        | refine Split.ct ?_
        | refine Split.cf ?_
        | refine Split.tt ?_
        | refine Split.ff ?_
        | refine Indep.go ?_
        | refine CallG.gp k0 ?_
        | refine Split.go (fun hc => ?_) fun hc => ?_) <;> conv => whnf)
      exact ret_closed rfl rfl rfl
  rw [if_neg k8]
  by_cases k9 : T.kind = 148
  · rw [if_pos k9]
    have hf := fold_ok T hT k9 hz
    generalize foldF T = R at *
    repeat' ((first
      | refine then_go hm htt ?_
      | refine Side.go ?_
      | refine Hyp.go fun hlen => ?_
      | refine Split.ct ?_
      | refine Split.cf ?_
      | refine Split.tt ?_
      | refine Split.ff ?_
      | refine Indep.go ?_
      | refine CallG.gp hf ?_
      | refine Split.go (fun hc => ?_) fun hc => ?_) <;> conv => whnf)
    exact ret_closed rfl rfl rfl
  rw [if_neg k9]
  repeat' ((first
    | refine then_go hm htt ?_
    | refine Side.go ?_
    | refine Hyp.go fun hlen => ?_
    | refine Split.ct ?_
    | refine Split.cf ?_
    | refine Split.tt ?_
    | refine Split.ff ?_
    | refine Indep.go ?_
    | refine Split.go (fun hc => ?_) fun hc => ?_) <;> conv => whnf)
  exact ret_closed rfl rfl rfl
end St
end Go.Proofs.YtoajaklekmbcdaaGreat

namespace Go.Proofs.YtoajaklekmbcdaaGreat
namespace St
open Go Go.Mq Tm Sb
set_option linter.all false

/-! Which part is stepped -/
theorem stsK_at (k : Int) : ∀ (l : List Tree) (p i : Nat), i < l.length → placeB k (p + i) = true → valueF (l.getD i .nil) = false → (∀ j, j < i → placeB k (p + j) = true → valueF (l.getD j .nil) = true) → stsK k p l = some (p + i, stF (l.getD i .nil))
  | [], p, i, hi, _, _, _ => by simp at hi
  | x :: l, p, 0, hi, h1, h2, h3 => by
    rw [stsK, if_pos ⟨h1, h2⟩]; rfl
  | x :: l, p, i + 1, hi, h1, h2, h3 => by
    have hx : ¬ (placeB k p = true ∧ valueF x = false) := fun ⟨q1, q2⟩ => by
      have := h3 0 (by omega) q1
      rw [List.getD_cons_zero, q2] at this
      cases this
    rw [stsK, if_neg hx, List.getD_cons_succ]
    have := stsK_at k l (p + 1) i (by simpa using hi) (by rw [show p + 1 + i = p + (i + 1) by omega]; exact h1) (by simpa only [List.getD_cons_succ] using h2) (fun j hj hp => by
      have := h3 (j + 1) (by omega) (by rw [show p + (j + 1) = p + 1 + j by omega]; exact hp)
      rwa [List.getD_cons_succ] at this)
    rw [this, show p + 1 + i = p + (i + 1) by omega]
theorem stsK_none (k : Int) : ∀ (l : List Tree) (p : Nat), (∀ j, j < l.length → placeB k (p + j) = true → valueF (l.getD j .nil) = true) → stsK k p l = none
  | [], p, h => by rw [stsK]
  | x :: l, p, h => by
    have hx : ¬ (placeB k p = true ∧ valueF x = false) := fun ⟨q1, q2⟩ => by
      have := h 0 (by simp) q1
      rw [List.getD_cons_zero, q2] at this
      cases this
    rw [stsK, if_neg hx]
    exact stsK_none k l (p + 1) fun j hj hp => by
      have := h (j + 1) (by simpa using hj) (by rw [show p + (j + 1) = p + 1 + j by omega]; exact hp)
      rwa [List.getD_cons_succ] at this
theorem stsR_at : ∀ (l : List Tree) (p i : Nat), i < l.length → valueF ((l.getD i .nil).kids.getD 0 .nil) = false → (∀ j, j < i → valueF ((l.getD j .nil).kids.getD 0 .nil) = true) → stsR p l = some (p + i, stF ((l.getD i .nil).kids.getD 0 .nil))
  | [], p, i, hi, _, _ => by simp at hi
  | x :: l, p, 0, hi, h2, h3 => by
    have h2 : valueF (x.kids.getD 0 .nil) = false := h2
    rw [stsR, if_pos h2, stI_eq]; rfl
  | x :: l, p, i + 1, hi, h2, h3 => by
    have h0 : valueF (x.kids.getD 0 .nil) = true := h3 0 (by omega)
    rw [stsR, if_neg (by rw [h0]; simp), List.getD_cons_succ]
    have := stsR_at l (p + 1) i (by simpa using hi) (by simpa only [List.getD_cons_succ] using h2) (fun j hj => by
      have := h3 (j + 1) (by omega)
      rwa [List.getD_cons_succ] at this)
    rw [this, show p + 1 + i = p + (i + 1) by omega]
theorem stsR_none : ∀ (l : List Tree) (p : Nat), (∀ j, j < l.length → valueF ((l.getD j .nil).kids.getD 0 .nil) = true) → stsR p l = none
  | [], p, h => by rw [stsR]
  | x :: l, p, h => by
    have h0 : valueF (x.kids.getD 0 .nil) = true := h 0 (by simp)
    rw [stsR, if_neg (by rw [h0]; simp)]
    exact stsR_none l (p + 1) fun j hj => by
      have := h (j + 1) (by simpa using hj)
      rwa [List.getD_cons_succ] at this
theorem place_iff {T : Tree} (h : T.kind ≠ 136) (j : Nat) : placeB T.kind j = true ↔ (plcF T).1 ≤ j ∧ j < (plcF T).2 := by
  unfold placeB plcF
  by_cases k1 : T.kind = 135 ∨ T.kind = 145
  · rw [if_pos k1, if_pos k1]; simp
  rw [if_neg k1, if_neg k1, if_neg h]
  by_cases k2 : T.kind = 141 ∨ T.kind = 146
  · rw [if_pos k2, if_pos k2]; simp; omega
  · rw [if_neg k2, if_neg k2]; simp
theorem stF_at {T : Tree} (hT : T ≠ .nil) {i : Nat} (hi : i < T.kids.length) (h1 : (plcF T).1 ≤ i ∧ i < (plcF T).2) (h2 : valueF (inF T i) = false) (h3 : ∀ j, (plcF T).1 ≤ j → j < i → valueF (inF T j) = true) :
    stF T = if (stF (inF T i)).2 ≠ 0 then (.nil, (stF (inF T i)).2) else (withT T i (stF (inF T i)).1, 0) := by
  rw [stF_eq hT]
  by_cases k : T.kind = 136
  · have hin : ∀ j, inF T j = (T.kids.getD j .nil).kids.getD 0 .nil := fun j => by unfold inF; rw [if_pos k]
    have hp0 : (plcF T).1 = 0 := by unfold plcF; rw [if_neg (by omega), if_pos k]
    rw [if_pos k, stsR_at T.kids 0 i hi (by rw [← hin]; exact h2) (fun j hj => by rw [← hin]; exact h3 j (by omega) hj), hin, Nat.zero_add]
  · have hin : ∀ j, inF T j = T.kids.getD j .nil := fun j => by unfold inF; rw [if_neg k]
    rw [if_neg k, stsK_at T.kind T.kids 0 i hi (by rw [Nat.zero_add]; exact (place_iff k i).2 h1) (by rw [← hin]; exact h2) (fun j hj hp => by
      rw [Nat.zero_add] at hp
      rw [← hin]; exact h3 j ((place_iff k j).1 hp).1 hj), hin, Nat.zero_add]
theorem stF_none {T : Tree} (hT : T ≠ .nil) (h3 : ∀ j, (plcF T).1 ≤ j → j < (plcF T).2 → valueF (inF T j) = true) : stF T = goesF T := by
  rw [stF_eq hT]
  by_cases k : T.kind = 136
  · have hin : ∀ j, inF T j = (T.kids.getD j .nil).kids.getD 0 .nil := fun j => by unfold inF; rw [if_pos k]
    have hp : plcF T = (0, T.kids.length) := by unfold plcF; rw [if_neg (by omega), if_pos k]
    rw [hp] at h3
    rw [if_pos k, stsR_none T.kids 0 fun j hj => by rw [← hin]; exact h3 j (by simp) hj]
  · have hin : ∀ j, inF T j = T.kids.getD j .nil := fun j => by unfold inF; rw [if_neg k]
    rw [if_neg k, stsK_none T.kind T.kids 0 fun j hj hp => by
      rw [Nat.zero_add] at hp
      rw [← hin]; exact h3 j ((place_iff k j).1 hp).1 ((place_iff k j).1 hp).2]
theorem freesT_get (k : Int) : ∀ (l : List Tree) (i : Nat) (c t : Int), (freesT k i l c t).2 ≤ 0 → ∀ p, p < l.length → (freeT (l.getD p .nil) (c + (bndF k (i + p)).1) (t + (bndF k (i + p)).2)).2 ≤ 0
  | [], i, c, t, h, p, hp => by simp at hp
  | x :: l, i, c, t, h, p, hp => by
    rw [freesT] at h
    simp only [mx_eq] at h
    cases p with
    | zero => simpa using (show (freeT x (c + (bndF k i).1) (t + (bndF k i).2)).2 ≤ 0 by omega)
    | succ p =>
      rw [List.getD_cons_succ, show i + (p + 1) = i + 1 + p by omega]
      exact freesT_get k l (i + 1) c t (by omega) p (by simpa using hp)
/-- What a step is asked of. -/
structure StD (T : Tree) : Prop where
  term : isTermF T = true
  size : sizeN T ≤ 65536
  free : (freeT T 0 0).2 ≤ 0
  nval : valueF T = false
theorem StD.kind {T : Tree} (h : StD T) : T.kind = 135 ∨ T.kind = 136 ∨ T.kind = 138 ∨ (140 ≤ T.kind ∧ T.kind ≤ 148) := by
  have hT := term_ne h.term
  have hh := (term_head h.term).1
  have hv := h.nval
  rw [valueF_eq hT] at hv
  have h1 : ¬ (T.kind = 131 ∨ T.kind = 132 ∨ T.kind = 133 ∨ T.kind = 134 ∨ T.kind = 139) := fun q => by rw [if_pos q] at hv; cases hv
  have h2 : T.kind ≠ 130 := fun q => by
    have := h.free
    rw [freeT_eq hT, if_pos q] at this
    have := hh.n130 q
    simp only [] at *
    omega
  have := hh.kind
  omega
theorem StD.places {T : Tree} (h : StD T) : (plcF T).1 ≤ (plcF T).2 ∧ (plcF T).2 ≤ T.kids.length := by
  have hk := h.kind
  unfold plcF
  by_cases k1 : T.kind = 135 ∨ T.kind = 145
  · rw [if_pos k1]
    have := (term_xx h.term (by omega)).1
    simp; omega
  rw [if_neg k1]
  by_cases k2 : T.kind = 136
  · rw [if_pos k2]; simp
  rw [if_neg k2]
  by_cases k3 : T.kind = 141 ∨ T.kind = 146
  · rw [if_pos k3]
    rcases k3 with k3 | k3
    · have := (term_cxc h.term k3).1
      simp; omega
    · have := (term_cx h.term (.inr k3)).1
      simp; omega
  · rw [if_neg k3]
    have : 0 < T.kids.length := by
      rcases (show T.kind = 138 ∨ T.kind = 140 ∨ (T.kind = 142 ∨ T.kind = 143) ∨ T.kind = 144 ∨ T.kind = 147 ∨ T.kind = 148 by omega) with k | k | k | k | k | k
      · have := (term_x h.term k).1; omega
      · have := (term_xc h.term k).1; omega
      · have := (term_xx h.term (by omega)).1; omega
      · have := (term_xxx h.term k).1; omega
      · have := (term_xa h.term k).1; omega
      · have := (term_xca h.term k).1; omega
    simp; omega
theorem StD.inner {T : Tree} (h : StD T) {i : Nat} (h1 : (plcF T).1 ≤ i) (h2 : i < (plcF T).2) : isTermF (inF T i) = true ∧ sizeN (inF T i) ≤ 65536 ∧ (freeT (inF T i) 0 0).2 ≤ 0 ∧ (T.kind = 136 → T.kids.getD i .nil ≠ .nil ∧ 0 < (T.kids.getD i .nil).kids.length) := by
  have hT := term_ne h.term
  have hp := h.places
  have hi : i < T.kids.length := by omega
  have hm := getD_mem hi
  have s1 := sizesN_mem hm
  have s0 := sizeN_kids hT
  have hz := h.size
  have hk := h.kind
  have hf := h.free
  rw [freeT_eq hT, if_neg (by omega), if_neg (by omega)] at hf
  have hg := freesT_get T.kind T.kids 0 0 0 hf i hi
  rw [Nat.zero_add, Int.zero_add, Int.zero_add] at hg
  by_cases k2 : T.kind = 136
  · have hin : inF T i = (T.kids.getD i .nil).kids.getD 0 .nil := by unfold inF; rw [if_pos k2]
    obtain ⟨t1, t2, t3, t4, t5⟩ := tfield_parts ((term_f h.term k2).1 _ hm)
    have m0 := getD_mem (l := (T.kids.getD i .nil).kids) (i := 0) (by omega)
    have s2 := sizesN_mem m0
    have s3 := sizeN_kids t1
    rw [hin]
    refine ⟨t5, by omega, ?_, fun _ => ⟨t1, by omega⟩⟩
    have hb : bndF T.kind i = (0, 0) := by unfold bndF; rw [if_neg (by omega), k2]; split <;> rfl
    rw [hb] at hg
    rw [freeT_eq t1, if_neg (by omega), if_neg (by omega)] at hg
    have hg2 := freesT_get _ _ 0 0 0 hg 0 (by omega)
    rw [t2] at hg2
    exact hg2
  · have hin : inF T i = T.kids.getD i .nil := by unfold inF; rw [if_neg k2]
    rw [hin]
    have hb : bndF T.kind i = (0, 0) ∧ isTermF (T.kids.getD i .nil) = true := by
      unfold plcF at h1 h2
      by_cases k1 : T.kind = 135 ∨ T.kind = 145
      · rw [if_pos k1] at h2
        have ht := term_xx h.term (by omega)
        simp only [] at h2
        rcases (show i = 0 ∨ i = 1 by omega) with rfl | rfl
        · exact ⟨by unfold bndF; rw [if_neg (by omega), if_pos (by omega)], ht.2.1⟩
        · exact ⟨by unfold bndF; rw [if_neg (by omega), if_neg (by omega), if_neg (by omega), if_neg (by omega), if_neg (by omega)], ht.2.2⟩
      rw [if_neg k1, if_neg k2] at h1 h2
      by_cases k3 : T.kind = 141 ∨ T.kind = 146
      · rw [if_pos k3] at h1 h2
        simp only [] at h1 h2
        obtain rfl : i = 1 := by omega
        refine ⟨by unfold bndF; rw [if_neg (by omega), if_neg (by omega), if_neg (by omega), if_neg (by omega), if_neg (by omega)], ?_⟩
        rcases k3 with k3 | k3
        · exact (term_cxc h.term k3).2.2.1
        · exact (term_cx h.term (.inr k3)).2.2
      · rw [if_neg k3] at h1 h2
        simp only [] at h1 h2
        obtain rfl : i = 0 := by omega
        refine ⟨by unfold bndF; rw [if_neg (by omega), if_pos (by omega)], ?_⟩
        rcases (show T.kind = 138 ∨ T.kind = 140 ∨ (T.kind = 142 ∨ T.kind = 143) ∨ T.kind = 144 ∨ T.kind = 147 ∨ T.kind = 148 by omega) with k | k | k | k | k | k
        · exact (term_x h.term k).2
        · exact (term_xc h.term k).2.1
        · exact (term_xx h.term (by omega)).2.1
        · exact (term_xxx h.term k).2.1
        · exact (term_xa h.term k).2.1
        · exact (term_xca h.term k).2.1
    rw [hb.1] at hg
    exact ⟨hb.2, by omega, hg, fun k => absurd k k2⟩
theorem tvalue_of {T : Tree} (h : isTermF T = true) (hz : sizeN T ≤ 65536) : tvalueR T = valueF T := by
  unfold tvalueR
  rw [decide_eq_true (termE_of h (term_full h) hz), Bool.true_and]
set_option maxHeartbeats 8000000 in
set_option maxRecDepth 10000 in
theorem step_ok (T : Tree) : StD T → Pure P 20 [.d (.tree T)] (.tuple [.d (.tree (stF T).1), .d (.int .i64 (stF T).2)]) := by
  suffices h : (StD T → Pure P 20 [.d (.tree T)] (.tuple [.d (.tree (stF T).1), .d (.int .i64 (stF T).2)])) ∧ ∀ x ∈ T.kids, StD x → Pure P 20 [.d (.tree x)] (.tuple [.d (.tree (stF x).1), .d (.int .i64 (stF x).2)]) from h.1
  induction T using Tree.ind' with
  | h0 => exact ⟨fun h => absurd rfl (term_ne h.term), fun x hx => (by cases hx)⟩
  | h1 T hT ih => ?_
  refine ⟨fun hD => ?_, fun x hx => (ih x hx).1⟩
  have hpl := places_ok T hT
  have hgo := goes_ok T hD.term hD.size
  obtain ⟨hp1, hp2⟩ := hD.places
  have hin := fun i => hD.inner (i := i)
  have hat := fun i => stF_at hT (i := i)
  have hno := stF_none hT
  have hsz := sizeN_kids hT
  have hlen := full_len (term_full hD.term)
  have hz := hD.size
  have hrec : ∀ i, (plcF T).1 ≤ i → i < (plcF T).2 → valueF (inF T i) = false → Pure P 20 [.d (.tree (inF T i))] (.tuple [.d (.tree (stF (inF T i)).1), .d (.int .i64 (stF (inF T i)).2)]) := fun i h1 h2 h3 => by
    obtain ⟨q1, q2, q3, q4⟩ := hin i h1 h2
    have hm := getD_mem (l := T.kids) (i := i) (by omega)
    by_cases k : T.kind = 136
    · have e : inF T i = (T.kids.getD i .nil).kids.getD 0 .nil := by unfold inF; rw [if_pos k]
      rw [e] at q1 q2 q3 h3 ⊢
      exact (ih _ hm).2 _ (getD_mem (q4 k).2) ⟨q1, q2, q3, h3⟩
    · have e : inF T i = T.kids.getD i .nil := by unfold inF; rw [if_neg k]
      rw [e] at q1 q2 q3 h3 ⊢
      exact (ih _ hm).1 ⟨q1, q2, q3, h3⟩
  clear ih
  generalize plcF T = F at *
  obtain ⟨fr, to⟩ := F
  simp only [] at *
  have wt : IntKind.i64.wrap ((to : Int) - fr) = ((to - fr : Nat) : Int) := by rw [wrap64 (by omega) (by omega)]; omega
  refine Pure.of_body tt [] [2, 3] Tryz.func20 rfl rfl rfl (Nat.le_of_ble_eq_true rfl) fun g => ?_
  repeat' ((first
    | refine then_go hm htt ?_
    | refine Side.go ?_
    | refine Hyp.go fun hlen => ?_
    | refine Split.ct ?_
    | refine Split.cf ?_
    | refine Split.tt ?_
    | refine Split.ff ?_
    | refine Indep.go ?_
    | refine CallG.gp hpl ?_
    | refine Split.go (fun hc => ?_) fun hc => ?_) <;> conv => whnf)
  refine loop_go (α := Nat) (fun p => ⟨[(0, .d (.tree T)), (4, .d (.int .i64 fr)), (17, .d (.int .i64 (IntKind.i64.wrap ((to : Int) - fr)))), (18, .d (.int .i64 p))], 47, [], 0, g⟩)
    (fun p => p ≤ to - fr ∧ ∀ j, fr ≤ j → j < fr + p → valueF (inF T j) = true) (fun p => to - fr - p) 0 ⟨by omega, fun j h1 h2 => by omega⟩
    (Ent.go []) (fun _ => rfl) fun p hpre => ?_
  obtain ⟨hq1, hq2⟩ := hpre
  by_cases hlt : p < to - fr
  · have hlt' : (p : Int) < IntKind.i64.wrap ((to : Int) - fr) := by rw [wt]; omega
    obtain ⟨q1, q2, q3, q4⟩ := hin (fr + p) (by omega) (by omega)
    have w : IntKind.i64.wrap ((fr : Int) + (p : Int)) = ((fr + p : Nat) : Int) := by rw [wrap64 (by omega) (by omega)]; omega
    have hi := inner_ok T hT (fr + p) (by omega) q4
    rw [← w] at hi
    have hv := tValue_ok (inF T (fr + p))
    rw [tvalue_of q1 q2] at hv
    cases hvv : valueF (inF T (fr + p)) with
    | true =>
      rw [hvv] at hv
      repeat' ((first
        | refine then_go hm htt ?_
        | refine Side.go ?_
        | refine Hyp.go fun hlen => ?_
        | refine Split.ct ?_
        | refine Split.cf ?_
        | refine Split.tt ?_
        | refine Split.ff ?_
        | refine Indep.go ?_
        | refine CallG.gp hi ?_
        | refine CallG.gp hv ?_
        | refine Split.go (fun hc => ?_) fun hc => ?_) <;> conv => whnf)
      refine ⟨p + 1, ⟨by omega, fun j h1 h2 => ?_⟩, by omega, Ent.go []⟩
      by_cases e : j = fr + p
      · rw [e]; exact hvv
      · exact hq2 j h1 (by omega)
    | false =>
      rw [hvv] at hv
      have hs := hrec (fr + p) (by omega) (by omega) hvv
      have he := hat (fr + p) (by omega) ⟨by omega, by omega⟩ hvv hq2
      generalize stF (inF T (fr + p)) = R at *
      obtain ⟨m, e⟩ := R
      simp only [] at hs he
      by_cases h0 : e = 0
      · subst h0
        rw [if_neg (by omega)] at he
        rw [he]
        have hw := with_ok T hT (fr + p) (by omega) (by omega) (fun k => (q4 k).1) m
        rw [← w] at hw
        repeat' ((first
          | refine then_go hm htt ?_
          | refine Side.go ?_
          | refine Hyp.go fun hlen => ?_
          | refine Split.ct ?_
          | refine Split.cf ?_
          | refine Split.tt ?_
          | refine Split.ff ?_
          | refine Indep.go ?_
          | refine CallG.gp hi ?_
          | refine CallG.gp hv ?_
          | refine CallG.gp hs ?_
          | refine CallG.gp hw ?_
          | refine Split.go (fun hc => ?_) fun hc => ?_) <;> conv => whnf)
        exact ret_closed rfl rfl rfl
      · rw [if_pos h0] at he
        rw [he]
        repeat' ((first
          | refine then_go hm htt ?_
          | refine Side.go ?_
          | refine Hyp.go fun hlen => ?_
          | refine Split.ct ?_
          | refine Split.cf ?_
          | refine Split.tt ?_
          | refine Split.ff ?_
          | refine Indep.go ?_
          | refine CallG.gp hi ?_
          | refine CallG.gp hv ?_
          | refine CallG.gp hs ?_
          | refine Split.go (fun hc => ?_) fun hc => ?_) <;> conv => whnf)
        exact ret_closed rfl rfl rfl
  · have hlt' : ¬ (p : Int) < IntKind.i64.wrap ((to : Int) - fr) := by rw [wt]; omega
    rw [hno fun j h1 h2 => hq2 j h1 (by omega)]
    generalize goesF T = R at *
    repeat' ((first
      | refine then_go hm htt ?_
      | refine Side.go ?_
      | refine Hyp.go fun hlen => ?_
      | refine Split.ct ?_
      | refine Split.cf ?_
      | refine Split.tt ?_
      | refine Split.ff ?_
      | refine Indep.go ?_
      | refine CallG.gp hgo ?_
      | refine Split.go (fun hc => ?_) fun hc => ?_) <;> conv => whnf)
    exact ret_closed rfl rfl rfl
set_option maxHeartbeats 4000000 in
set_option maxRecDepth 10000 in
theorem Step_ok (T : Tree) : Pure P 7 [.d (.tree T)] (.tuple [.d (.tree (stepR T).1), .d (.bool (stepR T).2.1), .d (.int .i64 (stepR T).2.2)]) := by
  have h1 := tCheck_ok T
  have h2 := sbClosed_ok T
  have h3 := tValue_ok T
  refine Pure.of_body tt [] [2, 3, 4] Tryz.func7 rfl rfl rfl (Nat.le_of_ble_eq_true rfl) fun g => ?_
  unfold stepR
  by_cases e1 : termE T = 0
  · obtain ⟨t1, t2, t3⟩ := termE_ok e1
    rw [tvalue_of t1 t2] at h3
    rw [if_neg (by omega)]
    rw [e1] at h1
    cases e2 : closedF T with
    | false =>
      rw [if_pos rfl]
      rw [e2] at h2
      repeat' ((first
        | refine then_go hm htt ?_
        | refine Side.go ?_
        | refine Hyp.go fun hlen => ?_
        | refine Split.ct ?_
        | refine Split.cf ?_
        | refine Split.tt ?_
        | refine Split.ff ?_
        | refine Indep.go ?_
        | refine CallG.gp h1 ?_
        | refine CallG.gp h2 ?_
        | refine Split.go (fun hc => ?_) fun hc => ?_) <;> conv => whnf)
      exact ret_closed rfl rfl rfl
    | true =>
      rw [if_neg (by simp)]
      rw [e2] at h2
      cases e3 : valueF T with
      | true =>
        rw [if_pos rfl]
        rw [e3] at h3
        repeat' ((first
          | refine then_go hm htt ?_
          | refine Side.go ?_
          | refine Hyp.go fun hlen => ?_
          | refine Split.ct ?_
          | refine Split.cf ?_
          | refine Split.tt ?_
          | refine Split.ff ?_
          | refine Indep.go ?_
          | refine CallG.gp h1 ?_
          | refine CallG.gp h2 ?_
          | refine CallG.gp h3 ?_
          | refine Split.go (fun hc => ?_) fun hc => ?_) <;> conv => whnf)
        exact ret_closed rfl rfl rfl
      | false =>
        rw [if_neg (by simp)]
        rw [e3] at h3
        have h4 := step_ok T ⟨t1, t2, (closed_free e1 e2).2, e3⟩
        generalize stF T = R at *
        obtain ⟨m, e⟩ := R
        simp only [] at h4 ⊢
        by_cases h0 : e = 0
        · subst h0
          rw [if_neg (by omega)]
          have h5 := tCheck_ok m
          by_cases e5 : termE m = 0
          · rw [if_neg (by omega)]
            rw [e5] at h5
            repeat' ((first
              | refine then_go hm htt ?_
              | refine Side.go ?_
              | refine Hyp.go fun hlen => ?_
              | refine Split.ct ?_
              | refine Split.cf ?_
              | refine Split.tt ?_
              | refine Split.ff ?_
              | refine Indep.go ?_
              | refine CallG.gp h1 ?_
              | refine CallG.gp h2 ?_
              | refine CallG.gp h3 ?_
              | refine CallG.gp h4 ?_
              | refine CallG.gp h5 ?_
              | refine Split.go (fun hc => ?_) fun hc => ?_) <;> conv => whnf)
            exact ret_closed rfl rfl rfl
          · rw [if_pos e5]
            generalize termE m = E at *
            repeat' ((first
              | refine then_go hm htt ?_
              | refine Side.go ?_
              | refine Hyp.go fun hlen => ?_
              | refine Split.ct ?_
              | refine Split.cf ?_
              | refine Split.tt ?_
              | refine Split.ff ?_
              | refine Indep.go ?_
              | refine CallG.gp h1 ?_
              | refine CallG.gp h2 ?_
              | refine CallG.gp h3 ?_
              | refine CallG.gp h4 ?_
              | refine CallG.gp h5 ?_
              | refine Split.go (fun hc => ?_) fun hc => ?_) <;> conv => whnf)
            exact ret_closed rfl rfl rfl
        · rw [if_pos h0]
          repeat' ((first
            | refine then_go hm htt ?_
            | refine Side.go ?_
            | refine Hyp.go fun hlen => ?_
            | refine Split.ct ?_
            | refine Split.cf ?_
            | refine Split.tt ?_
            | refine Split.ff ?_
            | refine Indep.go ?_
            | refine CallG.gp h1 ?_
            | refine CallG.gp h2 ?_
            | refine CallG.gp h3 ?_
            | refine CallG.gp h4 ?_
            | refine Split.go (fun hc => ?_) fun hc => ?_) <;> conv => whnf)
          exact ret_closed rfl rfl rfl
  · rw [if_pos e1]
    generalize termE T = E at *
    repeat' ((first
      | refine then_go hm htt ?_
      | refine Side.go ?_
      | refine Hyp.go fun hlen => ?_
      | refine Split.ct ?_
      | refine Split.cf ?_
      | refine Split.tt ?_
      | refine Split.ff ?_
      | refine Indep.go ?_
      | refine CallG.gp h1 ?_
      | refine Split.go (fun hc => ?_) fun hc => ?_) <;> conv => whnf)
    exact ret_closed rfl rfl rfl
set_option maxHeartbeats 4000000 in
set_option maxRecDepth 10000 in
theorem Run_ok (T : Tree) (most : Int) (hm1 : most ≤ 17592186044416) : Pure P 11 [.d (.tree T), .d (.int .i64 most)] (.tuple [.d (.tree (runR T most).1), .d (.int .i64 (runR T most).2.1), .d (.int .i64 (runR T most).2.2)]) := by
  refine Pure.of_body tt [] [4, 5, 6] Tryz.func11 rfl rfl rfl (Nat.le_of_ble_eq_true rfl) fun g => ?_
  unfold runR
  by_cases hn : most < 0
  · rw [if_pos hn]
    repeat' ((first
      | refine then_go hm htt ?_
      | refine Side.go ?_
      | refine Hyp.go fun hlen => ?_
      | refine Split.ct ?_
      | refine Split.cf ?_
      | refine Split.tt ?_
      | refine Split.ff ?_
      | refine Indep.go ?_
      | refine Split.go (fun hc => ?_) fun hc => ?_) <;> conv => whnf)
    exact ret_closed rfl rfl rfl
  rw [if_neg hn]
  generalize hZ : runF most.toNat T 0 = Z
  repeat' ((first
    | refine then_go hm htt ?_
    | refine Side.go ?_
    | refine Hyp.go fun hlen => ?_
    | refine Split.ct ?_
    | refine Split.cf ?_
    | refine Split.tt ?_
    | refine Split.ff ?_
    | refine Indep.go ?_
    | refine Split.go (fun hc => ?_) fun hc => ?_) <;> conv => whnf)
  refine loop_go (α := Nat × Tree) (fun p => ⟨[(0, .d (.tree p.2)), (1, .d (.int .i64 most)), (5, .d (.int .i64 p.1))], 36, [], 0, g⟩)
    (fun p => p.1 ≤ most.toNat ∧ runF (most.toNat - p.1) p.2 p.1 = Z) (fun p => most.toNat - p.1) (0, T) ⟨by simp, hZ⟩
    (Ent.go []) (fun _ => rfl) fun p hpre => ?_
  obtain ⟨s, U⟩ := p
  obtain ⟨hp1, hp2⟩ := hpre
  simp only [] at hp1 hp2
  have hs := Step_ok U
  by_cases hlt : s < most.toNat
  · obtain ⟨k, hk⟩ : ∃ k, most.toNat - s = k + 1 := ⟨most.toNat - s - 1, by omega⟩
    rw [hk, runF] at hp2
    generalize stepR U = R at *
    obtain ⟨m, b, e⟩ := R
    simp only [] at hs hp2
    by_cases he : e = 0
    · subst he
      rw [if_neg (by omega)] at hp2
      cases b with
      | false =>
        rw [if_pos rfl] at hp2
        rw [← hp2]
        repeat' ((first
          | refine then_go hm htt ?_
          | refine Side.go ?_
          | refine Hyp.go fun hlen => ?_
          | refine Split.ct ?_
          | refine Split.cf ?_
          | refine Split.tt ?_
          | refine Split.ff ?_
          | refine Indep.go ?_
          | refine CallG.gp hs ?_
          | refine Split.go (fun hc => ?_) fun hc => ?_) <;> conv => whnf)
        exact ret_closed rfl rfl rfl
      | true =>
        rw [if_neg (by simp)] at hp2
        repeat' ((first
          | refine then_go hm htt ?_
          | refine Side.go ?_
          | refine Hyp.go fun hlen => ?_
          | refine Split.ct ?_
          | refine Split.cf ?_
          | refine Split.tt ?_
          | refine Split.ff ?_
          | refine Indep.go ?_
          | refine CallG.gp hs ?_
          | refine Split.go (fun hc => ?_) fun hc => ?_) <;> conv => whnf)
        exact ⟨(s + 1, m), ⟨by simp only []; omega, by
          simp only []
          rw [show most.toNat - (s + 1) = k by omega, ← hp2]
          rfl⟩, by simp only []; omega, Ent.go []⟩
    · rw [if_pos he] at hp2
      rw [← hp2]
      repeat' ((first
        | refine then_go hm htt ?_
        | refine Side.go ?_
        | refine Hyp.go fun hlen => ?_
        | refine Split.ct ?_
        | refine Split.cf ?_
        | refine Split.tt ?_
        | refine Split.ff ?_
        | refine Indep.go ?_
        | refine CallG.gp hs ?_
        | refine Split.go (fun hc => ?_) fun hc => ?_) <;> conv => whnf)
      exact ret_closed rfl rfl rfl
  · rw [show most.toNat - s = 0 by omega, runF] at hp2
    have hms : (s : Int) = most := by omega
    generalize stepR U = R at *
    obtain ⟨m, b, e⟩ := R
    simp only [] at hs hp2
    by_cases he : e = 0
    · subst he
      rw [if_neg (by omega)] at hp2
      cases b with
      | false =>
        rw [if_pos rfl] at hp2
        rw [← hp2]
        repeat' ((first
          | refine then_go hm htt ?_
          | refine Side.go ?_
          | refine Hyp.go fun hlen => ?_
          | refine Split.ct ?_
          | refine Split.cf ?_
          | refine Split.tt ?_
          | refine Split.ff ?_
          | refine Indep.go ?_
          | refine CallG.gp hs ?_
          | refine Split.go (fun hc => ?_) fun hc => ?_) <;> conv => whnf)
        exact ret_closed rfl rfl rfl
      | true =>
        rw [if_neg (by simp)] at hp2
        rw [← hp2]
        repeat' ((first
          | refine then_go hm htt ?_
          | refine Side.go ?_
          | refine Hyp.go fun hlen => ?_
          | refine Split.ct ?_
          | refine Split.cf ?_
          | refine Split.tt ?_
          | refine Split.ff ?_
          | refine Indep.go ?_
          | refine CallG.gp hs ?_
          | refine Split.go (fun hc => ?_) fun hc => ?_) <;> conv => whnf)
        exact ret_closed rfl (tup3 rfl (int_eq hms.symm) rfl) rfl
    · rw [if_pos he] at hp2
      rw [← hp2]
      repeat' ((first
        | refine then_go hm htt ?_
        | refine Side.go ?_
        | refine Hyp.go fun hlen => ?_
        | refine Split.ct ?_
        | refine Split.cf ?_
        | refine Split.tt ?_
        | refine Split.ff ?_
        | refine Indep.go ?_
        | refine CallG.gp hs ?_
        | refine Split.go (fun hc => ?_) fun hc => ?_) <;> conv => whnf)
      exact ret_closed rfl rfl rfl
end St
end Go.Proofs.YtoajaklekmbcdaaGreat

namespace Go.Proofs.YtoajaklekmbcdaaGreat
namespace St
open Go Go.Mq Tm Sb
set_option linter.all false

/-! Runs, plainly -/
def itF : Nat → Tree → Tree
  | 0, T => T
  | j + 1, T => itF j (stepR T).1
def goOn (T : Tree) : Prop := (stepR T).2.2 = 0 ∧ (stepR T).2.1 = true
def done (T : Tree) : Prop := (stepR T).2.2 = 0 ∧ (stepR T).2.1 = false
theorem itF_succ : ∀ (j : Nat) (T : Tree), itF (j + 1) T = (stepR (itF j T)).1
  | 0, T => rfl
  | j + 1, T => by rw [itF, itF_succ j]; rfl
theorem run_zero : ∀ (k : Nat) (T v : Tree) (s n : Int), runF k T s = (v, n, 0) → ∃ j, j ≤ k ∧ n = s + j ∧ (∀ i, i < j → goOn (itF i T)) ∧ itF j T = v ∧ done v
  | 0, T, v, s, n, h => by
    rw [runF] at h
    by_cases h1 : (stepR T).2.2 = 0
    · rw [if_neg (by omega)] at h
      cases hb : (stepR T).2.1 with
      | true => rw [hb, if_neg (by simp)] at h; exact absurd (Prod.mk.inj (Prod.mk.inj h).2).2 (by decide)
      | false =>
        rw [hb, if_pos rfl] at h
        have h := Prod.mk.inj h
        have h' := Prod.mk.inj h.2
        exact ⟨0, Nat.le_refl _, by simp [h'.1], fun i hi => by omega, h.1, by rw [← h.1]; exact ⟨h1, hb⟩⟩
    · rw [if_pos h1] at h; exact absurd (Prod.mk.inj (Prod.mk.inj h).2).2 h1
  | k + 1, T, v, s, n, h => by
    rw [runF] at h
    by_cases h1 : (stepR T).2.2 = 0
    · rw [if_neg (by omega)] at h
      cases hb : (stepR T).2.1 with
      | true =>
        rw [hb, if_neg (by simp)] at h
        obtain ⟨j, h2, h3, h4, h5, h6⟩ := run_zero k _ v (s + 1) n h
        refine ⟨j + 1, by omega, by rw [h3]; push_cast; omega, fun i hi => ?_, h5, h6⟩
        cases i with
        | zero => exact ⟨h1, hb⟩
        | succ i => exact h4 i (by omega)
      | false =>
        rw [hb, if_pos rfl] at h
        have h := Prod.mk.inj h
        have h' := Prod.mk.inj h.2
        exact ⟨0, by omega, by simp [h'.1], fun i hi => by omega, h.1, by rw [← h.1]; exact ⟨h1, hb⟩⟩
    · rw [if_pos h1] at h; exact absurd (Prod.mk.inj (Prod.mk.inj h).2).2 h1
theorem run_of : ∀ (k j : Nat) (T : Tree) (s : Int), j ≤ k → (∀ i, i < j → goOn (itF i T)) → done (itF j T) → runF k T s = (itF j T, s + j, 0)
  | 0, 0, T, s, _, _, hd => by
    rw [runF, if_neg (by have := hd.1; simp only [itF] at this; omega), if_pos (by have := hd.2; simpa only [itF] using this)]
    simp [itF]
  | k + 1, 0, T, s, _, _, hd => by
    rw [runF, if_neg (by have := hd.1; simp only [itF] at this; omega), if_pos (by have := hd.2; simpa only [itF] using this)]
    simp [itF]
  | 0, j + 1, T, s, h, _, _ => by omega
  | k + 1, j + 1, T, s, h, hg, hd => by
    have h0 := hg 0 (by omega)
    simp only [itF] at h0
    rw [runF, if_neg (by have := h0.1; omega), if_neg (by rw [h0.2]; simp), run_of k j (stepR T).1 (s + 1) (by omega) (fun i hi => hg (i + 1) (by omega)) hd]
    rw [itF]
    congr 2
    push_cast; omega
theorem run_less : ∀ (k j : Nat) (T : Tree) (s : Int), k < j → (∀ i, i < j → goOn (itF i T)) → runF k T s = (.nil, s + k, 18)
  | 0, j, T, s, h, hg => by
    have h0 := hg 0 (by omega)
    simp only [itF] at h0
    rw [runF, if_neg (by have := h0.1; omega), if_neg (by rw [h0.2]; simp)]
    simp
  | k + 1, 0, T, s, h, _ => by omega
  | k + 1, j + 1, T, s, h, hg => by
    have h0 := hg 0 (by omega)
    simp only [itF] at h0
    rw [runF, if_neg (by have := h0.1; omega), if_neg (by rw [h0.2]; simp), run_less k j (stepR T).1 (s + 1) (by omega) (fun i hi => hg (i + 1) (by omega))]
    congr 2
    push_cast; omega
theorem run_err : ∀ (k : Nat) (T : Tree) (s : Int), (runF k T s).2.2 ≠ 0 → (runF k T s).1 = .nil
  | 0, T, s, h => by
    rw [runF] at h ⊢
    split at h
    · rename_i q; rw [if_pos q]
    · rename_i q
      rw [if_neg q]
      split at h
      · exact absurd rfl h
      · rename_i q2; rw [if_neg q2]
  | k + 1, T, s, h => by
    rw [runF] at h ⊢
    split at h
    · rename_i q; rw [if_pos q]
    · rename_i q
      rw [if_neg q]
      split at h
      · exact absurd rfl h
      · rename_i q2; rw [if_neg q2]; exact run_err k _ _ h
theorem done_value {v : Tree} (h : done v) : tvalueR v = true := by
  obtain ⟨h1, h2⟩ := h
  unfold stepR at h1 h2
  by_cases e1 : termE v = 0
  · rw [if_neg (by omega)] at h1 h2
    cases e2 : closedF v with
    | false => rw [e2, if_pos rfl] at h1; exact absurd h1 (by decide)
    | true =>
      rw [e2, if_neg (by simp)] at h1 h2
      cases e3 : valueF v with
      | true => unfold tvalueR; rw [e1, e3]; rfl
      | false =>
        rw [e3, if_neg (by simp)] at h1 h2
        by_cases e4 : (stF v).2 = 0
        · rw [if_neg (by omega)] at h1 h2
          by_cases e5 : termE (stF v).1 = 0
          · rw [if_neg (by omega)] at h2; cases h2
          · rw [if_pos e5] at h1; exact absurd h1 e5
        · rw [if_pos e4] at h1; exact absurd h1 e4
  · rw [if_pos e1] at h1; exact absurd h1 e1
/-! The example -/
def opN (n : Int) (a b : Tree) : Tree := .node 145 n ByteArray.empty ByteArray.empty [a, b]
def w16 : Tree := opN 1 (numN 2) (opN 3 (numN 2) (numN 2))
def w16m : Tree := opN 1 (numN 2) (numN 4)
def w16s : ByteArray := ⟨#[91, 32, 111, 112, 32, 49, 32, 50, 32, 52, 32, 93]⟩
theorem w16_step : stepR w16 = (w16m, true, 0) := by kernel_rfl
theorem w16_run : runR w16 9 = (numN 6, 2, 0) := by kernel_rfl
theorem w16_show : tshowR w16m = w16s := by kernel_rfl
theorem w16_six : tshowR (numN 6) = ⟨#[54]⟩ := by kernel_rfl
theorem num_ok (n : Int) : Pure P 26 [.d (.int .i64 n)] (.d (.tree (numN n))) := by
  refine Pure.of_body tt [5] [2] Tryz.func26 rfl rfl rfl (Nat.le_of_ble_eq_true rfl) fun g => ?_
  repeat' ((first
    | refine then_go hm htt ?_
    | refine Side.go ?_
    | refine Hyp.go fun hlen => ?_
    | refine Split.ct ?_
    | refine Split.cf ?_
    | refine Split.tt ?_
    | refine Split.ff ?_
    | refine Indep.go ?_
    | refine Split.go (fun hc => ?_) fun hc => ?_) <;> conv => whnf)
  exact ret_closed rfl rfl rfl
theorem opn_ok (n : Int) (a b : Tree) : Pure P 25 [.d (.int .i64 n), .d (.tree a), .d (.tree b)] (.d (.tree (opN n a b))) := by
  refine Pure.of_body tt [10, 12] [6] Tryz.func25 rfl rfl rfl (Nat.le_of_ble_eq_true rfl) fun g => ?_
  repeat' ((first
    | refine then_go hm htt ?_
    | refine Side.go ?_
    | refine Hyp.go fun hlen => ?_
    | refine Split.ct ?_
    | refine Split.cf ?_
    | refine Split.tt ?_
    | refine Split.ff ?_
    | refine Indep.go ?_
    | refine Split.go (fun hc => ?_) fun hc => ?_) <;> conv => whnf)
  exact ret_closed rfl rfl rfl
set_option maxRecDepth 10000 in
theorem works16_ok : Pure P 10 [] (.d (.bool true)) := by
  have h1 := Step_ok w16
  rw [w16_step] at h1
  have h2 := Run_ok w16 9 (by omega)
  rw [w16_run] at h2
  have h3 := tShow_ok w16m
  rw [w16_show] at h3
  have h4 := tShow_ok (numN 6)
  rw [w16_six] at h4
  refine Pure.of_body tt [] [0] Tryz.func10 rfl rfl rfl (Nat.le_of_ble_eq_true rfl) fun g => ?_
  repeat' ((first
    | refine then_go hm htt ?_
    | refine Side.go ?_
    | refine Hyp.go fun hlen => ?_
    | refine Split.ct ?_
    | refine Split.cf ?_
    | refine Split.tt ?_
    | refine Split.ff ?_
    | refine Indep.go ?_
    | refine CallG.gp (num_ok _) ?_
    | refine CallG.gp (opn_ok _ _ _) ?_
    | refine CallG.gp h1 ?_
    | refine CallG.gp h2 ?_
    | refine CallG.gp h3 ?_
    | refine CallG.gp h4 ?_
    | refine Split.go (fun hc => ?_) fun hc => ?_) <;> conv => whnf)
  all_goals first
    | exact ret_closed rfl (bool_eq (bytes_eq.2 rfl)) rfl
    | exact ret_closed rfl rfl rfl
    | exact absurd rfl hc
end St
end Go.Proofs.YtoajaklekmbcdaaGreat

namespace Go.Proofs.YtoajaklekmbcdaaGreat
namespace St
open Go Go.Mq Tm Sb
set_option linter.all false

/-! Operations on numbers -/
def inR (a : Int) : Prop := -1073741824 ≤ a ∧ a ≤ 1073741824
theorem num_term {a : Int} (h : inR a) : isTermF (numN a) = true := by
  have hh : headF (numN a) = true := by
    rw [head_plain (T := numN a) ⟨show (131 : Int) ≠ 138 by decide, show (131 : Int) ≠ 146 by decide⟩]
    have g1 : decide ((-1073741824 : Int) ≤ (numN a).n) = true := decide_eq_true h.1
    have g2 : decide ((numN a).n ≤ 1073741824) = true := decide_eq_true h.2
    unfold numT
    rw [if_neg (show ¬ (numN a).kind = 130 from by show ¬ (131 : Int) = 130; decide), if_pos (show (numN a).kind = 131 from rfl), g1, g2]
    rfl
  rw [isTermF_eq (by unfold numN; simp), hh, if_pos (.inr (.inl rfl))]
  rfl
theorem bool_term (b : Bool) : isTermF (boolN b) = true := by cases b <;> kernel_rfl
theorem opn_term {n : Int} {a b : Tree} (hn : 1 ≤ n ∧ n ≤ 5) (ha : isTermF a = true) (hb : isTermF b = true) : isTermF (opN n a b) = true := by
  have hh : headF (opN n a b) = true := by
    rw [head_plain (T := opN n a b) ⟨show (145 : Int) ≠ 138 by decide, show (145 : Int) ≠ 146 by decide⟩]
    have g1 : decide ((1 : Int) ≤ (opN n a b).n) = true := decide_eq_true hn.1
    have g2 : decide ((opN n a b).n ≤ 5) = true := decide_eq_true hn.2
    unfold numT
    rw [if_neg (show ¬ (opN n a b).kind = 130 from by show ¬ (145 : Int) = 130; decide), if_neg (show ¬ (opN n a b).kind = 131 from by show ¬ (145 : Int) = 131; decide), if_neg (show ¬ (opN n a b).kind = 132 from by show ¬ (145 : Int) = 132; decide), if_pos (show (opN n a b).kind = 145 from rfl), g1, g2]
    rfl
  rw [isTermF_eq (by unfold opN; simp), hh, Bool.true_and]
  unfold opN
  simp [Tree.kind, Tree.kids, ha, hb]
theorem num_full (a : Int) : Full (numN a) := .node fun x hx => by cases hx
theorem free_num (a c t : Int) : freeT (numN a) c t = (0, 0) := by
  unfold numN
  rw [freeT_eq (by simp)]
  simp [Tree.kind, Tree.kids, freesT]
theorem step_op {n a b : Int} (hn : 1 ≤ n ∧ n ≤ 5) (ha : inR a) (hb : inR b) : stepR (opN n (numN a) (numN b)) = if (opF (opN n (numN a) (numN b))).2 ≠ 0 then (.nil, false, (opF (opN n (numN a) (numN b))).2) else ((opF (opN n (numN a) (numN b))).1, true, 0) := by
  have ht := opn_term hn (num_term ha) (num_term hb)
  have hF := term_full ht
  have hz : sizeN (opN n (numN a) (numN b)) ≤ 65536 := by unfold opN numN; simp [sizeN, sizesN]
  have hE := termE_of ht hF hz
  have hfr : freeT (opN n (numN a) (numN b)) 0 0 = (0, 0) := by
    unfold opN
    rw [freeT, if_neg (by decide), if_neg (by decide), freesT, freesT, freesT, free_num, free_num]
    rfl
  have hc := closed_of hE (by rw [hfr]; simp) (by rw [hfr]; simp)
  have hv : valueF (opN n (numN a) (numN b)) = false := by
    unfold opN
    rw [valueF_eq (by simp)]
    simp [Tree.kind]
  have hnv : ∀ x : Int, valueF (numN x) = true := fun x => by
    unfold numN
    rw [valueF_eq (by simp)]
    simp [Tree.kind]
  have hs : stF (opN n (numN a) (numN b)) = opF (opN n (numN a) (numN b)) := by
    rw [stF_none (by unfold opN; simp) fun j h1 h2 => ?_]
    · unfold goesF
      have e : (opN n (numN a) (numN b)).kind = 145 := rfl
      rw [if_neg (by rw [e]; decide), if_neg (by rw [e]; decide), if_neg (by rw [e]; decide), if_neg (by rw [e]; decide), if_neg (by rw [e]; decide), if_neg (by rw [e]; decide), if_pos e]
    · have e : plcF (opN n (numN a) (numN b)) = (0, 2) := by unfold plcF; rw [if_pos (.inr rfl)]
      rw [e] at h1 h2
      have e2 : inF (opN n (numN a) (numN b)) j = (opN n (numN a) (numN b)).kids.getD j .nil := by unfold inF; rw [if_neg (by show ¬ (145 : Int) = 136; decide)]
      rw [e2]
      simp only [] at h2
      rcases (show j = 0 ∨ j = 1 by omega) with rfl | rfl
      · exact hnv a
      · exact hnv b
  unfold stepR
  rw [if_neg (by omega), if_neg (by rw [hc]; simp), if_neg (by rw [hv]; simp), hs]
  by_cases h0 : (opF (opN n (numN a) (numN b))).2 = 0
  · have : termE (opF (opN n (numN a) (numN b))).1 = 0 := by
      unfold opF at h0 ⊢
      have e0 : (kidT (opN n (numN a) (numN b)) 0) = numN a := rfl
      have e1 : (kidT (opN n (numN a) (numN b)) 1) = numN b := rfl
      have en : (opN n (numN a) (numN b)).n = n := rfl
      rw [e0, e1, en] at h0 ⊢
      rw [if_neg (show ¬ ((numN a).kind ≠ 131 ∨ (numN b).kind ≠ 131) from by simp [numN, Tree.kind])] at h0 ⊢
      by_cases n4 : n = 4
      · rw [if_pos n4]
        exact termE_of (bool_term _) (term_full (bool_term _)) (by unfold boolN; simp [sizeN, sizesN])
      rw [if_neg n4] at h0 ⊢
      by_cases n5 : n = 5
      · rw [if_pos n5]
        exact termE_of (bool_term _) (term_full (bool_term _)) (by unfold boolN; simp [sizeN, sizesN])
      rw [if_neg n5] at h0 ⊢
      by_cases q : sumF n (numN a).n (numN b).n < -1073741824 ∨ 1073741824 < sumF n (numN a).n (numN b).n
      · rw [if_pos q] at h0; exact absurd h0 (by decide)
      · rw [if_neg q]
        have : inR (sumF n (numN a).n (numN b).n) := ⟨by omega, by omega⟩
        exact termE_of (num_term this) (num_full _) (by unfold numN; simp [sizeN, sizesN])
    simp [h0, this]
  · rw [if_pos h0, if_pos h0]
theorem step_sum {n a b : Int} (hn : n = 1 ∨ n = 2 ∨ n = 3) (ha : inR a) (hb : inR b) : stepR (opN n (numN a) (numN b)) = if sumF n a b < -1073741824 ∨ 1073741824 < sumF n a b then (.nil, false, 19) else (numN (sumF n a b), true, 0) := by
  rw [step_op (by omega) ha hb]
  have e : opF (opN n (numN a) (numN b)) = if sumF n a b < -1073741824 ∨ 1073741824 < sumF n a b then (.nil, 19) else (numN (sumF n a b), 0) := by
    unfold opF
    have e0 : (kidT (opN n (numN a) (numN b)) 0) = numN a := rfl
    have e1 : (kidT (opN n (numN a) (numN b)) 1) = numN b := rfl
    have en : (opN n (numN a) (numN b)).n = n := rfl
    rw [e0, e1, en, if_neg (show ¬ ((numN a).kind ≠ 131 ∨ (numN b).kind ≠ 131) from by simp [numN, Tree.kind]), if_neg (by omega), if_neg (by omega)]
    rfl
  rw [e]
  split
  · rw [if_pos (by simp)]
  · rw [if_neg (by simp)]
theorem step_cmp {n a b : Int} (hn : n = 4 ∨ n = 5) (ha : inR a) (hb : inR b) : stepR (opN n (numN a) (numN b)) = (boolN (if n = 4 then decide (a = b) else decide (a < b)), true, 0) := by
  rw [step_op (by omega) ha hb]
  have e : opF (opN n (numN a) (numN b)) = (boolN (if n = 4 then decide (a = b) else decide (a < b)), 0) := by
    unfold opF
    have e0 : (kidT (opN n (numN a) (numN b)) 0) = numN a := rfl
    have e1 : (kidT (opN n (numN a) (numN b)) 1) = numN b := rfl
    have en : (opN n (numN a) (numN b)).n = n := rfl
    rw [e0, e1, en, if_neg (show ¬ ((numN a).kind ≠ 131 ∨ (numN b).kind ≠ 131) from by simp [numN, Tree.kind])]
    rcases hn with rfl | rfl
    · rw [if_pos rfl, if_pos rfl]; rfl
    · rw [if_neg (by decide), if_pos rfl, if_neg (by decide)]; rfl
  rw [e, if_neg (by simp)]
theorem clip_in (a : Int) : inR (a.tmod 1073741825) := by
  have h1 := Int.tmod_lt_of_pos a (show (0 : Int) < 1073741825 by omega)
  have h2 := Int.lt_tmod_of_pos a (show (0 : Int) < 1073741825 by omega)
  exact ⟨by omega, by omega⟩
end St
end Go.Proofs.YtoajaklekmbcdaaGreat

namespace Go.Proofs.YtoajaklekmbcdaaGreat
namespace St
open Go Go.Mq Tm Sb
set_option linter.all false

theorem num_ne (r : Int) : numN r ≠ .nil := by unfold numN; simp
theorem booln_ne (b : Bool) : boolN b ≠ .nil := by unfold boolN; simp
end St
end Go.Proofs.YtoajaklekmbcdaaGreat
