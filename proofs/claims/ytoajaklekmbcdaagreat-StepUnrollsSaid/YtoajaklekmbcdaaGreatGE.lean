/- What functions of the program compute, and plain facts about it. -/
import Derived.Test.YtoajaklekmbcdaaGreatGC
import Derived.Test.YtoajaklekmbcdaaGreatGD
set_option linter.all false
namespace Go.Proofs.YtoajaklekmbcdaaGreat
namespace No
open Go Go.Mq
set_option linter.all false

/-! norm: a step -/
set_option maxRecDepth 10000 in
theorem clone_ok (l : List Tree) (hl : l ≠ []) (hlen : l.length ≤ 17592186044416) : Fun P 67 [.d (.trees l)] [] 0 (.row 0 l.length) [(0, .row 25 (.trees l))] 1 := by
  refine Fun.of_body tt [] [2] (Tryz.func67) rfl rfl rfl (Nat.le_of_ble_eq_true rfl) fun g => ?_
  repeat' ((first
    | refine then_go hm htt ?_
    | refine Side.go ?_
    | refine Hyp.go fun hlen => ?_
    | refine Split.ct ?_
    | refine Split.cf ?_
    | refine Split.tt ?_
    | refine Split.ff ?_
    | refine Indep.go ?_
    | refine Side.mk (show 0 + l.length ≤ maxN ∧ (0 + l.length) * 8 ≤ 140737488355328 from ⟨by unfold maxN; omega, by omega⟩) ?_
    | refine Split.go (fun hc => ?_) fun hc => ?_) <;> conv => whnf)
  refine RetS.ent (σ' := ⟨[(2, .row 0 l.length)], 8, [(0, .row 25 (.trees l))], 1, g⟩) (Ent.re [1] rfl rfl rfl rfl rfl rfl ⟨⟨by show AVal.row 1 (0 + l.length) = AVal.row 1 l.length; rw [Nat.zero_add], rfl⟩, trivial⟩ (by repeat' first | exact trivial | apply And.intro | rfl | (refine int_eq ?_; rw [wrap64] <;> omega))) ?_
  exact ret_objs rfl rfl rfl ⟨rfl, trivial⟩ (Nat.zero_le _)

/-- Applications and functions have two kids. -/
inductive Ap : Tree → Prop
  | node {k n : Int} {nm mk : ByteArray} {l : List Tree} (h2 : k = 119 ∨ k = 120 → l.length = 2) (h : ∀ x ∈ l, Ap x) : Ap (.node k n nm mk l)
theorem Ap.of {T : Tree} (hT : T ≠ .nil) (h2 : T.kind = 119 ∨ T.kind = 120 → T.kids.length = 2) (hk : ∀ x ∈ T.kids, Ap x) : Ap T := by
  cases T with
  | nil => exact absurd rfl hT
  | node => exact .node h2 hk
theorem Ap.two {T : Tree} (h : Ap T) : T.kind = 119 ∨ T.kind = 120 → T.kids.length = 2 := by cases h; assumption
theorem Ap.k {T : Tree} (h : Ap T) : ∀ x ∈ T.kids, Ap x := by cases h; assumption
theorem Ap.full {T : Tree} (h : Ap T) : Full T := by
  induction T using Tree.ind with
  | h0 => cases h
  | h1 k n nm mk l ih => exact .node fun x hx => ih x hx (h.k x hx)
theorem kind_Ap (T : Tree) : isKindF T = true → Ap T := by
  induction T using Tree.ind' with
  | h0 => intro h; rw [isKindF] at h; cases h
  | h1 T hT ih =>
    intro h
    rw [isKindF_eq hT] at h
    split at h
    · rename_i hk
      rw [Bool.and_eq_true] at h
      have hl : T.kids = [] := by have := h.2; rw [beq_iff_eq] at this; exact List.length_eq_zero_iff.1 (by omega)
      exact .of hT (fun e => by omega) (fun x hx => by rw [hl] at hx; cases hx)
    · split at h
      · rename_i hk
        simp only [Bool.and_eq_true, beq_iff_eq] at h
        obtain ⟨⟨⟨h1, h2⟩, h3⟩, h4⟩ := h
        refine .of hT (fun e => by omega) (fun x hx => ?_)
        rcases mem_two (by omega : T.kids.length = 2) hx with e | e
        · exact ih x hx (by rw [e]; exact h3)
        · exact ih x hx (by rw [e]; exact h4)
      · cases h
theorem field_Ap {kind : Int} {x : Tree} (hk : kind ≠ 119 ∧ kind ≠ 120) (h : fieldF kind x = true) (ih : ∀ y ∈ x.kids, isConF y = true → Ap y) : Ap x := by
  have hx : x ≠ .nil := by intro e; subst e; rw [fieldF] at h; cases h
  rw [fieldF_eq hx] at h
  simp only [Bool.and_eq_true, beq_iff_eq] at h
  obtain ⟨⟨⟨⟨h1, h2⟩, h3⟩, h4⟩, h5⟩ := h
  refine .of hx (fun e => by omega) (fun y hy => ?_)
  have e := mem_one (by omega : x.kids.length = 1) hy
  exact ih y hy (by rw [e]; exact h5)
theorem con_Ap (T : Tree) : isConF T = true → Ap T := by
  suffices h : (isConF T = true → Ap T) ∧ ∀ x ∈ T.kids, isConF x = true → Ap x from h.1
  induction T using Tree.ind' with
  | h0 => exact ⟨fun h => (by rw [isConF] at h; cases h), fun x hx => (by cases hx)⟩
  | h1 T hT ih =>
    refine ⟨fun h => ?_, fun x hx => (ih x hx).1⟩
    rw [isConF_eq hT, Bool.and_eq_true] at h
    obtain ⟨_, h⟩ := h
    split at h
    · rename_i hk
      simp only [Bool.and_eq_true, beq_iff_eq, decide_eq_true_eq] at h
      have hl : T.kids = [] := List.length_eq_zero_iff.1 (by omega)
      exact .of hT (fun e => by omega) (fun x hx => by rw [hl] at hx; cases hx)
    rename_i hv
    split at h
    · rw [beq_iff_eq] at h
      have hl : T.kids = [] := List.length_eq_zero_iff.1 (by omega)
      exact .of hT (fun e => by omega) (fun x hx => by rw [hl] at hx; cases hx)
    split at h
    · simp only [Bool.and_eq_true, beq_iff_eq] at h
      refine .of hT (fun e => by omega) (fun x hx => ?_)
      rcases mem_two (by omega : T.kids.length = 2) hx with e | e
      · exact (ih x hx).1 (by rw [e]; exact h.1.2)
      · exact (ih x hx).1 (by rw [e]; exact h.2)
    split at h
    · simp only [Bool.and_eq_true] at h
      exact .of hT (fun e => by omega) (fun x hx => field_Ap (by decide) (fieldsF_mem h.1 x hx) (ih x hx).2)
    split at h
    · simp only [Bool.and_eq_true, beq_iff_eq] at h
      refine .of hT (fun e => by omega) (fun x hx => ?_)
      rcases mem_two (by omega : T.kids.length = 2) hx with e | e
      · exact kind_Ap x (by rw [e]; exact h.1.2)
      · exact (ih x hx).1 (by rw [e]; exact h.2)
    split at h
    · simp only [Bool.and_eq_true] at h
      exact .of hT (fun e => by omega) (fun x hx => field_Ap (by decide) (fieldsF_mem h.1.2 x hx) (ih x hx).2)
    · cases h

def redexF (T : Tree) : Prop := T.kind = 120 ∧ (T.kids.getD 0 .nil).kind = 119
instance (T : Tree) : Decidable (redexF T) := by unfold redexF; infer_instance
def redR (T : Tree) : Tree × Int := substR ((T.kids.getD 0 .nil).kids.getD 1 .nil) 0 (T.kids.getD 1 .nil)
mutual
def stepF : Tree → Option (Tree × Int)
  | .nil => none
  | .node k n nm mk l => if redexF (.node k n nm mk l) then some (redR (.node k n nm mk l)) else (stepsF l).map fun p => (.node k n nm mk p.1, p.2)
def stepsF : List Tree → Option (List Tree × Int)
  | [] => none
  | x :: l => match stepF x with
    | some p => some (p.1 :: l, p.2)
    | none => (stepsF l).map fun p => (x :: p.1, p.2)
end
theorem stepF_eq {T : Tree} (h : T ≠ .nil) : stepF T = if redexF T then some (redR T) else (stepsF T.kids).map fun p => (.node T.kind T.n T.name T.mark p.1, p.2) := by
  cases T with
  | nil => exact absurd rfl h
  | node => rw [stepF]; rfl
def outF (o : Option (Tree × Int)) : Tree × Bool × Int := match o with
  | none => (.nil, false, 0)
  | some p => if p.2 = 0 then (p.1, true, 0) else (.nil, false, p.2)
theorem substR_nil (T : Tree) (i : Int) (b : Tree) (h : (substR T i b).2 ≠ 0) : (substR T i b).1 = .nil := by
  unfold substR at *
  repeat' split at *
  all_goals first | rfl | simp_all

set_option maxRecDepth 10000 in
theorem redex_ok (T : Tree) (hA : Ap T) : Pure P 145 [.d (.tree T)] (.d (.bool (decide (redexF T)))) := by
  have hT : T ≠ .nil := hA.full.ne
  have h2 := hA.two
  have h0 : T.kind = 120 → T.kids.getD 0 .nil ≠ .nil := fun h => (hA.k _ (getD_mem (by have := h2 (.inr h); omega))).full.ne
  refine Pure.of_body tt [] [2] Tryz.func145 rfl rfl rfl (Nat.le_of_ble_eq_true rfl) fun g => ?_
  repeat' ((first
    | refine then_go hm htt ?_
    | refine Side.go ?_
    | refine Hyp.go fun hlen => ?_
    | refine Split.ct ?_
    | refine Split.cf ?_
    | refine Split.tt ?_
    | refine Split.ff ?_
    | refine Indep.go ?_
    | refine Side.mk (show (0 : Int) ≤ 0 ∧ (0 : Int) < (T.kids.length : Int) from by have := h2 (.inr (by assumption)); omega) ?_
    | refine Side.mk (h0 (by assumption)) ?_
    | refine Split.go (fun hc => ?_) fun hc => ?_) <;> conv => whnf)
  all_goals refine ret_closed rfl (bool_eq ?_) rfl
  all_goals (unfold redexF; simp_all [int_dec])

set_option maxHeartbeats 4000000 in
set_option maxRecDepth 10000 in
theorem step_ok (T : Tree) : Ap T → Pure P 137 [.d (.tree T)] (.tuple [.d (.tree (outF (stepF T)).1), .d (.bool (outF (stepF T)).2.1), .d (.int .i64 (outF (stepF T)).2.2)]) := by
  induction T using Tree.ind' with
  | h0 => intro h; exact absurd rfl h.full.ne
  | h1 T hT ih => ?_
  intro hA
  have h2 := hA.two
  have hrd := redex_ok T hA
  refine Pure.of_body tt [] [2, 3, 4] Tryz.func137 rfl rfl rfl (Nat.le_of_ble_eq_true rfl) fun g => ?_
  by_cases hr : redexF T
  · rw [decide_eq_true hr] at hrd
    have e : stepF T = some (redR T) := by rw [stepF_eq hT, if_pos hr]
    have hl := h2 (.inr hr.1)
    have hA0 := hA.k _ (getD_mem (i := 0) (by omega))
    have hl0 := hA0.two (.inl hr.2)
    have hn0 := hA0.full.ne
    have hs := subst_ok ((T.kids.getD 0 .nil).kids.getD 1 .nil) 0 (T.kids.getD 1 .nil)
    have hnil := substR_nil ((T.kids.getD 0 .nil).kids.getD 1 .nil) 0 (T.kids.getD 1 .nil)
    unfold redR at e
    generalize substR ((T.kids.getD 0 .nil).kids.getD 1 .nil) 0 (T.kids.getD 1 .nil) = R at *
    repeat' ((first
      | refine then_go hm htt ?_
      | refine Side.go ?_
      | refine Hyp.go fun hlen => ?_
      | refine Split.ct ?_
      | refine Split.cf ?_
      | refine Split.tt ?_
      | refine Split.ff ?_
      | refine Indep.go ?_
      | refine CallG.gp hrd ?_
      | refine CallG.gp hs ?_
      | refine Side.mk (show (0 : Int) ≤ 0 ∧ (0 : Int) < (T.kids.length : Int) from by omega) ?_
      | refine Side.mk (show (0 : Int) ≤ 1 ∧ (1 : Int) < (T.kids.length : Int) from by omega) ?_
      | refine Side.mk (show (0 : Int) ≤ 1 ∧ (1 : Int) < ((T.kids.getD 0 .nil).kids.length : Int) from by omega) ?_
      | refine Side.mk hn0 ?_
      | refine Split.go (fun hc => ?_) fun hc => ?_) <;> conv => whnf)
    refine ret_closed rfl ?_ rfl
    rw [e]
    unfold outF
    by_cases hz : R.2 = 0
    · simp only [if_pos hz]
      exact tup3 rfl (bool_eq (by rw [hz]; rfl)) (int_eq hz)
    · simp only [if_neg hz]
      exact tup3 (tree_eq (hnil hz)) (bool_eq (by simp [hz])) rfl
  · rw [decide_eq_false hr] at hrd
    have e : stepF T = (stepsF T.kids).map fun p => (.node T.kind T.n T.name T.mark p.1, p.2) := by rw [stepF_eq hT, if_neg hr]
    repeat' ((first
      | refine then_go hm htt ?_
      | refine Side.go ?_
      | refine Hyp.go fun hlen => ?_
      | refine Split.ct ?_
      | refine Split.cf ?_
      | refine Split.tt ?_
      | refine Split.ff ?_
      | refine Indep.go ?_
      | refine CallG.gp hrd ?_
      | refine Split.go (fun hc => ?_) fun hc => ?_) <;> conv => whnf)
    refine loop_go (α := Nat) (fun p => ⟨[(0, .d (.tree T)), (43, .d (.int .i64 T.kids.length)), (44, .d (.int .i64 p))], 78, [], 0, g⟩)
        (fun p => p ≤ T.kids.length ∧ stepsF T.kids = (stepsF (T.kids.drop p)).map fun q => (T.kids.take p ++ q.1, q.2)) (fun p => T.kids.length - p) 0 ⟨by simp, by simp⟩
        (Ent.go []) (fun _ => rfl) fun p hpre => ?_
    obtain ⟨hp1, hp2⟩ := hpre
    by_cases hp : p < T.kids.length
    · have hx := ih (T.kids.getD p .nil) (getD_mem hp) (hA.k _ (getD_mem hp))
      have hcl := clone_ok T.kids (by intro h; rw [h] at hp; simp at hp) (by omega)
      rw [drop_step hp, stepsF] at hp2
      cases hq : stepF (T.kids.getD p .nil) with
      | none =>
        rw [hq] at hx hp2
        repeat' ((first
          | refine then_go hm htt ?_
          | refine Side.go ?_
          | refine Hyp.go fun hlen => ?_
          | refine Split.ct ?_
          | refine Split.cf ?_
          | refine Split.tt ?_
          | refine Split.ff ?_
          | refine Indep.go ?_
          | refine CallG.gp hx ?_
          | refine Split.go (fun hc => ?_) fun hc => ?_) <;> conv => whnf)
        refine ⟨p + 1, ⟨by omega, ?_⟩, by omega, Ent.go []⟩
        rw [hp2]
        simp only [Option.map_map, ← take_step hp]
        congr 1
        funext q
        simp
      | some R =>
        rw [hq] at hx hp2
        have e2 : stepF T = some (.node T.kind T.n T.name T.mark (T.kids.take p ++ R.1 :: T.kids.drop (p + 1)), R.2) := by rw [e, hp2]; rfl
        rw [e2]
        by_cases hz : R.2 = 0
        · have ho : outF (some R) = (R.1, true, 0) := by unfold outF; simp [hz]
          rw [ho] at hx
          have hst : T.kids.take p ++ R.1 :: T.kids.drop (p + 1) = T.kids.set p R.1 := by
            rw [List.set_eq_take_append_cons_drop, if_pos hp]
          have ho2 : outF (some (Tree.node T.kind T.n T.name T.mark (T.kids.take p ++ R.1 :: T.kids.drop (p + 1)), R.2)) = (Tree.node T.kind T.n T.name T.mark (T.kids.set p R.1), true, 0) := by
            unfold outF; simp only [hz, if_true, hst]
          rw [ho2]
          repeat' ((first
            | refine then_go hm htt ?_
            | refine Side.go ?_
            | refine Hyp.go fun hlen => ?_
            | refine Split.ct ?_
            | refine Split.cf ?_
            | refine Split.tt ?_
            | refine Split.ff ?_
            | refine Indep.go ?_
            | refine CallG.gp hx ?_
            | refine CallG.go hcl [] ?_
            | refine Side.mk (show (p : Int).toNat * 1 < T.kids.length from by omega) ?_
            | refine Split.go (fun hc => ?_) fun hc => ?_) <;> conv => whnf)
          have hp2 : (T.kids.set (p * 1) R.1).length = T.kids.length := by simp
          refine RetS.ent (σ' := ⟨[(2, .ref 0 0), (3, .d (.bool true)), (4, .d (.int .i64 0))], 78, [(0, .cells [.d (.int .i64 T.kind), .d (.int .i64 T.n), .d (.str T.name), .d (.str T.mark), .row 1 T.kids.length]), (1, .row 25 (.trees (T.kids.set (p * 1) R.1)))], 2, g⟩) (Ent.go [0, 1]) ?_
          refine RetS.ent (Ent.fz_row 1 (l := T.kids.set (p * 1) R.1) rfl (by repeat' first | exact trivial | apply And.intro | rfl | exact hp2.symm | exact Nat.zero_lt_one | omega) (by repeat' first | exact trivial | apply And.intro | rfl | exact hp2.symm | exact Nat.zero_lt_one | omega)) ?_
          refine RetS.ent (Ent.fz_node 0 rfl rfl (by repeat' first | exact trivial | apply And.intro | rfl | exact hp2.symm | exact Nat.zero_lt_one | omega) (by repeat' first | exact trivial | apply And.intro | rfl | exact hp2.symm | exact Nat.zero_lt_one | omega)) ?_
          exact ret_closed rfl (tup3 (tree_eq (by rw [Nat.mul_one])) rfl rfl) rfl
        · have ho : outF (some R) = (.nil, false, R.2) := by unfold outF; simp [hz]
          rw [ho] at hx
          have ho2 : outF (some (Tree.node T.kind T.n T.name T.mark (T.kids.take p ++ R.1 :: T.kids.drop (p + 1)), R.2)) = (.nil, false, R.2) := by
            unfold outF; simp only [hz, if_false]
          rw [ho2]
          repeat' ((first
            | refine then_go hm htt ?_
            | refine Side.go ?_
            | refine Hyp.go fun hlen => ?_
            | refine Split.ct ?_
            | refine Split.cf ?_
            | refine Split.tt ?_
            | refine Split.ff ?_
            | refine Indep.go ?_
            | refine CallG.gp hx ?_
            | refine Split.go (fun hc => ?_) fun hc => ?_) <;> conv => whnf)
          exact ret_closed rfl rfl rfl
    · have e2 : stepF T = none := by rw [e, hp2, drop_end (by omega), stepsF]; rfl
      repeat' ((first
        | refine then_go hm htt ?_
        | refine Side.go ?_
        | refine Hyp.go fun hlen => ?_
        | refine Split.ct ?_
        | refine Split.cf ?_
        | refine Split.tt ?_
        | refine Split.ff ?_
        | refine Indep.go ?_
        | refine Split.go (fun hc => ?_) fun hc => ?_) <;> conv => whnf)
      rw [e2]
      exact ret_closed rfl rfl rfl
end No
end Go.Proofs.YtoajaklekmbcdaaGreat

namespace Go.Proofs.YtoajaklekmbcdaaGreat
namespace No
open Go Go.Mq
set_option linter.all false

/-! The document's step: the path of the first redex -/
mutual
def firstF : Tree → Option (List Int)
  | .nil => none
  | .node k n nm mk l => if redexF (.node k n nm mk l) then some [] else firstsF 0 l
def firstsF : Int → List Tree → Option (List Int)
  | _, [] => none
  | i, x :: l => match firstF x with
    | some p => some (i :: p)
    | none => firstsF (i + 1) l
end
theorem firstF_eq {T : Tree} (h : T ≠ .nil) : firstF T = if redexF T then some [] else firstsF 0 T.kids := by
  cases T with
  | nil => exact absurd rfl h
  | node => rw [firstF]; rfl
def intsD (l : List Int) : Mq.Data := .slice l.length 1 (fun i _ => .int .i64 (l.getD i 0))
def lenO (o : Option (List Int)) : List Int := o.getD []

set_option maxHeartbeats 4000000 in
set_option maxRecDepth 10000 in
theorem first_ok (T : Tree) : Ap T → (lenO (firstF T)).length ≤ sizeN T ∧ (sizeN T ≤ 65536 → Pure P 139 [.d (.tree T)] (.tuple [.d (intsD (lenO (firstF T))), .d (.bool (firstF T).isSome)])) := by
  induction T using Tree.ind' with
  | h0 => intro h; exact absurd rfl h.full.ne
  | h1 T hT ih => ?_
  intro hA
  have h2 := hA.two
  have hl : (lenO (firstF T)).length ≤ sizeN T := by
    rw [firstF_eq hT]
    split
    · simp [lenO]
    · have key : ∀ (l : List Tree) (i : Int), (∀ x ∈ l, (lenO (firstF x)).length ≤ sizeN x) → (lenO (firstsF i l)).length ≤ 1 + sizesN l := by
        intro l
        induction l with
        | nil => intro i _; simp [firstsF, lenO]
        | cons x l ih2 =>
          intro i hx
          rw [firstsF, sizesN]
          have h1 := hx x (by simp)
          have h3 := ih2 (i + 1) fun y hy => hx y (by simp [hy])
          cases hq : firstF x with
          | none => simp only []; omega
          | some p => rw [hq] at h1; simp only [lenO, Option.getD_some, List.length_cons] at *; omega
      have := key T.kids 0 fun x hx => (ih x hx (hA.k x hx)).1
      rw [sizeN_kids hT]; exact this
  refine ⟨hl, fun hz => ?_⟩
  have hsz := sizeN_kids hT
  refine Pure.of_body tt [] [2, 3] Tryz.func139 rfl rfl rfl (Nat.le_of_ble_eq_true rfl) fun g => ?_
  by_cases hr : redexF T
  · have e : firstF T = some [] := by rw [firstF_eq hT, if_pos hr]
    obtain ⟨hr1, hr2⟩ := hr
    have hk2 := h2 (.inr hr1)
    have hn0 := (hA.k _ (getD_mem (i := 0) (by omega))).full.ne
    repeat' ((first
      | refine then_go hm htt ?_
      | refine Side.go ?_
      | refine Hyp.go fun hlen => ?_
      | refine Split.ct ?_
      | refine Split.cf ?_
      | refine Split.tt ?_
      | refine Split.ff ?_
      | refine Indep.go ?_
      | refine Side.mk (show (0 : Int) ≤ 0 ∧ (0 : Int) < (T.kids.length : Int) from by omega) ?_
      | refine Side.mk hn0 ?_
      | refine Split.go (fun hc => ?_) fun hc => ?_) <;> conv => whnf)
    refine RetS.ent (σ' := ⟨[(2, .row 0 0), (3, .d (.bool true))], 49, [(0, .row 3 (.ints .i64 []))], 1, g⟩) (Ent.nil rfl rfl rfl (by repeat' first | exact trivial | apply And.intro | rfl | (refine int_eq ?_; rw [wrap64] <;> omega)) (by repeat' first | exact trivial | apply And.intro | rfl | (refine int_eq ?_; rw [wrap64] <;> omega))) ?_
    refine RetS.ent (Ent.fz_slice 0 (n := 0) (sz := 1) (f := fun i _ => .int .i64 (([] : List Int).getD i 0)) rfl rfl rfl (fun i j hi => absurd hi (Nat.not_lt_zero i)) (by repeat' first | exact trivial | apply And.intro | rfl | exact hp2.symm | exact Nat.zero_lt_one | omega) (by repeat' first | exact trivial | apply And.intro | rfl | exact hp2.symm | exact Nat.zero_lt_one | omega)) ?_
    rw [e]
    exact ret_closed rfl rfl rfl
  · have e : firstF T = firstsF 0 T.kids := by rw [firstF_eq hT, if_neg hr]
    have h0 : T.kind = 120 → T.kids.getD 0 .nil ≠ .nil := fun h => (hA.k _ (getD_mem (by have := h2 (.inr h); omega))).full.ne
    have hr' : T.kind = 120 → (T.kids.getD 0 .nil).kind ≠ 119 := fun h1 h3 => hr ⟨h1, h3⟩
    repeat' ((first
      | refine then_go hm htt ?_
      | refine Side.go ?_
      | refine Hyp.go fun hlen => ?_
      | refine Split.ct ?_
      | refine Split.cf ?_
      | refine Split.tt ?_
      | refine Split.ff ?_
      | refine Indep.go ?_
      | refine Side.mk (show (0 : Int) ≤ 0 ∧ (0 : Int) < (T.kids.length : Int) from by have := h2 (.inr (by assumption)); omega) ?_
      | refine Side.mk (h0 (by assumption)) ?_
      | refine Split.of_false (by have h := hr' (by assumption); simpa using h) ?_
      | refine Split.go (fun hc => ?_) fun hc => ?_) <;> conv => whnf)
    all_goals
      refine loop_go (α := Nat) (fun p => ⟨[(0, .d (.tree T)), (4, .d (.int .i64 p))], 49, [], 0, g⟩)
          (fun p => p ≤ T.kids.length ∧ firstsF 0 T.kids = firstsF p (T.kids.drop p)) (fun p => T.kids.length - p) 0 ⟨by simp, rfl⟩
          (Ent.go []) (fun _ => rfl) fun p hpre => ?_
      obtain ⟨hp1, hp2⟩ := hpre
      by_cases hp : p < T.kids.length
      · have hsx := sizesN_mem (getD_mem hp)
        have hx := ih (T.kids.getD p .nil) (getD_mem hp) (hA.k _ (getD_mem hp))
        have hxl := hx.1
        have hx := hx.2 (by omega)
        rw [drop_step hp, firstsF] at hp2
        cases hq : firstF (T.kids.getD p .nil) with
        | none =>
          rw [hq] at hx hp2
          repeat' ((first
            | refine then_go hm htt ?_
            | refine Side.go ?_
            | refine Hyp.go fun hlen => ?_
            | refine Split.ct ?_
            | refine Split.cf ?_
            | refine Split.tt ?_
            | refine Split.ff ?_
            | refine Indep.go ?_
            | refine CallG.gp hx ?_
            | refine Split.go (fun hc => ?_) fun hc => ?_) <;> conv => whnf)
          refine ⟨p + 1, ⟨by omega, ?_⟩, by omega, Ent.go []⟩
          rw [hp2]
          push_cast; rfl
        | some q =>
          rw [hq] at hx hp2 hxl
          simp only [lenO, Option.getD_some] at hxl
          have e2 : firstF T = some ((p : Int) :: q) := by rw [e, hp2]
          rw [e2]
          repeat' ((first
            | refine then_go hm htt ?_
            | refine Side.go ?_
            | refine Hyp.go fun hlen => ?_
            | refine Split.ct ?_
            | refine Split.cf ?_
            | refine Split.tt ?_
            | refine Split.ff ?_
            | refine Indep.go ?_
            | refine CallG.gp hx ?_
            | refine Side.mk (fun _ _ => rfl) ?_
            | refine Side.mk (show (1 + q.length ≤ maxN ∧ (1 + q.length) * 8 ≤ 140737488355328) from ⟨by unfold maxN; omega, by omega⟩) ?_
            | refine Split.go (fun hc => ?_) fun hc => ?_) <;> conv => whnf)
          have hlq : (lenO (some ((p : Int) :: q))).length = 1 + q.length := by simp [lenO]; omega
          refine RetS.ent (Ent.fz_slice 1 (n := 1 + q.length) (sz := 1) (f := fun i _ => .int .i64 ((lenO (some ((p : Int) :: q))).getD i 0)) rfl ?_ rfl ?_ ?_ ?_) ?_
          · rfl
          · intro i j hi hj
            show (if i * 1 + j < 1 * 1 then AVal.d (.int .i64 ([(p : Int)].getD (i * 1 + j) 0)) else AVal.d (.int .i64 (q.getD ((i * 1 + j - 1 * 1) / 1) 0))) = .d (.int .i64 (((p : Int) :: q).getD i 0))
            obtain rfl : j = 0 := by omega
            cases i with
            | zero => rfl
            | succ i =>
              rw [if_neg (by omega), List.getD_cons_succ]
              congr 3
              omega
          · exact (by repeat' first | exact trivial | apply And.intro | rfl | exact hp2.symm | exact Nat.zero_lt_one | omega)
          · exact (by repeat' first | exact trivial | apply And.intro | rfl | exact hp2.symm | exact Nat.zero_lt_one | omega)
          · unfold intsD
            rw [hlq]
            exact ret_closed rfl rfl rfl
      · have e2 : firstF T = none := by rw [e, hp2, drop_end (by omega), firstsF]
        repeat' ((first
          | refine then_go hm htt ?_
          | refine Side.go ?_
          | refine Hyp.go fun hlen => ?_
          | refine Split.ct ?_
          | refine Split.cf ?_
          | refine Split.tt ?_
          | refine Split.ff ?_
          | refine Indep.go ?_
          | refine Split.go (fun hc => ?_) fun hc => ?_) <;> conv => whnf)
        refine RetS.ent (σ' := ⟨[(2, .row 0 0), (3, .d (.bool false))], 49, [(0, .row 3 (.ints .i64 []))], 1, g⟩) (Ent.nil rfl rfl rfl (by repeat' first | exact trivial | apply And.intro | rfl | (refine int_eq ?_; rw [wrap64] <;> omega)) (by repeat' first | exact trivial | apply And.intro | rfl | (refine int_eq ?_; rw [wrap64] <;> omega))) ?_
        refine RetS.ent (Ent.fz_slice 0 (n := 0) (sz := 1) (f := fun i _ => .int .i64 (([] : List Int).getD i 0)) rfl rfl rfl (fun i j hi => absurd hi (Nat.not_lt_zero i)) (by repeat' first | exact trivial | apply And.intro | rfl | exact hp2.symm | exact Nat.zero_lt_one | omega) (by repeat' first | exact trivial | apply And.intro | rfl | exact hp2.symm | exact Nat.zero_lt_one | omega)) ?_
        rw [e2]
        exact ret_closed rfl rfl rfl

/-! The tree at a path, and another one there -/
def atF : List Int → Tree → Tree
  | [], T => T
  | x :: p, T => atF p (T.kids.getD x.toNat .nil)
def okP : List Int → Tree → Prop
  | [], T => T ≠ .nil
  | x :: p, T => T ≠ .nil ∧ 0 ≤ x ∧ x < T.kids.length ∧ okP p (T.kids.getD x.toNat .nil)
theorem okP.ne {p : List Int} {T : Tree} (h : okP p T) : T ≠ .nil := by cases p with
  | nil => exact h
  | cons => exact h.1

set_option maxHeartbeats 4000000 in
set_option maxRecDepth 10000 in
theorem at_ok (T : Tree) (p : List Int) (h : okP p T) (hl : p.length ≤ 65536) : Pure P 140 [.d (.tree T), .d (intsD p)] (.tuple [.d (.tree (atF p T)), .d (.int .i64 0)]) := by
  have hT := h.ne
  refine Pure.of_body tt [] [4, 5] Tryz.func140 rfl rfl rfl (Nat.le_of_ble_eq_true rfl) fun g => ?_
  repeat' ((first
    | refine then_go hm htt ?_
    | refine Side.go ?_
    | refine Hyp.go fun hlen => ?_
    | refine Split.ct ?_
    | refine Split.cf ?_
    | refine Split.tt ?_
    | refine Split.ff ?_
    | refine Indep.go ?_
    | refine Split.go (fun hc => ?_) fun hc => ?_) <;> conv => whnf)
  refine loop_go (α := Nat × Tree) (fun q => ⟨[(0, .d (.tree q.2)), (1, .d (intsD p)), (6, .d (.int .i64 q.1))], 56, [], 0, g⟩)
      (fun q => q.1 ≤ p.length ∧ okP (p.drop q.1) q.2 ∧ atF (p.drop q.1) q.2 = atF p T) (fun q => p.length - q.1) (0, T) ⟨by simp, by simpa using h, by simp⟩
      (Ent.go []) (fun _ => rfl) fun q hpre => ?_
  obtain ⟨i, U⟩ := q
  obtain ⟨hp1, hp2, hp3⟩ := hpre
  simp only [] at hp1 hp2 hp3
  have hU := hp2.ne
  by_cases hi : i < p.length
  · rw [dropi_step hi] at hp2 hp3
    obtain ⟨h1, h2, h3, h4⟩ := hp2
    have h5 := h4.ne
    repeat' ((first
      | refine then_go hm htt ?_
      | refine Side.go ?_
      | refine Hyp.go fun hlen => ?_
      | refine Split.ct ?_
      | refine Split.cf ?_
      | refine Split.tt ?_
      | refine Split.ff ?_
      | refine Indep.go ?_
      | refine Side.mk (show (0 : Int) ≤ (i : Int) ∧ (i : Int) < (p.length : Int) from by omega) ?_
      | refine Split.of_false (show decide (p.getD i 0 < 0) = false from by simpa using h2) ?_
      | refine Side.mk (show (0 : Int) ≤ p.getD i 0 ∧ p.getD i 0 < (U.kids.length : Int) from ⟨h2, h3⟩) ?_
      | refine Split.go (fun hc => ?_) fun hc => ?_) <;> conv => whnf)
    all_goals try (exfalso; first | omega | exact h5 (by assumption))
    exact ⟨(i + 1, U.kids.getD (p.getD i 0).toNat .nil), ⟨by simp only []; omega, h4, hp3⟩, by simp only []; omega, Ent.go []⟩
  · rw [drop_endi (by omega)] at hp2 hp3
    have hp4 : U = atF p T := hp3
    repeat' ((first
      | refine then_go hm htt ?_
      | refine Side.go ?_
      | refine Hyp.go fun hlen => ?_
      | refine Split.ct ?_
      | refine Split.cf ?_
      | refine Split.tt ?_
      | refine Split.ff ?_
      | refine Indep.go ?_
      | refine Split.go (fun hc => ?_) fun hc => ?_) <;> conv => whnf)
    rw [← hp4]
    exact ret_closed rfl rfl rfl
end No
end Go.Proofs.YtoajaklekmbcdaaGreat

namespace Go.Proofs.YtoajaklekmbcdaaGreat
namespace No
open Go Go.Mq
set_option linter.all false

def withF : List Int → Tree → Tree → Tree
  | [], _, m => m
  | x :: p, T, m => .node T.kind T.n T.name T.mark (T.kids.set x.toNat (withF p (T.kids.getD x.toNat .nil) m))
theorem takeT_step {l : List Tree} {i : Nat} (h : i < l.length) : l.take (i + 1) = l.take i ++ [l.getD i .nil] := (take_step h).symm

set_option maxHeartbeats 4000000 in
set_option maxRecDepth 10000 in
theorem with_ok (m : Tree) : ∀ (p : List Int) (T : Tree) (n : Nat) (get : Nat → Int), n = p.length → (∀ j, j < n → get j = p.getD j 0) → okP p T →
    Pure P 142 [.d (.tree T), .d (.slice n 1 (fun i _ => .int .i64 (get i))), .d (.tree m)] (.d (.tree (withF p T m))) := by
  intro p
  induction p with
  | nil =>
    intro T n get hn hg h
    refine Pure.of_body tt [] [6] Tryz.func142 rfl rfl rfl (Nat.le_of_ble_eq_true rfl) fun g => ?_
    simp only [List.length_nil] at hn
    subst hn
    repeat' ((first
      | refine then_go hm htt ?_
      | refine Side.go ?_
      | refine Hyp.go fun hlen => ?_
      | refine Split.ct ?_
      | refine Split.cf ?_
      | refine Split.tt ?_
      | refine Split.ff ?_
      | refine Indep.go ?_
      | refine Split.go (fun hc => ?_) fun hc => ?_) <;> conv => whnf)
    exact ret_closed rfl rfl rfl
  | cons x p ih =>
    intro T n get hn hg h
    obtain ⟨hT, hx0, hx1, hp⟩ := h
    simp only [List.length_cons] at hn
    have hg0 : get 0 = x := by rw [hg 0 (by omega)]; rfl
    have hw := ih (T.kids.getD x.toNat .nil) (n - 1) (fun j => get (1 + j)) (by omega) (fun j hj => by rw [hg (1 + j) (by omega), Nat.add_comm 1 j, List.getD_cons_succ]) hp
    refine Pure.of_body tt [] [6] Tryz.func142 rfl rfl rfl (Nat.le_of_ble_eq_true rfl) fun g => ?_
    repeat' ((first
      | refine then_go hm htt ?_
      | refine Side.go ?_
      | refine Hyp.go fun hlen => ?_
      | refine Split.ct ?_
      | refine Split.cf ?_
      | refine Split.tt ?_
      | refine Split.ff ?_
      | refine Indep.go ?_
      | refine Split.go (fun hc => ?_) fun hc => ?_) <;> conv => whnf)
    rw [withF]
    generalize withF p (T.kids.getD x.toNat .nil) m = w at hw
    refine loop_go (α := Nat) (fun i => ⟨[(0, .d (.tree T)), (1, .d (.slice n 1 (fun i _ => .int .i64 (get i)))), (2, .d (.tree m)), (7, .ref 0 0), (8, .d (.int .i64 i))], 69, [(0, .cells [.d (.int .i64 T.kind), .d (.int .i64 T.n), .d (.str T.name), .d (.str T.mark), .row 1 i]), (1, .row 25 (.trees ((T.kids.set x.toNat w).take i)))], 2, g⟩)
      (fun i => i ≤ T.kids.length) (fun i => T.kids.length - i) 0 (by omega)
      (Ent.nil rfl rfl rfl (by repeat' first | exact trivial | apply And.intro | rfl | (refine int_eq ?_; rw [wrap64] <;> omega)) (by repeat' first | exact trivial | apply And.intro | rfl | (refine int_eq ?_; rw [wrap64] <;> omega))) (fun _ => rfl) fun i hp1 => ?_
    have hlen : ((T.kids.set x.toNat w).take i).length = i := by simp; omega
    by_cases hi : i < T.kids.length
    · have hts := takeT_step (l := T.kids.set x.toNat w) (i := i) (by simpa using hi)
      by_cases hix : (i : Int) = x
      · have hgd : (T.kids.set x.toNat w).getD i .nil = w := by
          rw [List.getD_eq_getElem?_getD, ← hix, Int.toNat_natCast, List.getElem?_set_self hi]; rfl
        rw [hgd] at hts
        rw [show x.toNat = i by omega] at hw
        repeat' ((first
          | refine then_go hm htt ?_
          | refine Side.go ?_
          | refine Hyp.go fun hlen => ?_
          | refine Split.ct ?_
          | refine Split.cf ?_
          | refine Split.tt ?_
          | refine Split.ff ?_
          | refine Indep.go ?_
          | refine Split.of_true (show ((i : Int) == get 0) = true from by rw [hg0, hix]; simp) ?_
          | refine CallG.gp hw ?_
          | refine Side.mk (show (0 : Int) ≤ 0 ∧ (0 : Int) < (n : Int) from by omega) ?_
          | refine Side.mk (show (i + 1 ≤ 17592186044416 ∧ (i + 1) * 8 ≤ 140737488355328) from ⟨by omega, by omega⟩) ?_
          | refine Split.go (fun hc => ?_) fun hc => ?_) <;> conv => whnf)
        exact ⟨i + 1, by omega, by omega, Ent.re [0, 3] rfl rfl rfl rfl rfl rfl (by repeat' first | exact trivial | apply And.intro | rfl | (refine int_eq ?_; rw [wrap64] <;> omega)) (by repeat' first | exact trivial | apply And.intro | rfl | (rw [hts]; rfl))⟩
      · have hgd : (T.kids.set x.toNat w).getD i .nil = T.kids.getD i .nil := by
          rw [List.getD_eq_getElem?_getD, List.getElem?_set_ne (by omega)]; rfl
        rw [hgd] at hts
        repeat' ((first
          | refine then_go hm htt ?_
          | refine Side.go ?_
          | refine Hyp.go fun hlen => ?_
          | refine Split.ct ?_
          | refine Split.cf ?_
          | refine Split.tt ?_
          | refine Split.ff ?_
          | refine Indep.go ?_
          | refine Split.of_false (show ((i : Int) == get 0) = false from by rw [hg0]; simpa using hix) ?_
          | refine Side.mk (show (0 : Int) ≤ 0 ∧ (0 : Int) < (n : Int) from by omega) ?_
          | refine Side.mk (show (i + 1 ≤ 17592186044416 ∧ (i + 1) * 8 ≤ 140737488355328) from ⟨by omega, by omega⟩) ?_
          | refine Split.go (fun hc => ?_) fun hc => ?_) <;> conv => whnf)
        exact ⟨i + 1, by omega, by omega, Ent.re [0, 3] rfl rfl rfl rfl rfl rfl (by repeat' first | exact trivial | apply And.intro | rfl | (refine int_eq ?_; rw [wrap64] <;> omega)) (by repeat' first | exact trivial | apply And.intro | rfl | (rw [hts]; rfl))⟩
    · have hi2 : i = T.kids.length := by omega
      have ht : (T.kids.set x.toNat w).take i = T.kids.set x.toNat w := List.take_of_length_le (by simp; omega)
      rw [ht]
      have hp2 : (T.kids.set x.toNat w).length = i := by simp; omega
      repeat' ((first
        | refine then_go hm htt ?_
        | refine Side.go ?_
        | refine Hyp.go fun hlen => ?_
        | refine Split.ct ?_
        | refine Split.cf ?_
        | refine Split.tt ?_
        | refine Split.ff ?_
        | refine Indep.go ?_
        | refine Split.go (fun hc => ?_) fun hc => ?_) <;> conv => whnf)
      refine RetS.ent (Ent.fz_row 1 (l := T.kids.set x.toNat w) rfl (by repeat' first | exact trivial | apply And.intro | rfl | exact hp2.symm | exact Nat.zero_lt_one | omega) (by repeat' first | exact trivial | apply And.intro | rfl | exact hp2.symm | exact Nat.zero_lt_one | omega)) ?_
      refine RetS.ent (Ent.fz_node 0 rfl rfl (by repeat' first | exact trivial | apply And.intro | rfl | exact hp2.symm | exact Nat.zero_lt_one | omega) (by repeat' first | exact trivial | apply And.intro | rfl | exact hp2.symm | exact Nat.zero_lt_one | omega)) ?_
      exact ret_closed rfl rfl rfl
end No
end Go.Proofs.YtoajaklekmbcdaaGreat

namespace Go.Proofs.YtoajaklekmbcdaaGreat
namespace No
open Go Go.Mq
set_option linter.all false

theorem list_set_append {α : Type} (a b : List α) (x y : α) : (a ++ x :: b).set a.length y = a ++ y :: b := by
  rw [List.set_append]; simp
theorem step_first (T : Tree) : Ap T → (∀ p, firstF T = some p → okP p T ∧ Ap (atF p T) ∧ redexF (atF p T) ∧ stepF T = some (withF p T (redR (atF p T)).1, (redR (atF p T)).2)) ∧ (firstF T = none → stepF T = none) := by
  induction T using Tree.ind' with
  | h0 => intro h; exact absurd rfl h.full.ne
  | h1 T hT ih =>
    intro hA
    rw [firstF_eq hT, stepF_eq hT]
    by_cases hr : redexF T
    · rw [if_pos hr, if_pos hr]
      refine ⟨fun p hp => ?_, fun h => by cases h⟩
      cases hp
      exact ⟨hT, hA, hr, rfl⟩
    · rw [if_neg hr, if_neg hr]
      have key : ∀ (l pre : List Tree), T.kids = pre ++ l → (∀ p, firstsF pre.length l = some p → okP p T ∧ Ap (atF p T) ∧ redexF (atF p T) ∧ (stepsF l).map (fun q => (Tree.node T.kind T.n T.name T.mark (pre ++ q.1), q.2)) = some (withF p T (redR (atF p T)).1, (redR (atF p T)).2)) ∧ (firstsF pre.length l = none → stepsF l = none) := by
        intro l
        induction l with
        | nil => intro pre _; rw [firstsF, stepsF]; exact ⟨fun p h => (by cases h), fun _ => rfl⟩
        | cons x l ih2 =>
          intro pre hpre
          have hx := ih x (by rw [hpre]; simp) (hA.k x (by rw [hpre]; simp))
          have hg : T.kids.getD pre.length .nil = x := by rw [hpre]; simp [List.getElem?_append_right]
          rw [firstsF, stepsF]
          cases hq : firstF x with
          | some q =>
            obtain ⟨h1, h2, h3, h4⟩ := hx.1 q hq
            refine ⟨fun p hp => ?_, fun h => by cases h⟩
            simp only [Option.some.injEq] at hp
            subst hp
            rw [h4]
            refine ⟨⟨hT, by omega, by rw [hpre]; simp; omega, ?_⟩, ?_, ?_, ?_⟩
            · rw [Int.toNat_natCast, hg]; exact h1
            · rw [atF, Int.toNat_natCast, hg]; exact h2
            · rw [atF, Int.toNat_natCast, hg]; exact h3
            · rw [atF, withF, Int.toNat_natCast, hg]
              simp only [Option.map_some]
              rw [hpre, list_set_append]
          | none =>
            rw [hx.2 hq]
            have := ih2 (pre ++ [x]) (by rw [hpre]; simp)
            rw [List.length_append, List.length_singleton] at this
            refine ⟨fun p hp => ?_, fun h => ?_⟩
            · simp only [] at hp ⊢
              obtain ⟨g1, g2, g3, g4⟩ := this.1 p (by push_cast; exact hp)
              refine ⟨g1, g2, g3, ?_⟩
              rw [← g4, Option.map_map]
              congr 1
              funext q
              simp
            · simp only [] at h ⊢
              rw [this.2 (by push_cast; exact h)]; rfl
      have := key T.kids [] rfl
      exact ⟨fun p hp => this.1 p hp, fun h => by rw [this.2 h]; rfl⟩

def nstepR (T : Tree) : Tree × Bool × Int := if conE T ≠ 0 then (.nil, false, conE T) else outF (stepF T)
set_option maxRecDepth 10000 in
theorem Step_ok (T : Tree) : Pure P 129 [.d (.tree T)] (.tuple [.d (.tree (nstepR T).1), .d (.bool (nstepR T).2.1), .d (.int .i64 (nstepR T).2.2)]) := by
  refine Pure.of_body tt [] [2, 3, 4] Tryz.func129 rfl rfl rfl (Nat.le_of_ble_eq_true rfl) fun g => ?_
  by_cases hc0 : conE T = 0
  · have e : nstepR T = outF (stepF T) := by unfold nstepR; rw [if_neg (by omega)]
    have h1 := check_ok T
    rw [hc0] at h1
    have h2 := step_ok T (con_Ap T (conE_full hc0).2)
    rw [e]
    repeat' ((first
      | refine then_go hm htt ?_
      | refine Side.go ?_
      | refine Hyp.go fun hlen => ?_
      | refine Split.ct ?_
      | refine Split.cf ?_
      | refine Split.tt ?_
      | refine Split.ff ?_
      | refine Indep.go ?_
      | refine CallG.gp h1 ?_
      | refine CallG.gp h2 ?_
      | refine Split.go (fun hc => ?_) fun hc => ?_) <;> conv => whnf)
    exact ret_closed rfl rfl rfl
  · have e : nstepR T = (.nil, false, conE T) := by unfold nstepR; rw [if_pos hc0]
    rw [e]
    repeat' ((first
      | refine then_go hm htt ?_
      | refine Side.go ?_
      | refine Hyp.go fun hlen => ?_
      | refine Split.ct ?_
      | refine Split.cf ?_
      | refine Split.tt ?_
      | refine Split.ff ?_
      | refine Indep.go ?_
      | refine CallG.gp (check_ok T) ?_
      | refine Split.go (fun hc => ?_) fun hc => ?_) <;> conv => whnf)
    exact ret_closed rfl rfl rfl
set_option maxHeartbeats 4000000 in
set_option maxRecDepth 10000 in
theorem rStep_ok (T : Tree) : Pure P 132 [.d (.tree T)] (.tuple [.d (.tree (nstepR T).1), .d (.bool (nstepR T).2.1), .d (.int .i64 (nstepR T).2.2)]) := by
  refine Pure.of_body tt [] [2, 3, 4] Tryz.func132 rfl rfl rfl (Nat.le_of_ble_eq_true rfl) fun g => ?_
  by_cases hc0 : conE T = 0
  · have e : nstepR T = outF (stepF T) := by unfold nstepR; rw [if_neg (by omega)]
    have h1 := rcheck_ok T
    rw [hc0] at h1
    have hA := con_Ap T (conE_full hc0).2
    have hz := conE_size hc0
    have h2 := first_ok T hA
    have h2l := h2.1
    have h2 := h2.2 hz
    rw [e]
    cases hq : firstF T with
    | none =>
      rw [hq] at h2
      rw [(step_first T hA).2 hq]
      repeat' ((first
        | refine then_go hm htt ?_
        | refine Side.go ?_
        | refine Hyp.go fun hlen => ?_
        | refine Split.ct ?_
        | refine Split.cf ?_
        | refine Split.tt ?_
        | refine Split.ff ?_
        | refine Indep.go ?_
        | refine CallG.gp h1 ?_
        | refine CallG.gp h2 ?_
        | refine Split.go (fun hc => ?_) fun hc => ?_) <;> conv => whnf)
      exact ret_closed rfl rfl rfl
    | some p =>
      rw [hq] at h2 h2l
      obtain ⟨h3, h4, h5, h6⟩ := (step_first T hA).1 p hq
      rw [h6]
      have hlp : p.length ≤ 65536 := Nat.le_trans h2l hz
      have h7 := at_ok T p h3 hlp
      have h8 := with_ok (redR (atF p T)).1 p T p.length (fun i => p.getD i 0) rfl (fun _ _ => rfl) h3
      generalize atF p T = U at *
      have hU := h4.full.ne
      have hl := h4.two (.inr h5.1)
      have hA0 := h4.k _ (getD_mem (i := 0) (by omega))
      have hl0 := hA0.two (.inl h5.2)
      have hn0 := hA0.full.ne
      have hs := rSubst_ok ((U.kids.getD 0 .nil).kids.getD 1 .nil) 0 (U.kids.getD 1 .nil)
      rw [← substR_eq] at hs
      unfold redR at h6 h8 ⊢
      generalize substR ((U.kids.getD 0 .nil).kids.getD 1 .nil) 0 (U.kids.getD 1 .nil) = R at *
      by_cases hR : R.2 = 0
      · have ho : outF (some (withF p T R.1, R.2)) = (withF p T R.1, true, 0) := by unfold outF; simp [hR]
        rw [ho]
        repeat' ((first
          | refine then_go hm htt ?_
          | refine Side.go ?_
          | refine Hyp.go fun hlen => ?_
          | refine Split.ct ?_
          | refine Split.cf ?_
          | refine Split.tt ?_
          | refine Split.ff ?_
          | refine Indep.go ?_
          | refine CallG.gp h1 ?_
          | refine CallG.gp h2 ?_
          | refine CallG.gp h7 ?_
          | refine CallG.gp hs ?_
          | refine CallG.gp h8 ?_
          | refine Side.mk (show (0 : Int) ≤ 0 ∧ (0 : Int) < (U.kids.length : Int) from by omega) ?_
          | refine Side.mk (show (0 : Int) ≤ 1 ∧ (1 : Int) < (U.kids.length : Int) from by omega) ?_
          | refine Side.mk (show (0 : Int) ≤ 1 ∧ (1 : Int) < ((U.kids.getD 0 .nil).kids.length : Int) from by omega) ?_
          | refine Side.mk hn0 ?_
          | refine Split.go (fun hc => ?_) fun hc => ?_) <;> conv => whnf)
        exact ret_closed rfl rfl rfl
      · have ho : outF (some (withF p T R.1, R.2)) = (.nil, false, R.2) := by unfold outF; simp [hR]
        rw [ho]
        repeat' ((first
          | refine then_go hm htt ?_
          | refine Side.go ?_
          | refine Hyp.go fun hlen => ?_
          | refine Split.ct ?_
          | refine Split.cf ?_
          | refine Split.tt ?_
          | refine Split.ff ?_
          | refine Indep.go ?_
          | refine CallG.gp h1 ?_
          | refine CallG.gp h2 ?_
          | refine CallG.gp h7 ?_
          | refine CallG.gp hs ?_
          | refine CallG.gp h8 ?_
          | refine Side.mk (show (0 : Int) ≤ 0 ∧ (0 : Int) < (U.kids.length : Int) from by omega) ?_
          | refine Side.mk (show (0 : Int) ≤ 1 ∧ (1 : Int) < (U.kids.length : Int) from by omega) ?_
          | refine Side.mk (show (0 : Int) ≤ 1 ∧ (1 : Int) < ((U.kids.getD 0 .nil).kids.length : Int) from by omega) ?_
          | refine Side.mk hn0 ?_
          | refine Split.go (fun hc => ?_) fun hc => ?_) <;> conv => whnf)
        exact ret_closed rfl rfl rfl
  · have e : nstepR T = (.nil, false, conE T) := by unfold nstepR; rw [if_pos hc0]
    rw [e]
    repeat' ((first
      | refine then_go hm htt ?_
      | refine Side.go ?_
      | refine Hyp.go fun hlen => ?_
      | refine Split.ct ?_
      | refine Split.cf ?_
      | refine Split.tt ?_
      | refine Split.ff ?_
      | refine Indep.go ?_
      | refine CallG.gp (rcheck_ok T) ?_
      | refine Split.go (fun hc => ?_) fun hc => ?_) <;> conv => whnf)
    exact ret_closed rfl rfl rfl
end No
end Go.Proofs.YtoajaklekmbcdaaGreat

namespace Go.Proofs.YtoajaklekmbcdaaGreat
namespace No
open Go Go.Mq
set_option linter.all false

def normF : Nat → Tree → Tree × Int
  | 0, T => if (nstepR T).2.2 ≠ 0 then (.nil, (nstepR T).2.2) else if (nstepR T).2.1 = true then (.nil, 18) else (T, 0)
  | k + 1, T => if (nstepR T).2.2 ≠ 0 then (.nil, (nstepR T).2.2) else if (nstepR T).2.1 = true then normF k (nstepR T).1 else (T, 0)
def normR (T : Tree) : Tree × Int := normF 1000 T

set_option maxHeartbeats 4000000 in
set_option maxRecDepth 10000 in
theorem Normal_ok (T : Tree) : Pure P 107 [.d (.tree T)] (.tuple [.d (.tree (normR T).1), .d (.int .i64 (normR T).2)]) := by
  refine Pure.of_body tt [] [2, 3] Tryz.func107 rfl rfl rfl (Nat.le_of_ble_eq_true rfl) fun g => ?_
  repeat' ((first
    | refine then_go hm htt ?_
    | refine Side.go ?_
    | refine Hyp.go fun hlen => ?_
    | refine Split.ct ?_
    | refine Split.cf ?_
    | refine Split.tt ?_
    | refine Split.ff ?_
    | refine Indep.go ?_
    | refine Split.go (fun hc => ?_) fun hc => ?_) <;> conv => whnf)
  refine loop_go (α := Nat × Tree) (fun p => ⟨[(0, .d (.tree p.2)), (10, .d (.int .i64 p.1))], 39, [], 0, g⟩)
      (fun p => p.1 ≤ 1000 ∧ normF (1000 - p.1) p.2 = normR T) (fun p => 1000 - p.1) (0, T) ⟨by simp, rfl⟩
      (Ent.go []) (fun _ => rfl) fun p hpre => ?_
  obtain ⟨i, U⟩ := p
  obtain ⟨hp1, hp2⟩ := hpre
  simp only [] at hp1 hp2
  have hs := Step_ok U
  by_cases hi : i < 1000
  · obtain ⟨k, hk⟩ : ∃ k, 1000 - i = k + 1 := ⟨1000 - i - 1, by omega⟩
    rw [hk, normF] at hp2
    generalize nstepR U = R at *
    obtain ⟨m, b, e⟩ := R
    simp only [] at hs hp2
    by_cases he : e = 0
    · rw [if_neg (by omega)] at hp2
      subst he
      cases b with
      | true =>
        repeat' ((first
          | refine then_go hm htt ?_
          | refine Side.go ?_
          | refine Hyp.go fun hlen => ?_
          | refine Split.ct ?_
          | refine Split.cf ?_
          | refine Split.tt ?_
          | refine Split.ff ?_
          | refine Indep.go ?_
          | refine CallG.gp hs ?_
          | refine Split.go (fun hc => ?_) fun hc => ?_) <;> conv => whnf)
        exact ⟨(i + 1, m), ⟨by simp only []; omega, by rw [← hp2, if_pos rfl]; congr 1; simp only []; omega⟩, by simp only []; omega, Ent.go []⟩
      | false =>
        rw [← hp2]
        repeat' ((first
          | refine then_go hm htt ?_
          | refine Side.go ?_
          | refine Hyp.go fun hlen => ?_
          | refine Split.ct ?_
          | refine Split.cf ?_
          | refine Split.tt ?_
          | refine Split.ff ?_
          | refine Indep.go ?_
          | refine CallG.gp hs ?_
          | refine Split.go (fun hc => ?_) fun hc => ?_) <;> conv => whnf)
        exact ret_closed rfl rfl rfl
    · rw [if_pos he] at hp2
      rw [← hp2]
      repeat' ((first
        | refine then_go hm htt ?_
        | refine Side.go ?_
        | refine Hyp.go fun hlen => ?_
        | refine Split.ct ?_
        | refine Split.cf ?_
        | refine Split.tt ?_
        | refine Split.ff ?_
        | refine Indep.go ?_
        | refine CallG.gp hs ?_
        | refine Split.go (fun hc => ?_) fun hc => ?_) <;> conv => whnf)
      exact ret_closed rfl rfl rfl
  · rw [show 1000 - i = 0 by omega, normF] at hp2
    generalize nstepR U = R at *
    obtain ⟨m, b, e⟩ := R
    simp only [] at hs hp2
    by_cases he : e = 0
    · rw [if_neg (by omega)] at hp2
      subst he
      rw [← hp2]
      cases b with
      | true =>
        repeat' ((first
          | refine then_go hm htt ?_
          | refine Side.go ?_
          | refine Hyp.go fun hlen => ?_
          | refine Split.ct ?_
          | refine Split.cf ?_
          | refine Split.tt ?_
          | refine Split.ff ?_
          | refine Indep.go ?_
          | refine CallG.gp hs ?_
          | refine Split.go (fun hc => ?_) fun hc => ?_) <;> conv => whnf)
        exact ret_closed rfl rfl rfl
      | false =>
        repeat' ((first
          | refine then_go hm htt ?_
          | refine Side.go ?_
          | refine Hyp.go fun hlen => ?_
          | refine Split.ct ?_
          | refine Split.cf ?_
          | refine Split.tt ?_
          | refine Split.ff ?_
          | refine Indep.go ?_
          | refine CallG.gp hs ?_
          | refine Split.go (fun hc => ?_) fun hc => ?_) <;> conv => whnf)
        exact ret_closed rfl rfl rfl
    · rw [if_pos he] at hp2
      rw [← hp2]
      repeat' ((first
        | refine then_go hm htt ?_
        | refine Side.go ?_
        | refine Hyp.go fun hlen => ?_
        | refine Split.ct ?_
        | refine Split.cf ?_
        | refine Split.tt ?_
        | refine Split.ff ?_
        | refine Indep.go ?_
        | refine CallG.gp hs ?_
        | refine Split.go (fun hc => ?_) fun hc => ?_) <;> conv => whnf)
      exact ret_closed rfl rfl rfl

set_option maxHeartbeats 4000000 in
set_option maxRecDepth 10000 in
theorem rNormal_ok (T : Tree) : Pure P 115 [.d (.tree T)] (.tuple [.d (.tree (normR T).1), .d (.int .i64 (normR T).2)]) := by
  refine Pure.of_body tt [] [2, 3] Tryz.func115 rfl rfl rfl (Nat.le_of_ble_eq_true rfl) fun g => ?_
  repeat' ((first
    | refine then_go hm htt ?_
    | refine Side.go ?_
    | refine Hyp.go fun hlen => ?_
    | refine Split.ct ?_
    | refine Split.cf ?_
    | refine Split.tt ?_
    | refine Split.ff ?_
    | refine Indep.go ?_
    | refine Split.go (fun hc => ?_) fun hc => ?_) <;> conv => whnf)
  refine loop_go (α := Nat × Tree) (fun p => ⟨[(0, .d (.tree p.2)), (4, .d (.int .i64 p.1))], 25, [], 0, g⟩)
      (fun p => p.1 ≤ 1000 ∧ normF (1000 - p.1) p.2 = normR T) (fun p => 1000 - p.1) (0, T) ⟨by simp, rfl⟩
      (Ent.go []) (fun _ => rfl) fun p hpre => ?_
  obtain ⟨i, U⟩ := p
  obtain ⟨hp1, hp2⟩ := hpre
  simp only [] at hp1 hp2
  have hs := rStep_ok U
  by_cases hi : i < 1000
  · obtain ⟨k, hk⟩ : ∃ k, 1000 - i = k + 1 := ⟨1000 - i - 1, by omega⟩
    rw [hk, normF] at hp2
    generalize nstepR U = R at *
    obtain ⟨m, b, e⟩ := R
    simp only [] at hs hp2
    by_cases he : e = 0
    · rw [if_neg (by omega)] at hp2
      subst he
      cases b with
      | true =>
        repeat' ((first
          | refine then_go hm htt ?_
          | refine Side.go ?_
          | refine Hyp.go fun hlen => ?_
          | refine Split.ct ?_
          | refine Split.cf ?_
          | refine Split.tt ?_
          | refine Split.ff ?_
          | refine Indep.go ?_
          | refine CallG.gp hs ?_
          | refine Split.go (fun hc => ?_) fun hc => ?_) <;> conv => whnf)
        exact ⟨(i + 1, m), ⟨by simp only []; omega, by rw [← hp2, if_pos rfl]; congr 1; simp only []; omega⟩, by simp only []; omega, Ent.go []⟩
      | false =>
        rw [← hp2]
        repeat' ((first
          | refine then_go hm htt ?_
          | refine Side.go ?_
          | refine Hyp.go fun hlen => ?_
          | refine Split.ct ?_
          | refine Split.cf ?_
          | refine Split.tt ?_
          | refine Split.ff ?_
          | refine Indep.go ?_
          | refine CallG.gp hs ?_
          | refine Split.go (fun hc => ?_) fun hc => ?_) <;> conv => whnf)
        exact ret_closed rfl rfl rfl
    · rw [if_pos he] at hp2
      rw [← hp2]
      repeat' ((first
        | refine then_go hm htt ?_
        | refine Side.go ?_
        | refine Hyp.go fun hlen => ?_
        | refine Split.ct ?_
        | refine Split.cf ?_
        | refine Split.tt ?_
        | refine Split.ff ?_
        | refine Indep.go ?_
        | refine CallG.gp hs ?_
        | refine Split.go (fun hc => ?_) fun hc => ?_) <;> conv => whnf)
      exact ret_closed rfl rfl rfl
  · rw [show 1000 - i = 0 by omega, normF] at hp2
    generalize nstepR U = R at *
    obtain ⟨m, b, e⟩ := R
    simp only [] at hs hp2
    by_cases he : e = 0
    · rw [if_neg (by omega)] at hp2
      subst he
      rw [← hp2]
      cases b with
      | true =>
        repeat' ((first
          | refine then_go hm htt ?_
          | refine Side.go ?_
          | refine Hyp.go fun hlen => ?_
          | refine Split.ct ?_
          | refine Split.cf ?_
          | refine Split.tt ?_
          | refine Split.ff ?_
          | refine Indep.go ?_
          | refine CallG.gp hs ?_
          | refine Split.go (fun hc => ?_) fun hc => ?_) <;> conv => whnf)
        exact ret_closed rfl rfl rfl
      | false =>
        repeat' ((first
          | refine then_go hm htt ?_
          | refine Side.go ?_
          | refine Hyp.go fun hlen => ?_
          | refine Split.ct ?_
          | refine Split.cf ?_
          | refine Split.tt ?_
          | refine Split.ff ?_
          | refine Indep.go ?_
          | refine CallG.gp hs ?_
          | refine Split.go (fun hc => ?_) fun hc => ?_) <;> conv => whnf)
        exact ret_closed rfl rfl rfl
    · rw [if_pos he] at hp2
      rw [← hp2]
      repeat' ((first
        | refine then_go hm htt ?_
        | refine Side.go ?_
        | refine Hyp.go fun hlen => ?_
        | refine Split.ct ?_
        | refine Split.cf ?_
        | refine Split.tt ?_
        | refine Split.ff ?_
        | refine Indep.go ?_
        | refine CallG.gp hs ?_
        | refine Split.go (fun hc => ?_) fun hc => ?_) <;> conv => whnf)
      exact ret_closed rfl rfl rfl

def nequalR (A B : Tree) : Bool × Int := if (normR A).2 ≠ 0 then (false, (normR A).2) else if (normR B).2 ≠ 0 then (false, (normR B).2) else (sameF (normR A).1 (normR B).1, 0)
end No
end Go.Proofs.YtoajaklekmbcdaaGreat

namespace Go.Proofs.YtoajaklekmbcdaaGreat
namespace No
open Go Go.Mq
set_option linter.all false

def starT : Tree := .node 100 0 ByteArray.empty ByteArray.empty []
def arrT (a b : Tree) : Tree := .node 114 0 ByteArray.empty ByteArray.empty [a, b]
def lamT (a b : Tree) : Tree := .node 119 0 ByteArray.empty ByteArray.empty [a, b]
def appT (a b : Tree) : Tree := .node 120 0 ByteArray.empty ByteArray.empty [a, b]
def wApp : Tree := appT (lamT starT (arrT (varT 0) (varT 0))) wI
def wArr : Tree := arrT wI wI
def wS : ByteArray := ⟨#[40, 32, 105, 110, 116, 32, 45, 62, 32, 105, 110, 116, 32, 41]⟩
theorem w_norm : normR wApp = (wArr, 0) := by kernel_rfl
theorem w_show : showR wArr = wS := by kernel_rfl
theorem normF_nil : ∀ (k : Nat) (T : Tree), (normF k T).2 ≠ 0 → (normF k T).1 = .nil
  | 0, T => by
    rw [normF]
    repeat' split
    all_goals first | exact fun _ => rfl | exact fun h => absurd rfl h
  | k + 1, T => by
    rw [normF]
    split
    · exact fun _ => rfl
    · split
      · exact normF_nil k _
      · exact fun h => absurd rfl h
theorem normF_end : ∀ (k : Nat) (T : Tree), (normF k T).2 = 0 → (nstepR (normF k T).1).2.1 = false ∧ (nstepR (normF k T).1).2.2 = 0
  | 0, T => by
    rw [normF]
    split
    · exact fun h => absurd h ‹_›
    · rename_i h1
      split
      · exact fun h => absurd h (by decide)
      · rename_i h2
        exact fun _ => ⟨by simpa using h2, by simpa using h1⟩
  | k + 1, T => by
    rw [normF]
    split
    · exact fun h => absurd h ‹_›
    · rename_i h1
      split
      · exact normF_end k _
      · rename_i h2
        exact fun _ => ⟨by simpa using h2, by simpa using h1⟩
theorem normF_stop {T : Tree} (h1 : (nstepR T).2.1 = false) (h2 : (nstepR T).2.2 = 0) : ∀ k, normF k T = (T, 0)
  | 0 => by rw [normF, if_neg (by omega), if_neg (by simp [h1])]
  | k + 1 => by rw [normF, if_neg (by omega), if_neg (by simp [h1])]

theorem star_con : isKindF starT = true := by kernel_rfl
theorem two_con {k : Int} {a b : Tree} (hk : k = 114 ∨ k = 120) (ha : isConF a = true) (hb : isConF b = true) : isConF (.node k 0 ByteArray.empty ByteArray.empty [a, b]) = true := by
  rw [isConF_eq (by simp)]
  simp only [Tree.kind, Tree.kids, Tree.n]
  rcases hk with rfl | rfl <;> simp [bareF, Tree.mark, Tree.name, Tree.n, ha, hb]
theorem lam_con {k : Int} {a b : Tree} (hk : k = 117 ∨ k = 118 ∨ k = 119) (ha : isKindF a = true) (hb : isConF b = true) : isConF (.node k 0 ByteArray.empty ByteArray.empty [a, b]) = true := by
  rw [isConF_eq (by simp)]
  simp only [Tree.kind, Tree.kids, Tree.n]
  rcases hk with rfl | rfl | rfl <;> simp [bareF, Tree.mark, Tree.name, Tree.n, ha, hb]
theorem sizeN_two (k n : Int) (nm mk : ByteArray) (a b : Tree) : sizeN (.node k n nm mk [a, b]) = 1 + (sizeN a + sizeN b) := by
  rw [sizeN_kids (by simp)]; simp [Tree.kids, sizesN]
theorem fewF_size (l : List Cel) : sizeN (fewF l) ≤ 60 := by
  have h := openF_size (fewL l) (fun c hc => by
    unfold fewL at hc
    obtain ⟨c', _, rfl⟩ := List.mem_map.1 hc
    have := loF_le 12 c'.kids.length (by omega) (by omega)
    have := cutC_len c'
    omega)
  have : (fewL l).length ≤ 60 := by unfold fewL; simp; omega
  unfold fewF
  omega

theorem whole_err (T : Tree) : Full T → ∀ left : Int, (wholeF left T).1 = 0 ∨ (wholeF left T).1 = 3 := by
  induction T using Tree.ind' with
  | h0 => intro h; exact absurd rfl h.ne
  | h1 T hT ih =>
    intro hF left
    rw [wholeF_kids hT]
    split
    · exact .inr rfl
    · have key : ∀ (l : List Tree), (∀ x ∈ l, ∀ left : Int, (wholeF left x).1 = 0 ∨ (wholeF left x).1 = 3) → ∀ left : Int, (wholesF left l).1 = 0 ∨ (wholesF left l).1 = 3 := by
        intro l
        induction l with
        | nil => intro _ left; exact .inl rfl
        | cons x l ih2 =>
          intro hx left
          rw [wholesF]
          split
          · exact ih2 (fun y hy => hx y (by simp [hy])) _
          · exact hx x (by simp) left
      exact key _ (fun x hx => ih x hx (hF.kids x hx)) _
theorem conE_con {T : Tree} (h : isConF T = true) (hF : Full T) : conE T = 0 ∨ conE T = 3 := by
  unfold conE checkF
  rcases whole_err T hF 65536 with e | e
  · rw [if_pos e, h]; exact .inl rfl
  · rw [e]; exact .inr rfl
theorem out_more {o : Option (Tree × Int)} {m : Tree} (h : outF o = (m, true, 0)) : o = some (m, 0) := by
  unfold outF at h
  cases o with
  | none => cases h
  | some p =>
    obtain ⟨a, b⟩ := p
    simp only [] at h
    split at h
    · cases h; simp_all
    · cases h
theorem out_none {o : Option (Tree × Int)} (h1 : (outF o).2.1 = false) (h2 : (outF o).2.2 = 0) : o = none := by
  unfold outF at *
  cases o with
  | none => rfl
  | some p =>
    obtain ⟨a, b⟩ := p
    simp only [] at h1 h2
    by_cases hb : b = 0
    · simp [hb] at h1
    · simp [hb] at h2
theorem nstep_zero {T : Tree} (h : (nstepR T).2.2 = 0) : conE T = 0 ∧ nstepR T = outF (stepF T) := by
  unfold nstepR at *
  by_cases hc : conE T = 0
  · exact ⟨hc, by rw [if_neg (by omega)]⟩
  · rw [if_pos hc] at h; exact absurd h hc
theorem norm_first {k : Nat} {a x : Tree} (h : normF k a = (x, 0)) : (nstepR a).2.2 = 0 ∧ (((nstepR a).2.1 = false ∧ x = a) ∨ ((nstepR a).2.1 = true ∧ ∃ k', normF k' (nstepR a).1 = (x, 0))) := by
  cases k with
  | zero =>
    rw [normF] at h
    split at h
    · exact absurd (congrArg Prod.snd h) ‹_›
    · split at h
      · cases h
      · cases h; exact ⟨by simpa using ‹¬ _ ≠ _›, .inl ⟨by simpa using ‹¬ _ = true›, rfl⟩⟩
  | succ k =>
    rw [normF] at h
    split at h
    · exact absurd (congrArg Prod.snd h) ‹_›
    · split at h
      · exact ⟨by simpa using ‹¬ _ ≠ _›, .inr ⟨‹_›, k, h⟩⟩
      · cases h; exact ⟨by simpa using ‹¬ _ ≠ _›, .inl ⟨by simpa using ‹¬ _ = true›, rfl⟩⟩
theorem step_arr (a b : Tree) : stepF (arrT a b) = match stepF a with
    | some p => some (arrT p.1 b, p.2)
    | none => (stepF b).map fun p => (arrT a p.1, p.2) := by
  unfold arrT
  rw [stepF_eq (by simp), if_neg (by unfold redexF; simp [Tree.kind])]
  simp only [Tree.kids, Tree.kind, Tree.n, Tree.name, Tree.mark, stepsF]
  cases stepF a with
  | some p => rfl
  | none =>
    cases stepF b with
    | some p => rfl
    | none => rfl
theorem norm_arr0 (k : Nat) (ih : ∀ (ka kb : Nat) (a b x y : Tree), 0 < k → normF ka a = (x, 0) → normF kb b = (y, 0) → normF (k - 1) (arrT a b) = (arrT x y, 0) ∨ ∃ g, (g = 18 ∨ g = 3) ∧ normF (k - 1) (arrT a b) = (.nil, g))
    (ka kb : Nat) (a b x y : Tree) (ha : normF ka a = (x, 0)) (hb : normF kb b = (y, 0)) : normF k (arrT a b) = (arrT x y, 0) ∨ ∃ g, (g = 18 ∨ g = 3) ∧ normF k (arrT a b) = (.nil, g) := by
  obtain ⟨a0, ha⟩ := norm_first ha
  obtain ⟨b0, hb'⟩ := norm_first hb
  obtain ⟨ac, ae⟩ := nstep_zero a0
  obtain ⟨bc, be⟩ := nstep_zero b0
  have more : ∀ M : Tree, nstepR (arrT a b) = (M, true, 0) → (0 < k → normF (k - 1) M = (arrT x y, 0) ∨ ∃ g, (g = 18 ∨ g = 3) ∧ normF (k - 1) M = (.nil, g)) → normF k (arrT a b) = (arrT x y, 0) ∨ ∃ g, (g = 18 ∨ g = 3) ∧ normF k (arrT a b) = (.nil, g) := by
    intro M hM hk
    cases k with
    | zero => rw [normF, hM]; exact .inr ⟨18, .inl rfl, rfl⟩
    | succ k => rw [normF, hM]; exact hk (by omega)
  rcases conE_con (two_con (.inl rfl) (conE_full ac).2 (conE_full bc).2 : isConF (arrT a b) = true) (.node fun x hx => by
    simp only [List.mem_cons, List.not_mem_nil, or_false] at hx
    rcases hx with rfl | rfl
    · exact (conE_full ac).1
    · exact (conE_full bc).1) with hc | hc
  · have hc : conE (arrT a b) = 0 := hc
    have hn : nstepR (arrT a b) = outF (stepF (arrT a b)) := by unfold nstepR; rw [if_neg (by omega)]
    rw [step_arr] at hn
    rcases ha with ⟨a1, ex⟩ | ⟨a1, ka', ha⟩
    · have ex := ex.symm
      subst ex
      rw [ae] at a1 a0
      rw [out_none a1 a0] at hn
      rcases hb' with ⟨b1, ey⟩ | ⟨b1, kb', hb2⟩
      · have ey := ey.symm
        subst ey
        rw [be] at b1 b0
        rw [out_none b1 b0] at hn
        exact .inl (normF_stop (by rw [hn]; rfl) (by rw [hn]; rfl) k)
      · have hm : outF (stepF b) = ((nstepR b).1, true, 0) := by rw [← be, ← b1, ← b0]
        rw [out_more hm] at hn
        refine more _ hn fun hk => ?_
        exact ih ka kb' a _ a y hk (normF_stop (by rw [ae]; exact a1) (by rw [ae]; exact a0) ka) hb2
    · have hm : outF (stepF a) = ((nstepR a).1, true, 0) := by rw [← ae, ← a1, ← a0]
      rw [out_more hm] at hn
      exact more _ hn fun hk => ih ka' kb _ b x y hk ha hb
  · have hc : conE (arrT a b) = 3 := hc
    have hn : nstepR (arrT a b) = (.nil, false, 3) := by unfold nstepR; rw [if_pos (by omega), hc]
    refine .inr ⟨3, .inr rfl, ?_⟩
    cases k with
    | zero => rw [normF, hn]; rfl
    | succ k => rw [normF, hn]; rfl
theorem norm_arr : ∀ (k ka kb : Nat) (a b x y : Tree), normF ka a = (x, 0) → normF kb b = (y, 0) → normF k (arrT a b) = (arrT x y, 0) ∨ ∃ g, (g = 18 ∨ g = 3) ∧ normF k (arrT a b) = (.nil, g) := by
  intro k
  induction k with
  | zero =>
    intro ka kb a b x y ha hb
    exact norm_arr0 0 (fun _ _ _ _ _ _ h => absurd h (by omega)) ka kb a b x y ha hb
  | succ k ih => 
    intro ka kb a b x y ha hb
    exact norm_arr0 (k + 1) (fun ka kb a b x y _ => ih ka kb a b x y) ka kb a b x y ha hb

end No
end Go.Proofs.YtoajaklekmbcdaaGreat
