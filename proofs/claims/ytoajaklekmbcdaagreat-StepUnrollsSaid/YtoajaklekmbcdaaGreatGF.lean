/- What functions of the program compute, and plain facts about it. -/
import Derived.Test.YtoajaklekmbcdaaGreatGC
import Derived.Test.YtoajaklekmbcdaaGreatGD
import Derived.Test.YtoajaklekmbcdaaGreatGB
set_option linter.all false
namespace Go.Proofs.YtoajaklekmbcdaaGreat
open Go Go.Mq
set_option linter.all false

/-! sem: the forms of signatures -/
def bareNF (T : Tree) : Bool := decide (T.mark = ByteArray.empty) && decide (T.name = ByteArray.empty) && decide (0 ≤ T.n) && decide (T.n ≤ 8192)
mutual
def isSigF : Tree → Bool
  | .nil => false
  | .node k n nm mk l =>
    bareF (.node k n nm mk l) false false &&
    (if k = 160 ∨ k = 161 then ((l.length : Int) == 1) && decide (conE (l.getD 0 .nil) = 0)
     else if k = 162 then sigFieldsF l && risingF l
     else false)
def sigAt (i : Nat) : List Tree → Bool
  | [] => false
  | x :: l => match i with
    | 0 => isSigF x
    | i + 1 => sigAt i l
def sigFieldsF : List Tree → Bool
  | [] => true
  | x :: l => sigFieldF x && sigFieldsF l
def sigFieldF : Tree → Bool
  | .nil => false
  | .node k n nm mk l => (k == 163) && bareF (.node k n nm mk l) true false && labelF nm && ((l.length : Int) == 1) && sigAt 0 l
end
theorem sigAt_eq : ∀ (l : List Tree) (i : Nat), sigAt i l = isSigF (l.getD i .nil)
  | [], i => by rw [sigAt]; simp [isSigF]
  | x :: l, 0 => by rw [sigAt]; rfl
  | x :: l, i + 1 => by rw [sigAt]; exact sigAt_eq l i
theorem sigFieldF_eq {T : Tree} (h : T ≠ .nil) : sigFieldF T = ((T.kind == 163) && bareF T true false && labelF T.name && ((T.kids.length : Int) == 1) && isSigF (T.kids.getD 0 .nil)) := by
  cases T with
  | nil => exact absurd rfl h
  | node k n nm mk l => rw [sigFieldF, sigAt_eq]; rfl
theorem isSigF_eq {T : Tree} (h : T ≠ .nil) : isSigF T = (bareF T false false &&
    (if T.kind = 160 ∨ T.kind = 161 then ((T.kids.length : Int) == 1) && decide (conE (T.kids.getD 0 .nil) = 0)
     else if T.kind = 162 then sigFieldsF T.kids && risingF T.kids
     else false)) := by
  cases T with
  | nil => exact absurd rfl h
  | node k n nm mk l => rw [isSigF]; rfl
def exF (T : Tree) : Bool := (T.kind == 164) && bareNF T && ((T.kids.length : Int) == 1) && isSigF (T.kids.getD 0 .nil)
def funF (T : Tree) : Bool := (T.kind == 165) && bareNF T && ((T.kids.length : Int) == 2) && isSigF (T.kids.getD 0 .nil) && exF (T.kids.getD 1 .nil)
def semE (T : Tree) : Int := checkF (isSigF T || exF T || funF T) T

end Go.Proofs.YtoajaklekmbcdaaGreat

namespace Go.Proofs.YtoajaklekmbcdaaGreat
open Go Go.Mq
set_option linter.all false

/-! the document's forms of signatures -/
theorem bareF_tf (T : Tree) : bareF T true false = (decide (T.mark = ByteArray.empty) && (T.n == 0)) := by unfold bareF; simp
theorem bareF_ff (T : Tree) : bareF T false false = (decide (T.mark = ByteArray.empty) && decide (T.name = ByteArray.empty) && (T.n == 0)) := by unfold bareF; simp

def binF (T : Tree) (kind cnt : Int) : Bool := (T.kind == kind) && bareNF T && ((T.kids.length : Int) == cnt)
theorem whole_code (T : Tree) : ∀ left : Int, (wholeF left T).1 = 0 ∨ (wholeF left T).1 = 1 ∨ (wholeF left T).1 = 3 := by
  induction T using Tree.ind' with
  | h0 => intro left; rw [wholeF]; exact .inr (.inl rfl)
  | h1 T hT ih =>
    have kids : ∀ (l : List Tree), (∀ x ∈ l, ∀ left : Int, (wholeF left x).1 = 0 ∨ (wholeF left x).1 = 1 ∨ (wholeF left x).1 = 3) → ∀ left : Int, (wholesF left l).1 = 0 ∨ (wholesF left l).1 = 1 ∨ (wholesF left l).1 = 3 := by
      intro l
      induction l with
      | nil => intro _ left; rw [wholesF]; exact .inl rfl
      | cons x l ih2 =>
        intro hx left
        rw [wholesF]
        split
        · exact ih2 (fun y hy => hx y (by simp [hy])) _
        · exact hx x (by simp) left
    intro left
    rw [wholeF_kids hT]
    split
    · exact .inr (.inr rfl)
    · exact kids T.kids ih _

end Go.Proofs.YtoajaklekmbcdaaGreat

namespace Go.Proofs.YtoajaklekmbcdaaGreat
namespace Ex
open Go Go.Mq
set_option linter.all false

/-! expo -/
def ebindsF (T : Tree) : Int := if T.kind = 164 ∨ T.kind = 165 then T.n else bindsF T
def anyOcc (n : Tree) : Nat → Nat → Bool
  | 0, _ => false
  | m + 1, k => occursR n k || anyOcc n m (k + 1)
def fillC (cons : List Tree) (i : Nat) (c : Tree) : List Tree := if (cons.getD i .nil).isNil = true then cons.set i c else cons
def varF (cons : List Tree) (i : Int) (n : Tree) (d : Int) : Bool × List Tree :=
  if conE n ≠ 0 then (false, cons) else if anyOcc n d.toNat 0 = true then (false, cons) else if (shiftR n (IntKind.i64.wrap (0 - d)) 0).2 ≠ 0 then (false, cons)
  else (sameF ((fillC cons (i.toNat * 1) (shiftR n (IntKind.i64.wrap (0 - d)) 0).1).getD (i.toNat * 1) .nil) (shiftR n (IntKind.i64.wrap (0 - d)) 0).1, fillC cons (i.toNat * 1) (shiftR n (IntKind.i64.wrap (0 - d)) 0).1)
theorem fillC_len (cons : List Tree) (i : Nat) (c : Tree) : (fillC cons i c).length = cons.length := by unfold fillC; split <;> simp
theorem varF_len (cons : List Tree) (i : Int) (n : Tree) (d : Int) : (varF cons i n d).2.length = cons.length := by
  unfold varF; repeat' split
  all_goals first | rfl | exact fillC_len _ _ _

def rng (d : Int) : Prop := -9223372036854775808 ≤ d ∧ d < 9223372036854775808
theorem wrap_rng (x : Int) : rng (IntKind.i64.wrap x) := by unfold rng; rw [IntKind.wrap_i64]; omega
theorem row_cell {e : TypeId} {a b : List Tree} (h : a = b) : some (AObj.row e (.trees a)) = some (AObj.row e (.trees b)) := by rw [h]

end Ex
end Go.Proofs.YtoajaklekmbcdaaGreat

namespace Go.Proofs.YtoajaklekmbcdaaGreat
namespace Ex
open Go Go.Mq
set_option linter.all false

/-- Variables and binders are within what may be. -/
inductive EB : Tree → Prop
  | node {k n : Int} {nm mk : ByteArray} {l : List Tree} (hv : k = 110 → 0 ≤ n ∧ n ≤ 65536) (hb : k = 164 ∨ k = 165 → 0 ≤ n ∧ n ≤ 8192) (h : ∀ x ∈ l, EB x) : EB (.node k n nm mk l)
theorem EB.of {T : Tree} (hT : T ≠ .nil) (hv : T.kind = 110 → 0 ≤ T.n ∧ T.n ≤ 65536) (hb : T.kind = 164 ∨ T.kind = 165 → 0 ≤ T.n ∧ T.n ≤ 8192) (hk : ∀ x ∈ T.kids, EB x) : EB T := by
  cases T with
  | nil => exact absurd rfl hT
  | node => exact .node hv hb hk
theorem EB.v {T : Tree} (h : EB T) : T.kind = 110 → 0 ≤ T.n ∧ T.n ≤ 65536 := by cases h; assumption
theorem EB.b {T : Tree} (h : EB T) : T.kind = 164 ∨ T.kind = 165 → 0 ≤ T.n ∧ T.n ≤ 8192 := by cases h; assumption
theorem EB.k {T : Tree} (h : EB T) : ∀ x ∈ T.kids, EB x := by cases h; assumption
theorem EB.full {T : Tree} (h : EB T) : Full T := by
  induction T using Tree.ind with
  | h0 => cases h
  | h1 k n nm mk l ih => exact .node fun x hx => ih x hx (h.k x hx)
theorem EB.ebinds {T : Tree} (h : EB T) : 0 ≤ ebindsF T ∧ ebindsF T ≤ 8192 := by
  unfold ebindsF
  have := bindsF_b T
  split
  · exact h.b ‹_›
  · omega
theorem kind_EB (T : Tree) : isKindF T = true → EB T := by
  induction T using Tree.ind' with
  | h0 => intro h; rw [isKindF] at h; cases h
  | h1 T hT ih =>
    intro h
    rw [isKindF_eq hT] at h
    split at h
    · rename_i hk
      rw [Bool.and_eq_true] at h
      have hl : T.kids = [] := by have := h.2; rw [beq_iff_eq] at this; exact List.length_eq_zero_iff.1 (by omega)
      exact .of hT (fun e => by omega) (fun e => by omega) (fun x hx => by rw [hl] at hx; cases hx)
    · split at h
      · rename_i hk
        simp only [Bool.and_eq_true, beq_iff_eq] at h
        obtain ⟨⟨⟨h1, h2⟩, h3⟩, h4⟩ := h
        refine .of hT (fun e => by omega) (fun e => by omega) (fun x hx => ?_)
        rcases mem_two (by omega : T.kids.length = 2) hx with e | e
        · exact ih x hx (by rw [e]; exact h3)
        · exact ih x hx (by rw [e]; exact h4)
      · cases h
theorem field_EB {kind : Int} {x : Tree} (hk : kind ≠ 110 ∧ kind ≠ 164 ∧ kind ≠ 165) (h : fieldF kind x = true) (ih : ∀ y ∈ x.kids, isConF y = true → EB y) : EB x := by
  have hx : x ≠ .nil := by intro e; subst e; rw [fieldF] at h; cases h
  rw [fieldF_eq hx] at h
  simp only [Bool.and_eq_true, beq_iff_eq] at h
  obtain ⟨⟨⟨⟨h1, h2⟩, h3⟩, h4⟩, h5⟩ := h
  refine .of hx (fun e => by omega) (fun e => by omega) (fun y hy => ?_)
  have e := mem_one (by omega : x.kids.length = 1) hy
  exact ih y hy (by rw [e]; exact h5)
theorem con_EB (T : Tree) : isConF T = true → EB T := by
  suffices h : (isConF T = true → EB T) ∧ ∀ x ∈ T.kids, isConF x = true → EB x from h.1
  induction T using Tree.ind' with
  | h0 => exact ⟨fun h => (by rw [isConF] at h; cases h), fun x hx => (by cases hx)⟩
  | h1 T hT ih =>
    refine ⟨fun h => ?_, fun x hx => (ih x hx).1⟩
    rw [isConF_eq hT, Bool.and_eq_true] at h
    obtain ⟨_, h⟩ := h
    split at h
    · rename_i hk
      simp only [Bool.and_eq_true, beq_iff_eq, decide_eq_true_eq] at h
      have hl : T.kids = [] := List.length_eq_zero_iff.1 (by omega)
      exact .of hT (fun _ => h.1) (fun e => by omega) (fun x hx => by rw [hl] at hx; cases hx)
    rename_i hv
    split at h
    · rw [beq_iff_eq] at h
      have hl : T.kids = [] := List.length_eq_zero_iff.1 (by omega)
      exact .of hT (fun e => absurd e hv) (fun e => by omega) (fun x hx => by rw [hl] at hx; cases hx)
    split at h
    · simp only [Bool.and_eq_true, beq_iff_eq] at h
      refine .of hT (fun e => absurd e hv) (fun e => by omega) (fun x hx => ?_)
      rcases mem_two (by omega : T.kids.length = 2) hx with e | e
      · exact (ih x hx).1 (by rw [e]; exact h.1.2)
      · exact (ih x hx).1 (by rw [e]; exact h.2)
    split at h
    · simp only [Bool.and_eq_true] at h
      exact .of hT (fun e => absurd e hv) (fun e => by omega) (fun x hx => field_EB (by decide) (fieldsF_mem h.1 x hx) (ih x hx).2)
    split at h
    · simp only [Bool.and_eq_true, beq_iff_eq] at h
      refine .of hT (fun e => absurd e hv) (fun e => by omega) (fun x hx => ?_)
      rcases mem_two (by omega : T.kids.length = 2) hx with e | e
      · exact kind_EB x (by rw [e]; exact h.1.2)
      · exact (ih x hx).1 (by rw [e]; exact h.2)
    split at h
    · simp only [Bool.and_eq_true] at h
      exact .of hT (fun e => absurd e hv) (fun e => by omega) (fun x hx => field_EB (by decide) (fieldsF_mem h.1.2 x hx) (ih x hx).2)
    · cases h
theorem sigFieldsF_mem : ∀ {l : List Tree}, sigFieldsF l = true → ∀ x ∈ l, sigFieldF x = true
  | [], _, x, hx => by cases hx
  | y :: l, h, x, hx => by
    rw [sigFieldsF, Bool.and_eq_true] at h
    rcases List.mem_cons.1 hx with rfl | hx
    · exact h.1
    · exact sigFieldsF_mem h.2 x hx
theorem sig_EB (T : Tree) : isSigF T = true → EB T := by
  suffices h : (isSigF T = true → EB T) ∧ ∀ x ∈ T.kids, isSigF x = true → EB x from h.1
  induction T using Tree.ind' with
  | h0 => exact ⟨fun h => (by rw [isSigF] at h; cases h), fun x hx => (by cases hx)⟩
  | h1 T hT ih =>
    refine ⟨fun h => ?_, fun x hx => (ih x hx).1⟩
    rw [isSigF_eq hT, Bool.and_eq_true] at h
    obtain ⟨_, h⟩ := h
    split at h
    · simp only [Bool.and_eq_true, beq_iff_eq, decide_eq_true_eq] at h
      refine .of hT (fun e => by omega) (fun e => by omega) (fun x hx => ?_)
      have e := mem_one (by omega : T.kids.length = 1) hx
      exact con_EB x (by rw [e]; exact (conE_full h.2).2)
    split at h
    · rw [Bool.and_eq_true] at h
      refine .of hT (fun e => by omega) (fun e => by omega) (fun x hx => ?_)
      have hf := sigFieldsF_mem h.1 x hx
      have hx0 : x ≠ .nil := by intro e; subst e; rw [sigFieldF] at hf; cases hf
      rw [sigFieldF_eq hx0] at hf
      simp only [Bool.and_eq_true, beq_iff_eq] at hf
      obtain ⟨⟨⟨⟨h1, h2⟩, h3⟩, h4⟩, h5⟩ := hf
      refine .of hx0 (fun e => by omega) (fun e => by omega) (fun y hy => ?_)
      have e := mem_one (by omega : x.kids.length = 1) hy
      exact (ih x hx).2 y hy (by rw [e]; exact h5)
    · cases h
theorem ex_EB {T : Tree} (hT : T ≠ .nil) (h : exF T = true) : EB T := by
  unfold exF bareNF at h
  simp only [Bool.and_eq_true, beq_iff_eq, decide_eq_true_eq] at h
  obtain ⟨⟨⟨h1, h2⟩, h3⟩, h4⟩ := h
  refine .of hT (fun e => by omega) (fun e => ⟨h2.1.2, h2.2⟩) (fun x hx => ?_)
  have e := mem_one (by omega : T.kids.length = 1) hx
  exact sig_EB x (by rw [e]; exact h4)
theorem fun_EB {T : Tree} (hT : T ≠ .nil) (h : funF T = true) : EB T := by
  unfold funF bareNF at h
  simp only [Bool.and_eq_true, beq_iff_eq, decide_eq_true_eq] at h
  obtain ⟨⟨⟨⟨h1, h2⟩, h3⟩, h4⟩, h5⟩ := h
  have h5n : T.kids.getD 1 .nil ≠ .nil := by intro e; rw [e] at h5; unfold exF at h5; simp [Tree.kind] at h5
  refine .of hT (fun e => by omega) (fun e => ⟨h2.1.2, h2.2⟩) (fun x hx => ?_)
  rcases mem_two (by omega : T.kids.length = 2) hx with e | e
  · exact sig_EB x (by rw [e]; exact h4)
  · rw [e]; exact ex_EB h5n h5
/-- A constructor or a signature. -/
def formF (T : Tree) : Bool := decide (conE T = 0) || decide (semE T = 0)
theorem semE_full {T : Tree} (h : semE T = 0) : Full T ∧ (isSigF T || exF T || funF T) = true ∧ sizeN T ≤ 65536 := by
  unfold semE checkF at h
  split at h
  · refine ⟨wholeF_full T _ ‹_›, ?_, ?_⟩
    · cases hc : (isSigF T || exF T || funF T)
      · rw [hc] at h; simp at h
      · rfl
    · have := (wholeF_size T 65536 (by omega) ‹_›).2; omega
  · exact absurd h ‹_›
theorem form_EB {T : Tree} (h : formF T = true) : EB T ∧ sizeN T ≤ 65536 := by
  unfold formF at h
  simp only [Bool.or_eq_true, decide_eq_true_eq] at h
  rcases h with h | h
  · exact ⟨con_EB T (conE_full h).2, conE_size h⟩
  · obtain ⟨h1, h2, h3⟩ := semE_full h
    refine ⟨?_, h3⟩
    simp only [Bool.or_eq_true] at h2
    rcases h2 with (h2 | h2) | h2
    · exact sig_EB T h2
    · exact ex_EB h1.ne h2
    · exact fun_EB h1.ne h2

mutual
def fitsF : Tree → Tree → Int → List Tree → Bool × List Tree
  | .nil, _, _, cons => (false, cons)
  | .node k a nm mk l, n, d, cons =>
    if k = 110 ∧ d ≤ a ∧ IntKind.i64.wrap (a - d) < cons.length then varF cons (IntKind.i64.wrap (a - d)) n d
    else if k ≠ n.kind ∨ a ≠ n.n ∨ nm ≠ n.name ∨ mk ≠ n.mark ∨ l.length ≠ n.kids.length then (false, cons)
    else fitssF l n.kids (IntKind.i64.wrap (d + ebindsF (.node k a nm mk l))) cons
def fitssF : List Tree → List Tree → Int → List Tree → Bool × List Tree
  | [], _, _, cons => (true, cons)
  | x :: l, ys, d, cons => if (fitsF x (ys.getD 0 .nil) d cons).1 = true then fitssF l (ys.drop 1) d (fitsF x (ys.getD 0 .nil) d cons).2 else (false, (fitsF x (ys.getD 0 .nil) d cons).2)
end
theorem fitsF_eq {T : Tree} (h : T ≠ .nil) (n : Tree) (d : Int) (cons : List Tree) : fitsF T n d cons =
    if T.kind = 110 ∧ d ≤ T.n ∧ IntKind.i64.wrap (T.n - d) < cons.length then varF cons (IntKind.i64.wrap (T.n - d)) n d
    else if T.kind ≠ n.kind ∨ T.n ≠ n.n ∨ T.name ≠ n.name ∨ T.mark ≠ n.mark ∨ T.kids.length ≠ n.kids.length then (false, cons)
    else fitssF T.kids n.kids (IntKind.i64.wrap (d + ebindsF T)) cons := by
  cases T with
  | nil => exact absurd rfl h
  | node => rw [fitsF]; rfl
theorem fits_len (T : Tree) : ∀ n d cons, (fitsF T n d cons).2.length = cons.length := by
  induction T using Tree.ind' with
  | h0 => intro n d cons; rw [fitsF]
  | h1 T hT ih =>
    have kids : ∀ (l : List Tree), (∀ x ∈ l, ∀ n d cons, (fitsF x n d cons).2.length = cons.length) → ∀ ys d cons, (fitssF l ys d cons).2.length = cons.length := by
      intro l
      induction l with
      | nil => intro _ ys d cons; rw [fitssF]
      | cons x l ih2 =>
        intro hx ys d cons
        rw [fitssF]
        split
        · rw [ih2 (fun y hy => hx y (by simp [hy])), hx x (by simp)]
        · exact hx x (by simp) _ _ _
    intro n d cons
    rw [fitsF_eq hT]
    split
    · exact varF_len _ _ _ _
    · split
      · rfl
      · exact kids T.kids ih _ _ _
theorem fitss_step {l ys : List Tree} {p : Nat} (d : Int) (cons : List Tree) (h : p < l.length) : fitssF (l.drop p) (ys.drop p) d cons =
    if (fitsF (l.getD p .nil) (ys.getD p .nil) d cons).1 = true then fitssF (l.drop (p + 1)) (ys.drop (p + 1)) d (fitsF (l.getD p .nil) (ys.getD p .nil) d cons).2 else (false, (fitsF (l.getD p .nil) (ys.getD p .nil) d cons).2) := by
  have e : (ys.drop p).getD 0 .nil = ys.getD p .nil := by simp
  rw [drop_step h, fitssF, e, List.drop_drop]
theorem fitss_end {l ys : List Tree} {p : Nat} (d : Int) (cons : List Tree) (h : l.length ≤ p) : fitssF (l.drop p) ys d cons = (true, cons) := by
  rw [drop_end h, fitssF]

abbrev ctx (k : Nat) (cons : List Tree) (T : Tree) (d : Int) : List (Nat × AObj) := [(0, .cells [.row 1 k]), (1, .row 25 (.trees cons)), (2, .cells [.ref 0 0]), (3, .cells [.d (.tree T)]), (4, .cells [.d (.int .i64 d)])]

end Ex
end Go.Proofs.YtoajaklekmbcdaaGreat

namespace Go.Proofs.YtoajaklekmbcdaaGreat
namespace Ex
open Go Go.Mq
set_option linter.all false

theorem occ_count {n : Tree} (h : conE n = 0) (k : Nat) : occursR n k = decide (0 < countF k n 0) := by
  rw [occursR_eq, roccursR, decide_eq_true h, decide_eq_true (by omega : (0 : Int) ≤ k)]; simp

end Ex
end Go.Proofs.YtoajaklekmbcdaaGreat

namespace Go.Proofs.YtoajaklekmbcdaaGreat
namespace Ex
open Go Go.Mq
set_option linter.all false

theorem beq_dec (a : Int) : (a == 0) = decide (a = 0) := by by_cases h : a = 0 <;> simp [h]
theorem trees_eq {a b : List Tree} (h : a = b) : (AVal.d (.trees a)) = (AVal.d (.trees b)) := by rw [h]

def instF (p n : Tree) (vars : Int) : List Tree × Int :=
  if formF p = false then ([], 16) else if formF n = false then ([], 16) else if vars < 0 then ([], 2) else if 8192 < vars then ([], 2)
  else if (fitsF p n 0 (List.replicate vars.toNat .nil)).1 = true then ((fitsF p n 0 (List.replicate vars.toNat .nil)).2, 0) else ([], 24)

theorem sizeN_room {T : Tree} (h : sizeN T ≤ 65536) : (0 : Int) + 8192 * sizeN T ≤ 1125899906842624 := by omega

end Ex
end Go.Proofs.YtoajaklekmbcdaaGreat

namespace Go.Proofs.YtoajaklekmbcdaaGreat
namespace Ex
open Go Go.Mq
set_option linter.all false

theorem beq_dec' (a b : Int) : (a == b) = decide (a = b) := by by_cases h : a = b <;> simp [h]
mutual
def narrF : Tree → Tree → Bool
  | .nil, _ => false
  | .node k _ _ _ l, u => (k == u.kind) && (!(k == 162) || (decide (l.length = u.kids.length) && narrsF l u.kids))
def narrsF : List Tree → List Tree → Bool
  | [], _ => true
  | x :: l, ys => narrfF x (ys.getD 0 .nil) && narrsF l (ys.drop 1)
def narrfF : Tree → Tree → Bool
  | .nil, _ => false
  | .node _ _ nm _ l, y => decide (nm = y.name) && narrhF l (y.kids.getD 0 .nil)
def narrhF : List Tree → Tree → Bool
  | [], _ => false
  | x :: _, u => narrF x u
end
theorem narrF_eq {T : Tree} (h : T ≠ .nil) (u : Tree) : narrF T u = ((T.kind == u.kind) && (!(T.kind == 162) || (decide (T.kids.length = u.kids.length) && narrsF T.kids u.kids))) := by
  cases T with
  | nil => exact absurd rfl h
  | node => rw [narrF]; rfl
theorem narrh_eq (l : List Tree) (u : Tree) : narrhF l u = narrF (l.getD 0 .nil) u := by
  cases l with
  | nil => rw [narrhF]; simp [narrF]
  | cons x l => rw [narrhF]; simp
theorem narrfF_eq {x : Tree} (h : x ≠ .nil) (y : Tree) : narrfF x y = (decide (x.name = y.name) && narrF (x.kids.getD 0 .nil) (y.kids.getD 0 .nil)) := by
  cases x with
  | nil => exact absurd rfl h
  | node => rw [narrfF, narrh_eq]; rfl
theorem narrs_step {l ys : List Tree} {p : Nat} (h : p < l.length) : narrsF (l.drop p) (ys.drop p) = (narrfF (l.getD p .nil) (ys.getD p .nil) && narrsF (l.drop (p + 1)) (ys.drop (p + 1))) := by
  have e : (ys.drop p).getD 0 .nil = ys.getD p .nil := by simp
  rw [drop_step h, narrsF, e, List.drop_drop]
theorem narrs_end {l ys : List Tree} {p : Nat} (h : l.length ≤ p) : narrsF (l.drop p) ys = true := by
  rw [drop_end h, narrsF]

structure SigField (x : Tree) : Prop where
  ne : x ≠ .nil
  one : x.kids.length = 1
  sig : isSigF (x.kids.getD 0 .nil) = true
theorem sigField_of {x : Tree} (h : sigFieldF x = true) : SigField x := by
  have hx0 : x ≠ .nil := by intro e; subst e; rw [sigFieldF] at h; cases h
  rw [sigFieldF_eq hx0] at h
  simp only [Bool.and_eq_true, beq_iff_eq] at h
  exact ⟨hx0, by omega, h.2⟩
theorem isSigF_ne {T : Tree} (h : isSigF T = true) : T ≠ .nil := by intro e; subst e; rw [isSigF] at h; cases h
theorem isSig_fields {T : Tree} (h : isSigF T = true) (hk : T.kind = 162) : ∀ x ∈ T.kids, SigField x := by
  rw [isSigF_eq (isSigF_ne h), Bool.and_eq_true, if_neg (by omega), if_pos hk, Bool.and_eq_true] at h
  exact fun x hx => sigField_of (sigFieldsF_mem h.2.1 x hx)
theorem isSig_kind {T : Tree} (h : isSigF T = true) : (T.kind = 160 ∨ T.kind = 161) ∨ T.kind = 162 := by
  rw [isSigF_eq (isSigF_ne h), Bool.and_eq_true] at h
  obtain ⟨_, h⟩ := h
  split at h
  · exact .inl ‹_›
  · split at h
    · exact .inr ‹_›
    · cases h

def slimF (T : Tree) : Bool := decide (semE T = 0) && decide (T.kind ≠ 164) && decide (T.kind ≠ 165)
theorem slim_sig {T : Tree} (h : slimF T = true) : isSigF T = true := by
  unfold slimF at h
  simp only [Bool.and_eq_true, decide_eq_true_eq] at h
  obtain ⟨⟨h1, h2⟩, h3⟩ := h
  obtain ⟨_, h4, _⟩ := semE_full h1
  simp only [Bool.or_eq_true] at h4
  rcases h4 with (h4 | h4) | h4
  · exact h4
  · unfold exF at h4; simp only [Bool.and_eq_true, beq_iff_eq] at h4; exact absurd h4.1.1.1 h2
  · unfold funF at h4; simp only [Bool.and_eq_true, beq_iff_eq] at h4; exact absurd h4.1.1.1.1 h3
theorem semE_ne {T : Tree} (h : semE T = 0) : T ≠ .nil := (semE_full h).1.ne
theorem semE_kind {T : Tree} (h : semE T = 0) : T.kind < 164 ↔ (T.kind ≠ 164 ∧ T.kind ≠ 165) := by
  obtain ⟨_, h4, _⟩ := semE_full h
  simp only [Bool.or_eq_true] at h4
  rcases h4 with (h4 | h4) | h4
  · have := isSig_kind h4; omega
  · unfold exF at h4; simp only [Bool.and_eq_true, beq_iff_eq] at h4; have := h4.1.1.1; omega
  · unfold funF at h4; simp only [Bool.and_eq_true, beq_iff_eq] at h4; have := h4.1.1.1.1; omega
def narrowF (p n : Tree) : Bool := slimF p && slimF n && narrF p n
end Ex
end Go.Proofs.YtoajaklekmbcdaaGreat

namespace Go.Proofs.YtoajaklekmbcdaaGreat
namespace Ex
open Go Go.Mq
set_option linter.all false

/-! The chapter's example -/
def typT (c : Tree) : Tree := .node 161 0 ByteArray.empty ByteArray.empty [c]
theorem w_inst1 : instF (typT (varT 0)) (typT wI) 1 = ([wI], 0) := by kernel_rfl
theorem w_inst2 : instF (typT wI) (typT (varT 0)) 1 = ([], 24) := by kernel_rfl
theorem w_narrow : narrowF (typT (varT 0)) (typT wI) = true := by kernel_rfl
theorem fits_nil (T : Tree) : ∀ (n : Tree) (d : Int), EB T → Full n → 0 ≤ d → d + 8192 * sizeN T ≤ 1125899906842624 → (fitsF T n d []).1 = sameF T n := by
  induction T using Tree.ind' with
  | h0 => intro n d hF; cases hF
  | h1 T hT ih =>
    intro n d hF hn hd0 hd1
    have hsz := sizeN_kids hT
    have heb := hF.ebinds
    have hwe : IntKind.i64.wrap (d + ebindsF T) = d + ebindsF T := wrap64 (by omega) (by omega)
    rw [fitsF_eq hT, if_neg, sameF_eq hT hn.ne]
    · by_cases hs : T.kind ≠ n.kind ∨ T.n ≠ n.n ∨ T.name ≠ n.name ∨ T.mark ≠ n.mark ∨ T.kids.length ≠ n.kids.length
      · rw [if_pos hs]
        have hl : T.kids.length ≠ n.kids.length → samesF T.kids n.kids = false := fun h => by
          cases hq : samesF T.kids n.kids with
          | false => rfl
          | true => exact absurd (samesF_len _ _ hq) h
        rcases hs with h | h | h | h | h
        · simp [h]
        · simp [h]
        · simp [h]
        · simp [h]
        · rw [hl h]; simp
      · rw [if_neg hs]
        have hs1 : T.kind = n.kind ∧ T.n = n.n ∧ T.name = n.name ∧ T.mark = n.mark ∧ T.kids.length = n.kids.length := by
          refine ⟨?_, ?_, ?_, ?_, ?_⟩ <;> (apply Decidable.byContradiction; intro h; exact hs (by simp [h]))
        obtain ⟨s1, s2, s3, s4, s5⟩ := hs1
        rw [decide_eq_true s1, decide_eq_true s2, decide_eq_true s3, decide_eq_true s4]
        simp only [Bool.true_and]
        have kids : ∀ (l ys : List Tree), l.length = ys.length → (∀ x ∈ l, ∀ y ∈ ys, (fitsF x y (IntKind.i64.wrap (d + ebindsF T)) []).1 = sameF x y) → (fitssF l ys (IntKind.i64.wrap (d + ebindsF T)) []).1 = samesF l ys := by
          intro l
          induction l with
          | nil =>
            intro ys h _
            cases ys with
            | nil => rw [fitssF, samesF]
            | cons => simp at h
          | cons x l ih2 =>
            intro ys h hx
            cases ys with
            | nil => simp at h
            | cons y ys =>
              have h1 := hx x (by simp) y (by simp)
              have h2 := fits_len x y (IntKind.i64.wrap (d + ebindsF T)) []
              have h3 : (fitsF x y (IntKind.i64.wrap (d + ebindsF T)) []).2 = [] := List.length_eq_zero_iff.1 h2
              rw [fitssF, samesF, List.getD_cons_zero, List.drop_one, List.tail_cons, ← h1, h3]
              split
              · rename_i hc
                rw [hc, Bool.true_and]
                exact ih2 ys (by simpa using h) fun a ha b hb => hx a (by simp [ha]) b (by simp [hb])
              · rename_i hc
                simp only [Bool.not_eq_true] at hc
                rw [hc]; rfl
        refine kids _ _ s5 fun x hx y hy => ?_
        have hsx := sizesN_mem hx
        exact ih x hx y _ (hF.k x hx) (hn.kids y hy) (by rw [hwe]; omega) (by rw [hwe]; omega)
    · rintro ⟨h1, h2, h3⟩
      have := hF.v h1
      rw [wrap64 (by omega) (by omega)] at h3
      simp at h3
      omega
theorem inst_nil {T U : Tree} (hT : formF T = true) (hU : formF U = true) : instF T U 0 = if sameF T U = true then ([], 0) else ([], 24) := by
  obtain ⟨h1, h2⟩ := form_EB hT
  have h3 := (form_EB hU).1.full
  have e := fits_nil T U 0 h1 h3 (Int.le_refl 0) (sizeN_room h2)
  have e2 : (fitsF T U 0 []).2 = [] := List.length_eq_zero_iff.1 (fits_len T U 0 [])
  unfold instF
  rw [if_neg (by simp [hT]), if_neg (by simp [hU]), if_neg (by omega), if_neg (by omega), show List.replicate (0 : Int).toNat Tree.nil = [] from rfl, e, e2]
theorem con_form {T : Tree} (h : conE T = 0) : formF T = true := by unfold formF; simp [h]
theorem inst_one {T : Tree} (h : conE T = 0) : instF (varT 0) T 1 = ([T], 0) := by
  have hv : formF (varT 0) = true := by kernel_rfl
  have hs : shiftR T (IntKind.i64.wrap (0 - 0)) 0 = (T, 0) := by
    rw [show IntKind.i64.wrap (0 - 0) = 0 from rfl, shiftR_vmap h (Int.le_refl 0), back_zero h]
  have e : fitsF (varT 0) T 0 [.nil] = (true, [T]) := by
    rw [fitsF_eq (by unfold varT; simp), if_pos (by decide)]
    show varF [.nil] (IntKind.i64.wrap (0 - 0)) T 0 = _
    unfold varF
    rw [if_neg (by simp [h]), if_neg (by simp [anyOcc]), hs, if_neg (by simp)]
    have e1 : fillC [.nil] ((IntKind.i64.wrap (0 - 0)).toNat * 1) T = [T] := rfl
    simp only []
    rw [e1]
    have e2 : [T].getD ((IntKind.i64.wrap (0 - 0)).toNat * 1) .nil = T := rfl
    rw [e2, (sameF_iff T T).2 rfl]
  unfold instF
  rw [if_neg (by simp [hv]), if_neg (by simp [con_form h]), if_neg (by omega), if_neg (by omega), show List.replicate (1 : Int).toNat Tree.nil = [.nil] from rfl, e, if_pos rfl]
end Ex
end Go.Proofs.YtoajaklekmbcdaaGreat

namespace Go.Proofs.YtoajaklekmbcdaaGreat
open Go Go.Mq
set_option linter.all false

/-! sem: shift, substitute -/
def sbindsF (T : Tree) : Int := if T.kind = 164 ∨ T.kind = 165 then T.n else 0
section
variable (con : Tree → Int → Tree × Int)
mutual
def swalkF : Tree → Int → Tree × Int
  | .nil, _ => (.nil, 0)
  | .node k n nm mk l, deep => if k < 160 then con (.node k n nm mk l) deep
    else if (swalksF l (IntKind.i64.wrap (deep + sbindsF (.node k n nm mk l)))).2 = 0 then (.node k n nm mk (swalksF l (IntKind.i64.wrap (deep + sbindsF (.node k n nm mk l)))).1, 0)
    else (.nil, (swalksF l (IntKind.i64.wrap (deep + sbindsF (.node k n nm mk l)))).2)
def swalksF : List Tree → Int → List Tree × Int
  | [], _ => ([], 0)
  | x :: l, deep => if (swalkF x deep).2 = 0 then (if (swalksF l deep).2 = 0 then ((swalkF x deep).1 :: (swalksF l deep).1, 0) else ([], (swalksF l deep).2)) else ([], (swalkF x deep).2)
end
theorem swalkF_eq {T : Tree} (h : T ≠ .nil) (deep : Int) : swalkF con T deep = if T.kind < 160 then con T deep
    else if (swalksF con T.kids (IntKind.i64.wrap (deep + sbindsF T))).2 = 0 then (.node T.kind T.n T.name T.mark (swalksF con T.kids (IntKind.i64.wrap (deep + sbindsF T))).1, 0)
    else (.nil, (swalksF con T.kids (IntKind.i64.wrap (deep + sbindsF T))).2) := by
  cases T with
  | nil => exact absurd rfl h
  | node => rw [swalkF]; rfl
theorem swalks_norm : ∀ (l : List Tree) (d : Int), swalksF con l d = if (swalksF con l d).2 = 0 then ([] ++ (swalksF con l d).1, 0) else ([], (swalksF con l d).2)
  | [], d => by rw [swalksF]; simp
  | x :: l, d => by
    rw [swalksF]
    by_cases h : (swalkF con x d).2 = 0
    · rw [if_pos h]
      by_cases h2 : (swalksF con l d).2 = 0
      · rw [if_pos h2]; simp
      · rw [if_neg h2]; simp [h2]
    · rw [if_neg h]; simp [h]
end
/-- At the variable 0; by 1 from 1. -/
def conS (by' : Tree) (T : Tree) (deep : Int) : Tree × Int := if (shiftR by' deep 0).2 ≠ 0 then (.nil, 3) else substR T (IntKind.i64.wrap (0 + deep)) (shiftR by' deep 0).1
def conU (T : Tree) (deep : Int) : Tree × Int := shiftR T 1 (IntKind.i64.wrap (1 + deep))
def sizedF (T : Tree) (e : Int) : Tree × Int := if e ≠ 0 then (.nil, e) else if (wholeF 65536 T).1 ≠ 0 then (.nil, (wholeF 65536 T).1) else (T, 0)
def ssubstR (T b : Tree) : Tree × Int :=
  if semE T ≠ 0 then (.nil, semE T) else if conE b ≠ 0 then (.nil, conE b) else sizedF (swalkF (conS b) T 0).1 (swalkF (conS b) T 0).2
def sshiftR (T : Tree) : Tree × Int := if semE T ≠ 0 then (.nil, semE T) else swalkF conU T 0
def ssameF (a b : Tree) : Bool := decide (semE a = 0) && (decide (semE b = 0) && sameF a b)
end Go.Proofs.YtoajaklekmbcdaaGreat

namespace Go.Proofs.YtoajaklekmbcdaaGreat
namespace Ex
open Go Go.Mq
set_option linter.all false

/-! What is filled in -/
inductive Lo : Tree → Prop
  | node {k n : Int} {nm mk : ByteArray} {l : List Tree} (hk : k < 160) (h : ∀ x ∈ l, Lo x) : Lo (.node k n nm mk l)
theorem Lo.of {T : Tree} (hT : T ≠ .nil) (hk : T.kind < 160) (h : ∀ x ∈ T.kids, Lo x) : Lo T := by
  cases T with
  | nil => exact absurd rfl hT
  | node => exact .node hk h
theorem Lo.k {T : Tree} (h : Lo T) : T.kind < 160 := by cases h; assumption
theorem Lo.kids {T : Tree} (h : Lo T) : ∀ x ∈ T.kids, Lo x := by cases h; assumption
theorem kind_Lo (T : Tree) : isKindF T = true → Lo T := by
  induction T using Tree.ind' with
  | h0 => intro h; rw [isKindF] at h; cases h
  | h1 T hT ih =>
    intro h
    rw [isKindF_eq hT] at h
    split at h
    · rename_i hk
      rw [Bool.and_eq_true] at h
      have hl : T.kids = [] := by have := h.2; rw [beq_iff_eq] at this; exact List.length_eq_zero_iff.1 (by omega)
      exact .of hT (by omega) (fun x hx => by rw [hl] at hx; cases hx)
    · split at h
      · rename_i hk
        simp only [Bool.and_eq_true, beq_iff_eq] at h
        obtain ⟨⟨⟨h1, h2⟩, h3⟩, h4⟩ := h
        refine .of hT (by omega) (fun x hx => ?_)
        rcases mem_two (by omega : T.kids.length = 2) hx with e | e
        · exact ih x hx (by rw [e]; exact h3)
        · exact ih x hx (by rw [e]; exact h4)
      · cases h
theorem field_Lo {kind : Int} {x : Tree} (hk : kind < 160) (h : fieldF kind x = true) (ih : ∀ y ∈ x.kids, isConF y = true → Lo y) : Lo x := by
  have hx : x ≠ .nil := by intro e; subst e; rw [fieldF] at h; cases h
  rw [fieldF_eq hx] at h
  simp only [Bool.and_eq_true, beq_iff_eq] at h
  obtain ⟨⟨⟨⟨h1, h2⟩, h3⟩, h4⟩, h5⟩ := h
  refine .of hx (by omega) (fun y hy => ?_)
  have e := mem_one (by omega : x.kids.length = 1) hy
  exact ih y hy (by rw [e]; exact h5)
theorem con_Lo (T : Tree) : isConF T = true → Lo T := by
  suffices h : (isConF T = true → Lo T) ∧ ∀ x ∈ T.kids, isConF x = true → Lo x from h.1
  induction T using Tree.ind' with
  | h0 => exact ⟨fun h => (by rw [isConF] at h; cases h), fun x hx => (by cases hx)⟩
  | h1 T hT ih =>
    refine ⟨fun h => ?_, fun x hx => (ih x hx).1⟩
    rw [isConF_eq hT, Bool.and_eq_true] at h
    obtain ⟨_, h⟩ := h
    split at h
    · rename_i hk
      simp only [Bool.and_eq_true, beq_iff_eq, decide_eq_true_eq] at h
      have hl : T.kids = [] := List.length_eq_zero_iff.1 (by omega)
      exact .of hT (by omega) (fun x hx => by rw [hl] at hx; cases hx)
    rename_i hv
    split at h
    · rw [beq_iff_eq] at h
      have hl : T.kids = [] := List.length_eq_zero_iff.1 (by omega)
      exact .of hT (by omega) (fun x hx => by rw [hl] at hx; cases hx)
    split at h
    · simp only [Bool.and_eq_true, beq_iff_eq] at h
      refine .of hT (by omega) (fun x hx => ?_)
      rcases mem_two (by omega : T.kids.length = 2) hx with e | e
      · exact (ih x hx).1 (by rw [e]; exact h.1.2)
      · exact (ih x hx).1 (by rw [e]; exact h.2)
    split at h
    · simp only [Bool.and_eq_true] at h
      exact .of hT (by omega) (fun x hx => field_Lo (by decide) (fieldsF_mem h.1 x hx) (ih x hx).2)
    split at h
    · simp only [Bool.and_eq_true, beq_iff_eq] at h
      refine .of hT (by omega) (fun x hx => ?_)
      rcases mem_two (by omega : T.kids.length = 2) hx with e | e
      · exact kind_Lo x (by rw [e]; exact h.1.2)
      · exact (ih x hx).1 (by rw [e]; exact h.2)
    split at h
    · simp only [Bool.and_eq_true] at h
      exact .of hT (by omega) (fun x hx => field_Lo (by decide) (fieldsF_mem h.1.2 x hx) (ih x hx).2)
    · cases h

theorem puts_get {D : Int} {s : Tree} : ∀ {l ys : List Tree} {d : Int}, rputsF D s l d = some ys → ys.length = l.length ∧ ∀ i, i < l.length → rputF D s (l.getD i .nil) d = some (ys.getD i .nil)
  | [], ys, d, h => by rw [rputsF] at h; cases h; exact ⟨rfl, fun i hi => by simp at hi⟩
  | x :: l, ys, d, h => by
    rw [rputsF] at h
    split at h
    · cases h
    · rename_i x' hq
      cases hr : rputsF D s l d with
      | none => rw [hr] at h; cases h
      | some l' =>
        rw [hr] at h
        cases h
        obtain ⟨h1, h2⟩ := puts_get hr
        refine ⟨by simp [h1], fun i hi => ?_⟩
        cases i with
        | zero => exact hq
        | succ i => exact h2 i (by simpa using hi)
theorem put_inv {D : Int} {s T y : Tree} {d : Int} (hp : Plain T) (hk : T.kind ≠ 110) (h : rputF D s T d = some y) :
    y ≠ .nil ∧ y.kind = T.kind ∧ y.n = T.n ∧ y.name = T.name ∧ y.mark = T.mark ∧ rputsF D s T.kids (IntKind.i64.wrap (d + bindsF T)) = some y.kids := by
  cases T with
  | nil => cases hp
  | node k n nm mk l =>
    have hk : k ≠ 110 := hk
    obtain ⟨hm, _, _⟩ := hp.inv
    rw [rputF, if_neg (fun q => hk (pHit_node.1 q).1), if_neg (fun q => hk (pAbove_node.1 q).1)] at h
    cases hr : rputsF D s l (IntKind.i64.wrap (d + bindsF (.node k n nm mk l))) with
    | none => rw [hr] at h; cases h
    | some l' =>
      rw [hr] at h
      cases h
      exact ⟨by simp, rfl, rfl, rfl, hm.symm, hr⟩
theorem put_var {D : Int} {s T y : Tree} {d : Int} (hp : Plain T) (hk : T.kind = 110) (hd : 0 ≤ d ∧ d ≤ lim) (hn : ¬ (d ≤ T.n ∧ D + 1 ≤ T.n - d)) (h : rputF D s T d = some y) :
    (d ≤ T.n ∧ T.n - d = D ∧ rmovedF d 0 s 0 = some y) ∨ (¬ (d ≤ T.n ∧ T.n - d = D) ∧ y = T) := by
  cases T with
  | nil => cases hp
  | node k n nm mk l =>
    have hk : k = 110 := hk
    subst hk
    obtain ⟨rfl, hv, _⟩ := hp.inv
    obtain ⟨rfl, rfl, h0, h1⟩ := hv rfl
    have hn : ¬ (d ≤ n ∧ D + 1 ≤ n - d) := hn
    have hlim : lim = 1099511627776 := rfl
    have w : IntKind.i64.wrap (n - d) = n - d := wrap64 (by omega) (by omega)
    by_cases q : d ≤ n ∧ n - d = D
    · rw [rputF, if_pos (pHit_node.2 ⟨rfl, q.1, by rw [w]; exact q.2⟩)] at h
      exact .inl ⟨q.1, q.2, h⟩
    · rw [rputF, if_neg (fun z => q ⟨(pHit_node.1 z).2.1, by have := (pHit_node.1 z).2.2; rw [w] at this; exact this⟩), if_neg (fun z => hn (by have := (pAbove_node.1 z).2; rw [w] at this; omega)), rputsF] at h
      cases h
      exact .inr ⟨q, rfl⟩
/-- None above. -/
theorem na_var {D n d m : Int} (h : fM 1 (1 + D) n d = some m) (hm : m = n) : ¬ (d ≤ n ∧ D + 1 ≤ n - d) := by
  rintro ⟨h1, h2⟩
  unfold fM at h
  rw [if_pos (by omega)] at h
  split at h
  · cases h
  · cases h; omega
theorem anyOcc_none {y : Tree} : ∀ (m k : Nat), (∀ j : Nat, k ≤ j → j < k + m → occursR y j = false) → anyOcc y m k = false
  | 0, k, h => rfl
  | m + 1, k, h => by
    rw [anyOcc, h k (by omega) (by omega), anyOcc_none m (k + 1) (fun j h1 h2 => h j (by omega) (by omega))]; rfl
theorem hit_var {b y : Tree} {e : Int} (hb : conE b = 0) (he0 : 0 ≤ e) (he1 : e ≤ 549755813888) (hy : vmap (fM e 0) b 0 = some y) {c : Tree} (hc : c = .nil ∨ c = b) : varF [c] (IntKind.i64.wrap 0) y e = (true, [b]) := by
  have hcy := vmap_conE (fM_VB e 0) hb hy
  have hsb := conE_size hb
  have hlim : lim = 1099511627776 := rfl
  have hocc : anyOcc y e.toNat 0 = false := by
    refine anyOcc_none _ _ fun j _ hj => ?_
    have hz : hitsN (j : Int) y 0 = 0 := by
      refine hits_vmap (fun n d n' h0 h1 h2 h3 hf => ?_) b 0 y (conE_plain hb) (by omega) (by omega) hy
      rintro ⟨q1, q2⟩
      unfold fM at hf
      split at hf
      · split at hf
        · cases hf
        · cases hf
          rw [wrap64 (by omega) (by omega)] at q2
          omega
      · cases hf
        omega
    have hsy := conE_size hcy
    rw [occursR_eq, roccursR, countF_hits _ _ _ (by omega), hz]; simp
  have hsh : shiftR y (IntKind.i64.wrap (0 - e)) 0 = (b, 0) := by
    have w : IntKind.i64.wrap (0 - e) = -e := by rw [wrap64 (by omega) (by omega)]; omega
    rw [w, shiftR_vmap hcy (Int.le_refl 0), back_id hb he0 hy]
  have hbn : b ≠ .nil := (conE_full hb).1.ne
  unfold varF
  rw [if_neg (by simp [hcy]), if_neg (by simp [hocc]), hsh, if_neg (by simp)]
  have e1 : fillC [c] ((IntKind.i64.wrap 0).toNat * 1) b = [b] := by
    have : ((IntKind.i64.wrap 0).toNat * 1) = 0 := rfl
    rw [this]
    rcases hc with rfl | rfl
    · rfl
    · unfold fillC
      cases c with
      | nil => rfl
      | node => rfl
  simp only []
  rw [e1]
  have e2 : [b].getD ((IntKind.i64.wrap 0).toNat * 1) .nil = b := rfl
  rw [e2, (sameF_iff b b).2 rfl]
theorem fitss_one {b : Tree} : ∀ (l ys : List Tree) (e : Int) (c : Tree), ys.length = l.length → (c = .nil ∨ c = b) →
    (∀ i, i < l.length → ∀ c, (c = .nil ∨ c = b) → ∃ c', fitsF (l.getD i .nil) (ys.getD i .nil) e [c] = (true, [c']) ∧ (c' = .nil ∨ c' = b)) → ∃ c', fitssF l ys e [c] = (true, [c']) ∧ (c' = .nil ∨ c' = b)
  | [], ys, e, c, _, hc, _ => ⟨c, by rw [fitssF], hc⟩
  | x :: l, ys, e, c, hl, hc, h => by
    obtain ⟨c1, h1, h2⟩ := h 0 (by simp) c hc
    obtain ⟨c2, h3, h4⟩ := fitss_one l (ys.drop 1) e c1 (by rw [List.length_drop]; simp at hl; omega) h2 fun i hi c hc => by
      have := h (i + 1) (by simpa using hi) c hc
      rwa [List.getD_cons_succ, show ys.getD (i + 1) .nil = (ys.drop 1).getD i .nil by simp [List.getD_eq_getElem?_getD, Nat.add_comm]] at this
    rw [List.getD_cons_zero] at h1
    refine ⟨c2, ?_, h4⟩
    rw [fitssF, h1, if_pos rfl]
    exact h3
def LeafP (b s : Tree) (D : Int) (T : Tree) : Prop := ∀ (d : Int) (y c : Tree), Plain T → Lo T → 0 ≤ d → D + d + sizeN T ≤ 549755813888 → vmap (fM 1 (1 + D)) T d = some T → rputF D s T d = some y → (c = .nil ∨ c = b) → ∃ c', fitsF T y (D + d) [c] = (true, [c']) ∧ (c' = .nil ∨ c' = b)
theorem fits_leaf {b s : Tree} {D : Int} (hb : conE b = 0) (hD : 0 ≤ D) (hs : vmap (fM D 0) b 0 = some s) (T : Tree) : LeafP b s D T := by
  induction T using Tree.ind' with
  | h0 => intro d y c hp; cases hp
  | h1 T hT ih =>
    intro d y c hp hlo hd hz hna hput hc
    have hlim : lim = 1099511627776 := rfl
    have hsz := sizeN_kids hT
    have hbd := bindsF_b T
    obtain ⟨b0, b1, b2, b3, b4, b5⟩ := vmap_inv hna
    rw [fitsF_eq hT]
    by_cases hk : T.kind = 110
    · obtain ⟨q1, q2⟩ := b5 hk
      have hn := na_var q1 rfl
      have hv : 0 ≤ T.n ∧ T.n ≤ 65536 ∧ T.kids = [] := by
        cases T with
        | nil => cases hp
        | node k n nm mk l => have := hp.inv.2.1 hk; exact ⟨this.2.2.1, this.2.2.2, this.2.1⟩
      have w : IntKind.i64.wrap (T.n - (D + d)) = T.n - (D + d) := wrap64 (by omega) (by omega)
      rcases put_var hp hk ⟨hd, by omega⟩ hn hput with ⟨r1, r2, r3⟩ | ⟨r1, rfl⟩
      · have hsb := conE_size hb
        have hcs := vmap_conE (fM_VB D 0) hb hs
        have hss := conE_size hcs
        rw [rmoved_vmap d 0 s 0 (conE_plain hcs) (by omega) (by omega), back_both hb hD hd hs] at r3
        have e0 : T.n - (D + d) = 0 := by omega
        rw [w, e0, if_pos ⟨hk, by omega, by simp⟩]
        have := hit_var hb (show 0 ≤ D + d by omega) (by omega) r3 hc
        exact ⟨b, this, .inr rfl⟩
      · rw [w, if_neg (fun q => r1 (by simp at q; omega)), if_neg (by simp), hv.2.2, fitssF]
        exact ⟨c, rfl, hc⟩
    · obtain ⟨q1, q2⟩ := b4 hk
      obtain ⟨g1, g2⟩ := vmaps_get q2
      obtain ⟨p0, p1, p2, p3, p4, p5⟩ := put_inv hp hk hput
      obtain ⟨u1, u2⟩ := puts_get p5
      have w : IntKind.i64.wrap (d + bindsF T) = d + bindsF T := wrap64 (by omega) (by omega)
      have eb : ebindsF T = bindsF T := by unfold ebindsF; rw [if_neg (by have := hlo.k; omega)]
      have w2 : IntKind.i64.wrap (D + d + ebindsF T) = D + (d + bindsF T) := by rw [eb, wrap64 (by omega) (by omega)]; omega
      rw [if_neg (fun q => hk q.1), if_neg (by rw [p1, p2, p3, p4, u1]; simp), w2]
      rw [w] at u2
      have hpk : ∀ x ∈ T.kids, Plain x := by
        cases T with
        | nil => cases hp
        | node k n nm mk l => exact hp.inv.2.2
      refine fitss_one _ _ _ _ u1 hc fun i hi c hc => ?_
      have hmx := getD_mem hi
      have s1 := sizesN_mem hmx
      exact ih _ hmx (d + bindsF T) _ c (hpk _ hmx) (hlo.kids _ hmx) (by omega) (by omega) (g2 i hi) (u2 i hi) hc
end Ex
end Go.Proofs.YtoajaklekmbcdaaGreat

namespace Go.Proofs.YtoajaklekmbcdaaGreat
namespace Ex
open Go Go.Mq
set_option linter.all false

/-! What comes of a put is a constructor. -/
theorem na_kids {D d : Int} {T : Tree} (h : vmap (fM 1 (1 + D)) T d = some T) (hk : T.kind ≠ 110) : ∀ i, i < T.kids.length → vmap (fM 1 (1 + D)) (T.kids.getD i .nil) (d + bindsF T) = some (T.kids.getD i .nil) := by
  obtain ⟨b0, b1, b2, b3, b4, b5⟩ := vmap_inv h
  obtain ⟨q1, q2⟩ := b4 hk
  exact (vmaps_get q2).2
theorem put_kids {D d : Int} {s T y : Tree} (hp : Plain T) (hk : T.kind ≠ 110) (hd : 0 ≤ d ∧ d ≤ lim) (h : rputF D s T d = some y) : y.kids.length = T.kids.length ∧ ∀ i, i < T.kids.length → rputF D s (T.kids.getD i .nil) (d + bindsF T) = some (y.kids.getD i .nil) := by
  obtain ⟨p0, p1, p2, p3, p4, p5⟩ := put_inv hp hk h
  have hlim : lim = 1099511627776 := rfl
  have hbd := bindsF_b T
  rw [wrap64 (by omega) (by omega)] at p5
  exact puts_get p5
theorem plain_kids {T : Tree} (hp : Plain T) : ∀ x ∈ T.kids, Plain x := by
  cases T with
  | nil => cases hp
  | node k n nm mk l => exact hp.inv.2.2
theorem bare_put {D d : Int} {s T y : Tree} {a : Bool} (hp : Plain T) (hk : T.kind ≠ 110) (h : rputF D s T d = some y) : bareF y a false = bareF T a false := by
  obtain ⟨p0, p1, p2, p3, p4, p5⟩ := put_inv hp hk h
  exact bareF_same p4 p3 (.inr p2)
def KindP (D : Int) (s T : Tree) : Prop := isKindF T = true → ∀ (d : Int) y, Plain T → 0 ≤ d → d + sizeN T ≤ 549755813888 → rputF D s T d = some y → isKindF y = true
theorem kind_put {D : Int} {s : Tree} (T : Tree) : KindP D s T := by
  induction T using Tree.ind' with
  | h0 => intro h; rw [isKindF] at h; cases h
  | h1 T hT ih =>
    intro h d y hp h0 h1 hy
    have hlim : lim = 1099511627776 := rfl
    have hsz := sizeN_kids hT
    have hk : T.kind ≠ 110 := by
      intro e; rw [isKindF_eq hT, if_neg (by omega), if_neg (by omega)] at h; cases h
    obtain ⟨p0, p1, p2, p3, p4, p5⟩ := put_inv hp hk hy
    obtain ⟨u1, u2⟩ := put_kids hp hk ⟨h0, by omega⟩ hy
    have hb := bare_put (a := false) hp hk hy
    have hbd := bindsF_b T
    rw [isKindF_eq hT] at h
    rw [isKindF_eq p0, p1, hb, u1]
    by_cases k1 : T.kind = 100
    · rw [if_pos k1] at h ⊢; exact h
    rw [if_neg k1] at h ⊢
    by_cases k2 : T.kind = 101
    · rw [if_pos k2] at h ⊢
      simp only [Bool.and_eq_true, beq_iff_eq] at h ⊢
      obtain ⟨⟨⟨h1, h2⟩, h3⟩, h4⟩ := h
      have m0 := getD_mem (l := T.kids) (i := 0) (by omega)
      have m1 := getD_mem (l := T.kids) (i := 1) (by omega)
      have z0 := sizesN_mem m0
      have z1 := sizesN_mem m1
      exact ⟨⟨⟨h1, h2⟩, ih _ m0 h3 _ _ (plain_kids hp _ m0) (by omega) (by omega) (u2 0 (by omega))⟩, ih _ m1 h4 _ _ (plain_kids hp _ m1) (by omega) (by omega) (u2 1 (by omega))⟩
    · rw [if_neg k2] at h; cases h
def ConPut (D : Int) (s T : Tree) : Prop := isConF T = true → ∀ (d : Int) y, Plain T → 0 ≤ d → d + sizeN T ≤ 549755813888 → vmap (fM 1 (1 + D)) T d = some T → rputF D s T d = some y → isConF y = true
theorem fields_put {D : Int} {s : Tree} {kind : Int} (hk : kind ≠ 110) (hkb : kind ≠ 117 ∧ kind ≠ 118 ∧ kind ≠ 119 ∧ kind ≠ 121) : ∀ {l l' : List Tree} {d : Int}, fieldsF kind l = true → (∀ x ∈ l, ∀ y ∈ x.kids, ConPut D s y) → (∀ x ∈ l, Plain x) → 0 ≤ d → d + sizesN l ≤ 549755813888 →
    (∀ i, i < l.length → vmap (fM 1 (1 + D)) (l.getD i .nil) d = some (l.getD i .nil)) → rputsF D s l d = some l' → fieldsF kind l' = true ∧ l'.map Tree.name = l.map Tree.name
  | [], l', d, _, _, _, _, _, _, h => by rw [rputsF] at h; cases h; exact ⟨rfl, rfl⟩
  | x :: l, l', d, hf, ih, hpl, h0, h1, hna, h => by
    have hlim : lim = 1099511627776 := rfl
    rw [rputsF] at h
    rw [fieldsF, Bool.and_eq_true] at hf
    rw [sizesN] at h1
    push_cast at h1
    split at h
    · cases h
    · rename_i x' hq
      cases hr : rputsF D s l d with
      | none => rw [hr] at h; cases h
      | some l'' =>
        rw [hr] at h
        cases h
        obtain ⟨a1, a2⟩ := fields_put hk hkb hf.2 (fun y hy => ih y (by simp [hy])) (fun y hy => hpl y (by simp [hy])) h0 (by omega) (fun i hi => by have := hna (i + 1) (by simpa using hi); simpa only [List.getD_cons_succ] using this) hr
        have hx : x ≠ .nil := by intro e; subst e; have := hf.1; rw [fieldF] at this; cases this
        have hfx := hf.1
        rw [fieldF_eq hx] at hfx
        simp only [Bool.and_eq_true, beq_iff_eq] at hfx
        obtain ⟨⟨⟨⟨c1, c2⟩, c3⟩, c4⟩, c5⟩ := hfx
        have hk' : x.kind ≠ 110 := by rw [c1]; exact hk
        have hpx := hpl x (by simp)
        have hnx : vmap (fM 1 (1 + D)) x d = some x := hna 0 (by simp)
        obtain ⟨p0, p1, p2, p3, p4, p5⟩ := put_inv hpx hk' hq
        obtain ⟨u1, u2⟩ := put_kids hpx hk' ⟨h0, by omega⟩ hq
        have hx1 : x.kids.length = 1 := by omega
        have hsz := sizeN_kids hx
        rw [sizesN_one1 hx1] at hsz
        have m0 := getD_mem (l := x.kids) (i := 0) (by omega)
        have hbz : bindsF x = 0 := by unfold bindsF; rw [c1, if_neg hkb.1, if_neg hkb.2.1, if_neg hkb.2.2.1, if_neg hkb.2.2.2]
        have hcon := ih x (by simp) (x.kids.getD 0 .nil) m0 c5 (d + bindsF x) _ (plain_kids hpx _ m0) (by omega) (by omega) (na_kids hnx hk' 0 (by omega)) (u2 0 (by omega))
        refine ⟨?_, by simp [a2, p3]⟩
        rw [fieldsF, a1, Bool.and_true, fieldF_eq p0, bare_put hpx hk' hq, p1, p3, c1, c2, c3, hcon]
        simp [u1, hx1]
theorem con_put {D : Int} {s : Tree} (hD : 0 ≤ D) (hs : ∀ (d : Int) y, 0 ≤ d → d ≤ 549755813888 → rmovedF d 0 s 0 = some y → isConF y = true) (T : Tree) : ConPut D s T := by
  suffices h : ConPut D s T ∧ ∀ x ∈ T.kids, ConPut D s x from h.1
  induction T using Tree.ind' with
  | h0 => exact ⟨fun h => (by rw [isConF] at h; cases h), fun x hx => (by cases hx)⟩
  | h1 T hT ih =>
    refine ⟨fun h d m hp h0 h1 hna hm => ?_, fun x hx => (ih x hx).1⟩
    have hlim : lim = 1099511627776 := rfl
    have hsz := sizeN_kids hT
    have hbd := bindsF_b T
    have two : T.kids.length = 2 → sizesN T.kids = sizeN (T.kids.getD 0 .nil) + sizeN (T.kids.getD 1 .nil) := by
      intro h
      match T.kids, h with
      | [a, b], _ => simp [sizesN]
    by_cases hk0 : T.kind = 110
    · obtain ⟨b0, b1, b2, b3, b4, b5⟩ := vmap_inv hna
      rcases put_var hp hk0 ⟨h0, by omega⟩ (na_var (b5 hk0).1 rfl) hm with ⟨_, _, r3⟩ | ⟨_, rfl⟩
      · exact hs d m h0 (by omega) r3
      · exact h
    · obtain ⟨p0, p1, p2, p3, p4, p5⟩ := put_inv hp hk0 hm
      obtain ⟨u1, u2⟩ := put_kids hp hk0 ⟨h0, by omega⟩ hm
      have hnk := na_kids hna hk0
      have hpk := plain_kids hp
      rw [wrap64 (by omega) (by omega)] at p5
      rw [isConF_eq hT, Bool.and_eq_true] at h
      obtain ⟨hb, h⟩ := h
      have e110 : (T.kind == 110) = false := by simpa using hk0
      rw [e110] at hb
      rw [isConF_eq p0, p1, e110, bare_put hp hk0 hm, hb, Bool.true_and]
      rw [if_neg hk0] at h ⊢
      by_cases hk1 : T.kind = 111 ∨ T.kind = 112 ∨ T.kind = 113
      · rw [if_pos hk1] at h ⊢; rw [u1]; exact h
      rw [if_neg hk1] at h ⊢
      by_cases hk2 : T.kind = 114 ∨ T.kind = 120
      · rw [if_pos hk2] at h ⊢
        simp only [Bool.and_eq_true, beq_iff_eq] at h ⊢
        have h2 := two (by omega)
        have m0 := getD_mem (l := T.kids) (i := 0) (by omega)
        have m1 := getD_mem (l := T.kids) (i := 1) (by omega)
        exact ⟨⟨by rw [u1]; exact h.1.1, (ih _ m0).1 h.1.2 _ _ (hpk _ m0) (by omega) (by omega) (hnk 0 (by omega)) (u2 0 (by omega))⟩, (ih _ m1).1 h.2 _ _ (hpk _ m1) (by omega) (by omega) (hnk 1 (by omega)) (u2 1 (by omega))⟩
      rw [if_neg hk2] at h ⊢
      by_cases hk3 : T.kind = 115
      · rw [if_pos hk3] at h ⊢
        rw [Bool.and_eq_true] at h ⊢
        obtain ⟨f1, f2⟩ := fields_put (by decide) (by decide) h.1 (fun x hx => (ih x hx).2) hpk (by omega) (by omega) hnk p5
        exact ⟨f1, by rw [risingF_names f2]; exact h.2⟩
      rw [if_neg hk3] at h ⊢
      by_cases hk4 : T.kind = 117 ∨ T.kind = 118 ∨ T.kind = 119
      · rw [if_pos hk4] at h ⊢
        simp only [Bool.and_eq_true, beq_iff_eq] at h ⊢
        have h2 := two (by omega)
        have m0 := getD_mem (l := T.kids) (i := 0) (by omega)
        have m1 := getD_mem (l := T.kids) (i := 1) (by omega)
        exact ⟨⟨by rw [u1]; exact h.1.1, kind_put _ h.1.2 _ _ (hpk _ m0) (by omega) (by omega) (u2 0 (by omega))⟩, (ih _ m1).1 h.2 _ _ (hpk _ m1) (by omega) (by omega) (hnk 1 (by omega)) (u2 1 (by omega))⟩
      rw [if_neg hk4] at h ⊢
      by_cases hk5 : T.kind = 121
      · rw [if_pos hk5] at h ⊢
        simp only [Bool.and_eq_true, decide_eq_true_eq] at h ⊢
        obtain ⟨f1, f2⟩ := fields_put (by decide) (by decide) h.1.2 (fun x hx => (ih x hx).2) hpk (by omega) (by omega) hnk p5
        exact ⟨⟨by rw [u1]; exact h.1.1, f1⟩, by rw [unlikeF_names _ f2]; exact h.2⟩
      · rw [if_neg hk5] at h; cases h
end Ex
end Go.Proofs.YtoajaklekmbcdaaGreat

namespace Go.Proofs.YtoajaklekmbcdaaGreat
namespace Ex
open Go Go.Mq
set_option linter.all false

theorem swalks_get {con : Tree → Int → Tree × Int} : ∀ {l ls : List Tree} {d : Int}, swalksF con l d = (ls, 0) → ls.length = l.length ∧ ∀ i, i < l.length → swalkF con (l.getD i .nil) d = (ls.getD i .nil, 0)
  | [], ls, d, h => by rw [swalksF] at h; cases h; exact ⟨rfl, fun i hi => by simp at hi⟩
  | x :: l, ls, d, h => by
    rw [swalksF] at h
    by_cases h1 : (swalkF con x d).2 = 0
    · rw [if_pos h1] at h
      by_cases h2 : (swalksF con l d).2 = 0
      · rw [if_pos h2] at h
        obtain ⟨rfl, _⟩ := Prod.mk.inj h
        obtain ⟨g1, g2⟩ := swalks_get (con := con) (l := l) (d := d) (ls := (swalksF con l d).1) (Prod.ext rfl h2)
        refine ⟨by simp [g1], fun i hi => ?_⟩
        cases i with
        | zero => exact Prod.ext rfl h1
        | succ i => exact g2 i (by simpa using hi)
      · rw [if_neg h2] at h
        exact absurd (Prod.mk.inj h).2 h2
    · rw [if_neg h1] at h
      exact absurd (Prod.mk.inj h).2 h1
theorem swalk_inv {con : Tree → Int → Tree × Int} {T m : Tree} {d : Int} (hT : T ≠ .nil) (hk : ¬ T.kind < 160) (h : swalkF con T d = (m, 0)) :
    m ≠ .nil ∧ m.kind = T.kind ∧ m.n = T.n ∧ m.name = T.name ∧ m.mark = T.mark ∧ swalksF con T.kids (IntKind.i64.wrap (d + sbindsF T)) = (m.kids, 0) := by
  rw [swalkF_eq con hT, if_neg hk] at h
  by_cases h2 : (swalksF con T.kids (IntKind.i64.wrap (d + sbindsF T))).2 = 0
  · rw [if_pos h2] at h
    obtain ⟨rfl, _⟩ := Prod.mk.inj h
    exact ⟨by simp, rfl, rfl, rfl, rfl, Prod.ext rfl h2⟩
  · rw [if_neg h2] at h
    exact absurd (Prod.mk.inj h).2 h2
theorem leaf_parts {b T m : Tree} {D : Int} (hb : conE b = 0) (hD : 0 ≤ D) (hD1 : D ≤ 274877906944) (h1 : conS b T D = (m, 0)) (h2 : conU T D = (T, 0)) :
    conE T = 0 ∧ ∃ s, vmap (fM D 0) b 0 = some s ∧ conE s = 0 ∧ rputF D s T 0 = some m ∧ vmap (fM 1 (1 + D)) T 0 = some T := by
  have hlim : lim = 1099511627776 := rfl
  have w1 : IntKind.i64.wrap (1 + D) = 1 + D := wrap64 (by omega) (by omega)
  have w0 : IntKind.i64.wrap (0 + D) = D := by rw [wrap64 (by omega) (by omega)]; omega
  have hT : conE T = 0 := by
    apply Decidable.byContradiction
    intro hn
    unfold conU shiftR at h2
    rw [if_neg hn] at h2
    exact hn (Prod.mk.inj h2).2
  refine ⟨hT, ?_⟩
  have hna : vmap (fM 1 (1 + D)) T 0 = some T := by
    unfold conU at h2
    rw [w1, shiftR_vmap hT (by omega)] at h2
    cases hv : vmap (fM 1 (1 + D)) T 0 with
    | none => rw [hv] at h2; exact absurd (Prod.mk.inj h2).2 (by decide)
    | some q => rw [hv] at h2; rw [(Prod.mk.inj h2).1]
  unfold conS at h1
  by_cases he : (shiftR b D 0).2 ≠ 0
  · rw [if_pos he] at h1; exact absurd (Prod.mk.inj h1).2 (by decide)
  · rw [if_neg he, w0] at h1
    have hs := shiftR_vmap hb (Int.le_refl 0) D
    cases hv : vmap (fM D 0) b 0 with
    | none => rw [hv] at hs; rw [hs] at he; exact absurd (by decide) he
    | some s =>
      rw [hv] at hs
      simp only [] at hs
      rw [hs] at h1
      have hcs := vmap_conE (fM_VB D 0) hb hv
      refine ⟨s, rfl, hcs, ?_, hna⟩
      rw [substR_eq, rsubstR, if_pos hT, if_pos hcs, if_neg (by omega)] at h1
      split at h1
      · exact absurd (Prod.mk.inj h1).2 (by decide)
      · split at h1
        · rename_i hq
          obtain ⟨q, hq'⟩ := Option.isSome_iff_exists.1 hq
          rw [hq'] at h1 ⊢
          rw [← (Prod.mk.inj h1).1]; rfl
        · exact absurd (Prod.mk.inj h1).2 (by decide)
theorem leaf_con {b T m : Tree} {D : Int} (hb : conE b = 0) (hD : 0 ≤ D) (hD1 : D ≤ 274877906944) (h1 : conS b T D = (m, 0)) (h2 : conU T D = (T, 0)) (hz : sizeN m ≤ 65536) : conE m = 0 := by
  have hlim : lim = 1099511627776 := rfl
  obtain ⟨hT, s, hs, hcs, hput, hna⟩ := leaf_parts hb hD hD1 h1 h2
  have hss := conE_size hcs
  have hst := conE_size hT
  have hc := con_put (D := D) (s := s) hD (fun d y h0 h1 hy => by
    rw [rmoved_vmap d 0 s 0 (conE_plain hcs) (by omega) (by omega)] at hy
    exact (conE_full (vmap_conE (fM_VB d 0) hcs hy)).2) T (conE_full hT).2 0 m (conE_plain hT) (by omega) (by omega) hna hput
  exact conE_of hc hz
theorem con_kind {T : Tree} (h : conE T = 0) : T.kind < 160 := (con_Lo T (conE_full h).2).k
def SigP (b T : Tree) : Prop := ∀ (D : Int) (m c : Tree), EB T → 0 ≤ D → D + 8192 * sizeN T ≤ 274877906944 → swalkF (conS b) T D = (m, 0) → swalkF conU T D = (T, 0) → (c = .nil ∨ c = b) → ∃ c', fitsF T m D [c] = (true, [c']) ∧ (c' = .nil ∨ c' = b)
theorem fits_sig {b : Tree} (hb : conE b = 0) (T : Tree) : SigP b T := by
  induction T using Tree.ind' with
  | h0 => intro D m c h; exact absurd rfl h.full.ne
  | h1 T hT ih =>
    intro D m c hE hD hz h1 h2 hc
    have hsz := sizeN_kids hT
    by_cases hk : T.kind < 160
    · rw [swalkF_eq _ hT, if_pos hk] at h1 h2
      obtain ⟨hcT, s, hs, hcs, hput, hna⟩ := leaf_parts hb hD (by omega) h1 h2
      have := fits_leaf hb hD hs T 0 m c (conE_plain hcT) (con_Lo T (conE_full hcT).2) (by omega) (by omega) hna hput hc
      rwa [Int.add_zero] at this
    · obtain ⟨a0, a1, a2, a3, a4, a5⟩ := swalk_inv hT hk h1
      obtain ⟨_, _, _, _, _, b5⟩ := swalk_inv hT hk h2
      have hb1 := hE.ebinds
      have es : sbindsF T = ebindsF T := by
        unfold sbindsF ebindsF
        split
        · rfl
        · unfold bindsF
          rw [if_neg (by omega), if_neg (by omega), if_neg (by omega), if_neg (by omega)]
      have w : IntKind.i64.wrap (D + ebindsF T) = D + ebindsF T := wrap64 (by omega) (by omega)
      rw [es, w] at a5 b5
      obtain ⟨u1, u2⟩ := swalks_get a5
      obtain ⟨_, v2⟩ := swalks_get b5
      rw [fitsF_eq hT, if_neg (fun q => by omega), if_neg (by rw [a1, a2, a3, a4, u1]; simp), w]
      refine fitss_one _ _ _ _ u1 hc fun i hi c hc => ?_
      have hmx := getD_mem hi
      have s1 := sizesN_mem hmx
      exact ih _ hmx _ _ c (hE.k _ hmx) (by omega) (by omega) (u2 i hi) (v2 i hi) hc
theorem bare_same {x T : Tree} {a : Bool} (h1 : x.mark = T.mark) (h2 : x.name = T.name) (h3 : x.n = T.n) : bareF x a false = bareF T a false := bareF_same h1 h2 (.inr h3)
def SigM (b T : Tree) : Prop := isSigF T = true → ∀ (D : Int) (m : Tree), 0 ≤ D → D ≤ 274877906944 → sizeN m ≤ 65536 → swalkF (conS b) T D = (m, 0) → swalkF conU T D = (T, 0) → isSigF m = true
theorem sfields_map {b : Tree} : ∀ {l ls : List Tree} {D : Int}, sigFieldsF l = true → (∀ x ∈ l, ∀ y ∈ x.kids, SigM b y) → 0 ≤ D → D ≤ 274877906944 → sizesN ls ≤ 65536 → ls.length = l.length →
    (∀ i, i < l.length → swalkF (conS b) (l.getD i .nil) D = (ls.getD i .nil, 0)) → (∀ i, i < l.length → swalkF conU (l.getD i .nil) D = (l.getD i .nil, 0)) → sigFieldsF ls = true ∧ ls.map Tree.name = l.map Tree.name
  | [], [], D, _, _, _, _, _, _, _, _ => ⟨rfl, rfl⟩
  | [], _ :: _, D, _, _, _, _, _, hl, _, _ => by simp at hl
  | _ :: _, [], D, _, _, _, _, _, hl, _, _ => by simp at hl
  | x :: l, y :: ls, D, hf, ih, h0, h1, hz, hl, hs, hu => by
    rw [sigFieldsF, Bool.and_eq_true] at hf
    rw [sizesN] at hz
    obtain ⟨a1, a2⟩ := sfields_map (l := l) (ls := ls) hf.2 (fun x hx => ih x (by simp [hx])) h0 h1 (by omega) (by simpa using hl) (fun i hi => by have := hs (i + 1) (by simpa using hi); simpa only [List.getD_cons_succ] using this) (fun i hi => by have := hu (i + 1) (by simpa using hi); simpa only [List.getD_cons_succ] using this)
    have hx : x ≠ .nil := by intro e; subst e; have := hf.1; rw [sigFieldF] at this; cases this
    have hfx := hf.1
    rw [sigFieldF_eq hx] at hfx
    simp only [Bool.and_eq_true, beq_iff_eq] at hfx
    obtain ⟨⟨⟨⟨c1, c2⟩, c3⟩, c4⟩, c5⟩ := hfx
    have hsx : swalkF (conS b) x D = (y, 0) := hs 0 (by simp)
    have hux : swalkF conU x D = (x, 0) := hu 0 (by simp)
    obtain ⟨p0, p1, p2, p3, p4, p5⟩ := swalk_inv hx (by omega) hsx
    obtain ⟨_, _, _, _, _, q5⟩ := swalk_inv hx (by omega) hux
    have e0 : sbindsF x = 0 := by unfold sbindsF; rw [if_neg (by omega)]
    rw [e0, Int.add_zero, wrap64 (by omega) (by omega)] at p5 q5
    obtain ⟨u1, u2⟩ := swalks_get p5
    obtain ⟨_, v2⟩ := swalks_get q5
    have m0 := getD_mem (l := x.kids) (i := 0) (by omega)
    have m0' := getD_mem (l := y.kids) (i := 0) (by omega)
    have z0 := sizesN_mem m0'
    have zy := sizeN_kids p0
    have hk := ih x (by simp) _ m0 c5 D _ h0 h1 (by omega) (u2 0 (by omega)) (v2 0 (by omega))
    refine ⟨?_, by simp [a2, p3]⟩
    rw [sigFieldsF, a1, Bool.and_true, sigFieldF_eq p0, bare_same p4 p3 p2, p1, p3, c1, c2, c3, hk]
    simp [u1]; omega
theorem sig_map {b : Tree} (hb : conE b = 0) (T : Tree) : SigM b T := by
  suffices h : SigM b T ∧ ∀ x ∈ T.kids, SigM b x from h.1
  induction T using Tree.ind' with
  | h0 => exact ⟨fun h => (by rw [isSigF] at h; cases h), fun x hx => (by cases hx)⟩
  | h1 T hT ih =>
    refine ⟨fun h D m h0 h1 hz hs hu => ?_, fun x hx => (ih x hx).1⟩
    rw [isSigF_eq hT, Bool.and_eq_true] at h
    obtain ⟨hbare, h⟩ := h
    have hk : T.kind = 160 ∨ T.kind = 161 ∨ T.kind = 162 := by
      apply Decidable.byContradiction
      intro hn
      rw [if_neg (by omega), if_neg (by omega)] at h; cases h
    obtain ⟨p0, p1, p2, p3, p4, p5⟩ := swalk_inv hT (by omega) hs
    obtain ⟨_, _, _, _, _, q5⟩ := swalk_inv hT (by omega) hu
    have e0 : sbindsF T = 0 := by unfold sbindsF; rw [if_neg (by omega)]
    rw [e0, Int.add_zero, wrap64 (by omega) (by omega)] at p5 q5
    obtain ⟨u1, u2⟩ := swalks_get p5
    obtain ⟨_, v2⟩ := swalks_get q5
    have zy := sizeN_kids p0
    rw [isSigF_eq p0, bare_same p4 p3 p2, hbare, Bool.true_and, p1]
    by_cases k1 : T.kind = 160 ∨ T.kind = 161
    · rw [if_pos k1] at h ⊢
      simp only [Bool.and_eq_true, beq_iff_eq, decide_eq_true_eq] at h ⊢
      have hx := (conE_full h.2).1.ne
      have m0' := getD_mem (l := m.kids) (i := 0) (by omega)
      have z0 := sizesN_mem m0'
      have g1 := u2 0 (by omega)
      have g2 := v2 0 (by omega)
      rw [swalkF_eq _ hx, if_pos (con_kind h.2)] at g1 g2
      exact ⟨by rw [u1]; exact h.1, leaf_con hb h0 h1 g1 g2 (by omega)⟩
    · rw [if_neg k1] at h ⊢
      rw [if_pos (by omega)] at h ⊢
      rw [Bool.and_eq_true] at h ⊢
      obtain ⟨f1, f2⟩ := sfields_map h.1 (fun x hx => (ih x hx).2) h0 h1 (by omega) u1 u2 v2
      exact ⟨f1, by rw [risingF_names f2]; exact h.2⟩
theorem bareN_same {x T : Tree} (h1 : x.mark = T.mark) (h2 : x.name = T.name) (h3 : x.n = T.n) : bareNF x = bareNF T := by unfold bareNF; rw [h1, h2, h3]
theorem bareN_n {T : Tree} (h : bareNF T = true) : 0 ≤ T.n ∧ T.n ≤ 8192 := by
  unfold bareNF at h
  simp only [Bool.and_eq_true, decide_eq_true_eq] at h
  omega
theorem ex_map {b : Tree} (hb : conE b = 0) {T m : Tree} (hT : T ≠ .nil) (h : exF T = true) {D : Int} (h0 : 0 ≤ D) (h1 : D ≤ 100000) (hz : sizeN m ≤ 65536) (hs : swalkF (conS b) T D = (m, 0)) (hu : swalkF conU T D = (T, 0)) : exF m = true := by
  unfold exF at h
  simp only [Bool.and_eq_true, beq_iff_eq] at h
  obtain ⟨⟨⟨c1, c2⟩, c3⟩, c4⟩ := h
  have hn := bareN_n c2
  obtain ⟨p0, p1, p2, p3, p4, p5⟩ := swalk_inv hT (by omega) hs
  obtain ⟨_, _, _, _, _, q5⟩ := swalk_inv hT (by omega) hu
  have e0 : sbindsF T = T.n := by unfold sbindsF; rw [if_pos (by omega)]
  rw [e0, wrap64 (by omega) (by omega)] at p5 q5
  obtain ⟨u1, u2⟩ := swalks_get p5
  obtain ⟨_, v2⟩ := swalks_get q5
  have zy := sizeN_kids p0
  have m0' := getD_mem (l := m.kids) (i := 0) (by omega)
  have z0 := sizesN_mem m0'
  unfold exF
  rw [p1, c1, bareN_same p4 p3 p2, c2, sig_map hb _ c4 _ _ (by omega) (by omega) (by omega) (u2 0 (by omega)) (v2 0 (by omega))]
  simp [u1]; omega
theorem fun_map {b : Tree} (hb : conE b = 0) {T m : Tree} (hT : T ≠ .nil) (h : funF T = true) {D : Int} (h0 : 0 ≤ D) (h1 : D ≤ 80000) (hz : sizeN m ≤ 65536) (hs : swalkF (conS b) T D = (m, 0)) (hu : swalkF conU T D = (T, 0)) : funF m = true := by
  unfold funF at h
  simp only [Bool.and_eq_true, beq_iff_eq] at h
  obtain ⟨⟨⟨⟨c1, c2⟩, c3⟩, c4⟩, c5⟩ := h
  have hn := bareN_n c2
  obtain ⟨p0, p1, p2, p3, p4, p5⟩ := swalk_inv hT (by omega) hs
  obtain ⟨_, _, _, _, _, q5⟩ := swalk_inv hT (by omega) hu
  have e0 : sbindsF T = T.n := by unfold sbindsF; rw [if_pos (by omega)]
  rw [e0, wrap64 (by omega) (by omega)] at p5 q5
  obtain ⟨u1, u2⟩ := swalks_get p5
  obtain ⟨_, v2⟩ := swalks_get q5
  have zy := sizeN_kids p0
  have m0' := getD_mem (l := m.kids) (i := 0) (by omega)
  have z0 := sizesN_mem m0'
  have m1' := getD_mem (l := m.kids) (i := 1) (by omega)
  have z1 := sizesN_mem m1'
  have hx1 : T.kids.getD 1 .nil ≠ .nil := by
    intro e
    rw [e] at c5
    revert c5; decide
  unfold funF
  rw [p1, c1, bareN_same p4 p3 p2, c2, sig_map hb _ c4 _ _ (by omega) (by omega) (by omega) (u2 0 (by omega)) (v2 0 (by omega)), ex_map hb hx1 c5 (by omega) (by omega) (by omega) (u2 1 (by omega)) (v2 1 (by omega))]
  simp [u1]; omega
/-- What is filled in is an instance. -/
theorem fills {T b m : Tree} (h : ssubstR T b = (m, 0)) (hu : sshiftR T = (T, 0)) : ∃ c, instF T m 1 = ([c], 0) ∧ (c = .nil ∨ c = b) := by
  unfold ssubstR at h
  by_cases hT : semE T = 0
  · rw [if_neg (by simp [hT])] at h
    by_cases hb : conE b = 0
    · rw [if_neg (by simp [hb])] at h
      unfold sizedF at h
      by_cases he : (swalkF (conS b) T 0).2 = 0
      · rw [if_neg (by simp [he])] at h
        by_cases hw : (wholeF 65536 (swalkF (conS b) T 0).1).1 = 0
        · rw [if_neg (by simp [hw])] at h
          have hm : swalkF (conS b) T 0 = (m, 0) := Prod.ext (Prod.mk.inj h).1 he
          rw [hm] at hw
          unfold sshiftR at hu
          rw [if_neg (by simp [hT])] at hu
          have hfT : formF T = true := by unfold formF; rw [decide_eq_true hT]; simp
          obtain ⟨hE, hzT⟩ := form_EB hfT
          obtain ⟨hF, hform, _⟩ := semE_full hT
          have hzm := (wholeF_size m 65536 (by omega) hw).2
          have hfm : formF m = true := by
            have : (isSigF m || exF m || funF m) = true := by
              simp only [Bool.or_eq_true] at hform ⊢
              rcases hform with (q | q) | q
              · exact .inl (.inl (sig_map hb T q 0 m (by omega) (by omega) (by omega) hm hu))
              · exact .inl (.inr (ex_map hb hF.ne q (by omega) (by omega) (by omega) hm hu))
              · exact .inr (fun_map hb hF.ne q (by omega) (by omega) (by omega) hm hu)
            have hsm : semE m = 0 := by unfold semE checkF; rw [if_pos hw, this]; rfl
            unfold formF; rw [decide_eq_true hsm]; simp
          obtain ⟨c, h1, h2⟩ := fits_sig hb T 0 m .nil hE (by omega) (by omega) hm hu (.inl rfl)
          refine ⟨c, ?_, h2⟩
          unfold instF
          rw [if_neg (by simp [hfT]), if_neg (by simp [hfm]), if_neg (by omega), if_neg (by omega), show List.replicate (1 : Int).toNat Tree.nil = [.nil] from rfl, h1, if_pos rfl]
        · rw [if_pos hw] at h; exact absurd (Prod.mk.inj h).2 hw
      · rw [if_pos he] at h; exact absurd (Prod.mk.inj h).2 he
    · rw [if_pos hb] at h; exact absurd (Prod.mk.inj h).2 hb
  · rw [if_pos hT] at h; exact absurd (Prod.mk.inj h).2 hT
end Ex
end Go.Proofs.YtoajaklekmbcdaaGreat

namespace Go.Proofs.YtoajaklekmbcdaaGreat
namespace Ex
open Go Go.Mq
set_option linter.all false

end Ex
end Go.Proofs.YtoajaklekmbcdaaGreat
