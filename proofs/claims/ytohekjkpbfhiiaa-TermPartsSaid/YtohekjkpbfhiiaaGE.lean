/- What functions of the program compute, and plain facts about it. -/
import Derived.Test.YtohekjkpbfhiiaaGC
import Derived.Test.YtohekjkpbfhiiaaGD
set_option linter.all false
namespace Go.Proofs.Ytohekjkpbfhiiaa
namespace No
open Go Go.Mq
set_option linter.all false

/-! norm: a step -/
/-- Applications and functions have two kids. -/
inductive Ap : Tree → Prop
  | node {k n : Int} {nm mk : ByteArray} {l : List Tree} (h2 : k = 119 ∨ k = 120 → l.length = 2) (h : ∀ x ∈ l, Ap x) : Ap (.node k n nm mk l)
theorem Ap.of {T : Tree} (hT : T ≠ .nil) (h2 : T.kind = 119 ∨ T.kind = 120 → T.kids.length = 2) (hk : ∀ x ∈ T.kids, Ap x) : Ap T := by
  cases T with
  | nil => exact absurd rfl hT
  | node => exact .node h2 hk
theorem Ap.two {T : Tree} (h : Ap T) : T.kind = 119 ∨ T.kind = 120 → T.kids.length = 2 := by cases h; assumption
theorem Ap.k {T : Tree} (h : Ap T) : ∀ x ∈ T.kids, Ap x := by cases h; assumption
theorem Ap.full {T : Tree} (h : Ap T) : Full T := by
  induction T using Tree.ind with
  | h0 => cases h
  | h1 k n nm mk l ih => exact .node fun x hx => ih x hx (h.k x hx)
theorem kind_Ap (T : Tree) : isKindF T = true → Ap T := by
  induction T using Tree.ind' with
  | h0 => intro h; rw [isKindF] at h; cases h
  | h1 T hT ih =>
    intro h
    rw [isKindF_eq hT] at h
    split at h
    · rename_i hk
      rw [Bool.and_eq_true] at h
      have hl : T.kids = [] := by have := h.2; rw [beq_iff_eq] at this; exact List.length_eq_zero_iff.1 (by omega)
      exact .of hT (fun e => by omega) (fun x hx => by rw [hl] at hx; cases hx)
    · split at h
      · rename_i hk
        simp only [Bool.and_eq_true, beq_iff_eq] at h
        obtain ⟨⟨⟨h1, h2⟩, h3⟩, h4⟩ := h
        refine .of hT (fun e => by omega) (fun x hx => ?_)
        rcases mem_two (by omega : T.kids.length = 2) hx with e | e
        · exact ih x hx (by rw [e]; exact h3)
        · exact ih x hx (by rw [e]; exact h4)
      · cases h
theorem field_Ap {kind : Int} {x : Tree} (hk : kind ≠ 119 ∧ kind ≠ 120) (h : fieldF kind x = true) (ih : ∀ y ∈ x.kids, isConF y = true → Ap y) : Ap x := by
  have hx : x ≠ .nil := by intro e; subst e; rw [fieldF] at h; cases h
  rw [fieldF_eq hx] at h
  simp only [Bool.and_eq_true, beq_iff_eq] at h
  obtain ⟨⟨⟨⟨h1, h2⟩, h3⟩, h4⟩, h5⟩ := h
  refine .of hx (fun e => by omega) (fun y hy => ?_)
  have e := mem_one (by omega : x.kids.length = 1) hy
  exact ih y hy (by rw [e]; exact h5)
theorem con_Ap (T : Tree) : isConF T = true → Ap T := by
  suffices h : (isConF T = true → Ap T) ∧ ∀ x ∈ T.kids, isConF x = true → Ap x from h.1
  induction T using Tree.ind' with
  | h0 => exact ⟨fun h => (by rw [isConF] at h; cases h), fun x hx => (by cases hx)⟩
  | h1 T hT ih =>
    refine ⟨fun h => ?_, fun x hx => (ih x hx).1⟩
    rw [isConF_eq hT, Bool.and_eq_true] at h
    obtain ⟨_, h⟩ := h
    split at h
    · rename_i hk
      simp only [Bool.and_eq_true, beq_iff_eq, decide_eq_true_eq] at h
      have hl : T.kids = [] := List.length_eq_zero_iff.1 (by omega)
      exact .of hT (fun e => by omega) (fun x hx => by rw [hl] at hx; cases hx)
    rename_i hv
    split at h
    · rw [beq_iff_eq] at h
      have hl : T.kids = [] := List.length_eq_zero_iff.1 (by omega)
      exact .of hT (fun e => by omega) (fun x hx => by rw [hl] at hx; cases hx)
    split at h
    · simp only [Bool.and_eq_true, beq_iff_eq] at h
      refine .of hT (fun e => by omega) (fun x hx => ?_)
      rcases mem_two (by omega : T.kids.length = 2) hx with e | e
      · exact (ih x hx).1 (by rw [e]; exact h.1.2)
      · exact (ih x hx).1 (by rw [e]; exact h.2)
    split at h
    · simp only [Bool.and_eq_true] at h
      exact .of hT (fun e => by omega) (fun x hx => field_Ap (by decide) (fieldsF_mem h.1 x hx) (ih x hx).2)
    split at h
    · simp only [Bool.and_eq_true, beq_iff_eq] at h
      refine .of hT (fun e => by omega) (fun x hx => ?_)
      rcases mem_two (by omega : T.kids.length = 2) hx with e | e
      · exact kind_Ap x (by rw [e]; exact h.1.2)
      · exact (ih x hx).1 (by rw [e]; exact h.2)
    split at h
    · simp only [Bool.and_eq_true] at h
      exact .of hT (fun e => by omega) (fun x hx => field_Ap (by decide) (fieldsF_mem h.1.2 x hx) (ih x hx).2)
    · cases h

def redexF (T : Tree) : Prop := T.kind = 120 ∧ (T.kids.getD 0 .nil).kind = 119
instance (T : Tree) : Decidable (redexF T) := by unfold redexF; infer_instance
def redR (T : Tree) : Tree × Int := substR ((T.kids.getD 0 .nil).kids.getD 1 .nil) 0 (T.kids.getD 1 .nil)
mutual
def stepF : Tree → Option (Tree × Int)
  | .nil => none
  | .node k n nm mk l => if redexF (.node k n nm mk l) then some (redR (.node k n nm mk l)) else (stepsF l).map fun p => (.node k n nm mk p.1, p.2)
def stepsF : List Tree → Option (List Tree × Int)
  | [] => none
  | x :: l => match stepF x with
    | some p => some (p.1 :: l, p.2)
    | none => (stepsF l).map fun p => (x :: p.1, p.2)
end
theorem stepF_eq {T : Tree} (h : T ≠ .nil) : stepF T = if redexF T then some (redR T) else (stepsF T.kids).map fun p => (.node T.kind T.n T.name T.mark p.1, p.2) := by
  cases T with
  | nil => exact absurd rfl h
  | node => rw [stepF]; rfl
def outF (o : Option (Tree × Int)) : Tree × Bool × Int := match o with
  | none => (.nil, false, 0)
  | some p => if p.2 = 0 then (p.1, true, 0) else (.nil, false, p.2)
theorem substR_nil (T : Tree) (i : Int) (b : Tree) (h : (substR T i b).2 ≠ 0) : (substR T i b).1 = .nil := by
  unfold substR at *
  repeat' split at *
  all_goals first | rfl | simp_all

end No
end Go.Proofs.Ytohekjkpbfhiiaa

namespace Go.Proofs.Ytohekjkpbfhiiaa
namespace No
open Go Go.Mq
set_option linter.all false

/-! The document's step: the path of the first redex -/
mutual
def firstF : Tree → Option (List Int)
  | .nil => none
  | .node k n nm mk l => if redexF (.node k n nm mk l) then some [] else firstsF 0 l
def firstsF : Int → List Tree → Option (List Int)
  | _, [] => none
  | i, x :: l => match firstF x with
    | some p => some (i :: p)
    | none => firstsF (i + 1) l
end
theorem firstF_eq {T : Tree} (h : T ≠ .nil) : firstF T = if redexF T then some [] else firstsF 0 T.kids := by
  cases T with
  | nil => exact absurd rfl h
  | node => rw [firstF]; rfl
def intsD (l : List Int) : Mq.Data := .slice l.length 1 (fun i _ => .int .i64 (l.getD i 0))
def lenO (o : Option (List Int)) : List Int := o.getD []

def atF : List Int → Tree → Tree
  | [], T => T
  | x :: p, T => atF p (T.kids.getD x.toNat .nil)
def okP : List Int → Tree → Prop
  | [], T => T ≠ .nil
  | x :: p, T => T ≠ .nil ∧ 0 ≤ x ∧ x < T.kids.length ∧ okP p (T.kids.getD x.toNat .nil)
theorem okP.ne {p : List Int} {T : Tree} (h : okP p T) : T ≠ .nil := by cases p with
  | nil => exact h
  | cons => exact h.1

end No
end Go.Proofs.Ytohekjkpbfhiiaa

namespace Go.Proofs.Ytohekjkpbfhiiaa
namespace No
open Go Go.Mq
set_option linter.all false

def withF : List Int → Tree → Tree → Tree
  | [], _, m => m
  | x :: p, T, m => .node T.kind T.n T.name T.mark (T.kids.set x.toNat (withF p (T.kids.getD x.toNat .nil) m))
theorem takeT_step {l : List Tree} {i : Nat} (h : i < l.length) : l.take (i + 1) = l.take i ++ [l.getD i .nil] := (take_step h).symm

end No
end Go.Proofs.Ytohekjkpbfhiiaa

namespace Go.Proofs.Ytohekjkpbfhiiaa
namespace No
open Go Go.Mq
set_option linter.all false

theorem list_set_append {α : Type} (a b : List α) (x y : α) : (a ++ x :: b).set a.length y = a ++ y :: b := by
  rw [List.set_append]; simp
theorem step_first (T : Tree) : Ap T → (∀ p, firstF T = some p → okP p T ∧ Ap (atF p T) ∧ redexF (atF p T) ∧ stepF T = some (withF p T (redR (atF p T)).1, (redR (atF p T)).2)) ∧ (firstF T = none → stepF T = none) := by
  induction T using Tree.ind' with
  | h0 => intro h; exact absurd rfl h.full.ne
  | h1 T hT ih =>
    intro hA
    rw [firstF_eq hT, stepF_eq hT]
    by_cases hr : redexF T
    · rw [if_pos hr, if_pos hr]
      refine ⟨fun p hp => ?_, fun h => by cases h⟩
      cases hp
      exact ⟨hT, hA, hr, rfl⟩
    · rw [if_neg hr, if_neg hr]
      have key : ∀ (l pre : List Tree), T.kids = pre ++ l → (∀ p, firstsF pre.length l = some p → okP p T ∧ Ap (atF p T) ∧ redexF (atF p T) ∧ (stepsF l).map (fun q => (Tree.node T.kind T.n T.name T.mark (pre ++ q.1), q.2)) = some (withF p T (redR (atF p T)).1, (redR (atF p T)).2)) ∧ (firstsF pre.length l = none → stepsF l = none) := by
        intro l
        induction l with
        | nil => intro pre _; rw [firstsF, stepsF]; exact ⟨fun p h => (by cases h), fun _ => rfl⟩
        | cons x l ih2 =>
          intro pre hpre
          have hx := ih x (by rw [hpre]; simp) (hA.k x (by rw [hpre]; simp))
          have hg : T.kids.getD pre.length .nil = x := by rw [hpre]; simp [List.getElem?_append_right]
          rw [firstsF, stepsF]
          cases hq : firstF x with
          | some q =>
            obtain ⟨h1, h2, h3, h4⟩ := hx.1 q hq
            refine ⟨fun p hp => ?_, fun h => by cases h⟩
            simp only [Option.some.injEq] at hp
            subst hp
            rw [h4]
            refine ⟨⟨hT, by omega, by rw [hpre]; simp; omega, ?_⟩, ?_, ?_, ?_⟩
            · rw [Int.toNat_natCast, hg]; exact h1
            · rw [atF, Int.toNat_natCast, hg]; exact h2
            · rw [atF, Int.toNat_natCast, hg]; exact h3
            · rw [atF, withF, Int.toNat_natCast, hg]
              simp only [Option.map_some]
              rw [hpre, list_set_append]
          | none =>
            rw [hx.2 hq]
            have := ih2 (pre ++ [x]) (by rw [hpre]; simp)
            rw [List.length_append, List.length_singleton] at this
            refine ⟨fun p hp => ?_, fun h => ?_⟩
            · simp only [] at hp ⊢
              obtain ⟨g1, g2, g3, g4⟩ := this.1 p (by push_cast; exact hp)
              refine ⟨g1, g2, g3, ?_⟩
              rw [← g4, Option.map_map]
              congr 1
              funext q
              simp
            · simp only [] at h ⊢
              rw [this.2 (by push_cast; exact h)]; rfl
      have := key T.kids [] rfl
      exact ⟨fun p hp => this.1 p hp, fun h => by rw [this.2 h]; rfl⟩

def nstepR (T : Tree) : Tree × Bool × Int := if conE T ≠ 0 then (.nil, false, conE T) else outF (stepF T)
end No
end Go.Proofs.Ytohekjkpbfhiiaa

namespace Go.Proofs.Ytohekjkpbfhiiaa
namespace No
open Go Go.Mq
set_option linter.all false

def normF : Nat → Tree → Tree × Int
  | 0, T => if (nstepR T).2.2 ≠ 0 then (.nil, (nstepR T).2.2) else if (nstepR T).2.1 = true then (.nil, 18) else (T, 0)
  | k + 1, T => if (nstepR T).2.2 ≠ 0 then (.nil, (nstepR T).2.2) else if (nstepR T).2.1 = true then normF k (nstepR T).1 else (T, 0)
def normR (T : Tree) : Tree × Int := normF 1000 T

def nequalR (A B : Tree) : Bool × Int := if (normR A).2 ≠ 0 then (false, (normR A).2) else if (normR B).2 ≠ 0 then (false, (normR B).2) else (sameF (normR A).1 (normR B).1, 0)
end No
end Go.Proofs.Ytohekjkpbfhiiaa

namespace Go.Proofs.Ytohekjkpbfhiiaa
namespace No
open Go Go.Mq
set_option linter.all false

def starT : Tree := .node 100 0 ByteArray.empty ByteArray.empty []
def arrT (a b : Tree) : Tree := .node 114 0 ByteArray.empty ByteArray.empty [a, b]
def lamT (a b : Tree) : Tree := .node 119 0 ByteArray.empty ByteArray.empty [a, b]
def appT (a b : Tree) : Tree := .node 120 0 ByteArray.empty ByteArray.empty [a, b]
def wApp : Tree := appT (lamT starT (arrT (varT 0) (varT 0))) wI
def wArr : Tree := arrT wI wI
def wS : ByteArray := ⟨#[40, 32, 105, 110, 116, 32, 45, 62, 32, 105, 110, 116, 32, 41]⟩
theorem w_norm : normR wApp = (wArr, 0) := by kernel_rfl
theorem w_show : showR wArr = wS := by kernel_rfl
theorem normF_nil : ∀ (k : Nat) (T : Tree), (normF k T).2 ≠ 0 → (normF k T).1 = .nil
  | 0, T => by
    rw [normF]
    repeat' split
    all_goals first | exact fun _ => rfl | exact fun h => absurd rfl h
  | k + 1, T => by
    rw [normF]
    split
    · exact fun _ => rfl
    · split
      · exact normF_nil k _
      · exact fun h => absurd rfl h
theorem normF_end : ∀ (k : Nat) (T : Tree), (normF k T).2 = 0 → (nstepR (normF k T).1).2.1 = false ∧ (nstepR (normF k T).1).2.2 = 0
  | 0, T => by
    rw [normF]
    split
    · exact fun h => absurd h ‹_›
    · rename_i h1
      split
      · exact fun h => absurd h (by decide)
      · rename_i h2
        exact fun _ => ⟨by simpa using h2, by simpa using h1⟩
  | k + 1, T => by
    rw [normF]
    split
    · exact fun h => absurd h ‹_›
    · rename_i h1
      split
      · exact normF_end k _
      · rename_i h2
        exact fun _ => ⟨by simpa using h2, by simpa using h1⟩
theorem normF_stop {T : Tree} (h1 : (nstepR T).2.1 = false) (h2 : (nstepR T).2.2 = 0) : ∀ k, normF k T = (T, 0)
  | 0 => by rw [normF, if_neg (by omega), if_neg (by simp [h1])]
  | k + 1 => by rw [normF, if_neg (by omega), if_neg (by simp [h1])]

theorem star_con : isKindF starT = true := by kernel_rfl
theorem two_con {k : Int} {a b : Tree} (hk : k = 114 ∨ k = 120) (ha : isConF a = true) (hb : isConF b = true) : isConF (.node k 0 ByteArray.empty ByteArray.empty [a, b]) = true := by
  rw [isConF_eq (by simp)]
  simp only [Tree.kind, Tree.kids, Tree.n]
  rcases hk with rfl | rfl <;> simp [bareF, Tree.mark, Tree.name, Tree.n, ha, hb]
theorem lam_con {k : Int} {a b : Tree} (hk : k = 117 ∨ k = 118 ∨ k = 119) (ha : isKindF a = true) (hb : isConF b = true) : isConF (.node k 0 ByteArray.empty ByteArray.empty [a, b]) = true := by
  rw [isConF_eq (by simp)]
  simp only [Tree.kind, Tree.kids, Tree.n]
  rcases hk with rfl | rfl | rfl <;> simp [bareF, Tree.mark, Tree.name, Tree.n, ha, hb]
theorem sizeN_two (k n : Int) (nm mk : ByteArray) (a b : Tree) : sizeN (.node k n nm mk [a, b]) = 1 + (sizeN a + sizeN b) := by
  rw [sizeN_kids (by simp)]; simp [Tree.kids, sizesN]
theorem fewF_size (l : List Cel) : sizeN (fewF l) ≤ 60 := by
  have h := openF_size (fewL l) (fun c hc => by
    unfold fewL at hc
    obtain ⟨c', _, rfl⟩ := List.mem_map.1 hc
    have := loF_le 12 c'.kids.length (by omega) (by omega)
    have := cutC_len c'
    omega)
  have : (fewL l).length ≤ 60 := by unfold fewL; simp; omega
  unfold fewF
  omega

theorem whole_err (T : Tree) : Full T → ∀ left : Int, (wholeF left T).1 = 0 ∨ (wholeF left T).1 = 3 := by
  induction T using Tree.ind' with
  | h0 => intro h; exact absurd rfl h.ne
  | h1 T hT ih =>
    intro hF left
    rw [wholeF_kids hT]
    split
    · exact .inr rfl
    · have key : ∀ (l : List Tree), (∀ x ∈ l, ∀ left : Int, (wholeF left x).1 = 0 ∨ (wholeF left x).1 = 3) → ∀ left : Int, (wholesF left l).1 = 0 ∨ (wholesF left l).1 = 3 := by
        intro l
        induction l with
        | nil => intro _ left; exact .inl rfl
        | cons x l ih2 =>
          intro hx left
          rw [wholesF]
          split
          · exact ih2 (fun y hy => hx y (by simp [hy])) _
          · exact hx x (by simp) left
      exact key _ (fun x hx => ih x hx (hF.kids x hx)) _
theorem conE_con {T : Tree} (h : isConF T = true) (hF : Full T) : conE T = 0 ∨ conE T = 3 := by
  unfold conE checkF
  rcases whole_err T hF 65536 with e | e
  · rw [if_pos e, h]; exact .inl rfl
  · rw [e]; exact .inr rfl
theorem out_more {o : Option (Tree × Int)} {m : Tree} (h : outF o = (m, true, 0)) : o = some (m, 0) := by
  unfold outF at h
  cases o with
  | none => cases h
  | some p =>
    obtain ⟨a, b⟩ := p
    simp only [] at h
    split at h
    · cases h; simp_all
    · cases h
theorem out_none {o : Option (Tree × Int)} (h1 : (outF o).2.1 = false) (h2 : (outF o).2.2 = 0) : o = none := by
  unfold outF at *
  cases o with
  | none => rfl
  | some p =>
    obtain ⟨a, b⟩ := p
    simp only [] at h1 h2
    by_cases hb : b = 0
    · simp [hb] at h1
    · simp [hb] at h2
theorem nstep_zero {T : Tree} (h : (nstepR T).2.2 = 0) : conE T = 0 ∧ nstepR T = outF (stepF T) := by
  unfold nstepR at *
  by_cases hc : conE T = 0
  · exact ⟨hc, by rw [if_neg (by omega)]⟩
  · rw [if_pos hc] at h; exact absurd h hc
theorem norm_first {k : Nat} {a x : Tree} (h : normF k a = (x, 0)) : (nstepR a).2.2 = 0 ∧ (((nstepR a).2.1 = false ∧ x = a) ∨ ((nstepR a).2.1 = true ∧ ∃ k', normF k' (nstepR a).1 = (x, 0))) := by
  cases k with
  | zero =>
    rw [normF] at h
    split at h
    · exact absurd (congrArg Prod.snd h) ‹_›
    · split at h
      · cases h
      · cases h; exact ⟨by simpa using ‹¬ _ ≠ _›, .inl ⟨by simpa using ‹¬ _ = true›, rfl⟩⟩
  | succ k =>
    rw [normF] at h
    split at h
    · exact absurd (congrArg Prod.snd h) ‹_›
    · split at h
      · exact ⟨by simpa using ‹¬ _ ≠ _›, .inr ⟨‹_›, k, h⟩⟩
      · cases h; exact ⟨by simpa using ‹¬ _ ≠ _›, .inl ⟨by simpa using ‹¬ _ = true›, rfl⟩⟩
theorem step_arr (a b : Tree) : stepF (arrT a b) = match stepF a with
    | some p => some (arrT p.1 b, p.2)
    | none => (stepF b).map fun p => (arrT a p.1, p.2) := by
  unfold arrT
  rw [stepF_eq (by simp), if_neg (by unfold redexF; simp [Tree.kind])]
  simp only [Tree.kids, Tree.kind, Tree.n, Tree.name, Tree.mark, stepsF]
  cases stepF a with
  | some p => rfl
  | none =>
    cases stepF b with
    | some p => rfl
    | none => rfl
theorem norm_arr0 (k : Nat) (ih : ∀ (ka kb : Nat) (a b x y : Tree), 0 < k → normF ka a = (x, 0) → normF kb b = (y, 0) → normF (k - 1) (arrT a b) = (arrT x y, 0) ∨ ∃ g, (g = 18 ∨ g = 3) ∧ normF (k - 1) (arrT a b) = (.nil, g))
    (ka kb : Nat) (a b x y : Tree) (ha : normF ka a = (x, 0)) (hb : normF kb b = (y, 0)) : normF k (arrT a b) = (arrT x y, 0) ∨ ∃ g, (g = 18 ∨ g = 3) ∧ normF k (arrT a b) = (.nil, g) := by
  obtain ⟨a0, ha⟩ := norm_first ha
  obtain ⟨b0, hb'⟩ := norm_first hb
  obtain ⟨ac, ae⟩ := nstep_zero a0
  obtain ⟨bc, be⟩ := nstep_zero b0
  have more : ∀ M : Tree, nstepR (arrT a b) = (M, true, 0) → (0 < k → normF (k - 1) M = (arrT x y, 0) ∨ ∃ g, (g = 18 ∨ g = 3) ∧ normF (k - 1) M = (.nil, g)) → normF k (arrT a b) = (arrT x y, 0) ∨ ∃ g, (g = 18 ∨ g = 3) ∧ normF k (arrT a b) = (.nil, g) := by
    intro M hM hk
    cases k with
    | zero => rw [normF, hM]; exact .inr ⟨18, .inl rfl, rfl⟩
    | succ k => rw [normF, hM]; exact hk (by omega)
  rcases conE_con (two_con (.inl rfl) (conE_full ac).2 (conE_full bc).2 : isConF (arrT a b) = true) (.node fun x hx => by
    simp only [List.mem_cons, List.not_mem_nil, or_false] at hx
    rcases hx with rfl | rfl
    · exact (conE_full ac).1
    · exact (conE_full bc).1) with hc | hc
  · have hc : conE (arrT a b) = 0 := hc
    have hn : nstepR (arrT a b) = outF (stepF (arrT a b)) := by unfold nstepR; rw [if_neg (by omega)]
    rw [step_arr] at hn
    rcases ha with ⟨a1, ex⟩ | ⟨a1, ka', ha⟩
    · have ex := ex.symm
      subst ex
      rw [ae] at a1 a0
      rw [out_none a1 a0] at hn
      rcases hb' with ⟨b1, ey⟩ | ⟨b1, kb', hb2⟩
      · have ey := ey.symm
        subst ey
        rw [be] at b1 b0
        rw [out_none b1 b0] at hn
        exact .inl (normF_stop (by rw [hn]; rfl) (by rw [hn]; rfl) k)
      · have hm : outF (stepF b) = ((nstepR b).1, true, 0) := by rw [← be, ← b1, ← b0]
        rw [out_more hm] at hn
        refine more _ hn fun hk => ?_
        exact ih ka kb' a _ a y hk (normF_stop (by rw [ae]; exact a1) (by rw [ae]; exact a0) ka) hb2
    · have hm : outF (stepF a) = ((nstepR a).1, true, 0) := by rw [← ae, ← a1, ← a0]
      rw [out_more hm] at hn
      exact more _ hn fun hk => ih ka' kb _ b x y hk ha hb
  · have hc : conE (arrT a b) = 3 := hc
    have hn : nstepR (arrT a b) = (.nil, false, 3) := by unfold nstepR; rw [if_pos (by omega), hc]
    refine .inr ⟨3, .inr rfl, ?_⟩
    cases k with
    | zero => rw [normF, hn]; rfl
    | succ k => rw [normF, hn]; rfl
theorem norm_arr : ∀ (k ka kb : Nat) (a b x y : Tree), normF ka a = (x, 0) → normF kb b = (y, 0) → normF k (arrT a b) = (arrT x y, 0) ∨ ∃ g, (g = 18 ∨ g = 3) ∧ normF k (arrT a b) = (.nil, g) := by
  intro k
  induction k with
  | zero =>
    intro ka kb a b x y ha hb
    exact norm_arr0 0 (fun _ _ _ _ _ _ h => absurd h (by omega)) ka kb a b x y ha hb
  | succ k ih => 
    intro ka kb a b x y ha hb
    exact norm_arr0 (k + 1) (fun ka kb a b x y _ => ih ka kb a b x y) ka kb a b x y ha hb

end No
end Go.Proofs.Ytohekjkpbfhiiaa
