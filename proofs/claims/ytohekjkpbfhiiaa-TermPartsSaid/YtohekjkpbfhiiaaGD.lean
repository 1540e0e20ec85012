/- What functions of the program compute, and plain facts about it. -/
import Derived.Shelf.Strings.OnBuilder
import Derived.Deep.Slices
import Derived.Deep.Fields
import Derived.ChangeSame
import Derived.SizedLaws
import Derived.ProofKit
import Derived.OpenShut
import Derived.Carry
import Derived.Test.YtohekjkpbfhiiaaGB
import Derived.Test.YtohekjkpbfhiiaaGC
set_option linter.all false
/- strings.Join: the library's contract laid at this program (written by the kit's own tool). -/
namespace Go.Proofs.Ytohekjkpbfhiiaa
open Go.Shelf
def Try.lays156_ren : Go.Shelf.Ren := ⟨fun | 156 => 39 | 165 => 43 | 166 => 44 | 169 => 45 | 240 => 47 | 241 => 48 | 276 => 49 | 277 => 50 | n => n, fun | 31 => 59 | 9 => 9 | 3 => 3 | 4 => 4 | 0 => 0 | 20 => 20 | 72 => 67 | 76 => 71 | 70 => 65 | 37 => 62 | 75 => 70 | 127 => 75 | 164 => 76 | 5 => 5 | 80 => 73 | n => n, fun | n => n⟩
theorem Try.lays156 : Go.Proofs.Lays.n156 Try.prog Try.lays156_ren := {
  mixed := by kernel_rfl
  f156 := Try.func39.trans (congrArg some (by kernel_rfl))
  f165 := Try.func43.trans (congrArg some (by kernel_rfl))
  f166 := Try.func44.trans (congrArg some (by kernel_rfl))
  f169 := Try.func45.trans (congrArg some (by kernel_rfl))
  f240 := Try.func47.trans (congrArg some (by kernel_rfl))
  f241 := Try.func48.trans (congrArg some (by kernel_rfl))
  f276 := Try.func49.trans (congrArg some (by kernel_rfl))
  f277 := Try.func50.trans (congrArg some (by kernel_rfl))
  t0 := Try.underlying0
  a0 := Try.isAgg0
  z0 := Try.sizeOf0
  v0 := Try.zeroValue0
  t3 := Try.underlying3
  a3 := Try.isAgg3
  z3 := Try.sizeOf3
  v3 := Try.zeroValue3
  t4 := Try.underlying4
  a4 := Try.isAgg4
  z4 := Try.sizeOf4
  v4 := Try.zeroValue4
  t9 := Try.underlying9
  a9 := Try.isAgg9
  z9 := Try.sizeOf9
  v9 := Try.zeroValue9
  t20 := Try.underlying20
  a20 := Try.isAgg20
  z20 := Try.sizeOf20
  v20 := Try.zeroValue20
  t31 := Try.underlying59
  a31 := Try.isAgg59
  z31 := Try.sizeOf59
  v31 := Try.zeroValue59
  t37 := Try.underlying62
  a37 := Try.isAgg62
  z37 := Try.sizeOf62
  v37 := Try.zeroValue62
  t70 := Try.underlying65
  a70 := Try.isAgg65
  z70 := Try.sizeOf65
  v70 := Try.zeroValue65
  t72 := Try.underlying67
  a72 := Try.isAgg67
  z72 := Try.sizeOf67
  v72 := Try.zeroValue67
  t75 := Try.underlying70
  a75 := Try.isAgg70
  z75 := Try.sizeOf70
  v75 := Try.zeroValue70
  t76 := Try.underlying71
  a76 := Try.isAgg71
  z76 := Try.sizeOf71
  v76 := Try.zeroValue71
  t127 := Try.underlying75
  a127 := Try.isAgg75
  z127 := Try.sizeOf75
  v127 := Try.zeroValue75
  t164 := Try.underlying76
  a164 := Try.isAgg76
  z164 := Try.sizeOf76
  v164 := Try.zeroValue76 }
theorem Try.Builder_Extra_156 : Builder.Extra Try.prog Try.lays156_ren := {
  sizeBuilder := by kernel_rfl
  liesBuilder := by kernel_rfl
  t5 := Try.underlying5
  a5 := Try.isAgg5
  z5 := Try.sizeOf5
  v5 := Try.zeroValue5
  infoByte := by kernel_rfl
  cellsByte := by kernel_rfl
  sizeByte := by kernel_rfl
  neB5 := by decide }
open Go.RowKit in
/-- No element: the empty string; the world is as it was. (Whatever the slice's address and capacity: a nil slice too.) (LAID: no walk: one application.) -/
theorem Try.strings_Join_none (a : Option Addr) (c : Nat) (sep : ByteArray) (w : World) :
    Calls Try.prog 39 #[.slice a 0 c, .string sep] w fun e w' => e = .returned (.string ⟨#[]⟩) ∧ w' = w := Any.strings_Join_none Try.lays156 Try.Builder_Extra_156 a c sep w
open Go.RowKit in
/-- strings.Join: "Join concatenates the elements of its first argument to create a single string. The separator string sep is placed between elements in the resulting string.": HOWEVER MANY ELEMENTS. Below the heap's end the world is as it was. (LAID: no walk: one application.) -/
theorem Try.strings_Join (bk o c : Nat) (xs : List ByteArray) (sep : ByteArray) (w : World) (hcells : ∀ (j : Nat) x, xs[j]? = some x → w.cell? ⟨bk, o + j, none⟩ = some (.string x)) (hbk : bk < w.heap.size) (hN : xs.length ≤ 140737488355328) (hcap : xs.length ≤ c) (hlen : (Lib.join (xs.map (·.data.toList)) sep.data.toList).length ≤ 140737488355328) :
    Calls Try.prog 39 #[.slice (some ⟨bk, o, none⟩) xs.length c, .string sep] w fun e w' => e = .returned (.string ⟨(Lib.join (xs.map (·.data.toList)) sep.data.toList).toArray⟩) ∧ Below w.heap.size w w' := Any.strings_Join Try.lays156 Try.Builder_Extra_156 bk o c xs sep w hcells hbk hN hcap hlen
end Go.Proofs.Ytohekjkpbfhiiaa

namespace Go.Proofs.Ytohekjkpbfhiiaa
open Go Go.Mq Go.RowKit
set_option linter.all false

theorem Rel.below {E : Env} {I : Imm} {ρ : Nat → RB} {D : Nat → Prop} {G : Objs} {g : Ghost} {w w' : World} (h : Rel E I ρ D G g w) (hb : Below w.heap.size w w') : Rel E I ρ D G g w' := by
  obtain ⟨own, h⟩ := h
  obtain ⟨e1, e3, e2, hsz, hh⟩ := hb
  have hlt : ∀ b, own b ≠ .free → w'.heap[b]? = w.heap[b]? := fun b hb => hh b (h.lt b hb)
  refine ⟨own, ⟨?_, fun b hb => Nat.lt_of_lt_of_le (h.lt b hb) hsz, fun b c hc => ?_, h.key, fun id o ho => ?_, h.ownd, ?_⟩⟩
  · rw [← h.env]; simp only [World.env]; rw [e1, e2, e3]
  · obtain ⟨q1, q2⟩ := h.imm b c hc
    exact ⟨q1, by rw [hlt b (by rw [q1]; intro e; cases e)]; exact q2⟩
  · refine ORel.mono (Imm.le_refl I) (fun _ q => q) (fun _ _ => rfl) (h.key id o ho) (fun hn => hlt _ ?_) (h.obj id o ho)
    rw [h.ownd id o ho hn]; intro e; cases e
  · have : gheap own w' = gheap own w := by
      funext b
      unfold gheap
      cases ho : own b with
      | gst => exact hlt b (by rw [ho]; intro e; cases e)
      | _ => rfl
    rw [this]; exact h.gst

def joinF (l : List ByteArray) (sep : ByteArray) : ByteArray := ⟨(Lib.join (l.map (·.data.toList)) sep.data.toList).toArray⟩

theorem join_ok (el : TypeId) (l : List ByteArray) (sep : ByteArray) (hlen : (Lib.join (l.map (·.data.toList)) sep.data.toList).length ≤ 140737488355328) :
    Fun P 39 [.row 0 l.length, .d (.str sep)] [(0, .row el (.strs l))] 1 (.d (.str (joinF l sep))) [(0, .row el (.strs l))] 1 := by
  refine ⟨⟨_, Try.func39, rfl, rfl⟩, fun g E I ρ w vs hr ha => ?_⟩
  obtain ⟨vs⟩ := vs
  match vs, ha with
  | [v0, v1], ha =>
    obtain ⟨h0, h1, _⟩ := ha
    have e1 := h1.str
    subst e1
    obtain ⟨own, ho⟩ := hr
    have hr : Rel E I ρ (· < 1) (sget [(0, .row el (.strs l))]) g w := ⟨own, ho⟩
    have hobj := ho.obj 0 (.row el (.strs l)) rfl
    have fin : ∀ w', Below w.heap.size w w' → ∃ I' ρ' v, I.le I' ∧ (∀ id, id < 1 → ρ' id = ρ id) ∧ Ending.returned (.string (joinF l sep)) = .returned v ∧ Rel E I' ρ' (· < 1) (sget [(0, .row el (.strs l))]) g w' ∧ CA I' ρ' (· < 1) (.d (.str (joinF l sep))) v :=
      fun w' hb => ⟨I, ρ, _, Imm.le_refl I, fun _ _ => rfl, rfl, Rel.below hr hb, .d .str⟩
    obtain ⟨_, ⟨hn, hc, hm, rfl⟩ | ⟨hn, hz, rfl⟩⟩ := h0.row_inv
    · rcases hobj with ⟨q, _⟩ | ⟨_, h2, h3, cs, h4, h5, h6⟩
      · rw [hn] at q; cases q
      · refine (Try.strings_Join (ρ 0).blk 0 (ρ 0).cap l sep w (fun j x hj => ?_) ?_ ?_ hc hlen).mono ?_
        · have hj' : j < l.length := (List.getElem?_eq_some_iff.1 hj).1
          have := h6 j (by simpa [RowC.len, RowC.sz] using hj')
          have e : RowC.cell (.strs l) j = .d (.str x) := by simp [RowC.cell, hj]
          rw [e] at this
          have hv := this.str
          have hsz : j < cs.size := by
            simp only [RowC.len] at h2
            rw [h5]; simp [RowC.sz]; omega
          have h7 := cell_of_block (off := j) h4 hsz
          rw [Nat.zero_add, h7, hv]
        · exact (Array.getElem?_eq_some_iff.1 h4).1
        · unfold maxN at hm; omega
        · rintro e w' ⟨rfl, hb⟩
          exact fin w' hb
    · have hl : l = [] := List.length_eq_zero_iff.1 hz
      subst hl
      refine (Try.strings_Join_none none 0 sep w).mono ?_
      rintro e w' ⟨rfl, rfl⟩
      exact fin w' (Below.refl _ _)
end Go.Proofs.Ytohekjkpbfhiiaa

namespace Go.Proofs.Ytohekjkpbfhiiaa
open Go Go.Mq
set_option linter.all false

/-! What is written -/
def cStar : ByteArray := ⟨#[42]⟩
def cArrow : ByteArray := ⟨#[32, 45, 62, 32]⟩
def cPar : ByteArray := ⟨#[40, 32]⟩
def cEnd : ByteArray := ⟨#[32, 41]⟩
def cBlank : ByteArray := ⟨#[32]⟩
def cAll : ByteArray := ⟨#[40, 32, 97, 108, 108, 32]⟩
def cEx : ByteArray := ⟨#[40, 32, 101, 120, 32]⟩
def cFn : ByteArray := ⟨#[40, 32, 102, 110, 32]⟩
def cDot : ByteArray := ⟨#[32, 46, 32]⟩
def cInt : ByteArray := ⟨#[105, 110, 116]⟩
def cBool : ByteArray := ⟨#[98, 111, 111, 108]⟩
def cUnit : ByteArray := ⟨#[117, 110, 105, 116]⟩
def cDollar : ByteArray := ⟨#[36]⟩
def cMu : ByteArray := ⟨#[109, 117, 32]⟩
def cOpen : ByteArray := ⟨#[123, 32]⟩
def cClose : ByteArray := ⟨#[32, 125]⟩
def cEmpty : ByteArray := ⟨#[123, 32, 125]⟩
def cOf : ByteArray := ⟨#[32, 111, 102, 32]⟩
def cEq : ByteArray := ⟨#[32, 61, 32]⟩
def cBar : ByteArray := ⟨#[32, 124, 32]⟩
def cComma : ByteArray := ⟨#[32, 44, 32]⟩
def cBrace : ByteArray := ⟨#[123]⟩
def cBar1 : ByteArray := ⟨#[32, 124]⟩
def cComma1 : ByteArray := ⟨#[32, 44]⟩
mutual
def textF : Tree → ByteArray
  | .nil => ByteArray.empty
  | .node k n nm mk l =>
    if k = 100 then cStar
    else if k = 101 ∨ k = 114 then (cPar ++ ((textAt 0 l ++ cArrow) ++ textAt 1 l)) ++ cEnd
    else if k = 120 then (cPar ++ ((textAt 0 l ++ cBlank) ++ textAt 1 l)) ++ cEnd
    else if k = 117 then (cAll ++ ((textAt 0 l ++ cDot) ++ textAt 1 l)) ++ cEnd
    else if k = 118 then (cEx ++ ((textAt 0 l ++ cDot) ++ textAt 1 l)) ++ cEnd
    else if k = 119 then (cFn ++ ((textAt 0 l ++ cDot) ++ textAt 1 l)) ++ cEnd
    else if k = 111 then cInt
    else if k = 112 then cBool
    else if k = 113 then cUnit
    else if k = 110 then cDollar ++ numF n
    else if k = 121 then ((cMu ++ cOpen) ++ joinF (itemsF cOf l) cBar) ++ cClose
    else if l.length = 0 then cEmpty else ((ByteArray.empty ++ cOpen) ++ joinF (itemsF cEq l) cComma) ++ cClose
def textAt (i : Nat) : List Tree → ByteArray
  | [] => ByteArray.empty
  | x :: l => match i with
    | 0 => textF x
    | i + 1 => textAt i l
def itemsF (sign : ByteArray) : List Tree → List ByteArray
  | [] => []
  | x :: l => itemF sign x :: itemsF sign l
def itemF (sign : ByteArray) : Tree → ByteArray
  | .nil => ByteArray.empty
  | .node _ _ nm _ l => (nm ++ sign) ++ textAt 0 l
end
theorem textAt_eq : ∀ (l : List Tree) (i : Nat), textAt i l = textF (l.getD i .nil)
  | [], i => by rw [textAt]; simp [textF]
  | x :: l, 0 => by rw [textAt]; rfl
  | x :: l, i + 1 => by rw [textAt]; exact textAt_eq l i
theorem itemF_eq {T : Tree} (h : T ≠ .nil) (sign : ByteArray) : itemF sign T = (T.name ++ sign) ++ textF (T.kids.getD 0 .nil) := by
  cases T with
  | nil => exact absurd rfl h
  | node => rw [itemF, textAt_eq]; rfl
theorem itemsF_map (sign : ByteArray) : ∀ l : List Tree, itemsF sign l = l.map (itemF sign)
  | [] => by rw [itemsF]; rfl
  | x :: l => by rw [itemsF, itemsF_map sign l]; rfl
theorem textF_eq {T : Tree} (h : T ≠ .nil) : textF T =
    if T.kind = 100 then cStar
    else if T.kind = 101 ∨ T.kind = 114 then (cPar ++ ((textF (T.kids.getD 0 .nil) ++ cArrow) ++ textF (T.kids.getD 1 .nil))) ++ cEnd
    else if T.kind = 120 then (cPar ++ ((textF (T.kids.getD 0 .nil) ++ cBlank) ++ textF (T.kids.getD 1 .nil))) ++ cEnd
    else if T.kind = 117 then (cAll ++ ((textF (T.kids.getD 0 .nil) ++ cDot) ++ textF (T.kids.getD 1 .nil))) ++ cEnd
    else if T.kind = 118 then (cEx ++ ((textF (T.kids.getD 0 .nil) ++ cDot) ++ textF (T.kids.getD 1 .nil))) ++ cEnd
    else if T.kind = 119 then (cFn ++ ((textF (T.kids.getD 0 .nil) ++ cDot) ++ textF (T.kids.getD 1 .nil))) ++ cEnd
    else if T.kind = 111 then cInt
    else if T.kind = 112 then cBool
    else if T.kind = 113 then cUnit
    else if T.kind = 110 then cDollar ++ numF T.n
    else if T.kind = 121 then ((cMu ++ cOpen) ++ joinF (T.kids.map (itemF cOf)) cBar) ++ cClose
    else if T.kids.length = 0 then cEmpty else ((ByteArray.empty ++ cOpen) ++ joinF (T.kids.map (itemF cEq)) cComma) ++ cClose := by
  cases T with
  | nil => exact absurd rfl h
  | node => rw [textF]; simp only [textAt_eq, itemsF_map]; rfl

/-! What can be written -/
def Sh (T : Tree) : Prop := isConF T = true ∨ isKindF T = true
structure ShF (x : Tree) : Prop where
  ne : x ≠ .nil
  name : x.name.size ≤ 160
  len : x.kids.length = 1
  kid : Sh (x.kids.getD 0 .nil)
theorem shF_of {kind : Int} {x : Tree} (h : fieldF kind x = true) : ShF x := by
  have hx : x ≠ .nil := by intro e; subst e; rw [fieldF] at h; cases h
  rw [fieldF_eq hx] at h
  simp only [Bool.and_eq_true, beq_iff_eq] at h
  obtain ⟨⟨⟨⟨h1, h2⟩, h3⟩, h4⟩, h5⟩ := h
  unfold labelF at h3
  simp only [Bool.and_eq_true, decide_eq_true_eq] at h3
  exact ⟨hx, by omega, by omega, .inl h5⟩
structure ShN (T : Tree) : Prop where
  ne : T ≠ .nil
  ks : T.kind = 100 ∨ T.kind = 101 ∨ T.kind = 110 ∨ T.kind = 111 ∨ T.kind = 112 ∨ T.kind = 113 ∨ T.kind = 114 ∨ T.kind = 115 ∨ T.kind = 117 ∨ T.kind = 118 ∨ T.kind = 119 ∨ T.kind = 120 ∨ T.kind = 121
  two : T.kind = 101 ∨ T.kind = 114 ∨ T.kind = 117 ∨ T.kind = 118 ∨ T.kind = 119 ∨ T.kind = 120 → T.kids.length = 2 ∧ Sh (T.kids.getD 0 .nil) ∧ Sh (T.kids.getD 1 .nil)
  num : T.kind = 110 → 0 ≤ T.n ∧ T.n ≤ 65536
  fld : T.kind = 115 ∨ T.kind = 121 → ∀ x ∈ T.kids, ShF x
  sum : T.kind = 121 → 0 < T.kids.length
theorem Sh.n {T : Tree} (h : Sh T) : ShN T := by
  rcases h with h | h
  · have hT : T ≠ .nil := by intro e; subst e; rw [isConF] at h; cases h
    rw [isConF_eq hT, Bool.and_eq_true] at h
    obtain ⟨_, h⟩ := h
    split at h
    · rename_i hk
      simp only [Bool.and_eq_true, beq_iff_eq, decide_eq_true_eq] at h
      exact ⟨hT, by omega, fun e => by omega, fun _ => ⟨h.1.1, h.1.2⟩, fun e => by omega, fun e => by omega⟩
    split at h
    · exact ⟨hT, by omega, fun e => by omega, fun e => by omega, fun e => by omega, fun e => by omega⟩
    split at h
    · simp only [Bool.and_eq_true, beq_iff_eq] at h
      exact ⟨hT, by omega, fun _ => ⟨by omega, .inl h.1.2, .inl h.2⟩, fun e => by omega, fun e => by omega, fun e => by omega⟩
    split at h
    · simp only [Bool.and_eq_true] at h
      exact ⟨hT, by omega, fun e => by omega, fun e => by omega, fun _ x hx => shF_of (fieldsF_mem h.1 x hx), fun e => by omega⟩
    split at h
    · simp only [Bool.and_eq_true, beq_iff_eq] at h
      exact ⟨hT, by omega, fun _ => ⟨by omega, .inr h.1.2, .inl h.2⟩, fun e => by omega, fun e => by omega, fun e => by omega⟩
    split at h
    · simp only [Bool.and_eq_true, decide_eq_true_eq] at h
      exact ⟨hT, by omega, fun e => by omega, fun e => by omega, fun _ x hx => shF_of (fieldsF_mem h.1.2 x hx), fun _ => by omega⟩
    · cases h
  · have hT : T ≠ .nil := by intro e; subst e; rw [isKindF] at h; cases h
    rw [isKindF_eq hT] at h
    split at h
    · exact ⟨hT, by omega, fun e => by omega, fun e => by omega, fun e => by omega, fun e => by omega⟩
    · split at h
      · simp only [Bool.and_eq_true, beq_iff_eq] at h
        exact ⟨hT, by omega, fun _ => ⟨by omega, .inr h.1.2, .inr h.2⟩, fun e => by omega, fun e => by omega, fun e => by omega⟩
      · cases h

/-! How long it is -/
theorem digR_len2 (k : Nat) : ∀ u : Nat, u < 10 ^ (k + 1) → (digR u).length ≤ k + 1 := by
  induction k with
  | zero => intro u h; rw [digR_lo (by omega)]; simp
  | succ k ih =>
    intro u h
    by_cases hl : u < 10
    · rw [digR_lo hl]; simp
    · rw [digR_hi hl]
      have := ih (u / 10) (by rw [Nat.pow_succ] at h; omega)
      simp; omega
theorem numF_size2 {n : Int} (h0 : 0 ≤ n) (h1 : n ≤ 65536) : (numF n).size ≤ 7 := by
  have h2 := sign_size n
  have h3 := bytesOf_size (digR n.natAbs).reverse
  have h4 := digR_len2 5 n.natAbs (by omega)
  rw [List.length_reverse] at h3
  rw [numF, ByteArray.size_append]
  omega
def tailB (sep : ByteArray) : List ByteArray → ByteArray
  | [] => ByteArray.empty
  | y :: r => (sep ++ y) ++ tailB sep r
theorem joinF_size (l : List ByteArray) (sep : ByteArray) : (joinF l sep).size = (Lib.join (l.map (·.data.toList)) sep.data.toList).length := by
  simp [joinF, ByteArray.size]
theorem mk_append (a b : List UInt8) : (⟨(a ++ b).toArray⟩ : ByteArray) = ⟨a.toArray⟩ ++ ⟨b.toArray⟩ := by
  apply ByteArray.ext; simp [ByteArray.data_append]
theorem mk_list (x : ByteArray) : (⟨x.data.toList.toArray⟩ : ByteArray) = x := by
  apply ByteArray.ext; simp
theorem tail_mk (sep : ByteArray) : ∀ r : List ByteArray, (⟨(Lib.joinTail sep.data.toList (r.map (·.data.toList))).toArray⟩ : ByteArray) = tailB sep r
  | [] => rfl
  | y :: r => by
    have e : Lib.joinTail sep.data.toList ((y :: r).map (·.data.toList)) = (sep.data.toList ++ y.data.toList) ++ Lib.joinTail sep.data.toList (r.map (·.data.toList)) := by simp [Lib.joinTail]
    rw [e, mk_append, mk_append, mk_list, mk_list, tail_mk sep r, tailB]
theorem joinF_nil (sep : ByteArray) : joinF [] sep = ByteArray.empty := rfl
theorem joinF_cons (x : ByteArray) (r : List ByteArray) (sep : ByteArray) : joinF (x :: r) sep = x ++ tailB sep r := by
  rw [joinF, List.map_cons, Lib.join_cons, mk_append, mk_list, tail_mk]
theorem tailB_snoc (sep x : ByteArray) : ∀ r, tailB sep (r ++ [x]) = tailB sep r ++ (sep ++ x)
  | [] => by simp [tailB]
  | y :: r => by rw [List.cons_append, tailB, tailB_snoc sep x r, tailB]; simp [ByteArray.append_assoc]
theorem joinF_snoc {l : List ByteArray} (h : l ≠ []) (x sep : ByteArray) : joinF (l ++ [x]) sep = joinF l sep ++ (sep ++ x) := by
  cases l with
  | nil => exact absurd rfl h
  | cons y r => rw [List.cons_append, joinF_cons, joinF_cons, tailB_snoc, ByteArray.append_assoc]
theorem tailB_size {B : Nat} (sep : ByteArray) : ∀ (r : List ByteArray), (∀ x ∈ r, x.size ≤ B) → (tailB sep r).size ≤ r.length * (sep.size + B)
  | [], _ => by simp [tailB]
  | y :: r, h => by
    have h1 := tailB_size sep r (fun x hx => h x (by simp [hx]))
    have h2 := h y (by simp)
    rw [tailB, ByteArray.size_append, ByteArray.size_append, List.length_cons, Nat.add_mul, Nat.one_mul]
    omega
def sumB : List ByteArray → Nat
  | [] => 0
  | x :: l => x.size + sumB l
theorem tailB_sum (sep : ByteArray) : ∀ (r : List ByteArray), (tailB sep r).size = sumB r + r.length * sep.size
  | [] => by simp [tailB, sumB]
  | y :: r => by
    rw [tailB, ByteArray.size_append, ByteArray.size_append, tailB_sum sep r, sumB, List.length_cons, Nat.add_mul, Nat.one_mul]
    omega
theorem joinF_sum (l : List ByteArray) (sep : ByteArray) : (joinF l sep).size ≤ sumB l + l.length * sep.size := by
  cases l with
  | nil => simp [joinF_nil, sumB]
  | cons x r =>
    rw [joinF_cons, ByteArray.size_append, tailB_sum, sumB, List.length_cons, Nat.add_mul, Nat.one_mul]
    omega
end Go.Proofs.Ytohekjkpbfhiiaa

namespace Go.Proofs.Ytohekjkpbfhiiaa
open Go Go.Mq
set_option linter.all false

theorem sizesN_two {l : List Tree} (h : l.length = 2) : sizesN l = sizeN (l.getD 0 .nil) + sizeN (l.getD 1 .nil) := by
  match l, h with
  | [a, b], _ => simp [sizesN]
theorem sizesN_one {l : List Tree} (h : l.length = 1) : sizesN l = sizeN (l.getD 0 .nil) := by
  match l, h with
  | [a], _ => simp [sizesN]
theorem items_size (sign : ByteArray) (hs : sign.size ≤ 4) : ∀ l : List Tree, (∀ x ∈ l, ShF x) → (∀ x ∈ l, (textF (x.kids.getD 0 .nil)).size ≤ 400 * sizeN (x.kids.getD 0 .nil)) → sumB (l.map (itemF sign)) + l.length * 3 ≤ 400 * sizesN l
  | [], _, _ => by simp [sumB, sizesN]
  | x :: l, h, ht => by
    have h1 := items_size sign hs l (fun y hy => h y (by simp [hy])) (fun y hy => ht y (by simp [hy]))
    have hx := h x (by simp)
    have hk := ht x (by simp)
    have hz : sizeN x = 1 + sizeN (x.kids.getD 0 .nil) := by rw [sizeN_kids hx.ne, sizesN_one hx.len]
    have hn := hx.name
    rw [List.map_cons, sumB, itemF_eq hx.ne, ByteArray.size_append, ByteArray.size_append, List.length_cons, sizesN, hz]
    omega
theorem text_size (T : Tree) : Sh T → (textF T).size ≤ 400 * sizeN T := by
  suffices h : (Sh T → (textF T).size ≤ 400 * sizeN T) ∧ ∀ x ∈ T.kids, Sh x → (textF x).size ≤ 400 * sizeN x from h.1
  induction T using Tree.ind' with
  | h0 => exact ⟨fun h => absurd rfl h.n.ne, fun x hx => by cases hx⟩
  | h1 T hT ih =>
    refine ⟨fun h => ?_, fun x hx => (ih x hx).1⟩
    have hn := h.n
    have hz := sizeN_kids hT
    have e : cStar.size = 1 ∧ cArrow.size = 4 ∧ cPar.size = 2 ∧ cEnd.size = 2 ∧ cBlank.size = 1 ∧ cAll.size = 6 ∧ cEx.size = 5 ∧ cFn.size = 5 ∧ cDot.size = 3 ∧ cInt.size = 3 ∧ cBool.size = 4 ∧ cUnit.size = 4 ∧ cDollar.size = 1 ∧ cMu.size = 3 ∧ cOpen.size = 2 ∧ cClose.size = 2 ∧ cEmpty.size = 3 ∧ cOf.size = 4 ∧ cEq.size = 3 ∧ cBar.size = 3 ∧ cComma.size = 3 ∧ ByteArray.empty.size = 0 := ⟨rfl, rfl, rfl, rfl, rfl, rfl, rfl, rfl, rfl, rfl, rfl, rfl, rfl, rfl, rfl, rfl, rfl, rfl, rfl, rfl, rfl, rfl⟩
    obtain ⟨e1, e2, e3, e4, e5, e6, e7, e8, e9, e10, e11, e12, e13, e14, e15, e16, e17, e18, e19, e20, e21, e22⟩ := e
    have two : ∀ a b c : ByteArray, a.size ≤ 6 → b.size ≤ 4 → c.size ≤ 2 → (T.kind = 101 ∨ T.kind = 114 ∨ T.kind = 117 ∨ T.kind = 118 ∨ T.kind = 119 ∨ T.kind = 120) → ((a ++ ((textF (T.kids.getD 0 .nil) ++ b) ++ textF (T.kids.getD 1 .nil))) ++ c).size ≤ 400 * sizeN T := by
      intro a b c ha hb hc hk
      obtain ⟨hl, s0, s1⟩ := hn.two hk
      have t0 := (ih _ (getD_mem (by omega : 0 < T.kids.length))).1 s0
      have t1 := (ih _ (getD_mem (by omega : 1 < T.kids.length))).1 s1
      rw [hz, sizesN_two hl]
      simp only [ByteArray.size_append]
      omega
    have rec' : ∀ a b c sign sep : ByteArray, a.size ≤ 3 → b.size ≤ 2 → c.size ≤ 2 → sign.size ≤ 4 → sep.size ≤ 3 → (T.kind = 115 ∨ T.kind = 121) → (((a ++ b) ++ joinF (T.kids.map (itemF sign)) sep) ++ c).size ≤ 400 * sizeN T := by
      intro a b c sign sep ha hb hc hsg hsp hk
      have hf := hn.fld hk
      have hi := items_size sign hsg T.kids hf (fun x hx => (ih x hx).2 _ (getD_mem (by have := (hf x hx).len; omega)) (hf x hx).kid)
      have hj := joinF_sum (T.kids.map (itemF sign)) sep
      rw [List.length_map] at hj
      have hm : T.kids.length * sep.size ≤ T.kids.length * 3 := Nat.mul_le_mul_left _ hsp
      rw [hz]
      simp only [ByteArray.size_append]
      omega
    rw [textF_eq hT]
    by_cases h0 : T.kind = 100
    · rw [if_pos h0]; omega
    rw [if_neg h0]
    by_cases h1 : T.kind = 101 ∨ T.kind = 114
    · rw [if_pos h1]; exact two _ _ _ (by omega) (by omega) (by omega) (by omega)
    rw [if_neg h1]
    by_cases h2 : T.kind = 120
    · rw [if_pos h2]; exact two _ _ _ (by omega) (by omega) (by omega) (by omega)
    rw [if_neg h2]
    by_cases h3 : T.kind = 117
    · rw [if_pos h3]; exact two _ _ _ (by omega) (by omega) (by omega) (by omega)
    rw [if_neg h3]
    by_cases h4 : T.kind = 118
    · rw [if_pos h4]; exact two _ _ _ (by omega) (by omega) (by omega) (by omega)
    rw [if_neg h4]
    by_cases h5 : T.kind = 119
    · rw [if_pos h5]; exact two _ _ _ (by omega) (by omega) (by omega) (by omega)
    rw [if_neg h5]
    by_cases h6 : T.kind = 111
    · rw [if_pos h6]; omega
    rw [if_neg h6]
    by_cases h7 : T.kind = 112
    · rw [if_pos h7]; omega
    rw [if_neg h7]
    by_cases h8 : T.kind = 113
    · rw [if_pos h8]; omega
    rw [if_neg h8]
    by_cases h9 : T.kind = 110
    · rw [if_pos h9]; (have := hn.num h9; have := numF_size2 this.1 this.2; rw [ByteArray.size_append]; omega)
    rw [if_neg h9]
    by_cases h10 : T.kind = 121
    · rw [if_pos h10]; exact rec' _ _ _ _ _ (by omega) (by omega) (by omega) (by omega) (by omega) (by omega)
    rw [if_neg h10]
    by_cases h11 : T.kids.length = 0
    · rw [if_pos h11]; omega
    rw [if_neg h11]
    have hk : T.kind = 115 := by have := hn.ks; omega
    exact rec' _ _ _ _ _ (by omega) (by omega) (by omega) (by omega) (by omega) (.inl hk)
end Go.Proofs.Ytohekjkpbfhiiaa

namespace Go.Proofs.Ytohekjkpbfhiiaa
open Go Go.Mq
set_option linter.all false

set_option maxHeartbeats 4000000 in
set_option maxRecDepth 10000 in
theorem show1_ok (T : Tree) (hT : T ≠ .nil) (hl : T.kids.length = 2) (h0 : Pure P 41 [.d (.tree (T.kids.getD 0 .nil))] (.d (.str (textF (T.kids.getD 0 .nil)))))
    (h1 : Pure P 41 [.d (.tree (T.kids.getD 1 .nil))] (.d (.str (textF (T.kids.getD 1 .nil))))) (b0 : (textF (T.kids.getD 0 .nil)).size ≤ 4398046511104) (b1 : (textF (T.kids.getD 1 .nil)).size ≤ 4398046511104)
    (sep : ByteArray) (hs : sep.size ≤ 1000) : Fun P 46 [.d (.str sep), .ref 0 0] [(0, .cells [.d (.tree T)])] 1 (.d (.str ((textF (T.kids.getD 0 .nil) ++ sep) ++ textF (T.kids.getD 1 .nil)))) [(0, .cells [.d (.tree T)])] 1 := by
  have ha : (textF (T.kids.getD 0 .nil) ++ sep).size = (textF (T.kids.getD 0 .nil)).size + sep.size := ByteArray.size_append
  refine Fun.of_body tt [] [3] Try.func46 rfl rfl rfl (Nat.le_of_ble_eq_true rfl) fun g => ?_
  repeat' ((first
    | refine then_go hm htt ?_
    | refine Side.go ?_
    | refine Hyp.go fun hlen => ?_
    | refine Split.ct ?_
    | refine Split.cf ?_
    | refine Split.tt ?_
    | refine Split.ff ?_
    | refine Indep.go ?_
    | refine CallG.gp h0 ?_
    | refine CallG.gp h1 ?_
    | refine Side.mk (show (textF (T.kids.getD 0 .nil)).size + sep.size ≤ 9223372036854775807 from by omega) ?_
    | refine Side.mk (show (textF (T.kids.getD 0 .nil) ++ sep).size + (textF (T.kids.getD 1 .nil)).size ≤ 9223372036854775807 from by omega) ?_
    | refine Split.go (fun hc => ?_) fun hc => ?_) <;> conv => whnf)
  exact ret_objs rfl rfl (str_eq rfl) ⟨rfl, trivial⟩ (Nat.le_refl _)

theorem cs : cStar.size = 1 ∧ cArrow.size = 4 ∧ cPar.size = 2 ∧ cEnd.size = 2 ∧ cBlank.size = 1 ∧ cAll.size = 6 ∧ cEx.size = 5 ∧ cFn.size = 5 ∧ cDot.size = 3 ∧ cInt.size = 3 ∧ cBool.size = 4 ∧ cUnit.size = 4 ∧ cDollar.size = 1 ∧ cMu.size = 3 ∧ cOpen.size = 2 ∧ cClose.size = 2 ∧ cEmpty.size = 3 ∧ cOf.size = 4 ∧ cEq.size = 3 ∧ cBar.size = 3 ∧ cComma.size = 3 ∧ ByteArray.empty.size = 0 := ⟨rfl, rfl, rfl, rfl, rfl, rfl, rfl, rfl, rfl, rfl, rfl, rfl, rfl, rfl, rfl, rfl, rfl, rfl, rfl, rfl, rfl, rfl⟩

theorem take_map_step {α : Type} (f : Tree → α) {l : List Tree} {i : Nat} (h : i < l.length) : (l.take i).map f ++ [f (l.getD i .nil)] = (l.take (i + 1)).map f := by
  rw [← take_step h]; simp

def ShowP (T : Tree) : Prop := Sh T → sizeN T ≤ 65536 → Pure P 41 [.d (.tree T)] (.d (.str (textF T)))

set_option maxHeartbeats 4000000 in
set_option maxRecDepth 10000 in
theorem show_two (T : Tree) (hT : T ≠ .nil) (hn : ShN T) (hz : sizeN T ≤ 65536) (ih : ∀ x ∈ T.kids, ShowP x) (h115 : T.kind ≠ 115) (h121 : T.kind ≠ 121) : Pure P 41 [.d (.tree T)] (.d (.str (textF T))) := by
  have hks := hn.ks
  have hzz := sizeN_kids hT
  obtain ⟨e1, e2, e3, e4, e5, e6, e7, e8, e9, e10, e11, e12, e13, e14, e15, e16, e17, e18, e19, e20, e21, e22⟩ := cs
  have hte := textF_eq hT
  by_cases hk2 : T.kind = 101 ∨ T.kind = 114 ∨ T.kind = 117 ∨ T.kind = 118 ∨ T.kind = 119 ∨ T.kind = 120
  · obtain ⟨hl, s0, s1⟩ := hn.two hk2
    have hs2 := sizesN_two hl
    have t0 := text_size _ s0
    have t1 := text_size _ s1
    have p0 := ih _ (getD_mem (by omega : 0 < T.kids.length)) s0 (by omega)
    have p1 := ih _ (getD_mem (by omega : 1 < T.kids.length)) s1 (by omega)
    have hcl : ∀ sep : ByteArray, sep.size ≤ 1000 → Fun P 46 [.d (.str sep), .ref 0 0] [(0, .cells [.d (.tree T)])] 1 (.d (.str ((textF (T.kids.getD 0 .nil) ++ sep) ++ textF (T.kids.getD 1 .nil)))) [(0, .cells [.d (.tree T)])] 1 :=
      fun sep hs => show1_ok T hT hl p0 p1 (by omega) (by omega) sep hs
    have hsz : ∀ sep : ByteArray, sep.size ≤ 1000 → ((textF (T.kids.getD 0 .nil) ++ sep) ++ textF (T.kids.getD 1 .nil)).size ≤ 4398046511104 := by
      intro sep hs; simp only [ByteArray.size_append]; omega
    have hsum : ∀ a b c : ByteArray, a.size ≤ 1000 → b.size ≤ 4398046511104 → c.size ≤ 1000 → a.size + b.size ≤ 9223372036854775807 ∧ (a ++ b).size + c.size ≤ 9223372036854775807 := by
      intro a b c h1 h2 h3; simp only [ByteArray.size_append]; omega
    clear t0 t1 hs2 hzz p0 p1 ih
    refine Pure.of_body tt [] [2] Try.func41 rfl rfl rfl (Nat.le_of_ble_eq_true rfl) fun g => ?_
    repeat' ((first
      | refine then_go hm htt ?_
      | refine Side.go ?_
      | refine Hyp.go fun hlen => ?_
      | refine Split.ct ?_
      | refine Split.cf ?_
      | refine Split.tt ?_
      | refine Split.ff ?_
      | refine Indep.go ?_
      | refine CallG.go (hcl cArrow (by decide)) [0] ?_
      | refine CallG.go (hcl cBlank (by decide)) [0] ?_
      | refine CallG.go (hcl cDot (by decide)) [0] ?_
      | refine Side.mk (hsum _ _ cEnd (by decide) (hsz _ (by decide)) (by decide)).1 ?_
      | refine Side.mk (hsum _ _ _ (by decide) (hsz _ (by decide)) (by decide)).2 ?_
      | refine Split.go (fun hc => ?_) fun hc => ?_) <;> conv => whnf)
    all_goals
      refine ret_closed rfl (str_eq ?_) rfl
      rw [hte]
      repeat first | rw [if_pos (by omega)] | rw [if_neg (by omega)]
      rfl
  · have hnum : T.kind = 110 → Pure P 37 [.d (.int .i64 T.n)] (.d (.str (numF T.n))) := fun hk => number_ok T.n (by have := hn.num hk; omega) (by have := hn.num hk; omega)
    have hnsz : T.kind = 110 → cDollar.size + (numF T.n).size ≤ 9223372036854775807 := fun hk => by
      have := numF_size2 (hn.num hk).1 (hn.num hk).2
      omega
    clear hzz ih
    refine Pure.of_body tt [] [2] Try.func41 rfl rfl rfl (Nat.le_of_ble_eq_true rfl) fun g => ?_
    repeat' ((first
      | refine then_go hm htt ?_
      | refine Side.go ?_
      | refine Hyp.go fun hlen => ?_
      | refine Split.ct ?_
      | refine Split.cf ?_
      | refine Split.tt ?_
      | refine Split.ff ?_
      | refine Indep.go ?_
      | refine CallG.gp (hnum (by omega)) ?_
      | refine Side.mk (hnsz (by omega)) ?_
      | refine Split.go (fun hc => ?_) fun hc => ?_) <;> conv => whnf)
    all_goals
      refine ret_closed rfl (str_eq ?_) rfl
      rw [hte]
      repeat first | rw [if_pos (by omega)] | rw [if_neg (by omega)]
      rfl
end Go.Proofs.Ytohekjkpbfhiiaa

namespace Go.Proofs.Ytohekjkpbfhiiaa
open Go Go.Mq
set_option linter.all false

theorem len_sizes : ∀ {l : List Tree}, (∀ x ∈ l, ShF x) → l.length ≤ sizesN l
  | [], _ => by simp
  | x :: l, h => by
    have h1 := len_sizes (l := l) (fun y hy => h y (by simp [hy]))
    have hx := h x (by simp)
    have h2 := sizeN_kids hx.ne
    rw [sizesN, List.length_cons]
    omega

set_option maxHeartbeats 4000000 in
set_option maxRecDepth 10000 in
theorem show_115 (T : Tree) (hT : T ≠ .nil) (hn : ShN T) (hz : sizeN T ≤ 65536) (ih : ∀ x ∈ T.kids, ∀ y ∈ x.kids, ShowP y) (hk : T.kind = 115) : Pure P 41 [.d (.tree T)] (.d (.str (textF T))) := by
  have hzz := sizeN_kids hT
  have hf := hn.fld (by omega)
  obtain ⟨e1, e2, e3, e4, e5, e6, e7, e8, e9, e10, e11, e12, e13, e14, e15, e16, e17, e18, e19, e20, e21, e22⟩ := cs
  have hte := textF_eq hT
  have hkl : T.kids.length ≤ 65536 := by have := len_sizes hf; omega
  have hkid : ∀ p, p < T.kids.length → ShF (T.kids.getD p .nil) ∧ Pure P 41 [.d (.tree ((T.kids.getD p .nil).kids.getD 0 .nil))] (.d (.str (textF ((T.kids.getD p .nil).kids.getD 0 .nil)))) ∧ (textF ((T.kids.getD p .nil).kids.getD 0 .nil)).size ≤ 400 * 65536 := by
    intro p hp
    have hm := getD_mem hp
    have hx := hf _ hm
    have h1 := sizesN_mem hm
    have h2 : sizeN (T.kids.getD p .nil) = 1 + sizeN ((T.kids.getD p .nil).kids.getD 0 .nil) := by rw [sizeN_kids hx.ne, sizesN_one hx.len]
    have h3 := text_size _ hx.kid
    exact ⟨hx, ih _ hm _ (getD_mem (by rw [hx.len]; omega)) hx.kid (by omega), by omega⟩
  have hitems := items_size cEq (by omega) T.kids hf (fun x hx => text_size _ (hf x hx).kid)
  have hjs := joinF_sum (T.kids.map (itemF cEq)) cComma
  rw [List.length_map] at hjs
  refine Pure.of_body tt [] [2] Try.func41 rfl rfl rfl (Nat.le_of_ble_eq_true rfl) fun g => ?_
  repeat' ((first
    | refine then_go hm htt ?_
    | refine Side.go ?_
    | refine Hyp.go fun hlen => ?_
    | refine Split.ct ?_
    | refine Split.cf ?_
    | refine Split.tt ?_
    | refine Split.ff ?_
    | refine Indep.go ?_
    | refine Split.go (fun hc => ?_) fun hc => ?_) <;> conv => whnf)
  refine loop_go (α := Nat × List ByteArray) (fun p => ⟨[(4, .d (.str cComma)), (5, .d (.str cEq)), (6, .d (.str ByteArray.empty)), (7, .row 1 p.1), (70, .d (.trees T.kids)), (71, .d (.int .i64 T.kids.length)), (72, .d (.int .i64 p.1))], 104, [(0, .cells [.d (.tree T)]), (1, .row 9 (.strs p.2))], 2, g⟩)
        (fun p => p.1 ≤ T.kids.length ∧ p.2.length = p.1 ∧ p.2 = (T.kids.take p.1).map (itemF cEq)) (fun p => T.kids.length - p.1) (0, []) ⟨by simp, rfl, by simp⟩
        (Ent.nil rfl rfl rfl (by repeat' first | exact trivial | apply And.intro | rfl | (refine int_eq ?_; rw [wrap64] <;> omega)) (by repeat' first | exact trivial | apply And.intro | rfl | (refine int_eq ?_; rw [wrap64] <;> omega))) (fun _ => rfl) fun p hpre => ?_
  obtain ⟨p, out⟩ := p
  obtain ⟨hp1, hp2, hp3⟩ := hpre
  simp only [] at hp1 hp2 hp3
  by_cases hlt : p < T.kids.length
  · obtain ⟨hx, hsh, hsz⟩ := hkid p hlt
    have hnm := hx.name
    have hxl := hx.len
    have hns : ((T.kids.getD p .nil).name ++ cEq).size = (T.kids.getD p .nil).name.size + (cEq).size := ByteArray.size_append
    have hie := itemF_eq hx.ne cEq
    repeat' ((first
      | refine then_go hm htt ?_
      | refine Side.go ?_
      | refine Hyp.go fun hlen => ?_
      | refine Split.ct ?_
      | refine Split.cf ?_
      | refine Split.tt ?_
      | refine Split.ff ?_
      | refine Indep.go ?_
      | refine Side.mk (show (0 : Int) ≤ (p : Int) ∧ (p : Int) < (T.kids.length : Int) from ⟨by omega, by omega⟩) ?_
      | refine Side.mk hx.ne ?_
      | refine Side.mk (show (0 : Int) ≤ 0 ∧ (0 : Int) < ((T.kids.getD p .nil).kids.length : Int) from ⟨by omega, by omega⟩) ?_
      | refine Side.mk (show (T.kids.getD p .nil).name.size + (cEq).size ≤ 9223372036854775807 from by omega) ?_
      | refine CallG.gp hsh ?_
      | refine Side.mk (show ((T.kids.getD p .nil).name ++ cEq).size + (textF ((T.kids.getD p .nil).kids.getD 0 .nil)).size ≤ 9223372036854775807 from by omega) ?_
      | refine Side.mk (show (p + 1 ≤ 17592186044416 ∧ (p + 1) * 16 ≤ 140737488355328) from ⟨by omega, by omega⟩) ?_
      | refine Split.go (fun hc => ?_) fun hc => ?_) <;> conv => whnf)
    exact ⟨(p + 1, out ++ [((T.kids.getD p .nil).name ++ cEq) ++ textF ((T.kids.getD p .nil).kids.getD 0 .nil)]), ⟨by simp only []; omega, by simp [hp2], by simp only []; rw [← hie, hp3, take_map_step _ hlt]⟩, by simp only []; omega, Ent.go [0, 3]⟩
  · have hpe : p = T.kids.length := by omega
    rw [hpe, List.take_length] at hp3
    subst hp3
    have hjo := joinF_size (T.kids.map (itemF cEq)) cComma
    have hjc : Fun P 39 [.row 0 p, .d (.str cComma)] [(0, .row 9 (.strs (T.kids.map (itemF cEq))))] 1 (.d (.str (joinF (T.kids.map (itemF cEq)) cComma))) [(0, .row 9 (.strs (T.kids.map (itemF cEq))))] 1 := by
      have := join_ok 9 (T.kids.map (itemF cEq)) cComma (by rw [← hjo]; have : T.kids.length * (cComma).size ≤ 65536 * 3 := Nat.mul_le_mul hkl (by omega); omega)
      rw [List.length_map, ← hpe] at this
      exact this
    have hjz : (joinF (T.kids.map (itemF cEq)) cComma).size ≤ 1099511627776 := by
      have : T.kids.length * (cComma).size ≤ 65536 * 3 := Nat.mul_le_mul hkl (by omega)
      omega
    have hho : (ByteArray.empty ++ cOpen).size = (ByteArray.empty).size + cOpen.size := ByteArray.size_append
    have hhj : ((ByteArray.empty ++ cOpen) ++ joinF (T.kids.map (itemF cEq)) cComma).size = (ByteArray.empty ++ cOpen).size + (joinF (T.kids.map (itemF cEq)) cComma).size := ByteArray.size_append
    repeat' ((first
      | refine then_go hm htt ?_
      | refine Side.go ?_
      | refine Hyp.go fun hlen => ?_
      | refine Split.ct ?_
      | refine Split.cf ?_
      | refine Split.tt ?_
      | refine Split.ff ?_
      | refine Indep.go ?_
      | refine Side.mk (show (ByteArray.empty).size + cOpen.size ≤ 9223372036854775807 from by omega) ?_
      | refine CallG.go hjc [1] ?_
      | refine Side.mk (show (ByteArray.empty ++ cOpen).size + (joinF (T.kids.map (itemF cEq)) cComma).size ≤ 9223372036854775807 from by omega) ?_
      | refine Side.mk (show ((ByteArray.empty ++ cOpen) ++ joinF (T.kids.map (itemF cEq)) cComma).size + cClose.size ≤ 9223372036854775807 from by omega) ?_
      | refine Split.go (fun hc => ?_) fun hc => ?_) <;> conv => whnf)
    all_goals first
      | (exfalso; have := hn.sum (by omega); omega)
      | (refine ret_closed rfl (str_eq ?_) rfl; rw [hte]; (repeat first | rw [if_pos (by omega)] | rw [if_neg (by omega)]); rfl)

set_option maxHeartbeats 4000000 in
set_option maxRecDepth 10000 in
theorem show_121 (T : Tree) (hT : T ≠ .nil) (hn : ShN T) (hz : sizeN T ≤ 65536) (ih : ∀ x ∈ T.kids, ∀ y ∈ x.kids, ShowP y) (hk : T.kind = 121) : Pure P 41 [.d (.tree T)] (.d (.str (textF T))) := by
  have hzz := sizeN_kids hT
  have hf := hn.fld (by omega)
  obtain ⟨e1, e2, e3, e4, e5, e6, e7, e8, e9, e10, e11, e12, e13, e14, e15, e16, e17, e18, e19, e20, e21, e22⟩ := cs
  have hte := textF_eq hT
  have hkl : T.kids.length ≤ 65536 := by have := len_sizes hf; omega
  have hkid : ∀ p, p < T.kids.length → ShF (T.kids.getD p .nil) ∧ Pure P 41 [.d (.tree ((T.kids.getD p .nil).kids.getD 0 .nil))] (.d (.str (textF ((T.kids.getD p .nil).kids.getD 0 .nil)))) ∧ (textF ((T.kids.getD p .nil).kids.getD 0 .nil)).size ≤ 400 * 65536 := by
    intro p hp
    have hm := getD_mem hp
    have hx := hf _ hm
    have h1 := sizesN_mem hm
    have h2 : sizeN (T.kids.getD p .nil) = 1 + sizeN ((T.kids.getD p .nil).kids.getD 0 .nil) := by rw [sizeN_kids hx.ne, sizesN_one hx.len]
    have h3 := text_size _ hx.kid
    exact ⟨hx, ih _ hm _ (getD_mem (by rw [hx.len]; omega)) hx.kid (by omega), by omega⟩
  have hitems := items_size cOf (by omega) T.kids hf (fun x hx => text_size _ (hf x hx).kid)
  have hjs := joinF_sum (T.kids.map (itemF cOf)) cBar
  rw [List.length_map] at hjs
  refine Pure.of_body tt [] [2] Try.func41 rfl rfl rfl (Nat.le_of_ble_eq_true rfl) fun g => ?_
  repeat' ((first
    | refine then_go hm htt ?_
    | refine Side.go ?_
    | refine Hyp.go fun hlen => ?_
    | refine Split.ct ?_
    | refine Split.cf ?_
    | refine Split.tt ?_
    | refine Split.ff ?_
    | refine Indep.go ?_
    | refine Split.go (fun hc => ?_) fun hc => ?_) <;> conv => whnf)
  refine loop_go (α := Nat × List ByteArray) (fun p => ⟨[(4, .d (.str cBar)), (5, .d (.str cOf)), (6, .d (.str cMu)), (7, .row 1 p.1), (70, .d (.trees T.kids)), (71, .d (.int .i64 T.kids.length)), (72, .d (.int .i64 p.1))], 104, [(0, .cells [.d (.tree T)]), (1, .row 9 (.strs p.2))], 2, g⟩)
        (fun p => p.1 ≤ T.kids.length ∧ p.2.length = p.1 ∧ p.2 = (T.kids.take p.1).map (itemF cOf)) (fun p => T.kids.length - p.1) (0, []) ⟨by simp, rfl, by simp⟩
        (Ent.nil rfl rfl rfl (by repeat' first | exact trivial | apply And.intro | rfl | (refine int_eq ?_; rw [wrap64] <;> omega)) (by repeat' first | exact trivial | apply And.intro | rfl | (refine int_eq ?_; rw [wrap64] <;> omega))) (fun _ => rfl) fun p hpre => ?_
  obtain ⟨p, out⟩ := p
  obtain ⟨hp1, hp2, hp3⟩ := hpre
  simp only [] at hp1 hp2 hp3
  by_cases hlt : p < T.kids.length
  · obtain ⟨hx, hsh, hsz⟩ := hkid p hlt
    have hnm := hx.name
    have hxl := hx.len
    have hns : ((T.kids.getD p .nil).name ++ cOf).size = (T.kids.getD p .nil).name.size + (cOf).size := ByteArray.size_append
    have hie := itemF_eq hx.ne cOf
    repeat' ((first
      | refine then_go hm htt ?_
      | refine Side.go ?_
      | refine Hyp.go fun hlen => ?_
      | refine Split.ct ?_
      | refine Split.cf ?_
      | refine Split.tt ?_
      | refine Split.ff ?_
      | refine Indep.go ?_
      | refine Side.mk (show (0 : Int) ≤ (p : Int) ∧ (p : Int) < (T.kids.length : Int) from ⟨by omega, by omega⟩) ?_
      | refine Side.mk hx.ne ?_
      | refine Side.mk (show (0 : Int) ≤ 0 ∧ (0 : Int) < ((T.kids.getD p .nil).kids.length : Int) from ⟨by omega, by omega⟩) ?_
      | refine Side.mk (show (T.kids.getD p .nil).name.size + (cOf).size ≤ 9223372036854775807 from by omega) ?_
      | refine CallG.gp hsh ?_
      | refine Side.mk (show ((T.kids.getD p .nil).name ++ cOf).size + (textF ((T.kids.getD p .nil).kids.getD 0 .nil)).size ≤ 9223372036854775807 from by omega) ?_
      | refine Side.mk (show (p + 1 ≤ 17592186044416 ∧ (p + 1) * 16 ≤ 140737488355328) from ⟨by omega, by omega⟩) ?_
      | refine Split.go (fun hc => ?_) fun hc => ?_) <;> conv => whnf)
    exact ⟨(p + 1, out ++ [((T.kids.getD p .nil).name ++ cOf) ++ textF ((T.kids.getD p .nil).kids.getD 0 .nil)]), ⟨by simp only []; omega, by simp [hp2], by simp only []; rw [← hie, hp3, take_map_step _ hlt]⟩, by simp only []; omega, Ent.go [0, 3]⟩
  · have hpe : p = T.kids.length := by omega
    rw [hpe, List.take_length] at hp3
    subst hp3
    have hjo := joinF_size (T.kids.map (itemF cOf)) cBar
    have hjc : Fun P 39 [.row 0 p, .d (.str cBar)] [(0, .row 9 (.strs (T.kids.map (itemF cOf))))] 1 (.d (.str (joinF (T.kids.map (itemF cOf)) cBar))) [(0, .row 9 (.strs (T.kids.map (itemF cOf))))] 1 := by
      have := join_ok 9 (T.kids.map (itemF cOf)) cBar (by rw [← hjo]; have : T.kids.length * (cBar).size ≤ 65536 * 3 := Nat.mul_le_mul hkl (by omega); omega)
      rw [List.length_map, ← hpe] at this
      exact this
    have hjz : (joinF (T.kids.map (itemF cOf)) cBar).size ≤ 1099511627776 := by
      have : T.kids.length * (cBar).size ≤ 65536 * 3 := Nat.mul_le_mul hkl (by omega)
      omega
    have hho : (cMu ++ cOpen).size = (cMu).size + cOpen.size := ByteArray.size_append
    have hhj : ((cMu ++ cOpen) ++ joinF (T.kids.map (itemF cOf)) cBar).size = (cMu ++ cOpen).size + (joinF (T.kids.map (itemF cOf)) cBar).size := ByteArray.size_append
    repeat' ((first
      | refine then_go hm htt ?_
      | refine Side.go ?_
      | refine Hyp.go fun hlen => ?_
      | refine Split.ct ?_
      | refine Split.cf ?_
      | refine Split.tt ?_
      | refine Split.ff ?_
      | refine Indep.go ?_
      | refine Side.mk (show (cMu).size + cOpen.size ≤ 9223372036854775807 from by omega) ?_
      | refine CallG.go hjc [1] ?_
      | refine Side.mk (show (cMu ++ cOpen).size + (joinF (T.kids.map (itemF cOf)) cBar).size ≤ 9223372036854775807 from by omega) ?_
      | refine Side.mk (show ((cMu ++ cOpen) ++ joinF (T.kids.map (itemF cOf)) cBar).size + cClose.size ≤ 9223372036854775807 from by omega) ?_
      | refine Split.go (fun hc => ?_) fun hc => ?_) <;> conv => whnf)
    all_goals first
      | (exfalso; have := hn.sum (by omega); omega)
      | (refine ret_closed rfl (str_eq ?_) rfl; rw [hte]; (repeat first | rw [if_pos (by omega)] | rw [if_neg (by omega)]); rfl)

theorem show_ok (T : Tree) : ShowP T := by
  suffices h : ShowP T ∧ (∀ x ∈ T.kids, ShowP x) from h.1
  induction T using Tree.ind' with
  | h0 => exact ⟨fun h => absurd rfl h.n.ne, fun x hx => by cases hx⟩
  | h1 T hT ih =>
    refine ⟨fun h hz => ?_, fun x hx => (ih x hx).1⟩
    by_cases h115 : T.kind = 115
    · exact show_115 T hT h.n hz (fun x hx => (ih x hx).2) h115
    · by_cases h121 : T.kind = 121
      · exact show_121 T hT h.n hz (fun x hx => (ih x hx).2) h121
      · exact show_two T hT h.n hz (fun x hx => (ih x hx).1) h115 h121

/-! Show -/
theorem kindE_full {T : Tree} (h : kindE T = 0) : Full T ∧ isKindF T = true := by
  unfold kindE checkF at h
  split at h
  · refine ⟨wholeF_full T _ ‹_›, ?_⟩
    cases hc : isKindF T
    · rw [hc] at h; simp at h
    · rfl
  · exact absurd h ‹_›
theorem kindE_size {T : Tree} (h : kindE T = 0) : sizeN T ≤ 65536 := by
  unfold kindE checkF at h
  split at h
  · have := (wholeF_size T 65536 (by omega) ‹_›).2; omega
  · exact absurd h ‹_›
def showR (T : Tree) : ByteArray := if conE T ≠ 0 ∧ kindE T ≠ 0 then ByteArray.empty else textF T
theorem showR_sh {T : Tree} (h : ¬ (conE T ≠ 0 ∧ kindE T ≠ 0)) : Sh T ∧ sizeN T ≤ 65536 := by
  by_cases hc : conE T = 0
  · exact ⟨.inl (conE_full hc).2, conE_size hc⟩
  · have hk : kindE T = 0 := by omega
    exact ⟨.inr (kindE_full hk).2, kindE_size hk⟩
set_option maxRecDepth 10000 in
theorem Show_ok (T : Tree) : Pure P 36 [.d (.tree T)] (.d (.str (showR T))) := by
  refine Pure.of_body tt [] [2] Try.func36 rfl rfl rfl (Nat.le_of_ble_eq_true rfl) fun g => ?_
  by_cases h : conE T ≠ 0 ∧ kindE T ≠ 0
  · repeat' ((first
      | refine then_go hm htt ?_
      | refine Side.go ?_
      | refine Hyp.go fun hlen => ?_
      | refine Split.ct ?_
      | refine Split.cf ?_
      | refine Split.tt ?_
      | refine Split.ff ?_
      | refine Indep.go ?_
      | refine CallG.gp (check_ok T) ?_
      | refine CallG.gp (kind_ok T) ?_
      | refine Split.go (fun hc => ?_) fun hc => ?_) <;> conv => whnf)
    exact ret_closed rfl (str_eq (by rw [showR, if_pos h]; rfl)) rfl
  · have hs := showR_sh h
    have hp := show_ok T hs.1 hs.2
    repeat' ((first
      | refine then_go hm htt ?_
      | refine Side.go ?_
      | refine Hyp.go fun hlen => ?_
      | refine Split.ct ?_
      | refine Split.cf ?_
      | refine Split.tt ?_
      | refine Split.ff ?_
      | refine Indep.go ?_
      | refine CallG.gp (check_ok T) ?_
      | refine CallG.gp (kind_ok T) ?_
      | refine CallG.gp hp ?_
      | refine Split.go (fun hc => ?_) fun hc => ?_) <;> conv => whnf)
    all_goals exact ret_closed rfl (str_eq (by rw [showR, if_neg h])) rfl
end Go.Proofs.Ytohekjkpbfhiiaa

namespace Go.Proofs.Ytohekjkpbfhiiaa
open Go Go.Mq
set_option linter.all false

theorem cs2 : cBrace.size = 1 ∧ cBar1.size = 2 ∧ cComma1.size = 2 := ⟨rfl, rfl, rfl⟩
theorem brace_open : cBrace ++ cBlank = cOpen := by kernel_rfl
theorem sep_115 : cComma1 ++ cBlank = cComma := by kernel_rfl
theorem sep_121 : cBar1 ++ cBlank = cBar := by kernel_rfl
theorem sizesN_take : ∀ (l : List Tree) (p : Nat), sizesN (l.take p) ≤ sizesN l
  | [], p => by simp [sizesN]
  | x :: l, 0 => by simp [sizesN]
  | x :: l, p + 1 => by
    rw [List.take_succ_cons, sizesN, sizesN]
    have := sizesN_take l p
    omega
theorem getD_get {l : List Tree} {i : Nat} (h : i < l.length) : l.getD i .nil = l[i] := by
  rw [List.getD_eq_getElem?_getD, List.getElem?_eq_getElem h]; rfl

theorem take_ne_nil {α : Type} (f : Tree → α) {l : List Tree} {p : Nat} (hp : p ≠ 0) (h : p < l.length) : (l.take p).map f ≠ [] := by
  intro e
  have := congrArg List.length e
  rw [List.length_map, List.length_take, List.length_nil] at this
  omega
theorem take_one_map {α : Type} (f : Tree → α) {l : List Tree} {p : Nat} (hp : p = 0) (h : p < l.length) : (l.take (p + 1)).map f = [f (l.getD p .nil)] := by
  subst hp
  rw [← take_map_step f h]; rfl

end Go.Proofs.Ytohekjkpbfhiiaa

namespace Go.Proofs.Ytohekjkpbfhiiaa
open Go Go.Mq
set_option linter.all false

/-! The chapter's example -/
def varT (n : Int) : Tree := .node 110 n ByteArray.empty ByteArray.empty []
def wN : Tree := .node 114 0 ByteArray.empty ByteArray.empty [varT 0, varT 1]
def wI : Tree := .node 111 0 ByteArray.empty ByteArray.empty []
def wM : Tree := .node 114 0 ByteArray.empty ByteArray.empty [wI, varT 0]
def wS1 : ByteArray := ⟨#[40, 32, 36, 48, 32, 45, 62, 32, 36, 49, 32, 41]⟩
def wS2 : ByteArray := ⟨#[40, 32, 105, 110, 116, 32, 45, 62, 32, 36, 48, 32, 41]⟩
theorem w_subst : substR wN 0 wI = (wM, 0) := by kernel_rfl
theorem w_show1 : showR wN = wS1 := by kernel_rfl
theorem w_show2 : showR wM = wS2 := by kernel_rfl

end Go.Proofs.Ytohekjkpbfhiiaa

namespace Go.Proofs.Ytohekjkpbfhiiaa
open Go Go.Mq Go.ChangeShapes Go.WideShapes Go.Deep Go.RowKit Go.ChangeAt
set_option linter.all false

/-! The arguments are opened -/
theorem imm_cell {W : World} {b o : Nat} {v : Value} (h : W.cell? ⟨b, o, none⟩ = some v) : (immOf W).cell b o = some v := by
  unfold World.cell? at h
  split at h
  · rename_i c T fz hb
    unfold Imm.cell immOf
    rw [hb]
    simpa using h
  · cases h
theorem imm_cell' {W : World} {a : Addr} {k : Nat} {v : Value} (hs : a.spot = none) (h : W.cell? (a.add k) = some v) : (immOf W).cell a.block (a.off + k) = some v := by
  obtain ⟨b, o, s⟩ := a
  simp only at hs
  subst hs
  rw [add_addr] at h
  exact imm_cell h
theorem add_spot (a : Addr) (h : (a.add 0).spot = none) : a.spot = none := by
  simpa [Addr.add] using h

section
variable {H : Type} {enc : TypeId × Value → H} {P : Program} {w : World} {base : Nat} {spare : Nat → Bool} {held : Bool}
theorem open_slice_fields {t e : TypeId} {fs : Array Field} {fuel : Nat} {cs : List Value} {x : DataW H × List MemPlace} (ht : P.underlying t = some (.slice e)) (he : P.underlying e = some (.struct fs))
    (hone : oneCellFields P fs = true) (hC : P.cellsOf e = fs.size) (h : DataW.trod enc P w base spare held fuel t cs = some x) :
    (cs = [.slice none 0 0] ∧ x = (.nil, [])) ∨
    ∃ (a : Addr) (len cap m : Nat) (D : Nat → DataW H) (Pl : Nat → List MemPlace), cs = [.slice (some a) len cap] ∧ base ≤ a.block ∧ len ≤ cap ∧ cap ≤ maxLen ∧ m = (if spare a.block then cap else len) ∧
      x = (.slice ((List.range len).map D) ((List.range (m - len)).map fun j => D (len + j)), MemPlace.row a (m * fs.size) ++ (List.range m).flatMap Pl) ∧
      ∀ i, i < m → ∃ (ys : List (DataW H × List MemPlace)) (n : Nat), D i = .agg (ys.map (·.1)) ∧ Pl i = ys.flatMap (·.2) ∧ ys.length = fs.size ∧
        ∀ (j : Nat) (f : Field), fs[j]? = some f → ∃ (v : Value) (y : DataW H × List MemPlace), w.cell? (a.add (i * fs.size + j)) = some v ∧ ys[j]? = some y ∧ DataW.trod enc P w base spare held n f.type [v] = some y := by
  rcases open_slice ht h with h0 | ⟨a, len, cap, m, n, D, Pl, hcs, hb, hl, hm, hmm, hx, hi⟩
  · exact .inl h0
  · refine .inr ⟨a, len, cap, m, D, Pl, hcs, hb, hl, hm, hmm, by rw [hC] at hx; exact hx, fun i him => ?_⟩
    obtain ⟨cs', hc, ht'⟩ := hi i him
    rw [hC] at hc
    obtain ⟨ys, n', hn', hy, hlen, hyl, hf⟩ := DataW.trod_struct he ht'
    obtain ⟨_, hcl, hat⟩ := World.cells?_some hc
    simp only [Prod.mk.injEq] at hy
    refine ⟨ys, n', hy.1, hy.2, hyl, fun j f hj => ?_⟩
    obtain ⟨ho, hk⟩ := hone_of hone j f hj
    have hjl : j < fs.size := (Array.getElem?_eq_some_iff.1 hj).1
    have hcell := hat j hjl
    have hv : cs'[j]? = some (cs'[j]'(by omega)) := List.getElem?_eq_getElem (by omega)
    have h1 := hf j f hj
    rw [ho, hk] at h1
    have hone' : (cs'.drop j).take 1 = [cs'[j]'(by omega)] := by
      rw [List.drop_eq_getElem_cons (by omega)]
      rfl
    rw [hone'] at h1
    have hys : ys[j]? = some (ys[j]'(by omega)) := List.getElem?_eq_getElem (by omega)
    refine ⟨_, _, ?_, hys, h1.trans hys⟩
    rw [← Go.Deep.add_add, hcell, hv]
end

theorem mem_weightsAll {H : Type} {Q : Program} {e : TypeId} : ∀ {l : List (DataW H)} {d : DataW H} {n : Nat}, d ∈ l → n ∈ d.weights Q e → n ∈ DataW.weightsAll Q e l
  | [], _, _, h, _ => by cases h
  | x :: l, d, n, h, hn => by
    simp only [DataW.weightsAll, List.mem_append]
    rcases List.mem_cons.1 h with rfl | h
    · exact .inl hn
    · exact .inr (mem_weightsAll h hn)

theorem cells60 : P.cellsOf 40 = 5 := by kernel_rfl
theorem cells3 : P.cellsOf 3 = 1 := by kernel_rfl

theorem open_cel {H : Type} {enc : TypeId × Value → H} {W : World} {n4 n0 n1 n2 n3 : Nat} {v0 v1 v2 v3 v4 : Value} {y0 y1 y2 y3 y4 : DataW H × List MemPlace}
    (h0 : DataW.trod enc P W 0 (fun _ => true) true n0 3 [v0] = some y0) (h1 : DataW.trod enc P W 0 (fun _ => true) true n1 3 [v1] = some y1)
    (h2 : DataW.trod enc P W 0 (fun _ => true) true n2 9 [v2] = some y2) (h3 : DataW.trod enc P W 0 (fun _ => true) true n3 9 [v3] = some y3)
    (h4 : DataW.trod enc P W 0 (fun _ => true) true n4 32 [v4] = some y4) (hz : ∀ n ∈ y4.1.weights P 32, n ≤ reachBytes) :
    ∃ c : Cel, Cd (immOf W) (cellD c 0) v0 ∧ Cd (immOf W) (cellD c 1) v1 ∧ Cd (immOf W) (cellD c 2) v2 ∧ Cd (immOf W) (cellD c 3) v3 ∧ Cd (immOf W) (cellD c 4) v4 := by
  obtain ⟨k, e0, _, _⟩ := DataW.trod_int Try.underlying3 h0
  obtain ⟨n, e1, _, _⟩ := DataW.trod_int Try.underlying3 h1
  obtain ⟨s, e2, _, _⟩ := DataW.trod_string Try.underlying9 h2
  obtain ⟨m, e3, _, _⟩ := DataW.trod_string Try.underlying9 h3
  cases e0; cases e1; cases e2; cases e3
  rcases open_ints Try.underlying32 Try.underlying3 cells3 h4 with ⟨e4, _⟩ | ⟨a, len, cap, zs, e4, _, hl, hc, hzl, hy, hcell, _⟩
  · cases e4
    exact ⟨⟨k, n, s, m, []⟩, .int, .int, .str, .str, .slice0⟩
  · cases e4
    simp only [if_true] at hzl
    have hw := hz ((zs.take len).length * P.bytesOf 3 + (zs.drop len).length * P.bytesOf 3) (by
      rw [hy]
      simp [DataW.weights, Try.underlying32, lits, Nat.add_mul])
    have hb8 : P.bytesOf 3 = 8 := by kernel_rfl
    have hr := reachBytes_lt
    rw [hb8, List.length_take] at hw
    have hlm : len ≤ maxN := by unfold maxN; omega
    by_cases hc0 : cap = 0
    · have hl0 : len = 0 := by omega
      subst hc0 hl0
      exact ⟨⟨k, n, s, m, []⟩, .int, .int, .str, .str, .sliceE⟩
    · have hsp : a.spot = none := add_spot a (World.cell?_spot (hcell 0 (by omega)))
      obtain ⟨b, o, sp⟩ := a
      simp only at hsp
      subst hsp
      have hll : (zs.take len).length = len := by rw [List.length_take]; omega
      refine ⟨⟨k, n, s, m, zs.take len⟩, .int, .int, .str, .str, ?_⟩
      have key : Cd (immOf W) (.slice len 1 (fun i _ => .int .i64 ((zs.take len).getD i 0))) (.slice (some ⟨b, o, none⟩) len cap) := by
        refine .slice (cs := fun i _ => .int .i64 ((zs.take len).getD i 0)) hl hlm (fun i j hi hj => ?_) (fun i j hi hj => .int)
        have := imm_cell' rfl (hcell i (by omega))
        have e : o + i * 1 + j = o + i := by omega
        rw [e]
        simp only at this
        rw [this]
        simp [List.getElem?_take, hi]
      show Cd (immOf W) (.slice (zs.take len).length 1 (fun i _ => .int .i64 ((zs.take len).getD i 0))) _
      rw [hll]
      exact key

theorem mem_range_map {α : Type} {D : Nat → α} {n i : Nat} (h : i < n) : D i ∈ (List.range n).map D := List.mem_map.2 ⟨i, List.mem_range.2 h, rfl⟩

theorem open_cells {H : Type} {enc : TypeId × Value → H} {W : World} {fuel : Nat} {v : Value} {y : DataW H × List MemPlace}
    (h : DataW.trod enc P W 0 (fun _ => true) true fuel 22 [v] = some y) (hz : ∀ n ∈ y.1.weights P 22, n ≤ reachBytes) : ∃ l : List Cel, Cd (immOf W) (cellsD l) v := by
  rcases open_slice_fields Try.underlying22 Try.underlying40 (by kernel_rfl) (by kernel_rfl) h with ⟨hc, _⟩ | ⟨a, len, cap, m, D, Pl, hc, _, hl, hm, hmm, hy, hi⟩
  · cases hc
    exact ⟨[], .slice0⟩
  · cases hc
    simp only [if_true] at hmm
    subst hmm
    have hw := hz (((List.range len).map D).length * P.bytesOf 40 + ((List.range (m - len)).map fun j => D (len + j)).length * P.bytesOf 40) (by
      rw [hy]
      simp [DataW.weights, Try.underlying22, Nat.add_mul])
    have hb72 : P.bytesOf 40 = 72 := by kernel_rfl
    have hr := reachBytes_lt
    rw [hb72, List.length_map, List.length_range] at hw
    have hlm : len ≤ maxN := by unfold maxN; omega
    have helem : ∀ i, i < len → ∀ n ∈ (D i).weights P 40, n ≤ reachBytes := by
      intro i hil n hn
      refine hz n ?_
      rw [hy]
      simp only [DataW.weights, Try.underlying22, List.mem_cons, List.mem_append]
      exact .inr (.inl (mem_weightsAll (mem_range_map hil) hn))
    by_cases hc0 : m = 0
    · have hl0 : len = 0 := by omega
      subst hc0 hl0
      exact ⟨[], .sliceE⟩
    · have hsp : a.spot = none := by
        obtain ⟨ys, n, _, _, _, hf⟩ := hi 0 (by omega)
        obtain ⟨v0, _, hv0, _, _⟩ := hf 0 _ rfl
        exact add_spot a (World.cell?_spot hv0)
      have each : ∀ i, i < len → ∃ p : Cel × (Nat → Value), ∀ j, j < 5 → W.cell? (a.add (i * 5 + j)) = some (p.2 j) ∧ Cd (immOf W) (cellD p.1 j) (p.2 j) := by
        intro i hil
        obtain ⟨ys, n, hD, _, hyl, hf⟩ := hi i (by omega)
        obtain ⟨v0, y0, c0, g0, t0⟩ := hf 0 _ rfl
        obtain ⟨v1, y1, c1, g1, t1⟩ := hf 1 _ rfl
        obtain ⟨v2, y2, c2, g2, t2⟩ := hf 2 _ rfl
        obtain ⟨v3, y3, c3, g3, t3⟩ := hf 3 _ rfl
        obtain ⟨v4, y4, c4, g4, t4⟩ := hf 4 _ rfl
        have hz4 : ∀ n ∈ y4.1.weights P 32, n ≤ reachBytes := by
          intro n hn
          refine helem i hil n ?_
          rw [hD]
          simp only [DataW.weights, Try.underlying40]
          exact DataW.weights_mem_each (j := 4) (t := 32) rfl (by rw [List.getElem?_map, g4]; rfl) n hn
        obtain ⟨c, q0, q1, q2, q3, q4⟩ := open_cel t0 t1 t2 t3 t4 hz4
        refine ⟨(c, fun j => if j = 0 then v0 else if j = 1 then v1 else if j = 2 then v2 else if j = 3 then v3 else v4), fun j hj => ?_⟩
        match j, hj with
        | 0, _ => exact ⟨c0, q0⟩
        | 1, _ => exact ⟨c1, q1⟩
        | 2, _ => exact ⟨c2, q2⟩
        | 3, _ => exact ⟨c3, q3⟩
        | 4, _ => exact ⟨c4, q4⟩
      haveI : Inhabited (Cel × (Nat → Value)) := ⟨(default, fun _ => undef)⟩
      obtain ⟨p, hp⟩ := choose_lt each
      obtain ⟨b, o, sp⟩ := a
      simp only at hsp
      subst hsp
      refine ⟨(List.range len).map fun i => (p i).1, ?_⟩
      have hll : ((List.range len).map fun i => (p i).1).length = len := by simp
      have key : Cd (immOf W) (.slice len 5 (fun i j => cellD (((List.range len).map fun i => (p i).1).getD i default) j)) (.slice (some ⟨b, o, none⟩) len m) := by
        refine .slice (cs := fun i j => (p i).2 j) hl hlm (fun i j hil hj => ?_) (fun i j hil hj => ?_)
        · have := imm_cell' rfl (hp i hil j hj).1
          simp only at this
          rw [← this, Nat.add_assoc]
        · have := (hp i hil j hj).2
          have e : ((List.range len).map fun i => (p i).1).getD i default = (p i).1 := by simp [hil]
          rw [e]
          exact this
      show Cd (immOf W) (.slice ((List.range len).map fun i => (p i).1).length 5 _) _
      rw [hll]
      exact key

set_option maxRecDepth 100000 in
theorem open_tree {H : Type} {enc : TypeId × Value → H} {W : World} {base : Nat} {v : Value} {d : DataW H} {p : List MemPlace}
    (hv : Value.okWide P W .any base 24 v) (h : DataW.Trod enc P W 0 (fun _ => true) true 24 v d p) (hz : ∀ n ∈ d.weights P 24, n ≤ reachBytes) :
    ∃ l : List Cel, ∀ ρ : Nat → RB, CA (immOf W) ρ (· < 0) (.agg [.d (cellsD l)]) v := by
  obtain ⟨cs, rfl, hcs⟩ := okWide_struct Try.underlying24 hv
  obtain ⟨fuel, hf⟩ := h
  obtain ⟨xs, n, _, hx, hlen, hxl, hfld⟩ := DataW.trod_struct Try.underlying24 hf
  have h1 : P.cellsOf 24 = 1 := by kernel_rfl
  obtain ⟨cl⟩ := cs
  match cl, hcs.trans h1, xs, hxl with
  | [c0], _, [y0], _ =>
    have h0 : DataW.trod enc P W 0 (fun _ => true) true n 22 (((Value.agg #[c0]).cells.toList.drop 0).take (P.cellsOf 22)) = some y0 := hfld 0 _ rfl
    have h2 : P.cellsOf 22 = 1 := by kernel_rfl
    have h0' : DataW.trod enc P W 0 (fun _ => true) true n 22 [c0] = some y0 := by
      have e : ∀ k, k = 1 → ((Value.agg #[c0]).cells.toList.drop 0).take k = [c0] := fun k hk => by subst hk; rfl
      have h3 := e _ h2
      generalize P.cellsOf 22 = k at h0 h3
      rw [← h3]
      exact h0
    obtain ⟨l, hl⟩ := open_cells h0' (fun m hm => hz m (by
      cases hx
      simp only [DataW.weights, Try.underlying24]
      exact DataW.weights_mem_each (j := 0) (t := 22) rfl rfl m hm))
    refine ⟨l, fun ρ => .agg rfl fun i hi => ?_⟩
    have hi0 : i = 0 := by simpa using hi
    subst hi0
    exact .d hl
end Go.Proofs.Ytohekjkpbfhiiaa

namespace Go.Proofs.Ytohekjkpbfhiiaa
open Go Go.Mq
set_option linter.all false

end Go.Proofs.Ytohekjkpbfhiiaa

namespace Go.Proofs.Ytohekjkpbfhiiaa
open Go Go.Mq
set_option linter.all false

theorem check_zero {T : Tree} (h : conE T = 0) : Pure P 9 [.d (.tree T)] (.d (.int .i64 0)) := by
  have := check_ok T
  rw [h] at this
  exact this
theorem tmod_rng (b : Int) (k : Nat) (hk : 0 < k) : -(k : Int) < b.tmod k ∧ b.tmod k < k := by
  by_cases h : b < 0
  · have e : b = -(b.natAbs : Int) := by omega
    generalize b.natAbs = m at e
    subst e
    have h1 := Int.emod_lt_of_pos (m : Int) (show (0 : Int) < k by omega)
    have h2 := Int.emod_nonneg (m : Int) (show (k : Int) ≠ 0 by omega)
    rw [Int.neg_tmod, Int.tmod_eq_emod_of_nonneg (by omega)]
    omega
  · have h1 := Int.emod_lt_of_pos b (show (0 : Int) < k by omega)
    have h2 := Int.emod_nonneg b (show (k : Int) ≠ 0 by omega)
    rw [Int.tmod_eq_emod_of_nonneg (by omega)]
    omega
def m50 (b : Int) : Int := (IntKind.i64.wrap (b.tmod 50 + 50)).tmod 50
theorem m50_rng (b : Int) : 0 ≤ m50 b ∧ m50 b < 50 := by
  have h1 := tmod_rng b 50 (by omega)
  have e : b.tmod ((50 : Nat) : Int) = b.tmod 50 := rfl
  rw [e] at h1
  have h2 := Int.emod_lt_of_pos (b.tmod 50 + 50) (show (0 : Int) < 50 by omega)
  have h3 := Int.emod_nonneg (b.tmod 50 + 50) (show (50 : Int) ≠ 0 by omega)
  unfold m50
  rw [wrap64 (by omega) (by omega), Int.tmod_eq_emod_of_nonneg (by omega)]
  exact ⟨h3, h2⟩
def m5 (b : Int) : Int := (IntKind.i64.wrap (b.tmod 5 + 5)).tmod 5
theorem m5_rng (b : Int) : 0 ≤ m5 b ∧ m5 b < 5 := by
  have h1 := tmod_rng b 5 (by omega)
  have e : b.tmod ((5 : Nat) : Int) = b.tmod 5 := rfl
  rw [e] at h1
  have h2 := Int.emod_lt_of_pos (b.tmod 5 + 5) (show (0 : Int) < 5 by omega)
  have h3 := Int.emod_nonneg (b.tmod 5 + 5) (show (5 : Int) ≠ 0 by omega)
  unfold m5
  rw [wrap64 (by omega) (by omega), Int.tmod_eq_emod_of_nonneg (by omega)]
  exact ⟨h3, h2⟩

end Go.Proofs.Ytohekjkpbfhiiaa
