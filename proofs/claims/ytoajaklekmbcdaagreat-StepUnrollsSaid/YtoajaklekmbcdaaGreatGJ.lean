/- What functions of the program compute, and plain facts about it. -/
import Derived.Test.YtoajaklekmbcdaaGreatGG
import Derived.Test.YtoajaklekmbcdaaGreatGF
set_option linter.all false
namespace Go.Proofs.YtoajaklekmbcdaaGreat
namespace Sb
open Go Go.Mq Tm
set_option linter.all false

/-! What a closed term makes of a term, in the place of a variable. -/
mutual
def inT (i : Int) (b : Tree) : Tree → Int → Tree
  | .nil, _ => .nil
  | .node k n nm mk l, t => if k = 130 then (if n < t ∨ n - t < i then .node k n nm mk l else if i < n - t then .node 130 (n - 1) ByteArray.empty ByteArray.empty [] else b)
    else if k < 130 then .node k n nm mk l else .node k n nm mk (insT i b k 0 l t)
def insT (i : Int) (b : Tree) (k : Int) (p : Nat) : List Tree → Int → List Tree
  | [], _ => []
  | x :: l, t => inT i b x (t + (bndF k p).2) :: insT i b k (p + 1) l t
end
theorem inT_eq {T : Tree} (h : T ≠ .nil) (i : Int) (b : Tree) (t : Int) : inT i b T t = if T.kind = 130 then (if T.n < t ∨ T.n - t < i then T else if i < T.n - t then .node 130 (T.n - 1) ByteArray.empty ByteArray.empty [] else b)
    else if T.kind < 130 then T else .node T.kind T.n T.name T.mark (insT i b T.kind 0 T.kids t) := by
  cases T with
  | nil => exact absurd rfl h
  | node => rw [inT]; rfl
theorem insT_len (i : Int) (b : Tree) (k : Int) : ∀ (l : List Tree) (p : Nat) (t : Int), (insT i b k p l t).length = l.length
  | [], p, t => by rw [insT]
  | x :: l, p, t => by rw [insT]; simp [insT_len i b k l (p + 1) t]
/-! How many more there may be. -/
mutual
def cntF : Tree → Int → Int
  | .nil, r => r
  | .node _ _ _ _ l, r => cntsF l (r - 1)
def cntsF : List Tree → Int → Int
  | [], r => r
  | x :: l, r => if 0 ≤ r then cntsF l (cntF x r) else cntsF l r
end
theorem cntF_kids {T : Tree} (h : T ≠ .nil) (r : Int) : cntF T r = cntsF T.kids (r - 1) := by
  cases T with
  | nil => exact absurd rfl h
  | node => rw [cntF]; rfl
theorem cnt_eq (T : Tree) : Full T → ∀ r : Int, 0 ≤ r → cntF T r = if (sizeN T : Int) ≤ r then r - sizeN T else -1 := by
  induction T using Tree.ind' with
  | h0 => intro h; exact absurd rfl h.ne
  | h1 T hT ih =>
    intro hF r hr
    have hsz := sizeN_kids hT
    rw [cntF_kids hT]
    have h : ∀ (l : List Tree) (q : Int), (∀ x ∈ l, x ∈ T.kids) → -1 ≤ q → cntsF l q = if (sizesN l : Int) ≤ q then q - sizesN l else -1 := by
      intro l
      induction l with
      | nil =>
        intro q _ hq
        rw [cntsF, sizesN]
        split <;> omega
      | cons x l ihl =>
        intro q hx hq
        rw [cntsF, sizesN]
        push_cast
        have hxm := hx x (by simp)
        have hx1 := sizeN_kids (hF.kids x hxm).ne
        by_cases h0 : 0 ≤ q
        · rw [if_pos h0, ih x hxm (hF.kids x hxm) q h0]
          by_cases h1 : (sizeN x : Int) ≤ q
          · rw [if_pos h1, ihl _ (fun y hy => hx y (by simp [hy])) (by omega)]
            by_cases h2 : (sizesN l : Int) ≤ q - sizeN x
            · rw [if_pos h2, if_pos (by omega)]; omega
            · rw [if_neg h2, if_neg (by omega)]
          · rw [if_neg h1, ihl _ (fun y hy => hx y (by simp [hy])) (by omega), if_neg (by omega), if_neg (by omega)]
        · rw [if_neg h0, ihl _ (fun y hy => hx y (by simp [hy])) (by omega), if_neg (by omega), if_neg (by omega)]
    rw [h T.kids (r - 1) (fun x hx => hx) (by omega)]
    by_cases h1 : (sizeN T : Int) ≤ r
    · rw [if_pos h1, if_pos (by omega)]; omega
    · rw [if_neg h1, if_neg (by omega)]
def closedF (T : Tree) : Bool := if conE T = 0 then decide (freeR T = 0) else decide (termE T = 0) && (decide ((tfreeR T).1 = 0) && decide ((tfreeR T).2 = 0))
/-- It, or too long. -/
def sizedR (T : Tree) : Tree × Int := if 65536 < sizeN T then (.nil, 3) else (T, 0)
def termR (T : Tree) (i : Int) (b : Tree) : Tree × Int :=
  if termE T ≠ 0 then (.nil, termE T) else if termE b ≠ 0 then (.nil, termE b) else if i < 0 ∨ closedF b = false then (.nil, 2) else sizedR (inT i b T 0)
/-- What is closed stays. -/
theorem in_closed (i : Int) (b : Tree) (hi : 0 ≤ i) (T : Tree) : ∀ c t : Int, Shw T → (freeT T c t).2 ≤ 0 → inT i b T t = T := by
  induction T using Tree.ind' with
  | h0 => intro c t h; exact absurd rfl h.ne
  | h1 T hT ih =>
    intro c t hs h
    rw [freeT_eq hT] at h
    rw [inT_eq hT]
    by_cases q : T.kind = 130
    · rw [if_pos q] at h ⊢
      simp only [] at h
      rw [if_pos (by omega)]
    rw [if_neg q] at h ⊢
    by_cases q2 : T.kind < 130
    · rw [if_pos q2]
    rw [if_neg q2] at h ⊢
    have hk : ∀ x ∈ T.kids, Shw x := by
      rcases shw_kids hs with w | ⟨_, _, w⟩
      · exact absurd w q2
      · exact w
    have hl : ∀ (l : List Tree) (p : Nat), (∀ x ∈ l, x ∈ T.kids) → (freesT T.kind p l c t).2 ≤ 0 → insT i b T.kind p l t = l := by
      intro l
      induction l with
      | nil => intro p _ _; rw [insT]
      | cons x l ihl =>
        intro p hx hh
        rw [freesT] at hh
        simp only [mx_eq] at hh
        have hm := hx x (by simp)
        rw [insT, ih x hm (c + (bndF T.kind p).1) _ (hk x hm) (by omega), ihl (p + 1) (fun y hy => hx y (by simp [hy])) (by omega)]
    rw [hl T.kids 0 (fun x hx => hx) h]
    cases T with
    | nil => exact absurd rfl hT
    | node => rfl
end Sb
end Go.Proofs.YtoajaklekmbcdaaGreat

namespace Go.Proofs.YtoajaklekmbcdaaGreat
namespace Sb
open Go Go.Mq Tm
set_option linter.all false

/-- One part in the place of another. -/
structure Rp (x y : Tree) : Prop where
  con : isConF x = true → isConF y = true
  kind : isKindF x = true → isKindF y = true
  term : isTermF x = true → isTermF y = true
  field : ∀ kind, tfieldF kind x = true → tfieldF kind y = true
  name : (∃ kind, tfieldF kind x = true) → y.name = x.name
theorem pairs_map : ∀ {l l' : List Tree} (rise : Bool) (pre pre' : List Tree), pre'.map Tree.name = pre.map Tree.name → l'.map Tree.name = l.map Tree.name → pairsF rise pre' l' = pairsF rise pre l
  | [], [], _, _, _, _, _ => rfl
  | [], _ :: _, _, _, _, _, h => by simp at h
  | _ :: _, [], _, _, _, _, h => by simp at h
  | x :: l, x' :: l', rise, pre, pre', hp, h => by
    simp only [List.map_cons, List.cons.injEq] at h
    have e : (pre'.all fun y => okPair rise y.name x'.name) = pre.all fun y => okPair rise y.name x.name := by
      rw [h.1]
      have g : ∀ (q : List Tree), (q.all fun y => okPair rise y.name x.name) = (q.map Tree.name).all fun s => okPair rise s x.name := fun q => by rw [List.all_map]; rfl
      rw [g, g, hp]
    rw [pairsF, pairsF, e, pairs_map rise (pre ++ [x]) (pre' ++ [x']) (by simp [hp, h.1]) h.2]
theorem tfields_map {kind : Int} : ∀ {l l' : List Tree}, l'.length = l.length → (∀ i, i < l.length → Rp (l.getD i .nil) (l'.getD i .nil)) → tfieldsF kind l = true → tfieldsF kind l' = true ∧ l'.map Tree.name = l.map Tree.name
  | [], [], _, _, _ => ⟨rfl, rfl⟩
  | [], _ :: _, h, _, _ => by simp at h
  | _ :: _, [], h, _, _ => by simp at h
  | x :: l, x' :: l', hl, h, hf => by
    rw [tfieldsF, Bool.and_eq_true] at hf
    have h0 := h 0 (by simp)
    obtain ⟨a1, a2⟩ := tfields_map (kind := kind) (l := l) (l' := l') (by simpa using hl) (fun i hi => by have := h (i + 1) (by simpa using hi); simpa only [List.getD_cons_succ] using this) hf.2
    refine ⟨?_, ?_⟩
    · rw [tfieldsF, a1, Bool.and_true]; exact h0.field kind hf.1
    · rw [List.map_cons, List.map_cons, a2]
      congr 1
      exact h0.name ⟨kind, hf.1⟩
theorem list_map {kind : Int} {l l' : List Tree} (hl : l'.length = l.length) (h : ∀ i, i < l.length → Rp (l.getD i .nil) (l'.getD i .nil)) (hf : listF kind l = true) : listF kind l' = true := by
  unfold listF at hf ⊢
  rw [labT_eq] at hf ⊢
  simp only [Bool.and_eq_true] at hf ⊢
  obtain ⟨a1, a2⟩ := tfields_map hl h hf.1.1
  rw [pairs_map _ [] [] rfl a2, hl]
  exact ⟨⟨a1, hf.1.2⟩, hf.2⟩
theorem sgn_map {c : UInt8} {x y : Tree} (h : Rp x y) (hs : sgn c x = true) : sgn c y = true := by
  unfold sgn at hs ⊢
  split
  · rename_i q; rw [if_pos q] at hs; exact h.con hs
  · rename_i q
    rw [if_neg q] at hs
    split
    · rename_i q2; rw [if_pos q2] at hs; exact h.kind hs
    · rename_i q2; rw [if_neg q2] at hs; exact h.term hs
theorem parts_map : ∀ (b : List UInt8) {l l' : List Tree}, l'.length = l.length → (∀ i, i < l.length → Rp (l.getD i .nil) (l'.getD i .nil)) → partsL b l = true → partsL b l' = true
  | [], l, l', hl, _, hp => by rw [partsL] at hp ⊢; rw [hl]; exact hp
  | c :: r, l, l', hl, h, hp => by
    rw [partsL_cons] at hp ⊢
    split
    · rename_i q; rw [if_pos q] at hp; exact list_map hl h hp
    · rename_i q
      rw [if_neg q] at hp
      split
      · rename_i q2; rw [if_pos q2] at hp; exact list_map hl h hp
      · rename_i q2
        rw [if_neg q2] at hp
        match l, l', hl, h, hp with
        | [], l', hl, h, hp => cases hp
        | x :: l, [], hl, h, hp => simp at hl
        | x :: l, x' :: l', hl, h, hp =>
          have hp : (sgn c x && partsL r l) = true := hp
          show (sgn c x' && partsL r l') = true
          rw [Bool.and_eq_true] at hp ⊢
          exact ⟨sgn_map (h 0 (by simp)) hp.1, parts_map r (by simpa using hl) (fun i hi => by have := h (i + 1) (by simpa using hi); simpa only [List.getD_cons_succ] using this) hp.2⟩
theorem term_kids {T : Tree} {l' : List Tree} (hl : l'.length = T.kids.length) (h : ∀ i, i < T.kids.length → Rp (T.kids.getD i .nil) (l'.getD i .nil)) (ht : isTermF T = true) : isTermF (.node T.kind T.n T.name T.mark l') = true := by
  have hT : T ≠ .nil := by intro e; subst e; rw [isTermF] at ht; cases ht
  rw [isTerm_rows hT] at ht
  rw [isTerm_rows (by simp)]
  show rowF (.node T.kind T.n T.name T.mark l') (findR T.kind rowsL) = true
  cases hr : findR T.kind rowsL with
  | none => rw [hr] at ht; cases ht
  | some r =>
    rw [hr] at ht
    simp only [rowF, Bool.and_eq_true] at ht ⊢
    exact ⟨ht.1, parts_map _ hl h ht.2⟩
theorem insT_get (i : Int) (b : Tree) (k : Int) : ∀ (l : List Tree) (p : Nat) (t : Int) (j : Nat), j < l.length → (insT i b k p l t).getD j .nil = inT i b (l.getD j .nil) (t + (bndF k (p + j)).2)
  | [], p, t, j, h => by simp at h
  | x :: l, p, t, 0, h => by rw [insT]; rfl
  | x :: l, p, t, j + 1, h => by
    rw [insT, List.getD_cons_succ, List.getD_cons_succ, insT_get i b k l (p + 1) t j (by simpa using h), show p + 1 + j = p + (j + 1) by omega]
theorem var_head {n : Int} (h : 0 ≤ n ∧ n ≤ 65536) : headF (.node 130 n ByteArray.empty ByteArray.empty []) = true := by
  rw [head_plain (T := .node 130 n ByteArray.empty ByteArray.empty []) ⟨show (130 : Int) ≠ 138 by decide, show (130 : Int) ≠ 146 by decide⟩]
  unfold numT
  rw [if_pos (show (Tree.node 130 n ByteArray.empty ByteArray.empty []).kind = 130 from rfl)]
  have g1 : decide (0 ≤ (Tree.node 130 n ByteArray.empty ByteArray.empty []).n) = true := decide_eq_true (show 0 ≤ n from h.1)
  have g2 : decide ((Tree.node 130 n ByteArray.empty ByteArray.empty []).n ≤ 65536) = true := decide_eq_true (show n ≤ 65536 from h.2)
  rw [g1, g2]
  rfl
/-- What comes of it is a term. -/
theorem in_term (i : Int) (b : Tree) (hi : 0 ≤ i) (hb : isTermF b = true) (T : Tree) : ∀ t : Int, 0 ≤ t → Shw T → Rp T (inT i b T t) := by
  induction T using Tree.ind' with
  | h0 => intro t _ h; exact absurd rfl h.ne
  | h1 T hT ih =>
    intro t ht hs
    rw [inT_eq hT]
    by_cases q : T.kind = 130
    · rw [if_pos q]
      have hcon : isConF T = true → False := fun h => by have := con_lt (.inl h); omega
      have hkin : isKindF T = true → False := fun h => by have := con_lt (.inr h); omega
      have hfie : ∀ kind, (tfieldF kind T = true) → Shw T → kind = 130 ∨ False := fun kind h _ => by
        obtain ⟨_, p2, _⟩ := tfield_parts h; left; omega
      by_cases c1 : T.n < t ∨ T.n - t < i
      · rw [if_pos c1]
        exact ⟨id, id, id, fun _ => id, fun _ => rfl⟩
      · rw [if_neg c1]
        have ht' : isTermF T = true := by
          rcases hs with h | h | h | h
          · have := con_lt h; omega
          · exact h
          · obtain ⟨_, p2, _⟩ := tfield_parts h; omega
          · obtain ⟨_, p2, _⟩ := tfield_parts h; omega
        have hh := term_head ht'
        have hk0 : T.kids.length = 0 := by
          rw [isTermF_eq hT, Bool.and_eq_true, if_pos (.inl q)] at ht'
          exact of_decide_eq_true ht'.2
        have hfx : ∀ kind, tfieldF kind T = true → False := fun kind h => by
          obtain ⟨_, _, _, p4, _⟩ := tfield_parts h; omega
        have hb' := hh.1.n130 q
        by_cases c2 : i < T.n - t
        · rw [if_pos c2]
          refine ⟨fun h => (hcon h).elim, fun h => (hkin h).elim, fun _ => ?_, fun k h => (hfx k h).elim, fun ⟨k, h⟩ => (hfx k h).elim⟩
          rw [isTermF_eq (by simp)]
          have e := var_head (n := T.n - 1) (by omega)
          rw [e]
          simp [Tree.kind, Tree.kids]
        · rw [if_neg c2]
          exact ⟨fun h => (hcon h).elim, fun h => (hkin h).elim, fun _ => hb, fun k h => (hfx k h).elim, fun ⟨k, h⟩ => (hfx k h).elim⟩
    rw [if_neg q]
    by_cases q2 : T.kind < 130
    · rw [if_pos q2]
      exact ⟨id, id, id, fun _ => id, fun _ => rfl⟩
    rw [if_neg q2]
    have hk : ∀ x ∈ T.kids, Shw x := by
      rcases shw_kids hs with w | ⟨_, _, w⟩
      · exact absurd w q2
      · exact w
    have hl := insT_len i b T.kind T.kids 0 t
    have hr : ∀ j, j < T.kids.length → Rp (T.kids.getD j .nil) ((insT i b T.kind 0 T.kids t).getD j .nil) := fun j hj => by
      rw [insT_get i b T.kind T.kids 0 t j hj]
      have hm := getD_mem hj
      have hbl := bnd_le T.kind (0 + j)
      exact ih _ hm _ (by omega) (hk _ hm)
    refine ⟨fun h => absurd (con_lt (.inl h)) q2, fun h => absurd (con_lt (.inr h)) q2, fun h => term_kids hl hr h, fun kind h => ?_, fun _ => rfl⟩
    obtain ⟨_, p2, _, p4, _⟩ := tfield_parts h
    rw [tfieldF_eq hT] at h
    rw [tfieldF_eq (by simp)]
    simp only [Bool.and_eq_true, decide_eq_true_eq] at h ⊢
    exact ⟨⟨h.1.1, by show (insT i b T.kind 0 T.kids t).length = 1; rw [hl]; exact p4⟩, (hr 0 (by omega)).term h.2⟩
/-- In either order. -/
theorem in_order (a b : Tree) (ha : ∀ t : Int, 0 ≤ t → inT 0 b a t = a) (hb : ∀ t : Int, 0 ≤ t → inT 0 a b t = b) (T : Tree) : ∀ t : Int, 0 ≤ t → inT 0 b (inT 0 a T t) t = inT 0 a (inT 1 b T t) t := by
  induction T using Tree.ind' with
  | h0 => intro t _; rw [inT, inT, inT, inT]
  | h1 T hT ih =>
    intro t ht
    rw [inT_eq hT 0 a t, inT_eq hT 1 b t]
    by_cases q : T.kind = 130
    · rw [if_pos q, if_pos q]
      by_cases c1 : T.n < t
      · rw [if_pos (.inl c1), if_pos (.inl c1), inT_eq hT 0 b t, inT_eq hT 0 a t, if_pos q, if_pos q, if_pos (.inl c1), if_pos (.inl c1)]
      · by_cases c2 : T.n = t
        · rw [if_neg (by omega), if_neg (by omega), if_pos (by omega), ha t ht, inT_eq hT 0 a t, if_pos q, if_neg (by omega), if_neg (by omega)]
        · by_cases c3 : T.n = t + 1
          · rw [if_neg (by omega), if_pos (by omega), if_neg (by omega), if_neg (by omega), hb t ht, inT, if_pos rfl, if_neg (by omega), if_neg (by omega)]
          · rw [if_neg (by omega), if_pos (by omega), if_neg (by omega), if_pos (by omega), inT, inT, if_pos rfl, if_pos rfl, if_neg (by omega), if_pos (by omega), if_neg (by omega), if_pos (by omega)]
    · rw [if_neg q, if_neg q]
      by_cases q2 : T.kind < 130
      · rw [if_pos q2, if_pos q2, inT_eq hT 0 b t, inT_eq hT 0 a t, if_neg q, if_neg q, if_pos q2, if_pos q2]
      · rw [if_neg q2, if_neg q2, inT, inT, if_neg q, if_neg q, if_neg q2, if_neg q2]
        have hl : ∀ (l : List Tree) (p : Nat), (∀ x ∈ l, x ∈ T.kids) → insT 0 b T.kind p (insT 0 a T.kind p l t) t = insT 0 a T.kind p (insT 1 b T.kind p l t) t := by
          intro l
          induction l with
          | nil => intro p _; rw [insT, insT, insT, insT]
          | cons x l ihl =>
            intro p hx
            have hbl := bnd_le T.kind p
            rw [insT, insT, insT, insT, ih x (hx x (by simp)) _ (by omega), ihl (p + 1) fun y hy => hx y (by simp [hy])]
        rw [hl T.kids 0 fun x hx => hx]
theorem closed_at {a : Tree} (h1 : isTermF a = true) (h2 : (freeT a 0 0).2 ≤ 0) (i : Int) (b : Tree) (hi : 0 ≤ i) (t : Int) (ht : 0 ≤ t) : inT i b a t = a := by
  have := (free_shift a 0 0 0 t (by omega) ht).2
  rw [Int.add_zero, Int.zero_add] at this
  exact in_closed i b hi a 0 t (.inr (.inl h1)) (by omega)
end Sb
end Go.Proofs.YtoajaklekmbcdaaGreat

namespace Go.Proofs.YtoajaklekmbcdaaGreat
namespace Sb
open Go Go.Mq Tm
set_option linter.all false

theorem shw_full (T : Tree) : Shw T → Full T := by
  induction T using Tree.ind' with
  | h0 => intro h; exact absurd rfl h.ne
  | h1 T hT ih =>
    intro h
    rcases shw_kids h with hk | ⟨_, _, hk⟩
    · rcases h with h | h | h | h
      · rcases h with h | h
        · exact (isConF_plain T h).full
        · exact (Ex.kind_EB T h).full
      · have := (term_head h).1.kind; omega
      · obtain ⟨_, p2, _⟩ := tfield_parts h; omega
      · obtain ⟨_, p2, _⟩ := tfield_parts h; omega
    · exact Full.of hT fun x hx => ih x hx (hk x hx)
theorem term_full {T : Tree} (h : isTermF T = true) : Full T := shw_full T (.inr (.inl h))
theorem term_notcon {T : Tree} (h : isTermF T = true) : conE T ≠ 0 := by
  intro e
  have h1 := (term_head h).1.kind
  have h2 := con_lt (.inl (conE_full e).2)
  omega
theorem closed_free {a : Tree} (h : termE a = 0) (hc : closedF a = true) : (freeT a 0 0).1 ≤ 0 ∧ (freeT a 0 0).2 ≤ 0 := by
  unfold closedF at hc
  rw [if_neg (term_notcon (termE_ok h).1), tfreeR_of h] at hc
  simp only [Bool.and_eq_true, decide_eq_true_eq, mx_eq] at hc
  omega
theorem closed_of {a : Tree} (h : termE a = 0) (h1 : (freeT a 0 0).1 ≤ 0) (h2 : (freeT a 0 0).2 ≤ 0) : closedF a = true := by
  unfold closedF
  rw [if_neg (term_notcon (termE_ok h).1), tfreeR_of h]
  simp only [Bool.and_eq_true, decide_eq_true_eq, mx_eq]
  omega
theorem termR_inv {T b m : Tree} {i : Int} (h : termR T i b = (m, 0)) : termE T = 0 ∧ termE b = 0 ∧ 0 ≤ i ∧ closedF b = true ∧ m = inT i b T 0 ∧ sizeN m ≤ 65536 := by
  unfold termR at h
  by_cases h1 : termE T = 0
  · rw [if_neg (by simp [h1])] at h
    by_cases h2 : termE b = 0
    · rw [if_neg (by simp [h2])] at h
      by_cases h3 : i < 0 ∨ closedF b = false
      · rw [if_pos h3] at h; exact absurd (Prod.mk.inj h).2 (by decide)
      · rw [if_neg h3] at h
        unfold sizedR at h
        have h3' : 0 ≤ i ∧ closedF b = true := by
          refine ⟨by omega, ?_⟩
          cases hc : closedF b with
          | true => rfl
          | false => exact absurd (.inr hc) h3
        by_cases h4 : 65536 < sizeN (inT i b T 0)
        · rw [if_pos h4] at h; exact absurd (Prod.mk.inj h).2 (by decide)
        · rw [if_neg h4] at h
          have e := (Prod.mk.inj h).1
          exact ⟨h1, h2, h3'.1, h3'.2, e.symm, by rw [← e]; omega⟩
    · rw [if_pos h2] at h; exact absurd (Prod.mk.inj h).2 h2
  · rw [if_pos h1] at h; exact absurd (Prod.mk.inj h).2 h1
theorem termR_of {T b : Tree} {i : Int} (h1 : termE T = 0) (h2 : termE b = 0) (h3 : 0 ≤ i) (h4 : closedF b = true) : termR T i b = sizedR (inT i b T 0) := by
  unfold termR
  rw [if_neg (by simp [h1]), if_neg (by simp [h2]), if_neg (by simp [h4]; omega)]
theorem termR_order {T a b x y : Tree} (hx : termR T 0 a = (x, 0)) (hy : termR T 1 b = (y, 0)) : termR x 0 b = termR y 0 a := by
  obtain ⟨t1, t2, _, t4, rfl, t6⟩ := termR_inv hx
  obtain ⟨_, u2, _, u4, rfl, u6⟩ := termR_inv hy
  have f1 := (termE_ok t1).1
  have f2 := (termE_ok t2).1
  have f3 := (termE_ok u2).1
  have g1 := (in_term 0 a (by omega) f2 T 0 (by omega) (.inr (.inl f1))).term f1
  have g2 := (in_term 1 b (by omega) f3 T 0 (by omega) (.inr (.inl f1))).term f1
  have e1 := termE_of g1 (term_full g1) t6
  have e2 := termE_of g2 (term_full g2) u6
  have c1 := (closed_free t2 t4).2
  have c2 := (closed_free u2 u4).2
  rw [termR_of e1 u2 (by omega) u4, termR_of e2 t2 (by omega) t4, in_order a b (fun t ht => closed_at f2 c1 0 b (by omega) t ht) (fun t ht => closed_at f3 c2 0 a (by omega) t ht) T 0 (by omega)]
theorem termR_closed {T b : Tree} {i : Int} (hT : termE T = 0) (hc : closedF T = true) (hz : sizeN T ≤ 80) (hb : termE b = 0) (hcb : closedF b = true) (hi : 0 ≤ i) : termR T i b = (T, 0) := by
  rw [termR_of hT hb hi hcb, closed_at (termE_ok hT).1 (closed_free hT hc).2 i b hi 0 (by omega)]
  unfold sizedR
  rw [if_neg (by omega)]
def xvarT (i : Int) : Tree := .node 130 i ByteArray.empty ByteArray.empty []
theorem xvar_term {i : Int} (h : 0 ≤ i ∧ i ≤ 65536) : termE (xvarT i) = 0 := by
  have ht : isTermF (xvarT i) = true := by
    unfold xvarT
    rw [isTermF_eq (by simp), var_head h]
    simp [Tree.kind, Tree.kids]
  exact termE_of ht (term_full ht) (by unfold xvarT; simp [sizeN, sizesN])
theorem termR_var {T : Tree} {i : Int} (hT : termE T = 0) (hc : closedF T = true) (hz : sizeN T ≤ 80) (hi : 0 ≤ i ∧ i ≤ 65536) : termR (xvarT i) i T = (T, 0) := by
  rw [termR_of (xvar_term hi) hT hi.1 hc]
  unfold xvarT
  rw [inT, if_pos rfl, if_neg (by omega), if_neg (by omega)]
  unfold sizedR
  rw [if_neg (by omega)]
end Sb
end Go.Proofs.YtoajaklekmbcdaaGreat

namespace Go.Proofs.YtoajaklekmbcdaaGreat
namespace Sb
open Go Go.Mq Tm
set_option linter.all false

/-! Constructors in the places of constructors -/
def conStep (i : Int) (b : Tree) (T : Tree) (c : Int) (s : Bool) : Tree × Bool :=
  if s = true ∨ 65536 - c < i then (T, s) else if (substR T (c + i) b).2 ≠ 0 then (T, true) else ((substR T (c + i) b).1, false)
mutual
def inC (i : Int) (b : Tree) : Tree → Int → Bool → Tree × Bool
  | .nil, _, s => (.nil, s)
  | .node k n nm mk l, c, s => if k = 130 ∨ k < 110 then (.node k n nm mk l, s) else if k < 130 then conStep i b (.node k n nm mk l) c s
    else (.node k n nm mk (insC i b k 0 l c s).1, (insC i b k 0 l c s).2)
def insC (i : Int) (b : Tree) (k : Int) (p : Nat) : List Tree → Int → Bool → List Tree × Bool
  | [], _, s => ([], s)
  | x :: l, c, s => ((inC i b x (c + (bndF k p).1) s).1 :: (insC i b k (p + 1) l c (inC i b x (c + (bndF k p).1) s).2).1, (insC i b k (p + 1) l c (inC i b x (c + (bndF k p).1) s).2).2)
end
theorem inC_eq {T : Tree} (h : T ≠ .nil) (i : Int) (b : Tree) (c : Int) (s : Bool) : inC i b T c s = if T.kind = 130 ∨ T.kind < 110 then (T, s) else if T.kind < 130 then conStep i b T c s
    else (.node T.kind T.n T.name T.mark (insC i b T.kind 0 T.kids c s).1, (insC i b T.kind 0 T.kids c s).2) := by
  cases T with
  | nil => exact absurd rfl h
  | node => rw [inC]; rfl
mutual
def rC (i : Int) (b : Tree) : Tree → Int → Tree
  | .nil, _ => .nil
  | .node k n nm mk l, c => if k = 130 ∨ k < 110 then .node k n nm mk l else if k < 130 then (if 65536 - c < i then .node k n nm mk l else oT (rputF (c + i) b (.node k n nm mk l) 0))
    else .node k n nm mk (rsC i b k 0 l c)
def rsC (i : Int) (b : Tree) (k : Int) (p : Nat) : List Tree → Int → List Tree
  | [], _ => []
  | x :: l, c => rC i b x (c + (bndF k p).1) :: rsC i b k (p + 1) l c
end
theorem rC_eq {T : Tree} (h : T ≠ .nil) (i : Int) (b : Tree) (c : Int) : rC i b T c = if T.kind = 130 ∨ T.kind < 110 then T else if T.kind < 130 then (if 65536 - c < i then T else oT (rputF (c + i) b T 0))
    else .node T.kind T.n T.name T.mark (rsC i b T.kind 0 T.kids c) := by
  cases T with
  | nil => exact absurd rfl h
  | node => rw [rC]; rfl
/-- A closed constructor is not moved. -/
theorem nohits_vmap {B : Int} (T : Tree) : ∀ d : Int, Plain T → 0 ≤ d → d + sizeN T ≤ 549755813888 → (∀ j : Int, 0 ≤ j → hitsN j T d = 0) → vmap (fM B 0) T d = some T := by
  induction T using Tree.ind with
  | h0 => intro d h; cases h
  | h1 k n nm mk l ih =>
    intro d hp h0 h1 hh
    obtain ⟨hm, hv, hk⟩ := hp.inv
    subst hm
    rw [sizeN] at h1
    push_cast at h1
    have hlim : lim = 1099511627776 := rfl
    have hb := bindsF_b (.node k n nm ByteArray.empty l)
    by_cases hk1 : k = 110
    · subst hk1
      obtain ⟨rfl, rfl, hn0, hn1⟩ := hv rfl
      rw [vmap, if_pos rfl, fM, if_neg]
      · rfl
      · rintro ⟨q1, q2⟩
        have := hh (n - d) (by omega)
        rw [hitsN, if_pos ⟨rfl, q1, wrap64 (by omega) (by omega)⟩] at this
        omega
    · have hwb : IntKind.i64.wrap (d + bindsF (.node k n nm ByteArray.empty l)) = d + bindsF (.node k n nm ByteArray.empty l) := wrap64 (by omega) (by omega)
      have hl : ∀ l : List Tree, (∀ x ∈ l, ∀ d : Int, Plain x → 0 ≤ d → d + sizeN x ≤ 549755813888 → (∀ j : Int, 0 ≤ j → hitsN j x d = 0) → vmap (fM B 0) x d = some x) → (∀ x ∈ l, Plain x) → ∀ d : Int, 0 ≤ d → d + sizesN l ≤ 549755813888 → (∀ j : Int, 0 ≤ j → hitssN j l d = 0) → vmaps (fM B 0) l d = some l := by
        intro l
        induction l with
        | nil => intro _ _ d _ _ _; rw [vmaps]
        | cons x l ihl =>
          intro hx hp d h0 h1 hh
          rw [sizesN] at h1
          push_cast at h1
          have g : ∀ j : Int, 0 ≤ j → hitsN j x d = 0 ∧ hitssN j l d = 0 := fun j hj => by have := hh j hj; rw [hitssN] at this; omega
          rw [vmaps, hx x (by simp) d (hp x (by simp)) h0 (by omega) fun j hj => (g j hj).1]
          simp only []
          rw [ihl (fun y hy => hx y (by simp [hy])) (fun y hy => hp y (by simp [hy])) d h0 (by omega) fun j hj => (g j hj).2]
          rfl
      rw [vmap, if_neg hk1, hl l ih hk _ (by omega) (by omega) fun j hj => by have := hh j hj; rw [hitsN, hwb] at this; omega]
      rfl
theorem con_fixed {b : Tree} (hb : conE b = 0) (hc : freeR b = 0) (B : Int) : vmap (fM B 0) b 0 = some b := by
  have hz := conE_size hb
  have hl : lim = 1099511627776 := rfl
  rw [freeR_eq, rfreeR, if_pos hb] at hc
  obtain ⟨f1, _, _⟩ := free_hits b 0 (conE_plain hb) (by omega) (by omega)
  exact nohits_vmap b 0 (conE_plain hb) (by omega) (by omega) fun j hj => f1 j (by omega)
/-- It is put, whatever. -/
theorem put_some {b : Tree} (hb : conE b = 0) (hc : freeR b = 0) (i : Int) (T : Tree) : ∀ d : Int, Plain T → 0 ≤ d → d + sizeN T ≤ 549755813888 → ∃ y, rputF i b T d = some y := by
  have hz := conE_size hb
  have hlim : lim = 1099511627776 := rfl
  induction T using Tree.ind with
  | h0 => intro d h; cases h
  | h1 k n nm mk l ih =>
    intro d hp h0 h1
    obtain ⟨hm, hv, hk⟩ := hp.inv
    subst hm
    rw [sizeN] at h1
    push_cast at h1
    have hbd := bindsF_b (.node k n nm ByteArray.empty l)
    have hwb : IntKind.i64.wrap (d + bindsF (.node k n nm ByteArray.empty l)) = d + bindsF (.node k n nm ByteArray.empty l) := wrap64 (by omega) (by omega)
    have hl : ∀ l : List Tree, (∀ x ∈ l, ∀ d : Int, Plain x → 0 ≤ d → d + sizeN x ≤ 549755813888 → ∃ y, rputF i b x d = some y) → (∀ x ∈ l, Plain x) → ∀ d : Int, 0 ≤ d → d + sizesN l ≤ 549755813888 → ∃ ys, rputsF i b l d = some ys := by
      intro l
      induction l with
      | nil => intro _ _ d _ _; exact ⟨[], by rw [rputsF]⟩
      | cons x l ihl =>
        intro hx hp d h0 h1
        rw [sizesN] at h1
        push_cast at h1
        obtain ⟨y, hy⟩ := hx x (by simp) d (hp x (by simp)) h0 (by omega)
        obtain ⟨ys, hys⟩ := ihl (fun y hy => hx y (by simp [hy])) (fun y hy => hp y (by simp [hy])) d h0 (by omega)
        exact ⟨y :: ys, by rw [rputsF, hy]; simp only []; rw [hys]; rfl⟩
    obtain ⟨ys, hys⟩ := hl l ih hk _ (show 0 ≤ d + bindsF (.node k n nm ByteArray.empty l) by omega) (by omega)
    rw [rputF, hwb, hys]
    split
    · rw [rmoved_vmap d 0 b 0 (conE_plain hb) (by omega) (by omega)]
      exact ⟨b, con_fixed hb hc d⟩
    · split
      · exact ⟨_, rfl⟩
      · exact ⟨_, rfl⟩
/-- Refused just if it is too long. -/
theorem step_con {b T : Tree} {i : Int} (hb : conE b = 0) (hc : freeR b = 0) (hT : conE T = 0) (hi : 0 ≤ i) (hi2 : i ≤ 65536) :
    ∃ y, rputF i b T 0 = some y ∧ ((substR T i b = (y, 0) ∧ sizeN y ≤ 65536) ∨ ((substR T i b).2 ≠ 0 ∧ 65536 < sizeN y)) := by
  have hz := conE_size hb
  have hzT := conE_size hT
  have hlim : lim = 1099511627776 := rfl
  obtain ⟨y, hy⟩ := put_some hb hc i T 0 (conE_plain hT) (by omega) (by omega)
  refine ⟨y, hy, ?_⟩
  have hsz := rputF_size i b T 0 y hy (conE_plain hT)
  have hh := hitsN_le i T 0
  have hm : ((hitsN i T 0 * sizeN b : Nat) : Int) = (hitsN i T 0 : Int) * (sizeN b : Int) := by push_cast; rfl
  by_cases hle : sizeN y ≤ 65536
  · refine .inl ⟨subst_of hT hb hi ⟨by omega, by omega⟩ hy, hle⟩
  · refine .inr ⟨?_, by omega⟩
    have e1 := countF_hits i T 0 (by omega)
    have e2 := sizeF_sizeN b (by omega)
    have e3 := sizeF_sizeN T (by omega)
    have m0 : (hitsN i T 0 : Int) * sizeN b ≤ 65536 * 65536 := by
      have : hitsN i T 0 * sizeN b ≤ 65536 * 65536 := Nat.mul_le_mul (by omega) (by omega)
      omega
    have hn : rsLong T i b := by
      unfold rsLong
      rw [e1, e2, e3]
      refine .inr ?_
      rw [wrap64 (x := (hitsN i T 0 : Int) * sizeN b) (by omega) (by omega), wrap64 (x := (sizeN T : Int) - hitsN i T 0) (by omega) (by omega), wrap64 (x := (sizeN T : Int) - hitsN i T 0 + _) (by omega) (by omega)]
      omega
    rw [substR_eq, rsubstR, if_pos hT, if_pos hb, if_neg (by omega), if_pos hn]
    decide
end Sb
end Go.Proofs.YtoajaklekmbcdaaGreat

namespace Go.Proofs.YtoajaklekmbcdaaGreat
namespace Sb
open Go Go.Mq Tm
set_option linter.all false

theorem inC_true (i : Int) (b : Tree) (T : Tree) : ∀ c : Int, (inC i b T c true).2 = true := by
  induction T using Tree.ind' with
  | h0 => intro c; rw [inC]
  | h1 T hT ih =>
    intro c
    rw [inC_eq hT]
    split
    · rfl
    split
    · unfold conStep; rw [if_pos (.inl rfl)]
    · have h : ∀ (l : List Tree) (p : Nat), (∀ x ∈ l, x ∈ T.kids) → (insC i b T.kind p l c true).2 = true := by
        intro l
        induction l with
        | nil => intro p _; rw [insC]
        | cons x l ihl =>
          intro p hx
          rw [insC]
          simp only []
          rw [ih x (hx x (by simp)) _]
          exact ihl (p + 1) fun y hy => hx y (by simp [hy])
      exact h T.kids 0 fun x hx => hx
def WalkP (i : Int) (b T : Tree) : Prop := ∀ c : Int, Shw T → sizeN T ≤ 65536 → 0 ≤ c → c + sizeN T ≤ 549755813888 →
    ((inC i b T c false).2 = false ∧ (inC i b T c false).1 = rC i b T c) ∨ ((inC i b T c false).2 = true ∧ 65536 < sizeN (rC i b T c))
theorem walk_con {i : Int} {b : Tree} (hi : 0 ≤ i) (hb : conE b = 0) (hc : freeR b = 0) (T : Tree) : WalkP i b T := by
  induction T using Tree.ind' with
  | h0 => intro c h; exact absurd rfl h.ne
  | h1 T hT ih =>
    intro c hs hz hc0 hc1
    have hsz := sizeN_kids hT
    rw [inC_eq hT, rC_eq hT]
    by_cases q : T.kind = 130 ∨ T.kind < 110
    · rw [if_pos q, if_pos q]; exact .inl ⟨rfl, rfl⟩
    rw [if_neg q, if_neg q]
    by_cases q2 : T.kind < 130
    · rw [if_pos q2, if_pos q2]
      have hco : isConF T = true := by
        rcases hs with h | h | h | h
        · rcases h with h | h
          · exact h
          · exfalso
            rw [isKindF_eq hT, if_neg (by omega), if_neg (by omega)] at h; cases h
        · have := (term_head h).1.kind; omega
        · obtain ⟨_, p2, _⟩ := tfield_parts h; omega
        · obtain ⟨_, p2, _⟩ := tfield_parts h; omega
      have hcE := conE_of hco hz
      unfold conStep
      by_cases q3 : 65536 - c < i
      · rw [if_pos (.inr q3), if_pos q3]; exact .inl ⟨rfl, rfl⟩
      · rw [if_neg (by simp; omega), if_neg q3]
        obtain ⟨y, hy, ⟨h1, h2⟩ | ⟨h1, h2⟩⟩ := step_con hb hc hcE (show 0 ≤ c + i by omega) (by omega)
        · rw [h1, hy, if_neg (by simp)]; exact .inl ⟨rfl, rfl⟩
        · rw [if_pos h1, hy]; exact .inr ⟨rfl, h2⟩
    · rw [if_neg q2, if_neg q2]
      have hk : ∀ x ∈ T.kids, Shw x := by
        rcases shw_kids hs with w | ⟨_, _, w⟩
        · exact absurd w q2
        · exact w
      have h : ∀ (l : List Tree) (p : Nat), (∀ x ∈ l, x ∈ T.kids) → ((insC i b T.kind p l c false).2 = false ∧ (insC i b T.kind p l c false).1 = rsC i b T.kind p l c) ∨ ((insC i b T.kind p l c false).2 = true ∧ 65536 < sizesN (rsC i b T.kind p l c)) := by
        intro l
        induction l with
        | nil => intro p _; rw [insC, rsC]; exact .inl ⟨rfl, rfl⟩
        | cons x l ihl =>
          intro p hx
          have hm := hx x (by simp)
          have s1 := sizesN_mem hm
          have hbl := bnd_le T.kind p
          have ih2 := ihl (p + 1) fun y hy => hx y (by simp [hy])
          rw [insC, rsC]
          simp only []
          rcases ih x hm (c + (bndF T.kind p).1) (hk x hm) (by omega) (by omega) (by omega) with ⟨g1, g2⟩ | ⟨g1, g2⟩
          · rw [g1, g2]
            rcases ih2 with ⟨f1, f2⟩ | ⟨f1, f2⟩
            · rw [f1, f2]; exact .inl ⟨rfl, rfl⟩
            · rw [f1, sizesN]; exact .inr ⟨rfl, by omega⟩
          · refine .inr ⟨?_, by rw [sizesN]; omega⟩
            rw [g1]
            have hall : ∀ (l : List Tree) (p : Nat), (insC i b T.kind p l c true).2 = true := by
              intro l
              induction l with
              | nil => intro p; rw [insC]
              | cons x l ihl => intro p; rw [insC]; simp only []; rw [inC_true]; exact ihl (p + 1)
            exact hall l (p + 1)
      rcases h T.kids 0 fun x hx => hx with ⟨g1, g2⟩ | ⟨g1, g2⟩
      · rw [g1, g2]; exact .inl ⟨rfl, rfl⟩
      · rw [g1, sizeN]; exact .inr ⟨rfl, by omega⟩
def conR (T : Tree) (i : Int) (b : Tree) : Tree × Int :=
  if termE T ≠ 0 then (.nil, termE T) else if conE b ≠ 0 then (.nil, conE b) else if i < 0 ∨ closedF b = false then (.nil, 2)
  else if (inC i b T 0 false).2 = true then (.nil, 3) else sizedR (inC i b T 0 false).1
def rconR (T : Tree) (i : Int) (b : Tree) : Tree × Int :=
  if termE T ≠ 0 then (.nil, termE T) else if conE b ≠ 0 then (.nil, conE b) else if i < 0 ∨ closedF b = false then (.nil, 2) else sizedR (rC i b T 0)
theorem conR_eq (T : Tree) (i : Int) (b : Tree) : conR T i b = rconR T i b := by
  unfold conR rconR
  by_cases h1 : termE T ≠ 0
  · rw [if_pos h1, if_pos h1]
  rw [if_neg h1, if_neg h1]
  by_cases h2 : conE b ≠ 0
  · rw [if_pos h2, if_pos h2]
  rw [if_neg h2, if_neg h2]
  by_cases h3 : i < 0 ∨ closedF b = false
  · rw [if_pos h3, if_pos h3]
  rw [if_neg h3, if_neg h3]
  have hb : conE b = 0 := by omega
  have hT : termE T = 0 := by omega
  obtain ⟨t1, t2, t3⟩ := termE_ok hT
  have hc : freeR b = 0 := by
    cases hq : closedF b with
    | false => exact absurd (.inr hq) h3
    | true => unfold closedF at hq; rw [if_pos hb] at hq; exact of_decide_eq_true hq
  rcases walk_con (show 0 ≤ i by omega) hb hc T 0 (.inr (.inl t1)) t2 (by omega) (by omega) with ⟨g1, g2⟩ | ⟨g1, g2⟩
  · rw [g1, g2, if_neg (by simp)]
  · rw [if_pos g1]
    unfold sizedR
    rw [if_pos g2]
end Sb
end Go.Proofs.YtoajaklekmbcdaaGreat

namespace Go.Proofs.YtoajaklekmbcdaaGreat
namespace Sb
open Go Go.Mq Tm
set_option linter.all false

theorem nohits_gen {f : Int → Int → Option Int} {i0 : Int} (h0i : 0 ≤ i0) (hf : ∀ n d : Int, ¬ (d ≤ n ∧ i0 ≤ n - d) → f n d = some n) (T : Tree) : ∀ d : Int, Plain T → 0 ≤ d → d + sizeN T ≤ 549755813888 → (∀ j : Int, i0 ≤ j → hitsN j T d = 0) → vmap f T d = some T := by
  induction T using Tree.ind with
  | h0 => intro d h; cases h
  | h1 k n nm mk l ih =>
    intro d hp h0 h1 hh
    obtain ⟨hm, hv, hk⟩ := hp.inv
    subst hm
    rw [sizeN] at h1
    push_cast at h1
    have hlim : lim = 1099511627776 := rfl
    have hb := bindsF_b (.node k n nm ByteArray.empty l)
    by_cases hk1 : k = 110
    · subst hk1
      obtain ⟨rfl, rfl, hn0, hn1⟩ := hv rfl
      rw [vmap, if_pos rfl, hf n d]
      · rfl
      · rintro ⟨q1, q2⟩
        have := hh (n - d) (by omega)
        rw [hitsN, if_pos ⟨rfl, q1, wrap64 (by omega) (by omega)⟩] at this
        omega
    · have hwb : IntKind.i64.wrap (d + bindsF (.node k n nm ByteArray.empty l)) = d + bindsF (.node k n nm ByteArray.empty l) := wrap64 (by omega) (by omega)
      have hl : ∀ l : List Tree, (∀ x ∈ l, ∀ d : Int, Plain x → 0 ≤ d → d + sizeN x ≤ 549755813888 → (∀ j : Int, i0 ≤ j → hitsN j x d = 0) → vmap f x d = some x) → (∀ x ∈ l, Plain x) → ∀ d : Int, 0 ≤ d → d + sizesN l ≤ 549755813888 → (∀ j : Int, i0 ≤ j → hitssN j l d = 0) → vmaps f l d = some l := by
        intro l
        induction l with
        | nil => intro _ _ d _ _ _; rw [vmaps]
        | cons x l ihl =>
          intro hx hp d h0 h1 hh
          rw [sizesN] at h1
          push_cast at h1
          have g : ∀ j : Int, i0 ≤ j → hitsN j x d = 0 ∧ hitssN j l d = 0 := fun j hj => by have := hh j hj; rw [hitssN] at this; omega
          rw [vmaps, hx x (by simp) d (hp x (by simp)) h0 (by omega) fun j hj => (g j hj).1]
          simp only []
          rw [ihl (fun y hy => hx y (by simp [hy])) (fun y hy => hp y (by simp [hy])) d h0 (by omega) fun j hj => (g j hj).2]
          rfl
      rw [vmap, if_neg hk1, hl l ih hk _ (by omega) (by omega) fun j hj => by have := hh j hj; rw [hitsN, hwb] at this; omega]
      rfl
theorem con_stays {T b : Tree} {i : Int} (hT : conE T = 0) (hb : conE b = 0) (hi : freeR T ≤ i) : substR T i b = (T, 0) := by
  have hz := conE_size hT
  have hlim : lim = 1099511627776 := rfl
  have h0 := freeR_le T
  rw [freeR_eq, rfreeR, if_pos hT] at hi h0
  obtain ⟨f1, _, _⟩ := free_hits T 0 (conE_plain hT) (by omega) (by omega)
  have hh : ∀ j : Int, i ≤ j → hitsN j T 0 = 0 := fun j hj => f1 j (by omega)
  have hput : rputF i b T 0 = some T := by
    rw [rput_vmap0 i b T 0 (conE_plain hT) (by omega) (by omega) (hh i (by omega))]
    exact nohits_gen (i0 := i) (by omega) (fun n d h => by unfold fQ; rw [if_neg (by omega)]) T 0 (conE_plain hT) (by omega) (by omega) hh
  exact subst_of hT hb (by omega) ⟨by rw [hh i (by omega)]; simp, by rw [hh i (by omega)]; simp; omega⟩ hput
theorem inC_closed {i : Int} {b : Tree} (hi : 0 ≤ i) (hb : conE b = 0) (T : Tree) : ∀ c t : Int, Shw T → sizeN T ≤ 65536 → (freeT T c t).1 ≤ 0 → inC i b T c false = (T, false) := by
  induction T using Tree.ind' with
  | h0 => intro c t h; exact absurd rfl h.ne
  | h1 T hT ih =>
    intro c t hs hz h
    have hsz := sizeN_kids hT
    rw [freeT_eq hT] at h
    rw [inC_eq hT]
    by_cases q : T.kind = 130 ∨ T.kind < 110
    · rw [if_pos q]
    rw [if_neg q]
    by_cases q2 : T.kind < 130
    · rw [if_pos q2]
      rw [if_neg (by omega), if_pos q2] at h
      have hco : isConF T = true := by
        rcases hs with h | h | h | h
        · rcases h with h | h
          · exact h
          · exfalso
            rw [isKindF_eq hT, if_neg (by omega), if_neg (by omega)] at h; cases h
        · have := (term_head h).1.kind; omega
        · obtain ⟨_, p2, _⟩ := tfield_parts h; omega
        · obtain ⟨_, p2, _⟩ := tfield_parts h; omega
      have hcE := conE_of hco hz
      simp only [] at h
      unfold conStep
      by_cases q3 : 65536 - c < i
      · rw [if_pos (.inr q3)]
      · rw [if_neg (by simp; omega), con_stays hcE hb (by omega), if_neg (by simp)]
    · rw [if_neg q2]
      rw [if_neg (by omega), if_neg q2] at h
      have hk : ∀ x ∈ T.kids, Shw x := by
        rcases shw_kids hs with w | ⟨_, _, w⟩
        · exact absurd w q2
        · exact w
      have hl : ∀ (l : List Tree) (p : Nat), (∀ x ∈ l, x ∈ T.kids) → (freesT T.kind p l c t).1 ≤ 0 → insC i b T.kind p l c false = (l, false) := by
        intro l
        induction l with
        | nil => intro p _ _; rw [insC]
        | cons x l ihl =>
          intro p hx hh
          rw [freesT] at hh
          simp only [mx_eq] at hh
          have hm := hx x (by simp)
          have s1 := sizesN_mem hm
          rw [insC, ih x hm (c + (bndF T.kind p).1) (t + (bndF T.kind p).2) (hk x hm) (by omega) (by omega)]
          simp only []
          rw [ihl (p + 1) (fun y hy => hx y (by simp [hy])) (by omega)]
      rw [hl T.kids 0 (fun x hx => hx) h]
      cases T with
      | nil => exact absurd rfl hT
      | node => rfl
theorem conR_closed {T b : Tree} {i : Int} (hT : termE T = 0) (hc : closedF T = true) (hz : sizeN T ≤ 80) (hb : conE b = 0) (hcb : closedF b = true) (hi : 0 ≤ i) : conR T i b = (T, 0) := by
  have h := inC_closed hi hb T 0 0 (.inr (.inl (termE_ok hT).1)) (by omega) (closed_free hT hc).1
  unfold conR
  rw [if_neg (by simp [hT]), if_neg (by simp [hb]), if_neg (by simp [hcb]; omega), h, if_neg (by simp)]
  unfold sizedR
  rw [if_neg (show ¬ 65536 < sizeN T by omega)]
end Sb
end Go.Proofs.YtoajaklekmbcdaaGreat
