/- What the proof stands on, part 4: what functions of the program compute, and plain facts about it. -/
import Derived.Deep.Slices
import Derived.Deep.Fields
import Derived.ChangeSame
import Derived.SizedLaws
import Derived.ProofKit
import Derived.OpenShut
import Derived.Carry
import Derived.Test.YtlgajkoplklkiaaP3
import Derived.Test.YtlgajkoplklkiaaP2
set_option linter.all false
namespace Go.Proofs.Ytlgajkoplklkiaa
namespace Mc
open Go Go.Mq
set_option linter.all false

/-! The walk: texts put one behind the other -/
def putF : List ByteArray → ByteArray → Int → ByteArray × Int
  | [], s, e => (s, e)
  | x :: l, s, e => putF l (if e = 0 then s ++ x else s) (if 16384 < (if e = 0 then s ++ x else s).size then 3 else e)
def wOK (s : ByteArray) (e : Int) : Prop := (e = 0 → s.size ≤ 16384) ∧ s.size ≤ 2000000
theorem putF_step {x s : ByteArray} {e : Int} (hx : x.size ≤ 1000000) (h : wOK s e) : wOK (if e = 0 then s ++ x else s) (if 16384 < (if e = 0 then s ++ x else s).size then 3 else e) := by
  unfold wOK at *
  have hs : (s ++ x).size = s.size + x.size := ByteArray.size_append
  by_cases he : e = 0
  · have := h.1 he
    rw [if_pos he]
    refine ⟨fun q => ?_, by omega⟩
    apply Decidable.byContradiction
    intro hn
    rw [if_pos (by omega)] at q
    cases q
  · rw [if_neg he]
    refine ⟨fun q => ?_, h.2⟩
    by_cases h1 : 16384 < s.size
    · rw [if_pos h1] at q; cases q
    · omega
theorem putF_ok : ∀ {l : List ByteArray} {s : ByteArray} {e : Int}, (∀ x ∈ l, x.size ≤ 1000000) → wOK s e → wOK (putF l s e).1 (putF l s e).2
  | [], s, e, _, h => h
  | x :: l, s, e, hl, h => by
    rw [putF]
    exact putF_ok (fun y hy => hl y (by simp [hy])) (putF_step (hl x (by simp)) h)
theorem getB_mem {l : List ByteArray} {i : Nat} (h : i < l.length) : l.getD i ByteArray.empty ∈ l := by
  rw [List.getD_eq_getElem?_getD, List.getElem?_eq_getElem h]; exact List.getElem_mem h
set_option maxHeartbeats 16000000 in
set_option maxRecDepth 10000 in
theorem put_false (l : List ByteArray) (s : ByteArray) (e : Int) (hu : false = true ∨ (e = 0 ∧ 0 < l.length)) (hl : ∀ x ∈ l, x.size ≤ 1000000) (hw : wOK s e) :
    Fun P 108 [.ref 0 0, .row 2 l.length] (WO false s e ++ [(2, .row 9 (.strs l))]) 3 (.tuple []) (WOi 3 true (putF l s e).1 (putF l s e).2) 4 := by
  generalize hv : putF l s e = R
  refine Fun.of_body tt [] [] (Try.func108) rfl rfl rfl (Nat.le_of_ble_eq_true rfl) fun g => ?_
  repeat' ((first
    | refine then_go hm htt ?_
    | refine Side.go ?_
    | refine Hyp.go fun hlen => ?_
    | refine Split.ct ?_
    | refine Split.cf ?_
    | refine Split.tt ?_
    | refine Split.ff ?_
    | refine Indep.go ?_
    | refine Split.go (fun hc => ?_) fun hc => ?_) <;> conv => whnf)
  refine loop_go (α := Nat × Bool × ByteArray × Int) (fun p => ⟨[(0, .ref 0 0), (6, .row 2 l.length), (7, .d (.int .i64 l.length)), (8, .d (.int .i64 p.1))], 31, [(0, WC 3 p.2.1 p.2.2.1 p.2.2.2), (2, .row 9 (.strs l)), (3, WB p.2.2.1)], 4, g⟩)
    (fun p => p.1 ≤ l.length ∧ (p.2.1 = true ∨ (p.1 = 0 ∧ p.2.2.2 = 0 ∧ 0 < l.length)) ∧ putF (l.drop p.1) p.2.2.1 p.2.2.2 = R ∧ wOK p.2.2.1 p.2.2.2) (fun p => l.length - p.1)
    (0, false, s, e) ⟨by simp, (by rcases hu with hu | hu; cases hu; exact .inr ⟨rfl, hu.1, hu.2⟩), hv, hw⟩
    (Ent.mv 1 rfl rfl rfl rfl (by repeat' first | exact trivial | apply And.intro | rfl) (by repeat' first | exact trivial | apply And.intro | rfl)) (fun _ => rfl) fun p hpre => ?_
  obtain ⟨i, v, t, f⟩ := p
  obtain ⟨hp1, hp2, hp3, hp4⟩ := hpre
  simp only [] at hp1 hp2 hp3 hp4
  by_cases hi : i < l.length
  · have hx := hl _ (getB_mem hi)
    rw [dropB_step hi, putF] at hp3
    have hix : l.getD i ByteArray.empty = l.getD ((i : Int).toNat * 1) ByteArray.empty := by rw [show (i : Int).toNat * 1 = i by omega]
    rw [hix] at hp3 hx
    have hst := putF_step hx hp4
    have hts : (t ++ l.getD ((i : Int).toNat * 1) ByteArray.empty).size = t.size + (l.getD ((i : Int).toNat * 1) ByteArray.empty).size := ByteArray.size_append
    by_cases hf : f = 0
    · subst hf
      rw [if_pos rfl] at hp3 hst
      have hws := wstr_ok v t (l.getD ((i : Int).toNat * 1) ByteArray.empty) 0 (by unfold maxN; have := hp4.2; omega)
      have hln := wlen_ok true (t ++ l.getD ((i : Int).toNat * 1) ByteArray.empty) 0
      have fin : ∀ e' : Int, (if 16384 < (t ++ l.getD ((i : Int).toNat * 1) ByteArray.empty).size then 3 else (0 : Int)) = e' → True := fun _ _ => trivial
      cases v
      all_goals
        by_cases hbig : 16384 < (t ++ l.getD ((i : Int).toNat * 1) ByteArray.empty).size
        · rw [if_pos hbig] at hp3 hst
          repeat' ((first
            | refine then_go hm htt ?_
            | refine Side.go ?_
            | refine Hyp.go fun hlen => ?_
            | refine Split.ct ?_
            | refine Split.cf ?_
            | refine Split.tt ?_
            | refine Split.ff ?_
            | refine Indep.go ?_
            | refine CallG.go hws [0, 3] ?_
            | refine CallG.go hln [0, 4] ?_
            | refine Side.mk (show ((i : Int).toNat * 1 < l.length) from by omega) ?_
            | refine Side.mk (show (0 : Int) ≤ (i : Int) ∧ (i : Int) < (l.length : Int) from ⟨by omega, by omega⟩) ?_
            | refine Split.of_true (show decide (((t ++ l.getD ((i : Int).toNat * 1) ByteArray.empty).size : Int) > 16384) = true from decide_eq_true (by omega)) ?_
            | refine Split.go (fun hc => ?_) fun hc => ?_) <;> conv => whnf)
          exact ⟨(i + 1, true, t ++ l.getD ((i : Int).toNat * 1) ByteArray.empty, 3), ⟨by simp only []; omega, .inl rfl, hp3, hst⟩, by simp only []; omega, Ent.re [0, 1, 2, 4] rfl rfl rfl rfl rfl rfl (by repeat' first | exact trivial | apply And.intro | rfl | (refine int_eq ?_; rw [wrap64] <;> omega)) (by repeat' first | exact trivial | apply And.intro | rfl)⟩
        · rw [if_neg hbig] at hp3 hst
          repeat' ((first
            | refine then_go hm htt ?_
            | refine Side.go ?_
            | refine Hyp.go fun hlen => ?_
            | refine Split.ct ?_
            | refine Split.cf ?_
            | refine Split.tt ?_
            | refine Split.ff ?_
            | refine Indep.go ?_
            | refine CallG.go hws [0, 3] ?_
            | refine CallG.go hln [0, 4] ?_
            | refine Side.mk (show ((i : Int).toNat * 1 < l.length) from by omega) ?_
            | refine Side.mk (show (0 : Int) ≤ (i : Int) ∧ (i : Int) < (l.length : Int) from ⟨by omega, by omega⟩) ?_
            | refine Split.of_false (show decide (((t ++ l.getD ((i : Int).toNat * 1) ByteArray.empty).size : Int) > 16384) = false from decide_eq_false (by omega)) ?_
            | refine Split.go (fun hc => ?_) fun hc => ?_) <;> conv => whnf)
          exact ⟨(i + 1, true, t ++ l.getD ((i : Int).toNat * 1) ByteArray.empty, 0), ⟨by simp only []; omega, .inl rfl, hp3, hst⟩, by simp only []; omega, Ent.re [0, 1, 2, 4] rfl rfl rfl rfl rfl rfl (by repeat' first | exact trivial | apply And.intro | rfl | (refine int_eq ?_; rw [wrap64] <;> omega)) (by repeat' first | exact trivial | apply And.intro | rfl)⟩
    · rw [if_neg hf] at hp3 hst
      have hvt : v = true := by rcases hp2 with h | h; exact h; exact absurd h.2.1 hf
      subst hvt
      have hln := wlen_ok true t f
      by_cases hbig : 16384 < t.size
      · rw [if_pos hbig] at hp3 hst
        repeat' ((first
          | refine then_go hm htt ?_
          | refine Side.go ?_
          | refine Hyp.go fun hlen => ?_
          | refine Split.ct ?_
          | refine Split.cf ?_
          | refine Split.tt ?_
          | refine Split.ff ?_
          | refine Indep.go ?_
          | refine CallG.go hln [0, 3] ?_
          | refine Side.mk (show ((i : Int).toNat * 1 < l.length) from by omega) ?_
          | refine Side.mk (show (0 : Int) ≤ (i : Int) ∧ (i : Int) < (l.length : Int) from ⟨by omega, by omega⟩) ?_
          | refine Split.of_true (show decide ((t.size : Int) > 16384) = true from decide_eq_true (by omega)) ?_
          | refine Split.go (fun hc => ?_) fun hc => ?_) <;> conv => whnf)
        exact ⟨(i + 1, true, t, 3), ⟨by simp only []; omega, .inl rfl, hp3, hst⟩, by simp only []; omega, Ent.re [0, 1, 2, 3] rfl rfl rfl rfl rfl rfl (by repeat' first | exact trivial | apply And.intro | rfl | (refine int_eq ?_; rw [wrap64] <;> omega)) (by repeat' first | exact trivial | apply And.intro | rfl)⟩
      · rw [if_neg hbig] at hp3 hst
        repeat' ((first
          | refine then_go hm htt ?_
          | refine Side.go ?_
          | refine Hyp.go fun hlen => ?_
          | refine Split.ct ?_
          | refine Split.cf ?_
          | refine Split.tt ?_
          | refine Split.ff ?_
          | refine Indep.go ?_
          | refine CallG.go hln [0, 3] ?_
          | refine Side.mk (show ((i : Int).toNat * 1 < l.length) from by omega) ?_
          | refine Side.mk (show (0 : Int) ≤ (i : Int) ∧ (i : Int) < (l.length : Int) from ⟨by omega, by omega⟩) ?_
          | refine Split.of_false (show decide ((t.size : Int) > 16384) = false from decide_eq_false (by omega)) ?_
          | refine Split.go (fun hc => ?_) fun hc => ?_) <;> conv => whnf)
        exact ⟨(i + 1, true, t, f), ⟨by simp only []; omega, .inl rfl, hp3, hst⟩, by simp only []; omega, Ent.re [0, 1, 2, 3] rfl rfl rfl rfl rfl rfl (by repeat' first | exact trivial | apply And.intro | rfl | (refine int_eq ?_; rw [wrap64] <;> omega)) (by repeat' first | exact trivial | apply And.intro | rfl)⟩
  · have hvt : v = true := by rcases hp2 with h | h; exact h; have := h.1; omega
    subst hvt
    rw [List.drop_eq_nil_of_le (by omega), putF] at hp3
    rw [← hp3]
    repeat' ((first
      | refine then_go hm htt ?_
      | refine Side.go ?_
      | refine Hyp.go fun hlen => ?_
      | refine Split.ct ?_
      | refine Split.cf ?_
      | refine Split.tt ?_
      | refine Split.ff ?_
      | refine Indep.go ?_
      | refine Split.go (fun hc => ?_) fun hc => ?_) <;> conv => whnf)
    exact ret_objs rfl rfl rfl (by repeat' first | exact trivial | apply And.intro | rfl) (by decide)
set_option maxHeartbeats 16000000 in
set_option maxRecDepth 10000 in
theorem put_true (l : List ByteArray) (s : ByteArray) (e : Int) (hu : true = true ∨ (e = 0 ∧ 0 < l.length)) (hl : ∀ x ∈ l, x.size ≤ 1000000) (hw : wOK s e) :
    Fun P 108 [.ref 0 0, .row 2 l.length] (WO true s e ++ [(2, .row 9 (.strs l))]) 3 (.tuple []) (WOi 3 true (putF l s e).1 (putF l s e).2) 4 := by
  generalize hv : putF l s e = R
  refine Fun.of_body tt [] [] (Try.func108) rfl rfl rfl (Nat.le_of_ble_eq_true rfl) fun g => ?_
  repeat' ((first
    | refine then_go hm htt ?_
    | refine Side.go ?_
    | refine Hyp.go fun hlen => ?_
    | refine Split.ct ?_
    | refine Split.cf ?_
    | refine Split.tt ?_
    | refine Split.ff ?_
    | refine Indep.go ?_
    | refine Split.go (fun hc => ?_) fun hc => ?_) <;> conv => whnf)
  refine loop_go (α := Nat × Bool × ByteArray × Int) (fun p => ⟨[(0, .ref 0 0), (6, .row 2 l.length), (7, .d (.int .i64 l.length)), (8, .d (.int .i64 p.1))], 31, [(0, WC 3 p.2.1 p.2.2.1 p.2.2.2), (2, .row 9 (.strs l)), (3, WB p.2.2.1)], 4, g⟩)
    (fun p => p.1 ≤ l.length ∧ (p.2.1 = true ∨ (p.1 = 0 ∧ p.2.2.2 = 0 ∧ 0 < l.length)) ∧ putF (l.drop p.1) p.2.2.1 p.2.2.2 = R ∧ wOK p.2.2.1 p.2.2.2) (fun p => l.length - p.1)
    (0, true, s, e) ⟨by simp, .inl rfl, hv, hw⟩
    (Ent.mv 1 rfl rfl rfl rfl (by repeat' first | exact trivial | apply And.intro | rfl) (by repeat' first | exact trivial | apply And.intro | rfl)) (fun _ => rfl) fun p hpre => ?_
  obtain ⟨i, v, t, f⟩ := p
  obtain ⟨hp1, hp2, hp3, hp4⟩ := hpre
  simp only [] at hp1 hp2 hp3 hp4
  by_cases hi : i < l.length
  · have hx := hl _ (getB_mem hi)
    rw [dropB_step hi, putF] at hp3
    have hix : l.getD i ByteArray.empty = l.getD ((i : Int).toNat * 1) ByteArray.empty := by rw [show (i : Int).toNat * 1 = i by omega]
    rw [hix] at hp3 hx
    have hst := putF_step hx hp4
    have hts : (t ++ l.getD ((i : Int).toNat * 1) ByteArray.empty).size = t.size + (l.getD ((i : Int).toNat * 1) ByteArray.empty).size := ByteArray.size_append
    by_cases hf : f = 0
    · subst hf
      rw [if_pos rfl] at hp3 hst
      have hws := wstr_ok v t (l.getD ((i : Int).toNat * 1) ByteArray.empty) 0 (by unfold maxN; have := hp4.2; omega)
      have hln := wlen_ok true (t ++ l.getD ((i : Int).toNat * 1) ByteArray.empty) 0
      have fin : ∀ e' : Int, (if 16384 < (t ++ l.getD ((i : Int).toNat * 1) ByteArray.empty).size then 3 else (0 : Int)) = e' → True := fun _ _ => trivial
      cases v
      all_goals
        by_cases hbig : 16384 < (t ++ l.getD ((i : Int).toNat * 1) ByteArray.empty).size
        · rw [if_pos hbig] at hp3 hst
          repeat' ((first
            | refine then_go hm htt ?_
            | refine Side.go ?_
            | refine Hyp.go fun hlen => ?_
            | refine Split.ct ?_
            | refine Split.cf ?_
            | refine Split.tt ?_
            | refine Split.ff ?_
            | refine Indep.go ?_
            | refine CallG.go hws [0, 3] ?_
            | refine CallG.go hln [0, 4] ?_
            | refine Side.mk (show ((i : Int).toNat * 1 < l.length) from by omega) ?_
            | refine Side.mk (show (0 : Int) ≤ (i : Int) ∧ (i : Int) < (l.length : Int) from ⟨by omega, by omega⟩) ?_
            | refine Split.of_true (show decide (((t ++ l.getD ((i : Int).toNat * 1) ByteArray.empty).size : Int) > 16384) = true from decide_eq_true (by omega)) ?_
            | refine Split.go (fun hc => ?_) fun hc => ?_) <;> conv => whnf)
          exact ⟨(i + 1, true, t ++ l.getD ((i : Int).toNat * 1) ByteArray.empty, 3), ⟨by simp only []; omega, .inl rfl, hp3, hst⟩, by simp only []; omega, Ent.re [0, 1, 2, 4] rfl rfl rfl rfl rfl rfl (by repeat' first | exact trivial | apply And.intro | rfl | (refine int_eq ?_; rw [wrap64] <;> omega)) (by repeat' first | exact trivial | apply And.intro | rfl)⟩
        · rw [if_neg hbig] at hp3 hst
          repeat' ((first
            | refine then_go hm htt ?_
            | refine Side.go ?_
            | refine Hyp.go fun hlen => ?_
            | refine Split.ct ?_
            | refine Split.cf ?_
            | refine Split.tt ?_
            | refine Split.ff ?_
            | refine Indep.go ?_
            | refine CallG.go hws [0, 3] ?_
            | refine CallG.go hln [0, 4] ?_
            | refine Side.mk (show ((i : Int).toNat * 1 < l.length) from by omega) ?_
            | refine Side.mk (show (0 : Int) ≤ (i : Int) ∧ (i : Int) < (l.length : Int) from ⟨by omega, by omega⟩) ?_
            | refine Split.of_false (show decide (((t ++ l.getD ((i : Int).toNat * 1) ByteArray.empty).size : Int) > 16384) = false from decide_eq_false (by omega)) ?_
            | refine Split.go (fun hc => ?_) fun hc => ?_) <;> conv => whnf)
          exact ⟨(i + 1, true, t ++ l.getD ((i : Int).toNat * 1) ByteArray.empty, 0), ⟨by simp only []; omega, .inl rfl, hp3, hst⟩, by simp only []; omega, Ent.re [0, 1, 2, 4] rfl rfl rfl rfl rfl rfl (by repeat' first | exact trivial | apply And.intro | rfl | (refine int_eq ?_; rw [wrap64] <;> omega)) (by repeat' first | exact trivial | apply And.intro | rfl)⟩
    · rw [if_neg hf] at hp3 hst
      have hvt : v = true := by rcases hp2 with h | h; exact h; exact absurd h.2.1 hf
      subst hvt
      have hln := wlen_ok true t f
      by_cases hbig : 16384 < t.size
      · rw [if_pos hbig] at hp3 hst
        repeat' ((first
          | refine then_go hm htt ?_
          | refine Side.go ?_
          | refine Hyp.go fun hlen => ?_
          | refine Split.ct ?_
          | refine Split.cf ?_
          | refine Split.tt ?_
          | refine Split.ff ?_
          | refine Indep.go ?_
          | refine CallG.go hln [0, 3] ?_
          | refine Side.mk (show ((i : Int).toNat * 1 < l.length) from by omega) ?_
          | refine Side.mk (show (0 : Int) ≤ (i : Int) ∧ (i : Int) < (l.length : Int) from ⟨by omega, by omega⟩) ?_
          | refine Split.of_true (show decide ((t.size : Int) > 16384) = true from decide_eq_true (by omega)) ?_
          | refine Split.go (fun hc => ?_) fun hc => ?_) <;> conv => whnf)
        exact ⟨(i + 1, true, t, 3), ⟨by simp only []; omega, .inl rfl, hp3, hst⟩, by simp only []; omega, Ent.re [0, 1, 2, 3] rfl rfl rfl rfl rfl rfl (by repeat' first | exact trivial | apply And.intro | rfl | (refine int_eq ?_; rw [wrap64] <;> omega)) (by repeat' first | exact trivial | apply And.intro | rfl)⟩
      · rw [if_neg hbig] at hp3 hst
        repeat' ((first
          | refine then_go hm htt ?_
          | refine Side.go ?_
          | refine Hyp.go fun hlen => ?_
          | refine Split.ct ?_
          | refine Split.cf ?_
          | refine Split.tt ?_
          | refine Split.ff ?_
          | refine Indep.go ?_
          | refine CallG.go hln [0, 3] ?_
          | refine Side.mk (show ((i : Int).toNat * 1 < l.length) from by omega) ?_
          | refine Side.mk (show (0 : Int) ≤ (i : Int) ∧ (i : Int) < (l.length : Int) from ⟨by omega, by omega⟩) ?_
          | refine Split.of_false (show decide ((t.size : Int) > 16384) = false from decide_eq_false (by omega)) ?_
          | refine Split.go (fun hc => ?_) fun hc => ?_) <;> conv => whnf)
        exact ⟨(i + 1, true, t, f), ⟨by simp only []; omega, .inl rfl, hp3, hst⟩, by simp only []; omega, Ent.re [0, 1, 2, 3] rfl rfl rfl rfl rfl rfl (by repeat' first | exact trivial | apply And.intro | rfl | (refine int_eq ?_; rw [wrap64] <;> omega)) (by repeat' first | exact trivial | apply And.intro | rfl)⟩
  · have hvt : v = true := by rcases hp2 with h | h; exact h; have := h.1; omega
    subst hvt
    rw [List.drop_eq_nil_of_le (by omega), putF] at hp3
    rw [← hp3]
    repeat' ((first
      | refine then_go hm htt ?_
      | refine Side.go ?_
      | refine Hyp.go fun hlen => ?_
      | refine Split.ct ?_
      | refine Split.cf ?_
      | refine Split.tt ?_
      | refine Split.ff ?_
      | refine Indep.go ?_
      | refine Split.go (fun hc => ?_) fun hc => ?_) <;> conv => whnf)
    exact ret_objs rfl rfl rfl (by repeat' first | exact trivial | apply And.intro | rfl) (by decide)
theorem put_ok (u : Bool) (l : List ByteArray) (s : ByteArray) (e : Int) (hu : u = true ∨ (e = 0 ∧ 0 < l.length)) (hl : ∀ x ∈ l, x.size ≤ 1000000) (hw : wOK s e) :
    Fun P 108 [.ref 0 0, .row 2 l.length] (WO u s e ++ [(2, .row 9 (.strs l))]) 3 (.tuple []) (WOi 3 true (putF l s e).1 (putF l s e).2) 4 := by
  cases u
  · exact put_false l s e hu hl hw
  · exact put_true l s e hu hl hw
end Mc
end Go.Proofs.Ytlgajkoplklkiaa

namespace Go.Proofs.Ytlgajkoplklkiaa
namespace Mc
open Go Go.Mq
set_option linter.all false

/-! The walk: values are written -/
theorem renL_map (s : Nat → Nat) (f : Nat → Mq.Data) : ∀ l : List Nat, renL s (l.map fun i => AVal.d (f i)) = l.map fun i => AVal.d (f i)
  | [] => rfl
  | x :: l => by rw [List.map_cons, renL, renL_map s f l]; rfl
theorem unD_ren (s : Nat → Nat) (y : Mq.Data) : (unD y).ren s = unD y := by
  cases y <;> first | rfl | (show AVal.agg _ = AVal.agg _; rw [renL_map])
theorem underL_map (k : Nat) (f : Nat → Mq.Data) : ∀ l : List Nat, underL k (l.map fun i => AVal.d (f i)) = true
  | [] => rfl
  | x :: l => by rw [List.map_cons, underL, underL_map k f l]; rfl
theorem unD_under (k : Nat) (y : Mq.Data) : (unD y).under k = true := by
  cases y <;> first | rfl | (show underL k _ = true; rw [underL_map])
theorem inv_args (s : Nat → Nat) (y : Mq.Data) (a : AVal) (b : AVal) (h : a.ren s = b) : renL s [unD y, a] = [unD y, b] := by
  show [(unD y).ren s, a.ren s] = _
  rw [unD_ren, h]
theorem inv_under (y : Mq.Data) (a : AVal) (k : Nat) (h : a.under k = true) : underL k [unD y, a] = true := by
  show ((unD y).under k && (a.under k && true)) = true
  rw [unD_under, h]; rfl
def sTrue : ByteArray := ⟨#[116, 114, 117, 101]⟩
def sFalse : ByteArray := ⟨#[102, 97, 108, 115, 101]⟩
def sUnit : ByteArray := ⟨#[40, 32, 41]⟩
def sL : ByteArray := ⟨#[123]⟩
def sR : ByteArray := ⟨#[32, 125]⟩
def sC : ByteArray := ⟨#[32, 44]⟩
def sS : ByteArray := ⟨#[32]⟩
def sE : ByteArray := ⟨#[32, 61, 32]⟩
def sP : ByteArray := ⟨#[32, 40, 32]⟩
def sQ : ByteArray := ⟨#[32, 41]⟩
abbrev Wr := ByteArray × Int
def noneF (w : Wr) : Wr := (w.1, if w.2 = 0 then 25 else w.2)
mutual
def wrV : Vl → Wr → Wr
  | .num n, w => putF [numF n] w.1 w.2
  | .tru b, w => putF [if b then sTrue else sFalse] w.1 w.2
  | .unt, w => putF [sUnit] w.1 w.2
  | .rcd ls ps, w => let r := wrL true ls ps (putF [sL] w.1 w.2); if r.2 then r.1 else putF [sR] r.1.1 r.1.2
  | .tag nm _ p, w => if w.2 ≠ 0 then w else let r := wrV p (putF [nm, sP] w.1 w.2); putF [sQ] r.1 r.2
  | .clo _ _ _, w => noneF w
  | .pkd _ _, w => noneF w
def wrL : Bool → List ByteArray → List Vl → Wr → Wr × Bool
  | _, _, [], w => (w, false)
  | fst, ls, p :: ps, w => if w.2 ≠ 0 then (w, true) else
    let w1 := if fst then w else putF [sC] w.1 w.2
    wrL false (ls.drop 1) ps (wrV p (putF [sS, ls.getD 0 ByteArray.empty, sE] w1.1 w1.2))
end
def shut : Vl → Bool
  | .clo _ _ _ => true
  | .pkd _ _ => true
  | _ => false
/-- Writing one's value does what is reckoned. -/
structure WrOK (v : Vl) : Prop where
  h : ∃ t y f, vD v = .iface t y ∧ MethOK P t "marquetry/machine.write" f ∧ Bodied P f ∧ ∀ (u : Bool) (s : ByteArray) (e : Int), (u = true ∨ e = 0) → wOK s e → wOK (wrV v (s, e)).1 (wrV v (s, e)).2 ∧
    Fun P f [unD y, .ref 0 0] (WO u s e) 2 (.tuple []) (WOi 2 (u || !shut v) (wrV v (s, e)).1 (wrV v (s, e)).2) 3
theorem methOK {t : TypeId} {m : String} {f : FuncId} (i : TypeInfo) (mi) (h1 : P.info? t = some i) (h2 : i.methods.find? (·.name == m) = some mi) (h3 : mi.path = #[]) (h4 : mi.func = some (f, false)) (h5 : ∃ d, P.underlying t = some d ∧ (match d with | .pointer _ => False | _ => True)) : MethOK P t m f := ⟨⟨i, mi, h1, h2, h3, h4⟩, h5⟩
set_option maxRecDepth 100000 in
theorem meth_number : MethOK P 71 "marquetry/machine.write" 107 :=
  methOK ((P.info? 71).getD default) ((((P.info? 71).getD default).methods.find? (·.name == "marquetry/machine.write")).getD default) (by kernel_rfl) (by kernel_rfl) (by kernel_rfl) (by kernel_rfl) ⟨(P.underlying 71).getD default, by kernel_rfl, trivial⟩
set_option maxRecDepth 100000 in
theorem meth_truth : MethOK P 72 "marquetry/machine.write" 115 :=
  methOK ((P.info? 72).getD default) ((((P.info? 72).getD default).methods.find? (·.name == "marquetry/machine.write")).getD default) (by kernel_rfl) (by kernel_rfl) (by kernel_rfl) (by kernel_rfl) ⟨(P.underlying 72).getD default, by kernel_rfl, trivial⟩
set_option maxRecDepth 100000 in
theorem meth_unit : MethOK P 74 "marquetry/machine.write" 116 :=
  methOK ((P.info? 74).getD default) ((((P.info? 74).getD default).methods.find? (·.name == "marquetry/machine.write")).getD default) (by kernel_rfl) (by kernel_rfl) (by kernel_rfl) (by kernel_rfl) ⟨(P.underlying 74).getD default, by kernel_rfl, trivial⟩
set_option maxRecDepth 100000 in
theorem meth_record : MethOK P 104 "marquetry/machine.write" 118 :=
  methOK ((P.info? 104).getD default) ((((P.info? 104).getD default).methods.find? (·.name == "marquetry/machine.write")).getD default) (by kernel_rfl) (by kernel_rfl) (by kernel_rfl) (by kernel_rfl) ⟨(P.underlying 104).getD default, by kernel_rfl, trivial⟩
set_option maxRecDepth 100000 in
theorem meth_tagged : MethOK P 108 "marquetry/machine.write" 119 :=
  methOK ((P.info? 108).getD default) ((((P.info? 108).getD default).methods.find? (·.name == "marquetry/machine.write")).getD default) (by kernel_rfl) (by kernel_rfl) (by kernel_rfl) (by kernel_rfl) ⟨(P.underlying 108).getD default, by kernel_rfl, trivial⟩
set_option maxRecDepth 100000 in
theorem meth_closure : MethOK P 76 "marquetry/machine.write" 117 :=
  methOK ((P.info? 76).getD default) ((((P.info? 76).getD default).methods.find? (·.name == "marquetry/machine.write")).getD default) (by kernel_rfl) (by kernel_rfl) (by kernel_rfl) (by kernel_rfl) ⟨(P.underlying 76).getD default, by kernel_rfl, trivial⟩
set_option maxRecDepth 100000 in
theorem meth_packed : MethOK P 110 "marquetry/machine.write" 120 :=
  methOK ((P.info? 110).getD default) ((((P.info? 110).getD default).methods.find? (·.name == "marquetry/machine.write")).getD default) (by kernel_rfl) (by kernel_rfl) (by kernel_rfl) (by kernel_rfl) ⟨(P.underlying 110).getD default, by kernel_rfl, trivial⟩
theorem one_le {x : ByteArray} (h : x.size ≤ 1000000) : ∀ y ∈ [x], y.size ≤ 1000000 := by intro y hy; rw [List.mem_singleton] at hy; rw [hy]; exact h
set_option maxHeartbeats 16000000 in
set_option maxRecDepth 10000 in
theorem wr_num (n : Int) (h0 : -1073741824 ≤ n) (h1 : n ≤ 1073741824) : WrOK (.num n) := by
  refine ⟨_, _, _, by rw [vD], meth_number, ⟨_, Try.func107, rfl, rfl⟩, fun u s e hu hw => ?_⟩
  have hnum := number_ok n (by omega) (by omega)
  have hns : ∀ x ∈ [numF n], x.size ≤ 1000000 := one_le (by have := Tm.numF_big h0 h1; omega)
  have hp := put_ok u [numF n] s e (by rcases hu with h | h; exact .inl h; exact .inr ⟨h, by simp⟩) hns hw
  rw [wrV]
  refine ⟨putF_ok hns hw, ?_⟩
  dsimp only
  generalize putF [numF n] s e = R at hp
  unfold WO at *
  unfold WOi WC WB at *
  cases u
  all_goals
    refine Fun.of_body tt [] [] (Try.func107) rfl rfl rfl (Nat.le_of_ble_eq_true rfl) fun g => ?_
    repeat' ((first
      | refine then_go hm htt ?_
      | refine Side.go ?_
      | refine Hyp.go fun hlen => ?_
      | refine Split.ct ?_
      | refine Split.cf ?_
      | refine Split.tt ?_
      | refine Split.ff ?_
      | refine Indep.go ?_
      | refine CallG.gp hnum ?_
      | refine CallG.go hp [0, 1, 2] ?_
      | refine Split.go (fun hc => ?_) fun hc => ?_) <;> conv => whnf)
    refine RetS.ent (σ' := ⟨[], 9, [(0, .cellsT (some 57) [.ref 0 0, .row 2 R.1.size, .d (.int .i64 R.2)]), (2, .row 5 (.ints .u8 (bytesI R.1)))], 3, g⟩) (Ent.re [0, 1, 3] rfl rfl rfl rfl rfl rfl (by repeat' first | exact trivial | apply And.intro | rfl | (refine int_eq ?_; rw [wrap64] <;> omega)) (by repeat' first | exact trivial | apply And.intro | rfl)) ?_
    exact ret_objs rfl rfl rfl (by repeat' first | exact trivial | apply And.intro | rfl) (by decide)
set_option maxHeartbeats 16000000 in
set_option maxRecDepth 10000 in
theorem wr_unt : WrOK .unt := by
  refine ⟨_, _, _, by rw [vD], meth_unit, ⟨_, Try.func116, rfl, rfl⟩, fun u s e hu hw => ?_⟩
  have hns : ∀ x ∈ [sUnit], x.size ≤ 1000000 := one_le (by decide)
  have hp := put_ok u [sUnit] s e (by rcases hu with h | h; exact .inl h; exact .inr ⟨h, by simp⟩) hns hw
  rw [wrV]
  refine ⟨putF_ok hns hw, ?_⟩
  dsimp only
  generalize putF [sUnit] s e = R at hp
  unfold WO at *
  unfold WOi WC WB sUnit at *
  cases u
  all_goals
    refine Fun.of_body tt [] [] (Try.func116) rfl rfl rfl (Nat.le_of_ble_eq_true rfl) fun g => ?_
    repeat' ((first
      | refine then_go hm htt ?_
      | refine Side.go ?_
      | refine Hyp.go fun hlen => ?_
      | refine Split.ct ?_
      | refine Split.cf ?_
      | refine Split.tt ?_
      | refine Split.ff ?_
      | refine Indep.go ?_
      | refine CallG.go hp [0, 1, 3] ?_
      | refine Split.go (fun hc => ?_) fun hc => ?_) <;> conv => whnf)
    refine RetS.ent (σ' := ⟨[], 7, [(0, .cellsT (some 57) [.ref 0 0, .row 2 R.1.size, .d (.int .i64 R.2)]), (2, .row 5 (.ints .u8 (bytesI R.1)))], 3, g⟩) (Ent.re [0, 1, 4] rfl rfl rfl rfl rfl rfl (by repeat' first | exact trivial | apply And.intro | rfl | (refine int_eq ?_; rw [wrap64] <;> omega)) (by repeat' first | exact trivial | apply And.intro | rfl)) ?_
    exact ret_objs rfl rfl rfl (by repeat' first | exact trivial | apply And.intro | rfl) (by decide)
set_option maxHeartbeats 16000000 in
set_option maxRecDepth 10000 in
theorem wr_tru (b : Bool) : WrOK (.tru b) := by
  refine ⟨_, _, _, by rw [vD], meth_truth, ⟨_, Try.func115, rfl, rfl⟩, fun u s e hu hw => ?_⟩
  have hns : ∀ x ∈ [if b then sTrue else sFalse], x.size ≤ 1000000 := one_le (by cases b <;> decide)
  have hp := put_ok u [if b then sTrue else sFalse] s e (by rcases hu with h | h; exact .inl h; exact .inr ⟨h, by simp⟩) hns hw
  rw [wrV]
  refine ⟨putF_ok hns hw, ?_⟩
  dsimp only
  generalize putF [if b then sTrue else sFalse] s e = R at hp
  unfold WO at *
  unfold WOi WC WB sTrue sFalse at *
  cases u <;> cases b
  all_goals
    refine Fun.of_body tt [] [] (Try.func115) rfl rfl rfl (Nat.le_of_ble_eq_true rfl) fun g => ?_
    repeat' ((first
      | refine then_go hm htt ?_
      | refine Side.go ?_
      | refine Hyp.go fun hlen => ?_
      | refine Split.ct ?_
      | refine Split.cf ?_
      | refine Split.tt ?_
      | refine Split.ff ?_
      | refine Indep.go ?_
      | refine CallG.go hp [0, 1, 2] ?_
      | refine Split.go (fun hc => ?_) fun hc => ?_) <;> conv => whnf)
    refine RetS.ent (σ' := ⟨[], 11, [(0, .cellsT (some 57) [.ref 0 0, .row 2 R.1.size, .d (.int .i64 R.2)]), (2, .row 5 (.ints .u8 (bytesI R.1)))], 3, g⟩) (Ent.re [0, 1, 3] rfl rfl rfl rfl rfl rfl (by repeat' first | exact trivial | apply And.intro | rfl | (refine int_eq ?_; rw [wrap64] <;> omega)) (by repeat' first | exact trivial | apply And.intro | rfl)) ?_
    exact ret_objs rfl rfl rfl (by repeat' first | exact trivial | apply And.intro | rfl) (by decide)
theorem noneF_ok {s : ByteArray} {e : Int} (h : wOK s e) : wOK (noneF (s, e)).1 (noneF (s, e)).2 := by
  unfold noneF wOK at *
  refine ⟨fun q => ?_, h.2⟩
  dsimp only at q
  by_cases he : e = 0
  · rw [if_pos he] at q; cases q
  · rw [if_neg he] at q; exact absurd q he
set_option maxHeartbeats 16000000 in
set_option maxRecDepth 10000 in
theorem none_ok (u : Bool) (s : ByteArray) (e : Int) : Fun P 105 [.ref 0 0] (WO u s e) 2 (.tuple []) (WO u (noneF (s, e)).1 (noneF (s, e)).2) 2 := by
  unfold WO WOi WC WB noneF
  by_cases he : e = 0
  · subst he
    dsimp only
    rw [if_pos rfl]
    cases u
    all_goals
      refine Fun.of_body tt [] [] (Try.func105) rfl rfl rfl (Nat.le_of_ble_eq_true rfl) fun g => ?_
      repeat' ((first
        | refine then_go hm htt ?_
        | refine Side.go ?_
        | refine Hyp.go fun hlen => ?_
        | refine Split.ct ?_
        | refine Split.cf ?_
        | refine Split.tt ?_
        | refine Split.ff ?_
        | refine Indep.go ?_
        | refine Split.go (fun hc => ?_) fun hc => ?_) <;> conv => whnf)
      exact ret_objs rfl rfl rfl (by repeat' first | exact trivial | apply And.intro | rfl) (by decide)
  · dsimp only
    rw [if_neg he]
    cases u
    all_goals
      refine Fun.of_body tt [] [] (Try.func105) rfl rfl rfl (Nat.le_of_ble_eq_true rfl) fun g => ?_
      repeat' ((first
        | refine then_go hm htt ?_
        | refine Side.go ?_
        | refine Hyp.go fun hlen => ?_
        | refine Split.ct ?_
        | refine Split.cf ?_
        | refine Split.tt ?_
        | refine Split.ff ?_
        | refine Indep.go ?_
        | refine Split.go (fun hc => ?_) fun hc => ?_) <;> conv => whnf)
      exact ret_objs rfl rfl rfl (by repeat' first | exact trivial | apply And.intro | rfl) (by decide)
set_option maxHeartbeats 16000000 in
set_option maxRecDepth 10000 in
theorem wr_clo (ty : Bool) (b : Tree) (e0 : Ev) : WrOK (.clo ty b e0) := by
  refine ⟨_, _, _, by rw [vD], meth_closure, ⟨_, Try.func117, rfl, rfl⟩, fun u s e hu hw => ?_⟩
  have hn := none_ok u s e
  rw [wrV]
  refine ⟨noneF_ok hw, ?_⟩
  generalize noneF (s, e) = R at hn
  unfold WO at *
  unfold WOi WC WB at *
  rcases eD_ptr e0 with hp | ⟨q, hp⟩
  all_goals
    rw [hp]
    cases u
    · refine Fun.of_body tt [] [] (Try.func117) rfl rfl rfl (Nat.le_of_ble_eq_true rfl) fun g => ?_
      repeat' ((first
        | refine then_go hm htt ?_
        | refine Side.go ?_
        | refine Hyp.go fun hlen => ?_
        | refine Split.ct ?_
        | refine Split.cf ?_
        | refine Split.tt ?_
        | refine Split.ff ?_
        | refine Indep.go ?_
        | refine CallG.go hn [0, 1] ?_
        | refine Split.go (fun hc => ?_) fun hc => ?_) <;> conv => whnf)
      refine RetS.ent (σ' := ⟨[], 6, [(0, .cellsT (some 57) [.d (.tree .nil), .row 2 R.1.size, .d (.int .i64 R.2)]), (2, .row 5 (.ints .u8 (bytesI R.1)))], 3, g⟩) (Ent.trans (Ent.re (σ' := ⟨[], 6, [(0, .cellsT (some 57) [.d (.tree .nil), .row 1 R.1.size, .d (.int .i64 R.2)]), (1, .row 5 (.ints .u8 (bytesI R.1)))], 2, g⟩) [0, 1] rfl rfl rfl rfl rfl rfl (by repeat' first | exact trivial | apply And.intro | rfl | (refine int_eq ?_; rw [wrap64] <;> omega)) (by repeat' first | exact trivial | apply And.intro | rfl)) (Ent.mv 1 rfl rfl rfl rfl (by repeat' first | exact trivial | apply And.intro | rfl) (by repeat' first | exact trivial | apply And.intro | rfl))) ?_
      exact ret_objs rfl rfl rfl (by repeat' first | exact trivial | apply And.intro | rfl) (by decide)
    · refine Fun.of_body tt [] [] (Try.func117) rfl rfl rfl (Nat.le_of_ble_eq_true rfl) fun g => ?_
      repeat' ((first
        | refine then_go hm htt ?_
        | refine Side.go ?_
        | refine Hyp.go fun hlen => ?_
        | refine Split.ct ?_
        | refine Split.cf ?_
        | refine Split.tt ?_
        | refine Split.ff ?_
        | refine Indep.go ?_
        | refine CallG.go hn [0, 1] ?_
        | refine Split.go (fun hc => ?_) fun hc => ?_) <;> conv => whnf)
      refine RetS.ent (σ' := ⟨[], 6, [(0, .cellsT (some 57) [.ref 0 0, .row 2 R.1.size, .d (.int .i64 R.2)]), (2, .row 5 (.ints .u8 (bytesI R.1)))], 3, g⟩) (Ent.trans (Ent.re (σ' := ⟨[], 6, [(0, .cellsT (some 57) [.ref 0 0, .row 1 R.1.size, .d (.int .i64 R.2)]), (1, .row 5 (.ints .u8 (bytesI R.1)))], 2, g⟩) [0, 1] rfl rfl rfl rfl rfl rfl (by repeat' first | exact trivial | apply And.intro | rfl | (refine int_eq ?_; rw [wrap64] <;> omega)) (by repeat' first | exact trivial | apply And.intro | rfl)) (Ent.mv 1 rfl rfl rfl rfl (by repeat' first | exact trivial | apply And.intro | rfl) (by repeat' first | exact trivial | apply And.intro | rfl))) ?_
      exact ret_objs rfl rfl rfl (by repeat' first | exact trivial | apply And.intro | rfl) (by decide)
set_option maxHeartbeats 16000000 in
set_option maxRecDepth 10000 in
theorem wr_pkd (c : Tree) (p : Vl) : WrOK (.pkd c p) := by
  refine ⟨_, _, _, by rw [vD], meth_packed, ⟨_, Try.func120, rfl, rfl⟩, fun u s e hu hw => ?_⟩
  have hn := none_ok u s e
  rw [wrV]
  refine ⟨noneF_ok hw, ?_⟩
  generalize noneF (s, e) = R at hn
  unfold WO at *
  unfold WOi WC WB at *
  obtain ⟨t, y, hy⟩ := vD_if p
  all_goals
    rw [hy]
    cases u
    · refine Fun.of_body tt [] [] (Try.func120) rfl rfl rfl (Nat.le_of_ble_eq_true rfl) fun g => ?_
      repeat' ((first
        | refine then_go hm htt ?_
        | refine Side.go ?_
        | refine Hyp.go fun hlen => ?_
        | refine Split.ct ?_
        | refine Split.cf ?_
        | refine Split.tt ?_
        | refine Split.ff ?_
        | refine Indep.go ?_
        | refine CallG.go hn [0, 1] ?_
        | refine Split.go (fun hc => ?_) fun hc => ?_) <;> conv => whnf)
      refine RetS.ent (σ' := ⟨[], 6, [(0, .cellsT (some 57) [.d (.tree .nil), .row 2 R.1.size, .d (.int .i64 R.2)]), (2, .row 5 (.ints .u8 (bytesI R.1)))], 3, g⟩) (Ent.trans (Ent.re (σ' := ⟨[], 6, [(0, .cellsT (some 57) [.d (.tree .nil), .row 1 R.1.size, .d (.int .i64 R.2)]), (1, .row 5 (.ints .u8 (bytesI R.1)))], 2, g⟩) [0, 1] rfl rfl rfl rfl rfl rfl (by repeat' first | exact trivial | apply And.intro | rfl | (refine int_eq ?_; rw [wrap64] <;> omega)) (by repeat' first | exact trivial | apply And.intro | rfl)) (Ent.mv 1 rfl rfl rfl rfl (by repeat' first | exact trivial | apply And.intro | rfl) (by repeat' first | exact trivial | apply And.intro | rfl))) ?_
      exact ret_objs rfl rfl rfl (by repeat' first | exact trivial | apply And.intro | rfl) (by decide)
    · refine Fun.of_body tt [] [] (Try.func120) rfl rfl rfl (Nat.le_of_ble_eq_true rfl) fun g => ?_
      repeat' ((first
        | refine then_go hm htt ?_
        | refine Side.go ?_
        | refine Hyp.go fun hlen => ?_
        | refine Split.ct ?_
        | refine Split.cf ?_
        | refine Split.tt ?_
        | refine Split.ff ?_
        | refine Indep.go ?_
        | refine CallG.go hn [0, 1] ?_
        | refine Split.go (fun hc => ?_) fun hc => ?_) <;> conv => whnf)
      refine RetS.ent (σ' := ⟨[], 6, [(0, .cellsT (some 57) [.ref 0 0, .row 2 R.1.size, .d (.int .i64 R.2)]), (2, .row 5 (.ints .u8 (bytesI R.1)))], 3, g⟩) (Ent.trans (Ent.re (σ' := ⟨[], 6, [(0, .cellsT (some 57) [.ref 0 0, .row 1 R.1.size, .d (.int .i64 R.2)]), (1, .row 5 (.ints .u8 (bytesI R.1)))], 2, g⟩) [0, 1] rfl rfl rfl rfl rfl rfl (by repeat' first | exact trivial | apply And.intro | rfl | (refine int_eq ?_; rw [wrap64] <;> omega)) (by repeat' first | exact trivial | apply And.intro | rfl)) (Ent.mv 1 rfl rfl rfl rfl (by repeat' first | exact trivial | apply And.intro | rfl) (by repeat' first | exact trivial | apply And.intro | rfl))) ?_
      exact ret_objs rfl rfl rfl (by repeat' first | exact trivial | apply And.intro | rfl) (by decide)
end Mc
end Go.Proofs.Ytlgajkoplklkiaa

namespace Go.Proofs.Ytlgajkoplklkiaa
namespace Mc
open Go Go.Mq
set_option linter.all false

/-! The walk: tagged values are written -/
theorem two_le {x z : ByteArray} (h : x.size ≤ 1000000) (h2 : z.size ≤ 1000000) : ∀ y ∈ [x, z], y.size ≤ 1000000 := by
  intro y hy
  rcases List.mem_cons.1 hy with rfl | hy
  · exact h
  · exact one_le h2 y hy
set_option maxHeartbeats 16000000 in
set_option maxRecDepth 10000 in
theorem wr_tag (nm : ByteArray) (sm : Tree) (p : Vl) (hnm : nm.size ≤ 1000) (hp : WrOK p) : WrOK (.tag nm sm p) := by
  obtain ⟨t, y, f, hy, hme, hbo, hI⟩ := hp
  refine ⟨_, _, _, by rw [vD], meth_tagged, ⟨_, Try.func119, rfl, rfl⟩, fun u s e hu hw => ?_⟩
  rw [hy, wrV]
  by_cases he : e = 0
  · subst he
    rw [if_neg (by simp)]
    have hn1 : ∀ x ∈ [nm, sP], x.size ≤ 1000000 := two_le (by omega) (by decide)
    have hp1 := put_ok u [nm, sP] s 0 (.inr ⟨rfl, by simp⟩) hn1 hw
    have hw1 := putF_ok hn1 hw
    dsimp only
    generalize putF [nm, sP] s 0 = R1 at hp1 hw1
    obtain ⟨s1, e1⟩ := R1
    dsimp only at hp1 hw1 ⊢
    obtain ⟨hw2, hI2⟩ := hI true s1 e1 (.inl rfl) hw1
    generalize wrV p (s1, e1) = R2 at hw2 hI2
    obtain ⟨s2, e2⟩ := R2
    dsimp only at hw2 hI2 ⊢
    have hn3 : ∀ x ∈ [sQ], x.size ≤ 1000000 := one_le (by decide)
    have hp3 := put_ok true [sQ] s2 e2 (.inl rfl) hn3 hw2
    refine ⟨putF_ok hn3 hw2, ?_⟩
    generalize putF [sQ] s2 e2 = R3 at hp3
    unfold WO at *
    unfold WOi WC WB sP sQ at *
    cases u
    all_goals
      refine Fun.of_body tt [] [] (Try.func119) rfl rfl rfl (Nat.le_of_ble_eq_true rfl) fun g => ?_
      repeat' ((first
        | refine then_go hm htt ?_
        | refine Side.go ?_
        | refine Hyp.go fun hlen => ?_
        | refine Split.ct ?_
        | refine Split.cf ?_
        | refine Split.tt ?_
        | refine Split.ff ?_
        | refine Indep.go ?_
        | refine CallG.go hp1 [0, 1, 3] ?_
        | refine InvV.mk f rfl hme hbo ?_
        | refine CallG.fun hI2 [0, 4] rfl rfl (inv_args _ _ _ _ rfl) rfl rfl (inv_under _ _ _ rfl) (by repeat' first | exact trivial | apply And.intro | rfl | (refine int_eq ?_; rw [wrap64] <;> omega)) rfl ?_
        | refine CallG.go hp3 [0, 5, 6] ?_
        | refine Split.go (fun hc => ?_) fun hc => ?_) <;> conv => whnf)
      refine RetS.ent (σ' := ⟨[], 21, [(0, .cellsT (some 57) [.ref 0 0, .row 2 R3.1.size, .d (.int .i64 R3.2)]), (2, .row 5 (.ints .u8 (bytesI R3.1)))], 3, g⟩) (Ent.re [0, 1, 7] rfl rfl rfl rfl rfl rfl (by repeat' first | exact trivial | apply And.intro | rfl | (refine int_eq ?_; rw [wrap64] <;> omega)) (by repeat' first | exact trivial | apply And.intro | rfl)) ?_
      exact ret_objs rfl rfl rfl (by repeat' first | exact trivial | apply And.intro | rfl) (by decide)
  · have hut : u = true := by rcases hu with h | h; exact h; exact absurd h he
    subst hut
    rw [if_pos he]
    refine ⟨hw, ?_⟩
    unfold WO at *
    unfold WOi WC WB at *
    refine Fun.of_body tt [] [] (Try.func119) rfl rfl rfl (Nat.le_of_ble_eq_true rfl) fun g => ?_
    repeat' ((first
      | refine then_go hm htt ?_
      | refine Side.go ?_
      | refine Hyp.go fun hlen => ?_
      | refine Split.ct ?_
      | refine Split.cf ?_
      | refine Split.tt ?_
      | refine Split.ff ?_
      | refine Indep.go ?_
      | refine Split.go (fun hc => ?_) fun hc => ?_) <;> conv => whnf)
    refine RetS.ent (σ' := ⟨[], 21, [(0, .cellsT (some 57) [.ref 0 0, .row 2 s.size, .d (.int .i64 e)]), (2, .row 5 (.ints .u8 (bytesI s)))], 3, g⟩) (Ent.trans (Ent.re (σ' := ⟨[], 21, [(0, .cellsT (some 57) [.ref 0 0, .row 1 s.size, .d (.int .i64 e)]), (1, .row 5 (.ints .u8 (bytesI s)))], 2, g⟩) [0, 1] rfl rfl rfl rfl rfl rfl (by repeat' first | exact trivial | apply And.intro | rfl | (refine int_eq ?_; rw [wrap64] <;> omega)) (by repeat' first | exact trivial | apply And.intro | rfl)) (Ent.mv 1 rfl rfl rfl rfl (by repeat' first | exact trivial | apply And.intro | rfl) (by repeat' first | exact trivial | apply And.intro | rfl))) ?_
    exact ret_objs rfl rfl rfl (by repeat' first | exact trivial | apply And.intro | rfl) (by decide)
end Mc
end Go.Proofs.Ytlgajkoplklkiaa

namespace Go.Proofs.Ytlgajkoplklkiaa
namespace Mc
open Go Go.Mq
set_option linter.all false

/-! The walk: records are written -/
theorem dropV_step {l : List Vl} {i : Nat} (h : i < l.length) : l.drop i = l.getD i .unt :: l.drop (i + 1) := by
  rw [List.getD_eq_getElem?_getD, List.getElem?_eq_getElem h, List.drop_eq_getElem_cons h]; rfl
theorem three_le {x z v : ByteArray} (h : x.size ≤ 1000000) (h2 : z.size ≤ 1000000) (h3 : v.size ≤ 1000000) : ∀ y ∈ [x, z, v], y.size ≤ 1000000 := by
  intro y hy
  rcases List.mem_cons.1 hy with rfl | hy
  · exact h
  · exact two_le h2 h3 y hy
def recD (ls : List ByteArray) (ps : List Vl) : AVal := .agg [.d (.slice ls.length 1 fun i _ => .str (ls.getD i ByteArray.empty)), .d (.slice (ps.map vD).length 1 fun i _ => (ps.map vD).getD i .nils)]
set_option maxHeartbeats 32000000 in
set_option maxRecDepth 10000 in
theorem wr_loop (ls : List ByteArray) (ps : List Vl) (hl : ls.length = ps.length) (hz : ls.length ≤ 1048576) (hls : ∀ l ∈ ls, l.size ≤ 1000) (hI : ∀ i, i < ps.length → WrOK (ps.getD i .unt)) (u : Bool) (s : ByteArray) (e : Int) (hu : u = true ∨ e = 0) (hw : wOK s e) :
    wOK (wrV (.rcd ls ps) (s, e)).1 (wrV (.rcd ls ps) (s, e)).2 ∧ Fun P 118 [recD ls ps, .ref 0 0] (WO u s e) 2 (.tuple []) (WOi 2 true (wrV (.rcd ls ps) (s, e)).1 (wrV (.rcd ls ps) (s, e)).2) 3 := by
  have hpl : (ps.map vD).length = ps.length := List.length_map _
  rw [wrV]
  have hn1 : ∀ x ∈ [sL], x.size ≤ 1000000 := one_le (by decide)
  have hp1 := put_ok u [sL] s e (by rcases hu with h | h; exact .inl h; exact .inr ⟨h, by simp⟩) hn1 hw
  have hw1 := putF_ok hn1 hw
  dsimp only
  generalize putF [sL] s e = R1 at hp1 hw1
  obtain ⟨s1, e1⟩ := R1
  dsimp only at hp1 hw1 ⊢
  -- what the loop keeps
  have keep : ∀ (l : List ByteArray) (q : List Vl) (b : Bool) (w : Wr), (∀ v ∈ q, WrOK v) → (∀ x ∈ l, x.size ≤ 1000) → wOK w.1 w.2 → wOK (wrL b l q w).1.1 (wrL b l q w).1.2 := by
    intro l q
    induction q generalizing l with
    | nil => intro b w _ _ h; rw [wrL]; exact h
    | cons v q ih =>
      intro b w hv hl h
      rw [wrL]
      by_cases h0 : w.2 ≠ 0
      · rw [if_pos h0]; exact h
      · rw [if_neg h0]
        dsimp only
        refine ih _ _ _ (fun v hv' => hv v (by simp [hv'])) (fun x hx => hl x (List.mem_of_mem_drop hx)) ?_
        have hd : (l.getD 0 ByteArray.empty).size ≤ 1000 := by
          cases l with
          | nil => decide
          | cons x l => exact hl x (by simp)
        have a1 : wOK (if b = true then w else putF [sC] w.1 w.2).1 (if b = true then w else putF [sC] w.1 w.2).2 := by
          split
          · exact h
          · exact putF_ok (one_le (by decide)) h
        have a2 := putF_ok (l := [sS, l.getD 0 ByteArray.empty, sE]) (three_le (by decide) (by omega) (by decide)) a1
        obtain ⟨_, _, _, _, _, _, hh⟩ := hv v (by simp)
        exact (hh true _ _ (.inl rfl) a2).1
  have hk := keep ls ps true (s1, e1) (fun v hv => by
    obtain ⟨i, hi, rfl⟩ := List.getElem_of_mem hv
    have := hI i hi
    rw [List.getD_eq_getElem?_getD, List.getElem?_eq_getElem hi] at this
    exact this) hls hw1
  generalize hR : wrL true ls ps (s1, e1) = R at hk
  obtain ⟨⟨sr, er⟩, br⟩ := R
  dsimp only at hk ⊢
  refine ⟨by split; exact hk; exact putF_ok (one_le (by decide)) hk, ?_⟩
  generalize hF : (if br = true then (sr, er) else putF [sR] sr er) = F
  obtain ⟨sf, ef⟩ := F
  unfold WO at *
  unfold WOi WC WB recD sL at *
  cases u
  all_goals
    refine Fun.of_body tt [] [] (Try.func118) rfl rfl rfl (Nat.le_of_ble_eq_true rfl) fun g => ?_
    repeat' ((first
      | refine then_go hm htt ?_
      | refine Side.go ?_
      | refine Hyp.go fun hlen => ?_
      | refine Split.ct ?_
      | refine Split.cf ?_
      | refine Split.tt ?_
      | refine Split.ff ?_
      | refine Indep.go ?_
      | refine CallG.go hp1 [0, 1, 3] ?_
      | refine Split.go (fun hc => ?_) fun hc => ?_) <;> conv => whnf)
    refine loop_go (α := Nat × ByteArray × Int) (fun p => ⟨[(1, .ref 0 0), (2, .ref 2 0), (10, .d (.slice (ps.map vD).length 1 fun i _ => (ps.map vD).getD i .nils)), (11, .d (.int .i64 (ps.map vD).length)), (12, .d (.int .i64 p.1))], 42, [(0, .cellsT (some 57) [.ref 0 0, .row 3 p.2.1.size, .d (.int .i64 p.2.2)]), (2, .cells [.d (.slice ls.length 1 fun i _ => .str (ls.getD i ByteArray.empty)), .d (.slice (ps.map vD).length 1 fun i _ => (ps.map vD).getD i .nils)]), (3, .row 5 (.ints .u8 (bytesI p.2.1)))], 4, g⟩)
      (fun p => p.1 ≤ ps.length ∧ wOK p.2.1 p.2.2 ∧ wrL (decide (p.1 = 0)) (ls.drop p.1) (ps.drop p.1) (p.2.1, p.2.2) = ((sr, er), br)) (fun p => ps.length - p.1)
      (0, s1, e1) ⟨by simp, hw1, hR⟩
      (Ent.re [0, 1, 2, 4] rfl rfl rfl rfl rfl rfl (by repeat' first | exact trivial | apply And.intro | rfl | (refine int_eq ?_; rw [wrap64] <;> omega)) (by repeat' first | exact trivial | apply And.intro | rfl)) (fun _ => rfl) fun p hpre => ?_
    obtain ⟨i, t, f⟩ := p
    obtain ⟨hp1, hp2, hp3⟩ := hpre
    simp only [] at hp1 hp2 hp3
    by_cases hi : i < ps.length
    · rw [dropV_step hi, wrL, dropB_head, List.drop_drop] at hp3
      try dsimp only at hp3
      by_cases hf : f = 0
      · subst hf
        rw [if_neg (by simp)] at hp3
        obtain ⟨ty, y, fm, hy, hme, hbo, hIv⟩ := hI i hi
        have hpi : (ps.map vD).getD i .nils = .iface ty y := by rw [getD_map hi, hy]
        have hlab : (ls.getD i ByteArray.empty).size ≤ 1000 := hls _ (getB_mem (by omega))
        have hn2 : ∀ x ∈ [sS, ls.getD i ByteArray.empty, sE], x.size ≤ 1000000 := three_le (by decide) (by omega) (by decide)
        by_cases h0 : i = 0
        · subst h0
          rw [if_pos (by simp)] at hp3
          try dsimp only at hp3
          have hq := put_ok true [sS, ls.getD 0 ByteArray.empty, sE] t 0 (.inl rfl) hn2 hp2
          have hqw := putF_ok hn2 hp2
          generalize putF [sS, ls.getD 0 ByteArray.empty, sE] t 0 = R2 at hp3 hq hqw
          obtain ⟨s2, e2⟩ := R2
          try dsimp only at hp3
          try dsimp only at hq
          try dsimp only at hqw
          obtain ⟨hw3, hI3⟩ := hIv true s2 e2 (.inl rfl) hqw
          generalize wrV (ps.getD 0 .unt) (s2, e2) = R3 at hp3 hw3 hI3
          obtain ⟨s3, e3⟩ := R3
          try dsimp only at hp3
          try dsimp only at hw3
          try dsimp only at hI3
          unfold WO at hq hI3
          unfold WOi WC WB sS sE at *
          repeat' ((first
            | refine then_go hm htt ?_
            | refine Side.go ?_
            | refine Hyp.go fun hlen => ?_
            | refine Split.ct ?_
            | refine Split.cf ?_
            | refine Split.tt ?_
            | refine Split.ff ?_
            | refine Indep.go ?_
            | refine CallG.go hq [0, 3, 4] ?_
            | refine InvV.mk fm (congrArg AVal.d hpi) hme hbo ?_
            | refine CallG.fun hI3 [0, 5] rfl rfl (inv_args _ _ _ _ rfl) rfl rfl (inv_under _ _ _ rfl) (by repeat' first | exact trivial | apply And.intro | rfl | (refine int_eq ?_; rw [wrap64] <;> omega)) rfl ?_
            | refine Side.mk (show (0 : Int) ≤ ((0 : Nat) : Int) ∧ ((0 : Nat) : Int) < ((ps.map vD).length : Int) from ⟨by omega, by omega⟩) ?_
            | refine Side.mk (show (0 : Int) ≤ ((0 : Nat) : Int) ∧ ((0 : Nat) : Int) < (ls.length : Int) from ⟨by omega, by omega⟩) ?_
            | refine Split.go (fun hc => ?_) fun hc => ?_) <;> conv => whnf)
          have e0 : decide (0 + 1 = 0) = false := by decide
          exact ⟨(0 + 1, s3, e3), ⟨by simp only []; omega, hw3, by simp only []; rw [e0]; exact hp3⟩, by simp only []; omega, Ent.re [0, 1, 2, 6] rfl rfl rfl rfl rfl rfl (by repeat' first | exact trivial | apply And.intro | rfl | (refine int_eq ?_; rw [wrap64] <;> omega)) (by repeat' first | exact trivial | apply And.intro | rfl)⟩
        · rw [if_neg (by simp [h0])] at hp3
          try dsimp only at hp3
          have hn5 : ∀ x ∈ [sC], x.size ≤ 1000000 := one_le (by decide)
          have hq5 := put_ok true [sC] t 0 (.inl rfl) hn5 hp2
          have hqw5 := putF_ok hn5 hp2
          generalize putF [sC] t 0 = R5 at hp3 hq5 hqw5
          obtain ⟨s5, e5⟩ := R5
          try dsimp only at hp3
          try dsimp only at hq5
          try dsimp only at hqw5
          have hq := put_ok true [sS, ls.getD i ByteArray.empty, sE] s5 e5 (.inl rfl) hn2 hqw5
          have hqw := putF_ok hn2 hqw5
          generalize putF [sS, ls.getD i ByteArray.empty, sE] s5 e5 = R2 at hp3 hq hqw
          obtain ⟨s2, e2⟩ := R2
          try dsimp only at hp3
          try dsimp only at hq
          try dsimp only at hqw
          obtain ⟨hw3, hI3⟩ := hIv true s2 e2 (.inl rfl) hqw
          generalize wrV (ps.getD i .unt) (s2, e2) = R3 at hp3 hw3 hI3
          obtain ⟨s3, e3⟩ := R3
          try dsimp only at hp3
          try dsimp only at hw3
          try dsimp only at hI3
          unfold WO at hq hq5 hI3
          unfold WOi WC WB sC sS sE at *
          repeat' ((first
            | refine then_go hm htt ?_
            | refine Side.go ?_
            | refine Hyp.go fun hlen => ?_
            | refine Split.ct ?_
            | refine Split.cf ?_
            | refine Split.tt ?_
            | refine Split.ff ?_
            | refine Indep.go ?_
            | refine CallG.go hq5 [0, 3, 4] ?_
            | refine CallG.go hq [0, 5, 6] ?_
            | refine InvV.mk fm (congrArg AVal.d hpi) hme hbo ?_
            | refine CallG.fun hI3 [0, 7] rfl rfl (inv_args _ _ _ _ rfl) rfl rfl (inv_under _ _ _ rfl) (by repeat' first | exact trivial | apply And.intro | rfl | (refine int_eq ?_; rw [wrap64] <;> omega)) rfl ?_
            | refine Side.mk (show (0 : Int) ≤ (i : Int) ∧ (i : Int) < ((ps.map vD).length : Int) from ⟨by omega, by omega⟩) ?_
            | refine Side.mk (show (0 : Int) ≤ (i : Int) ∧ (i : Int) < (ls.length : Int) from ⟨by omega, by omega⟩) ?_
            | refine Split.go (fun hc => ?_) fun hc => ?_) <;> conv => whnf)
          have e0 : decide (i + 1 = 0) = false := by simp
          exact ⟨(i + 1, s3, e3), ⟨by simp only []; omega, hw3, by simp only []; rw [e0]; exact hp3⟩, by simp only []; omega, Ent.re [0, 1, 2, 8] rfl rfl rfl rfl rfl rfl (by repeat' first | exact trivial | apply And.intro | rfl | (refine int_eq ?_; rw [wrap64] <;> omega)) (by repeat' first | exact trivial | apply And.intro | rfl)⟩
      · rw [if_pos hf] at hp3
        obtain ⟨q1, q2, q3⟩ : t = sr ∧ f = er ∧ true = br := by cases hp3; exact ⟨rfl, rfl, rfl⟩
        subst q1 q2 q3
        rw [if_pos rfl] at hF
        obtain ⟨q4, q5⟩ : t = sf ∧ f = ef := by cases hF; exact ⟨rfl, rfl⟩
        subst q4 q5
        repeat' ((first
          | refine then_go hm htt ?_
          | refine Side.go ?_
          | refine Hyp.go fun hlen => ?_
          | refine Split.ct ?_
          | refine Split.cf ?_
          | refine Split.tt ?_
          | refine Split.ff ?_
          | refine Indep.go ?_
          | refine Side.mk (show (0 : Int) ≤ (i : Int) ∧ (i : Int) < ((ps.map vD).length : Int) from ⟨by omega, by omega⟩) ?_
          | refine Side.mk (show (0 : Int) ≤ (i : Int) ∧ (i : Int) < (ls.length : Int) from ⟨by omega, by omega⟩) ?_
          | refine Split.go (fun hc => ?_) fun hc => ?_) <;> conv => whnf)
        refine RetS.ent (σ' := ⟨[], 42, [(0, .cellsT (some 57) [.ref 0 0, .row 2 t.size, .d (.int .i64 f)]), (2, .row 5 (.ints .u8 (bytesI t)))], 3, g⟩) (Ent.re [0, 1, 3] rfl rfl rfl rfl rfl rfl (by repeat' first | exact trivial | apply And.intro | rfl | (refine int_eq ?_; rw [wrap64] <;> omega)) (by repeat' first | exact trivial | apply And.intro | rfl)) ?_
        exact ret_objs rfl rfl rfl (by repeat' first | exact trivial | apply And.intro | rfl) (by decide)
    · rw [List.drop_eq_nil_of_le (show ps.length ≤ i by omega), wrL] at hp3
      obtain ⟨q1, q2, q3⟩ : t = sr ∧ f = er ∧ false = br := by cases hp3; exact ⟨rfl, rfl, rfl⟩
      subst q1 q2 q3
      rw [if_neg (by decide)] at hF
      have hq := put_ok true [sR] t f (.inl rfl) (one_le (by decide)) hp2
      rw [hF] at hq
      unfold WO at hq
      unfold WOi WC WB sR at *
      repeat' ((first
        | refine then_go hm htt ?_
        | refine Side.go ?_
        | refine Hyp.go fun hlen => ?_
        | refine Split.ct ?_
        | refine Split.cf ?_
        | refine Split.tt ?_
        | refine Split.ff ?_
        | refine Indep.go ?_
        | refine CallG.go hq [0, 3, 4] ?_
        | refine Split.go (fun hc => ?_) fun hc => ?_) <;> conv => whnf)
      refine RetS.ent (σ' := ⟨[], 42, [(0, .cellsT (some 57) [.ref 0 0, .row 2 sf.size, .d (.int .i64 ef)]), (2, .row 5 (.ints .u8 (bytesI sf)))], 3, g⟩) (Ent.re [0, 1, 5] rfl rfl rfl rfl rfl rfl (by repeat' first | exact trivial | apply And.intro | rfl | (refine int_eq ?_; rw [wrap64] <;> omega)) (by repeat' first | exact trivial | apply And.intro | rfl)) ?_
      exact ret_objs rfl rfl rfl (by repeat' first | exact trivial | apply And.intro | rfl) (by decide)
theorem wr_rcd (ls : List ByteArray) (ps : List Vl) (hl : ls.length = ps.length) (hz : ls.length ≤ 1048576) (hls : ∀ l ∈ ls, l.size ≤ 1000) (hI : ∀ i, i < ps.length → WrOK (ps.getD i .unt)) : WrOK (.rcd ls ps) := by
  refine ⟨_, _, _, by rw [vD, vsD_map], meth_record, ⟨_, Try.func118, rfl, rfl⟩, fun u s e hu hw => ?_⟩
  obtain ⟨h1, h2⟩ := wr_loop ls ps hl hz hls hI u s e hu hw
  refine ⟨h1, ?_⟩
  have e1 : (u || !shut (.rcd ls ps)) = true := by show (u || !false) = true; simp
  rw [e1]
  exact h2
mutual
theorem wr_all {Q : Tree → Prop} {B : Nat} : ∀ v : Vl, okV Q B v → WrOK v
  | .num n, h => by rw [okV] at h; exact wr_num n h.1 h.2
  | .tru b, _ => wr_tru b
  | .unt, _ => wr_unt
  | .rcd ls ps, h => by rw [okV] at h; exact wr_rcd ls ps h.1 h.2.1 h.2.2.2 (wr_alls ps h.2.2.1)
  | .tag nm sm p, h => by rw [okV] at h; exact wr_tag nm sm p h.1 (wr_all p h.2)
  | .clo ty b e, _ => wr_clo ty b e
  | .pkd c p, _ => wr_pkd c p
theorem wr_alls {Q : Tree → Prop} {B : Nat} : ∀ l : List Vl, okVs Q B l → ∀ i, i < l.length → WrOK (l.getD i .unt)
  | [], _, i, hi => by simp at hi
  | v :: l, h, 0, _ => by rw [okVs] at h; exact wr_all v h.1
  | v :: l, h, i + 1, hi => by rw [okVs] at h; exact wr_alls l h.2 i (by simpa using hi)
end
end Mc
end Go.Proofs.Ytlgajkoplklkiaa

namespace Go.Proofs.Ytlgajkoplklkiaa
namespace Mc
open Go Go.Mq Tm Sb St
set_option linter.all false

/-! The walk: Run, Need -/
theorem all2_mono {I : Imm} {ρ ρ' : Nat → RB} {D D' : Nat → Prop} (hn : ∀ id, D id → D' id) (hρ : ∀ id, D id → ρ' id = ρ id) : ∀ {l : List AVal} {vs : List Value}, All2 I ρ D l vs → All2 I ρ' D' l vs
  | [], [], _ => trivial
  | [], _ :: _, h => h.elim
  | _ :: _, [], h => h.elim
  | _ :: _, _ :: _, h => ⟨h.1.mono (Imm.le_refl I) hn hρ, all2_mono hn hρ h.2⟩
/-- What is handed a row that is nil may be handed nil. -/
theorem _root_.Go.Mq.Fun.nilled {P : Program} {f : FuncId} {args : List AVal} {L L0 L' : List (Nat × AObj)} {k N' : Nat} {r : AVal} (h : Fun P f args L (k + 1) r L' N') (hst : StNil L0 k L) : Fun P f args L0 k r L' N' := by
  refine ⟨h.1, fun g E I ρ w vs hr hall => ?_⟩
  have hd : ¬ (k < k) := Nat.lt_irrefl _
  have hD : (fun i => i < k + 1) = dom (fun i => i < k) k := by funext i; apply propext; unfold dom; omega
  have hr1 : Rel E I (upd ρ k ⟨0, 0, true⟩) (fun i => i < k + 1) (sget L) g w := by
    rw [hD]
    obtain ⟨own, h⟩ := hr
    have h : RelO E I ρ (fun i => i < k) (sget L0) g w own := h
    refine ⟨own, ⟨h.env, h.lt, h.imm, fun i o e => ?_, fun i o e => ?_, fun i o e hni => ?_, h.gst⟩⟩
    · rcases hst.get e with ⟨h1, _⟩ | ⟨_, h1⟩
      · exact .inl h1
      · exact .inr (h.key _ _ h1)
    · rcases hst.get e with ⟨h1, e', q, rfl, h2⟩ | ⟨_, h1⟩
      · subst h1; exact .inl ⟨by rw [upd_same], h2⟩
      · exact ORel.nil (D := fun i => i < k) hd (h.key _ _ h1) (h.obj _ _ h1)
    · rcases hst.get e with ⟨h1, _⟩ | ⟨_, h1⟩
      · subst h1; rw [upd_same] at hni; cases hni
      · have hk := h.key _ _ h1
        rw [upd_ne (D := fun i => i < k) hd i hk] at hni ⊢
        exact h.ownd _ _ h1 hni
  have ha1 : All2 I (upd ρ k ⟨0, 0, true⟩) (fun i => i < k + 1) args vs.toList := all2_mono (D := fun i => i < k) (fun id hid => by omega) (fun id hid => upd_ne (D := fun i => i < k) hd id hid) hall
  refine (h.2 g E I _ w vs hr1 ha1).mono ?_
  rintro en w' ⟨I', ρ', v, h1, h2, h3, h4, h5⟩
  exact ⟨I', ρ', v, h1, fun id hid => by rw [h2 id (by omega), upd_ne (D := fun i => i < k) hd id hid], h3, h4, h5⟩
/-! A text is longer by what is put. -/
theorem putF_mono : ∀ {l : List ByteArray} {s : ByteArray} {e : Int}, s.size ≤ (putF l s e).1.size ∧ ((putF l s e).2 = 0 → e = 0)
  | [], s, e => ⟨Nat.le_refl _, fun h => h⟩
  | x :: l, s, e => by
    rw [putF]
    obtain ⟨h1, h2⟩ := putF_mono (l := l) (s := if e = 0 then s ++ x else s) (e := if 16384 < (if e = 0 then s ++ x else s).size then 3 else e)
    have hs : (s ++ x).size = s.size + x.size := ByteArray.size_append
    refine ⟨Nat.le_trans ?_ h1, fun h => ?_⟩
    · by_cases he : e = 0
      · rw [if_pos he]; omega
      · rw [if_neg he]; exact Nat.le_refl _
    · have := h2 h
      by_cases hb : 16384 < (if e = 0 then s ++ x else s).size
      · rw [if_pos hb] at this; cases this
      · rw [if_neg hb] at this; exact this
theorem putF_pos {x : ByteArray} {l : List ByteArray} {s : ByteArray} {e : Int} (hx : 0 < x.size) (h : (putF (x :: l) s e).2 = 0) : 0 < (putF (x :: l) s e).1.size := by
  have he := putF_mono.2 h
  rw [putF]
  have h1 := (putF_mono (l := l) (s := if e = 0 then s ++ x else s) (e := if 16384 < (if e = 0 then s ++ x else s).size then 3 else e)).1
  have hs : (s ++ x).size = s.size + x.size := ByteArray.size_append
  rw [if_pos he] at h1 ⊢
  omega
mutual
theorem wrV_mono : ∀ (v : Vl) (w : Wr), w.1.size ≤ (wrV v w).1.size ∧ ((wrV v w).2 = 0 → w.2 = 0)
  | .num n, w => by rw [wrV]; exact putF_mono
  | .tru b, w => by rw [wrV]; exact putF_mono
  | .unt, w => by rw [wrV]; exact putF_mono
  | .rcd ls ps, w => by
    rw [wrV]
    try dsimp only
    have h1 := putF_mono (l := [sL]) (s := w.1) (e := w.2)
    have h2 := wrL_mono ps true ls (putF [sL] w.1 w.2)
    generalize wrL true ls ps (putF [sL] w.1 w.2) = R at h2
    obtain ⟨⟨a, b⟩, c⟩ := R
    try dsimp only at h2
    try dsimp only
    cases c
    · rw [if_neg (by decide)]
      have h3 := putF_mono (l := [sR]) (s := a) (e := b)
      exact ⟨by omega, fun h => h1.2 (h2.2 (h3.2 h))⟩
    · rw [if_pos rfl]
      exact ⟨by have := h2.1; have := h1.1; dsimp only; omega, fun h => h1.2 (h2.2 h)⟩
  | .tag nm _ p, w => by
    rw [wrV]
    by_cases h0 : w.2 ≠ 0
    · rw [if_pos h0]; exact ⟨Nat.le_refl _, fun h => h⟩
    · rw [if_neg h0]
      try dsimp only
      have h1 := putF_mono (l := [nm, sP]) (s := w.1) (e := w.2)
      have h2 := wrV_mono p (putF [nm, sP] w.1 w.2)
      have h3 := putF_mono (l := [sQ]) (s := (wrV p (putF [nm, sP] w.1 w.2)).1) (e := (wrV p (putF [nm, sP] w.1 w.2)).2)
      exact ⟨by omega, fun h => h1.2 (h2.2 (h3.2 h))⟩
  | .clo _ _ _, w => by rw [wrV]; unfold noneF; refine ⟨Nat.le_refl _, fun h => ?_⟩; dsimp only at h; split at h; cases h; exact h
  | .pkd _ _, w => by rw [wrV]; unfold noneF; refine ⟨Nat.le_refl _, fun h => ?_⟩; dsimp only at h; split at h; cases h; exact h
theorem wrL_mono : ∀ (ps : List Vl) (b : Bool) (ls : List ByteArray) (w : Wr), w.1.size ≤ (wrL b ls ps w).1.1.size ∧ ((wrL b ls ps w).1.2 = 0 → w.2 = 0)
  | [], b, ls, w => by rw [wrL]; exact ⟨Nat.le_refl _, fun h => h⟩
  | p :: ps, b, ls, w => by
    rw [wrL]
    by_cases h0 : w.2 ≠ 0
    · rw [if_pos h0]; exact ⟨Nat.le_refl _, fun h => h⟩
    · rw [if_neg h0]
      try dsimp only
      have h1 : w.1.size ≤ (if b = true then w else putF [sC] w.1 w.2).1.size ∧ ((if b = true then w else putF [sC] w.1 w.2).2 = 0 → w.2 = 0) := by
        split
        · exact ⟨Nat.le_refl _, fun h => h⟩
        · exact putF_mono
      generalize (if b = true then w else putF [sC] w.1 w.2) = w1 at h1
      have h2 := putF_mono (l := [sS, ls.getD 0 ByteArray.empty, sE]) (s := w1.1) (e := w1.2)
      have h3 := wrV_mono p (putF [sS, ls.getD 0 ByteArray.empty, sE] w1.1 w1.2)
      have h4 := wrL_mono ps false (ls.drop 1) (wrV p (putF [sS, ls.getD 0 ByteArray.empty, sE] w1.1 w1.2))
      exact ⟨by omega, fun h => h1.2 (h2.2 (h3.2 (h4.2 h)))⟩
end
theorem wrV_pos : ∀ (v : Vl) (w : Wr), (wrV v w).2 = 0 → (∀ n, 0 < (numF n).size) → 0 < (wrV v w).1.size
  | .num n, w, h, hn => by rw [wrV] at h ⊢; exact putF_pos (hn n) h
  | .tru b, w, h, _ => by rw [wrV] at h ⊢; exact putF_pos (by cases b <;> decide) h
  | .unt, w, h, _ => by rw [wrV] at h ⊢; exact putF_pos (by decide) h
  | .rcd ls ps, w, h, _ => by
    have hw := (wrV_mono (.rcd ls ps) w).2 h
    rw [wrV] at h ⊢
    try dsimp only at h
    try dsimp only
    have h2 := wrL_mono ps true ls (putF [sL] w.1 w.2)
    have hp := fun q => putF_pos (x := sL) (l := []) (s := w.1) (e := w.2) (by decide) q
    generalize wrL true ls ps (putF [sL] w.1 w.2) = R at h2 h
    obtain ⟨⟨a, b⟩, c⟩ := R
    try dsimp only at h2
    try dsimp only at h
    try dsimp only
    cases c
    · rw [if_neg (by decide)] at h ⊢
      exact putF_pos (x := sR) (by decide) h
    · rw [if_pos rfl] at h ⊢
      have := hp (h2.2 h)
      dsimp only; omega
  | .tag nm sm p, w, h, _ => by
    have hw := (wrV_mono (.tag nm sm p) w).2 h
    rw [wrV, if_neg (by simp [hw])] at h ⊢
    exact putF_pos (x := sQ) (by decide) h
  | .clo _ _ _, w, h, _ => by rw [wrV] at h; unfold noneF at h; dsimp only at h; split at h; cases h; rename_i q; exact absurd h q
  | .pkd _ _, w, h, _ => by rw [wrV] at h; unfold noneF at h; dsimp only at h; split at h; cases h; rename_i q; exact absurd h q
theorem digR_pos (u : Nat) : 0 < (digR u).length := by
  by_cases h : u < 10
  · rw [digR, dif_pos h]; simp
  · rw [digR_hi h]; simp
theorem numF_pos (n : Int) : 0 < (numF n).size := by
  rw [numF, ByteArray.size_append, bytesOf_size, List.length_reverse]
  have := digR_pos n.natAbs
  omega
/-- What Run tells: a text, an error, the fuel that was used. -/
def runF (T : Tree) (fuel : Int) : ByteArray × Int × Int :=
  if termE T ≠ 0 then (ByteArray.empty, termE T, 0) else if closedF T = false ∨ fuel < 0 then (ByteArray.empty, 2, 0)
  else if (evalF T fuel.toNat).e ≠ 0 then (ByteArray.empty, (evalF T fuel.toNat).e, fuel - (evalF T fuel.toNat).f)
  else if (wrV (evalF T fuel.toNat).v (ByteArray.empty, 0)).2 ≠ 0 then (ByteArray.empty, (wrV (evalF T fuel.toNat).v (ByteArray.empty, 0)).2, fuel - (evalF T fuel.toNat).f)
  else ((wrV (evalF T fuel.toNat).v (ByteArray.empty, 0)).1, 0, fuel - (evalF T fuel.toNat).f)
def outA (r : ByteArray × Int × Int) : AVal := .tuple [.agg [.d (.str r.1), .d (.int .i64 r.2.1)], .d (.int .i64 r.2.2)]
set_option maxHeartbeats 32000000 in
set_option maxRecDepth 10000 in
theorem run_ok (T : Tree) (fuel : Int) (hf : fuel ≤ 500000000) : Pure P 7 [.d (.tree T), .d (.int .i64 fuel)] (outA (runF T fuel)) := by
  have hck := tCheck_ok T
  have hcl := sbClosed_ok T
  generalize hv : runF T fuel = R
  unfold runF at hv
  by_cases h1 : termE T = 0
  · rw [if_neg (by simp [h1])] at hv
    obtain ⟨ht, hz, hF⟩ := termE_ok h1
    rw [h1] at hck
    by_cases h2 : closedF T = true
    · rw [h2] at hcl
      by_cases h3 : fuel < 0
      · rw [if_pos (.inr h3)] at hv
        subst hv
        refine Pure.of_bodyR tt [] [.cell 4 29, .tmp 5] Try.func7 rfl rfl rfl (Nat.le_of_ble_eq_true rfl) fun g => ?_
        repeat' ((first
          | refine then_go hm htt ?_
          | refine Side.go ?_
          | refine Hyp.go fun hlen => ?_
          | refine Split.ct ?_
          | refine Split.cf ?_
          | refine Split.tt ?_
          | refine Split.ff ?_
          | refine Indep.go ?_
          | refine CallG.gp hck ?_
          | refine CallG.gp hcl ?_
          | refine Split.go (fun hc => ?_) fun hc => ?_) <;> conv => whnf)
        exact retR_closed htt _ rfl rfl rfl rfl
      · rw [if_neg (by rintro (h | h); rw [h2] at h; cases h; exact h3 h)] at hv
        have hfn : ((fuel.toNat : Nat) : Int) = fuel := by omega
        have hE := (evfo_w (2 * fuel.toNat + 1)).1 T .nil fuel.toNat ⟨ht, hz⟩ (by rw [okEv]; trivial) (Nat.zero_le _) (by omega) (Nat.le_refl _)
        have hq := EVq_all (2 * fuel.toNat + 1) T .nil fuel.toNat ⟨ht, hz⟩ (by rw [okEv]; trivial) (Nat.zero_le _) (by omega)
        have hfu := (evfo_f (2 * fuel.toNat + 1)).1 T .nil fuel.toNat
        have hun : evalF T fuel.toNat = evalD (2 * fuel.toNat + 1) T .nil fuel.toNat := rfl
        rw [hun] at hv
        generalize evalD (2 * fuel.toNat + 1) T .nil fuel.toNat = r at hE hq hfu hv
        obtain ⟨rv, re, rf⟩ := r
        dsimp only at hE hq hfu hv
        have hwr : IntKind.i64.wrap (fuel - (rf : Int)) = fuel - rf := by rw [wrap64] <;> omega
        unfold rsA MP at hE
        rw [hfn] at hE
        have hed : eD .nil = .tree .nil := by rw [eD]
        rw [hed] at hE
        dsimp only at hE
        by_cases h4 : re = 0
        · subst h4
          rw [if_neg (by simp)] at hv
          rw [if_pos rfl] at hE
          obtain ⟨t, y, f, hy, hme, hbo, hI⟩ := wr_all rv (hq rfl)
          obtain ⟨hw2, hI2⟩ := hI false ByteArray.empty 0 (.inr rfl) ⟨fun _ => by decide, by decide⟩
          have hpos := wrV_pos rv (ByteArray.empty, 0)
          generalize wrV rv (ByteArray.empty, 0) = w at hw2 hI2 hpos hv
          obtain ⟨s, e⟩ := w
          dsimp only at hw2 hI2 hpos hv
          have hI3 : Fun P f [unD y, .ref 0 0] [(0, .cellsT (some 57) [.d (.tree .nil), .d .nils, .d (.int .i64 0)])] 1 (.tuple []) (WOi 2 (false || !shut rv) s e) 3 := hI2.nilled ⟨rfl, rfl, trivial⟩
          rw [hy] at hE
          by_cases h5 : e = 0
          · subst h5
            rw [if_neg (by simp)] at hv
            subst hv
            have hpos := hpos rfl numF_pos
            have htx := fun u => wtext_ok u s 0 hpos
            generalize (false || !shut rv) = u at hI3
            have htx := htx u
            unfold WO at htx
            unfold WOi WC WB at *
            cases u
            all_goals
              refine Pure.of_bodyR tt [] [.cell 4 29, .tmp 5] Try.func7 rfl rfl rfl (Nat.le_of_ble_eq_true rfl) fun g => ?_
              repeat' ((first
                | refine then_go hm htt ?_
                | refine Side.go ?_
                | refine Hyp.go fun hlen => ?_
                | refine Split.ct ?_
                | refine Split.cf ?_
                | refine Split.tt ?_
                | refine Split.ff ?_
                | refine Indep.go ?_
                | refine CallG.gp hck ?_
                | refine CallG.gp hcl ?_
                | refine CallG.go hE [1] ?_
                | refine InvV.mk f rfl hme hbo ?_
                | refine CallG.fun hI3 [2] rfl rfl (inv_args _ _ _ _ rfl) rfl rfl (inv_under _ _ _ rfl) (by repeat' first | exact trivial | apply And.intro | rfl | (refine int_eq ?_; rw [wrap64] <;> omega)) rfl ?_
                | refine CallG.go htx [2, 4] ?_
                | refine Split.go (fun hc => ?_) fun hc => ?_) <;> conv => whnf)
              refine retR_closed htt [.agg [.d (.str s), .d (.int .i64 0)], .d (.int .i64 (IntKind.i64.wrap (fuel - (rf : Int))))] rfl rfl ?_ rfl
              rw [hwr]; rfl
          · rw [if_pos h5] at hv
            subst hv
            generalize (false || !shut rv) = u at hI3
            unfold WOi WC WB at *
            cases u
            all_goals
              refine Pure.of_bodyR tt [] [.cell 4 29, .tmp 5] Try.func7 rfl rfl rfl (Nat.le_of_ble_eq_true rfl) fun g => ?_
              repeat' ((first
                | refine then_go hm htt ?_
                | refine Side.go ?_
                | refine Hyp.go fun hlen => ?_
                | refine Split.ct ?_
                | refine Split.cf ?_
                | refine Split.tt ?_
                | refine Split.ff ?_
                | refine Indep.go ?_
                | refine CallG.gp hck ?_
                | refine CallG.gp hcl ?_
                | refine CallG.go hE [1] ?_
                | refine InvV.mk f rfl hme hbo ?_
                | refine CallG.fun hI3 [2] rfl rfl (inv_args _ _ _ _ rfl) rfl rfl (inv_under _ _ _ rfl) (by repeat' first | exact trivial | apply And.intro | rfl | (refine int_eq ?_; rw [wrap64] <;> omega)) rfl ?_
                | refine Split.go (fun hc => ?_) fun hc => ?_) <;> conv => whnf)
              refine retR_closed htt [.agg [.d (.str ByteArray.empty), .d (.int .i64 e)], .d (.int .i64 (IntKind.i64.wrap (fuel - (rf : Int))))] rfl rfl ?_ rfl
              rw [hwr]; rfl
        · rw [if_pos h4] at hv
          rw [if_neg h4] at hE
          subst hv
          refine Pure.of_bodyR tt [] [.cell 4 29, .tmp 5] Try.func7 rfl rfl rfl (Nat.le_of_ble_eq_true rfl) fun g => ?_
          repeat' ((first
            | refine then_go hm htt ?_
            | refine Side.go ?_
            | refine Hyp.go fun hlen => ?_
            | refine Split.ct ?_
            | refine Split.cf ?_
            | refine Split.tt ?_
            | refine Split.ff ?_
            | refine Indep.go ?_
            | refine CallG.gp hck ?_
            | refine CallG.gp hcl ?_
            | refine CallG.go hE [1] ?_
            | refine Split.go (fun hc => ?_) fun hc => ?_) <;> conv => whnf)
          refine retR_closed htt [.agg [.d (.str ByteArray.empty), .d (.int .i64 re)], .d (.int .i64 (IntKind.i64.wrap (fuel - (rf : Int))))] rfl rfl ?_ rfl
          rw [hwr]; rfl
    · have h2 : closedF T = false := by simpa using h2
      rw [if_pos (.inl h2)] at hv
      rw [h2] at hcl
      subst hv
      refine Pure.of_bodyR tt [] [.cell 4 29, .tmp 5] Try.func7 rfl rfl rfl (Nat.le_of_ble_eq_true rfl) fun g => ?_
      repeat' ((first
        | refine then_go hm htt ?_
        | refine Side.go ?_
        | refine Hyp.go fun hlen => ?_
        | refine Split.ct ?_
        | refine Split.cf ?_
        | refine Split.tt ?_
        | refine Split.ff ?_
        | refine Indep.go ?_
        | refine CallG.gp hck ?_
        | refine CallG.gp hcl ?_
        | refine Split.go (fun hc => ?_) fun hc => ?_) <;> conv => whnf)
      exact retR_closed htt _ rfl rfl rfl rfl
  · rw [if_pos h1] at hv
    subst hv
    refine Pure.of_bodyR tt [] [.cell 4 29, .tmp 5] Try.func7 rfl rfl rfl (Nat.le_of_ble_eq_true rfl) fun g => ?_
    repeat' ((first
      | refine then_go hm htt ?_
      | refine Side.go ?_
      | refine Hyp.go fun hlen => ?_
      | refine Split.ct ?_
      | refine Split.cf ?_
      | refine Split.tt ?_
      | refine Split.ff ?_
      | refine Indep.go ?_
      | refine CallG.gp hck ?_
      | refine Split.go (fun hc => ?_) fun hc => ?_) <;> conv => whnf)
    exact retR_closed htt _ rfl rfl rfl rfl
def needF (T : Tree) (most : Int) : Int × Int := if (runF T most).2.1 = 18 ∨ ((runF T most).2.1 ≠ 0 ∧ (runF T most).2.2 = 0) then (0, (runF T most).2.1) else ((runF T most).2.2, 0)
set_option maxHeartbeats 8000000 in
set_option maxRecDepth 10000 in
theorem need_ok (T : Tree) (most : Int) (hf : most ≤ 500000000) : Pure P 11 [.d (.tree T), .d (.int .i64 most)] (.tuple [.d (.int .i64 (needF T most).1), .d (.int .i64 (needF T most).2)]) := by
  have hr := run_ok T most hf
  unfold outA at hr
  generalize hv : needF T most = R
  unfold needF at hv
  generalize runF T most = r at hr hv
  obtain ⟨t, e, u⟩ := r
  dsimp only at hr hv
  by_cases h1 : e = 18
  · rw [if_pos (.inl h1)] at hv
    subst hv
    refine Pure.of_body tt [] [4, 5] Try.func11 rfl rfl rfl (Nat.le_of_ble_eq_true rfl) fun g => ?_
    repeat' ((first
      | refine then_go hm htt ?_
      | refine Side.go ?_
      | refine Hyp.go fun hlen => ?_
      | refine Split.ct ?_
      | refine Split.cf ?_
      | refine Split.tt ?_
      | refine Split.ff ?_
      | refine Indep.go ?_
      | refine CallG.gp hr ?_
      | refine Split.go (fun hc => ?_) fun hc => ?_) <;> conv => whnf)
    exact ret_closed rfl rfl rfl
  · by_cases h2 : e ≠ 0 ∧ u = 0
    · rw [if_pos (.inr h2)] at hv
      obtain ⟨h2, h3⟩ := h2
      subst hv
      refine Pure.of_body tt [] [4, 5] Try.func11 rfl rfl rfl (Nat.le_of_ble_eq_true rfl) fun g => ?_
      repeat' ((first
        | refine then_go hm htt ?_
        | refine Side.go ?_
        | refine Hyp.go fun hlen => ?_
        | refine Split.ct ?_
        | refine Split.cf ?_
        | refine Split.tt ?_
        | refine Split.ff ?_
        | refine Indep.go ?_
        | refine CallG.gp hr ?_
        | refine Split.go (fun hc => ?_) fun hc => ?_) <;> conv => whnf)
      exact ret_closed rfl rfl rfl
    · rw [if_neg (by rintro (h | h); exact h1 h; exact h2 h)] at hv
      subst hv
      refine Pure.of_body tt [] [4, 5] Try.func11 rfl rfl rfl (Nat.le_of_ble_eq_true rfl) fun g => ?_
      repeat' ((first
        | refine then_go hm htt ?_
        | refine Side.go ?_
        | refine Hyp.go fun hlen => ?_
        | refine Split.ct ?_
        | refine Split.cf ?_
        | refine Split.tt ?_
        | refine Split.ff ?_
        | refine Indep.go ?_
        | refine CallG.gp hr ?_
        | refine Split.go (fun hc => ?_) fun hc => ?_) <;> conv => whnf)
      all_goals first | exact ret_closed rfl rfl rfl | (exfalso; exact h2 ⟨by assumption, by assumption⟩)
end Mc
end Go.Proofs.Ytlgajkoplklkiaa

namespace Go.Proofs.Ytlgajkoplklkiaa
namespace Mc
open Go Go.Mq
set_option linter.all false

/-! More fuel changes nothing, where it was not spent. -/
def Rs.add (r : Rs) (d : Nat) : Rs := ⟨r.v, r.e, r.f + d⟩
def good (r : Rs) : Prop := r.e ≠ 18 ∨ 0 < r.f
section
variable {ev ev' : Tree → Ev → Nat → Rs} {fo fo' : Tree → ByteArray → Tree → Vl → Ev → Nat → Rs} {k k' : Nat}
/-- The one with more fuel does as the other one. -/
def EvMore (k k' : Nat) (ev ev' : Tree → Ev → Nat → Rs) : Prop := ∀ T ρ f d, 2 * f + 1 ≤ k → 2 * (f + d) + 1 ≤ k' → good (ev T ρ f) → ev' T ρ (f + d) = (ev T ρ f).add d
def FoMore (k k' : Nat) (fo fo' : Tree → ByteArray → Tree → Vl → Ev → Nat → Rs) : Prop := ∀ T nm s p ρ f d, 2 * f + 2 ≤ k → 2 * (f + d) + 2 ≤ k' → good (fo T nm s p ρ f) → fo' T nm s p ρ (f + d) = (fo T nm s p ρ f).add d
theorem good_ok {r : Rs} (h : r.e = 0) : good r := .inl (by rw [h]; decide)
theorem recM_more (hf : ∀ T ρ f, (ev T ρ f).f ≤ f) (h : EvMore k k' ev ev') (ρ : Ev) : ∀ (l : List Tree) (f d : Nat) (ls : List ByteArray) (ps : List Vl), 2 * f + 1 ≤ k → 2 * (f + d) + 1 ≤ k' → good (recM ev ρ l f ls ps) → recM ev' ρ l (f + d) ls ps = (recM ev ρ l f ls ps).add d
  | [], f, d, ls, ps, _, _, _ => by rw [recM, recM]; rfl
  | x :: l, f, d, ls, ps, h1, h2, hg => by
    rw [recM] at hg ⊢
    rw [recM]
    have hfu := hf (x.kids.getD 0 .nil) ρ f
    by_cases h0 : (ev (x.kids.getD 0 .nil) ρ f).e = 0
    · rw [if_pos h0] at hg ⊢
      have hx := h (x.kids.getD 0 .nil) ρ f d h1 h2 (good_ok h0)
      rw [hx]
      rw [if_pos (show ((ev (x.kids.getD 0 .nil) ρ f).add d).e = 0 from h0)]
      exact recM_more hf h ρ l _ d _ _ (by omega) (by omega) hg
    · rw [if_neg h0] at hg ⊢
      have hx := h (x.kids.getD 0 .nil) ρ f d h1 h2 hg
      rw [hx]
      rw [if_neg (show ¬ ((ev (x.kids.getD 0 .nil) ρ f).add d).e = 0 from h0)]
theorem wrapM_more (h : EvMore k k' ev ev') (T : Tree) (ρ : Ev) (f d : Nat) (h1 : 2 * f + 1 ≤ k) (h2 : 2 * (f + d) + 1 ≤ k') (hg : good (wrapM ev T ρ f)) : wrapM ev' T ρ (f + d) = (wrapM ev T ρ f).add d := by
  unfold wrapM at hg ⊢
  dsimp only at hg ⊢
  have hx := h (T.kids.getD 1 .nil) ρ f d h1 h2
  generalize ev (T.kids.getD 1 .nil) ρ f = x at hx hg ⊢
  by_cases h0 : x.e = 0
  · rw [hx (good_ok h0)]
    rw [if_pos h0] at hg ⊢
    rw [if_pos (show (x.add d).e = 0 from h0)]
    by_cases hc : (closeL (consE ρ) (T.kids.getD 0 .nil)).2 = 0
    · rw [if_pos hc, if_pos hc]; rfl
    · rw [if_neg hc, if_neg hc]; rfl
  · rw [if_neg h0] at hg ⊢
    rw [hx hg]
    rw [if_neg (show ¬ (x.add d).e = 0 from h0)]; rfl
theorem useM_more (h : EvMore k k' ev ev') (h2 : FoMore k k' fo fo') (T : Tree) (x : Vl) (ρ : Ev) (f d : Nat) (h3 : 2 * f + 2 ≤ k) (h4 : 2 * (f + d) + 2 ≤ k') (hg : good (useM ev fo T x ρ f)) : useM ev' fo' T x ρ (f + d) = (useM ev fo T x ρ f).add d := by
  unfold useM at hg ⊢
  cases x with
  | rcd ls ps =>
    dsimp only
    cases lookM T.name ls ps with
    | none => rfl
    | some p => dsimp only; split <;> rfl
  | tru b =>
    dsimp only at hg ⊢
    by_cases hk : T.kind = 144
    · rw [if_pos hk] at hg ⊢; rw [if_pos hk]; exact h _ _ _ _ (by omega) (by omega) hg
    · rw [if_neg hk, if_neg hk]; rfl
  | clo ty b e =>
    dsimp only at hg ⊢
    by_cases hk : T.kind = 140 ∧ ty = true
    · rw [if_pos hk] at hg ⊢; rw [if_pos hk]
      by_cases hc : (closeL (consE ρ) (T.kids.getD 1 .nil)).2 = 0
      · rw [if_pos hc] at hg ⊢; rw [if_pos hc]; exact h _ _ _ _ (by omega) (by omega) hg
      · rw [if_neg hc, if_neg hc]; rfl
    · rw [if_neg hk, if_neg hk]; rfl
  | pkd c p =>
    dsimp only at hg ⊢
    by_cases hk : T.kind = 142
    · rw [if_pos hk] at hg ⊢; rw [if_pos hk]; exact h _ _ _ _ (by omega) (by omega) hg
    · rw [if_neg hk, if_neg hk]; rfl
  | tag nm s p =>
    dsimp only at hg ⊢
    by_cases hk : T.kind = 147
    · rw [if_pos hk] at hg ⊢; rw [if_pos hk]
      cases ha : armF nm (T.kids.drop 1) with
      | none => rfl
      | some b => rw [ha] at hg; exact h _ _ _ _ (by omega) (by omega) hg
    · rw [if_neg hk] at hg ⊢; rw [if_neg hk]
      by_cases hk8 : T.kind = 148
      · rw [if_pos hk8] at hg ⊢; rw [if_pos hk8]; exact h2 _ _ _ _ _ _ _ h3 h4 hg
      · rw [if_neg hk8, if_neg hk8]; rfl
  | _ => rfl
theorem opM_more (n : Int) (x y : Vl) (f d : Nat) : opM n x y (f + d) = (opM n x y f).add d := by
  unfold opM
  split
  · rename_i a b
    by_cases h1 : n = 4
    · rw [if_pos h1, if_pos h1]; rfl
    rw [if_neg h1, if_neg h1]
    by_cases h2 : n ≠ 1 ∧ n ≠ 2 ∧ n ≠ 3
    · rw [if_pos h2, if_pos h2]; rfl
    rw [if_neg h2, if_neg h2]
    dsimp only
    by_cases h3 : IntKind.i64.wrap (if n = 1 then a + b else if n = 2 then a - b else a * b) < -1073741824 ∨ 1073741824 < IntKind.i64.wrap (if n = 1 then a + b else if n = 2 then a - b else a * b)
    · rw [if_pos h3, if_pos h3]; rfl
    · rw [if_neg h3, if_neg h3]; rfl
  · rfl
theorem unrM_more (hf : ∀ T nm s p ρ f, (fo T nm s p ρ f).f ≤ f) (h : FoMore k k' fo fo') (T : Tree) (ρ : Ev) (c : Tree) :
    (∀ x f d, 2 * f ≤ k → 2 * (f + d) ≤ k' → good (unrM fo T ρ c x f) → unrM fo' T ρ c x (f + d) = (unrM fo T ρ c x f).add d) ∧
    ∀ y ∈ c.kids, ∀ x f d, 2 * f ≤ k → 2 * (f + d) ≤ k' → good (unrM fo T ρ y x f) → unrM fo' T ρ y x (f + d) = (unrM fo T ρ y x f).add d := by
  induction c using Tree.ind' with
  | h0 => exact ⟨fun x f d _ _ _ => by rw [unrM, unrM]; rfl, fun x hx => by cases hx⟩
  | h1 c hc ih =>
    refine ⟨fun x f d h1 h2 hg => ?_, fun y hy => (ih y hy).1⟩
    cases c with
    | nil => exact absurd rfl hc
    | node kk n nm mk l =>
      rw [unrM_node] at hg ⊢
      rw [unrM_node]
      by_cases hv : kk = 110 ∧ n = 0
      · rw [if_pos hv] at hg ⊢
        rw [if_pos hv]
        by_cases f0 : f = 0
        · rw [if_pos f0] at hg
          subst f0
          rcases hg with hg | hg
          · exact absurd rfl hg
          · exact absurd hg (Nat.lt_irrefl _)
        · rw [if_neg f0] at hg ⊢
          rw [if_neg (by omega)]
          have e1 : f + d - 1 = f - 1 + d := by omega
          cases x with
          | tag nm s p =>
            dsimp only at hg ⊢
            rw [e1]
            exact h T nm s p ρ (f - 1) d (by omega) (by omega) hg
          | _ => dsimp only; rw [e1]; rfl
      · rw [if_neg hv] at hg ⊢
        rw [if_neg hv]
        cases x with
        | rcd ls ps =>
          dsimp only at hg ⊢
          by_cases hl : kk = 115 ∧ l.length = ps.length
          · rw [if_pos hl] at hg ⊢
            rw [if_pos hl]
            have key : ∀ (l' : List Tree), (∀ y ∈ l', ∀ z ∈ y.kids, ∀ x f d, 2 * f ≤ k → 2 * (f + d) ≤ k' → good (unrM fo T ρ z x f) → unrM fo' T ρ z x (f + d) = (unrM fo T ρ z x f).add d) →
                ∀ (a : List ByteArray) (b : List Vl) (f d : Nat) (w : Vl) (al : List ByteArray) (o : List Vl), 2 * f ≤ k → 2 * (f + d) ≤ k' → good (unrsM fo T ρ l' a b f w al o) → unrsM fo' T ρ l' a b (f + d) w al o = (unrsM fo T ρ l' a b f w al o).add d := by
              intro l'
              induction l' with
              | nil => intro _ a b f d w al o _ _ _; rw [unrsM, unrsM]; rfl
              | cons y l' ih2 =>
                intro hy0 a b f d w al o h1 h2 hg
                rw [unrsM] at hg ⊢
                rw [unrsM]
                by_cases hn : y.name = a.getD 0 ByteArray.empty
                · rw [if_pos hn] at hg ⊢
                  rw [if_pos hn]
                  have hy : ∀ x f d, 2 * f ≤ k → 2 * (f + d) ≤ k' → good (unrI fo T ρ y x f) → unrI fo' T ρ y x (f + d) = (unrI fo T ρ y x f).add d := by
                    intro x f d q1 q2 q3
                    rw [unrI_eq] at q3 ⊢
                    rw [unrI_eq]
                    cases hk : y.kids with
                    | nil => simp only [List.getD_nil]; rw [unrM, unrM]; rfl
                    | cons z r => rw [hk] at q3; exact hy0 y (by simp) z (by rw [hk]; simp) x f d q1 q2 q3
                  have hfu : (unrI fo T ρ y (b.getD 0 .unt) f).f ≤ f := by rw [unrI_eq]; exact (unrM_f hf T ρ _).1 _ _
                  have hyy := hy (b.getD 0 .unt) f d h1 h2
                  generalize unrI fo T ρ y (b.getD 0 .unt) f = r at hyy hfu hg ⊢
                  by_cases h0 : r.e = 0
                  · rw [if_pos h0] at hg ⊢
                    rw [hyy (good_ok h0), if_pos (show (r.add d).e = 0 from h0)]
                    exact ih2 (fun y hy => hy0 y (by simp [hy])) _ _ _ d _ _ _ (by omega) (by omega) hg
                  · rw [if_neg h0] at hg ⊢
                    rw [hyy hg, if_neg (show ¬ (r.add d).e = 0 from h0)]
                · rw [if_neg hn, if_neg hn]; rfl
            exact key l (fun y hy z hz => (ih y hy).2 z hz) ls ps f d (.rcd ls ps) ls [] h1 h2 hg
          · rw [if_neg hl, if_neg hl]; rfl
        | _ => rfl
end
theorem evfo_more : ∀ k k' : Nat, EvMore k k' (evalD k) (evalD k') ∧ FoMore k k' (foldD k) (foldD k')
  | 0, k' => ⟨fun T ρ f d h => by omega, fun T nm s p ρ f d h => by omega⟩
  | k + 1, 0 => ⟨fun T ρ f d _ h => by omega, fun T nm s p ρ f d _ h => by omega⟩
  | k + 1, k' + 1 => by
    obtain ⟨h1, h2⟩ := evfo_more k k'
    have f1 := (evfo_f k).1
    have f2 := (evfo_f k).2
    constructor
    · intro T ρ f d hk hk' hg
      rw [evalD] at hg ⊢
      rw [evalD]
      by_cases f0 : f = 0
      · subst f0
        rw [if_pos rfl] at hg
        rcases hg with hg | hg
        · exact absurd rfl hg
        · exact absurd hg (Nat.lt_irrefl _)
      rw [if_neg f0] at hg ⊢
      rw [if_neg (by omega)]
      have e1 : f + d - 1 = f - 1 + d := by omega
      by_cases c1 : T.kind = 130
      · rw [if_pos c1, if_pos c1, e1]; cases atE ρ T.n <;> rfl
      rw [if_neg c1] at hg ⊢
      rw [if_neg c1]
      by_cases c2 : T.kind = 131
      · rw [if_pos c2, if_pos c2, e1]; rfl
      rw [if_neg c2] at hg ⊢
      rw [if_neg c2]
      by_cases c3 : T.kind = 132
      · rw [if_pos c3, if_pos c3, e1]; rfl
      rw [if_neg c3] at hg ⊢
      rw [if_neg c3]
      by_cases c4 : T.kind = 133
      · rw [if_pos c4, if_pos c4, e1]; rfl
      rw [if_neg c4] at hg ⊢
      rw [if_neg c4]
      by_cases c5 : T.kind = 134 ∨ T.kind = 139
      · rw [if_pos c5, if_pos c5, e1]; rfl
      rw [if_neg c5] at hg ⊢
      rw [if_neg c5]
      by_cases c6 : T.kind = 136
      · rw [if_pos c6] at hg ⊢
        rw [if_pos c6, e1]
        exact recM_more f1 h1 ρ _ _ d _ _ (by omega) (by omega) hg
      rw [if_neg c6] at hg ⊢
      rw [if_neg c6]
      by_cases c7 : T.kind = 146 ∨ T.kind = 141
      · rw [if_pos c7] at hg ⊢
        rw [if_pos c7, e1]
        exact wrapM_more h1 T ρ _ d (by omega) (by omega) hg
      rw [if_neg c7] at hg ⊢
      rw [if_neg c7, e1]
      dsimp only at hg ⊢
      have ha := h1 (T.kids.getD 0 .nil) ρ (f - 1) d (by omega) (by omega)
      have haf := f1 (T.kids.getD 0 .nil) ρ (f - 1)
      generalize evalD k (T.kids.getD 0 .nil) ρ (f - 1) = a at ha haf hg ⊢
      by_cases a0 : a.e = 0
      · rw [if_neg (by simp [a0])] at hg
        rw [ha (good_ok a0), if_neg (show ¬ (a.add d).e ≠ 0 from by simp [Rs.add, a0]), if_neg (show ¬ a.e ≠ 0 from by simp [a0])]
        by_cases c8 : T.kind = 135 ∨ T.kind = 145
        · rw [if_pos c8] at hg ⊢
          rw [if_pos c8]
          have hb := h1 (T.kids.getD 1 .nil) ρ a.f d (by omega) (by omega)
          have hbf := f1 (T.kids.getD 1 .nil) ρ a.f
          have eb : (a.add d).f = a.f + d := rfl
          rw [eb]
          generalize evalD k (T.kids.getD 1 .nil) ρ a.f = b at hb hbf hg ⊢
          by_cases b0 : b.e = 0
          · rw [if_neg (by simp [b0])] at hg
            rw [hb (good_ok b0), if_neg (show ¬ (b.add d).e ≠ 0 from by simp [Rs.add, b0]), if_neg (show ¬ b.e ≠ 0 from by simp [b0])]
            by_cases c9 : T.kind = 145
            · rw [if_pos c9, if_pos c9]
              exact opM_more _ _ _ _ _
            · rw [if_neg c9] at hg ⊢
              rw [if_neg c9]
              have ev1 : (a.add d).v = a.v := rfl
              rw [ev1]
              cases hav : a.v with
              | clo ty body e =>
                rw [hav] at hg
                cases ty with
                | false => exact h1 _ _ _ d (by omega) (by omega) hg
                | true => rfl
              | _ => rfl
          · rw [if_pos b0] at hg ⊢
            have hgb : good b := hg
            rw [hb hgb, if_pos (show (b.add d).e ≠ 0 from b0)]; rfl
        rw [if_neg c8] at hg ⊢
        rw [if_neg c8]
        by_cases c10 : T.kind = 143
        · rw [if_pos c10] at hg ⊢
          rw [if_pos c10]
          exact h1 _ _ _ d (by omega) (by omega) hg
        rw [if_neg c10] at hg ⊢
        rw [if_neg c10]
        exact useM_more h1 h2 T _ ρ _ d (by omega) (by omega) hg
      · rw [if_pos a0] at hg ⊢
        have hga : good a := hg
        rw [ha hga, if_pos (show (a.add d).e ≠ 0 from a0)]; rfl
    · intro T nm s p ρ f d hk hk' hg
      rw [foldD] at hg ⊢
      rw [foldD]
      by_cases c1 : (No.normR s).2 ≠ 0
      · rw [if_pos c1, if_pos c1]; rfl
      rw [if_neg c1] at hg ⊢
      rw [if_neg c1]
      cases hA : armF nm (T.kids.drop 2) with
      | none => rfl
      | some b =>
        rw [hA] at hg
        dsimp only at hg ⊢
        by_cases c2 : (No.normR s).1.kind ≠ 121
        · rw [if_pos c2, if_pos c2]; rfl
        rw [if_neg c2] at hg ⊢
        rw [if_neg c2]
        cases hA2 : armF nm (No.normR s).1.kids with
        | none => rfl
        | some c =>
          rw [hA2] at hg
          dsimp only at hg ⊢
          have hy := (unrM_more f2 h2 T ρ c).1 p f d (by omega) (by omega)
          have hyf := (unrM_f f2 T ρ c).1 p f
          generalize unrM (foldD k) T ρ c p f = y at hy hyf hg ⊢
          by_cases y0 : y.e = 0
          · rw [if_neg (by simp [y0])] at hg
            rw [hy (good_ok y0), if_neg (show ¬ (y.add d).e ≠ 0 from by simp [Rs.add, y0]), if_neg (show ¬ y.e ≠ 0 from by simp [y0])]
            exact h1 _ _ _ d (by omega) (by omega) hg
          · rw [if_pos y0] at hg ⊢
            have hgy : good y := hg
            rw [hy hgy, if_pos (show (y.add d).e ≠ 0 from y0)]; rfl

/-! Less fuel changes nothing, where it is not needed. -/
section
variable {ev ev' : Tree → Ev → Nat → Rs} {fo fo' : Tree → ByteArray → Tree → Vl → Ev → Nat → Rs} {k k' : Nat}
def EvLess (k k' : Nat) (ev ev' : Tree → Ev → Nat → Rs) : Prop := ∀ T ρ f d, 2 * f + 1 ≤ k → 2 * (f + d) + 1 ≤ k' → 0 < d → d ≤ (ev' T ρ (f + d)).f → ev' T ρ (f + d) = (ev T ρ f).add d
def FoLess (k k' : Nat) (fo fo' : Tree → ByteArray → Tree → Vl → Ev → Nat → Rs) : Prop := ∀ T nm s p ρ f d, 2 * f + 2 ≤ k → 2 * (f + d) + 2 ≤ k' → 0 < d → d ≤ (fo' T nm s p ρ (f + d)).f → fo' T nm s p ρ (f + d) = (fo T nm s p ρ f).add d
theorem recM_less (hf : ∀ T ρ f, (ev T ρ f).f ≤ f) (hf' : ∀ T ρ f, (ev' T ρ f).f ≤ f) (h : EvLess k k' ev ev') (ρ : Ev) : ∀ (l : List Tree) (f d : Nat) (ls : List ByteArray) (ps : List Vl), 2 * f + 1 ≤ k → 2 * (f + d) + 1 ≤ k' → 0 < d → d ≤ (recM ev' ρ l (f + d) ls ps).f → recM ev' ρ l (f + d) ls ps = (recM ev ρ l f ls ps).add d
  | [], f, d, ls, ps, _, _, _, _ => by rw [recM, recM]; rfl
  | x :: l, f, d, ls, ps, h1, h2, hd, hg => by
    rw [recM] at hg
    rw [recM, recM]
    have hfu := hf (x.kids.getD 0 .nil) ρ f
    have hx := h (x.kids.getD 0 .nil) ρ f d h1 h2 hd
    by_cases h0 : (ev' (x.kids.getD 0 .nil) ρ (f + d)).e = 0
    · rw [if_pos h0] at hg
      have hx := hx (Nat.le_trans hg (recM_f hf' ρ _ _ _ _))
      rw [hx] at hg h0 ⊢
      rw [if_pos h0, if_pos (show (ev (x.kids.getD 0 .nil) ρ f).e = 0 from h0)]
      exact recM_less hf hf' h ρ l _ d _ _ (by omega) (by omega) hd hg
    · rw [if_neg h0] at hg
      have hx := hx hg
      rw [hx] at h0 ⊢
      rw [if_neg h0, if_neg (show ¬ (ev (x.kids.getD 0 .nil) ρ f).e = 0 from h0)]
theorem wrapM_le (T : Tree) (ρ : Ev) (f : Nat) : (wrapM ev T ρ f).f ≤ (ev (T.kids.getD 1 .nil) ρ f).f := by
  unfold wrapM bad
  dsimp only
  split
  · split <;> exact Nat.le_refl _
  · exact Nat.le_refl _
theorem wrapM_less (h : EvLess k k' ev ev') (T : Tree) (ρ : Ev) (f d : Nat) (h1 : 2 * f + 1 ≤ k) (h2 : 2 * (f + d) + 1 ≤ k') (hd : 0 < d) (hg : d ≤ (wrapM ev' T ρ (f + d)).f) : wrapM ev' T ρ (f + d) = (wrapM ev T ρ f).add d := by
  have hx := h (T.kids.getD 1 .nil) ρ f d h1 h2 hd (Nat.le_trans hg (wrapM_le T ρ _))
  unfold wrapM
  dsimp only
  rw [hx]
  generalize ev (T.kids.getD 1 .nil) ρ f = x
  by_cases h0 : x.e = 0
  · rw [if_pos h0, if_pos (show (x.add d).e = 0 from h0)]
    by_cases hc : (closeL (consE ρ) (T.kids.getD 0 .nil)).2 = 0
    · rw [if_pos hc, if_pos hc]; rfl
    · rw [if_neg hc, if_neg hc]; rfl
  · rw [if_neg h0, if_neg (show ¬ (x.add d).e = 0 from h0)]; rfl
theorem useM_less (h : EvLess k k' ev ev') (h2 : FoLess k k' fo fo') (T : Tree) (x : Vl) (ρ : Ev) (f d : Nat) (h3 : 2 * f + 2 ≤ k) (h4 : 2 * (f + d) + 2 ≤ k') (hd : 0 < d) (hg : d ≤ (useM ev' fo' T x ρ (f + d)).f) : useM ev' fo' T x ρ (f + d) = (useM ev fo T x ρ f).add d := by
  unfold useM at hg ⊢
  cases x with
  | rcd ls ps =>
    dsimp only
    cases lookM T.name ls ps with
    | none => rfl
    | some p => dsimp only; split <;> rfl
  | tru b =>
    dsimp only at hg ⊢
    by_cases hk : T.kind = 144
    · rw [if_pos hk] at hg ⊢; rw [if_pos hk]; exact h _ _ _ _ (by omega) (by omega) hd hg
    · rw [if_neg hk, if_neg hk]; rfl
  | clo ty b e =>
    dsimp only at hg ⊢
    by_cases hk : T.kind = 140 ∧ ty = true
    · rw [if_pos hk] at hg ⊢; rw [if_pos hk]
      by_cases hc : (closeL (consE ρ) (T.kids.getD 1 .nil)).2 = 0
      · rw [if_pos hc] at hg ⊢; rw [if_pos hc]; exact h _ _ _ _ (by omega) (by omega) hd hg
      · rw [if_neg hc, if_neg hc]; rfl
    · rw [if_neg hk, if_neg hk]; rfl
  | pkd c p =>
    dsimp only at hg ⊢
    by_cases hk : T.kind = 142
    · rw [if_pos hk] at hg ⊢; rw [if_pos hk]; exact h _ _ _ _ (by omega) (by omega) hd hg
    · rw [if_neg hk, if_neg hk]; rfl
  | tag nm s p =>
    dsimp only at hg ⊢
    by_cases hk : T.kind = 147
    · rw [if_pos hk] at hg ⊢; rw [if_pos hk]
      cases ha : armF nm (T.kids.drop 1) with
      | none => rfl
      | some b => rw [ha] at hg; exact h _ _ _ _ (by omega) (by omega) hd hg
    · rw [if_neg hk] at hg ⊢; rw [if_neg hk]
      by_cases hk8 : T.kind = 148
      · rw [if_pos hk8] at hg ⊢; rw [if_pos hk8]; exact h2 _ _ _ _ _ _ _ h3 h4 hd hg
      · rw [if_neg hk8, if_neg hk8]; rfl
  | _ => rfl
theorem unrM_less (hf : ∀ T nm s p ρ f, (fo T nm s p ρ f).f ≤ f) (hf' : ∀ T nm s p ρ f, (fo' T nm s p ρ f).f ≤ f) (h : FoLess k k' fo fo') (T : Tree) (ρ : Ev) (c : Tree) :
    (∀ x f d, 2 * f ≤ k → 2 * (f + d) ≤ k' → 0 < d → d ≤ (unrM fo' T ρ c x (f + d)).f → unrM fo' T ρ c x (f + d) = (unrM fo T ρ c x f).add d) ∧
    ∀ y ∈ c.kids, ∀ x f d, 2 * f ≤ k → 2 * (f + d) ≤ k' → 0 < d → d ≤ (unrM fo' T ρ y x (f + d)).f → unrM fo' T ρ y x (f + d) = (unrM fo T ρ y x f).add d := by
  induction c using Tree.ind' with
  | h0 => exact ⟨fun x f d _ _ _ _ => by rw [unrM, unrM]; rfl, fun x hx => by cases hx⟩
  | h1 c hc ih =>
    refine ⟨fun x f d h1 h2 hd hg => ?_, fun y hy => (ih y hy).1⟩
    cases c with
    | nil => exact absurd rfl hc
    | node kk n nm mk l =>
      rw [unrM_node] at hg ⊢
      rw [unrM_node]
      by_cases hv : kk = 110 ∧ n = 0
      · rw [if_pos hv] at hg ⊢
        rw [if_pos hv]
        rw [if_neg (show f + d ≠ 0 by omega)] at hg ⊢
        by_cases f0 : f = 0
        · subst f0
          exfalso
          cases x with
          | tag nm s p => dsimp only at hg; have := hf' T nm s p ρ (0 + d - 1); omega
          | _ => dsimp only [bad] at hg; omega
        · rw [if_neg f0]
          have e1 : f + d - 1 = f - 1 + d := by omega
          cases x with
          | tag nm s p =>
            dsimp only at hg ⊢
            rw [e1] at hg ⊢
            exact h T nm s p ρ (f - 1) d (by omega) (by omega) hd hg
          | _ => dsimp only; rw [e1]; rfl
      · rw [if_neg hv] at hg ⊢
        rw [if_neg hv]
        cases x with
        | rcd ls ps =>
          dsimp only at hg ⊢
          by_cases hl : kk = 115 ∧ l.length = ps.length
          · rw [if_pos hl] at hg ⊢
            rw [if_pos hl]
            have bnd : ∀ (l' : List Tree) (a : List ByteArray) (b : List Vl) (f : Nat) (w : Vl) (al : List ByteArray) (o : List Vl), (unrsM fo' T ρ l' a b f w al o).f ≤ f := by
              intro l'
              induction l' with
              | nil => intro a b f w al o; rw [unrsM]; exact Nat.le_refl _
              | cons y l' ih2 =>
                intro a b f w al o
                rw [unrsM]
                have hy : (unrI fo' T ρ y (b.getD 0 .unt) f).f ≤ f := by rw [unrI_eq]; exact (unrM_f hf' T ρ _).1 _ _
                refine ite_p (p := fun r => r.f ≤ f) (fun _ => ?_) fun _ => Nat.le_refl _
                refine ite_p (p := fun r => r.f ≤ f) (fun _ => ?_) fun _ => hy
                exact Nat.le_trans (ih2 _ _ _ _ _ _) hy
            have key : ∀ (l' : List Tree), (∀ y ∈ l', ∀ z ∈ y.kids, ∀ x f d, 2 * f ≤ k → 2 * (f + d) ≤ k' → 0 < d → d ≤ (unrM fo' T ρ z x (f + d)).f → unrM fo' T ρ z x (f + d) = (unrM fo T ρ z x f).add d) →
                ∀ (a : List ByteArray) (b : List Vl) (f d : Nat) (w : Vl) (al : List ByteArray) (o : List Vl), 2 * f ≤ k → 2 * (f + d) ≤ k' → 0 < d → d ≤ (unrsM fo' T ρ l' a b (f + d) w al o).f → unrsM fo' T ρ l' a b (f + d) w al o = (unrsM fo T ρ l' a b f w al o).add d := by
              intro l'
              induction l' with
              | nil => intro _ a b f d w al o _ _ _ _; rw [unrsM, unrsM]; rfl
              | cons y l' ih2 =>
                intro hy0 a b f d w al o h1 h2 hd hg
                rw [unrsM] at hg
                rw [unrsM, unrsM]
                by_cases hn : y.name = a.getD 0 ByteArray.empty
                · rw [if_pos hn] at hg
                  rw [if_pos hn, if_pos hn]
                  have hy : ∀ x f d, 2 * f ≤ k → 2 * (f + d) ≤ k' → 0 < d → d ≤ (unrI fo' T ρ y x (f + d)).f → unrI fo' T ρ y x (f + d) = (unrI fo T ρ y x f).add d := by
                    intro x f d q1 q2 q4 q3
                    rw [unrI_eq] at q3 ⊢
                    rw [unrI_eq]
                    cases hk : y.kids with
                    | nil => simp only [List.getD_nil]; rw [unrM, unrM]; rfl
                    | cons z r => rw [hk] at q3; exact hy0 y (by simp) z (by rw [hk]; simp) x f d q1 q2 q4 q3
                  have hfu : (unrI fo T ρ y (b.getD 0 .unt) f).f ≤ f := by rw [unrI_eq]; exact (unrM_f hf T ρ _).1 _ _
                  have hyy := hy (b.getD 0 .unt) f d h1 h2 hd
                  by_cases h0 : (unrI fo' T ρ y (b.getD 0 .unt) (f + d)).e = 0
                  · rw [if_pos h0] at hg
                    have hyy := hyy (Nat.le_trans hg (bnd _ _ _ _ _ _ _))
                    rw [hyy] at hg h0 ⊢
                    generalize unrI fo T ρ y (b.getD 0 .unt) f = r at hfu hg h0 ⊢
                    rw [if_pos h0, if_pos (show r.e = 0 from h0)]
                    exact ih2 (fun y hy => hy0 y (by simp [hy])) _ _ _ d _ _ _ (by omega) (by omega) hd hg
                  · rw [if_neg h0] at hg
                    have hyy := hyy hg
                    rw [hyy] at h0 ⊢
                    rw [if_neg h0, if_neg (show ¬ (unrI fo T ρ y (b.getD 0 .unt) f).e = 0 from h0)]
                · rw [if_neg hn, if_neg hn]; rfl
            exact key l (fun y hy z hz => (ih y hy).2 z hz) ls ps f d (.rcd ls ps) ls [] h1 h2 hd hg
          · rw [if_neg hl, if_neg hl]; rfl
        | _ => rfl
end
theorem evfo_less : ∀ k k' : Nat, EvLess k k' (evalD k) (evalD k') ∧ FoLess k k' (foldD k) (foldD k')
  | 0, k' => ⟨fun T ρ f d h => by omega, fun T nm s p ρ f d h => by omega⟩
  | k + 1, 0 => ⟨fun T ρ f d _ h => by omega, fun T nm s p ρ f d _ h => by omega⟩
  | k + 1, k' + 1 => by
    obtain ⟨h1, h2⟩ := evfo_less k k'
    have f1 := (evfo_f k).1
    have f2 := (evfo_f k).2
    have f1' := (evfo_f k').1
    have f2' := (evfo_f k').2
    constructor
    · intro T ρ f d hk hk' hd hg
      rw [evalD] at hg
      rw [evalD, evalD]
      rw [if_neg (show f + d ≠ 0 by omega)] at hg ⊢
      by_cases f0 : f = 0
      · exfalso
        subst f0
        have : ∀ q : Rs, q.f ≤ 0 + d - 1 → ¬ d ≤ q.f := fun q h => by omega
        refine this _ ?_ hg
        refine ite_p (p := fun r => r.f ≤ 0 + d - 1) (fun _ => by cases atE ρ T.n <;> exact Nat.le_refl _) fun _ => ?_
        refine ite_p (p := fun r => r.f ≤ 0 + d - 1) (fun _ => Nat.le_refl _) fun _ => ?_
        refine ite_p (p := fun r => r.f ≤ 0 + d - 1) (fun _ => Nat.le_refl _) fun _ => ?_
        refine ite_p (p := fun r => r.f ≤ 0 + d - 1) (fun _ => Nat.le_refl _) fun _ => ?_
        refine ite_p (p := fun r => r.f ≤ 0 + d - 1) (fun _ => Nat.le_refl _) fun _ => ?_
        refine ite_p (p := fun r => r.f ≤ 0 + d - 1) (fun _ => recM_f f1' _ _ _ _ _) fun _ => ?_
        refine ite_p (p := fun r => r.f ≤ 0 + d - 1) (fun _ => wrapM_f f1' _ _ _) fun _ => ?_
        have ha := f1' (T.kids.getD 0 .nil) ρ (0 + d - 1)
        generalize evalD k' (T.kids.getD 0 .nil) ρ (0 + d - 1) = a at ha
        refine ite_p (p := fun r => r.f ≤ 0 + d - 1) (fun _ => ha) fun _ => ?_
        refine ite_p (p := fun r => r.f ≤ 0 + d - 1) (fun _ => ?_) fun _ => ?_
        · have hb := Nat.le_trans (f1' (T.kids.getD 1 .nil) ρ a.f) ha
          generalize evalD k' (T.kids.getD 1 .nil) ρ a.f = b at hb
          refine ite_p (p := fun r => r.f ≤ 0 + d - 1) (fun _ => hb) fun _ => ?_
          refine ite_p (p := fun r => r.f ≤ 0 + d - 1) (fun _ => by rw [opM_f]; exact hb) fun _ => ?_
          split
          · exact Nat.le_trans (f1' _ _ _) hb
          · exact hb
        refine ite_p (p := fun r => r.f ≤ 0 + d - 1) (fun _ => Nat.le_trans (f1' _ _ _) ha) fun _ => ?_
        exact Nat.le_trans (useM_f f1' f2' _ _ _ _) ha
      rw [if_neg f0]
      have e1 : f + d - 1 = f - 1 + d := by omega
      rw [e1] at hg ⊢
      by_cases c1 : T.kind = 130
      · rw [if_pos c1, if_pos c1]; cases atE ρ T.n <;> rfl
      rw [if_neg c1] at hg
      rw [if_neg c1, if_neg c1]
      by_cases c2 : T.kind = 131
      · rw [if_pos c2, if_pos c2]; rfl
      rw [if_neg c2] at hg
      rw [if_neg c2, if_neg c2]
      by_cases c3 : T.kind = 132
      · rw [if_pos c3, if_pos c3]; rfl
      rw [if_neg c3] at hg
      rw [if_neg c3, if_neg c3]
      by_cases c4 : T.kind = 133
      · rw [if_pos c4, if_pos c4]; rfl
      rw [if_neg c4] at hg
      rw [if_neg c4, if_neg c4]
      by_cases c5 : T.kind = 134 ∨ T.kind = 139
      · rw [if_pos c5, if_pos c5]; rfl
      rw [if_neg c5] at hg
      rw [if_neg c5, if_neg c5]
      by_cases c6 : T.kind = 136
      · rw [if_pos c6] at hg
        rw [if_pos c6, if_pos c6]
        exact recM_less f1 f1' h1 ρ _ _ d _ _ (by omega) (by omega) hd hg
      rw [if_neg c6] at hg
      rw [if_neg c6, if_neg c6]
      by_cases c7 : T.kind = 146 ∨ T.kind = 141
      · rw [if_pos c7] at hg
        rw [if_pos c7, if_pos c7]
        exact wrapM_less h1 T ρ _ d (by omega) (by omega) hd hg
      rw [if_neg c7] at hg
      rw [if_neg c7, if_neg c7]
      dsimp only at hg ⊢
      have ha := h1 (T.kids.getD 0 .nil) ρ (f - 1) d (by omega) (by omega) hd
      have haf := f1 (T.kids.getD 0 .nil) ρ (f - 1)
      have hab : d ≤ (evalD k' (T.kids.getD 0 .nil) ρ (f - 1 + d)).f := by
        refine Nat.le_trans hg ?_
        generalize evalD k' (T.kids.getD 0 .nil) ρ (f - 1 + d) = a
        refine ite_p (p := fun r => r.f ≤ a.f) (fun _ => Nat.le_refl _) fun _ => ?_
        refine ite_p (p := fun r => r.f ≤ a.f) (fun _ => ?_) fun _ => ?_
        · have hb := f1' (T.kids.getD 1 .nil) ρ a.f
          generalize evalD k' (T.kids.getD 1 .nil) ρ a.f = b at hb
          refine ite_p (p := fun r => r.f ≤ a.f) (fun _ => hb) fun _ => ?_
          refine ite_p (p := fun r => r.f ≤ a.f) (fun _ => by rw [opM_f]; exact hb) fun _ => ?_
          split
          · exact Nat.le_trans (f1' _ _ _) hb
          · exact hb
        refine ite_p (p := fun r => r.f ≤ a.f) (fun _ => f1' _ _ _) fun _ => ?_
        exact useM_f f1' f2' _ _ _ _
      rw [ha hab] at hg ⊢
      generalize evalD k (T.kids.getD 0 .nil) ρ (f - 1) = a at haf hg ⊢
      by_cases a0 : a.e = 0
      · rw [if_neg (show ¬ (a.add d).e ≠ 0 from by simp [Rs.add, a0])] at hg
        rw [if_neg (show ¬ (a.add d).e ≠ 0 from by simp [Rs.add, a0]), if_neg (show ¬ a.e ≠ 0 from by simp [a0])]
        have eb : (a.add d).f = a.f + d := rfl
        have ev1 : (a.add d).v = a.v := rfl
        rw [eb, ev1] at hg ⊢
        by_cases c8 : T.kind = 135 ∨ T.kind = 145
        · rw [if_pos c8] at hg
          rw [if_pos c8, if_pos c8]
          have hb := h1 (T.kids.getD 1 .nil) ρ a.f d (by omega) (by omega) hd
          have hbf := f1 (T.kids.getD 1 .nil) ρ a.f
          have hbb : d ≤ (evalD k' (T.kids.getD 1 .nil) ρ (a.f + d)).f := by
            refine Nat.le_trans hg ?_
            generalize evalD k' (T.kids.getD 1 .nil) ρ (a.f + d) = b
            refine ite_p (p := fun r => r.f ≤ b.f) (fun _ => Nat.le_refl _) fun _ => ?_
            refine ite_p (p := fun r => r.f ≤ b.f) (fun _ => by rw [opM_f]; exact Nat.le_refl _) fun _ => ?_
            split
            · exact f1' _ _ _
            · exact Nat.le_refl _
          rw [hb hbb] at hg ⊢
          generalize evalD k (T.kids.getD 1 .nil) ρ a.f = b at hbf hg ⊢
          by_cases b0 : b.e = 0
          · rw [if_neg (show ¬ (b.add d).e ≠ 0 from by simp [Rs.add, b0])] at hg
            rw [if_neg (show ¬ (b.add d).e ≠ 0 from by simp [Rs.add, b0]), if_neg (show ¬ b.e ≠ 0 from by simp [b0])]
            by_cases c9 : T.kind = 145
            · rw [if_pos c9, if_pos c9]
              exact opM_more _ _ _ _ _
            · rw [if_neg c9] at hg
              rw [if_neg c9, if_neg c9]
              cases hav : a.v with
              | clo ty body e =>
                rw [hav] at hg
                cases ty with
                | false => exact h1 _ _ _ d (by omega) (by omega) hd hg
                | true => rfl
              | _ => rfl
          · rw [if_pos (show (b.add d).e ≠ 0 from b0), if_pos b0]; rfl
        rw [if_neg c8] at hg
        rw [if_neg c8, if_neg c8]
        by_cases c10 : T.kind = 143
        · rw [if_pos c10] at hg
          rw [if_pos c10, if_pos c10]
          exact h1 _ _ _ d (by omega) (by omega) hd hg
        rw [if_neg c10] at hg
        rw [if_neg c10, if_neg c10]
        exact useM_less h1 h2 T _ ρ _ d (by omega) (by omega) hd hg
      · rw [if_pos (show (a.add d).e ≠ 0 from a0), if_pos a0]; rfl
    · intro T nm s p ρ f d hk hk' hd hg
      rw [foldD] at hg
      rw [foldD, foldD]
      by_cases c1 : (No.normR s).2 ≠ 0
      · rw [if_pos c1, if_pos c1]; rfl
      rw [if_neg c1] at hg
      rw [if_neg c1, if_neg c1]
      cases hA : armF nm (T.kids.drop 2) with
      | none => rfl
      | some b =>
        rw [hA] at hg
        dsimp only at hg ⊢
        by_cases c2 : (No.normR s).1.kind ≠ 121
        · rw [if_pos c2, if_pos c2]; rfl
        rw [if_neg c2] at hg
        rw [if_neg c2, if_neg c2]
        cases hA2 : armF nm (No.normR s).1.kids with
        | none => rfl
        | some c =>
          rw [hA2] at hg
          dsimp only at hg ⊢
          have hy := (unrM_less f2 f2' h2 T ρ c).1 p f d (by omega) (by omega) hd
          have hyf := (unrM_f f2 T ρ c).1 p f
          have hyb : d ≤ (unrM (foldD k') T ρ c p (f + d)).f := by
            refine Nat.le_trans hg ?_
            generalize unrM (foldD k') T ρ c p (f + d) = y
            exact ite_p (p := fun r => r.f ≤ y.f) (fun _ => Nat.le_refl _) fun _ => f1' _ _ _
          rw [hy hyb] at hg ⊢
          generalize unrM (foldD k) T ρ c p f = y at hyf hg ⊢
          by_cases y0 : y.e = 0
          · rw [if_neg (show ¬ (y.add d).e ≠ 0 from by simp [Rs.add, y0])] at hg
            rw [if_neg (show ¬ (y.add d).e ≠ 0 from by simp [Rs.add, y0]), if_neg (show ¬ y.e ≠ 0 from by simp [y0])]
            exact h1 _ _ _ d (by omega) (by omega) hd hg
          · rw [if_pos (show (y.add d).e ≠ 0 from y0), if_pos y0]; rfl
theorem evalF_f (T : Tree) (f : Nat) : (evalF T f).f ≤ f := (evfo_f _).1 T .nil f
theorem evalF_more {T : Tree} {f : Nat} (h : good (evalF T f)) (d : Nat) : evalF T (f + d) = (evalF T f).add d :=
  (evfo_more (2 * f + 1) (2 * (f + d) + 1)).1 T .nil f d (Nat.le_refl _) (Nat.le_refl _) h
/-- Less fuel than is used is spent. -/
theorem evalF_less {T : Tree} {f g : Nat} (h : (evalF T f).e ≠ 18) (hg : g < f - (evalF T f).f) : (evalF T g).e = 18 ∧ (evalF T g).f = 0 := by
  apply Decidable.byContradiction
  intro hn
  have hgood : good (evalF T g) := by
    unfold good
    by_cases h1 : (evalF T g).e = 18
    · right; omega
    · exact .inl h1
  have := evalF_more hgood (f - g)
  rw [show g + (f - g) = f by omega] at this
  have e1 : (evalF T f).f = (evalF T g).f + (f - g) := by rw [this]; rfl
  omega
/-- Just as much as is used is enough. -/
theorem evalF_just (T : Tree) (f : Nat) : ∃ v, evalF T (f - (evalF T f).f) = ⟨v, (evalF T f).e, 0⟩ ∧ (evalF T f).v = v := by
  have hf := evalF_f T f
  by_cases h0 : (evalF T f).f = 0
  · rw [h0, Nat.sub_zero]
    refine ⟨(evalF T f).v, ?_, rfl⟩
    generalize evalF T f = r at h0
    obtain ⟨v, e, q⟩ := r
    dsimp only at h0
    rw [h0]
  · have := (evfo_less (2 * (f - (evalF T f).f) + 1) (2 * f + 1)).1 T .nil (f - (evalF T f).f) (evalF T f).f (Nat.le_refl _) (by omega) (by omega)
    rw [show f - (evalF T f).f + (evalF T f).f = f by omega] at this
    have := this (Nat.le_refl _)
    have e0 : evalD (2 * f + 1) T .nil f = evalF T f := rfl
    have e1 : evalD (2 * (f - (evalF T f).f) + 1) T .nil (f - (evalF T f).f) = evalF T (f - (evalF T f).f) := rfl
    rw [e0, e1] at this
    generalize evalF T (f - (evalF T f).f) = x at this ⊢
    rw [this]
    obtain ⟨v, e, q⟩ := x
    have hq : q = 0 := by
      have : (evalF T f).f = q + (evalF T f).f := congrArg Rs.f this
      omega
    subst hq
    exact ⟨v, rfl, rfl⟩
theorem evalF_pos {T : Tree} {f : Nat} (h : f ≠ 0) : (evalF T f).f < f := by
  apply Decidable.byContradiction
  intro hn
  have hf := evalF_f T f
  obtain ⟨v, h1, _⟩ := evalF_just T f
  rw [show f - (evalF T f).f = 0 by omega] at h1
  have h2 : evalF T 0 = bad 18 0 := by unfold evalF; rw [evalD, if_pos rfl]
  have h3 : (evalF T f).e = 18 := by
    have := congrArg Rs.e (h1.symm.trans h2)
    exact this
  have hg : good (evalF T f) := .inr (by omega)
  obtain ⟨d, rfl⟩ : ∃ d, f = d + 1 := ⟨f - 1, by omega⟩
  have h5 := (evfo_less 1 (2 * (d + 1) + 1)).1 T .nil 0 (d + 1) (by omega) (by omega) (by omega)
  rw [Nat.zero_add] at h5
  have e0 : evalD (2 * (d + 1) + 1) T .nil (d + 1) = evalF T (d + 1) := rfl
  rw [e0] at h5
  -- what one step leaves
  have hlt : (evalF T (d + 1)).f ≤ d := by
    unfold evalF
    rw [evalD, if_neg (by omega)]
    have f1 := (evfo_f (2 * (d + 1))).1
    have f2 := (evfo_f (2 * (d + 1))).2
    have e2 : d + 1 - 1 = d := by omega
    rw [e2]
    refine ite_p (p := fun r => r.f ≤ d) (fun _ => by cases atE .nil T.n <;> exact Nat.le_refl _) fun _ => ?_
    refine ite_p (p := fun r => r.f ≤ d) (fun _ => Nat.le_refl _) fun _ => ?_
    refine ite_p (p := fun r => r.f ≤ d) (fun _ => Nat.le_refl _) fun _ => ?_
    refine ite_p (p := fun r => r.f ≤ d) (fun _ => Nat.le_refl _) fun _ => ?_
    refine ite_p (p := fun r => r.f ≤ d) (fun _ => Nat.le_refl _) fun _ => ?_
    refine ite_p (p := fun r => r.f ≤ d) (fun _ => recM_f f1 _ _ _ _ _) fun _ => ?_
    refine ite_p (p := fun r => r.f ≤ d) (fun _ => wrapM_f f1 _ _ _) fun _ => ?_
    have ha := f1 (T.kids.getD 0 .nil) .nil d
    generalize evalD (2 * (d + 1)) (T.kids.getD 0 .nil) .nil d = a at ha
    refine ite_p (p := fun r => r.f ≤ d) (fun _ => ha) fun _ => ?_
    refine ite_p (p := fun r => r.f ≤ d) (fun _ => ?_) fun _ => ?_
    · have hb := Nat.le_trans (f1 (T.kids.getD 1 .nil) .nil a.f) ha
      generalize evalD (2 * (d + 1)) (T.kids.getD 1 .nil) .nil a.f = b at hb
      refine ite_p (p := fun r => r.f ≤ d) (fun _ => hb) fun _ => ?_
      refine ite_p (p := fun r => r.f ≤ d) (fun _ => by rw [opM_f]; exact hb) fun _ => ?_
      split
      · exact Nat.le_trans (f1 _ _ _) hb
      · exact hb
    refine ite_p (p := fun r => r.f ≤ d) (fun _ => Nat.le_trans (f1 _ _ _) ha) fun _ => ?_
    exact Nat.le_trans (useM_f f1 f2 _ _ _ _) ha
  omega
end Mc
end Go.Proofs.Ytlgajkoplklkiaa

namespace Go.Proofs.Ytlgajkoplklkiaa
open Go Go.Mq Go.ChangeShapes Go.WideShapes Go.Deep Go.RowKit Go.ChangeAt
set_option linter.all false

/-! The arguments are opened -/
theorem imm_cell {W : World} {b o : Nat} {v : Value} (h : W.cell? ⟨b, o, none⟩ = some v) : (immOf W).cell b o = some v := by
  unfold World.cell? at h
  split at h
  · rename_i c T fz hb
    unfold Imm.cell immOf
    rw [hb]
    simpa using h
  · cases h
theorem imm_cell' {W : World} {a : Addr} {k : Nat} {v : Value} (hs : a.spot = none) (h : W.cell? (a.add k) = some v) : (immOf W).cell a.block (a.off + k) = some v := by
  obtain ⟨b, o, s⟩ := a
  simp only at hs
  subst hs
  rw [add_addr] at h
  exact imm_cell h
theorem add_spot (a : Addr) (h : (a.add 0).spot = none) : a.spot = none := by
  simpa [Addr.add] using h

section
variable {H : Type} {enc : TypeId × Value → H} {P : Program} {w : World} {base : Nat} {spare : Nat → Bool} {held : Bool}
theorem open_slice_fields {t e : TypeId} {fs : Array Field} {fuel : Nat} {cs : List Value} {x : DataW H × List MemPlace} (ht : P.underlying t = some (.slice e)) (he : P.underlying e = some (.struct fs))
    (hone : oneCellFields P fs = true) (hC : P.cellsOf e = fs.size) (h : DataW.trod enc P w base spare held fuel t cs = some x) :
    (cs = [.slice none 0 0] ∧ x = (.nil, [])) ∨
    ∃ (a : Addr) (len cap m : Nat) (D : Nat → DataW H) (Pl : Nat → List MemPlace), cs = [.slice (some a) len cap] ∧ base ≤ a.block ∧ len ≤ cap ∧ cap ≤ maxLen ∧ m = (if spare a.block then cap else len) ∧
      x = (.slice ((List.range len).map D) ((List.range (m - len)).map fun j => D (len + j)), MemPlace.row a (m * fs.size) ++ (List.range m).flatMap Pl) ∧
      ∀ i, i < m → ∃ (ys : List (DataW H × List MemPlace)) (n : Nat), D i = .agg (ys.map (·.1)) ∧ Pl i = ys.flatMap (·.2) ∧ ys.length = fs.size ∧
        ∀ (j : Nat) (f : Field), fs[j]? = some f → ∃ (v : Value) (y : DataW H × List MemPlace), w.cell? (a.add (i * fs.size + j)) = some v ∧ ys[j]? = some y ∧ DataW.trod enc P w base spare held n f.type [v] = some y := by
  rcases open_slice ht h with h0 | ⟨a, len, cap, m, n, D, Pl, hcs, hb, hl, hm, hmm, hx, hi⟩
  · exact .inl h0
  · refine .inr ⟨a, len, cap, m, D, Pl, hcs, hb, hl, hm, hmm, by rw [hC] at hx; exact hx, fun i him => ?_⟩
    obtain ⟨cs', hc, ht'⟩ := hi i him
    rw [hC] at hc
    obtain ⟨ys, n', hn', hy, hlen, hyl, hf⟩ := DataW.trod_struct he ht'
    obtain ⟨_, hcl, hat⟩ := World.cells?_some hc
    simp only [Prod.mk.injEq] at hy
    refine ⟨ys, n', hy.1, hy.2, hyl, fun j f hj => ?_⟩
    obtain ⟨ho, hk⟩ := hone_of hone j f hj
    have hjl : j < fs.size := (Array.getElem?_eq_some_iff.1 hj).1
    have hcell := hat j hjl
    have hv : cs'[j]? = some (cs'[j]'(by omega)) := List.getElem?_eq_getElem (by omega)
    have h1 := hf j f hj
    rw [ho, hk] at h1
    have hone' : (cs'.drop j).take 1 = [cs'[j]'(by omega)] := by
      rw [List.drop_eq_getElem_cons (by omega)]
      rfl
    rw [hone'] at h1
    have hys : ys[j]? = some (ys[j]'(by omega)) := List.getElem?_eq_getElem (by omega)
    refine ⟨_, _, ?_, hys, h1.trans hys⟩
    rw [← Go.Deep.add_add, hcell, hv]
end

theorem mem_weightsAll {H : Type} {Q : Program} {e : TypeId} : ∀ {l : List (DataW H)} {d : DataW H} {n : Nat}, d ∈ l → n ∈ d.weights Q e → n ∈ DataW.weightsAll Q e l
  | [], _, _, h, _ => by cases h
  | x :: l, d, n, h, hn => by
    simp only [DataW.weightsAll, List.mem_append]
    rcases List.mem_cons.1 h with rfl | h
    · exact .inl hn
    · exact .inr (mem_weightsAll h hn)

theorem cells3 : P.cellsOf 3 = 1 := by kernel_rfl

theorem open_cel {H : Type} {enc : TypeId × Value → H} {W : World} {n4 n0 n1 n2 n3 : Nat} {v0 v1 v2 v3 v4 : Value} {y0 y1 y2 y3 y4 : DataW H × List MemPlace}
    (h0 : DataW.trod enc P W 0 (fun _ => true) true n0 3 [v0] = some y0) (h1 : DataW.trod enc P W 0 (fun _ => true) true n1 3 [v1] = some y1)
    (h2 : DataW.trod enc P W 0 (fun _ => true) true n2 9 [v2] = some y2) (h3 : DataW.trod enc P W 0 (fun _ => true) true n3 9 [v3] = some y3)
    (h4 : DataW.trod enc P W 0 (fun _ => true) true n4 38 [v4] = some y4) (hz : ∀ n ∈ y4.1.weights P 38, n ≤ reachBytes) :
    ∃ c : Cel, Cd (immOf W) (cellD c 0) v0 ∧ Cd (immOf W) (cellD c 1) v1 ∧ Cd (immOf W) (cellD c 2) v2 ∧ Cd (immOf W) (cellD c 3) v3 ∧ Cd (immOf W) (cellD c 4) v4 := by
  obtain ⟨k, e0, _, _⟩ := DataW.trod_int Try.underlying3 h0
  obtain ⟨n, e1, _, _⟩ := DataW.trod_int Try.underlying3 h1
  obtain ⟨s, e2, _, _⟩ := DataW.trod_string Try.underlying9 h2
  obtain ⟨m, e3, _, _⟩ := DataW.trod_string Try.underlying9 h3
  cases e0; cases e1; cases e2; cases e3
  rcases open_ints Try.underlying38 Try.underlying3 cells3 h4 with ⟨e4, _⟩ | ⟨a, len, cap, zs, e4, _, hl, hc, hzl, hy, hcell, _⟩
  · cases e4
    exact ⟨⟨k, n, s, m, []⟩, .int, .int, .str, .str, .slice0⟩
  · cases e4
    simp only [if_true] at hzl
    have hw := hz ((zs.take len).length * P.bytesOf 3 + (zs.drop len).length * P.bytesOf 3) (by
      rw [hy]
      simp [DataW.weights, Try.underlying38, lits, Nat.add_mul])
    have hb8 : P.bytesOf 3 = 8 := by kernel_rfl
    have hr := reachBytes_lt
    rw [hb8, List.length_take] at hw
    have hlm : len ≤ maxN := by unfold maxN; omega
    by_cases hc0 : cap = 0
    · have hl0 : len = 0 := by omega
      subst hc0 hl0
      exact ⟨⟨k, n, s, m, []⟩, .int, .int, .str, .str, .sliceE⟩
    · have hsp : a.spot = none := add_spot a (World.cell?_spot (hcell 0 (by omega)))
      obtain ⟨b, o, sp⟩ := a
      simp only at hsp
      subst hsp
      have hll : (zs.take len).length = len := by rw [List.length_take]; omega
      refine ⟨⟨k, n, s, m, zs.take len⟩, .int, .int, .str, .str, ?_⟩
      have key : Cd (immOf W) (.slice len 1 (fun i _ => .int .i64 ((zs.take len).getD i 0))) (.slice (some ⟨b, o, none⟩) len cap) := by
        refine .slice (cs := fun i _ => .int .i64 ((zs.take len).getD i 0)) hl hlm (fun i j hi hj => ?_) (fun i j hi hj => .int)
        have := imm_cell' rfl (hcell i (by omega))
        have e : o + i * 1 + j = o + i := by omega
        rw [e]
        simp only at this
        rw [this]
        simp [List.getElem?_take, hi]
      show Cd (immOf W) (.slice (zs.take len).length 1 (fun i _ => .int .i64 ((zs.take len).getD i 0))) _
      rw [hll]
      exact key

theorem mem_range_map {α : Type} {D : Nat → α} {n i : Nat} (h : i < n) : D i ∈ (List.range n).map D := List.mem_map.2 ⟨i, List.mem_range.2 h, rfl⟩

theorem open_cells {H : Type} {enc : TypeId × Value → H} {W : World} {fuel : Nat} {v : Value} {y : DataW H × List MemPlace}
    (h : DataW.trod enc P W 0 (fun _ => true) true fuel 22 [v] = some y) (hz : ∀ n ∈ y.1.weights P 22, n ≤ reachBytes) : ∃ l : List Cel, Cd (immOf W) (cellsD l) v := by
  rcases open_slice_fields Try.underlying22 Try.underlying40 (by kernel_rfl) (by kernel_rfl) h with ⟨hc, _⟩ | ⟨a, len, cap, m, D, Pl, hc, _, hl, hm, hmm, hy, hi⟩
  · cases hc
    exact ⟨[], .slice0⟩
  · cases hc
    simp only [if_true] at hmm
    subst hmm
    have hw := hz (((List.range len).map D).length * P.bytesOf 40 + ((List.range (m - len)).map fun j => D (len + j)).length * P.bytesOf 40) (by
      rw [hy]
      simp [DataW.weights, Try.underlying22, Nat.add_mul])
    have hb72 : P.bytesOf 40 = 72 := by kernel_rfl
    have hr := reachBytes_lt
    rw [hb72, List.length_map, List.length_range] at hw
    have hlm : len ≤ maxN := by unfold maxN; omega
    have helem : ∀ i, i < len → ∀ n ∈ (D i).weights P 40, n ≤ reachBytes := by
      intro i hil n hn
      refine hz n ?_
      rw [hy]
      simp only [DataW.weights, Try.underlying22, List.mem_cons, List.mem_append]
      exact .inr (.inl (mem_weightsAll (mem_range_map hil) hn))
    by_cases hc0 : m = 0
    · have hl0 : len = 0 := by omega
      subst hc0 hl0
      exact ⟨[], .sliceE⟩
    · have hsp : a.spot = none := by
        obtain ⟨ys, n, _, _, _, hf⟩ := hi 0 (by omega)
        obtain ⟨v0, _, hv0, _, _⟩ := hf 0 _ rfl
        exact add_spot a (World.cell?_spot hv0)
      have each : ∀ i, i < len → ∃ p : Cel × (Nat → Value), ∀ j, j < 5 → W.cell? (a.add (i * 5 + j)) = some (p.2 j) ∧ Cd (immOf W) (cellD p.1 j) (p.2 j) := by
        intro i hil
        obtain ⟨ys, n, hD, _, hyl, hf⟩ := hi i (by omega)
        obtain ⟨v0, y0, c0, g0, t0⟩ := hf 0 _ rfl
        obtain ⟨v1, y1, c1, g1, t1⟩ := hf 1 _ rfl
        obtain ⟨v2, y2, c2, g2, t2⟩ := hf 2 _ rfl
        obtain ⟨v3, y3, c3, g3, t3⟩ := hf 3 _ rfl
        obtain ⟨v4, y4, c4, g4, t4⟩ := hf 4 _ rfl
        have hz4 : ∀ n ∈ y4.1.weights P 38, n ≤ reachBytes := by
          intro n hn
          refine helem i hil n ?_
          rw [hD]
          simp only [DataW.weights, Try.underlying40]
          exact DataW.weights_mem_each (j := 4) (t := 38) rfl (by rw [List.getElem?_map, g4]; rfl) n hn
        obtain ⟨c, q0, q1, q2, q3, q4⟩ := open_cel t0 t1 t2 t3 t4 hz4
        refine ⟨(c, fun j => if j = 0 then v0 else if j = 1 then v1 else if j = 2 then v2 else if j = 3 then v3 else v4), fun j hj => ?_⟩
        match j, hj with
        | 0, _ => exact ⟨c0, q0⟩
        | 1, _ => exact ⟨c1, q1⟩
        | 2, _ => exact ⟨c2, q2⟩
        | 3, _ => exact ⟨c3, q3⟩
        | 4, _ => exact ⟨c4, q4⟩
      haveI : Inhabited (Cel × (Nat → Value)) := ⟨(default, fun _ => undef)⟩
      obtain ⟨p, hp⟩ := choose_lt each
      obtain ⟨b, o, sp⟩ := a
      simp only at hsp
      subst hsp
      refine ⟨(List.range len).map fun i => (p i).1, ?_⟩
      have hll : ((List.range len).map fun i => (p i).1).length = len := by simp
      have key : Cd (immOf W) (.slice len 5 (fun i j => cellD (((List.range len).map fun i => (p i).1).getD i default) j)) (.slice (some ⟨b, o, none⟩) len m) := by
        refine .slice (cs := fun i j => (p i).2 j) hl hlm (fun i j hil hj => ?_) (fun i j hil hj => ?_)
        · have := imm_cell' rfl (hp i hil j hj).1
          simp only at this
          rw [← this, Nat.add_assoc]
        · have := (hp i hil j hj).2
          have e : ((List.range len).map fun i => (p i).1).getD i default = (p i).1 := by simp [hil]
          rw [e]
          exact this
      show Cd (immOf W) (.slice ((List.range len).map fun i => (p i).1).length 5 _) _
      rw [hll]
      exact key

set_option maxRecDepth 100000 in
theorem open_tree {H : Type} {enc : TypeId × Value → H} {W : World} {base : Nat} {v : Value} {d : DataW H} {p : List MemPlace}
    (hv : Value.okWide P W .any base 24 v) (h : DataW.Trod enc P W 0 (fun _ => true) true 24 v d p) (hz : ∀ n ∈ d.weights P 24, n ≤ reachBytes) :
    ∃ l : List Cel, ∀ ρ : Nat → RB, CA (immOf W) ρ (· < 0) (.agg [.d (cellsD l)]) v := by
  obtain ⟨cs, rfl, hcs⟩ := okWide_struct Try.underlying24 hv
  obtain ⟨fuel, hf⟩ := h
  obtain ⟨xs, n, _, hx, hlen, hxl, hfld⟩ := DataW.trod_struct Try.underlying24 hf
  have h1 : P.cellsOf 24 = 1 := by kernel_rfl
  obtain ⟨cl⟩ := cs
  match cl, hcs.trans h1, xs, hxl with
  | [c0], _, [y0], _ =>
    have h0 : DataW.trod enc P W 0 (fun _ => true) true n 22 (((Value.agg #[c0]).cells.toList.drop 0).take (P.cellsOf 22)) = some y0 := hfld 0 _ rfl
    have h2 : P.cellsOf 22 = 1 := by kernel_rfl
    have h0' : DataW.trod enc P W 0 (fun _ => true) true n 22 [c0] = some y0 := by
      have e : ∀ k, k = 1 → ((Value.agg #[c0]).cells.toList.drop 0).take k = [c0] := fun k hk => by subst hk; rfl
      have h3 := e _ h2
      generalize P.cellsOf 22 = k at h0 h3
      rw [← h3]
      exact h0
    obtain ⟨l, hl⟩ := open_cells h0' (fun m hm => hz m (by
      cases hx
      simp only [DataW.weights, Try.underlying24]
      exact DataW.weights_mem_each (j := 0) (t := 22) rfl rfl m hm))
    refine ⟨l, fun ρ => .agg rfl fun i hi => ?_⟩
    have hi0 : i = 0 := by simpa using hi
    subst hi0
    exact .d hl
end Go.Proofs.Ytlgajkoplklkiaa

namespace Go.Proofs.Ytlgajkoplklkiaa
namespace Mc
open Go Go.Mq Tm Sb St
set_option linter.all false

/-! The laws -/
theorem beqB (x y : ByteArray) : (x == y) = decide (x = y) := by
  have : (x == y) = (x.data == y.data) := rfl
  rw [this]
  by_cases h : x = y
  · subst h; simp
  · have : x.data ≠ y.data := fun e => h (ByteArray.ext e)
    simp [h, this]
theorem eqSI : EqSI P 29 := by
  refine ⟨by kernel_rfl, fun a b m n w => ?_⟩
  have h29 : P.underlying 29 = some (.struct #[⟨ "Text", 9, 0, false, "", "", 0⟩, ⟨ "E", 27, 1, false, "", "", 16⟩]) := by kernel_rfl
  have h9 : P.underlying 9 = some .string := by kernel_rfl
  have h27 : P.underlying 27 = some (.int .i64) := by kernel_rfl
  have hs : P.stoodInHeld 29 = false := by kernel_rfl
  have a9 : ∀ w, (isAgg 9).run P w = .ok false w := Try.isAgg9
  have a27 : ∀ w, (isAgg 27).run P w = .ok false w := Try.isAgg27
  have pS : ∀ (x : ByteArray) (k : Int) (w : World), (part 9 #[Value.string x, .int .i64 k] 0).run P w = .ok (.string x) w := fun x k w => by
    simp [part, a9]
  have pI : ∀ (x : ByteArray) (k : Int) (w : World), (part 27 #[Value.string x, .int .i64 k] 1).run P w = .ok (.int .i64 k) w := fun x k w => by
    simp [part, a27]
  have eS : ∀ (d : Nat) (x y : ByteArray) (w : World), (Op.equalIn (d + 1) 9 (.string x) (.string y)).run P w = .ok (decide (x = y)) w := fun d x y w => by
    simp only [Op.equalIn, Sem.run_bind, run_underlying h9, Result.andThen_ok, Sem.run_pure]
    rw [beqB]
  have eI : ∀ (d : Nat) (x y : Int) (w : World), (Op.equalIn (d + 1) 27 (.int .i64 x) (.int .i64 y)).run P w = .ok (decide (x = y)) w := fun d x y w => by
    simp only [Op.equalIn, Sem.run_bind, run_underlying h27, Result.andThen_ok, if_true, Sem.run_pure]; rfl
  unfold Op.equal Op.maxDepth
  generalize hd : 9998 = d
  have : (10000 : Nat) = d + 1 + 1 := by omega
  rw [this]
  unfold Op.equalIn
  simp only [Sem.run_bind, run_underlying h29, Result.andThen_ok]
  simp [pS, pI, eS, eI, hs]
  by_cases h1 : a = b <;> by_cases h2 : m = n <;> simp [h1, h2]
def wOp : Tree := .node 145 1 ByteArray.empty ByteArray.empty [.node 131 2 ByteArray.empty ByteArray.empty [], .node 131 3 ByteArray.empty ByteArray.empty []]
def s5 : ByteArray := ⟨#[53]⟩
theorem w_run1 : runF wOp 100 = (s5, 0, 3) := by kernel_rfl
theorem w_run2 : runF wOp 1 = (ByteArray.empty, 18, 1) := by kernel_rfl
set_option maxHeartbeats 8000000 in
set_option maxRecDepth 10000 in
theorem works18_ok : Pure P 10 [] (.d (.bool true)) := by
  have h1 := run_ok wOp 100 (by decide)
  have h2 := run_ok wOp 1 (by decide)
  rw [w_run1] at h1
  rw [w_run2] at h2
  unfold outA wOp s5 at *
  refine Pure.of_body tt [7, 9, 10, 12] [0] Try.func10 rfl rfl rfl (Nat.le_of_ble_eq_true rfl) fun g => ?_
  repeat' ((first
    | refine then_go hm htt ?_
    | refine Side.go ?_
    | refine Hyp.go fun hlen => ?_
    | refine Split.ct ?_
    | refine Split.cf ?_
    | refine Split.tt ?_
    | refine Split.ff ?_
    | refine Indep.go ?_
    | refine CallG.gp h1 ?_
    | refine CallG.gp h2 ?_
    | refine Side.mk eqSI ?_
    | refine Split.go (fun hc => ?_) fun hc => ?_) <;> conv => whnf)
  all_goals exact ret_closed rfl rfl rfl
theorem run_err {T : Tree} {f : Int} : (runF T f).2.1 = 0 ∨ (runF T f).1 = ByteArray.empty := by
  unfold runF
  by_cases h1 : termE T ≠ 0
  · rw [if_pos h1]; exact .inr rfl
  rw [if_neg h1]
  by_cases h2 : closedF T = false ∨ f < 0
  · rw [if_pos h2]; exact .inr rfl
  rw [if_neg h2]
  by_cases h3 : (evalF T f.toNat).e ≠ 0
  · rw [if_pos h3]; exact .inr rfl
  rw [if_neg h3]
  by_cases h4 : (wrV (evalF T f.toNat).v (ByteArray.empty, 0)).2 ≠ 0
  · rw [if_pos h4]; exact .inr rfl
  rw [if_neg h4]; exact .inl rfl
/-- A closed term, fuel at least 0. -/
def fit (T : Tree) : Prop := termE T = 0 ∧ closedF T = true
def finF (r : Rs) : ByteArray × Int := if r.e ≠ 0 then (ByteArray.empty, r.e) else if (wrV r.v (ByteArray.empty, 0)).2 ≠ 0 then (ByteArray.empty, (wrV r.v (ByteArray.empty, 0)).2) else ((wrV r.v (ByteArray.empty, 0)).1, 0)
theorem run_fit {T : Tree} (h : fit T) (f : Nat) : runF T (f : Int) = ((finF (evalF T f)).1, (finF (evalF T f)).2, (f : Int) - ((evalF T f).f : Int)) := by
  unfold runF finF
  rw [if_neg (by simp [h.1]), if_neg (by rintro (q | q); rw [h.2] at q; cases q; omega), Int.toNat_natCast]
  by_cases h3 : (evalF T f).e ≠ 0
  · rw [if_pos h3, if_pos h3]
  rw [if_neg h3, if_neg h3]
  by_cases h4 : (wrV (evalF T f).v (ByteArray.empty, 0)).2 ≠ 0
  · rw [if_pos h4, if_pos h4]
  rw [if_neg h4, if_neg h4]
theorem run_unfit {T : Tree} (h : ¬ fit T) (f : Int) : ∃ e, e ≠ 0 ∧ (e = 2 ∨ e = termE T) ∧ runF T f = (ByteArray.empty, e, 0) := by
  unfold runF
  by_cases h1 : termE T ≠ 0
  · rw [if_pos h1]; exact ⟨_, h1, .inr rfl, rfl⟩
  · rw [if_neg h1]
    have h2 : closedF T = false := by
      apply Decidable.byContradiction
      intro q
      exact h ⟨by simpa using h1, by simpa using q⟩
    rw [if_pos (.inl h2)]
    exact ⟨2, by decide, .inl rfl, rfl⟩
def E3 (e : Int) : Prop := e = 0 ∨ e = 3 ∨ e = 25
theorem putF_e : ∀ {l : List ByteArray} {s : ByteArray} {e : Int}, E3 e → E3 (putF l s e).2
  | [], s, e, h => h
  | x :: l, s, e, h => by
    rw [putF]
    refine putF_e ?_
    by_cases hb : 16384 < (if e = 0 then s ++ x else s).size
    · rw [if_pos hb]; exact .inr (.inl rfl)
    · rw [if_neg hb]; exact h
mutual
theorem wrV_e : ∀ (v : Vl) (w : Wr), E3 w.2 → E3 (wrV v w).2
  | .num n, w, h => by rw [wrV]; exact putF_e h
  | .tru b, w, h => by rw [wrV]; exact putF_e h
  | .unt, w, h => by rw [wrV]; exact putF_e h
  | .rcd ls ps, w, h => by
    rw [wrV]
    try dsimp only
    have h2 := wrL_e ps true ls (putF [sL] w.1 w.2) (putF_e h)
    generalize wrL true ls ps (putF [sL] w.1 w.2) = R at h2
    obtain ⟨⟨a, b⟩, c⟩ := R
    cases c
    · rw [if_neg (by simp)]; exact putF_e h2
    · rw [if_pos rfl]; exact h2
  | .tag nm _ p, w, h => by
    rw [wrV]
    by_cases h0 : w.2 ≠ 0
    · rw [if_pos h0]; exact h
    · rw [if_neg h0]
      exact putF_e (wrV_e p _ (putF_e h))
  | .clo _ _ _, w, h => by rw [wrV]; unfold noneF; dsimp only; split; exact .inr (.inr rfl); exact h
  | .pkd _ _, w, h => by rw [wrV]; unfold noneF; dsimp only; split; exact .inr (.inr rfl); exact h
theorem wrL_e : ∀ (ps : List Vl) (b : Bool) (ls : List ByteArray) (w : Wr), E3 w.2 → E3 (wrL b ls ps w).1.2
  | [], b, ls, w, h => by rw [wrL]; exact h
  | p :: ps, b, ls, w, h => by
    rw [wrL]
    by_cases h0 : w.2 ≠ 0
    · rw [if_pos h0]; exact h
    · rw [if_neg h0]
      refine wrL_e ps false _ _ (wrV_e p _ (putF_e ?_))
      split
      · exact h
      · exact putF_e h
end
theorem fin18 (r : Rs) : (finF r).2 = 18 ↔ r.e = 18 := by
  unfold finF
  by_cases h3 : r.e ≠ 0
  · rw [if_pos h3]
  · rw [if_neg h3]
    have h3 : r.e = 0 := by simpa using h3
    have hw := wrV_e r.v (ByteArray.empty, 0) (.inl rfl)
    unfold E3 at hw
    by_cases h4 : (wrV r.v (ByteArray.empty, 0)).2 ≠ 0
    · rw [if_pos h4]; dsimp only; omega
    · rw [if_neg h4]; dsimp only; omega
end Mc
end Go.Proofs.Ytlgajkoplklkiaa

namespace Go.Proofs.Ytlgajkoplklkiaa
namespace Mc
open Go Go.Mq Tm Sb St
set_option linter.all false

/-! The laws, walked -/
set_option maxHeartbeats 16000000 in
set_option maxRecDepth 10000 in
theorem machineRefuses_ok (l : List Cel) (fuel : Int) : Pure P 3 [.agg [.d (cellsD l)], .d (.int .i64 fuel)] (.d (.bool true)) := by
  have hfw := few3_ok l
  generalize fewF3 l = T at hfw
  have hm0 : ∀ m : Int, m = (if (1000 : Int) < fuel then 1000 else fuel) → m ≤ 1000 ∧ m ≤ fuel ∧ (0 ≤ fuel → 0 ≤ m) ∧ (fuel < 0 → m < 0) ∧ (0 < fuel → 0 < m) := by
    intro m e
    by_cases h : (1000 : Int) < fuel
    · rw [if_pos h] at e; omega
    · rw [if_neg h] at e; omega
  have hr := run_ok T (if (1000 : Int) < fuel then 1000 else fuel) (by have := hm0 _ rfl; omega)
  have hck := rtCheck_ok T
  have hcl := rClosed_ok T
  unfold outA at hr
  by_cases h1 : termE T = 0
  · by_cases h2 : fuel < 0 ∨ closedF T = false
    · have e1 : runF T (if (1000 : Int) < fuel then 1000 else fuel) = (ByteArray.empty, 2, 0) := by
        unfold runF
        rw [if_neg (by simp [h1]), if_pos]
        rcases h2 with h2 | h2
        · have := hm0 _ rfl; exact .inr (by omega)
        · exact .inl h2
      rw [e1] at hr
      rw [h1] at hck
      rcases h2 with h2 | h2
      · refine Pure.of_body tt [] [4] Try.func3 rfl rfl rfl (Nat.le_of_ble_eq_true rfl) fun g => ?_
        repeat' ((first
          | refine then_go hm htt ?_
          | refine Side.go ?_
          | refine Hyp.go fun hlen => ?_
          | refine Split.ct ?_
          | refine Split.cf ?_
          | refine Split.tt ?_
          | refine Split.ff ?_
          | refine Indep.go ?_
          | refine CallG.gp hfw ?_
          | refine CallG.gp hr ?_
          | refine CallG.gp hck ?_
          | refine CallG.gp hcl ?_
          | refine CallG.gp works18_ok ?_
          | refine Split.of_true (bytes_eq.2 rfl) ?_
          | refine Split.go (fun hc => ?_) fun hc => ?_) <;> conv => whnf)
        all_goals exact ret_closed rfl rfl rfl
      · rw [h2] at hcl
        refine Pure.of_body tt [] [4] Try.func3 rfl rfl rfl (Nat.le_of_ble_eq_true rfl) fun g => ?_
        repeat' ((first
          | refine then_go hm htt ?_
          | refine Side.go ?_
          | refine Hyp.go fun hlen => ?_
          | refine Split.ct ?_
          | refine Split.cf ?_
          | refine Split.tt ?_
          | refine Split.ff ?_
          | refine Indep.go ?_
          | refine CallG.gp hfw ?_
          | refine CallG.gp hr ?_
          | refine CallG.gp hck ?_
          | refine CallG.gp hcl ?_
          | refine CallG.gp works18_ok ?_
          | refine Split.of_true (bytes_eq.2 rfl) ?_
          | refine Split.go (fun hc => ?_) fun hc => ?_) <;> conv => whnf)
        all_goals exact ret_closed rfl rfl rfl
    · have hf0 : ¬ fuel < 0 := fun h => h2 (.inl h)
      have hc1 : closedF T = true := by
        apply Decidable.byContradiction
        intro q; exact h2 (.inr (by simpa using q))
      obtain ⟨g1, g2, g3, g4, g5⟩ := hm0 _ rfl
      have he := run_err (T := T) (f := (if (1000 : Int) < fuel then 1000 else fuel))
      generalize hmm : (if (1000 : Int) < fuel then 1000 else fuel) = m at hr he g1 g2 g3 g4 g5
      obtain ⟨F, rfl⟩ : ∃ F : Nat, m = (F : Int) := ⟨m.toNat, by omega⟩
      have hfit := run_fit ⟨h1, hc1⟩ F
      have hfu := evalF_f T F
      have h0 : F = 0 → (runF T (F : Int)).2.1 = 18 := by
        intro e
        subst e
        rw [hfit]
        show (finF (evalF T 0)).2 = 18
        rw [fin18]
        unfold evalF; rw [evalD, if_pos rfl]; rfl
      have hu : (runF T (F : Int)).2.2 = (F : Int) - ((evalF T F).f : Int) := by rw [hfit]
      generalize runF T (F : Int) = R at hr he h0 hu
      obtain ⟨t, e, u⟩ := R
      dsimp only at hr he h0 hu
      rw [← hmm] at hr
      rw [h1] at hck
      rw [hc1] at hcl
      refine Pure.of_body tt [] [4] Try.func3 rfl rfl rfl (Nat.le_of_ble_eq_true rfl) fun g => ?_
      by_cases c1 : e = 0
      · subst c1
        by_cases c2 : 0 < fuel
        · repeat' ((first
            | refine then_go hm htt ?_
            | refine Side.go ?_
            | refine Hyp.go fun hlen => ?_
            | refine Split.ct ?_
            | refine Split.cf ?_
            | refine Split.tt ?_
            | refine Split.ff ?_
            | refine Indep.go ?_
            | refine CallG.gp hfw ?_
            | refine CallG.gp hr ?_
            | refine CallG.gp hck ?_
            | refine CallG.gp hcl ?_
            | refine CallG.gp works18_ok ?_
            | refine Split.of_true (show decide (u ≥ 0) = true from decide_eq_true (by omega)) ?_
            | refine Split.of_true (show decide (u ≤ fuel) = true from decide_eq_true (by omega)) ?_
            | refine Split.of_true (show decide (fuel > 0) = true from decide_eq_true (by omega)) ?_
            | refine Split.go (fun hc => ?_) fun hc => ?_) <;> conv => whnf)
          all_goals exact ret_closed rfl rfl rfl
        · exfalso
          have := h0 (by omega)
          cases this
      · have ht : t = ByteArray.empty := by rcases he with h | h; exact absurd h c1; exact h
        subst ht
        by_cases c2 : 0 < fuel
        · repeat' ((first
            | refine then_go hm htt ?_
            | refine Side.go ?_
            | refine Hyp.go fun hlen => ?_
            | refine Split.ct ?_
            | refine Split.cf ?_
            | refine Split.tt ?_
            | refine Split.ff ?_
            | refine Indep.go ?_
            | refine CallG.gp hfw ?_
            | refine CallG.gp hr ?_
            | refine CallG.gp hck ?_
            | refine CallG.gp hcl ?_
            | refine CallG.gp works18_ok ?_
            | refine Split.of_true (bytes_eq.2 rfl) ?_
            | refine Split.of_true (show decide (u ≥ 0) = true from decide_eq_true (by omega)) ?_
            | refine Split.of_true (show decide (u ≤ fuel) = true from decide_eq_true (by omega)) ?_
            | refine Split.of_true (show decide (fuel > 0) = true from decide_eq_true (by omega)) ?_
            | refine Split.of_false (show (e == 0) = false from by simpa using c1) ?_
            | refine Split.go (fun hc => ?_) fun hc => ?_) <;> conv => whnf)
          all_goals exact ret_closed rfl rfl rfl
        · have he18 := h0 (by omega)
          subst he18
          repeat' ((first
            | refine then_go hm htt ?_
            | refine Side.go ?_
            | refine Hyp.go fun hlen => ?_
            | refine Split.ct ?_
            | refine Split.cf ?_
            | refine Split.tt ?_
            | refine Split.ff ?_
            | refine Indep.go ?_
            | refine CallG.gp hfw ?_
            | refine CallG.gp hr ?_
            | refine CallG.gp hck ?_
            | refine CallG.gp hcl ?_
            | refine CallG.gp works18_ok ?_
            | refine Split.of_true (bytes_eq.2 rfl) ?_
            | refine Split.of_true (show decide (u ≥ 0) = true from decide_eq_true (by omega)) ?_
            | refine Split.of_true (show decide (u ≤ fuel) = true from decide_eq_true (by omega)) ?_
            | refine Split.of_false (show decide (fuel > 0) = false from decide_eq_false (by omega)) ?_
            | refine Split.go (fun hc => ?_) fun hc => ?_) <;> conv => whnf)
          all_goals exact ret_closed rfl rfl rfl
  · have e1 : runF T (if (1000 : Int) < fuel then 1000 else fuel) = (ByteArray.empty, termE T, 0) := by
      unfold runF
      rw [if_pos h1]
    rw [e1] at hr
    generalize termE T = E at *
    refine Pure.of_body tt [] [4] Try.func3 rfl rfl rfl (Nat.le_of_ble_eq_true rfl) fun g => ?_
    repeat' ((first
      | refine then_go hm htt ?_
      | refine Side.go ?_
      | refine Hyp.go fun hlen => ?_
      | refine Split.ct ?_
      | refine Split.cf ?_
      | refine Split.tt ?_
      | refine Split.ff ?_
      | refine Indep.go ?_
      | refine CallG.gp hfw ?_
      | refine CallG.gp hr ?_
      | refine CallG.gp hck ?_
      | refine CallG.gp hcl ?_
      | refine CallG.gp works18_ok ?_
      | refine Split.of_true (bytes_eq.2 rfl) ?_
      | refine Split.of_true (beq_self_eq_true _) ?_
      | refine Split.of_false (show (E == 0) = false from by simpa using h1) ?_
      | refine Split.of_true (show (E != 0) = true from by simpa using h1) ?_
      | refine Split.go (fun hc => ?_) fun hc => ?_) <;> conv => whnf)
    all_goals exact ret_closed rfl rfl rfl
end Mc
end Go.Proofs.Ytlgajkoplklkiaa

namespace Go.Proofs.Ytlgajkoplklkiaa
namespace Mc
open Go Go.Mq Tm Sb St
set_option linter.all false

/-! The laws on how much fuel is needed -/
theorem finF_e (r : Rs) {v : Vl} {e : Int} {f : Nat} (h1 : r.v = v) (h2 : r.e = e) : finF r = finF ⟨v, e, f⟩ := by
  subst h1 h2; rfl
/-- What Need tells of a closed term: what is used, and that is enough. -/
theorem need_fit {T : Tree} (h : fit T) (F : Nat) (hF : F ≠ 0) : ((evalF T F).e = 18 ∧ needF T (F : Int) = (0, 18)) ∨
    ((evalF T F).e ≠ 18 ∧ ∃ n : Nat, 0 < n ∧ n ≤ F ∧ needF T (F : Int) = ((n : Int), 0) ∧
      (∀ d : Nat, runF T ((n + d : Nat) : Int) = ((runF T (F : Int)).1, (runF T (F : Int)).2.1, (n : Int))) ∧ (runF T (F : Int)).2.1 ≠ 18 ∧
      ∀ g : Nat, g < n → runF T (g : Int) = (ByteArray.empty, 18, (g : Int))) := by
  have hpos := evalF_pos (T := T) hF
  have hrun := run_fit h F
  have hle := evalF_f T F
  by_cases h18 : (evalF T F).e = 18
  · refine .inl ⟨h18, ?_⟩
    unfold needF
    have : (runF T (F : Int)).2.1 = 18 := by rw [hrun]; exact (fin18 _).2 h18
    rw [if_pos (.inl this), this]
  · refine .inr ⟨h18, F - (evalF T F).f, by omega, by omega, ?_, ?_, ?_, ?_⟩
    · unfold needF
      have e1 : (runF T (F : Int)).2.1 ≠ 18 := by rw [hrun]; intro q; exact h18 ((fin18 _).1 q)
      have e2 : (runF T (F : Int)).2.2 = ((F - (evalF T F).f : Nat) : Int) := by rw [hrun]; show (F : Int) - _ = _; omega
      rw [if_neg (by rintro (q | q); exact e1 q; have := q.2; omega), e2]
    · intro d
      obtain ⟨v, hj, hv⟩ := evalF_just T F
      have hg : good (evalF T (F - (evalF T F).f)) := by rw [hj]; exact .inl h18
      have hm := evalF_more hg d
      rw [run_fit h, hm, hj, hrun]
      show ((finF ⟨v, (evalF T F).e, 0 + d⟩).1, (finF ⟨v, (evalF T F).e, 0 + d⟩).2, _) = _
      rw [← finF_e (evalF T F) (f := 0 + d) hv rfl]
      refine Prod.ext rfl (Prod.ext rfl ?_)
      show ((F - (evalF T F).f + d : Nat) : Int) - ((0 + d : Nat) : Int) = ((F - (evalF T F).f : Nat) : Int)
      omega
    · rw [hrun]; intro q; exact h18 ((fin18 _).1 q)
    · intro g hg
      obtain ⟨q1, q2⟩ := evalF_less h18 hg
      rw [run_fit h]
      have : finF (evalF T g) = (ByteArray.empty, 18) := by
        unfold finF
        rw [if_pos (by rw [q1]; decide), q1]
      rw [this, q2]
      simp
theorem need_unfit {T : Tree} (h : ¬ fit T) (f : Int) : ∃ e, e ≠ 0 ∧ runF T f = (ByteArray.empty, e, 0) ∧ needF T f = (0, e) := by
  obtain ⟨e, h1, _, h2⟩ := run_unfit h f
  refine ⟨e, h1, h2, ?_⟩
  unfold needF
  rw [h2]
  rw [if_pos (.inr ⟨h1, rfl⟩)]
theorem need_neg {T : Tree} {f : Int} (hf : f < 0) : ∃ e, e ≠ 0 ∧ needF T f = (0, e) := by
  by_cases h1 : termE T = 0
  · refine ⟨2, by decide, ?_⟩
    have : runF T f = (ByteArray.empty, 2, 0) := by
      unfold runF
      rw [if_neg (by simp [h1]), if_pos (.inr hf)]
    unfold needF
    rw [this, if_pos (.inr ⟨by decide, rfl⟩)]
  · obtain ⟨e, q1, _, q2⟩ := need_unfit (T := T) (fun h => h1 h.1) f
    exact ⟨e, q1, q2⟩
theorem need_zero {T : Tree} : ∃ e, e ≠ 0 ∧ needF T 0 = (0, e) := by
  by_cases h : fit T
  · refine ⟨18, by decide, ?_⟩
    have := run_fit h 0
    have e0 : evalF T 0 = bad 18 0 := by unfold evalF; rw [evalD, if_pos rfl]
    rw [e0] at this
    have e1 : runF T 0 = (ByteArray.empty, 18, 0) := this
    unfold needF
    rw [e1, if_pos (.inl rfl)]
  · obtain ⟨e, q1, _, q2⟩ := need_unfit h 0
    exact ⟨e, q1, q2⟩
set_option maxHeartbeats 16000000 in
set_option maxRecDepth 100000 in
theorem machineNeed_ok (l : List Cel) (most : Int) : Pure P 5 [.agg [.d (cellsD l)], .d (.int .i64 most)] (.d (.bool true)) := by
  have hfw := few3_ok l
  generalize fewF3 l = T at hfw
  have b1 := Int.tmod_lt_of_pos most (show (0 : Int) < 5000 by omega)
  have hn := need_ok T (most.tmod 5000) (by omega)
  refine Pure.of_body tt [] [4] Try.func5 rfl rfl rfl (Nat.le_of_ble_eq_true rfl) fun g => ?_
  generalize hmm : most.tmod 5000 = m at hn b1
  by_cases h0 : m < 0
  · obtain ⟨e, e1, e2⟩ := need_neg (T := T) h0
    rw [e2, ← hmm] at hn
    rw [← hmm] at h0
    repeat' ((first
      | refine then_go hm htt ?_
      | refine Side.go ?_
      | refine Hyp.go fun hlen => ?_
      | refine Split.ct ?_
      | refine Split.cf ?_
      | refine Split.tt ?_
      | refine Split.ff ?_
      | refine Indep.go ?_
      | refine CallG.gp hfw ?_
      | refine CallG.gp hn ?_
      | refine CallG.gp works18_ok ?_
      | refine Split.of_true (show (e != 0) = true from by simpa using e1) ?_
      | refine Split.of_true (show decide (most.tmod 5000 < 0) = true from decide_eq_true h0) ?_
      | refine Split.go (fun hc => ?_) fun hc => ?_) <;> conv => whnf)
    all_goals exact ret_closed rfl rfl rfl
  · obtain ⟨F, rfl⟩ : ∃ F : Nat, m = (F : Int) := ⟨m.toNat, by omega⟩
    have hz : (∃ e, e ≠ 0 ∧ needF T (F : Int) = (0, e)) ∨ (fit T ∧ F ≠ 0 ∧ (evalF T F).e ≠ 18) := by
      by_cases hF : F = 0
      · subst hF; exact .inl need_zero
      · by_cases hft : fit T
        · rcases need_fit hft F hF with ⟨_, q⟩ | ⟨q, _⟩
          · exact .inl ⟨18, by decide, q⟩
          · exact .inr ⟨hft, hF, q⟩
        · obtain ⟨e, q1, _, q2⟩ := need_unfit hft (F : Int)
          exact .inl ⟨e, q1, q2⟩
    rcases hz with ⟨e, e1, e2⟩ | ⟨hft, hF, h18⟩
    · rw [e2, ← hmm] at hn
      rw [← hmm] at h0
      repeat' ((first
        | refine then_go hm htt ?_
        | refine Side.go ?_
        | refine Hyp.go fun hlen => ?_
        | refine Split.ct ?_
        | refine Split.cf ?_
        | refine Split.tt ?_
        | refine Split.ff ?_
        | refine Indep.go ?_
        | refine CallG.gp hfw ?_
        | refine CallG.gp hn ?_
        | refine CallG.gp works18_ok ?_
        | refine Split.of_true (show (e != 0) = true from by simpa using e1) ?_
        | refine Split.of_false (show decide (most.tmod 5000 < 0) = false from decide_eq_false h0) ?_
        | refine Split.go (fun hc => ?_) fun hc => ?_) <;> conv => whnf)
      all_goals exact ret_closed rfl rfl rfl
    · rcases need_fit hft F hF with ⟨q, _⟩ | ⟨_, n, n0, nF, q1, q2, q3, q4⟩
      · exact absurd q h18
      rw [q1, ← hmm] at hn
      rw [← hmm] at h0
      have g1 := need_ok T (n : Int) (by omega)
      have g2 := need_ok T ((n : Int) - 1) (by omega)
      have r1 := q2 0
      rw [Nat.add_zero] at r1
      have a1 : needF T (n : Int) = ((n : Int), 0) := by
        unfold needF
        rw [r1]
        rw [if_neg (by rintro (q | q); exact q3 q; have := q.2; dsimp only at this; omega)]
      have a2 : needF T ((n : Int) - 1) = (0, 18) := by
        have := q4 (n - 1) (by omega)
        rw [show ((n - 1 : Nat) : Int) = (n : Int) - 1 by omega] at this
        unfold needF
        rw [this, if_pos (.inl rfl)]
      rw [a1] at g1
      rw [a2] at g2
      have hw : IntKind.i64.wrap ((n : Int) - 1) = (n : Int) - 1 := by rw [wrap64] <;> omega
      rw [← hw] at g2
      have hle : (n : Int) ≤ most.tmod 5000 := by omega
      repeat' ((first
        | refine then_go hm htt ?_
        | refine Side.go ?_
        | refine Hyp.go fun hlen => ?_
        | refine Split.ct ?_
        | refine Split.cf ?_
        | refine Split.tt ?_
        | refine Split.ff ?_
        | refine Indep.go ?_
        | refine CallG.gp hfw ?_
        | refine CallG.gp hn ?_
        | refine CallG.gp g1 ?_
        | refine CallG.gp g2 ?_
        | refine CallG.gp works18_ok ?_
        | refine Split.of_true (beq_self_eq_true _) ?_
        | refine Split.of_false (show decide (most.tmod 5000 < 0) = false from decide_eq_false h0) ?_
        | refine Split.of_true (show decide ((n : Int) ≤ most.tmod 5000) = true from decide_eq_true hle) ?_
        | refine Split.go (fun hc => ?_) fun hc => ?_) <;> conv => whnf)
      all_goals exact ret_closed rfl rfl rfl
set_option maxHeartbeats 32000000 in
set_option maxRecDepth 100000 in
theorem machineFuel_ok (l : List Cel) (more : Int) : Pure P 4 [.agg [.d (cellsD l)], .d (.int .i64 more)] (.d (.bool true)) := by
  have hfw := few3_ok l
  generalize fewF3 l = T at hfw
  have hn := need_ok T 20000 (by omega)
  have hr := run_ok T 20000 (by omega)
  unfold outA at hr
  have hz : (∃ e, e ≠ 0 ∧ (runF T 20000).2.1 = e ∧ needF T 20000 = (0, e)) ∨ (fit T ∧ (evalF T 20000).e ≠ 18) := by
    by_cases hft : fit T
    · rcases need_fit hft 20000 (by omega) with ⟨q0, q⟩ | ⟨q, _⟩
      · refine .inl ⟨18, by decide, ?_, q⟩
        rw [show (20000 : Int) = ((20000 : Nat) : Int) from rfl, run_fit hft]
        exact (fin18 _).2 q0
      · exact .inr ⟨hft, q⟩
    · obtain ⟨e, q1, q2, q3⟩ := need_unfit hft 20000
      exact .inl ⟨e, q1, by rw [q2], q3⟩
  refine Pure.of_body tt [] [4] Try.func4 rfl rfl rfl (Nat.le_of_ble_eq_true rfl) fun g => ?_
  rcases hz with ⟨e, e1, e3, e2⟩ | ⟨hft, h18⟩
  · rw [e2] at hn
    generalize runF T 20000 = R at hr e3
    obtain ⟨t, e', u⟩ := R
    dsimp only at hr e3
    subst e3
    repeat' ((first
      | refine then_go hm htt ?_
      | refine Side.go ?_
      | refine Hyp.go fun hlen => ?_
      | refine Split.ct ?_
      | refine Split.cf ?_
      | refine Split.tt ?_
      | refine Split.ff ?_
      | refine Indep.go ?_
      | refine CallG.gp hfw ?_
      | refine CallG.gp hn ?_
      | refine CallG.gp hr ?_
      | refine CallG.gp works18_ok ?_
      | refine Split.of_true (beq_self_eq_true _) ?_
      | refine Split.of_true (show (e' != 0) = true from by simpa using e1) ?_
      | refine Split.go (fun hc => ?_) fun hc => ?_) <;> conv => whnf)
    all_goals exact ret_closed rfl rfl rfl
  · rcases need_fit hft 20000 (by omega) with ⟨q, _⟩ | ⟨_, n, n0, nF, q1, q2, q3, q4⟩
    · exact absurd q h18
    have q1 : needF T 20000 = ((n : Int), 0) := q1
    rw [q1] at hn
    have r1 := run_ok T (n : Int) (by omega)
    have b1 := q2 0
    rw [Nat.add_zero] at b1
    rw [b1] at r1
    -- more
    have m1 := Int.tmod_lt_of_pos more (show (0 : Int) < 1000 by omega)
    have m0 : -1000 < more.tmod 1000 := Int.lt_tmod_of_pos more (by omega)
    have w1 : IntKind.i64.wrap (more.tmod 1000 + 1000) = more.tmod 1000 + 1000 := by rw [wrap64] <;> omega
    have m2 := Int.tmod_lt_of_pos (more.tmod 1000 + 1000) (show (0 : Int) < 1000 by omega)
    have m3 : 0 ≤ (more.tmod 1000 + 1000).tmod 1000 := Int.tmod_nonneg _ (by omega)
    have w2 : IntKind.i64.wrap ((n : Int) + (more.tmod 1000 + 1000).tmod 1000) = (n : Int) + (more.tmod 1000 + 1000).tmod 1000 := by rw [wrap64] <;> omega
    have r2 := run_ok T ((n : Int) + (more.tmod 1000 + 1000).tmod 1000) (by omega)
    have b2 := q2 ((more.tmod 1000 + 1000).tmod 1000).toNat
    rw [show ((n + ((more.tmod 1000 + 1000).tmod 1000).toNat : Nat) : Int) = (n : Int) + (more.tmod 1000 + 1000).tmod 1000 by omega] at b2
    rw [b2, ← w2] at r2
    -- less
    have l1 := Int.tmod_lt_of_pos more (show (0 : Int) < n by omega)
    have l0 : -(n : Int) < more.tmod n := Int.lt_tmod_of_pos more (by omega)
    have w3 : IntKind.i64.wrap (more.tmod n + n) = more.tmod n + n := by rw [wrap64] <;> omega
    have l2 := Int.tmod_lt_of_pos (more.tmod n + n) (show (0 : Int) < n by omega)
    have l3 : 0 ≤ (more.tmod n + n).tmod n := Int.tmod_nonneg _ (by omega)
    have r3 := run_ok T ((more.tmod n + n).tmod n) (by omega)
    have b3 := q4 ((more.tmod n + n).tmod n).toNat (by omega)
    rw [show (((more.tmod n + n).tmod n).toNat : Int) = (more.tmod n + n).tmod n by omega] at b3
    rw [b3] at r3
    generalize runF T ((20000 : Nat) : Int) = R at r1 r2 q3
    obtain ⟨t, e, u⟩ := R
    unfold outA at r1 r2 r3
    dsimp only at r1 r2 r3 q3
    rw [← w1] at r2
    rw [← w3] at r3
    repeat' ((first
      | refine then_go hm htt ?_
      | refine Side.go ?_
      | refine Hyp.go fun hlen => ?_
      | refine Split.ct ?_
      | refine Split.cf ?_
      | refine Split.tt ?_
      | refine Split.ff ?_
      | refine Indep.go ?_
      | refine CallG.gp hfw ?_
      | refine CallG.gp hn ?_
      | refine CallG.gp r1 ?_
      | refine CallG.gp r2 ?_
      | refine CallG.gp r3 ?_
      | refine CallG.gp works18_ok ?_
      | refine Side.mk eqSI ?_
      | refine Side.mk (show (n : Int) ≠ 0 by omega) ?_
      | refine Split.of_true (beq_self_eq_true _) ?_
      | refine Split.of_false (bne_self_eq_false _) ?_
      | refine Split.of_false (show decide ((n : Int) < 1) = false from decide_eq_false (by omega)) ?_
      | refine Split.of_false (show (!(decide (t = t) && decide (e = e))) = false from by simp) ?_
      | refine Split.of_false (show (e == 18) = false from by simpa using q3) ?_
      | refine Split.of_true (show (decide (ByteArray.empty = ByteArray.empty) && decide ((18 : Int) = 18)) = true from by simp) ?_
      | refine Split.go (fun hc => ?_) fun hc => ?_) <;> conv => whnf)
    all_goals exact ret_closed rfl rfl rfl
end Mc
end Go.Proofs.Ytlgajkoplklkiaa
