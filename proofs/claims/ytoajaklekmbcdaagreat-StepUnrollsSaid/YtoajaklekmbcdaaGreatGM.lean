/- What functions of the program compute, and plain facts about it. -/
import Derived.Test.YtoajaklekmbcdaaGreatGL
set_option linter.all false
namespace Go.Proofs.YtoajaklekmbcdaaGreat
namespace Sb
open Go Go.Mq Tm
set_option linter.all false

/-! The document's own: put in -/
theorem tfield_mark {kind : Int} {T : Tree} (h : tfieldF kind T = true) : T.mark = ByteArray.empty := by
  have hT : T ≠ .nil := by intro e; subst e; rw [tfieldF] at h; cases h
  rw [tfieldF_eq hT] at h
  simp only [Bool.and_eq_true, decide_eq_true_eq] at h
  exact h.1.1.1.2
theorem term_mark {T : Tree} (h : isTermF T = true) : T.mark = ByteArray.empty := by
  have hT : T ≠ .nil := by intro e; subst e; rw [isTermF] at h; cases h
  rw [isTermF_eq hT, Bool.and_eq_true] at h
  have := h.1
  unfold headF at this
  simp only [Bool.and_eq_true, decide_eq_true_eq] at this
  exact this.1.1.1
theorem shw_mark {T : Tree} (hs : Shw T) (hk : 130 ≤ T.kind) : T.mark = ByteArray.empty := by
  rcases hs with h | h | h | h
  · have := con_lt h; omega
  · exact term_mark h
  · exact tfield_mark h
  · exact tfield_mark h
theorem shw_var {T : Tree} (hs : Shw T) (hk : T.kind = 130) : T.kids = [] := by
  rcases hs with h | h | h | h
  · have := con_lt h; omega
  · have hT : T ≠ .nil := by intro e; subst e; rw [isTermF] at h; cases h
    rw [isTermF_eq hT, Bool.and_eq_true, if_pos (.inl hk)] at h
    exact List.length_eq_zero_iff.1 (of_decide_eq_true h.2)
  · obtain ⟨_, p2, _⟩ := tfield_parts h; omega
  · obtain ⟨_, p2, _⟩ := tfield_parts h; omega
theorem shw_con {T : Tree} (hs : Shw T) (h1 : 110 ≤ T.kind) (h2 : T.kind < 130) : isConF T = true := by
  rcases hs with h | h | h | h
  · rcases h with h | h
    · exact h
    · exfalso
      have hT : T ≠ .nil := by intro e; subst e; rw [isKindF] at h; cases h
      rw [isKindF_eq hT, if_neg (by omega), if_neg (by omega)] at h; cases h
  · have := (term_head h).1.kind; omega
  · obtain ⟨_, p2, _⟩ := tfield_parts h; omega
  · obtain ⟨_, p2, _⟩ := tfield_parts h; omega
theorem inT_node {T : Tree} (hs : Shw T) (hk : 130 ≤ T.kind) (i : Int) (b : Tree) (t : Int) (hn : T.kind = 130 → T.n < t ∨ T.n - t < i) : inT i b T t = .node T.kind T.n T.name ByteArray.empty (insT i b T.kind 0 T.kids t) := by
  have hm := shw_mark hs hk
  rw [inT_eq hs.ne]
  by_cases k : T.kind = 130
  · rw [if_pos k, if_pos (hn k), shw_var hs k, insT]
    have hv := shw_var hs k
    have hT := hs.ne
    cases T with
    | nil => exact absurd rfl hT
    | node k' n nm mk l =>
      simp only [Tree.mark, Tree.kids] at hm hv
      subst hm hv; rfl
  · rw [if_neg k, if_neg (by omega), hm]
set_option maxHeartbeats 8000000 in
set_option maxRecDepth 10000 in
theorem rInT_ok (i : Int) (b T : Tree) : ∀ (c t : Int), Shw T → 0 ≤ t → t + sizeN T ≤ 1099511627776 →
    Pure P 113 [.d (.tree T), .d (.int .i64 i), .d (.tree b), .d (.int .u8 116), .d (.int .i64 c), .d (.int .i64 t)] (.d (.tree (inT i b T t))) := by
  induction T using Tree.ind' with
  | h0 => intro c t h; exact absurd rfl h.ne
  | h1 T hT ih => ?_
  intro c t hs ht0 ht1
  have hsz := sizeN_kids hT
  have hse := inT_eq hT i b t
  have hkb : T.kind = 130 → 0 ≤ T.n ∧ T.n ≤ 65536 := fun k => by
    rcases shw_kids hs with h | ⟨_, h, _⟩
    · omega
    · exact h k
  refine Pure.of_body tt [91, 183] [12] Tryz.func113 rfl rfl rfl (Nat.le_of_ble_eq_true rfl) fun g => ?_
  by_cases k2 : T.kind < 130
  · rw [if_neg (by omega), if_pos k2] at hse
    rw [hse]
    repeat' ((first
      | refine then_go hm htt ?_
      | refine Side.go ?_
      | refine Hyp.go fun hlen => ?_
      | refine Split.ct ?_
      | refine Split.cf ?_
      | refine Split.tt ?_
      | refine Split.ff ?_
      | refine Indep.go ?_
      | refine Split.go (fun hc => ?_) fun hc => ?_) <;> conv => whnf)
    all_goals exact ret_closed rfl rfl rfl
  by_cases k1 : T.kind = 130 ∧ ¬ (T.n < t ∨ T.n - t < i)
  · obtain ⟨k1, k3⟩ := k1
    have hn := hkb k1
    have w1 : IntKind.i64.wrap (T.n - t) = T.n - t := wrap64 (by omega) (by omega)
    have w2 : IntKind.i64.wrap (T.n - 1) = T.n - 1 := wrap64 (by omega) (by omega)
    rw [if_pos k1, if_neg k3] at hse
    rw [hse]
    have c1 : ¬ IntKind.i64.wrap (T.n - t) < i := by rw [w1]; omega
    by_cases c3 : i < T.n - t
    · have c3' : ¬ IntKind.i64.wrap (T.n - t) = i := by rw [w1]; omega
      rw [if_pos c3, ← w2]
      repeat' ((first
        | refine then_go hm htt ?_
        | refine Side.go ?_
        | refine Hyp.go fun hlen => ?_
        | refine Split.ct ?_
        | refine Split.cf ?_
        | refine Split.tt ?_
        | refine Split.ff ?_
        | refine Indep.go ?_
        | refine Split.go (fun hc => ?_) fun hc => ?_) <;> conv => whnf)
      exact ret_closed rfl rfl rfl
    · have c3' : IntKind.i64.wrap (T.n - t) = i := by rw [w1]; omega
      rw [if_neg c3]
      repeat' ((first
        | refine then_go hm htt ?_
        | refine Side.go ?_
        | refine Hyp.go fun hlen => ?_
        | refine Split.ct ?_
        | refine Split.cf ?_
        | refine Split.tt ?_
        | refine Split.ff ?_
        | refine Indep.go ?_
        | refine Split.go (fun hc => ?_) fun hc => ?_) <;> conv => whnf)
      exact ret_closed rfl rfl rfl
  have hkids : ∀ x ∈ T.kids, Shw x := by
    rcases shw_kids hs with h | ⟨_, _, h⟩
    · exact absurd h k2
    · exact h
  rw [inT_node hs (by omega) i b t (fun k => by have := hkb k; omega)]
  have c1 : T.kind ≠ 130 ∨ (T.kind = 130 ∧ T.n < t) ∨ (T.kind = 130 ∧ ¬ T.n < t ∧ IntKind.i64.wrap (T.n - t) < i) := by
    by_cases k : T.kind = 130
    · by_cases h : T.n < t
      · exact .inr (.inl ⟨k, h⟩)
      · have hn := hkb k
        rw [wrap64 (by omega) (by omega)]
        omega
    · exact .inl k
  clear hse
  by_cases h130 : T.kind = 130
  · have hk0 := shw_var hs h130
    have hk1 : T.kids.length = 0 := by rw [hk0]; rfl
    have c2 : T.n < t ∨ (¬ T.n < t ∧ IntKind.i64.wrap (T.n - t) < i) := by omega
    clear c1
    rcases c2 with c1 | ⟨c1, c2⟩
    all_goals
      repeat' ((first
        | refine then_go hm htt ?_
        | refine Side.go ?_
        | refine Hyp.go fun hlen => ?_
        | refine Split.ct ?_
        | refine Split.cf ?_
        | refine Split.tt ?_
        | refine Split.ff ?_
        | refine Indep.go ?_
        | refine Split.go (fun hc => ?_) fun hc => ?_) <;> conv => whnf)
      refine loop_go (α := Nat × List Tree) (fun p => ⟨[(0, .d (.tree T)), (1, .d (.int .i64 i)), (2, .d (.tree b)), (3, .d (.int .u8 116)), (4, .d (.int .i64 c)), (5, .d (.int .i64 t)), (15, .ref 0 0), (16, .d (.int .i64 p.1))], 188, [(0, .cells [.d (.int .i64 T.kind), .d (.int .i64 T.n), .d (.str T.name), .d (.str ByteArray.empty), .row 1 p.1]), (1, .row 25 (.trees p.2))], 2, g⟩)
          (fun p => p.1 ≤ T.kids.length ∧ p.2.length = p.1 ∧ insT i b T.kind 0 T.kids t = p.2 ++ insT i b T.kind p.1 (T.kids.drop p.1) t) (fun p => T.kids.length - p.1) (0, []) ⟨by simp, rfl, rfl⟩
          (Ent.nil rfl rfl rfl (by repeat' first | exact trivial | apply And.intro | rfl | (refine int_eq ?_; rw [wrap64] <;> omega)) (by repeat' first | exact trivial | apply And.intro | rfl | (refine int_eq ?_; rw [wrap64] <;> omega))) (fun _ => rfl) fun p hpre => ?_
      obtain ⟨p, out⟩ := p
      obtain ⟨hp1, hp2, hp3⟩ := hpre
      simp only [] at hp1 hp2 hp3
      have hp0 : p = 0 := by omega
      subst hp0
      rw [drop_end (by omega), insT, List.append_nil] at hp3
      rw [hp3]
      repeat' ((first
        | refine then_go hm htt ?_
        | refine Side.go ?_
        | refine Hyp.go fun hlen => ?_
        | refine Split.ct ?_
        | refine Split.cf ?_
        | refine Split.tt ?_
        | refine Split.ff ?_
        | refine Indep.go ?_
        | refine Split.go (fun hc => ?_) fun hc => ?_) <;> conv => whnf)
      refine RetS.ent (Ent.fz_row 1 (l := out) rfl (by repeat' first | exact trivial | apply And.intro | rfl | exact hp2.symm | exact Nat.zero_lt_one | omega) (by repeat' first | exact trivial | apply And.intro | rfl | exact hp2.symm | exact Nat.zero_lt_one | omega)) ?_
      refine RetS.ent (Ent.fz_node 0 rfl rfl (by repeat' first | exact trivial | apply And.intro | rfl | exact hp2.symm | exact Nat.zero_lt_one | omega) (by repeat' first | exact trivial | apply And.intro | rfl | exact hp2.symm | exact Nat.zero_lt_one | omega)) ?_
      exact ret_closed rfl rfl rfl
  · clear c1
    repeat' ((first
      | refine then_go hm htt ?_
      | refine Side.go ?_
      | refine Hyp.go fun hlen => ?_
      | refine Split.ct ?_
      | refine Split.cf ?_
      | refine Split.tt ?_
      | refine Split.ff ?_
      | refine Indep.go ?_
      | refine Split.go (fun hc => ?_) fun hc => ?_) <;> conv => whnf)
    refine loop_go (α := Nat × List Tree) (fun p => ⟨[(0, .d (.tree T)), (1, .d (.int .i64 i)), (2, .d (.tree b)), (3, .d (.int .u8 116)), (4, .d (.int .i64 c)), (5, .d (.int .i64 t)), (15, .ref 0 0), (16, .d (.int .i64 p.1))], 188, [(0, .cells [.d (.int .i64 T.kind), .d (.int .i64 T.n), .d (.str T.name), .d (.str ByteArray.empty), .row 1 p.1]), (1, .row 25 (.trees p.2))], 2, g⟩)
        (fun p => p.1 ≤ T.kids.length ∧ p.2.length = p.1 ∧ insT i b T.kind 0 T.kids t = p.2 ++ insT i b T.kind p.1 (T.kids.drop p.1) t) (fun p => T.kids.length - p.1) (0, []) ⟨by simp, rfl, rfl⟩
        (Ent.nil rfl rfl rfl (by repeat' first | exact trivial | apply And.intro | rfl | (refine int_eq ?_; rw [wrap64] <;> omega)) (by repeat' first | exact trivial | apply And.intro | rfl | (refine int_eq ?_; rw [wrap64] <;> omega))) (fun _ => rfl) fun p hpre => ?_
    obtain ⟨p, out⟩ := p
    obtain ⟨hp1, hp2, hp3⟩ := hpre
    simp only [] at hp1 hp2 hp3
    by_cases hlt : p < T.kids.length
    · have hmx := getD_mem hlt
      have s1 := sizesN_mem hmx
      have hbl := bnd_le T.kind p
      rw [drop_step hlt, insT] at hp3
      have hrec := ih _ hmx (IntKind.i64.wrap (c + (bndF T.kind p).1)) (t + (bndF T.kind p).2) (hkids _ hmx) (by omega) (by omega)
      have w2 : IntKind.i64.wrap (t + (bndF T.kind p).2) = t + (bndF T.kind p).2 := wrap64 (by omega) (by omega)
      rw [← w2] at hrec
      by_cases b1 : T.kind = 149
      · have e : bndF T.kind p = (0, 1) := by unfold bndF; rw [if_pos b1]
        rw [e] at hrec w2 hp3
        simp only [] at hrec w2 hp3
        rw [← w2] at hp3
        generalize inT i b (T.kids.getD p .nil) (IntKind.i64.wrap (t + 1)) = Y at *
        repeat' ((first
          | refine then_go hm htt ?_
          | refine Side.go ?_
          | refine Hyp.go fun hlen => ?_
          | refine Split.ct ?_
          | refine Split.cf ?_
          | refine Split.tt ?_
          | refine Split.ff ?_
          | refine Indep.go ?_
          | refine Side.mk (show (p + 1 ≤ 17592186044416 ∧ (p + 1) * 8 ≤ 140737488355328) from ⟨by omega, by omega⟩) ?_
          | refine CallG.gp hrec ?_
          | refine Split.go (fun hc => ?_) fun hc => ?_) <;> conv => whnf)
        all_goals exact ⟨(p + 1, out ++ [Y]), ⟨by simp only []; omega, by simp [hp2], by rw [hp3]; simp⟩, by simp only []; omega, Ent.go [0, 2]⟩
      by_cases b2 : p = 1 ∧ T.kind = 139
      · have e : bndF T.kind p = (1, 0) := by rw [b2.1, b2.2]; rfl
        rw [e] at hrec w2 hp3
        simp only [] at hrec w2 hp3
        rw [← w2] at hp3
        obtain ⟨b2, b3⟩ := b2
        generalize inT i b (T.kids.getD p .nil) (IntKind.i64.wrap (t + 0)) = Y at *
        repeat' ((first
          | refine then_go hm htt ?_
          | refine Side.go ?_
          | refine Hyp.go fun hlen => ?_
          | refine Split.ct ?_
          | refine Split.cf ?_
          | refine Split.tt ?_
          | refine Split.ff ?_
          | refine Indep.go ?_
          | refine Side.mk (show (p + 1 ≤ 17592186044416 ∧ (p + 1) * 8 ≤ 140737488355328) from ⟨by omega, by omega⟩) ?_
          | refine CallG.gp hrec ?_
          | refine Split.go (fun hc => ?_) fun hc => ?_) <;> conv => whnf)
        all_goals exact ⟨(p + 1, out ++ [Y]), ⟨by simp only []; omega, by simp [hp2], by rw [hp3]; simp⟩, by simp only []; omega, Ent.go [0, 2]⟩
      by_cases b3 : p = 1 ∧ T.kind = 142
      · have e : bndF T.kind p = (1, 1) := by rw [b3.1, b3.2]; rfl
        rw [e] at hrec w2 hp3
        simp only [] at hrec w2 hp3
        rw [← w2] at hp3
        obtain ⟨b3, b4⟩ := b3
        generalize inT i b (T.kids.getD p .nil) (IntKind.i64.wrap (t + 1)) = Y at *
        repeat' ((first
          | refine then_go hm htt ?_
          | refine Side.go ?_
          | refine Hyp.go fun hlen => ?_
          | refine Split.ct ?_
          | refine Split.cf ?_
          | refine Split.tt ?_
          | refine Split.ff ?_
          | refine Indep.go ?_
          | refine Side.mk (show (p + 1 ≤ 17592186044416 ∧ (p + 1) * 8 ≤ 140737488355328) from ⟨by omega, by omega⟩) ?_
          | refine CallG.gp hrec ?_
          | refine Split.go (fun hc => ?_) fun hc => ?_) <;> conv => whnf)
        all_goals exact ⟨(p + 1, out ++ [Y]), ⟨by simp only []; omega, by simp [hp2], by rw [hp3]; simp⟩, by simp only []; omega, Ent.go [0, 2]⟩
      by_cases b4 : p = 1 ∧ (T.kind = 134 ∨ T.kind = 143)
      · have e : bndF T.kind p = (0, 1) := by rw [b4.1]; rcases b4.2 with q | q <;> rw [q] <;> rfl
        rw [e] at hrec w2 hp3
        simp only [] at hrec w2 hp3
        rw [← w2] at hp3
        obtain ⟨b4, b5⟩ := b4
        generalize inT i b (T.kids.getD p .nil) (IntKind.i64.wrap (t + 1)) = Y at *
        repeat' ((first
          | refine then_go hm htt ?_
          | refine Side.go ?_
          | refine Hyp.go fun hlen => ?_
          | refine Split.ct ?_
          | refine Split.cf ?_
          | refine Split.tt ?_
          | refine Split.ff ?_
          | refine Indep.go ?_
          | refine Side.mk (show (p + 1 ≤ 17592186044416 ∧ (p + 1) * 8 ≤ 140737488355328) from ⟨by omega, by omega⟩) ?_
          | refine CallG.gp hrec ?_
          | refine Split.go (fun hc => ?_) fun hc => ?_) <;> conv => whnf)
        all_goals exact ⟨(p + 1, out ++ [Y]), ⟨by simp only []; omega, by simp [hp2], by rw [hp3]; simp⟩, by simp only []; omega, Ent.go [0, 2]⟩
      · have e : bndF T.kind p = (0, 0) := by
          unfold bndF
          rw [if_neg b1]
          split
          · rfl
          · rw [if_neg (by omega), if_neg (by omega), if_neg (by omega)]
        rw [e] at hrec w2 hp3
        simp only [] at hrec w2 hp3
        rw [← w2] at hp3
        generalize inT i b (T.kids.getD p .nil) (IntKind.i64.wrap (t + 0)) = Y at *
        repeat' ((first
          | refine then_go hm htt ?_
          | refine Side.go ?_
          | refine Hyp.go fun hlen => ?_
          | refine Split.ct ?_
          | refine Split.cf ?_
          | refine Split.tt ?_
          | refine Split.ff ?_
          | refine Indep.go ?_
          | refine Side.mk (show (p + 1 ≤ 17592186044416 ∧ (p + 1) * 8 ≤ 140737488355328) from ⟨by omega, by omega⟩) ?_
          | refine CallG.gp hrec ?_
          | refine Split.go (fun hc => ?_) fun hc => ?_) <;> conv => whnf)
        all_goals exact ⟨(p + 1, out ++ [Y]), ⟨by simp only []; omega, by simp [hp2], by rw [hp3]; simp⟩, by simp only []; omega, Ent.go [0, 2]⟩
    · rw [drop_end (by omega), insT, List.append_nil] at hp3
      rw [hp3]
      repeat' ((first
        | refine then_go hm htt ?_
        | refine Side.go ?_
        | refine Hyp.go fun hlen => ?_
        | refine Split.ct ?_
        | refine Split.cf ?_
        | refine Split.tt ?_
        | refine Split.ff ?_
        | refine Indep.go ?_
        | refine Split.go (fun hc => ?_) fun hc => ?_) <;> conv => whnf)
      refine RetS.ent (Ent.fz_row 1 (l := out) rfl (by repeat' first | exact trivial | apply And.intro | rfl | exact hp2.symm | exact Nat.zero_lt_one | omega) (by repeat' first | exact trivial | apply And.intro | rfl | exact hp2.symm | exact Nat.zero_lt_one | omega)) ?_
      refine RetS.ent (Ent.fz_node 0 rfl rfl (by repeat' first | exact trivial | apply And.intro | rfl | exact hp2.symm | exact Nat.zero_lt_one | omega) (by repeat' first | exact trivial | apply And.intro | rfl | exact hp2.symm | exact Nat.zero_lt_one | omega)) ?_
      exact ret_closed rfl rfl rfl
end Sb
end Go.Proofs.YtoajaklekmbcdaaGreat

namespace Go.Proofs.YtoajaklekmbcdaaGreat
namespace Sb
open Go Go.Mq Tm
set_option linter.all false

theorem rsC_len (i : Int) (b : Tree) (k : Int) : ∀ (l : List Tree) (p : Nat) (c : Int), (rsC i b k p l c).length = l.length
  | [], p, c => by rw [rsC]
  | x :: l, p, c => by rw [rsC]; simp [rsC_len i b k l (p + 1) c]
theorem rC_node {T : Tree} (hs : Shw T) (hk : 130 ≤ T.kind) (i : Int) (b : Tree) (c : Int) : rC i b T c = .node T.kind T.n T.name ByteArray.empty (rsC i b T.kind 0 T.kids c) := by
  have hm := shw_mark hs hk
  rw [rC_eq hs.ne]
  by_cases k : T.kind = 130
  · rw [if_pos (.inl k), shw_var hs k, rsC]
    have hv := shw_var hs k
    have hT := hs.ne
    cases T with
    | nil => exact absurd rfl hT
    | node k' n nm mk l =>
      simp only [Tree.mark, Tree.kids] at hm hv
      subst hm hv; rfl
  · rw [if_neg (by omega), if_neg (by omega), hm]
set_option maxHeartbeats 8000000 in
set_option maxRecDepth 10000 in
theorem rInC_ok (i : Int) (b : Tree) (hi : 0 ≤ i) (hb : Full b) (T : Tree) : ∀ (c t : Int), Shw T → 0 ≤ c → c + sizeN T ≤ 1099511627776 →
    Pure P 113 [.d (.tree T), .d (.int .i64 i), .d (.tree b), .d (.int .u8 99), .d (.int .i64 c), .d (.int .i64 t)] (.d (.tree (rC i b T c))) := by
  induction T using Tree.ind' with
  | h0 => intro c t h; exact absurd rfl h.ne
  | h1 T hT ih => ?_
  intro c t hs hc0 hc1
  have hsz := sizeN_kids hT
  have hse := rC_eq hT i b c
  have w1 : IntKind.i64.wrap (65536 - c) = 65536 - c := wrap64 (by omega) (by omega)
  refine Pure.of_body tt [91, 183] [12] Tryz.func113 rfl rfl rfl (Nat.le_of_ble_eq_true rfl) fun g => ?_
  by_cases k1 : T.kind < 110
  · rw [if_pos (.inr k1)] at hse
    rw [hse]
    repeat' ((first
      | refine then_go hm htt ?_
      | refine Side.go ?_
      | refine Hyp.go fun hlen => ?_
      | refine Split.ct ?_
      | refine Split.cf ?_
      | refine Split.tt ?_
      | refine Split.ff ?_
      | refine Indep.go ?_
      | refine Split.go (fun hc => ?_) fun hc => ?_) <;> conv => whnf)
    exact ret_closed rfl rfl rfl
  by_cases k2 : T.kind < 130
  · rw [if_neg (by omega), if_pos k2] at hse
    rw [hse]
    by_cases c1 : 65536 - c < i
    · rw [if_pos c1]
      have c1' : IntKind.i64.wrap (65536 - c) < i := by rw [w1]; exact c1
      repeat' ((first
        | refine then_go hm htt ?_
        | refine Side.go ?_
        | refine Hyp.go fun hlen => ?_
        | refine Split.ct ?_
        | refine Split.cf ?_
        | refine Split.tt ?_
        | refine Split.ff ?_
        | refine Indep.go ?_
        | refine Split.go (fun hc => ?_) fun hc => ?_) <;> conv => whnf)
      exact ret_closed rfl rfl rfl
    · rw [if_neg c1]
      have c1' : ¬ IntKind.i64.wrap (65536 - c) < i := by rw [w1]; exact c1
      have w3 : IntKind.i64.wrap (c + i) = c + i := wrap64 (by omega) (by omega)
      have hp := rPut_ok b hb T (c + i) 0 (shw_full T hs)
      rw [← w3] at hp ⊢
      generalize rputF (IntKind.i64.wrap (c + i)) b T 0 = Y at *
      repeat' ((first
        | refine then_go hm htt ?_
        | refine Side.go ?_
        | refine Hyp.go fun hlen => ?_
        | refine Split.ct ?_
        | refine Split.cf ?_
        | refine Split.tt ?_
        | refine Split.ff ?_
        | refine Indep.go ?_
        | refine CallG.gp hp ?_
        | refine Split.go (fun hc => ?_) fun hc => ?_) <;> conv => whnf)
      exact ret_closed rfl rfl rfl
  have hkids : ∀ x ∈ T.kids, Shw x := by
    rcases shw_kids hs with h | ⟨_, _, h⟩
    · exact absurd h k2
    · exact h
  rw [rC_node hs (by omega) i b c]
  clear hse
  by_cases h130 : T.kind = 130
  · have hk0 := shw_var hs h130
    have hk1 : T.kids.length = 0 := by rw [hk0]; rfl
    repeat' ((first
      | refine then_go hm htt ?_
      | refine Side.go ?_
      | refine Hyp.go fun hlen => ?_
      | refine Split.ct ?_
      | refine Split.cf ?_
      | refine Split.tt ?_
      | refine Split.ff ?_
      | refine Indep.go ?_
      | refine Split.go (fun hc => ?_) fun hc => ?_) <;> conv => whnf)
    refine loop_go (α := Nat × List Tree) (fun p => ⟨[(0, .d (.tree T)), (1, .d (.int .i64 i)), (2, .d (.tree b)), (3, .d (.int .u8 99)), (4, .d (.int .i64 c)), (5, .d (.int .i64 t)), (15, .ref 0 0), (16, .d (.int .i64 p.1))], 188, [(0, .cells [.d (.int .i64 T.kind), .d (.int .i64 T.n), .d (.str T.name), .d (.str ByteArray.empty), .row 1 p.1]), (1, .row 25 (.trees p.2))], 2, g⟩)
        (fun p => p.1 ≤ T.kids.length ∧ p.2.length = p.1 ∧ rsC i b T.kind 0 T.kids c = p.2 ++ rsC i b T.kind p.1 (T.kids.drop p.1) c) (fun p => T.kids.length - p.1) (0, []) ⟨by simp, rfl, rfl⟩
        (Ent.nil rfl rfl rfl (by repeat' first | exact trivial | apply And.intro | rfl | (refine int_eq ?_; rw [wrap64] <;> omega)) (by repeat' first | exact trivial | apply And.intro | rfl | (refine int_eq ?_; rw [wrap64] <;> omega))) (fun _ => rfl) fun p hpre => ?_
    obtain ⟨p, out⟩ := p
    obtain ⟨hp1, hp2, hp3⟩ := hpre
    simp only [] at hp1 hp2 hp3
    have hp0 : p = 0 := by omega
    subst hp0
    rw [drop_end (by omega), rsC, List.append_nil] at hp3
    rw [hp3]
    repeat' ((first
      | refine then_go hm htt ?_
      | refine Side.go ?_
      | refine Hyp.go fun hlen => ?_
      | refine Split.ct ?_
      | refine Split.cf ?_
      | refine Split.tt ?_
      | refine Split.ff ?_
      | refine Indep.go ?_
      | refine Split.go (fun hc => ?_) fun hc => ?_) <;> conv => whnf)
    refine RetS.ent (Ent.fz_row 1 (l := out) rfl (by repeat' first | exact trivial | apply And.intro | rfl | exact hp2.symm | exact Nat.zero_lt_one | omega) (by repeat' first | exact trivial | apply And.intro | rfl | exact hp2.symm | exact Nat.zero_lt_one | omega)) ?_
    refine RetS.ent (Ent.fz_node 0 rfl rfl (by repeat' first | exact trivial | apply And.intro | rfl | exact hp2.symm | exact Nat.zero_lt_one | omega) (by repeat' first | exact trivial | apply And.intro | rfl | exact hp2.symm | exact Nat.zero_lt_one | omega)) ?_
    exact ret_closed rfl rfl rfl
  · repeat' ((first
      | refine then_go hm htt ?_
      | refine Side.go ?_
      | refine Hyp.go fun hlen => ?_
      | refine Split.ct ?_
      | refine Split.cf ?_
      | refine Split.tt ?_
      | refine Split.ff ?_
      | refine Indep.go ?_
      | refine Split.go (fun hc => ?_) fun hc => ?_) <;> conv => whnf)
    refine loop_go (α := Nat × List Tree) (fun p => ⟨[(0, .d (.tree T)), (1, .d (.int .i64 i)), (2, .d (.tree b)), (3, .d (.int .u8 99)), (4, .d (.int .i64 c)), (5, .d (.int .i64 t)), (15, .ref 0 0), (16, .d (.int .i64 p.1))], 188, [(0, .cells [.d (.int .i64 T.kind), .d (.int .i64 T.n), .d (.str T.name), .d (.str ByteArray.empty), .row 1 p.1]), (1, .row 25 (.trees p.2))], 2, g⟩)
        (fun p => p.1 ≤ T.kids.length ∧ p.2.length = p.1 ∧ rsC i b T.kind 0 T.kids c = p.2 ++ rsC i b T.kind p.1 (T.kids.drop p.1) c) (fun p => T.kids.length - p.1) (0, []) ⟨by simp, rfl, rfl⟩
        (Ent.nil rfl rfl rfl (by repeat' first | exact trivial | apply And.intro | rfl | (refine int_eq ?_; rw [wrap64] <;> omega)) (by repeat' first | exact trivial | apply And.intro | rfl | (refine int_eq ?_; rw [wrap64] <;> omega))) (fun _ => rfl) fun p hpre => ?_
    obtain ⟨p, out⟩ := p
    obtain ⟨hp1, hp2, hp3⟩ := hpre
    simp only [] at hp1 hp2 hp3
    by_cases hlt : p < T.kids.length
    · have hmx := getD_mem hlt
      have s1 := sizesN_mem hmx
      have hbl := bnd_le T.kind p
      rw [drop_step hlt, rsC] at hp3
      have hrec := ih _ hmx (c + (bndF T.kind p).1) (IntKind.i64.wrap (t + (bndF T.kind p).2)) (hkids _ hmx) (by omega) (by omega)
      have w2 : IntKind.i64.wrap (c + (bndF T.kind p).1) = c + (bndF T.kind p).1 := wrap64 (by omega) (by omega)
      rw [← w2] at hrec
      by_cases b1 : T.kind = 149
      · have e : bndF T.kind p = (0, 1) := by unfold bndF; rw [if_pos b1]
        rw [e] at hrec w2 hp3
        simp only [] at hrec w2 hp3
        rw [← w2] at hp3
        generalize rC i b (T.kids.getD p .nil) (IntKind.i64.wrap (c + 0)) = Y at *
        repeat' ((first
          | refine then_go hm htt ?_
          | refine Side.go ?_
          | refine Hyp.go fun hlen => ?_
          | refine Split.ct ?_
          | refine Split.cf ?_
          | refine Split.tt ?_
          | refine Split.ff ?_
          | refine Indep.go ?_
          | refine Side.mk (show (p + 1 ≤ 17592186044416 ∧ (p + 1) * 8 ≤ 140737488355328) from ⟨by omega, by omega⟩) ?_
          | refine CallG.gp hrec ?_
          | refine Split.go (fun hc => ?_) fun hc => ?_) <;> conv => whnf)
        all_goals exact ⟨(p + 1, out ++ [Y]), ⟨by simp only []; omega, by simp [hp2], by rw [hp3]; simp⟩, by simp only []; omega, Ent.go [0, 2]⟩
      by_cases b2 : p = 1 ∧ T.kind = 139
      · have e : bndF T.kind p = (1, 0) := by rw [b2.1, b2.2]; rfl
        rw [e] at hrec w2 hp3
        simp only [] at hrec w2 hp3
        rw [← w2] at hp3
        obtain ⟨b2, b3⟩ := b2
        generalize rC i b (T.kids.getD p .nil) (IntKind.i64.wrap (c + 1)) = Y at *
        repeat' ((first
          | refine then_go hm htt ?_
          | refine Side.go ?_
          | refine Hyp.go fun hlen => ?_
          | refine Split.ct ?_
          | refine Split.cf ?_
          | refine Split.tt ?_
          | refine Split.ff ?_
          | refine Indep.go ?_
          | refine Side.mk (show (p + 1 ≤ 17592186044416 ∧ (p + 1) * 8 ≤ 140737488355328) from ⟨by omega, by omega⟩) ?_
          | refine CallG.gp hrec ?_
          | refine Split.go (fun hc => ?_) fun hc => ?_) <;> conv => whnf)
        all_goals exact ⟨(p + 1, out ++ [Y]), ⟨by simp only []; omega, by simp [hp2], by rw [hp3]; simp⟩, by simp only []; omega, Ent.go [0, 2]⟩
      by_cases b3 : p = 1 ∧ T.kind = 142
      · have e : bndF T.kind p = (1, 1) := by rw [b3.1, b3.2]; rfl
        rw [e] at hrec w2 hp3
        simp only [] at hrec w2 hp3
        rw [← w2] at hp3
        obtain ⟨b3, b4⟩ := b3
        generalize rC i b (T.kids.getD p .nil) (IntKind.i64.wrap (c + 1)) = Y at *
        repeat' ((first
          | refine then_go hm htt ?_
          | refine Side.go ?_
          | refine Hyp.go fun hlen => ?_
          | refine Split.ct ?_
          | refine Split.cf ?_
          | refine Split.tt ?_
          | refine Split.ff ?_
          | refine Indep.go ?_
          | refine Side.mk (show (p + 1 ≤ 17592186044416 ∧ (p + 1) * 8 ≤ 140737488355328) from ⟨by omega, by omega⟩) ?_
          | refine CallG.gp hrec ?_
          | refine Split.go (fun hc => ?_) fun hc => ?_) <;> conv => whnf)
        all_goals exact ⟨(p + 1, out ++ [Y]), ⟨by simp only []; omega, by simp [hp2], by rw [hp3]; simp⟩, by simp only []; omega, Ent.go [0, 2]⟩
      by_cases b4 : p = 1 ∧ (T.kind = 134 ∨ T.kind = 143)
      · have e : bndF T.kind p = (0, 1) := by rw [b4.1]; rcases b4.2 with q | q <;> rw [q] <;> rfl
        rw [e] at hrec w2 hp3
        simp only [] at hrec w2 hp3
        rw [← w2] at hp3
        obtain ⟨b4, b5⟩ := b4
        generalize rC i b (T.kids.getD p .nil) (IntKind.i64.wrap (c + 0)) = Y at *
        repeat' ((first
          | refine then_go hm htt ?_
          | refine Side.go ?_
          | refine Hyp.go fun hlen => ?_
          | refine Split.ct ?_
          | refine Split.cf ?_
          | refine Split.tt ?_
          | refine Split.ff ?_
          | refine Indep.go ?_
          | refine Side.mk (show (p + 1 ≤ 17592186044416 ∧ (p + 1) * 8 ≤ 140737488355328) from ⟨by omega, by omega⟩) ?_
          | refine CallG.gp hrec ?_
          | refine Split.go (fun hc => ?_) fun hc => ?_) <;> conv => whnf)
        all_goals exact ⟨(p + 1, out ++ [Y]), ⟨by simp only []; omega, by simp [hp2], by rw [hp3]; simp⟩, by simp only []; omega, Ent.go [0, 2]⟩
      · have e : bndF T.kind p = (0, 0) := by
          unfold bndF
          rw [if_neg b1]
          split
          · rfl
          · rw [if_neg (by omega), if_neg (by omega), if_neg (by omega)]
        rw [e] at hrec w2 hp3
        simp only [] at hrec w2 hp3
        rw [← w2] at hp3
        generalize rC i b (T.kids.getD p .nil) (IntKind.i64.wrap (c + 0)) = Y at *
        repeat' ((first
          | refine then_go hm htt ?_
          | refine Side.go ?_
          | refine Hyp.go fun hlen => ?_
          | refine Split.ct ?_
          | refine Split.cf ?_
          | refine Split.tt ?_
          | refine Split.ff ?_
          | refine Indep.go ?_
          | refine Side.mk (show (p + 1 ≤ 17592186044416 ∧ (p + 1) * 8 ≤ 140737488355328) from ⟨by omega, by omega⟩) ?_
          | refine CallG.gp hrec ?_
          | refine Split.go (fun hc => ?_) fun hc => ?_) <;> conv => whnf)
        all_goals exact ⟨(p + 1, out ++ [Y]), ⟨by simp only []; omega, by simp [hp2], by rw [hp3]; simp⟩, by simp only []; omega, Ent.go [0, 2]⟩
    · rw [drop_end (by omega), rsC, List.append_nil] at hp3
      rw [hp3]
      repeat' ((first
        | refine then_go hm htt ?_
        | refine Side.go ?_
        | refine Hyp.go fun hlen => ?_
        | refine Split.ct ?_
        | refine Split.cf ?_
        | refine Split.tt ?_
        | refine Split.ff ?_
        | refine Indep.go ?_
        | refine Split.go (fun hc => ?_) fun hc => ?_) <;> conv => whnf)
      refine RetS.ent (Ent.fz_row 1 (l := out) rfl (by repeat' first | exact trivial | apply And.intro | rfl | exact hp2.symm | exact Nat.zero_lt_one | omega) (by repeat' first | exact trivial | apply And.intro | rfl | exact hp2.symm | exact Nat.zero_lt_one | omega)) ?_
      refine RetS.ent (Ent.fz_node 0 rfl rfl (by repeat' first | exact trivial | apply And.intro | rfl | exact hp2.symm | exact Nat.zero_lt_one | omega) (by repeat' first | exact trivial | apply And.intro | rfl | exact hp2.symm | exact Nat.zero_lt_one | omega)) ?_
      exact ret_closed rfl rfl rfl
end Sb
end Go.Proofs.YtoajaklekmbcdaaGreat

namespace Go.Proofs.YtoajaklekmbcdaaGreat
namespace Sb
open Go Go.Mq Tm
set_option linter.all false

/-! How large what comes of it is; the document's Term, Con -/
theorem inT_bound (i : Int) (b T : Tree) : ∀ t : Int, sizeN (inT i b T t) ≤ sizeN T * (1 + sizeN b) := by
  induction T using Tree.ind' with
  | h0 => intro t; rw [inT]; simp [sizeN]
  | h1 T hT ih =>
    intro t
    have hsz := sizeN_kids hT
    have hT1 : sizeN T ≤ sizeN T * (1 + sizeN b) := Nat.le_mul_of_pos_right _ (by omega)
    have hb1 : 1 * (1 + sizeN b) ≤ sizeN T * (1 + sizeN b) := Nat.mul_le_mul_right _ (by omega)
    rw [inT_eq hT]
    split
    · split
      · exact hT1
      split
      · simp only [sizeN, sizesN]; omega
      · omega
    split
    · exact hT1
    · have hl : ∀ (l : List Tree) (p : Nat), (∀ x ∈ l, x ∈ T.kids) → sizesN (insT i b T.kind p l t) ≤ sizesN l * (1 + sizeN b) := by
        intro l
        induction l with
        | nil => intro p _; rw [insT]; simp [sizesN]
        | cons x l ihl =>
          intro p hx
          rw [insT, sizesN, sizesN, Nat.add_mul]
          exact Nat.add_le_add (ih x (hx x (by simp)) _) (ihl (p + 1) fun y hy => hx y (by simp [hy]))
      have := hl T.kids 0 fun x hx => hx
      rw [sizeN, hsz, Nat.add_mul]
      omega
theorem rsized_ok (T : Tree) (hz : sizeN T ≤ 1099511627776) : Pure P 112 [.d (.tree T)] (.tuple [.d (.tree (sizedR T).1), .d (.int .i64 (sizedR T).2)]) := by
  have hs := rsize_ok T
  rw [sizeF_sizeN T (by omega)] at hs
  refine Pure.of_body tt [] [2, 3] Tryz.func112 rfl rfl rfl (Nat.le_of_ble_eq_true rfl) fun g => ?_
  unfold sizedR
  by_cases h : 65536 < sizeN T
  · rw [if_pos h]
    repeat' ((first
      | refine then_go hm htt ?_
      | refine Side.go ?_
      | refine Hyp.go fun hlen => ?_
      | refine Split.ct ?_
      | refine Split.cf ?_
      | refine Split.tt ?_
      | refine Split.ff ?_
      | refine Indep.go ?_
      | refine CallG.gp hs ?_
      | refine Split.go (fun hc => ?_) fun hc => ?_) <;> conv => whnf)
    all_goals exact ret_closed rfl rfl rfl
  · rw [if_neg h]
    repeat' ((first
      | refine then_go hm htt ?_
      | refine Side.go ?_
      | refine Hyp.go fun hlen => ?_
      | refine Split.ct ?_
      | refine Split.cf ?_
      | refine Split.tt ?_
      | refine Split.ff ?_
      | refine Indep.go ?_
      | refine CallG.gp hs ?_
      | refine Split.go (fun hc => ?_) fun hc => ?_) <;> conv => whnf)
    all_goals exact ret_closed rfl rfl rfl
set_option maxRecDepth 10000 in
theorem rTerm_ok (T : Tree) (i : Int) (b : Tree) : Pure P 80 [.d (.tree T), .d (.int .i64 i), .d (.tree b)] (.tuple [.d (.tree (termR T i b).1), .d (.int .i64 (termR T i b).2)]) := by
  have h1 := rtCheck_ok T
  have h2 := rtCheck_ok b
  have h3 := rClosed_ok b
  unfold termR
  refine Pure.of_body tt [] [6, 7] Tryz.func80 rfl rfl rfl (Nat.le_of_ble_eq_true rfl) fun g => ?_
  by_cases e1 : termE T = 0
  · rw [if_neg (by simp [e1])]
    rw [e1] at h1
    by_cases e2 : termE b = 0
    · rw [if_neg (by simp [e2])]
      rw [e2] at h2
      by_cases e3 : i < 0
      · rw [if_pos (.inl e3)]
        repeat' ((first
          | refine then_go hm htt ?_
          | refine Side.go ?_
          | refine Hyp.go fun hlen => ?_
          | refine Split.ct ?_
          | refine Split.cf ?_
          | refine Split.tt ?_
          | refine Split.ff ?_
          | refine Indep.go ?_
          | refine CallG.gp h1 ?_
          | refine CallG.gp h2 ?_
          | refine Split.go (fun hc => ?_) fun hc => ?_) <;> conv => whnf)
        exact ret_closed rfl rfl rfl
      · cases e4 : closedF b with
        | false =>
          rw [if_pos (.inr rfl)]
          rw [e4] at h3
          repeat' ((first
            | refine then_go hm htt ?_
            | refine Side.go ?_
            | refine Hyp.go fun hlen => ?_
            | refine Split.ct ?_
            | refine Split.cf ?_
            | refine Split.tt ?_
            | refine Split.ff ?_
            | refine Indep.go ?_
            | refine CallG.gp h1 ?_
            | refine CallG.gp h2 ?_
            | refine CallG.gp h3 ?_
            | refine Split.go (fun hc => ?_) fun hc => ?_) <;> conv => whnf)
          exact ret_closed rfl rfl rfl
        | true =>
          rw [if_neg (by simp; omega)]
          rw [e4] at h3
          obtain ⟨t1, t2, t3⟩ := termE_ok e1
          obtain ⟨b1, b2, b3⟩ := termE_ok e2
          have h4 := rInT_ok i b T 0 0 (.inr (.inl t1)) (by omega) (by omega)
          have hz := inT_bound i b T 0
          have hz2 : sizeN T * (1 + sizeN b) ≤ 65536 * 65537 := Nat.mul_le_mul t2 (by omega)
          have h5 := rsized_ok (inT i b T 0) (by omega)
          repeat' ((first
            | refine then_go hm htt ?_
            | refine Side.go ?_
            | refine Hyp.go fun hlen => ?_
            | refine Split.ct ?_
            | refine Split.cf ?_
            | refine Split.tt ?_
            | refine Split.ff ?_
            | refine Indep.go ?_
            | refine CallG.gp h1 ?_
            | refine CallG.gp h2 ?_
            | refine CallG.gp h3 ?_
            | refine CallG.gp h4 ?_
            | refine CallG.gp h5 ?_
            | refine Split.go (fun hc => ?_) fun hc => ?_) <;> conv => whnf)
          exact ret_closed rfl rfl rfl
    · rw [if_pos e2]
      repeat' ((first
        | refine then_go hm htt ?_
        | refine Side.go ?_
        | refine Hyp.go fun hlen => ?_
        | refine Split.ct ?_
        | refine Split.cf ?_
        | refine Split.tt ?_
        | refine Split.ff ?_
        | refine Indep.go ?_
        | refine CallG.gp h1 ?_
        | refine CallG.gp h2 ?_
        | refine Split.go (fun hc => ?_) fun hc => ?_) <;> conv => whnf)
      exact ret_closed rfl rfl rfl
  · rw [if_pos e1]
    repeat' ((first
      | refine then_go hm htt ?_
      | refine Side.go ?_
      | refine Hyp.go fun hlen => ?_
      | refine Split.ct ?_
      | refine Split.cf ?_
      | refine Split.tt ?_
      | refine Split.ff ?_
      | refine Indep.go ?_
      | refine CallG.gp h1 ?_
      | refine Split.go (fun hc => ?_) fun hc => ?_) <;> conv => whnf)
    exact ret_closed rfl rfl rfl
end Sb
end Go.Proofs.YtoajaklekmbcdaaGreat

namespace Go.Proofs.YtoajaklekmbcdaaGreat
namespace Sb
open Go Go.Mq Tm
set_option linter.all false

/-! Constructors put in: the walk -/
abbrev conL (s : Bool) (i : Int) (b : Tree) : List (Nat × AObj) := [(0, .cells [.d (.bool s)]), (1, .cells [.d (.int .i64 i)]), (2, .cells [.d (.tree b)])]
set_option maxRecDepth 10000 in
theorem conV_ok (i : Int) (b T : Tree) (c : Int) (s : Bool) (hi : 0 ≤ i) (hc : 0 ≤ c ∧ c ≤ 1099511627776) :
    Fun P 105 [.d (.tree T), .d (.int .i64 c), .ref 0 0, .ref 1 0, .ref 2 0] [(0, .cells [.d (.bool s)]), (1, .cells [.d (.int .i64 i)]), (2, .cells [.d (.tree b)])] 3 (.d (.tree (conStep i b T c s).1)) [(0, .cells [.d (.bool (conStep i b T c s).2)]), (1, .cells [.d (.int .i64 i)]), (2, .cells [.d (.tree b)])] 3 := by
  have w1 : IntKind.i64.wrap (65536 - c) = 65536 - c := wrap64 (by omega) (by omega)
  refine Fun.of_body tt [] [7] (Tryz.func105) rfl rfl rfl (Nat.le_of_ble_eq_true rfl) fun g => ?_
  unfold conStep
  cases s with
  | true =>
    rw [if_pos (.inl rfl)]
    repeat' ((first
      | refine then_go hm htt ?_
      | refine Side.go ?_
      | refine Hyp.go fun hlen => ?_
      | refine Split.ct ?_
      | refine Split.cf ?_
      | refine Split.tt ?_
      | refine Split.ff ?_
      | refine Indep.go ?_
      | refine Split.go (fun hc => ?_) fun hc => ?_) <;> conv => whnf)
    exact ret_objs rfl rfl rfl (by repeat' first | exact trivial | apply And.intro | rfl | (refine int_eq ?_; rw [wrap64] <;> omega)) (Nat.le_refl _)
  | false =>
    by_cases c1 : 65536 - c < i
    · rw [if_pos (.inr c1)]
      have c1' : IntKind.i64.wrap (65536 - c) < i := by rw [w1]; exact c1
      repeat' ((first
        | refine then_go hm htt ?_
        | refine Side.go ?_
        | refine Hyp.go fun hlen => ?_
        | refine Split.ct ?_
        | refine Split.cf ?_
        | refine Split.tt ?_
        | refine Split.ff ?_
        | refine Indep.go ?_
        | refine Split.go (fun hc => ?_) fun hc => ?_) <;> conv => whnf)
      exact ret_objs rfl rfl rfl (by repeat' first | exact trivial | apply And.intro | rfl | (refine int_eq ?_; rw [wrap64] <;> omega)) (Nat.le_refl _)
    · rw [if_neg (by simp; omega)]
      have c1' : ¬ IntKind.i64.wrap (65536 - c) < i := by rw [w1]; exact c1
      have w3 : IntKind.i64.wrap (c + i) = c + i := wrap64 (by omega) (by omega)
      have hp := subst_ok T (c + i) b
      rw [← w3] at hp ⊢
      generalize substR T (IntKind.i64.wrap (c + i)) b = Y at *
      obtain ⟨m, e⟩ := Y
      simp only [] at hp ⊢
      by_cases he : e = 0
      · rw [if_neg (by omega)]
        subst he
        repeat' ((first
          | refine then_go hm htt ?_
          | refine Side.go ?_
          | refine Hyp.go fun hlen => ?_
          | refine Split.ct ?_
          | refine Split.cf ?_
          | refine Split.tt ?_
          | refine Split.ff ?_
          | refine Indep.go ?_
          | refine CallG.gp hp ?_
          | refine Split.go (fun hc => ?_) fun hc => ?_) <;> conv => whnf)
        exact ret_objs rfl rfl rfl (by repeat' first | exact trivial | apply And.intro | rfl | (refine int_eq ?_; rw [wrap64] <;> omega)) (Nat.le_refl _)
      · rw [if_pos he]
        repeat' ((first
          | refine then_go hm htt ?_
          | refine Side.go ?_
          | refine Hyp.go fun hlen => ?_
          | refine Split.ct ?_
          | refine Split.cf ?_
          | refine Split.tt ?_
          | refine Split.ff ?_
          | refine Indep.go ?_
          | refine CallG.gp hp ?_
          | refine Split.go (fun hc => ?_) fun hc => ?_) <;> conv => whnf)
        exact ret_objs rfl rfl rfl (by repeat' first | exact trivial | apply And.intro | rfl | (refine int_eq ?_; rw [wrap64] <;> omega)) (Nat.le_refl _)
set_option maxHeartbeats 4000000 in
set_option maxRecDepth 10000 in
theorem sbWalkC_ok (i : Int) (b : Tree) (hi : 0 ≤ i) (T : Tree) : ∀ (c t : Int) (s : Bool), Shw T → 0 ≤ c → c + sizeN T ≤ 1099511627776 →
    Fun P 102 [.d (.tree T), .d (.int .i64 c), .d (.int .i64 t), .fn 104 [], .fn 105 [.ref 0 0, .ref 1 0, .ref 2 0]] [(0, .cells [.d (.bool s)]), (1, .cells [.d (.int .i64 i)]), (2, .cells [.d (.tree b)])] 3 (.d (.tree (inC i b T c s).1)) [(0, .cells [.d (.bool (inC i b T c s).2)]), (1, .cells [.d (.int .i64 i)]), (2, .cells [.d (.tree b)])] 3 := by
  induction T using Tree.ind' with
  | h0 => intro c t s h; exact absurd rfl h.ne
  | h1 T hT ih => ?_
  intro c t s hs hc0 hc1
  have hsz := sizeN_kids hT
  have hse := inC_eq hT i b c s
  by_cases k1 : T.kind = 130
  · rw [if_pos (.inl k1)] at hse
    rw [hse]
    refine Fun.of_body tt [83] [10] Tryz.func102 rfl rfl rfl (Nat.le_of_ble_eq_true rfl) fun g => ?_
    repeat' ((first
      | refine then_go hm htt ?_
      | refine Side.go ?_
      | refine Hyp.go fun hlen => ?_
      | refine Split.ct ?_
      | refine Split.cf ?_
      | refine Split.tt ?_
      | refine Split.ff ?_
      | refine Indep.go ?_
      | refine CallG.gp (stays_ok T t) ?_
      | refine Split.go (fun hc => ?_) fun hc => ?_) <;> conv => whnf)
    exact ret_objs rfl rfl rfl (by repeat' first | exact trivial | apply And.intro | rfl | (refine int_eq ?_; rw [wrap64] <;> omega)) (Nat.le_refl _)
  by_cases k0 : T.kind < 110
  · rw [if_pos (.inr k0)] at hse
    rw [hse]
    refine Fun.of_body tt [83] [10] Tryz.func102 rfl rfl rfl (Nat.le_of_ble_eq_true rfl) fun g => ?_
    repeat' ((first
      | refine then_go hm htt ?_
      | refine Side.go ?_
      | refine Hyp.go fun hlen => ?_
      | refine Split.ct ?_
      | refine Split.cf ?_
      | refine Split.tt ?_
      | refine Split.ff ?_
      | refine Indep.go ?_
      | refine Split.go (fun hc => ?_) fun hc => ?_) <;> conv => whnf)
    exact ret_objs rfl rfl rfl (by repeat' first | exact trivial | apply And.intro | rfl | (refine int_eq ?_; rw [wrap64] <;> omega)) (Nat.le_refl _)
  rw [if_neg (by omega)] at hse
  by_cases k2 : T.kind < 130
  · rw [if_pos k2] at hse
    rw [hse]
    have hv := conV_ok i b T c s hi ⟨hc0, by omega⟩
    generalize conStep i b T c s = Y at *
    refine Fun.of_body tt [83] [10] Tryz.func102 rfl rfl rfl (Nat.le_of_ble_eq_true rfl) fun g => ?_
    repeat' ((first
      | refine then_go hm htt ?_
      | refine Side.go ?_
      | refine Hyp.go fun hlen => ?_
      | refine Split.ct ?_
      | refine Split.cf ?_
      | refine Split.tt ?_
      | refine Split.ff ?_
      | refine Indep.go ?_
      | refine CallG.go hv [0, 1, 2] ?_
      | refine Split.go (fun hc => ?_) fun hc => ?_) <;> conv => whnf)
    exact ret_objs rfl rfl rfl (by repeat' first | exact trivial | apply And.intro | rfl | (refine int_eq ?_; rw [wrap64] <;> omega)) (Nat.le_refl _)
  rw [if_neg k2] at hse
  rw [hse]
  have hkids : ∀ x ∈ T.kids, Shw x := by
    rcases shw_kids hs with h | ⟨_, _, h⟩
    · exact absurd h k2
    · exact h
  by_cases k3 : T.kids.length = 0
  · have e0 : T.kids = [] := List.length_eq_zero_iff.1 k3
    have e : (Tree.node T.kind T.n T.name T.mark (insC i b T.kind 0 T.kids c s).1, (insC i b T.kind 0 T.kids c s).2) = (T, s) := by
      rw [e0, insC]
      cases T with
      | nil => exact absurd rfl hT
      | node k n nm mk l =>
        have : l = [] := e0
        subst this; rfl
    rw [e]
    refine Fun.of_body tt [83] [10] Tryz.func102 rfl rfl rfl (Nat.le_of_ble_eq_true rfl) fun g => ?_
    repeat' ((first
      | refine then_go hm htt ?_
      | refine Side.go ?_
      | refine Hyp.go fun hlen => ?_
      | refine Split.ct ?_
      | refine Split.cf ?_
      | refine Split.tt ?_
      | refine Split.ff ?_
      | refine Indep.go ?_
      | refine Split.go (fun hc => ?_) fun hc => ?_) <;> conv => whnf)
    exact ret_objs rfl rfl rfl (by repeat' first | exact trivial | apply And.intro | rfl | (refine int_eq ?_; rw [wrap64] <;> omega)) (Nat.le_refl _)
  refine Fun.of_body tt [83] [10] Tryz.func102 rfl rfl rfl (Nat.le_of_ble_eq_true rfl) fun g => ?_
  repeat' ((first
    | refine then_go hm htt ?_
    | refine Side.go ?_
    | refine Hyp.go fun hlen => ?_
    | refine Split.ct ?_
    | refine Split.cf ?_
    | refine Split.tt ?_
    | refine Split.ff ?_
    | refine Indep.go ?_
    | refine Split.go (fun hc => ?_) fun hc => ?_) <;> conv => whnf)
  refine loop_go (α := Nat × List Tree × Bool) (fun p => ⟨[(0, .d (.tree T)), (1, .d (.int .i64 c)), (2, .d (.int .i64 t)), (3, .fn 104 []), (4, .fn 105 [.ref 0 0, .ref 1 0, .ref 2 0]), (11, .ref 3 0), (58, .d (.trees T.kids)), (59, .d (.int .i64 T.kids.length)), (60, .d (.int .i64 p.1))], 87, [(0, .cells [.d (.bool p.2.2)]), (1, .cells [.d (.int .i64 i)]), (2, .cells [.d (.tree b)]), (3, .cells [.d (.int .i64 T.kind), .d (.int .i64 T.n), .d (.str T.name), .d (.str T.mark), .row 4 p.1]), (4, .row 25 (.trees p.2.1))], 5, g⟩)
        (fun p => p.1 ≤ T.kids.length ∧ p.2.1.length = p.1 ∧ insC i b T.kind 0 T.kids c s = (p.2.1 ++ (insC i b T.kind p.1 (T.kids.drop p.1) c p.2.2).1, (insC i b T.kind p.1 (T.kids.drop p.1) c p.2.2).2)) (fun p => T.kids.length - p.1) (0, [], s) ⟨by simp, rfl, rfl⟩
        (Ent.nil rfl rfl rfl (by repeat' first | exact trivial | apply And.intro | rfl | (refine int_eq ?_; rw [wrap64] <;> omega)) (by repeat' first | exact trivial | apply And.intro | rfl | (refine int_eq ?_; rw [wrap64] <;> omega))) (fun _ => rfl) fun p hpre => ?_
  obtain ⟨p, out, s'⟩ := p
  obtain ⟨hp1, hp2, hp3⟩ := hpre
  simp only [] at hp1 hp2 hp3
  by_cases hlt : p < T.kids.length
  · have hmx := getD_mem hlt
    have s1 := sizesN_mem hmx
    have hbl := bnd_le T.kind p
    have hbi := sbBinds_ok T hs p hlt
    rw [drop_step hlt, insC] at hp3
    simp only [] at hp3
    have hrec := ih _ hmx (c + (bndF T.kind p).1) (IntKind.i64.wrap (t + (bndF T.kind p).2)) s' (hkids _ hmx) (by omega) (by omega)
    have w2 : IntKind.i64.wrap (c + (bndF T.kind p).1) = c + (bndF T.kind p).1 := wrap64 (by omega) (by omega)
    generalize inC i b (T.kids.getD p .nil) (c + (bndF T.kind p).1) s' = Y at *
    generalize bndF T.kind p = bb at *
    rw [← w2] at hrec
    repeat' ((first
      | refine then_go hm htt ?_
      | refine Side.go ?_
      | refine Hyp.go fun hlen => ?_
      | refine Split.ct ?_
      | refine Split.cf ?_
      | refine Split.tt ?_
      | refine Split.ff ?_
      | refine Indep.go ?_
      | refine Side.mk (show (p + 1 ≤ 17592186044416 ∧ (p + 1) * 8 ≤ 140737488355328) from ⟨by omega, by omega⟩) ?_
      | refine CallG.gp hbi ?_
      | refine CallG.go hrec [0, 1, 2] ?_
      | refine Split.go (fun hc => ?_) fun hc => ?_) <;> conv => whnf)
    exact ⟨(p + 1, out ++ [Y.1], Y.2), ⟨by simp only []; omega, by simp [hp2], by rw [hp3]; simp⟩, by simp only []; omega, Ent.go [0, 1, 2, 3, 5]⟩
  · rw [drop_end (by omega), insC, List.append_nil] at hp3
    rw [hp3]
    repeat' ((first
      | refine then_go hm htt ?_
      | refine Side.go ?_
      | refine Hyp.go fun hlen => ?_
      | refine Split.ct ?_
      | refine Split.cf ?_
      | refine Split.tt ?_
      | refine Split.ff ?_
      | refine Indep.go ?_
      | refine Split.go (fun hc => ?_) fun hc => ?_) <;> conv => whnf)
    refine RetS.ent (Ent.fz_row 4 (l := out) rfl (by repeat' first | exact trivial | apply And.intro | rfl | exact hp2.symm | exact Nat.zero_lt_one | omega) (by repeat' first | exact trivial | apply And.intro | rfl | exact hp2.symm | exact Nat.zero_lt_one | omega)) ?_
    refine RetS.ent (Ent.fz_node 3 rfl rfl (by repeat' first | exact trivial | apply And.intro | rfl | exact hp2.symm | exact Nat.zero_lt_one | omega) (by repeat' first | exact trivial | apply And.intro | rfl | exact hp2.symm | exact Nat.zero_lt_one | omega)) ?_
    refine RetS.ent (σ' := ⟨[(10, .d (.tree (.node T.kind T.n T.name T.mark out)))], 87, [(0, .cells [.d (.bool s')]), (1, .cells [.d (.int .i64 i)]), (2, .cells [.d (.tree b)])], 3, g⟩) (Ent.go [0, 1, 2]) ?_
    exact ret_objs rfl rfl rfl (by repeat' first | exact trivial | apply And.intro | rfl | (refine int_eq ?_; rw [wrap64] <;> omega)) (Nat.le_refl _)
theorem rC_bound (i : Int) (b : Tree) (T : Tree) (h : ∀ x c, isConF x = true → sizeN x ≤ 65536 → sizeN (rC i b x c) ≤ sizeN x * (1 + sizeN b)) : ∀ c, Shw T → sizeN T ≤ 65536 → sizeN (rC i b T c) ≤ sizeN T * (1 + sizeN b) := by
  induction T using Tree.ind' with
  | h0 => intro c hs; exact absurd rfl hs.ne
  | h1 T hT ih =>
    intro c hs hz
    have hsz := sizeN_kids hT
    have hT1 : sizeN T ≤ sizeN T * (1 + sizeN b) := Nat.le_mul_of_pos_right _ (by omega)
    have hb1 : 1 * (1 + sizeN b) ≤ sizeN T * (1 + sizeN b) := Nat.mul_le_mul_right _ (by omega)
    by_cases k1 : T.kind = 130 ∨ T.kind < 110
    · rw [rC_eq hT, if_pos k1]; exact hT1
    by_cases k2 : T.kind < 130
    · exact h T c (shw_con hs (by omega) k2) hz
    · rw [rC_eq hT, if_neg k1, if_neg k2]
      have hk : ∀ x ∈ T.kids, Shw x := by
        rcases shw_kids hs with w | ⟨_, _, w⟩
        · exact absurd w k2
        · exact w
      have hl : ∀ (l : List Tree) (p : Nat), (∀ x ∈ l, x ∈ T.kids) → sizesN (rsC i b T.kind p l c) ≤ sizesN l * (1 + sizeN b) := by
        intro l
        induction l with
        | nil => intro p _; rw [rsC]; simp [sizesN]
        | cons x l ihl =>
          intro p hx
          have hm := hx x (by simp)
          have s1 := sizesN_mem hm
          rw [rsC, sizesN, sizesN, Nat.add_mul]
          exact Nat.add_le_add (ih x hm _ (hk x hm) (by omega)) (ihl (p + 1) fun y hy => hx y (by simp [hy]))
      have := hl T.kids 0 fun x hx => hx
      rw [sizeN, hsz, Nat.add_mul]
      omega
theorem rC_size {i : Int} {b : Tree} (hi : 0 ≤ i) (hb : conE b = 0) (hc : freeR b = 0) {T : Tree} (hs : Shw T) (hz : sizeN T ≤ 65536) : sizeN (rC i b T 0) ≤ 65536 * 65537 := by
  have hzb := conE_size hb
  have hlim : lim = 1099511627776 := rfl
  have h := rC_bound i b T (fun x c hx hxz => by
    have hxn : x ≠ .nil := by intro e; subst e; rw [isConF] at hx; cases hx
    have hT1 : sizeN x ≤ sizeN x * (1 + sizeN b) := Nat.le_mul_of_pos_right _ (by omega)
    rw [rC_eq hxn]
    split
    · exact hT1
    split
    · split
      · exact hT1
      · cases hq : rputF (c + i) b x 0 with
        | none => simp [oT, sizeN]
        | some y =>
          have hsz := rputF_size (c + i) b x 0 y hq (isConF_plain x hx)
          have hh := hitsN_le (c + i) x 0
          show sizeN y ≤ _
          have h1 : hitsN (c + i) x 0 * sizeN b ≤ sizeN x * sizeN b := Nat.mul_le_mul_right _ hh
          rw [Nat.mul_add, Nat.mul_one]
          omega
    · rename_i k1 k2
      exfalso
      have := con_lt (.inl hx)
      omega) 0 hs hz
  have h2 : sizeN T * (1 + sizeN b) ≤ 65536 * 65537 := Nat.mul_le_mul hz (by omega)
  omega
end Sb
end Go.Proofs.YtoajaklekmbcdaaGreat

namespace Go.Proofs.YtoajaklekmbcdaaGreat
namespace Sb
open Go Go.Mq Tm
set_option linter.all false

theorem closed_con {b : Tree} (h : conE b = 0) (hc : closedF b = true) : freeR b = 0 := by
  unfold closedF at hc; rw [if_pos h] at hc; exact of_decide_eq_true hc
theorem substR_full {T b : Tree} {i : Int} (hT : Full T) (h : (substR T i b).2 = 0) : Full (substR T i b).1 := by
  unfold substR at h ⊢
  by_cases h1 : conE T = 0
  · rw [if_pos h1] at h ⊢
    by_cases h2 : conE b = 0
    · rw [if_pos h2] at h ⊢
      by_cases h3 : i < 0
      · rw [if_pos h3] at h; exact absurd h (by decide)
      · rw [if_neg h3] at h ⊢
        by_cases h4 : substE T i b = 0
        · rw [if_pos h4]
          exact walkF_full (fun x deep s hx => substStep_full _ _ _ x deep s hx) T _ _ hT
        · rw [if_neg h4] at h; exact absurd h h4
    · rw [if_neg h2] at h; exact absurd h h2
  · rw [if_neg h1] at h; exact absurd h h1
theorem inC_full (i : Int) (b : Tree) (hb : conE b = 0) (T : Tree) : ∀ (c : Int) (s : Bool), Shw T → sizeN T ≤ 65536 → Full (inC i b T c s).1 := by
  induction T using Tree.ind' with
  | h0 => intro c s h; exact absurd rfl h.ne
  | h1 T hT ih =>
    intro c s hs hz
    have hsz := sizeN_kids hT
    have hF := shw_full T hs
    rw [inC_eq hT]
    split
    · exact hF
    split
    · unfold conStep
      split
      · exact hF
      split
      · exact hF
      · rename_i q; exact substR_full hF (by omega)
    · rename_i k1 k2
      have hk : ∀ x ∈ T.kids, Shw x := by
        rcases shw_kids hs with w | ⟨_, _, w⟩
        · exact absurd w k2
        · exact w
      have hl : ∀ (l : List Tree) (p : Nat) (s : Bool), (∀ x ∈ l, x ∈ T.kids) → ∀ x ∈ (insC i b T.kind p l c s).1, Full x := by
        intro l
        induction l with
        | nil => intro p s _ x hx; rw [insC] at hx; cases hx
        | cons y l ihl =>
          intro p s hx x hxm
          rw [insC] at hxm
          simp only [] at hxm
          have hm := hx y (by simp)
          have s1 := sizesN_mem hm
          rcases List.mem_cons.1 hxm with rfl | hxm
          · exact ih y hm _ s (hk y hm) (by omega)
          · exact ihl (p + 1) _ (fun z hz => hx z (by simp [hz])) x hxm
      exact .node (hl T.kids 0 s fun x hx => hx)
set_option maxHeartbeats 4000000 in
set_option maxRecDepth 10000 in
theorem sbCon_ok (T : Tree) (i : Int) (b : Tree) : Pure P 70 [.d (.tree T), .d (.int .i64 i), .d (.tree b)] (.tuple [.d (.tree (conR T i b).1), .d (.int .i64 (conR T i b).2)]) := by
  have h1 := tCheck_ok T
  have h2 := check_ok b
  have h3 := sbClosed_ok b
  refine Pure.of_body tt [] [6, 7] Tryz.func70 rfl rfl rfl (Nat.le_of_ble_eq_true rfl) fun g => ?_
  by_cases e1 : termE T = 0
  · rw [e1] at h1
    by_cases e2 : conE b = 0
    · rw [e2] at h2
      by_cases e3 : i < 0
      · have e : conR T i b = (.nil, 2) := by unfold conR; rw [if_neg (by simp [e1]), if_neg (by simp [e2]), if_pos (.inl e3)]
        rw [e]
        repeat' ((first
          | refine then_go hm htt ?_
          | refine Side.go ?_
          | refine Hyp.go fun hlen => ?_
          | refine Split.ct ?_
          | refine Split.cf ?_
          | refine Split.tt ?_
          | refine Split.ff ?_
          | refine Indep.go ?_
          | refine CallG.gp h1 ?_
          | refine CallG.gp h2 ?_
          | refine Split.go (fun hc => ?_) fun hc => ?_) <;> conv => whnf)
        exact ret_closed rfl rfl rfl
      · cases e4 : closedF b with
        | false =>
          have e : conR T i b = (.nil, 2) := by unfold conR; rw [if_neg (by simp [e1]), if_neg (by simp [e2]), if_pos (.inr e4)]
          rw [e]
          rw [e4] at h3
          repeat' ((first
            | refine then_go hm htt ?_
            | refine Side.go ?_
            | refine Hyp.go fun hlen => ?_
            | refine Split.ct ?_
            | refine Split.cf ?_
            | refine Split.tt ?_
            | refine Split.ff ?_
            | refine Indep.go ?_
            | refine CallG.gp h1 ?_
            | refine CallG.gp h2 ?_
            | refine CallG.gp h3 ?_
            | refine Split.go (fun hc => ?_) fun hc => ?_) <;> conv => whnf)
          exact ret_closed rfl rfl rfl
        | true =>
          have e : conR T i b = if (inC i b T 0 false).2 = true then (.nil, 3) else sizedR (inC i b T 0 false).1 := by unfold conR; rw [if_neg (by simp [e1]), if_neg (by simp [e2]), if_neg (by simp [e4]; omega)]
          rw [e]
          rw [e4] at h3
          obtain ⟨t1, t2, t3⟩ := termE_ok e1
          have h4 := sbWalkC_ok i b (by omega) T 0 0 false (.inr (.inl t1)) (by omega) (by omega)
          have hw := walk_con (show 0 ≤ i by omega) e2 (closed_con e2 e4) T 0 (.inr (.inl t1)) t2 (by omega) (by omega)
          have hsf : (inC i b T 0 false).2 = false → Full (inC i b T 0 false).1 := fun _ => inC_full i b e2 T 0 false (.inr (.inl t1)) t2
          generalize inC i b T 0 false = Y at *
          obtain ⟨m, s⟩ := Y
          simp only [] at h4 hsf ⊢
          cases s with
          | true =>
            rw [if_pos rfl]
            repeat' ((first
              | refine then_go hm htt ?_
              | refine Side.go ?_
              | refine Hyp.go fun hlen => ?_
              | refine Split.ct ?_
              | refine Split.cf ?_
              | refine Split.tt ?_
              | refine Split.ff ?_
              | refine Indep.go ?_
              | refine CallG.gp h1 ?_
              | refine CallG.gp h2 ?_
              | refine CallG.gp h3 ?_
              | refine CallG.go h4 [2, 0, 1] ?_
              | refine Split.go (fun hc => ?_) fun hc => ?_) <;> conv => whnf)
            exact ret_closed rfl rfl rfl
          | false =>
            rw [if_neg (by simp)]
            have h5 := sbSized_ok m (hsf rfl)
            generalize sizedR m = Z at *
            repeat' ((first
              | refine then_go hm htt ?_
              | refine Side.go ?_
              | refine Hyp.go fun hlen => ?_
              | refine Split.ct ?_
              | refine Split.cf ?_
              | refine Split.tt ?_
              | refine Split.ff ?_
              | refine Indep.go ?_
              | refine CallG.gp h1 ?_
              | refine CallG.gp h2 ?_
              | refine CallG.gp h3 ?_
              | refine CallG.go h4 [2, 0, 1] ?_
              | refine CallG.gp h5 ?_
              | refine Split.go (fun hc => ?_) fun hc => ?_) <;> conv => whnf)
            exact ret_closed rfl rfl rfl
    · have e : conR T i b = (.nil, conE b) := by unfold conR; rw [if_neg (by simp [e1]), if_pos e2]
      rw [e]
      repeat' ((first
        | refine then_go hm htt ?_
        | refine Side.go ?_
        | refine Hyp.go fun hlen => ?_
        | refine Split.ct ?_
        | refine Split.cf ?_
        | refine Split.tt ?_
        | refine Split.ff ?_
        | refine Indep.go ?_
        | refine CallG.gp h1 ?_
        | refine CallG.gp h2 ?_
        | refine Split.go (fun hc => ?_) fun hc => ?_) <;> conv => whnf)
      exact ret_closed rfl rfl rfl
  · have e : conR T i b = (.nil, termE T) := by unfold conR; rw [if_pos e1]
    rw [e]
    repeat' ((first
      | refine then_go hm htt ?_
      | refine Side.go ?_
      | refine Hyp.go fun hlen => ?_
      | refine Split.ct ?_
      | refine Split.cf ?_
      | refine Split.tt ?_
      | refine Split.ff ?_
      | refine Indep.go ?_
      | refine CallG.gp h1 ?_
      | refine Split.go (fun hc => ?_) fun hc => ?_) <;> conv => whnf)
    exact ret_closed rfl rfl rfl
set_option maxHeartbeats 4000000 in
set_option maxRecDepth 10000 in
theorem rCon_ok (T : Tree) (i : Int) (b : Tree) : Pure P 81 [.d (.tree T), .d (.int .i64 i), .d (.tree b)] (.tuple [.d (.tree (rconR T i b).1), .d (.int .i64 (rconR T i b).2)]) := by
  have h1 := rtCheck_ok T
  have h2 := rcheck_ok b
  have h3 := rClosed_ok b
  unfold rconR
  refine Pure.of_body tt [] [6, 7] Tryz.func81 rfl rfl rfl (Nat.le_of_ble_eq_true rfl) fun g => ?_
  by_cases e1 : termE T = 0
  · rw [if_neg (by simp [e1])]
    rw [e1] at h1
    by_cases e2 : conE b = 0
    · rw [if_neg (by simp [e2])]
      rw [e2] at h2
      by_cases e3 : i < 0
      · rw [if_pos (.inl e3)]
        repeat' ((first
          | refine then_go hm htt ?_
          | refine Side.go ?_
          | refine Hyp.go fun hlen => ?_
          | refine Split.ct ?_
          | refine Split.cf ?_
          | refine Split.tt ?_
          | refine Split.ff ?_
          | refine Indep.go ?_
          | refine CallG.gp h1 ?_
          | refine CallG.gp h2 ?_
          | refine Split.go (fun hc => ?_) fun hc => ?_) <;> conv => whnf)
        exact ret_closed rfl rfl rfl
      · cases e4 : closedF b with
        | false =>
          rw [if_pos (.inr rfl)]
          rw [e4] at h3
          repeat' ((first
            | refine then_go hm htt ?_
            | refine Side.go ?_
            | refine Hyp.go fun hlen => ?_
            | refine Split.ct ?_
            | refine Split.cf ?_
            | refine Split.tt ?_
            | refine Split.ff ?_
            | refine Indep.go ?_
            | refine CallG.gp h1 ?_
            | refine CallG.gp h2 ?_
            | refine CallG.gp h3 ?_
            | refine Split.go (fun hc => ?_) fun hc => ?_) <;> conv => whnf)
          exact ret_closed rfl rfl rfl
        | true =>
          rw [if_neg (by simp; omega)]
          rw [e4] at h3
          obtain ⟨t1, t2, t3⟩ := termE_ok e1
          have h4 := rInC_ok i b (by omega) (conE_full e2).1 T 0 0 (.inr (.inl t1)) (by omega) (by omega)
          have hz := rC_size (show 0 ≤ i by omega) e2 (closed_con e2 e4) (.inr (.inl t1)) t2
          have h5 := rsized_ok (rC i b T 0) (by omega)
          repeat' ((first
            | refine then_go hm htt ?_
            | refine Side.go ?_
            | refine Hyp.go fun hlen => ?_
            | refine Split.ct ?_
            | refine Split.cf ?_
            | refine Split.tt ?_
            | refine Split.ff ?_
            | refine Indep.go ?_
            | refine CallG.gp h1 ?_
            | refine CallG.gp h2 ?_
            | refine CallG.gp h3 ?_
            | refine CallG.gp h4 ?_
            | refine CallG.gp h5 ?_
            | refine Split.go (fun hc => ?_) fun hc => ?_) <;> conv => whnf)
          exact ret_closed rfl rfl rfl
    · rw [if_pos e2]
      repeat' ((first
        | refine then_go hm htt ?_
        | refine Side.go ?_
        | refine Hyp.go fun hlen => ?_
        | refine Split.ct ?_
        | refine Split.cf ?_
        | refine Split.tt ?_
        | refine Split.ff ?_
        | refine Indep.go ?_
        | refine CallG.gp h1 ?_
        | refine CallG.gp h2 ?_
        | refine Split.go (fun hc => ?_) fun hc => ?_) <;> conv => whnf)
      exact ret_closed rfl rfl rfl
  · rw [if_pos e1]
    repeat' ((first
      | refine then_go hm htt ?_
      | refine Side.go ?_
      | refine Hyp.go fun hlen => ?_
      | refine Split.ct ?_
      | refine Split.cf ?_
      | refine Split.tt ?_
      | refine Split.ff ?_
      | refine Indep.go ?_
      | refine CallG.gp h1 ?_
      | refine Split.go (fun hc => ?_) fun hc => ?_) <;> conv => whnf)
    exact ret_closed rfl rfl rfl
def wConI : Tree := .node 111 0 ByteArray.empty ByteArray.empty []
theorem wConI_con : conE wConI = 0 := by kernel_rfl
theorem wConI_closed : closedF wConI = true := by kernel_rfl
def m100 (i : Int) : Int := Int.tmod (IntKind.i64.wrap (Int.tmod i 100 + 100)) 100
theorem m100_rng (i : Int) : 0 ≤ m100 i ∧ m100 i ≤ 65536 := by
  have h1 := Int.tmod_lt_of_pos i (show (0 : Int) < 100 by omega)
  have h2 := Int.lt_tmod_of_pos i (show (0 : Int) < 100 by omega)
  unfold m100
  rw [wrap64 (by omega) (by omega)]
  have h3 := Int.tmod_lt_of_pos (Int.tmod i 100 + 100) (show (0 : Int) < 100 by omega)
  have h4 := Int.tmod_nonneg (a := Int.tmod i 100 + 100) 100 (by omega)
  omega
end Sb
end Go.Proofs.YtoajaklekmbcdaaGreat
