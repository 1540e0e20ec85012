/- What functions of the program compute, and plain facts about it. -/
import Derived.Test.YtoajaklekmbcdaaGreatGJ
import Derived.Test.YtoajaklekmbcdaaGreatGB
import Derived.Test.YtoajaklekmbcdaaGreatGC
set_option linter.all false
namespace Go.Proofs.YtoajaklekmbcdaaGreat
namespace Sb
open Go Go.Mq Tm
set_option linter.all false

/-! The walk of subst: terms -/
set_option maxRecDepth 10000 in
theorem sbClosed_ok (T : Tree) : Pure P 18 [.d (.tree T)] (.d (.bool (closedF T))) := by
  have h1 := check_ok T
  have h2 := free_ok T
  have h3 := tCheck_ok T
  have h4 := tFree_ok T
  unfold closedF
  refine Pure.of_body tt [] [2] Tryz.func18 rfl rfl rfl (Nat.le_of_ble_eq_true rfl) fun g => ?_
  by_cases c1 : conE T = 0
  · rw [if_pos c1]
    rw [c1] at h1
    repeat' ((first
      | refine then_go hm htt ?_
      | refine Side.go ?_
      | refine Hyp.go fun hlen => ?_
      | refine Split.ct ?_
      | refine Split.cf ?_
      | refine Split.tt ?_
      | refine Split.ff ?_
      | refine Indep.go ?_
      | refine CallG.gp h1 ?_
      | refine CallG.gp h2 ?_
      | refine Split.go (fun hc => ?_) fun hc => ?_) <;> conv => whnf)
    all_goals refine ret_closed rfl (bool_eq ?_) rfl
    all_goals simp_all [int_dec]
  · rw [if_neg c1]
    by_cases c2 : termE T = 0
    · rw [decide_eq_true c2, Bool.true_and]
      rw [c2] at h3
      repeat' ((first
        | refine then_go hm htt ?_
        | refine Side.go ?_
        | refine Hyp.go fun hlen => ?_
        | refine Split.ct ?_
        | refine Split.cf ?_
        | refine Split.tt ?_
        | refine Split.ff ?_
        | refine Indep.go ?_
        | refine CallG.gp h1 ?_
        | refine CallG.gp h3 ?_
        | refine CallG.gp h4 ?_
        | refine Split.go (fun hc => ?_) fun hc => ?_) <;> conv => whnf)
      all_goals refine ret_closed rfl (bool_eq ?_) rfl
      all_goals simp_all [int_dec]
    · rw [decide_eq_false c2, Bool.false_and]
      repeat' ((first
        | refine then_go hm htt ?_
        | refine Side.go ?_
        | refine Hyp.go fun hlen => ?_
        | refine Split.ct ?_
        | refine Split.cf ?_
        | refine Split.tt ?_
        | refine Split.ff ?_
        | refine Indep.go ?_
        | refine CallG.gp h1 ?_
        | refine CallG.gp h3 ?_
        | refine Split.go (fun hc => ?_) fun hc => ?_) <;> conv => whnf)
      all_goals exact ret_closed rfl rfl rfl
theorem bnd_two {T : Tree} (h : isTermF T = true) (hk : T.kind = 134 ∨ T.kind = 139 ∨ T.kind = 142 ∨ T.kind = 143) : T.kids.length = 2 := by
  have hT : T ≠ .nil := by intro e; subst e; rw [isTermF] at h; cases h
  rw [isTermF_eq hT, Bool.and_eq_true] at h
  obtain ⟨_, h⟩ := h
  rcases hk with k | k | k | k <;> simp [k, -List.getD_eq_getElem?_getD] at h
  all_goals exact h.1.1
set_option maxHeartbeats 4000000 in
set_option maxRecDepth 10000 in
theorem sbBinds_ok (T : Tree) (hs : Shw T) (p : Nat) (hp : p < T.kids.length) : Pure P 123 [.d (.tree T), .d (.int .i64 p)] (.tuple [.d (.int .i64 (bndF T.kind p).1), .d (.int .i64 (bndF T.kind p).2)]) := by
  have hT := hs.ne
  have two : T.kind = 134 ∨ T.kind = 139 ∨ T.kind = 142 ∨ T.kind = 143 → p = 0 ∨ p = 1 := fun hk => by
    rcases hs with h | h | h | h
    · have := con_lt h; omega
    · have := bnd_two h hk; omega
    · obtain ⟨_, p2, _⟩ := tfield_parts h; omega
    · obtain ⟨_, p2, _⟩ := tfield_parts h; omega
  refine Pure.of_body tt [] [4, 5] Tryz.func123 rfl rfl rfl (Nat.le_of_ble_eq_true rfl) fun g => ?_
  by_cases k1 : T.kind = 149
  · have e : bndF T.kind p = (0, 1) := by unfold bndF; rw [if_pos k1]
    rw [e]
    repeat' ((first
      | refine then_go hm htt ?_
      | refine Side.go ?_
      | refine Hyp.go fun hlen => ?_
      | refine Split.ct ?_
      | refine Split.cf ?_
      | refine Split.tt ?_
      | refine Split.ff ?_
      | refine Indep.go ?_
      | refine Split.go (fun hc => ?_) fun hc => ?_) <;> conv => whnf)
    exact ret_closed rfl rfl rfl
  by_cases k2 : T.kind = 139
  · have e : bndF T.kind p = ((p : Int), 0) := by rw [k2]; rcases two (by omega) with q | q <;> rw [q] <;> rfl
    rw [e]
    repeat' ((first
      | refine then_go hm htt ?_
      | refine Side.go ?_
      | refine Hyp.go fun hlen => ?_
      | refine Split.ct ?_
      | refine Split.cf ?_
      | refine Split.tt ?_
      | refine Split.ff ?_
      | refine Indep.go ?_
      | refine Split.go (fun hc => ?_) fun hc => ?_) <;> conv => whnf)
    exact ret_closed rfl rfl rfl
  by_cases k3 : T.kind = 142
  · have e : bndF T.kind p = ((p : Int), (p : Int)) := by rw [k3]; rcases two (by omega) with q | q <;> rw [q] <;> rfl
    rw [e]
    repeat' ((first
      | refine then_go hm htt ?_
      | refine Side.go ?_
      | refine Hyp.go fun hlen => ?_
      | refine Split.ct ?_
      | refine Split.cf ?_
      | refine Split.tt ?_
      | refine Split.ff ?_
      | refine Indep.go ?_
      | refine Split.go (fun hc => ?_) fun hc => ?_) <;> conv => whnf)
    exact ret_closed rfl rfl rfl
  by_cases k4 : T.kind = 134 ∨ T.kind = 143
  · have e : bndF T.kind p = (0, (p : Int)) := by rcases k4 with k4 | k4 <;> rw [k4] <;> rcases two (by omega) with q | q <;> rw [q] <;> rfl
    rw [e]
    repeat' ((first
      | refine then_go hm htt ?_
      | refine Side.go ?_
      | refine Hyp.go fun hlen => ?_
      | refine Split.ct ?_
      | refine Split.cf ?_
      | refine Split.tt ?_
      | refine Split.ff ?_
      | refine Indep.go ?_
      | refine Split.go (fun hc => ?_) fun hc => ?_) <;> conv => whnf)
    all_goals exact ret_closed rfl rfl rfl
  · have e : bndF T.kind p = (0, 0) := by unfold bndF; rw [if_neg k1, if_neg k2, if_neg k3, if_neg k4]; split <;> rfl
    rw [e]
    repeat' ((first
      | refine then_go hm htt ?_
      | refine Side.go ?_
      | refine Hyp.go fun hlen => ?_
      | refine Split.ct ?_
      | refine Split.cf ?_
      | refine Split.tt ?_
      | refine Split.ff ?_
      | refine Indep.go ?_
      | refine Split.go (fun hc => ?_) fun hc => ?_) <;> conv => whnf)
    exact ret_closed rfl rfl rfl
theorem stays_ok (T : Tree) (c : Int) : Pure P 104 [.d (.tree T), .d (.int .i64 c)] (.d (.tree T)) := by
  refine Pure.of_body tt [] [4] Tryz.func104 rfl rfl rfl (Nat.le_of_ble_eq_true rfl) fun g => ?_
  repeat' ((first
    | refine then_go hm htt ?_
    | refine Side.go ?_
    | refine Hyp.go fun hlen => ?_
    | refine Split.ct ?_
    | refine Split.cf ?_
    | refine Split.tt ?_
    | refine Split.ff ?_
    | refine Indep.go ?_
    | refine Split.go (fun hc => ?_) fun hc => ?_) <;> conv => whnf)
  exact ret_closed rfl rfl rfl
set_option maxRecDepth 10000 in
theorem termV_ok (i : Int) (b T : Tree) (t : Int) (hT : T ≠ .nil) (hk : T.kind = 130) (hn : 0 ≤ T.n ∧ T.n ≤ 65536) (ht : 0 ≤ t ∧ t ≤ 1099511627776) :
    Fun P 103 [.d (.tree T), .d (.int .i64 t), .ref 0 0, .ref 1 0] [(0, .cells [.d (.int .i64 i)]), (1, .cells [.d (.tree b)])] 2 (.d (.tree (inT i b T t))) [(0, .cells [.d (.int .i64 i)]), (1, .cells [.d (.tree b)])] 2 := by
  have e := inT_eq hT i b t
  rw [if_pos hk] at e
  rw [e]
  have w1 : IntKind.i64.wrap (T.n - t) = T.n - t := wrap64 (by omega) (by omega)
  have w2 : IntKind.i64.wrap (T.n - 1) = T.n - 1 := wrap64 (by omega) (by omega)
  refine Fun.of_body tt [40] [6] Tryz.func103 rfl rfl rfl (Nat.le_of_ble_eq_true rfl) fun g => ?_
  by_cases c1 : T.n < t
  · rw [if_pos (.inl c1)]
    repeat' ((first
      | refine then_go hm htt ?_
      | refine Side.go ?_
      | refine Hyp.go fun hlen => ?_
      | refine Split.ct ?_
      | refine Split.cf ?_
      | refine Split.tt ?_
      | refine Split.ff ?_
      | refine Indep.go ?_
      | refine Split.go (fun hc => ?_) fun hc => ?_) <;> conv => whnf)
    exact ret_objs rfl rfl rfl (by repeat' first | exact trivial | apply And.intro | rfl | (refine int_eq ?_; rw [wrap64] <;> omega)) (Nat.le_refl _)
  · by_cases c2 : T.n - t < i
    · rw [if_pos (.inr c2)]
      have c2' : IntKind.i64.wrap (T.n - t) < i := by rw [w1]; exact c2
      repeat' ((first
        | refine then_go hm htt ?_
        | refine Side.go ?_
        | refine Hyp.go fun hlen => ?_
        | refine Split.ct ?_
        | refine Split.cf ?_
        | refine Split.tt ?_
        | refine Split.ff ?_
        | refine Indep.go ?_
        | refine Split.go (fun hc => ?_) fun hc => ?_) <;> conv => whnf)
      exact ret_objs rfl rfl rfl (by repeat' first | exact trivial | apply And.intro | rfl | (refine int_eq ?_; rw [wrap64] <;> omega)) (Nat.le_refl _)
    · have c2' : ¬ IntKind.i64.wrap (T.n - t) < i := by rw [w1]; exact c2
      rw [if_neg (by omega)]
      by_cases c3 : i < T.n - t
      · have c3' : i < IntKind.i64.wrap (T.n - t) := by rw [w1]; exact c3
        rw [if_pos c3, ← w2]
        repeat' ((first
          | refine then_go hm htt ?_
          | refine Side.go ?_
          | refine Hyp.go fun hlen => ?_
          | refine Split.ct ?_
          | refine Split.cf ?_
          | refine Split.tt ?_
          | refine Split.ff ?_
          | refine Indep.go ?_
          | refine Split.go (fun hc => ?_) fun hc => ?_) <;> conv => whnf)
        exact ret_objs rfl rfl rfl (by repeat' first | exact trivial | apply And.intro | rfl | (refine int_eq ?_; rw [wrap64] <;> omega)) (Nat.le_refl _)
      · have c3' : ¬ i < IntKind.i64.wrap (T.n - t) := by rw [w1]; exact c3
        rw [if_neg c3]
        repeat' ((first
          | refine then_go hm htt ?_
          | refine Side.go ?_
          | refine Hyp.go fun hlen => ?_
          | refine Split.ct ?_
          | refine Split.cf ?_
          | refine Split.tt ?_
          | refine Split.ff ?_
          | refine Indep.go ?_
          | refine Split.go (fun hc => ?_) fun hc => ?_) <;> conv => whnf)
        exact ret_objs rfl rfl rfl (by repeat' first | exact trivial | apply And.intro | rfl | (refine int_eq ?_; rw [wrap64] <;> omega)) (Nat.le_refl _)
set_option maxHeartbeats 4000000 in
set_option maxRecDepth 10000 in
theorem sbWalkT_ok (i : Int) (b T : Tree) : ∀ (c t : Int), Shw T → 0 ≤ t → t + sizeN T ≤ 1099511627776 →
    Fun P 102 [.d (.tree T), .d (.int .i64 c), .d (.int .i64 t), .fn 103 [.ref 0 0, .ref 1 0], .fn 104 []] [(0, .cells [.d (.int .i64 i)]), (1, .cells [.d (.tree b)])] 2 (.d (.tree (inT i b T t))) [(0, .cells [.d (.int .i64 i)]), (1, .cells [.d (.tree b)])] 2 := by
  induction T using Tree.ind' with
  | h0 => intro c t h; exact absurd rfl h.ne
  | h1 T hT ih => ?_
  intro c t hs ht0 ht1
  have hsz := sizeN_kids hT
  have hse := inT_eq hT i b t
  by_cases k1 : T.kind = 130
  · have hn : 0 ≤ T.n ∧ T.n ≤ 65536 := by
      rcases shw_kids hs with h | ⟨_, h, _⟩
      · omega
      · exact h k1
    have hv := termV_ok i b T t hT k1 hn ⟨ht0, by omega⟩
    refine Fun.of_body tt [83] [10] Tryz.func102 rfl rfl rfl (Nat.le_of_ble_eq_true rfl) fun g => ?_
    repeat' ((first
      | refine then_go hm htt ?_
      | refine Side.go ?_
      | refine Hyp.go fun hlen => ?_
      | refine Split.ct ?_
      | refine Split.cf ?_
      | refine Split.tt ?_
      | refine Split.ff ?_
      | refine Indep.go ?_
      | refine CallG.go hv [0, 1] ?_
      | refine Split.go (fun hc => ?_) fun hc => ?_) <;> conv => whnf)
    exact ret_objs rfl rfl rfl (by repeat' first | exact trivial | apply And.intro | rfl | (refine int_eq ?_; rw [wrap64] <;> omega)) (Nat.le_refl _)
  rw [if_neg k1] at hse
  by_cases k2 : T.kind < 130
  · rw [if_pos k2] at hse
    rw [hse]
    refine Fun.of_body tt [83] [10] Tryz.func102 rfl rfl rfl (Nat.le_of_ble_eq_true rfl) fun g => ?_
    repeat' ((first
      | refine then_go hm htt ?_
      | refine Side.go ?_
      | refine Hyp.go fun hlen => ?_
      | refine Split.ct ?_
      | refine Split.cf ?_
      | refine Split.tt ?_
      | refine Split.ff ?_
      | refine Indep.go ?_
      | refine CallG.gp (stays_ok T c) ?_
      | refine Split.go (fun hc => ?_) fun hc => ?_) <;> conv => whnf)
    all_goals exact ret_objs rfl rfl rfl (by repeat' first | exact trivial | apply And.intro | rfl | (refine int_eq ?_; rw [wrap64] <;> omega)) (Nat.le_refl _)
  rw [if_neg k2] at hse
  rw [hse]
  have hkids : ∀ x ∈ T.kids, Shw x := by
    rcases shw_kids hs with h | ⟨_, _, h⟩
    · exact absurd h k2
    · exact h
  by_cases k3 : T.kids.length = 0
  · have e : (Tree.node T.kind T.n T.name T.mark (insT i b T.kind 0 T.kids t)) = T := by
      rw [List.length_eq_zero_iff.1 k3, insT]
      cases T with
      | nil => exact absurd rfl hT
      | node k n nm mk l =>
        have : l = [] := List.length_eq_zero_iff.1 k3
        subst this; rfl
    rw [e]
    refine Fun.of_body tt [83] [10] Tryz.func102 rfl rfl rfl (Nat.le_of_ble_eq_true rfl) fun g => ?_
    repeat' ((first
      | refine then_go hm htt ?_
      | refine Side.go ?_
      | refine Hyp.go fun hlen => ?_
      | refine Split.ct ?_
      | refine Split.cf ?_
      | refine Split.tt ?_
      | refine Split.ff ?_
      | refine Indep.go ?_
      | refine Split.go (fun hc => ?_) fun hc => ?_) <;> conv => whnf)
    exact ret_objs rfl rfl rfl (by repeat' first | exact trivial | apply And.intro | rfl | (refine int_eq ?_; rw [wrap64] <;> omega)) (Nat.le_refl _)
  refine Fun.of_body tt [83] [10] Tryz.func102 rfl rfl rfl (Nat.le_of_ble_eq_true rfl) fun g => ?_
  repeat' ((first
    | refine then_go hm htt ?_
    | refine Side.go ?_
    | refine Hyp.go fun hlen => ?_
    | refine Split.ct ?_
    | refine Split.cf ?_
    | refine Split.tt ?_
    | refine Split.ff ?_
    | refine Indep.go ?_
    | refine Split.go (fun hc => ?_) fun hc => ?_) <;> conv => whnf)
  refine loop_go (α := Nat × List Tree) (fun p => ⟨[(0, .d (.tree T)), (1, .d (.int .i64 c)), (2, .d (.int .i64 t)), (3, .fn 103 [.ref 0 0, .ref 1 0]), (4, .fn 104 []), (11, .ref 2 0), (58, .d (.trees T.kids)), (59, .d (.int .i64 T.kids.length)), (60, .d (.int .i64 p.1))], 87, [(0, .cells [.d (.int .i64 i)]), (1, .cells [.d (.tree b)]), (2, .cells [.d (.int .i64 T.kind), .d (.int .i64 T.n), .d (.str T.name), .d (.str T.mark), .row 3 p.1]), (3, .row 25 (.trees p.2))], 4, g⟩)
        (fun p => p.1 ≤ T.kids.length ∧ p.2.length = p.1 ∧ insT i b T.kind 0 T.kids t = p.2 ++ insT i b T.kind p.1 (T.kids.drop p.1) t) (fun p => T.kids.length - p.1) (0, []) ⟨by simp, rfl, rfl⟩
        (Ent.nil rfl rfl rfl (by repeat' first | exact trivial | apply And.intro | rfl | (refine int_eq ?_; rw [wrap64] <;> omega)) (by repeat' first | exact trivial | apply And.intro | rfl | (refine int_eq ?_; rw [wrap64] <;> omega))) (fun _ => rfl) fun p hpre => ?_
  obtain ⟨p, out⟩ := p
  obtain ⟨hp1, hp2, hp3⟩ := hpre
  simp only [] at hp1 hp2 hp3
  by_cases hlt : p < T.kids.length
  · have hmx := getD_mem hlt
    have s1 := sizesN_mem hmx
    have hbl := bnd_le T.kind p
    have hbi := sbBinds_ok T hs p hlt
    rw [drop_step hlt, insT] at hp3
    have hrec := ih _ hmx (IntKind.i64.wrap (c + (bndF T.kind p).1)) (t + (bndF T.kind p).2) (hkids _ hmx) (by omega) (by omega)
    have w2 : IntKind.i64.wrap (t + (bndF T.kind p).2) = t + (bndF T.kind p).2 := wrap64 (by omega) (by omega)
    generalize inT i b (T.kids.getD p .nil) (t + (bndF T.kind p).2) = Y at *
    generalize bndF T.kind p = bb at *
    rw [← w2] at hrec
    repeat' ((first
      | refine then_go hm htt ?_
      | refine Side.go ?_
      | refine Hyp.go fun hlen => ?_
      | refine Split.ct ?_
      | refine Split.cf ?_
      | refine Split.tt ?_
      | refine Split.ff ?_
      | refine Indep.go ?_
      | refine Side.mk (show (p + 1 ≤ 17592186044416 ∧ (p + 1) * 8 ≤ 140737488355328) from ⟨by omega, by omega⟩) ?_
      | refine CallG.gp hbi ?_
      | refine CallG.go hrec [0, 1] ?_
      | refine Split.go (fun hc => ?_) fun hc => ?_) <;> conv => whnf)
    exact ⟨(p + 1, out ++ [Y]), ⟨by simp only []; omega, by simp [hp2], by rw [hp3]; simp⟩, by simp only []; omega, Ent.go [0, 1, 2, 4]⟩
  · rw [drop_end (by omega), insT, List.append_nil] at hp3
    rw [hp3]
    repeat' ((first
      | refine then_go hm htt ?_
      | refine Side.go ?_
      | refine Hyp.go fun hlen => ?_
      | refine Split.ct ?_
      | refine Split.cf ?_
      | refine Split.tt ?_
      | refine Split.ff ?_
      | refine Indep.go ?_
      | refine Split.go (fun hc => ?_) fun hc => ?_) <;> conv => whnf)
    refine RetS.ent (Ent.fz_row 3 (l := out) rfl (by repeat' first | exact trivial | apply And.intro | rfl | exact hp2.symm | exact Nat.zero_lt_one | omega) (by repeat' first | exact trivial | apply And.intro | rfl | exact hp2.symm | exact Nat.zero_lt_one | omega)) ?_
    refine RetS.ent (Ent.fz_node 2 rfl rfl (by repeat' first | exact trivial | apply And.intro | rfl | exact hp2.symm | exact Nat.zero_lt_one | omega) (by repeat' first | exact trivial | apply And.intro | rfl | exact hp2.symm | exact Nat.zero_lt_one | omega)) ?_
    refine RetS.ent (σ' := ⟨[(10, .d (.tree (.node T.kind T.n T.name T.mark out)))], 87, [(0, .cells [.d (.int .i64 i)]), (1, .cells [.d (.tree b)])], 2, g⟩) (Ent.go [0, 1]) ?_
    exact ret_objs rfl rfl rfl (by repeat' first | exact trivial | apply And.intro | rfl | (refine int_eq ?_; rw [wrap64] <;> omega)) (Nat.le_refl _)
end Sb
end Go.Proofs.YtoajaklekmbcdaaGreat

/- More types of the program. -/
namespace Go.Proofs.YtoajaklekmbcdaaGreat
namespace Sb
open Go Go.Mq
def ti123 : TI := ⟨(.func #[25] #[] false), 1, 8, .nilFunc, [], false, 0, 0⟩
theorem tok123 : TIok P 123 ti123 where
  und := by kernel_rfl
  info := ⟨(P.info? 123).getD default, by kernel_rfl, by kernel_rfl, by kernel_rfl, by kernel_rfl⟩
  agg := rfl
  offm := fun fs h => by cases h
  offp := rfl
  offn := rfl
  elem := fun e h => by cases h
  arr := fun n e h => by cases h
def tt : List (Nat × TI) := (123, ti123) :: Go.Proofs.YtoajaklekmbcdaaGreat.tt
theorem htt : TTok P tt := .cons tok123 (Go.Proofs.YtoajaklekmbcdaaGreat.htt)
end Sb
end Go.Proofs.YtoajaklekmbcdaaGreat

namespace Go.Proofs.YtoajaklekmbcdaaGreat
namespace Sb
open Go Go.Mq Tm
set_option linter.all false

theorem cnts_eq {l : List Tree} (h : ∀ x ∈ l, Full x) : ∀ q : Int, -1 ≤ q → -1 ≤ cntsF l q ∧ cntsF l q ≤ q := by
  induction l with
  | nil => intro q hq; rw [cntsF]; omega
  | cons x l ihl =>
    intro q hq
    rw [cntsF]
    have ih := ihl fun y hy => h y (by simp [hy])
    by_cases h0 : 0 ≤ q
    · rw [if_pos h0, cnt_eq x (h x (by simp)) q h0]
      split
      · have := ih (q - sizeN x) (by omega); omega
      · have := ih (-1) (by omega); omega
    · rw [if_neg h0]; exact ih q hq
set_option maxHeartbeats 4000000 in
set_option maxRecDepth 10000 in
theorem count_ok (T : Tree) : Full T → ∀ r : Int, 0 ≤ r → r ≤ 65536 → Fun P 122 [.d (.tree T), .ref 0 0, .ref 1 0] [(0, .cells [.d (.int .i64 r)]), (1, .cells [.fn 122 [.ref 0 0, .ref 1 0]])] 2 (.tuple []) [(0, .cells [.d (.int .i64 (cntF T r))]), (1, .cells [.fn 122 [.ref 0 0, .ref 1 0]])] 2 := by
  induction T using Tree.ind' with
  | h0 => intro h; exact absurd rfl h.ne
  | h1 T hT ih => ?_
  intro hF r hr0 hr1
  have w : IntKind.i64.wrap (r - 1) = r - 1 := wrap64 (by omega) (by omega)
  rw [cntF_kids hT]
  refine Fun.of_body tt [] [] Tryz.func122 rfl rfl rfl (Nat.le_of_ble_eq_true rfl) fun g => ?_
  repeat' ((first
    | refine then_go hm htt ?_
    | refine Side.go ?_
    | refine Hyp.go fun hlen => ?_
    | refine Split.ct ?_
    | refine Split.cf ?_
    | refine Split.tt ?_
    | refine Split.ff ?_
    | refine Indep.go ?_
    | refine Split.go (fun hc => ?_) fun hc => ?_) <;> conv => whnf)
  refine loop_go (α := Nat × Int) (fun p => ⟨[(1, .ref 0 0), (2, .ref 1 0), (11, .d (.trees T.kids)), (12, .d (.int .i64 T.kids.length)), (13, .d (.int .i64 p.1))], 23, [(0, .cells [.d (.int .i64 p.2)]), (1, .cells [.fn 122 [.ref 0 0, .ref 1 0]])], 2, g⟩)
      (fun p => p.1 ≤ T.kids.length ∧ -1 ≤ p.2 ∧ p.2 ≤ 65536 ∧ cntsF (T.kids.drop p.1) p.2 = cntsF T.kids (r - 1)) (fun p => T.kids.length - p.1) (0, r - 1) ⟨by simp, by simp only []; omega, by simp only []; omega, rfl⟩
      (Ent.re [0, 1] rfl rfl rfl rfl rfl rfl (by repeat' first | exact trivial | apply And.intro | rfl | (refine int_eq ?_; rw [wrap64] <;> omega)) (by repeat' first | exact trivial | apply And.intro | rfl | exact cellI w)) (fun _ => rfl) fun p hpre => ?_
  obtain ⟨p, q⟩ := p
  obtain ⟨hp1, hp2, hp3, hp4⟩ := hpre
  simp only [] at hp1 hp2 hp3 hp4
  by_cases hlt : p < T.kids.length
  · have hmx := getD_mem hlt
    have hFx := hF.kids _ hmx
    rw [drop_step hlt, cntsF] at hp4
    by_cases hq : 0 ≤ q
    · rw [if_pos hq] at hp4
      have hrec := ih _ hmx hFx q hq hp3
      have hce := cnt_eq _ hFx q hq
      generalize cntF (T.kids.getD p .nil) q = Y at *
      have hY : -1 ≤ Y ∧ Y ≤ 65536 := by rw [hce]; split <;> omega
      repeat' ((first
        | refine then_go hm htt ?_
        | refine Side.go ?_
        | refine Hyp.go fun hlen => ?_
        | refine Split.ct ?_
        | refine Split.cf ?_
        | refine Split.tt ?_
        | refine Split.ff ?_
        | refine Indep.go ?_
        | refine CallG.go hrec [0, 1] ?_
        | refine Split.go (fun hc => ?_) fun hc => ?_) <;> conv => whnf)
      exact ⟨(p + 1, Y), ⟨by simp only []; omega, hY.1, hY.2, hp4⟩, by simp only []; omega, Ent.go [0, 1]⟩
    · rw [if_neg hq] at hp4
      repeat' ((first
        | refine then_go hm htt ?_
        | refine Side.go ?_
        | refine Hyp.go fun hlen => ?_
        | refine Split.ct ?_
        | refine Split.cf ?_
        | refine Split.tt ?_
        | refine Split.ff ?_
        | refine Indep.go ?_
        | refine Split.go (fun hc => ?_) fun hc => ?_) <;> conv => whnf)
      exact ⟨(p + 1, q), ⟨by simp only []; omega, hp2, hp3, hp4⟩, by simp only []; omega, Ent.go [0, 1]⟩
  · rw [drop_end (by omega), cntsF] at hp4
    rw [← hp4]
    repeat' ((first
      | refine then_go hm htt ?_
      | refine Side.go ?_
      | refine Hyp.go fun hlen => ?_
      | refine Split.ct ?_
      | refine Split.cf ?_
      | refine Split.tt ?_
      | refine Split.ff ?_
      | refine Indep.go ?_
      | refine Split.go (fun hc => ?_) fun hc => ?_) <;> conv => whnf)
    exact ret_objs rfl rfl rfl (by repeat' first | exact trivial | apply And.intro | rfl | (refine int_eq ?_; rw [wrap64] <;> omega)) (Nat.le_refl _)
set_option maxRecDepth 10000 in
theorem sbSized_ok (T : Tree) (hF : Full T) : Pure P 101 [.d (.tree T)] (.tuple [.d (.tree (sizedR T).1), .d (.int .i64 (sizedR T).2)]) := by
  have hc := count_ok T hF 65536 (by omega) (by omega)
  have hce := cnt_eq T hF 65536 (by omega)
  refine Pure.of_body tt [] [2, 3] Tryz.func101 rfl rfl rfl (Nat.le_of_ble_eq_true rfl) fun g => ?_
  unfold sizedR
  by_cases h : 65536 < sizeN T
  · rw [if_pos h]
    rw [if_neg (by omega)] at hce
    rw [hce] at hc
    repeat' ((first
      | refine then_go hm htt ?_
      | refine Side.go ?_
      | refine Hyp.go fun hlen => ?_
      | refine Split.ct ?_
      | refine Split.cf ?_
      | refine Split.tt ?_
      | refine Split.ff ?_
      | refine Indep.go ?_
      | refine CallG.go hc [0, 1] ?_
      | refine Split.go (fun hc => ?_) fun hc => ?_) <;> conv => whnf)
    exact ret_closed rfl rfl rfl
  · rw [if_neg h]
    have hnn : ¬ cntF T 65536 < 0 := by rw [hce, if_pos (by omega)]; omega
    generalize cntF T 65536 = Y at *
    repeat' ((first
      | refine then_go hm htt ?_
      | refine Side.go ?_
      | refine Hyp.go fun hlen => ?_
      | refine Split.ct ?_
      | refine Split.cf ?_
      | refine Split.tt ?_
      | refine Split.ff ?_
      | refine Indep.go ?_
      | refine CallG.go hc [0, 1] ?_
      | refine Split.go (fun hc => ?_) fun hc => ?_) <;> conv => whnf)
    exact ret_closed rfl rfl rfl
set_option maxRecDepth 10000 in
theorem sbTerm_ok (T : Tree) (i : Int) (b : Tree) : Pure P 69 [.d (.tree T), .d (.int .i64 i), .d (.tree b)] (.tuple [.d (.tree (termR T i b).1), .d (.int .i64 (termR T i b).2)]) := by
  have h1 := tCheck_ok T
  have h2 := tCheck_ok b
  have h3 := sbClosed_ok b
  unfold termR
  refine Pure.of_body tt [] [6, 7] Tryz.func69 rfl rfl rfl (Nat.le_of_ble_eq_true rfl) fun g => ?_
  by_cases e1 : termE T = 0
  · rw [if_neg (by simp [e1])]
    rw [e1] at h1
    by_cases e2 : termE b = 0
    · rw [if_neg (by simp [e2])]
      rw [e2] at h2
      by_cases e3 : i < 0
      · rw [if_pos (.inl e3)]
        repeat' ((first
          | refine then_go hm htt ?_
          | refine Side.go ?_
          | refine Hyp.go fun hlen => ?_
          | refine Split.ct ?_
          | refine Split.cf ?_
          | refine Split.tt ?_
          | refine Split.ff ?_
          | refine Indep.go ?_
          | refine CallG.gp h1 ?_
          | refine CallG.gp h2 ?_
          | refine Split.go (fun hc => ?_) fun hc => ?_) <;> conv => whnf)
        exact ret_closed rfl rfl rfl
      · cases e4 : closedF b with
        | false =>
          rw [if_pos (.inr rfl)]
          rw [e4] at h3
          repeat' ((first
            | refine then_go hm htt ?_
            | refine Side.go ?_
            | refine Hyp.go fun hlen => ?_
            | refine Split.ct ?_
            | refine Split.cf ?_
            | refine Split.tt ?_
            | refine Split.ff ?_
            | refine Indep.go ?_
            | refine CallG.gp h1 ?_
            | refine CallG.gp h2 ?_
            | refine CallG.gp h3 ?_
            | refine Split.go (fun hc => ?_) fun hc => ?_) <;> conv => whnf)
          exact ret_closed rfl rfl rfl
        | true =>
          rw [if_neg (by simp; omega)]
          rw [e4] at h3
          obtain ⟨t1, t2, t3⟩ := termE_ok e1
          have h4 := sbWalkT_ok i b T 0 0 (.inr (.inl t1)) (by omega) (by omega)
          have h5 := sbSized_ok (inT i b T 0) (term_full ((in_term i b (by omega) (termE_ok e2).1 T 0 (by omega) (.inr (.inl t1))).term t1))
          repeat' ((first
            | refine then_go hm htt ?_
            | refine Side.go ?_
            | refine Hyp.go fun hlen => ?_
            | refine Split.ct ?_
            | refine Split.cf ?_
            | refine Split.tt ?_
            | refine Split.ff ?_
            | refine Indep.go ?_
            | refine CallG.gp h1 ?_
            | refine CallG.gp h2 ?_
            | refine CallG.gp h3 ?_
            | refine CallG.go h4 [0, 1] ?_
            | refine CallG.gp h5 ?_
            | refine Split.go (fun hc => ?_) fun hc => ?_) <;> conv => whnf)
          exact ret_closed rfl rfl rfl
    · rw [if_pos e2]
      repeat' ((first
        | refine then_go hm htt ?_
        | refine Side.go ?_
        | refine Hyp.go fun hlen => ?_
        | refine Split.ct ?_
        | refine Split.cf ?_
        | refine Split.tt ?_
        | refine Split.ff ?_
        | refine Indep.go ?_
        | refine CallG.gp h1 ?_
        | refine CallG.gp h2 ?_
        | refine Split.go (fun hc => ?_) fun hc => ?_) <;> conv => whnf)
      exact ret_closed rfl rfl rfl
  · rw [if_pos e1]
    repeat' ((first
      | refine then_go hm htt ?_
      | refine Side.go ?_
      | refine Hyp.go fun hlen => ?_
      | refine Split.ct ?_
      | refine Split.cf ?_
      | refine Split.tt ?_
      | refine Split.ff ?_
      | refine Indep.go ?_
      | refine CallG.gp h1 ?_
      | refine Split.go (fun hc => ?_) fun hc => ?_) <;> conv => whnf)
    exact ret_closed rfl rfl rfl
def w15a : Tree := .node 134 0 ByteArray.empty ByteArray.empty [wI, .node 130 1 ByteArray.empty ByteArray.empty []]
def w15b : Tree := .node 131 7 ByteArray.empty ByteArray.empty []
def w15c : Tree := .node 134 0 ByteArray.empty ByteArray.empty [wI, w15b]
def w15s : ByteArray := ⟨#[91, 32, 108, 97, 109, 32, 105, 110, 116, 32, 55, 32, 93]⟩
theorem w15_term : termR w15a 0 w15b = (w15c, 0) := by kernel_rfl
theorem w15_show : tshowR w15c = w15s := by kernel_rfl
theorem term_val {T m b : Tree} {i e : Int} (h : termR T i b = (m, e)) : Pure P 69 [.d (.tree T), .d (.int .i64 i), .d (.tree b)] (.tuple [.d (.tree m), .d (.int .i64 e)]) := by
  have := sbTerm_ok T i b
  rw [h] at this
  exact this
end Sb
end Go.Proofs.YtoajaklekmbcdaaGreat

namespace Go.Proofs.YtoajaklekmbcdaaGreat
namespace Sb
open Go Go.Mq Tm
set_option linter.all false

/-! The document's own: closed, sized -/
set_option maxRecDepth 10000 in
theorem rClosed_ok (T : Tree) : Pure P 22 [.d (.tree T)] (.d (.bool (closedF T))) := by
  have h1 := rcheck_ok T
  have h2 := rFree_ok T
  rw [← freeR_eq] at h2
  have h3 := rtCheck_ok T
  have h4 := rtFree_ok T
  unfold closedF
  refine Pure.of_body tt [] [2] Tryz.func22 rfl rfl rfl (Nat.le_of_ble_eq_true rfl) fun g => ?_
  by_cases c1 : conE T = 0
  · rw [if_pos c1]
    rw [c1] at h1
    repeat' ((first
      | refine then_go hm htt ?_
      | refine Side.go ?_
      | refine Hyp.go fun hlen => ?_
      | refine Split.ct ?_
      | refine Split.cf ?_
      | refine Split.tt ?_
      | refine Split.ff ?_
      | refine Indep.go ?_
      | refine CallG.gp h1 ?_
      | refine CallG.gp h2 ?_
      | refine Split.go (fun hc => ?_) fun hc => ?_) <;> conv => whnf)
    all_goals refine ret_closed rfl (bool_eq ?_) rfl
    all_goals simp_all [int_dec]
  · rw [if_neg c1]
    repeat' ((first
      | refine then_go hm htt ?_
      | refine Side.go ?_
      | refine Hyp.go fun hlen => ?_
      | refine Split.ct ?_
      | refine Split.cf ?_
      | refine Split.tt ?_
      | refine Split.ff ?_
      | refine Indep.go ?_
      | refine CallG.gp h1 ?_
      | refine CallG.gp h3 ?_
      | refine CallG.gp h4 ?_
      | refine Split.go (fun hc => ?_) fun hc => ?_) <;> conv => whnf)
    all_goals refine ret_closed rfl (bool_eq ?_) rfl
    all_goals simp_all [int_dec]
end Sb
end Go.Proofs.YtoajaklekmbcdaaGreat
