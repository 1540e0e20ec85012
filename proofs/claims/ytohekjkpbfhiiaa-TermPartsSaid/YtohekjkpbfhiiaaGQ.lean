/- What functions of the program compute, and plain facts about it. -/
import Derived.Test.YtohekjkpbfhiiaaGE
import Derived.Test.YtohekjkpbfhiiaaGG
import Derived.Test.YtohekjkpbfhiiaaGC
set_option linter.all false
namespace Go.Proofs.Ytohekjkpbfhiiaa
namespace Pa
open Go Go.Mq
set_option linter.all false

/-! Whatever fits the one datum fits the other -/
theorem _root_.Go.Mq.Fun.arg2 {P : Program} {f : FuncId} {a : AVal} {x y : Mq.Data} {r : List AVal} {L L' : List (Nat × AObj)} {k N' : Nat} {res : AVal} (h : Fun P f (a :: .d y :: r) L k res L' N') (hxy : ∀ I v, Cd I x v → Cd I y v) : Fun P f (a :: .d x :: r) L k res L' N' := by
  refine ⟨h.1, fun g E I ρ w vs hr ha => h.2 g E I ρ w vs hr ?_⟩
  obtain ⟨vs⟩ := vs
  match vs, ha with
  | [], ha => exact ha.elim
  | [_], ha => exact ha.2.elim
  | u :: v :: vs, ha => exact ⟨ha.1, .d (hxy _ _ ha.2.1.data), ha.2.2⟩
theorem _root_.Go.Mq.Cd.slice_map {I : Imm} {n sz : Nat} {f g : Nat → Nat → Mq.Data} (h : ∀ i j, i < n → j < sz → f i j = g i j) {v : Value} (e : Cd I (.slice n sz f) v) : Cd I (.slice n sz g) v := by
  cases e with
  | slice hl hm hc ht => exact .slice hl hm hc fun i j hi hj => by rw [← h i j hi hj]; exact ht i j hi hj
  | slice0 => exact .slice0
  | sliceE => exact .sliceE
def pD (l : List Int) : Mq.Data := if l = [] then .nils else No.intsD l
theorem pD_nil : pD [] = .nils := if_pos rfl
theorem pD_some {l : List Int} (h : l ≠ []) : pD l = No.intsD l := if_neg h
set_option maxHeartbeats 4000000 in
set_option maxRecDepth 10000 in
theorem clone_ok (l : List Int) (hl : l.length ≤ 1099511627776) : Pure P 17 [.d (pD l)] (.d (pD l)) := by
  refine Pure.of_body tt [] [2] (Try.func17) rfl rfl rfl (Nat.le_of_ble_eq_true rfl) fun g => ?_
  by_cases h : l = []
  · subst h
    rw [pD_nil]
    repeat' ((first
      | refine then_go hm htt ?_
      | refine Side.go ?_
      | refine Hyp.go fun hlen => ?_
      | refine Split.ct ?_
      | refine Split.cf ?_
      | refine Split.tt ?_
      | refine Split.ff ?_
      | refine Indep.go ?_
      | refine Split.go (fun hc => ?_) fun hc => ?_) <;> conv => whnf)
    all_goals first
      | exact ret_closed rfl rfl rfl
      | skip
  · rw [pD_some h]
    have h0 : 0 < l.length := List.length_pos_iff.2 h
    unfold No.intsD
    repeat' ((first
      | refine then_go hm htt ?_
      | refine Side.go ?_
      | refine Hyp.go fun hlen => ?_
      | refine Split.ct ?_
      | refine Split.cf ?_
      | refine Split.tt ?_
      | refine Split.ff ?_
      | refine Indep.go ?_
      | refine Side.mk (show 0 + l.length ≤ maxN ∧ (0 + l.length) * 8 ≤ 140737488355328 from ⟨by unfold maxN; omega, by omega⟩) ?_
      | refine Side.mk (fun _ _ => rfl) ?_
      | refine Split.go (fun hc => ?_) fun hc => ?_) <;> conv => whnf)
    refine RetS.ent (σ' := ⟨[(2, .row 0 l.length)], 8, [(0, .row 3 (.gen l.length 1 fun i => .d (.int .i64 (l.getD (i / 1) 0))))], 1, g⟩) (Ent.re [1] rfl rfl rfl rfl rfl rfl ⟨?_, trivial⟩ ⟨⟨rfl, ?_⟩, trivial⟩) ?_
    · refine ⟨?_, rfl⟩
      show AVal.row 1 (0 + l.length) = .row 1 l.length
      rw [Nat.zero_add]
    · exact ⟨rfl, fun _ => rfl⟩
    refine RetS.ent (Ent.fz_slice 0 (n := l.length) (sz := 1) (f := fun i _ => .int .i64 (l.getD i 0)) rfl rfl rfl ?_ (by repeat' first | exact trivial | apply And.intro | rfl | exact hp2.symm | exact Nat.zero_lt_one | omega) (by repeat' first | exact trivial | apply And.intro | rfl | exact hp2.symm | exact Nat.zero_lt_one | omega)) ?_
    · intro i j hi hj
      obtain rfl : j = 0 := by omega
      show AVal.d (.int .i64 (l.getD ((i * 1 + 0) / 1) 0)) = _
      rw [show (i * 1 + 0) / 1 = i by omega]
    exact ret_closed rfl rfl rfl
end Pa
end Go.Proofs.Ytohekjkpbfhiiaa

namespace Go.Proofs.Ytohekjkpbfhiiaa
namespace Pa
open Go Go.Mq
set_option linter.all false

/-! The paths of a tree, the root's first -/
mutual
def pathsF : Tree → List Int → List (List Int)
  | .nil, _ => []
  | .node _ _ _ _ l, w => w :: pathssF l 0 w
def pathssF : List Tree → Nat → List Int → List (List Int)
  | [], _, _ => []
  | x :: l, i, w => pathsF x (w ++ [(i : Int)]) ++ pathssF l (i + 1) w
end
theorem pathsF_eq {T : Tree} (h : T ≠ .nil) (w : List Int) : pathsF T w = w :: pathssF T.kids 0 w := by
  cases T with
  | nil => exact absurd rfl h
  | node => rw [pathsF]; rfl
theorem paths_len (T : Tree) : ∀ w, (pathsF T w).length = sizeN T := by
  induction T using Tree.ind' with
  | h0 => intro w; rw [pathsF, sizeN]; rfl
  | h1 T hT ih =>
    intro w
    have key : ∀ (l : List Tree) (i : Nat), (∀ x ∈ l, x ∈ T.kids) → (pathssF l i w).length = sizesN l := by
      intro l
      induction l with
      | nil => intro i _; rw [pathssF, sizesN]; rfl
      | cons x l ih2 =>
        intro i hx
        rw [pathssF, sizesN, List.length_append, ih2 (i + 1) fun y hy => hx y (by simp [hy]), ih x (hx x (by simp))]
    rw [pathsF_eq hT, sizeN_kids hT, List.length_cons, key _ _ fun _ h => h]
    omega
def pathRow (ps : List (List Int)) : RowC := .gen ps.length 1 (fun i => .d (pD (ps.getD i [])))
theorem pD_snoc {w : List Int} {i : Int} {n : Nat} {f g : Nat → Nat → Mq.Data} (hn : w.length = n) (hf : ∀ a, a < n → f a 0 = .int .i64 (w.getD a 0)) (hg : g 0 0 = .int .i64 i) {I : Imm} {v : Value} (h : Cd I (.slice (n + 1) 1 fun a j => if a < n then f a j else g (a - n) j) v) : Cd I (pD (w ++ [i])) v := by
  rw [pD_some (by simp)]
  unfold No.intsD
  have e : (w ++ [i]).length = n + 1 := by simp [hn]
  rw [e]
  refine h.slice_map fun a j ha hj => ?_
  obtain rfl : j = 0 := by omega
  by_cases h1 : a < n
  · rw [if_pos h1, hf a h1]
    congr 1
    simp [List.getElem?_append_left (show a < w.length by omega)]
  · obtain rfl : a = n := by omega
    subst hn
    rw [if_neg h1, Nat.sub_self, hg]
    simp
def appR (ps : List (List Int)) (f : Nat → AVal) : RowC := match ps with
  | [] => .gen 1 1 f
  | x :: xs => .gen ((x :: xs).length + 1) 1 fun i => if i < (x :: xs).length * 1 then .d (pD ((x :: xs).getD i [])) else f (i - (x :: xs).length * 1)
theorem pathRow_app (ps : List (List Int)) {e : Nat} (f : Nat → AVal) (he : e = 1) : (pathRow ps).app (.gen 1 e f) = some (appR ps f) := by
  subst he
  cases ps <;> rfl
theorem pathRow_snoc (ps : List (List Int)) (w : List Int) (f : Nat → AVal) (hf : f 0 = .d (pD w)) (r : RowC) (h : (pathRow ps).app (.gen 1 1 f) = some r) : (pathRow (ps ++ [w])).len = r.len ∧ (pathRow (ps ++ [w])).sz = r.sz ∧ ∀ i, i < r.len * r.sz → (pathRow (ps ++ [w])).cell i = r.cell i := by
  obtain ⟨h1, h2, h3, h4, h5⟩ := RowC.app_ok h
  have e1 : r.len = ps.length + 1 := h1
  have e2 : r.sz = 1 := h2
  refine ⟨by rw [e1]; simp [pathRow, RowC.len], e2.symm, fun i hi => ?_⟩
  rw [e1, e2] at hi
  have hi : i < ps.length + 1 := by omega
  show AVal.d (pD ((ps ++ [w]).getD i [])) = r.cell i
  by_cases hp : i < ps.length
  · rw [h4 i (by show i < ps.length * 1; omega)]
    show _ = AVal.d (pD (ps.getD i []))
    simp [List.getElem?_append_left hp]
  · obtain rfl : i = ps.length := by omega
    have := h5 0 (by show 0 < 1 * 1; omega)
    have e : (pathRow ps).len * (RowC.gen 1 1 f).sz + 0 = ps.length := by show ps.length * 1 + 0 = _; omega
    rw [e] at this
    rw [this]
    show _ = f 0
    rw [hf]
    simp
def LW (ps : List (List Int)) (r : Nat) : List (Nat × AObj) := [(0, .cells [.d (.int .i64 (-1))]), (1, .cells [.row r ps.length]), (2, .cells [.fn 16 [.ref 0 0, .ref 1 0, .ref 2 0]]), (r, .row 32 (pathRow ps))]
def argsW (T : Tree) (w : List Int) : List AVal := [.d (.tree T), .d (pD w), .ref 0 0, .ref 1 0, .ref 2 0]

set_option maxHeartbeats 4000000 in
set_option maxRecDepth 10000 in
theorem pwalk_ok (T : Tree) : ∀ (ps : List (List Int)) (w : List Int), Full T → w.length + sizeN T ≤ 65536 → ps.length + sizeN T ≤ 1000000 →
    Fun P 16 (argsW T w) (LW ps 3) 4 (.tuple []) (LW (ps ++ pathsF T w) 4) 5 := by
  induction T using Tree.ind' with
  | h0 => intro ps w h; exact absurd rfl h.ne
  | h1 T hT ih => ?_
  intro ps w hF hw hp
  have hsz := sizeN_kids hT
  have hcl := clone_ok w (by omega)
  refine Fun.of_body tt [24, 45, 46] [] Try.func16 rfl rfl rfl (Nat.le_of_ble_eq_true rfl) fun g => ?_
  unfold argsW LW
  have hpd : (pD w = .nils ∧ w = []) ∨ pD w = .slice w.length 1 (fun i _ => .int .i64 (w.getD i 0)) := by
    by_cases h : w = []
    · exact .inl ⟨by rw [h, pD_nil], h⟩
    · exact .inr (pD_some h)
  rcases hpd with ⟨hpd, hw0⟩ | hpd
  · rw [hpd] at hcl ⊢
    repeat' ((first
      | refine then_go hm htt ?_
      | refine Side.go ?_
      | refine Hyp.go fun hlen => ?_
      | refine Split.ct ?_
      | refine Split.cf ?_
      | refine Split.tt ?_
      | refine Split.ff ?_
      | refine Indep.go ?_
      | refine CallG.gp hcl ?_
      | refine Side.mk (rfl : (1 : Nat) = 1) ?_
      | refine Split.go (fun hc => ?_) fun hc => ?_) <;> conv => whnf)
    rw [pathRow_app _ _ (by rfl)]
    repeat' ((first
      | refine then_go hm htt ?_
      | refine Side.go ?_
      | refine Hyp.go fun hlen => ?_
      | refine Split.ct ?_
      | refine Split.cf ?_
      | refine Split.tt ?_
      | refine Split.ff ?_
      | refine Indep.go ?_
      | refine Side.mk (show ps.length + 1 ≤ maxN ∧ (ps.length + 1) * 24 ≤ 140737488355328 from ⟨by unfold maxN; omega, by omega⟩) ?_
      | refine Split.go (fun hc => ?_) fun hc => ?_) <;> conv => whnf)
    have hrow := pathRow_snoc ps w _ (by rw [hpd]; rfl) _ (pathRow_app ps (fun i => .d ((fun k j => ((fun x => Mq.Data.nils :: x) []).getD (k * 1 + j) Mq.Data.nils) (i / 1) (i % 1))) rfl)
    refine loop_go (α := Nat × List (List Int)) (fun p => ⟨[(1, .d .nils), (2, .ref 0 0), (3, .ref 1 0), (4, .ref 2 0), (29, .d (.trees T.kids)), (30, .d (.int .i64 T.kids.length)), (31, .d (.int .i64 p.1))], 49, LW p.2 4, 5, g⟩)
        (fun p => p.1 ≤ T.kids.length ∧ ps ++ pathsF T w = p.2 ++ pathssF (T.kids.drop p.1) p.1 w) (fun p => T.kids.length - p.1) (0, ps ++ [w]) ⟨by simp, by rw [pathsF_eq hT]; simp⟩
        (Ent.trans (Ent.regen 4 (pathRow (ps ++ [w])) rfl hrow.1 hrow.2.1 hrow.2.2) (Ent.re [0, 1, 2, 3, 4] rfl rfl rfl rfl rfl rfl (by repeat' first | exact trivial | apply And.intro | rfl | (refine int_eq ?_; rw [wrap64] <;> omega)) ?_)) (fun _ => rfl) fun p hpre => ?_
    · refine ⟨⟨rfl, ?_, rfl⟩, ⟨rfl, ?_, rfl⟩, ⟨rfl, ?_, rfl⟩, ⟨rfl, ?_, fun _ => rfl⟩, trivial⟩
      all_goals first | rfl | (exact fun _ => rfl) | skip
      · show some (AObj.cells [AVal.row 4 (ps.length + 1)]) = some (AObj.cells [AVal.row 4 (ps ++ [w]).length])
        rw [List.length_append]; rfl
      all_goals trace_state
    obtain ⟨i, out⟩ := p
    obtain ⟨hp1, hp2⟩ := hpre
    simp only [] at hp1 hp2
    by_cases hi : i < T.kids.length
    · rw [drop_step hi, pathssF] at hp2
      have hsx := sizesN_mem (getD_mem hi)
      have hlen2 := congrArg List.length hp2
      simp only [List.length_append, paths_len] at hlen2
      have hcall : Fun P 16 [.d (.tree (T.kids.getD i .nil)), .d (.slice (0 + 1) 1 fun a j => if a < 0 then (fun _ _ => Mq.Data.nils) a j else (fun k j => ((fun x => Mq.Data.int .i64 (i : Int) :: x) []).getD (k * 1 + j) .nils) (a - 0) j), .ref 0 0, .ref 1 0, .ref 2 0] (LW out 3) 4 (.tuple []) (LW (out ++ pathsF (T.kids.getD i .nil) (w ++ [(i : Int)])) 4) 5 :=
        Fun.arg2 (ih (T.kids.getD i .nil) (getD_mem hi) out (w ++ [(i : Int)]) (hF.kid hi) (by rw [List.length_append, List.length_cons, List.length_nil]; omega) (by omega)) fun I v h => pD_snoc (w := w) (n := 0) (f := fun _ _ => Mq.Data.nils) (g := fun k j => ((fun x => Mq.Data.int .i64 (i : Int) :: x) []).getD (k * 1 + j) .nils) (by rw [hw0]; rfl) (fun a ha => absurd ha (Nat.not_lt_zero a)) rfl h
      repeat' ((first
        | refine then_go hm htt ?_
        | refine Side.go ?_
        | refine Hyp.go fun hlen => ?_
        | refine Split.ct ?_
        | refine Split.cf ?_
        | refine Split.tt ?_
        | refine Split.ff ?_
        | refine Indep.go ?_
        | refine Side.mk (⟨rfl, rfl, Nat.zero_lt_one, Nat.zero_lt_one⟩ : ti32.esz = ti32.esz ∧ ti32.esz = ti32.esz ∧ 0 < 1 ∧ 0 < ti32.esz) ?_
        | refine Side.mk (show 0 + 1 ≤ maxN ∧ (0 + 1) * 8 ≤ 140737488355328 from ⟨by unfold maxN; omega, by omega⟩) ?_
        | refine Split.go (fun hc => ?_) fun hc => ?_) <;> conv => whnf)
      refine CallG.fun hcall [0, 1, 2, 4] rfl rfl rfl rfl rfl rfl ⟨⟨rfl, by rfl, rfl⟩, ⟨rfl, by rfl, rfl⟩, ⟨rfl, by rfl, rfl⟩, ⟨rfl, by rfl, fun _ => rfl⟩, trivial⟩ rfl ?_
      repeat' ((first
        | refine then_go hm htt ?_
        | refine Side.go ?_
        | refine Hyp.go fun hlen => ?_
        | refine Split.ct ?_
        | refine Split.cf ?_
        | refine Split.tt ?_
        | refine Split.ff ?_
        | refine Indep.go ?_
        | refine Split.go (fun hc => ?_) fun hc => ?_) <;> conv => whnf)
      exact ⟨(i + 1, out ++ pathsF (T.kids.getD i .nil) (w ++ [(i : Int)])), ⟨by simp only []; omega, by rw [hp2]; simp only []; rw [List.append_assoc]⟩, by simp only []; omega, Ent.re [0, 1, 2, 3, 5] rfl rfl rfl rfl rfl rfl (by repeat' first | exact trivial | apply And.intro | rfl | (refine int_eq ?_; rw [wrap64] <;> omega)) ⟨⟨rfl, rfl, rfl⟩, ⟨rfl, rfl, rfl⟩, ⟨rfl, rfl, rfl⟩, ⟨rfl, rfl, fun _ => rfl⟩, trivial⟩⟩
    · rw [drop_end (by omega), pathssF, List.append_nil] at hp2
      repeat' ((first
        | refine then_go hm htt ?_
        | refine Side.go ?_
        | refine Hyp.go fun hlen => ?_
        | refine Split.ct ?_
        | refine Split.cf ?_
        | refine Split.tt ?_
        | refine Split.ff ?_
        | refine Indep.go ?_
        | refine Split.go (fun hc => ?_) fun hc => ?_) <;> conv => whnf)
      exact ret_objs rfl rfl rfl (by rw [hp2]; exact (by repeat' first | exact trivial | apply And.intro | rfl | (refine int_eq ?_; rw [wrap64] <;> omega))) (Nat.le_succ _)
  · rw [hpd] at hcl ⊢
    repeat' ((first
      | refine then_go hm htt ?_
      | refine Side.go ?_
      | refine Hyp.go fun hlen => ?_
      | refine Split.ct ?_
      | refine Split.cf ?_
      | refine Split.tt ?_
      | refine Split.ff ?_
      | refine Indep.go ?_
      | refine CallG.gp hcl ?_
      | refine Side.mk (rfl : (1 : Nat) = 1) ?_
      | refine Split.go (fun hc => ?_) fun hc => ?_) <;> conv => whnf)
    rw [pathRow_app _ _ (by rfl)]
    repeat' ((first
      | refine then_go hm htt ?_
      | refine Side.go ?_
      | refine Hyp.go fun hlen => ?_
      | refine Split.ct ?_
      | refine Split.cf ?_
      | refine Split.tt ?_
      | refine Split.ff ?_
      | refine Indep.go ?_
      | refine Side.mk (show ps.length + 1 ≤ maxN ∧ (ps.length + 1) * 24 ≤ 140737488355328 from ⟨by unfold maxN; omega, by omega⟩) ?_
      | refine Split.go (fun hc => ?_) fun hc => ?_) <;> conv => whnf)
    have hrow := pathRow_snoc ps w _ (by rw [hpd]; rfl) _ (pathRow_app ps (fun i => .d ((fun k j => ((fun x => Mq.Data.slice w.length 1 (fun i _ => .int .i64 (w.getD i 0)) :: x) []).getD (k * 1 + j) Mq.Data.nils) (i / 1) (i % 1))) rfl)
    refine loop_go (α := Nat × List (List Int)) (fun p => ⟨[(1, .d (.slice w.length 1 (fun i _ => .int .i64 (w.getD i 0)))), (2, .ref 0 0), (3, .ref 1 0), (4, .ref 2 0), (29, .d (.trees T.kids)), (30, .d (.int .i64 T.kids.length)), (31, .d (.int .i64 p.1))], 49, LW p.2 4, 5, g⟩)
        (fun p => p.1 ≤ T.kids.length ∧ ps ++ pathsF T w = p.2 ++ pathssF (T.kids.drop p.1) p.1 w) (fun p => T.kids.length - p.1) (0, ps ++ [w]) ⟨by simp, by rw [pathsF_eq hT]; simp⟩
        (Ent.trans (Ent.regen 4 (pathRow (ps ++ [w])) rfl hrow.1 hrow.2.1 hrow.2.2) (Ent.re [0, 1, 2, 3, 4] rfl rfl rfl rfl rfl rfl (by repeat' first | exact trivial | apply And.intro | rfl | (refine int_eq ?_; rw [wrap64] <;> omega)) ?_)) (fun _ => rfl) fun p hpre => ?_
    · refine ⟨⟨rfl, ?_, rfl⟩, ⟨rfl, ?_, rfl⟩, ⟨rfl, ?_, rfl⟩, ⟨rfl, ?_, fun _ => rfl⟩, trivial⟩
      all_goals first | rfl | (exact fun _ => rfl) | skip
      · show some (AObj.cells [AVal.row 4 (ps.length + 1)]) = some (AObj.cells [AVal.row 4 (ps ++ [w]).length])
        rw [List.length_append]; rfl
      all_goals trace_state
    obtain ⟨i, out⟩ := p
    obtain ⟨hp1, hp2⟩ := hpre
    simp only [] at hp1 hp2
    by_cases hi : i < T.kids.length
    · rw [drop_step hi, pathssF] at hp2
      have hsx := sizesN_mem (getD_mem hi)
      have hlen2 := congrArg List.length hp2
      simp only [List.length_append, paths_len] at hlen2
      have hcall : Fun P 16 [.d (.tree (T.kids.getD i .nil)), .d (.slice (w.length + 1) 1 fun a j => if a < w.length then (fun i _ => Mq.Data.int .i64 (w.getD i 0)) a j else (fun k j => ((fun x => Mq.Data.int .i64 (i : Int) :: x) []).getD (k * 1 + j) .nils) (a - w.length) j), .ref 0 0, .ref 1 0, .ref 2 0] (LW out 3) 4 (.tuple []) (LW (out ++ pathsF (T.kids.getD i .nil) (w ++ [(i : Int)])) 4) 5 :=
        Fun.arg2 (ih (T.kids.getD i .nil) (getD_mem hi) out (w ++ [(i : Int)]) (hF.kid hi) (by rw [List.length_append, List.length_cons, List.length_nil]; omega) (by omega)) fun I v h => pD_snoc (w := w) (n := w.length) (f := fun i _ => Mq.Data.int .i64 (w.getD i 0)) (g := fun k j => ((fun x => Mq.Data.int .i64 (i : Int) :: x) []).getD (k * 1 + j) .nils) rfl (fun a ha => rfl) rfl h
      repeat' ((first
        | refine then_go hm htt ?_
        | refine Side.go ?_
        | refine Hyp.go fun hlen => ?_
        | refine Split.ct ?_
        | refine Split.cf ?_
        | refine Split.tt ?_
        | refine Split.ff ?_
        | refine Indep.go ?_
        | refine Side.mk (⟨rfl, rfl, Nat.zero_lt_one, Nat.zero_lt_one⟩ : ti32.esz = ti32.esz ∧ ti32.esz = ti32.esz ∧ 0 < 1 ∧ 0 < ti32.esz) ?_
        | refine Side.mk (show w.length + 1 ≤ maxN ∧ (w.length + 1) * 8 ≤ 140737488355328 from ⟨by unfold maxN; omega, by omega⟩) ?_
        | refine Split.go (fun hc => ?_) fun hc => ?_) <;> conv => whnf)
      refine CallG.fun hcall [0, 1, 2, 4] rfl rfl rfl rfl rfl rfl ⟨⟨rfl, by rfl, rfl⟩, ⟨rfl, by rfl, rfl⟩, ⟨rfl, by rfl, rfl⟩, ⟨rfl, by rfl, fun _ => rfl⟩, trivial⟩ rfl ?_
      repeat' ((first
        | refine then_go hm htt ?_
        | refine Side.go ?_
        | refine Hyp.go fun hlen => ?_
        | refine Split.ct ?_
        | refine Split.cf ?_
        | refine Split.tt ?_
        | refine Split.ff ?_
        | refine Indep.go ?_
        | refine Split.go (fun hc => ?_) fun hc => ?_) <;> conv => whnf)
      exact ⟨(i + 1, out ++ pathsF (T.kids.getD i .nil) (w ++ [(i : Int)])), ⟨by simp only []; omega, by rw [hp2]; simp only []; rw [List.append_assoc]⟩, by simp only []; omega, Ent.re [0, 1, 2, 3, 5] rfl rfl rfl rfl rfl rfl (by repeat' first | exact trivial | apply And.intro | rfl | (refine int_eq ?_; rw [wrap64] <;> omega)) ⟨⟨rfl, rfl, rfl⟩, ⟨rfl, rfl, rfl⟩, ⟨rfl, rfl, rfl⟩, ⟨rfl, rfl, fun _ => rfl⟩, trivial⟩⟩
    · rw [drop_end (by omega), pathssF, List.append_nil] at hp2
      repeat' ((first
        | refine then_go hm htt ?_
        | refine Side.go ?_
        | refine Hyp.go fun hlen => ?_
        | refine Split.ct ?_
        | refine Split.cf ?_
        | refine Split.tt ?_
        | refine Split.ff ?_
        | refine Indep.go ?_
        | refine Split.go (fun hc => ?_) fun hc => ?_) <;> conv => whnf)
      exact ret_objs rfl rfl rfl (by rw [hp2]; exact (by repeat' first | exact trivial | apply And.intro | rfl | (refine int_eq ?_; rw [wrap64] <;> omega))) (Nat.le_succ _)
end Pa
end Go.Proofs.Ytohekjkpbfhiiaa

namespace Go.Proofs.Ytohekjkpbfhiiaa
namespace Pa
open Go Go.Mq
set_option linter.all false

def pathsD (ps : List (List Int)) : Mq.Data := .slice ps.length 1 (fun i _ => pD (ps.getD i []))
set_option maxHeartbeats 4000000 in
set_option maxRecDepth 10000 in
theorem arPaths_ok (T : Tree) (hF : Full T) (hz : sizeN T ≤ 65536) : Pure P 7 [.d (.tree T), .d (.int .i64 (-1))] (.d (pathsD (pathsF T []))) := by
  have hcall : Fun P 16 [.d (.tree T), .d .nils, .ref 0 0, .ref 1 0, .ref 2 0] (LW [] 3) 4 (.tuple []) (LW (pathsF T []) 4) 5 := by
    have h := pwalk_ok T [] [] hF (by simpa using hz) (by simp; omega)
    rw [List.nil_append, argsW, pD_nil] at h
    exact h
  refine Pure.of_body tt [] [4] Try.func7 rfl rfl rfl (Nat.le_of_ble_eq_true rfl) fun g => ?_
  refine then_go hm htt ?_
  conv => whnf
  repeat' ((first
    | refine Side.go ?_
    | refine Hyp.go fun hlen => ?_
    | refine Split.ct ?_
    | refine Split.cf ?_
    | refine Split.tt ?_
    | refine Split.ff ?_
    | refine Indep.go ?_
    | refine Split.go (fun hc => ?_) fun hc => ?_) <;> conv => whnf)
  refine then_go hm htt ?_
  conv => whnf
  repeat' ((first
    | refine Side.go ?_
    | refine Hyp.go fun hlen => ?_
    | refine Split.ct ?_
    | refine Split.cf ?_
    | refine Split.tt ?_
    | refine Split.ff ?_
    | refine Indep.go ?_
    | refine Split.go (fun hc => ?_) fun hc => ?_) <;> conv => whnf)
  refine then_go hm htt ?_
  conv => whnf
  repeat' ((first
    | refine Side.go ?_
    | refine Hyp.go fun hlen => ?_
    | refine Split.ct ?_
    | refine Split.cf ?_
    | refine Split.tt ?_
    | refine Split.ff ?_
    | refine Indep.go ?_
    | refine Split.go (fun hc => ?_) fun hc => ?_) <;> conv => whnf)
  refine then_go hm htt ?_
  conv => whnf
  repeat' ((first
    | refine Side.go ?_
    | refine Hyp.go fun hlen => ?_
    | refine Split.ct ?_
    | refine Split.cf ?_
    | refine Split.tt ?_
    | refine Split.ff ?_
    | refine Indep.go ?_
    | refine Split.go (fun hc => ?_) fun hc => ?_) <;> conv => whnf)
  refine then_ent (σ' := ⟨[(0, .d (.tree T)), (5, .ref 1 0), (6, .ref 2 0)], 12, LW [] 3, 4, g⟩) (Ent.nil rfl rfl rfl (by repeat' first | exact trivial | apply And.intro | rfl | (refine int_eq ?_; rw [wrap64] <;> omega)) (by repeat' first | exact trivial | apply And.intro | rfl | (refine int_eq ?_; rw [wrap64] <;> omega))) ?_
  repeat' ((first
    | refine then_go hm htt ?_
    | refine Side.go ?_
    | refine Hyp.go fun hlen => ?_
    | refine Split.ct ?_
    | refine Split.cf ?_
    | refine Split.tt ?_
    | refine Split.ff ?_
    | refine Indep.go ?_
    | refine CallG.fun hcall [0, 1, 2, 3] rfl rfl rfl rfl rfl rfl ⟨⟨rfl, by rfl, rfl⟩, ⟨rfl, by rfl, rfl⟩, ⟨rfl, by rfl, rfl⟩, ⟨rfl, by rfl, fun _ => rfl⟩, trivial⟩ rfl ?_
    | refine Split.go (fun hc => ?_) fun hc => ?_) <;> conv => whnf)
  refine RetS.ent (σ' := ⟨[(4, .row 0 (pathsF T []).length)], 12, [(0, .row 32 (pathRow (pathsF T [])))], 1, g⟩) (Ent.re [4] rfl rfl rfl rfl rfl rfl (by repeat' first | exact trivial | apply And.intro | rfl | (refine int_eq ?_; rw [wrap64] <;> omega)) ⟨⟨rfl, by rfl, fun _ => rfl⟩, trivial⟩) ?_
  refine RetS.ent (Ent.fz_slice 0 (n := (pathsF T []).length) (sz := 1) (f := fun i _ => pD ((pathsF T []).getD i [])) rfl rfl rfl ?_ (by repeat' first | exact trivial | apply And.intro | rfl | exact hp2.symm | exact Nat.zero_lt_one | omega) (by repeat' first | exact trivial | apply And.intro | rfl | exact hp2.symm | exact Nat.zero_lt_one | omega)) ?_
  · intro i j hi hj
    obtain rfl : j = 0 := by omega
    show AVal.d (pD ((pathsF T []).getD (i * 1 + 0) [])) = _
    rw [show i * 1 + 0 = i by omega]
  exact ret_closed rfl rfl rfl
set_option maxHeartbeats 4000000 in
set_option maxRecDepth 10000 in
theorem arAt_ok (T : Tree) (p : List Int) (h : No.okP p T) (hl : p.length ≤ 65536) : Pure P 8 [.d (.tree T), .d (pD p)] (.tuple [.d (.tree (No.atF p T)), .d (.int .i64 0)]) := by
  have hT := h.ne
  refine Pure.of_body tt [] [4, 5] Try.func8 rfl rfl rfl (Nat.le_of_ble_eq_true rfl) fun g => ?_
  by_cases hp0 : p = []
  · subst hp0
    rw [pD_nil]
    repeat' ((first
      | refine then_go hm htt ?_
      | refine Side.go ?_
      | refine Hyp.go fun hlen => ?_
      | refine Split.ct ?_
      | refine Split.cf ?_
      | refine Split.tt ?_
      | refine Split.ff ?_
      | refine Indep.go ?_
      | refine Split.go (fun hc => ?_) fun hc => ?_) <;> conv => whnf)
    refine loop_go (α := Nat) (fun q => ⟨[(0, .d (.tree T)), (1, .d .nils), (10, .d .nils), (11, .d (.int .i64 0)), (12, .d (.int .i64 0))], 46, [], 0, g⟩)
      (fun q => True) (fun q => 0) 0 trivial
      (Ent.go []) (fun _ => rfl) fun q hpre => ?_
    repeat' ((first
      | refine then_go hm htt ?_
      | refine Side.go ?_
      | refine Hyp.go fun hlen => ?_
      | refine Split.ct ?_
      | refine Split.cf ?_
      | refine Split.tt ?_
      | refine Split.ff ?_
      | refine Indep.go ?_
      | refine Split.go (fun hc => ?_) fun hc => ?_) <;> conv => whnf)
    exact ret_closed rfl rfl rfl
  rw [pD_some hp0]
  unfold No.intsD
  repeat' ((first
    | refine then_go hm htt ?_
    | refine Side.go ?_
    | refine Hyp.go fun hlen => ?_
    | refine Split.ct ?_
    | refine Split.cf ?_
    | refine Split.tt ?_
    | refine Split.ff ?_
    | refine Indep.go ?_
    | refine Split.go (fun hc => ?_) fun hc => ?_) <;> conv => whnf)
  refine loop_go (α := Nat × Tree) (fun q => ⟨[(0, .d (.tree q.2)), (1, .d (.slice p.length 1 (fun i _ => .int .i64 (p.getD i 0)))), (10, .d (.slice p.length 1 (fun i _ => .int .i64 (p.getD i 0)))), (11, .d (.int .i64 p.length)), (12, .d (.int .i64 q.1))], 46, [], 0, g⟩)
      (fun q => q.1 ≤ p.length ∧ No.okP (p.drop q.1) q.2 ∧ No.atF (p.drop q.1) q.2 = No.atF p T) (fun q => p.length - q.1) (0, T) ⟨by simp, by simpa using h, by simp⟩
      (Ent.go []) (fun _ => rfl) fun q hpre => ?_
  obtain ⟨i, U⟩ := q
  obtain ⟨hp1, hp2, hp3⟩ := hpre
  simp only [] at hp1 hp2 hp3
  have hU := hp2.ne
  by_cases hi : i < p.length
  · rw [dropi_step hi] at hp2 hp3
    obtain ⟨h1, h2, h3, h4⟩ := hp2
    have h5 := h4.ne
    repeat' ((first
      | refine then_go hm htt ?_
      | refine Side.go ?_
      | refine Hyp.go fun hlen => ?_
      | refine Split.ct ?_
      | refine Split.cf ?_
      | refine Split.tt ?_
      | refine Split.ff ?_
      | refine Indep.go ?_
      | refine Side.mk (show (0 : Int) ≤ (i : Int) ∧ (i : Int) < (p.length : Int) from by omega) ?_
      | refine Split.of_false (show decide (p.getD i 0 < 0) = false from by simpa using h2) ?_
      | refine Side.mk (show (0 : Int) ≤ p.getD i 0 ∧ p.getD i 0 < (U.kids.length : Int) from ⟨h2, h3⟩) ?_
      | refine Split.go (fun hc => ?_) fun hc => ?_) <;> conv => whnf)
    all_goals try (exfalso; first | omega | exact h5 (by assumption))
    exact ⟨(i + 1, U.kids.getD (p.getD i 0).toNat .nil), ⟨by simp only []; omega, h4, hp3⟩, by simp only []; omega, Ent.go []⟩
  · rw [drop_endi (by omega)] at hp2 hp3
    have hp4 : U = No.atF p T := hp3
    repeat' ((first
      | refine then_go hm htt ?_
      | refine Side.go ?_
      | refine Hyp.go fun hlen => ?_
      | refine Split.ct ?_
      | refine Split.cf ?_
      | refine Split.tt ?_
      | refine Split.ff ?_
      | refine Indep.go ?_
      | refine Split.go (fun hc => ?_) fun hc => ?_) <;> conv => whnf)
    rw [← hp4]
    exact ret_closed rfl rfl rfl
end Pa
end Go.Proofs.Ytohekjkpbfhiiaa

namespace Go.Proofs.Ytohekjkpbfhiiaa
namespace Pa
open Go Go.Mq Tm
set_option linter.all false

/-! The parts of a term -/
def PartP (T : Tree) : Prop := isTermF T = true ∨ isConF T = true ∨ isKindF T = true ∨ tfieldF 137 T = true ∨ tfieldF 149 T = true ∨ fieldF 116 T = true ∨ fieldF 122 T = true
theorem mem_drop1 {l : List Tree} {x : Tree} (h : x ∈ l) : x = l.getD 0 .nil ∨ x ∈ l.drop 1 := by
  cases l with
  | nil => simp at h
  | cons a l => simp only [List.mem_cons] at h; rcases h with rfl | h
                · exact .inl rfl
                · exact .inr h
theorem mem_drop2 {l : List Tree} {x : Tree} (h : x ∈ l) : x = l.getD 0 .nil ∨ x = l.getD 1 .nil ∨ x ∈ l.drop 2 := by
  match l, h with
  | [a], h => exact .inl (by simpa using h)
  | a :: b :: l, h => simp only [List.mem_cons] at h; rcases h with rfl | rfl | h
                      · exact .inl rfl
                      · exact .inr (.inl rfl)
                      · exact .inr (.inr h)
theorem mem_three {l : List Tree} (h : l.length = 3) {x : Tree} (hx : x ∈ l) : x = l.getD 0 .nil ∨ x = l.getD 1 .nil ∨ x = l.getD 2 .nil := by
  match l, h with
  | [a, b, c], _ =>
    rcases List.mem_cons.1 hx with h | hx
    · exact .inl h
    rcases List.mem_cons.1 hx with h | hx
    · exact .inr (.inl h)
    rcases List.mem_cons.1 hx with h | hx
    · exact .inr (.inr h)
    · cases hx
theorem term_ne {T : Tree} (h : isTermF T = true) : T ≠ .nil := by intro e; subst e; rw [isTermF] at h; cases h
theorem con_ne {T : Tree} (h : isConF T = true) : T ≠ .nil := by intro e; subst e; rw [isConF] at h; cases h
theorem kind_ne {T : Tree} (h : isKindF T = true) : T ≠ .nil := by intro e; subst e; rw [isKindF] at h; cases h
theorem iteT {c : Prop} [Decidable c] {a b : Bool} (h : (if c then a else b) = true) : a = true ∨ b = true := by
  by_cases hc : c
  · rw [if_pos hc] at h; exact .inl h
  · rw [if_neg hc] at h; exact .inr h
theorem term_parts {T : Tree} (h : isTermF T = true) : ∀ x ∈ T.kids, PartP x := by
  rw [isTermF_eq (term_ne h), Bool.and_eq_true] at h
  have h := h.2
  intro x hx
  rcases iteT h with h | h
  · simp only [decide_eq_true_eq] at h; rw [List.length_eq_zero_iff.1 h] at hx; cases hx
  rcases iteT h with h | h
  · simp only [Bool.and_eq_true, decide_eq_true_eq] at h
    rcases mem_two h.1.1 hx with rfl | rfl
    · exact .inr (.inl h.1.2)
    · exact .inl h.2
  rcases iteT h with h | h
  · simp only [Bool.and_eq_true, decide_eq_true_eq] at h
    rcases mem_two h.1.1 hx with rfl | rfl
    · exact .inr (.inr (.inl h.1.2))
    · exact .inl h.2
  rcases iteT h with h | h
  · simp only [Bool.and_eq_true, decide_eq_true_eq] at h
    rcases mem_two h.1.1 hx with rfl | rfl
    · exact .inl h.1.2
    · exact .inl h.2
  rcases iteT h with h | h
  · simp only [Bool.and_eq_true, decide_eq_true_eq] at h
    exact .inr (.inr (.inr (.inl (tfieldsF_mem h.1 x hx))))
  rcases iteT h with h | h
  · simp only [Bool.and_eq_true, decide_eq_true_eq] at h
    rw [mem_one h.1 hx]; exact .inl h.2
  rcases iteT h with h | h
  · simp only [Bool.and_eq_true, decide_eq_true_eq] at h
    rcases mem_two h.1.1 hx with rfl | rfl
    · exact .inl h.1.2
    · exact .inr (.inl h.2)
  rcases iteT h with h | h
  · simp only [Bool.and_eq_true, decide_eq_true_eq] at h
    rcases mem_three h.1.1.1 hx with rfl | rfl | rfl
    · exact .inr (.inl h.1.1.2)
    · exact .inl h.1.2
    · exact .inr (.inl h.2)
  rcases iteT h with h | h
  · simp only [Bool.and_eq_true, decide_eq_true_eq] at h
    rcases mem_three h.1.1.1 hx with rfl | rfl | rfl
    · exact .inl h.1.1.2
    · exact .inl h.1.2
    · exact .inl h.2
  rcases iteT h with h | h
  · simp only [Bool.and_eq_true, decide_eq_true_eq] at h
    rcases mem_drop1 hx with rfl | hx
    · exact .inl h.1.1.2
    · exact .inr (.inr (.inr (.inr (.inl (tfieldsF_mem h.1.2 x hx)))))
  rcases iteT h with h | h
  · simp only [Bool.and_eq_true, decide_eq_true_eq] at h
    rcases mem_drop2 hx with rfl | rfl | hx
    · exact .inl h.1.1.1.2
    · exact .inr (.inl h.1.1.2)
    · exact .inr (.inr (.inr (.inr (.inl (tfieldsF_mem h.1.2 x hx)))))
  · cases h
theorem con_parts {T : Tree} (h : isConF T = true) : ∀ x ∈ T.kids, PartP x := by
  rw [isConF_eq (con_ne h), Bool.and_eq_true] at h
  have h := h.2
  intro x hx
  have e : ∀ {n : Nat}, ((T.kids.length : Int) == (n : Int)) = true → T.kids.length = n := by intro n h; have := of_decide_eq_true h; omega
  split at h
  · simp only [Bool.and_eq_true] at h; rw [List.length_eq_zero_iff.1 (e (n := 0) h.2)] at hx; cases hx
  split at h
  · rw [List.length_eq_zero_iff.1 (e (n := 0) h)] at hx; cases hx
  split at h
  · simp only [Bool.and_eq_true] at h
    rcases mem_two (e (n := 2) h.1.1) hx with rfl | rfl
    · exact .inr (.inl h.1.2)
    · exact .inr (.inl h.2)
  split at h
  · simp only [Bool.and_eq_true] at h
    exact .inr (.inr (.inr (.inr (.inr (.inl (fieldsF_mem h.1 x hx))))))
  split at h
  · simp only [Bool.and_eq_true] at h
    rcases mem_two (e (n := 2) h.1.1) hx with rfl | rfl
    · exact .inr (.inr (.inl h.1.2))
    · exact .inr (.inl h.2)
  split at h
  · simp only [Bool.and_eq_true] at h
    exact .inr (.inr (.inr (.inr (.inr (.inr (fieldsF_mem h.1.2 x hx))))))
  · cases h
theorem kind_parts {T : Tree} (h : isKindF T = true) : ∀ x ∈ T.kids, PartP x := by
  intro x hx
  rw [isKindF_eq (kind_ne h)] at h
  split at h
  · simp only [Bool.and_eq_true] at h
    have : T.kids.length = 0 := by have := of_decide_eq_true h.2; omega
    rw [List.length_eq_zero_iff.1 this] at hx; cases hx
  split at h
  · simp only [Bool.and_eq_true] at h
    have : T.kids.length = 2 := by have := of_decide_eq_true h.1.1.2; omega
    rcases mem_two this hx with rfl | rfl
    · exact .inr (.inr (.inl h.1.2))
    · exact .inr (.inr (.inl h.2))
  · cases h
theorem tfield_parts {k : Int} {T : Tree} (h : tfieldF k T = true) : T.kind = k ∧ ∀ x ∈ T.kids, PartP x := by
  have hT : T ≠ .nil := by intro e; subst e; rw [tfieldF] at h; cases h
  rw [tfieldF_eq hT] at h
  simp only [Bool.and_eq_true, decide_eq_true_eq] at h
  refine ⟨h.1.1.1.1.1, fun x hx => ?_⟩
  rw [mem_one h.1.2 hx]
  exact .inl h.2
theorem field_parts {k : Int} {T : Tree} (h : fieldF k T = true) : T.kind = k ∧ ∀ x ∈ T.kids, PartP x := by
  have hT : T ≠ .nil := by intro e; subst e; rw [fieldF] at h; cases h
  rw [fieldF_eq hT] at h
  simp only [Bool.and_eq_true] at h
  refine ⟨of_decide_eq_true h.1.1.1.1, fun x hx => ?_⟩
  have : T.kids.length = 1 := by have := of_decide_eq_true h.1.2; omega
  rw [mem_one this hx]
  exact .inr (.inl h.2)
theorem part_kids {T : Tree} (h : PartP T) : ∀ x ∈ T.kids, PartP x := by
  rcases h with h | h | h | h | h | h | h
  · exact term_parts h
  · exact con_parts h
  · exact kind_parts h
  · exact (tfield_parts h).2
  · exact (tfield_parts h).2
  · exact (field_parts h).2
  · exact (field_parts h).2
theorem part_ne {T : Tree} (h : PartP T) : T ≠ .nil := by
  intro e; subst e
  rcases h with h | h | h | h | h | h | h
  · rw [isTermF] at h; cases h
  · rw [isConF] at h; cases h
  · rw [isKindF] at h; cases h
  · rw [tfieldF] at h; cases h
  · rw [tfieldF] at h; cases h
  · rw [fieldF] at h; cases h
  · rw [fieldF] at h; cases h
theorem pathssF_mem {p : List Int} : ∀ (l : List Tree) (i : Nat) (w : List Int), p ∈ pathssF l i w → ∃ j, j < l.length ∧ p ∈ pathsF (l.getD j .nil) (w ++ [((i + j : Nat) : Int)])
  | [], _, _, h => by rw [pathssF] at h; cases h
  | x :: l, i, w, h => by
    rw [pathssF, List.mem_append] at h
    rcases h with h | h
    · exact ⟨0, by simp, by simpa using h⟩
    · obtain ⟨j, h1, h2⟩ := pathssF_mem l (i + 1) w h
      refine ⟨j + 1, by simpa using h1, ?_⟩
      rw [List.getD_cons_succ, show i + (j + 1) = i + 1 + j by omega]
      exact h2
theorem path_mem (T : Tree) : ∀ (w p : List Int), PartP T → p ∈ pathsF T w → ∃ q, p = w ++ q ∧ No.okP q T ∧ PartP (No.atF q T) ∧ sizeN (No.atF q T) ≤ sizeN T ∧ q.length < sizeN T ∧ (Full T → Full (No.atF q T)) := by
  induction T using Tree.ind' with
  | h0 => intro w p h; exact absurd rfl (part_ne h)
  | h1 T hT ih => ?_
  intro w p h hp
  have hsz := sizeN_kids hT
  rw [pathsF_eq hT, List.mem_cons] at hp
  rcases hp with rfl | hp
  · exact ⟨[], by simp, hT, h, Nat.le_refl _, by simp; omega, fun h => h⟩
  · obtain ⟨j, hj, hp⟩ := pathssF_mem _ _ _ hp
    have hm := getD_mem hj
    have hsx := sizesN_mem hm
    obtain ⟨q, e, h1, h2, h3, h4, h5⟩ := ih _ hm _ _ (part_kids h _ hm) hp
    have e2 : ((j : Int)).toNat = j := rfl
    refine ⟨(j : Int) :: q, by rw [e]; simp, ⟨hT, by omega, by omega, h1⟩, h2, ?_, ?_, fun hF => h5 (hF.kid hj)⟩
    · show sizeN (No.atF q (T.kids.getD ((j : Int)).toNat .nil)) ≤ _
      rw [e2]; omega
    · simp only [List.length_cons]; omega
end Pa
end Go.Proofs.Ytohekjkpbfhiiaa

namespace Go.Proofs.Ytohekjkpbfhiiaa
namespace Pa
open Go Go.Mq Tm
set_option linter.all false

theorem path_fit (T : Tree) (h : termE T = 0) (p : Nat) (hp : p < (pathsF T []).length) : No.okP ((pathsF T []).getD p []) T ∧ ((pathsF T []).getD p []).length ≤ 65536 ∧
    (((No.atF ((pathsF T []).getD p []) T).kind = 137 ∨ (No.atF ((pathsF T []).getD p []) T).kind = 149 ∨ (No.atF ((pathsF T []).getD p []) T).kind = 116 ∨ (No.atF ((pathsF T []).getD p []) T).kind = 122) ∨ termE (No.atF ((pathsF T []).getD p []) T) = 0 ∨ conE (No.atF ((pathsF T []).getD p []) T) = 0 ∨ kindE (No.atF ((pathsF T []).getD p []) T) = 0) := by
  obtain ⟨h1, h2, h3⟩ := termE_ok h
  have hm : (pathsF T []).getD p [] ∈ pathsF T [] := by
    rw [List.getD_eq_getElem?_getD, List.getElem?_eq_getElem hp]; exact List.getElem_mem hp
  obtain ⟨q, e, a1, a2, a3, a4, a5⟩ := path_mem T [] _ (.inl h1) hm
  rw [List.nil_append] at e
  rw [e]
  refine ⟨a1, by omega, ?_⟩
  have hw : (wholeF 65536 (No.atF q T)).1 = 0 := by
    rw [whole_full _ (a5 h3) 65536 (by omega)]
  have hc : ∀ b : Bool, b = true → checkF b (No.atF q T) = 0 := fun b hb => by unfold checkF; rw [if_pos hw, hb]; rfl
  rcases a2 with h | h | h | h | h | h | h
  · exact .inr (.inl (hc _ h))
  · exact .inr (.inr (.inl (hc _ h)))
  · exact .inr (.inr (.inr (hc _ h)))
  · exact .inl (.inl (tfield_parts h).1)
  · exact .inl (.inr (.inl (tfield_parts h).1))
  · exact .inl (.inr (.inr (.inl (field_parts h).1)))
  · exact .inl (.inr (.inr (.inr (field_parts h).1)))

set_option maxHeartbeats 8000000 in
set_option maxRecDepth 10000 in
theorem termParts_ok (l : List Cel) : Pure P 3 [.agg [.d (cellsD l)]] (.d (.bool true)) := by
  refine Pure.of_body tt [] [2] Try.func3 rfl rfl rfl (Nat.le_of_ble_eq_true rfl) fun g => ?_
  have hfw := few3_ok l
  generalize fewF3 l = T at hfw
  have hck := tCheck_ok T
  by_cases h : termE T = 0
  · obtain ⟨h1, h2, h3⟩ := termE_ok h
    rw [h] at hck
    have hT := h3.ne
    have hpa := arPaths_ok T h3 h2
    have hfit := path_fit T h
    have hln : (pathsF T []).length ≤ 65536 := by rw [paths_len]; exact h2
    generalize pathsF T [] = ps at hpa hfit hln
    unfold pathsD at hpa
    repeat' ((first
      | refine then_go hm htt ?_
      | refine Side.go ?_
      | refine Hyp.go fun hlen => ?_
      | refine Split.ct ?_
      | refine Split.cf ?_
      | refine Split.tt ?_
      | refine Split.ff ?_
      | refine Indep.go ?_
      | refine CallG.gp hfw ?_
      | refine CallG.gp hck ?_
      | refine CallG.gp hpa ?_
      | refine Split.go (fun hc => ?_) fun hc => ?_) <;> conv => whnf)
    refine loop_go (α := Nat) (fun p => ⟨[(3, .d (.tree T)), (16, .d (.slice ps.length 1 fun i _ => pD (ps.getD i []))), (17, .d (.int .i64 ps.length)), (18, .d (.int .i64 p))], 75, [], 0, g⟩)
      (fun p => p ≤ ps.length) (fun p => ps.length - p) 0 (Nat.zero_le _) (Ent.go []) (fun _ => rfl) fun p hpre => ?_
    by_cases hp : p < ps.length
    · obtain ⟨a1, a2, a3⟩ := hfit p hp
      have hat := arAt_ok T _ a1 a2
      generalize No.atF (ps.getD p []) T = U at hat a3
      have hU : U ≠ .nil := by
        rintro rfl
        rcases a3 with a3 | a3
        · rcases a3 with a3 | a3 | a3 | a3 <;> simp [Tree.kind] at a3
        · rcases a3 with a3 | a3 | a3 <;> revert a3 <;> decide
      have b1 := tCheck_ok U
      have b2 := check_ok U
      have b3 := kind_ok U
      repeat' ((first
        | refine then_go hm htt ?_
        | refine Side.go ?_
        | refine Hyp.go fun hlen => ?_
        | refine Split.ct ?_
        | refine Split.cf ?_
        | refine Split.tt ?_
        | refine Split.ff ?_
        | refine Indep.go ?_
        | refine CallG.gp hat ?_
        | refine CallG.gp b1 ?_
        | refine CallG.gp b2 ?_
        | refine CallG.gp b3 ?_
        | refine Side.mk (show (0 : Int) ≤ (p : Int) ∧ (p : Int) < (ps.length : Int) from by omega) ?_
        | refine Split.go (fun hc => ?_) fun hc => ?_) <;> conv => whnf)
      all_goals first
        | exact ⟨p + 1, by show p + 1 ≤ ps.length; omega, by show ps.length - (p + 1) < ps.length - p; omega, Ent.go []⟩
        | (exfalso; omega)
    · repeat' ((first
        | refine then_go hm htt ?_
        | refine Side.go ?_
        | refine Hyp.go fun hlen => ?_
        | refine Split.ct ?_
        | refine Split.cf ?_
        | refine Split.tt ?_
        | refine Split.ff ?_
        | refine Indep.go ?_
        | refine CallG.gp works13_ok ?_
        | refine Split.go (fun hc => ?_) fun hc => ?_) <;> conv => whnf)
      exact ret_closed rfl rfl rfl
  · repeat' ((first
      | refine then_go hm htt ?_
      | refine Side.go ?_
      | refine Hyp.go fun hlen => ?_
      | refine Split.ct ?_
      | refine Split.cf ?_
      | refine Split.tt ?_
      | refine Split.ff ?_
      | refine Indep.go ?_
      | refine CallG.gp hfw ?_
      | refine CallG.gp hck ?_
      | refine CallG.gp works13_ok ?_
      | refine Split.go (fun hc => ?_) fun hc => ?_) <;> conv => whnf)
    exact ret_closed rfl rfl rfl
end Pa
end Go.Proofs.Ytohekjkpbfhiiaa
