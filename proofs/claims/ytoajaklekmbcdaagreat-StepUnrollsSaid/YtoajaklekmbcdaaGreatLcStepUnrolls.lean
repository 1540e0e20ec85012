/- Any value is unrolled along any constructor as the document says, or refused: proved for every input. -/
import Derived.Test.YtoajaklekmbcdaaGreatRows
import Derived.Test.YtoajaklekmbcdaaGreatGP
import Derived.Test.YtoajaklekmbcdaaGreatGD
set_option linter.all false
namespace Go.Proofs.YtoajaklekmbcdaaGreat
open Go Go.Mq Go.ChangeShapes Go.WideShapes Go.Deep Go.RowKit Go.ChangeAt
set_option linter.all false

theorem laidOut : laidOutB Tryz.prog = true := by kernel_rfl
theorem stepUnrolls_own : ownKnob Tryz.prog.godebug = none := by kernel_rfl
set_option maxRecDepth 100000 in
theorem stepUnrolls_lifted (os : Os) (started : os.Started) (H : Type) (enc : TypeId × Value → H) :
    ReturnsInHanded {} Tryz.checked os 5 .any (Rows.stepUnrollsSpec.pre6 enc Tryz.prog Tryz.f5 Rows.stepUnrollsRow.domain false) (Rows.stepUnrollsSpec.post enc Tryz.prog Tryz.f5 false true false false) := by
  refine returnsInHanded_of_change_sized (C := Tryz.checked) stepUnrolls_own started (by kernel_rfl) Tryz.func5
    (ChangeSpec.witness6 (enc := enc) (C := Tryz.checked) false ⟨#[], #[.agg #[.slice none 0 0], .agg #[.slice none 0 0], .agg #[.slice none 0 0]], []⟩ 8 (by kernel_rfl) (by kernel_rfl) (by kernel_rfl) (by kernel_rfl)) ?_
  intro W base args ds gs before hval0 hW hcnd hsz _
  have hval : ∀ (j : Nat) t v, Tryz.f5.params[j]? = some t → args[j]? = some v → Value.okWide Tryz.prog W .any base t v := hval0
  have hW' := hW
  obtain ⟨p, q, hA0, hV, rfl, hfz, hnd⟩ := hW
  have hA : DataW.TrodAll enc Tryz.prog W 0 (fun _ => true) true Tryz.f5.params.toList args.toList ds p := hA0
  have hsz' : (DataW.weightsEach Tryz.prog (Tryz.f5.params.toList ++ []) (ds ++ gs)).all (· ≤ reachBytes) = true := hsz
  rw [Tryz.params5] at hA hval hsz'
  obtain ⟨v0, vs0, d0, ds0, p0, q0, hargs, rfl, rfl, h0, r0⟩ := trodAll_cons hA
  obtain ⟨v1, vs1, d1, ds1, p1, q1, rfl, rfl, rfl, h1, r1⟩ := trodAll_cons r0
  obtain ⟨v2, vs2, d2, ds2, p2, q2, rfl, rfl, rfl, h2, r2⟩ := trodAll_cons r1
  obtain ⟨rfl, rfl, rfl⟩ := trodAll_nil r2
  obtain rfl : args = #[v0, v1, v2] := by cases args; simp_all
  obtain ⟨rfl, rfl⟩ := trodVars_none hV
  simp only [List.append_nil] at hW' hfz hnd
  have k0 := h0
  have k1 := h1
  have k2 := h2
  have z0 : ∀ n ∈ d0.weights P 24, n ≤ reachBytes := fun n hn => by
    have := List.all_eq_true.1 hsz' n (DataW.weights_mem_each (j := 0) (t := 24) rfl rfl n hn)
    simpa using this
  obtain ⟨l0, hl0⟩ := open_tree (hval 0 24 v0 rfl rfl) h0 z0
  have z1 : ∀ n ∈ d1.weights P 24, n ≤ reachBytes := fun n hn => by
    have := List.all_eq_true.1 hsz' n (DataW.weights_mem_each (j := 1) (t := 24) rfl rfl n hn)
    simpa using this
  obtain ⟨l1, hl1⟩ := open_tree (hval 1 24 v1 rfl rfl) h1 z1
  have z2 : ∀ n ∈ d2.weights P 24, n ≤ reachBytes := fun n hn => by
    have := List.all_eq_true.1 hsz' n (DataW.weights_mem_each (j := 2) (t := 24) rfl rfl n hn)
    simpa using this
  obtain ⟨l2, hl2⟩ := open_tree (hval 2 24 v2 rfl rfl) h2 z2
  refine (run_top_true (St.stepUnrolls_ok l0 l1 l2) W #[v0, v1, v2] (fun ρ => ⟨hl0 ρ, hl1 ρ, hl2 ρ, trivial⟩)).mono fun e W' ⟨he, hb⟩ => ?_
  subst he
  have g0 : DataW.Trod enc Tryz.prog W' 0 (fun b => decide (b < W.heap.size)) true 24 _ _ _ := Below.trod laidOut (by kernel_rfl) (of_decide_eq_true (by kernel_rfl)) k0 hb (fun x hx => hW'.lt x (by simp [hx]))
  have g1 : DataW.Trod enc Tryz.prog W' 0 (fun b => decide (b < W.heap.size)) true 24 _ _ _ := Below.trod laidOut (by kernel_rfl) (of_decide_eq_true (by kernel_rfl)) k1 hb (fun x hx => hW'.lt x (by simp [hx]))
  have g2 : DataW.Trod enc Tryz.prog W' 0 (fun b => decide (b < W.heap.size)) true 24 _ _ _ := Below.trod laidOut (by kernel_rfl) (of_decide_eq_true (by kernel_rfl)) k2 hb (fun x hx => hW'.lt x (by simp [hx]))
  exact ⟨_, rfl, ⟨_, _, _, [], _, [], hW', trodAll_mk1 (shut_bool Tryz.underlying4 _), trodAll_mk3 g0 g1 g2, rfl, hb.frame _, fun h => by cases h⟩⟩

theorem stepUnrolls_holds : Rows.StepUnrollsSaid :=
  OpenClaim.holds_of_wide 5 Tryz.f5 rfl rfl rfl rfl rfl rfl rfl ⟨rfl, rfl, rfl, rfl, rfl⟩ rfl rfl rfl rfl rfl (by kernel_rfl) Tryz.func5 (by kernel_rfl)
    (of_decide_eq_true (by kernel_rfl)) (by unfold Func.isWrapper; first | (rw [if_pos (by decide +kernel)]; kernel_rfl) | (rw [if_neg (by decide +kernel)]; exact ⟨rfl, rfl⟩))
    (fun os started H enc _ => stepUnrolls_lifted os started H enc)
#print axioms stepUnrolls_holds
end Go.Proofs.YtoajaklekmbcdaaGreat
