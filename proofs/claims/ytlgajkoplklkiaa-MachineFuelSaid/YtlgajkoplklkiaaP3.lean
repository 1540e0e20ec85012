/- What the proof stands on, part 3: what functions of the program compute, and plain facts about it. -/
import Derived.Test.YtlgajkoplklkiaaP1
import Derived.Test.YtlgajkoplklkiaaP2
set_option linter.all false
/- Results that lie in memory. -/
namespace Go.Mq
open Go

/-- What a result reads. -/
def rvV (tt : List (Nat × TI)) (σ : AState) : ResultVar → Option AVal
  | .tmp t => some (look σ.tm t)
  | .cell a t => match look σ.tm a with
    | .ref id off => match sget σ.st id, ttl tt t with
      | some (.cellsT _ vs), some i => bif Nat.beq off 0 then (bif i.agg then (bif Nat.beq i.size vs.length then some (.agg vs) else none) else vs[0]?) else none
      | _, _ => none
    | _ => none
def rvsV (tt : List (Nat × TI)) (σ : AState) : List ResultVar → Option (List AVal)
  | [] => some []
  | r :: rs => match rvV tt σ r, rvsV tt σ rs with
    | some x, some l => some (x :: l)
    | _, _ => none
def oneOf : List AVal → AVal
  | [x] => x
  | l => .tuple l

def RetR (P : Program) (nb : Nat) (rs : List ResultVar) (r : AVal) (L' : List (Nat × AObj)) (N' : Nat) (g' : Ghost) (σ : AState) : Prop :=
  ∀ E I ρ a w, E.nb = nb → RelT E I ρ σ.fs a w → ∃ I' ρ' v, I.le I' ∧ (∀ id, id < E.nb → ρ' id = E.ρb id) ∧ Rel E I' ρ' (· < N') (sget L') g' w ∧ CA I' ρ' (· < N') r v ∧ ∀ fn : Func, fn.results.toList = rs → (results fn a.tmps).run P w = .ok v w
def retKR (P : Program) (nb : Nat) (rs : List ResultVar) (r : AVal) (L' : List (Nat × AObj)) (N' : Nat) (g' : Ghost) : Exit → AState → Prop := fun e σ => match e with
  | .ret => RetR P nb rs r L' N' g' σ
  | .normal => RetR P nb rs r L' N' g' σ
  | _ => False
theorem RetR.ent {P : Program} {nb : Nat} {rs : List ResultVar} {r : AVal} {L' : List (Nat × AObj)} {N' : Nat} {g' : Ghost} {σ σ' : AState} (he : Ent nb σ σ') (h : RetR P nb rs r L' N' g' σ') : RetR P nb rs r L' N' g' σ := by
  intro E I ρ a w hE hr
  obtain ⟨I', ρ', h1, h2⟩ := he.2 E I ρ a w hE hr
  obtain ⟨I2, ρ2, v, g1, g2⟩ := h E I' ρ' a w hE h2
  exact ⟨I2, ρ2, v, Imm.le_trans h1 g1, g2⟩

def resF (tmps : Array Value) : ResultVar → Sem Value
  | .tmp t => Pure.pure (tmps.getD t undef)
  | .cell a t => do loadVar t (← asAddr (tmps.getD a undef))

theorem rv_ok {P : Program} {tt : List (Nat × TI)} (htt : TTok P tt) {E : Env} {I : Imm} {ρ : Nat → RB} {σ : AState} {a : Act} {w : World} (h : RelT E I ρ σ.fs a w) (rv : ResultVar) {x : AVal} (hx : rvV tt σ rv = some x) :
    ∃ v, (resF a.tmps rv).run P w = .ok v w ∧ CA I ρ (· < σ.nx) x v := by
  cases rv with
  | tmp t =>
    simp only [rvV, Option.some.injEq] at hx
    subst hx
    exact ⟨_, by simp [resF], h.slot t⟩
  | cell a' t =>
    simp only [rvV] at hx
    split at hx
    · rename_i id off hl
      have hv := h.slot a'
      rw [show σ.fs.T a' = .ref id off from hl] at hv
      obtain ⟨hD, hv⟩ := hv.ref_inv
      split at hx
      · rename_i vs i hs hi
        have hT := htt t i hi
        rw [Bool.cond_eq_ite] at hx
        split at hx
        · rename_i ho
          obtain rfl : off = 0 := Nat.eq_of_beq_eq_true ho
          obtain ⟨o1, cs, T, o2, o3, o4⟩ := rel_obj h hs
          have hcell : ∀ j, j < vs.length → w.cell? ⟨(ρ id).blk, 0 + j, none⟩ = some (cs.getD j undef) := fun j hj => by
            simp only [World.cell?, o2]
            rw [Nat.zero_add]
            simp [show j < cs.size by omega]
          rw [Bool.cond_eq_ite] at hx
          split at hx
          · rename_i hag
            rw [Bool.cond_eq_ite] at hx
            split at hx
            · rename_i hsz
              have hsz := Nat.eq_of_beq_eq_true hsz
              cases hx
              have := run_loadAt_agg (w := w) hT hag (b := (ρ id).blk) (o := 0) (f := fun j => cs.getD j undef) (fun j hj => hcell j (by omega))
              refine ⟨.agg ((List.range i.size).map fun j => cs.getD j undef).toArray, ?_, .agg (by simp [hsz]) fun j hj => ?_⟩
              · simp only [Instr.loadAt, Instr.sureAddr, Sem.run_bind, Sem.run_pure, Result.andThen_ok] at this
                simp only [resF, hv, asAddr, Sem.run_bind, Sem.run_pure, Result.andThen_ok]
                exact this
              · have : CA I ρ (· < σ.nx) vs[j] (cs.getD j undef) := o4 j hj
                simpa [show j < i.size by omega] using this
            · cases hx
          · rename_i hag
            have hag : i.agg = false := by simpa using hag
            have hl0 : 0 < vs.length := by
              cases vs with
              | nil => simp at hx
              | cons => simp
            have := run_loadAt_cell (w := w) hT hag (b := (ρ id).blk) (o := 0) (hcell 0 hl0)
            refine ⟨cs.getD 0 undef, ?_, ?_⟩
            · simp only [Instr.loadAt, Instr.sureAddr, Sem.run_bind, Sem.run_pure, Result.andThen_ok] at this
              simp only [resF, hv, asAddr, Sem.run_bind, Sem.run_pure, Result.andThen_ok]
              exact this
            · have := o4 0 hl0
              rw [List.getElem?_eq_getElem hl0] at hx
              cases hx
              exact this
        · cases hx
      · cases hx
    · cases hx
theorem rvs_ok {P : Program} {tt : List (Nat × TI)} (htt : TTok P tt) {E : Env} {I : Imm} {ρ : Nat → RB} {σ : AState} {a : Act} {w : World} (h : RelT E I ρ σ.fs a w) : ∀ (rs : List ResultVar) {l : List AVal}, rvsV tt σ rs = some l →
    ∃ vs : List Value, (rs.mapM (resF a.tmps)).run P w = .ok vs w ∧ vs.length = l.length ∧ ∀ i (hi : i < l.length), CA I ρ (· < σ.nx) l[i] (vs.getD i undef)
  | [], l, hl => by
    cases hl
    exact ⟨[], by simp, rfl, fun i hi => by simp at hi⟩
  | r :: rs, l, hl => by
    simp only [rvsV] at hl
    split at hl
    · rename_i x l' hx hl'
      cases hl
      obtain ⟨v, h1, h2⟩ := rv_ok htt h r hx
      obtain ⟨vs, h3, h4, h5⟩ := rvs_ok htt h rs hl'
      refine ⟨v :: vs, by simp [List.mapM_cons, h1, h3], by simp [h4], fun i hi => ?_⟩
      cases i with
      | zero => simpa using h2
      | succ i => simpa using h5 i (by simpa using hi)
    · cases hl
theorem retR_val {P : Program} {tt : List (Nat × TI)} (htt : TTok P tt) {E : Env} {I : Imm} {ρ : Nat → RB} {σ : AState} {a : Act} {w : World} (h : RelT E I ρ σ.fs a w) {rs : List ResultVar} {l : List AVal} (hl : rvsV tt σ rs = some l) :
    ∃ v, CA I ρ (· < σ.nx) (oneOf l) v ∧ ∀ fn : Func, fn.results.toList = rs → (results fn a.tmps).run P w = .ok v w := by
  obtain ⟨vs, h1, h2, h3⟩ := rvs_ok htt h rs hl
  have hF : ∀ (F : ResultVar → Sem Value), (∀ r, F r = resF a.tmps r) → (rs.mapM F).run P w = .ok vs w := fun F h => by rw [funext h]; exact h1
  have hrun : ∀ fn : Func, fn.results.toList = rs → (results fn a.tmps).run P w = .ok (if h : vs.toArray.size = 1 then vs.toArray[0] else .tuple vs.toArray) w := by
    intro fn hf
    unfold results
    rw [Array.mapM_eq_mapM_toList, hf]
    rw [Sem.run_bind, Sem.run_map]
    rw [hF _ (fun r => by cases r <;> rfl)]
    simp
  refine ⟨_, ?_, hrun⟩
  clear hrun hF h1
  match l, vs, h2, h3 with
  | [x], [v], _, h3 => simpa [oneOf] using h3 0 (by simp)
  | [], [], _, _ => exact .tuple rfl fun i hi => by simp at hi
  | x :: y :: l, u :: v :: vs, h2, h3 =>
    have e : (if h : (u :: v :: vs).toArray.size = 1 then (u :: v :: vs).toArray[0] else Value.tuple (u :: v :: vs).toArray) = .tuple (u :: v :: vs).toArray := by simp
    rw [e]
    refine .tuple (by simpa using h2) fun i hi => ?_
    have := h3 i hi
    simpa using this
theorem retR_closed {P : Program} {tt : List (Nat × TI)} (htt : TTok P tt) {nb : Nat} {rs : List ResultVar} {r : AVal} {g' : Ghost} {σ : AState} (l : List AVal) (hg : σ.g = g') (hl : rvsV tt σ rs = some l) (hr : oneOf l = r) (hc : r.closed = true) : RetR P nb rs r [] 0 g' σ := by
  intro E I ρ a w _ h
  subst hg
  obtain ⟨v, h1, h2⟩ := retR_val htt h hl
  rw [hr] at h1
  exact ⟨I, ρ, v, Imm.le_refl I, h.bas, h.rel.drop, h1.unbind hc, h2⟩

theorem CallC.of_bodyR {P : Program} {tt : List (Nat × TI)} {fz : List Nat} {f : FuncId} {fn : Func} {body : Code} {args : List AVal} {rs : List ResultVar} {L L' : List (Nat × AObj)} {N N' : Nat} {g g' : Ghost} {r : AVal}
    (hf : P.funcs[f]? = some fn) (hb : fn.body = some body) (hres : fn.results.toList = rs) (hsz : args.length ≤ fn.ntmps)
    (h : Then ⟨P, tt, fz, N⟩ body (retKR P N rs r L' N' g') ⟨argTm 0 args, fn.ntmps, L, N, g⟩) : CallC P f args (sget L) N g r (sget L') N' g' := by
  intro E I ρ w vs hr ha
  let E' : Env := ⟨E.base, N, ρ⟩
  have hlen : vs.size = args.length := by have := ha.len; simpa using this.symm
  have hr' : Rel E' I ρ (· < N) (sget L) g w := by
    obtain ⟨own, hr⟩ := hr
    exact ⟨own, ⟨hr.env, hr.lt, hr.imm, hr.key, hr.obj, hr.ownd, hr.gst⟩⟩
  have harg : ∀ (l : List AVal) (us : List Value), All2 I ρ (· < N) l us → ∀ i, CA I ρ (· < N) (l.getD i .any) (us.getD i undef) := by
    intro l
    induction l with
    | nil => intro us _ i; simp; exact .any
    | cons x l ih =>
      intro us hu i
      cases us with
      | nil => exact hu.elim
      | cons u us =>
        cases i with
        | zero => exact hu.1
        | succ i => simpa using ih us hu.2 i
  have hT : RelT E' I ρ (AState.fs ⟨argTm 0 args, fn.ntmps, L, N, g⟩) { tmps := vs ++ Array.replicate (fn.ntmps - vs.size) undef, defers := [] } w := by
    refine ⟨hr', rfl, ?_, fun t => ?_, fun id h => h, fun id h => rfl⟩
    · simp [AState.fs]; omega
    · show CA I ρ (· < N) (look (argTm 0 args) t) _
      rw [look_argTm]
      simp only [Nat.zero_le, if_true, Nat.sub_zero]
      by_cases ht : t < vs.size
      · have := harg args vs.toList ha t
        simpa [Array.getElem?_append_left, ht] using this
      · have : args.getD t .any = .any := by simp [List.getElem?_eq_none (show args.length ≤ t by omega)]
        rw [this]; exact .any
  unfold Then WPc at h
  refine calls_of_wp hf hb (wp_mono (h E' I ρ _ w rfl hT) ?_)
  rintro e a' w' ⟨I', ρ', σ', h1, h2, h3, h4⟩
  have fin : RetR P N rs r L' N' g' σ' → a'.defers = [] ∧ ∃ v, (results fn a'.tmps).run P w' = .ok v w' ∧ ∃ I' ρ' v', I.le I' ∧ (∀ id, id < N → ρ' id = ρ id) ∧ Ending.returned v = .returned v' ∧ Rel E I' ρ' (· < N') (sget L') g' w' ∧ CA I' ρ' (· < N') r v' := by
    intro hret
    obtain ⟨I2, ρ2, v, q1, q2, q3, q4, q5⟩ := hret E' I' ρ' a' w' rfl h4
    refine ⟨h4.defs, v, q5 fn hres, I2, ρ2, v, Imm.le_trans h1 q1, q2, rfl, ?_, q4⟩
    obtain ⟨own, q3⟩ := q3
    exact ⟨own, ⟨q3.env, q3.lt, q3.imm, q3.key, q3.obj, q3.ownd, q3.gst⟩⟩
  cases e with
  | normal => exact fin h2
  | ret => exact fin h2
  | exit id => exact h2.elim
  | goto l => exact h2.elim
  | panic ch => exact h2.elim
  | outgrown => exact h2.elim
theorem Pure.of_bodyR {P : Program} (tt : List (Nat × TI)) (fz : List Nat) {f : FuncId} {fn : Func} {body : Code} {args : List AVal} (rs : List ResultVar) {r : AVal}
    (hf : P.funcs[f]? = some fn) (hnm : (fn.name == "runtime.NumGoroutine") = false) (hb : fn.body = some body) (hres : fn.results.toList = rs) (hsz : args.length ≤ fn.ntmps)
    (h : ∀ g, Then ⟨P, tt, fz, 0⟩ body (retKR P 0 rs r [] 0 g) ⟨argTm 0 args, fn.ntmps, [], 0, g⟩) : Pure P f args r :=
  ⟨⟨fn, hf, hnm, by rw [hb]; rfl⟩, fun g => CallC.of_bodyR (L := []) (L' := []) hf hb hres hsz (h g)⟩
attribute [irreducible] RetR
end Go.Mq

namespace Go.Proofs.Ytlgajkoplklkiaa
namespace Tm
open Go Go.Mq
set_option linter.all false

/-! The document's rows -/
structure Rw where
  kind : Int
  word : ByteArray
  lo : Int
  hi : Int
  label : Bool
  kids : ByteArray
instance : Inhabited Rw := ⟨⟨0, ByteArray.empty, 0, 0, false, ByteArray.empty⟩⟩
def rowD (r : Rw) : Nat → Mq.Data
  | 0 => .int .i64 r.kind
  | 1 => .str r.word
  | 2 => .int .i64 r.lo
  | 3 => .int .i64 r.hi
  | 4 => .bool r.label
  | _ => .str r.kids
def rowsL : List Rw := [
  ⟨130, ByteArray.empty, 0, 65536, false, ByteArray.empty⟩, ⟨131, ByteArray.empty, -1073741824, 1073741824, false, ByteArray.empty⟩, ⟨132, ByteArray.empty, 0, 1, false, ByteArray.empty⟩, ⟨133, ByteArray.empty, 0, 0, false, ByteArray.empty⟩,
  ⟨134, ⟨#[108, 97, 109]⟩, 0, 0, false, ⟨#[99, 88]⟩⟩, ⟨135, ⟨#[97, 112, 112]⟩, 0, 0, false, ⟨#[120, 120]⟩⟩, ⟨136, ⟨#[114, 101, 99]⟩, 0, 0, false, ⟨#[102]⟩⟩, ⟨138, ⟨#[112, 114, 111, 106]⟩, 0, 0, true, ⟨#[120]⟩⟩,
  ⟨139, ⟨#[116, 108, 97, 109]⟩, 0, 0, false, ⟨#[107, 84]⟩⟩, ⟨140, ⟨#[116, 97, 112, 112]⟩, 0, 0, false, ⟨#[120, 99]⟩⟩, ⟨141, ⟨#[112, 97, 99, 107]⟩, 0, 0, false, ⟨#[99, 120, 99]⟩⟩, ⟨142, ⟨#[117, 110, 112, 97, 99, 107]⟩, 0, 0, false, ⟨#[120, 66]⟩⟩,
  ⟨143, ⟨#[108, 101, 116]⟩, 0, 0, false, ⟨#[120, 88]⟩⟩, ⟨144, ⟨#[105, 102]⟩, 0, 0, false, ⟨#[120, 120, 120]⟩⟩, ⟨145, ⟨#[111, 112]⟩, 1, 5, false, ⟨#[120, 120]⟩⟩, ⟨146, ⟨#[105, 110]⟩, 0, 0, true, ⟨#[99, 120]⟩⟩,
  ⟨147, ⟨#[99, 97, 115, 101]⟩, 0, 0, false, ⟨#[120, 97]⟩⟩, ⟨148, ⟨#[102, 111, 108, 100]⟩, 0, 0, false, ⟨#[120, 99, 97]⟩⟩]
def flatR : List Rw → List Mq.Data
  | [] => []
  | r :: l => rowD r 0 :: rowD r 1 :: rowD r 2 :: rowD r 3 :: rowD r 4 :: rowD r 5 :: flatR l
theorem flatR_get : ∀ (l : List Rw) (i j : Nat), i < l.length → j < 6 → (flatR l).getD (i * 6 + j) .nils = rowD (l.getD i default) j
  | [], _, _, h, _ => by simp at h
  | r :: l, 0, j, _, hj => by
    match j, hj with
    | 0, _ => rfl
    | 1, _ => rfl
    | 2, _ => rfl
    | 3, _ => rfl
    | 4, _ => rfl
    | 5, _ => rfl
  | r :: l, i + 1, j, h, hj => by
    rw [flatR, show (i + 1) * 6 + j = (i * 6 + j) + 1 + 1 + 1 + 1 + 1 + 1 by omega]
    simp only [List.getD_cons_succ]
    exact flatR_get l i j (by simpa using h) hj
theorem rowsL_len : rowsL.length = 18 := rfl
theorem _root_.Go.Mq.Pure.weaken {P : Program} {f : FuncId} {args : List AVal} {x y : Mq.Data} (h : Mq.Pure P f args (.d x)) (hxy : ∀ I v, Cd I x v → Cd I y v) : Mq.Pure P f args (.d y) := by
  refine ⟨h.1, fun g E I ρ w vs hr ha => (h.2 g E I ρ w vs hr ha).mono ?_⟩
  rintro en w' ⟨I', ρ', v, h1, h2, h3, h4, h5⟩
  refine ⟨I', ρ', v, h1, h2, h3, h4, ?_⟩
  cases h5 with
  | d h5 => exact .d (hxy _ _ h5)
theorem _root_.Go.Mq.Cd.slice_congr {I : Imm} {n sz : Nat} {f g : Nat → Nat → Mq.Data} (h : ∀ i j, i < n → j < sz → f i j = g i j) {v : Value} (e : Cd I (.slice n sz f) v) : Cd I (.slice n sz g) v := by
  cases e with
  | slice hl hm hc ht => exact .slice hl hm hc fun i j hi hj => by rw [← h i j hi hj]; exact ht i j hi hj
  | slice0 => exact .slice0
  | sliceE => exact .sliceE
set_option maxHeartbeats 4000000 in
set_option maxRecDepth 100000 in
theorem rows_ok : Pure P 62 [] (.d (.slice 18 6 fun i j => rowD (rowsL.getD i default) j)) := by
  have h : Pure P 62 [] (.d (.slice 18 6 fun i j => (flatR rowsL).getD (i * 6 + j) .nils)) := by
    refine Pure.of_body tt [23] [0] Try.func62 rfl rfl rfl (Nat.le_of_ble_eq_true rfl) fun g => ?_
    repeat' ((first
      | refine then_go hm htt ?_
      | refine Side.go ?_
      | refine Hyp.go fun hlen => ?_
      | refine Split.ct ?_
      | refine Split.cf ?_
      | refine Split.tt ?_
      | refine Split.ff ?_
      | refine Indep.go ?_
      | refine Split.go (fun hc => ?_) fun hc => ?_) <;> conv => whnf)
    exact ret_closed rfl rfl rfl
  exact h.weaken fun I v e => e.slice_congr fun i j hi hj => flatR_get rowsL i j (by rw [rowsL_len]; exact hi) hj

def findR (kind : Int) : List Rw → Option Rw
  | [] => none
  | r :: l => if r.kind = kind then some r else findR kind l
def rowA (o : Option Rw) : AVal := .agg [.d (.int .i64 (o.getD default).kind), .d (.str (o.getD default).word), .d (.int .i64 (o.getD default).lo), .d (.int .i64 (o.getD default).hi), .d (.bool (o.getD default).label), .d (.str (o.getD default).kids)]
theorem dropR_step {l : List Rw} {i : Nat} (h : i < l.length) : l.drop i = l.getD i default :: l.drop (i + 1) := by
  rw [List.getD_eq_getElem?_getD, List.getElem?_eq_getElem h, List.drop_eq_getElem_cons h]; rfl
set_option maxHeartbeats 4000000 in
set_option maxRecDepth 100000 in
theorem form_ok (kind : Int) : Pure P 35 [.d (.int .i64 kind)] (.tuple [rowA (findR kind rowsL), .d (.bool (findR kind rowsL).isSome)]) := by
  refine Pure.of_bodyR tt [] [.cell 2 84, .tmp 3] Try.func35 rfl rfl rfl (Nat.le_of_ble_eq_true rfl) fun g => ?_
  repeat' ((first
    | refine then_go hm htt ?_
    | refine Side.go ?_
    | refine Hyp.go fun hlen => ?_
    | refine Split.ct ?_
    | refine Split.cf ?_
    | refine Split.tt ?_
    | refine Split.ff ?_
    | refine Indep.go ?_
    | refine CallG.gp rows_ok ?_
    | refine Split.go (fun hc => ?_) fun hc => ?_) <;> conv => whnf)
  refine loop_go (α := Nat) (fun p => ⟨[(0, .d (.int .i64 kind)), (2, .ref 0 0), (4, .d (.slice 18 6 fun i j => rowD (rowsL.getD i default) j)), (5, .d (.int .i64 p))], 25, [(0, .cells [.d (.int .i64 0), .d (.str ByteArray.empty), .d (.int .i64 0), .d (.int .i64 0), .d (.bool false), .d (.str ByteArray.empty)])], 1, g⟩)
      (fun p => p ≤ 18 ∧ findR kind (rowsL.drop p) = findR kind rowsL) (fun p => 18 - p) 0 ⟨by omega, rfl⟩
      (Ent.go [0]) (fun _ => rfl) fun p hpre => ?_
  obtain ⟨hp1, hp2⟩ := hpre
  by_cases hp : p < 18
  · rw [dropR_step (by rw [rowsL_len]; exact hp), findR] at hp2
    by_cases hk : (rowsL.getD p default).kind = kind
    · rw [if_pos hk] at hp2
      rw [← hp2]
      repeat' ((first
        | refine then_go hm htt ?_
        | refine Side.go ?_
        | refine Hyp.go fun hlen => ?_
        | refine Split.ct ?_
        | refine Split.cf ?_
        | refine Split.tt ?_
        | refine Split.ff ?_
        | refine Indep.go ?_
        | refine Split.of_true (show ((rowsL.getD p default).kind == kind) = true from by rw [hk]; exact beq_self_eq_true _) ?_
        | refine Side.mk (show (0 : Int) ≤ (p : Int) ∧ (p : Int) < 18 from by omega) ?_
        | refine Split.go (fun hc => ?_) fun hc => ?_) <;> conv => whnf)
      exact retR_closed htt _ rfl rfl rfl rfl
    · rw [if_neg hk] at hp2
      repeat' ((first
        | refine then_go hm htt ?_
        | refine Side.go ?_
        | refine Hyp.go fun hlen => ?_
        | refine Split.ct ?_
        | refine Split.cf ?_
        | refine Split.tt ?_
        | refine Split.ff ?_
        | refine Indep.go ?_
        | refine Split.of_false (show ((rowsL.getD p default).kind == kind) = false from by simpa using hk) ?_
        | refine Side.mk (show (0 : Int) ≤ (p : Int) ∧ (p : Int) < 18 from by omega) ?_
        | refine Split.go (fun hc => ?_) fun hc => ?_) <;> conv => whnf)
      exact ⟨p + 1, ⟨by omega, hp2⟩, by omega, Ent.go [0]⟩
  · rw [List.drop_eq_nil_of_le (by rw [rowsL_len]; omega), findR] at hp2
    rw [← hp2]
    repeat' ((first
      | refine then_go hm htt ?_
      | refine Side.go ?_
      | refine Hyp.go fun hlen => ?_
      | refine Split.ct ?_
      | refine Split.cf ?_
      | refine Split.tt ?_
      | refine Split.ff ?_
      | refine Indep.go ?_
      | refine Split.go (fun hc => ?_) fun hc => ?_) <;> conv => whnf)
    exact retR_closed htt _ rfl rfl rfl rfl
end Tm
end Go.Proofs.Ytlgajkoplklkiaa

namespace Go.Proofs.Ytlgajkoplklkiaa
namespace Tm
open Go Go.Mq
set_option linter.all false

theorem parts0 (l : List Tree) : partsL [] l = decide (l.length = 0) := rfl
theorem partsF1 (l : List Tree) : partsL [102] l = labT 137 true [] l := by
  have : partsL [102] l = listF 137 l := rfl
  rw [this, listF]; simp
theorem partsA1 (l : List Tree) : partsL [97] l = (labT 149 false [] l && decide (0 < l.length)) := by
  have : partsL [97] l = listF 149 l := rfl
  rw [this, listF]; simp
theorem parts1 (a : UInt8) (h1 : a ≠ 102) (h2 : a ≠ 97) (l : List Tree) : partsL [a] l = (decide (l.length = 1) && sgn a (l.getD 0 .nil)) := by
  rw [partsL_cons, if_neg (by simpa using h1), if_neg (by simpa using h2)]
  match l with
  | [] => rw [tailsL]; simp
  | [x] => rw [tailsL, parts0]; simp
  | x :: y :: l => rw [tailsL, parts0]; simp
theorem partsS (a b : UInt8) (r : List UInt8) (l : List Tree) : partsL (a :: b :: r) l = (decide (1 ≤ l.length) && sgn a (l.getD 0 .nil) && partsL (b :: r) (l.drop 1)) := by
  rw [partsL_cons, if_neg (by simp), if_neg (by simp)]
  match l with
  | [] => rw [tailsL]; simp
  | x :: l => rw [tailsL]; simp
theorem getD_drop1 (l : List Tree) (i k : Nat) : (l.drop k).getD i .nil = l.getD (k + i) .nil := by
  simp [List.getD_eq_getElem?_getD]
theorem parts2 (a b : UInt8) (h1 : b ≠ 102) (h2 : b ≠ 97) (l : List Tree) : partsL [a, b] l = (decide (l.length = 2) && sgn a (l.getD 0 .nil) && sgn b (l.getD 1 .nil)) := by
  rw [partsS, parts1 b h1 h2, getD_drop1, List.length_drop]
  by_cases h : l.length = 2
  · rw [decide_eq_true h, decide_eq_true (show 1 ≤ l.length by omega), decide_eq_true (show l.length - 1 = 1 by omega)]; simp
  · rw [decide_eq_false h, decide_eq_false (show ¬ l.length - 1 = 1 by omega)]; simp
theorem parts3 (a b c : UInt8) (h1 : c ≠ 102) (h2 : c ≠ 97) (l : List Tree) : partsL [a, b, c] l = (decide (l.length = 3) && sgn a (l.getD 0 .nil) && sgn b (l.getD 1 .nil) && sgn c (l.getD 2 .nil)) := by
  rw [partsS, parts2 b c h1 h2, getD_drop1, getD_drop1, List.length_drop]
  by_cases h : l.length = 3
  · rw [decide_eq_true h, decide_eq_true (show 1 ≤ l.length by omega), decide_eq_true (show l.length - 1 = 2 by omega)]; simp [Bool.and_assoc]
  · rw [decide_eq_false h, decide_eq_false (show ¬ l.length - 1 = 2 by omega)]; simp
theorem partsA2 (a : UInt8) (l : List Tree) : partsL [a, 97] l = (decide (1 < l.length) && sgn a (l.getD 0 .nil) && labT 149 false [] (l.drop 1)) := by
  rw [partsS, partsA1, List.length_drop]
  by_cases h : 1 < l.length
  · rw [decide_eq_true h, decide_eq_true (show 1 ≤ l.length by omega), decide_eq_true (show 0 < l.length - 1 by omega)]; simp
  · rw [decide_eq_false h, decide_eq_false (show ¬ 0 < l.length - 1 by omega)]; simp
theorem partsA3 (a b : UInt8) (l : List Tree) : partsL [a, b, 97] l = (decide (2 < l.length) && sgn a (l.getD 0 .nil) && sgn b (l.getD 1 .nil) && labT 149 false [] (l.drop 2)) := by
  rw [partsS, partsA2, List.length_drop, getD_drop1, List.drop_drop]
  by_cases h : 2 < l.length
  · rw [decide_eq_true h, decide_eq_true (show 1 ≤ l.length by omega), decide_eq_true (show 1 < l.length - 1 by omega)]; simp [Bool.and_assoc]
  · rw [decide_eq_false h, decide_eq_false (show ¬ 1 < l.length - 1 by omega)]; simp
theorem sgn_c (x : Tree) : sgn 99 x = isConF x := rfl
theorem sgn_x (x : Tree) : sgn 120 x = isTermF x := rfl
theorem head_plain {T : Tree} (h : T.kind ≠ 138 ∧ T.kind ≠ 146) : headF T = (decide (T.mark = ByteArray.empty) && decide (T.name = ByteArray.empty) && numT T) := by
  unfold headF namedT
  rw [decide_eq_false h.1, decide_eq_false h.2]
  cases decide (T.name = ByteArray.empty) <;> simp
theorem head_named {T : Tree} (h : T.kind = 138 ∨ T.kind = 146) : headF T = (decide (T.mark = ByteArray.empty) && labelF T.name && numT T) := by
  unfold headF namedT
  have : (decide (T.kind = 138) || decide (T.kind = 146)) = true := by simpa using h
  rw [this]
  cases hl : labelF T.name with
  | false => simp
  | true =>
    have : T.name ≠ ByteArray.empty := by intro e; rw [e] at hl; revert hl; decide
    simp [this]
def rowF (T : Tree) : Option Rw → Bool
  | none => false
  | some r => decide (T.mark = ByteArray.empty) && (decide (r.lo ≤ T.n) && decide (T.n ≤ r.hi)) && (if r.label then labelF T.name else decide (T.name = ByteArray.empty)) && partsL r.kids.data.toList T.kids
theorem num0 (n : Int) : decide (n = 0) = (decide (0 ≤ n) && decide (n ≤ 0)) := by rw [Bool.eq_iff_iff]; simp; omega
theorem num1 (n : Int) : (decide (n = 0) || decide (n = 1)) = (decide (0 ≤ n) && decide (n ≤ 1)) := by rw [Bool.eq_iff_iff]; simp; omega
theorem kinds18 (k : Int) : (k = 130 ∨ k = 131 ∨ k = 132 ∨ k = 133 ∨ k = 134 ∨ k = 135 ∨ k = 136 ∨ k = 138 ∨ k = 139 ∨ k = 140 ∨ k = 141 ∨ k = 142 ∨ k = 143 ∨ k = 144 ∨ k = 145 ∨ k = 146 ∨ k = 147 ∨ k = 148) ∨ (k ≠ 130 ∧ k ≠ 131 ∧ k ≠ 132 ∧ k ≠ 133 ∧ k ≠ 134 ∧ k ≠ 135 ∧ k ≠ 136 ∧ k ≠ 138 ∧ k ≠ 139 ∧ k ≠ 140 ∧ k ≠ 141 ∧ k ≠ 142 ∧ k ≠ 143 ∧ k ≠ 144 ∧ k ≠ 145 ∧ k ≠ 146 ∧ k ≠ 147 ∧ k ≠ 148) := by omega
theorem findR_none {k : Int} (h : k ≠ 130 ∧ k ≠ 131 ∧ k ≠ 132 ∧ k ≠ 133 ∧ k ≠ 134 ∧ k ≠ 135 ∧ k ≠ 136 ∧ k ≠ 138 ∧ k ≠ 139 ∧ k ≠ 140 ∧ k ≠ 141 ∧ k ≠ 142 ∧ k ≠ 143 ∧ k ≠ 144 ∧ k ≠ 145 ∧ k ≠ 146 ∧ k ≠ 147 ∧ k ≠ 148) : findR k rowsL = none := by
  unfold rowsL
  simp only [findR]
  rw [if_neg (by omega), if_neg (by omega), if_neg (by omega), if_neg (by omega), if_neg (by omega), if_neg (by omega), if_neg (by omega), if_neg (by omega), if_neg (by omega), if_neg (by omega), if_neg (by omega), if_neg (by omega), if_neg (by omega), if_neg (by omega), if_neg (by omega), if_neg (by omega), if_neg (by omega), if_neg (by omega)]
theorem and4 (a b c d : Bool) : (a && b && c && d) = (a && c && b && d) := by cases a <;> cases b <;> cases c <;> rfl
set_option maxHeartbeats 4000000 in
theorem isTerm_rows {T : Tree} (hT : T ≠ .nil) : isTermF T = rowF T (findR T.kind rowsL) := by
  rw [isTermF_eq hT]
  rcases kinds18 T.kind with h | h
  · rcases h with h | h | h | h | h | h | h | h | h | h | h | h | h | h | h | h | h | h
    · have e : findR T.kind rowsL = some ⟨130, ByteArray.empty, 0, 65536, false, ByteArray.empty⟩ := by rw [h]; rfl
      have hk : numT T = (decide (0 ≤ T.n) && decide (T.n ≤ 65536)) := by unfold numT; rw [if_pos h]
      have hb : (decide (T.kids.length = 0)) = partsL [] T.kids := rfl
      rw [e, head_plain (by omega), hk, if_pos (by omega), hb, and4]
      rfl
    · have e : findR T.kind rowsL = some ⟨131, ByteArray.empty, -1073741824, 1073741824, false, ByteArray.empty⟩ := by rw [h]; rfl
      have hk : numT T = (decide (-1073741824 ≤ T.n) && decide (T.n ≤ 1073741824)) := by unfold numT; rw [if_neg (by omega), if_pos h]
      have hb : (decide (T.kids.length = 0)) = partsL [] T.kids := rfl
      rw [e, head_plain (by omega), hk, if_pos (by omega), hb, and4]
      rfl
    · have e : findR T.kind rowsL = some ⟨132, ByteArray.empty, 0, 1, false, ByteArray.empty⟩ := by rw [h]; rfl
      have hk : numT T = (decide (0 ≤ T.n) && decide (T.n ≤ 1)) := by unfold numT; rw [if_neg (by omega), if_neg (by omega), if_pos h, num1]
      have hb : (decide (T.kids.length = 0)) = partsL [] T.kids := rfl
      rw [e, head_plain (by omega), hk, if_pos (by omega), hb, and4]
      rfl
    · have e : findR T.kind rowsL = some ⟨133, ByteArray.empty, 0, 0, false, ByteArray.empty⟩ := by rw [h]; rfl
      have hk : numT T = (decide (0 ≤ T.n) && decide (T.n ≤ 0)) := by unfold numT; rw [if_neg (by omega), if_neg (by omega), if_neg (by omega), if_neg (by omega), num0]
      have hb : (decide (T.kids.length = 0)) = partsL [] T.kids := rfl
      rw [e, head_plain (by omega), hk, if_pos (by omega), hb, and4]
      rfl
    · have e : findR T.kind rowsL = some ⟨134, ⟨#[108, 97, 109]⟩, 0, 0, false, ⟨#[99, 88]⟩⟩ := by rw [h]; rfl
      have hk : numT T = (decide (0 ≤ T.n) && decide (T.n ≤ 0)) := by unfold numT; rw [if_neg (by omega), if_neg (by omega), if_neg (by omega), if_neg (by omega), num0]
      have hb : (decide (T.kids.length = 2) && isConF (T.kids.getD 0 .nil) && isTermF (T.kids.getD 1 .nil)) = partsL [99, 88] T.kids := by rw [parts2 _ _ (by decide) (by decide)]; rfl
      rw [e, head_plain (by omega), hk, if_neg (by omega), if_pos (by omega), hb, and4]
      rfl
    · have e : findR T.kind rowsL = some ⟨135, ⟨#[97, 112, 112]⟩, 0, 0, false, ⟨#[120, 120]⟩⟩ := by rw [h]; rfl
      have hk : numT T = (decide (0 ≤ T.n) && decide (T.n ≤ 0)) := by unfold numT; rw [if_neg (by omega), if_neg (by omega), if_neg (by omega), if_neg (by omega), num0]
      have hb : (decide (T.kids.length = 2) && isTermF (T.kids.getD 0 .nil) && isTermF (T.kids.getD 1 .nil)) = partsL [120, 120] T.kids := by rw [parts2 _ _ (by decide) (by decide)]; rfl
      rw [e, head_plain (by omega), hk, if_neg (by omega), if_neg (by omega), if_neg (by omega), if_pos (by omega), hb, and4]
      rfl
    · have e : findR T.kind rowsL = some ⟨136, ⟨#[114, 101, 99]⟩, 0, 0, false, ⟨#[102]⟩⟩ := by rw [h]; rfl
      have hk : numT T = (decide (0 ≤ T.n) && decide (T.n ≤ 0)) := by unfold numT; rw [if_neg (by omega), if_neg (by omega), if_neg (by omega), if_neg (by omega), num0]
      have hb : (tfieldsF 137 T.kids && pairsF true [] T.kids) = partsL [102] T.kids := by rw [partsF1, labT_eq]
      rw [e, head_plain (by omega), hk, if_neg (by omega), if_neg (by omega), if_neg (by omega), if_neg (by omega), if_pos (by omega), hb, and4]
      rfl
    · have e : findR T.kind rowsL = some ⟨138, ⟨#[112, 114, 111, 106]⟩, 0, 0, true, ⟨#[120]⟩⟩ := by rw [h]; rfl
      have hk : numT T = (decide (0 ≤ T.n) && decide (T.n ≤ 0)) := by unfold numT; rw [if_neg (by omega), if_neg (by omega), if_neg (by omega), if_neg (by omega), num0]
      have hb : (decide (T.kids.length = 1) && isTermF (T.kids.getD 0 .nil)) = partsL [120] T.kids := by rw [parts1 _ (by decide) (by decide)]; rfl
      rw [e, head_named (by omega), hk, if_neg (by omega), if_neg (by omega), if_neg (by omega), if_neg (by omega), if_neg (by omega), if_pos (by omega), hb, and4]
      rfl
    · have e : findR T.kind rowsL = some ⟨139, ⟨#[116, 108, 97, 109]⟩, 0, 0, false, ⟨#[107, 84]⟩⟩ := by rw [h]; rfl
      have hk : numT T = (decide (0 ≤ T.n) && decide (T.n ≤ 0)) := by unfold numT; rw [if_neg (by omega), if_neg (by omega), if_neg (by omega), if_neg (by omega), num0]
      have hb : (decide (T.kids.length = 2) && isKindF (T.kids.getD 0 .nil) && isTermF (T.kids.getD 1 .nil)) = partsL [107, 84] T.kids := by rw [parts2 _ _ (by decide) (by decide)]; rfl
      rw [e, head_plain (by omega), hk, if_neg (by omega), if_neg (by omega), if_pos (by omega), hb, and4]
      rfl
    · have e : findR T.kind rowsL = some ⟨140, ⟨#[116, 97, 112, 112]⟩, 0, 0, false, ⟨#[120, 99]⟩⟩ := by rw [h]; rfl
      have hk : numT T = (decide (0 ≤ T.n) && decide (T.n ≤ 0)) := by unfold numT; rw [if_neg (by omega), if_neg (by omega), if_neg (by omega), if_neg (by omega), num0]
      have hb : (decide (T.kids.length = 2) && isTermF (T.kids.getD 0 .nil) && isConF (T.kids.getD 1 .nil)) = partsL [120, 99] T.kids := by rw [parts2 _ _ (by decide) (by decide)]; rfl
      rw [e, head_plain (by omega), hk, if_neg (by omega), if_neg (by omega), if_neg (by omega), if_neg (by omega), if_neg (by omega), if_neg (by omega), if_pos (by omega), hb, and4]
      rfl
    · have e : findR T.kind rowsL = some ⟨141, ⟨#[112, 97, 99, 107]⟩, 0, 0, false, ⟨#[99, 120, 99]⟩⟩ := by rw [h]; rfl
      have hk : numT T = (decide (0 ≤ T.n) && decide (T.n ≤ 0)) := by unfold numT; rw [if_neg (by omega), if_neg (by omega), if_neg (by omega), if_neg (by omega), num0]
      have hb : (decide (T.kids.length = 3) && isConF (T.kids.getD 0 .nil) && isTermF (T.kids.getD 1 .nil) && isConF (T.kids.getD 2 .nil)) = partsL [99, 120, 99] T.kids := by rw [parts3 _ _ _ (by decide) (by decide)]; rfl
      rw [e, head_plain (by omega), hk, if_neg (by omega), if_neg (by omega), if_neg (by omega), if_neg (by omega), if_neg (by omega), if_neg (by omega), if_neg (by omega), if_pos (by omega), hb, and4]
      rfl
    · have e : findR T.kind rowsL = some ⟨142, ⟨#[117, 110, 112, 97, 99, 107]⟩, 0, 0, false, ⟨#[120, 66]⟩⟩ := by rw [h]; rfl
      have hk : numT T = (decide (0 ≤ T.n) && decide (T.n ≤ 0)) := by unfold numT; rw [if_neg (by omega), if_neg (by omega), if_neg (by omega), if_neg (by omega), num0]
      have hb : (decide (T.kids.length = 2) && isTermF (T.kids.getD 0 .nil) && isTermF (T.kids.getD 1 .nil)) = partsL [120, 66] T.kids := by rw [parts2 _ _ (by decide) (by decide)]; rfl
      rw [e, head_plain (by omega), hk, if_neg (by omega), if_neg (by omega), if_neg (by omega), if_pos (by omega), hb, and4]
      rfl
    · have e : findR T.kind rowsL = some ⟨143, ⟨#[108, 101, 116]⟩, 0, 0, false, ⟨#[120, 88]⟩⟩ := by rw [h]; rfl
      have hk : numT T = (decide (0 ≤ T.n) && decide (T.n ≤ 0)) := by unfold numT; rw [if_neg (by omega), if_neg (by omega), if_neg (by omega), if_neg (by omega), num0]
      have hb : (decide (T.kids.length = 2) && isTermF (T.kids.getD 0 .nil) && isTermF (T.kids.getD 1 .nil)) = partsL [120, 88] T.kids := by rw [parts2 _ _ (by decide) (by decide)]; rfl
      rw [e, head_plain (by omega), hk, if_neg (by omega), if_neg (by omega), if_neg (by omega), if_pos (by omega), hb, and4]
      rfl
    · have e : findR T.kind rowsL = some ⟨144, ⟨#[105, 102]⟩, 0, 0, false, ⟨#[120, 120, 120]⟩⟩ := by rw [h]; rfl
      have hk : numT T = (decide (0 ≤ T.n) && decide (T.n ≤ 0)) := by unfold numT; rw [if_neg (by omega), if_neg (by omega), if_neg (by omega), if_neg (by omega), num0]
      have hb : (decide (T.kids.length = 3) && isTermF (T.kids.getD 0 .nil) && isTermF (T.kids.getD 1 .nil) && isTermF (T.kids.getD 2 .nil)) = partsL [120, 120, 120] T.kids := by rw [parts3 _ _ _ (by decide) (by decide)]; rfl
      rw [e, head_plain (by omega), hk, if_neg (by omega), if_neg (by omega), if_neg (by omega), if_neg (by omega), if_neg (by omega), if_neg (by omega), if_neg (by omega), if_neg (by omega), if_pos (by omega), hb, and4]
      rfl
    · have e : findR T.kind rowsL = some ⟨145, ⟨#[111, 112]⟩, 1, 5, false, ⟨#[120, 120]⟩⟩ := by rw [h]; rfl
      have hk : numT T = (decide (1 ≤ T.n) && decide (T.n ≤ 5)) := by unfold numT; rw [if_neg (by omega), if_neg (by omega), if_neg (by omega), if_pos h]
      have hb : (decide (T.kids.length = 2) && isTermF (T.kids.getD 0 .nil) && isTermF (T.kids.getD 1 .nil)) = partsL [120, 120] T.kids := by rw [parts2 _ _ (by decide) (by decide)]; rfl
      rw [e, head_plain (by omega), hk, if_neg (by omega), if_neg (by omega), if_neg (by omega), if_pos (by omega), hb, and4]
      rfl
    · have e : findR T.kind rowsL = some ⟨146, ⟨#[105, 110]⟩, 0, 0, true, ⟨#[99, 120]⟩⟩ := by rw [h]; rfl
      have hk : numT T = (decide (0 ≤ T.n) && decide (T.n ≤ 0)) := by unfold numT; rw [if_neg (by omega), if_neg (by omega), if_neg (by omega), if_neg (by omega), num0]
      have hb : (decide (T.kids.length = 2) && isConF (T.kids.getD 0 .nil) && isTermF (T.kids.getD 1 .nil)) = partsL [99, 120] T.kids := by rw [parts2 _ _ (by decide) (by decide)]; rfl
      rw [e, head_named (by omega), hk, if_neg (by omega), if_pos (by omega), hb, and4]
      rfl
    · have e : findR T.kind rowsL = some ⟨147, ⟨#[99, 97, 115, 101]⟩, 0, 0, false, ⟨#[120, 97]⟩⟩ := by rw [h]; rfl
      have hk : numT T = (decide (0 ≤ T.n) && decide (T.n ≤ 0)) := by unfold numT; rw [if_neg (by omega), if_neg (by omega), if_neg (by omega), if_neg (by omega), num0]
      have hb : (decide (1 < T.kids.length) && isTermF (T.kids.getD 0 .nil) && tfieldsF 149 (T.kids.drop 1) && pairsF false [] (T.kids.drop 1)) = partsL [120, 97] T.kids := by rw [partsA2, labT_eq]; rw [sgn_x]; simp only [Bool.and_assoc]
      rw [e, head_plain (by omega), hk, if_neg (by omega), if_neg (by omega), if_neg (by omega), if_neg (by omega), if_neg (by omega), if_neg (by omega), if_neg (by omega), if_neg (by omega), if_neg (by omega), if_pos (by omega), hb, and4]
      rfl
    · have e : findR T.kind rowsL = some ⟨148, ⟨#[102, 111, 108, 100]⟩, 0, 0, false, ⟨#[120, 99, 97]⟩⟩ := by rw [h]; rfl
      have hk : numT T = (decide (0 ≤ T.n) && decide (T.n ≤ 0)) := by unfold numT; rw [if_neg (by omega), if_neg (by omega), if_neg (by omega), if_neg (by omega), num0]
      have hb : (decide (2 < T.kids.length) && isTermF (T.kids.getD 0 .nil) && isConF (T.kids.getD 1 .nil) && tfieldsF 149 (T.kids.drop 2) && pairsF false [] (T.kids.drop 2)) = partsL [120, 99, 97] T.kids := by rw [partsA3, labT_eq]; rw [sgn_x]; rw [sgn_c]; simp only [Bool.and_assoc]
      rw [e, head_plain (by omega), hk, if_neg (by omega), if_neg (by omega), if_neg (by omega), if_neg (by omega), if_neg (by omega), if_neg (by omega), if_neg (by omega), if_neg (by omega), if_neg (by omega), if_neg (by omega), if_pos (by omega), hb, and4]
      rfl
  · rw [findR_none h, if_neg (by omega), if_neg (by omega), if_neg (by omega), if_neg (by omega), if_neg (by omega), if_neg (by omega), if_neg (by omega), if_neg (by omega), if_neg (by omega), if_neg (by omega), if_neg (by omega)]
    simp [rowF]
end Tm
end Go.Proofs.Ytlgajkoplklkiaa

namespace Go.Proofs.Ytlgajkoplklkiaa
namespace Tm
open Go Go.Mq
set_option linter.all false

set_option maxHeartbeats 8000000 in
set_option maxRecDepth 10000 in
theorem rIs_ok (T : Tree) (hF : Full T) : Pure P 18 [.d (.tree T)] (.d (.bool (isTermF T))) := by
  suffices h : Full T → Pure P 18 [.d (.tree T)] (.d (.bool (isTermF T))) ∧ ∀ x ∈ T.kids, Pure P 18 [.d (.tree x)] (.d (.bool (isTermF x))) from (h hF).1
  clear hF
  induction T using Tree.ind' with
  | h0 => intro h; exact absurd rfl h.ne
  | h1 T hT ih => ?_
  intro hF
  refine ⟨?_, fun x hx => (ih x hx (hF.kids x hx)).1⟩
  have hkp : KidsP T.kids := fun x hx => ⟨hF.kids x hx, (ih x hx (hF.kids x hx)).1, (ih x hx (hF.kids x hx)).2⟩
  rw [isTerm_rows hT]
  have hfo := form_ok T.kind
  cases hr : findR T.kind rowsL with
  | none =>
    rw [hr] at hfo
    refine Pure.of_body tt [] [2] Try.func18 rfl rfl rfl (Nat.le_of_ble_eq_true rfl) fun g => ?_
    repeat' ((first
      | refine then_go hm htt ?_
      | refine Side.go ?_
      | refine Hyp.go fun hlen => ?_
      | refine Split.ct ?_
      | refine Split.cf ?_
      | refine Split.tt ?_
      | refine Split.ff ?_
      | refine Indep.go ?_
      | refine CallG.gp hfo ?_
      | refine Split.go (fun hc => ?_) fun hc => ?_) <;> conv => whnf)
    exact ret_closed rfl rfl rfl
  | some r =>
    rw [hr] at hfo
    have hpa := parts_ok r.kids.data.toList T.kids hkp
    have ew : wB r.kids.data.toList = r.kids := rfl
    rw [ew] at hpa
    have hla := rlabel13_ok T.name
    refine Pure.of_body tt [] [2] Try.func18 rfl rfl rfl (Nat.le_of_ble_eq_true rfl) fun g => ?_
    repeat' ((first
      | refine then_go hm htt ?_
      | refine Side.go ?_
      | refine Hyp.go fun hlen => ?_
      | refine Split.ct ?_
      | refine Split.cf ?_
      | refine Split.tt ?_
      | refine Split.ff ?_
      | refine Indep.go ?_
      | refine CallG.gp hfo ?_
      | refine CallG.gp hpa ?_
      | refine CallG.gp hla ?_
      | refine Split.go (fun hc => ?_) fun hc => ?_) <;> conv => whnf)
    all_goals refine ret_closed rfl (bool_eq ?_) rfl
    all_goals (try simp only [Option.getD_some] at *)
    all_goals unfold rowF
    all_goals simp_all [int_dec]
    all_goals omega
set_option maxRecDepth 10000 in
theorem whole_codes (T : Tree) : ∀ left : Int, (wholeF left T).1 = 0 ∨ (wholeF left T).1 = 1 ∨ (wholeF left T).1 = 3 := by
  induction T using Tree.ind' with
  | h0 => intro left; rw [wholeF]; exact .inr (.inl rfl)
  | h1 T hT ih =>
    intro left
    rw [wholeF_kids hT]
    split
    · exact .inr (.inr rfl)
    · generalize left - 1 = q
      have h : ∀ (l : List Tree) (q : Int), (∀ x ∈ l, ∀ left, (wholeF left x).1 = 0 ∨ (wholeF left x).1 = 1 ∨ (wholeF left x).1 = 3) → (wholesF q l).1 = 0 ∨ (wholesF q l).1 = 1 ∨ (wholesF q l).1 = 3 := by
        intro l
        induction l with
        | nil => intro q _; rw [wholesF]; exact .inl rfl
        | cons x l ihl =>
          intro q hx
          rw [wholesF]
          split
          · exact ihl _ fun y hy => hx y (by simp [hy])
          · exact hx x (by simp) q
      exact h T.kids q ih
set_option maxRecDepth 10000 in
theorem rtCheck_ok (T : Tree) : Pure P 8 [.d (.tree T)] (.d (.int .i64 (termE T))) := by
  have hwc := whole_codes T 65536
  refine Pure.of_body tt [] [2] Try.func8 rfl rfl rfl (Nat.le_of_ble_eq_true rfl) fun g => ?_
  unfold termE
  have hrc := rcheck_ok T
  by_cases hw : (wholeF 65536 T).1 = 0
  · have hF := wholeF_full T _ hw
    have his := rIs_ok T hF
    have e : conE T = if isConF T then 0 else 16 := by unfold conE checkF; rw [if_pos hw]
    have e2 : checkF (isTermF T) T = if isTermF T then 0 else 16 := by unfold checkF; rw [if_pos hw]
    have h16 : conE T = 0 ∨ conE T = 16 := by rw [e]; split <;> simp
    rw [e2]
    clear e e2
    rcases h16 with h16 | h16 <;> rw [h16] at hrc
    · cases hb : isTermF T <;> rw [hb] at his
      · repeat' ((first
          | refine then_go hm htt ?_
          | refine Side.go ?_
          | refine Hyp.go fun hlen => ?_
          | refine Split.ct ?_
          | refine Split.cf ?_
          | refine Split.tt ?_
          | refine Split.ff ?_
          | refine Indep.go ?_
          | refine CallG.gp hrc ?_
          | refine CallG.gp his ?_
          | refine Split.go (fun hc => ?_) fun hc => ?_) <;> conv => whnf)
        exact ret_closed rfl rfl rfl
      · repeat' ((first
          | refine then_go hm htt ?_
          | refine Side.go ?_
          | refine Hyp.go fun hlen => ?_
          | refine Split.ct ?_
          | refine Split.cf ?_
          | refine Split.tt ?_
          | refine Split.ff ?_
          | refine Indep.go ?_
          | refine CallG.gp hrc ?_
          | refine CallG.gp his ?_
          | refine Split.go (fun hc => ?_) fun hc => ?_) <;> conv => whnf)
        exact ret_closed rfl rfl rfl
    · cases hb : isTermF T <;> rw [hb] at his
      · repeat' ((first
          | refine then_go hm htt ?_
          | refine Side.go ?_
          | refine Hyp.go fun hlen => ?_
          | refine Split.ct ?_
          | refine Split.cf ?_
          | refine Split.tt ?_
          | refine Split.ff ?_
          | refine Indep.go ?_
          | refine CallG.gp hrc ?_
          | refine CallG.gp his ?_
          | refine Split.go (fun hc => ?_) fun hc => ?_) <;> conv => whnf)
        exact ret_closed rfl rfl rfl
      · repeat' ((first
          | refine then_go hm htt ?_
          | refine Side.go ?_
          | refine Hyp.go fun hlen => ?_
          | refine Split.ct ?_
          | refine Split.cf ?_
          | refine Split.tt ?_
          | refine Split.ff ?_
          | refine Indep.go ?_
          | refine CallG.gp hrc ?_
          | refine CallG.gp his ?_
          | refine Split.go (fun hc => ?_) fun hc => ?_) <;> conv => whnf)
        exact ret_closed rfl rfl rfl
  · have e : conE T = (wholeF 65536 T).1 := by unfold conE checkF; rw [if_neg hw]
    have e2 : checkF (isTermF T) T = (wholeF 65536 T).1 := by unfold checkF; rw [if_neg hw]
    have h0 : conE T ≠ 0 := by omega
    have h1 : conE T ≠ 16 := by omega
    rw [e2, ← e]
    repeat' ((first
      | refine then_go hm htt ?_
      | refine Side.go ?_
      | refine Hyp.go fun hlen => ?_
      | refine Split.ct ?_
      | refine Split.cf ?_
      | refine Split.tt ?_
      | refine Split.ff ?_
      | refine Indep.go ?_
      | refine CallG.gp hrc ?_
      | refine Split.go (fun hc => ?_) fun hc => ?_) <;> conv => whnf)
    exact ret_closed rfl rfl rfl
end Tm
end Go.Proofs.Ytlgajkoplklkiaa

namespace Go.Proofs.Ytlgajkoplklkiaa
namespace Tm
open Go Go.Mq
set_option linter.all false

def rowW (k : Int) : ByteArray := ((findR k rowsL).getD default).word
end Tm
end Go.Proofs.Ytlgajkoplklkiaa

namespace Go.Proofs.Ytlgajkoplklkiaa
open Go Go.Mq
set_option linter.all false

/-! A tree that is grown of cells has no more nodes than there are cells. -/
def dotF (f : Nat → Int) : Nat → List Int → Int
  | _, [] => 0
  | k, c :: r => c * f k + dotF f (k + 1) r
def sumI (f : Nat → Int) (l : List Int) : Int := (l.map fun x => f x.toNat).foldr (· + ·) 0
def sumC (f : Nat → Int) (l : List Cel) : Int := (l.map fun c => sumI f c.kids).foldr (· + ·) 0
def inB (B : Int) (l : List Int) : Prop := ∀ x ∈ l, 0 ≤ x ∧ x ≤ B
def cellS (l : List Cel) (i : Nat) : Int := sizeN (growF l l.length i)
/-- All of them together. -/
def allS (f : Nat → Int) : Nat → Nat → Int
  | _, 0 => 0
  | k, n + 1 => f k + allS f (k + 1) n
end Go.Proofs.Ytlgajkoplklkiaa

namespace Go.Proofs.Ytlgajkoplklkiaa
namespace Tm
open Go Go.Mq
set_option linter.all false

def fewL3 (l : List Cel) : List Cel := (l.take 80).map cutC
def fewF3 (l : List Cel) : Tree := (openF (fewL3 l)).1
theorem fewL3_cell (l : List Cel) (i j : Nat) (hi : i < (fewL3 l).length) (hj : j < 5) : rowG l (i * 5 + j) = .d (cellD ((fewL3 l).getD i default) j) := by
  have h1 : (i * 5 + j) / 5 = i := by omega
  have h2 : (i * 5 + j) % 5 = j := by omega
  unfold rowG
  rw [h1, h2]
  have h60 : i < 80 ∧ i < l.length := by simp [fewL3] at hi; omega
  have e : (fewL3 l).getD i default = cutC (l.getD i default) := by
    simp [fewL3, List.getElem?_take, h60.1, h60.2]
  rw [e]

set_option maxHeartbeats 8000000 in
set_option maxRecDepth 10000 in
theorem few3_ok (l : List Cel) : Pure P 6 [.agg [.d (cellsD l)]] (.d (.tree (fewF3 l))) := by
  refine Pure.of_body tt [] [2] Try.func6 rfl rfl rfl (Nat.le_of_ble_eq_true rfl) fun g => ?_
  repeat' ((first
    | refine then_go hm htt ?_
    | refine Side.go ?_
    | refine Hyp.go fun hlen => ?_
    | refine Split.ct ?_
    | refine Split.cf ?_
    | refine Split.tt ?_
    | refine Split.ff ?_
    | refine Indep.go ?_
    | refine Split.go (fun hc => ?_) fun hc => ?_) <;> conv => whnf)
  refine loop_go (α := Nat) (fun p => ⟨[(1, .ref 0 0), (3, .ref 1 0), (4, .d (.int .i64 p))], 62, [(0, .cells [.d (cellsD l)]), (1, .cells [.row 2 p]), (2, .row 40 (.gen p 5 (rowG l)))], 3, g⟩)
        (fun p => p ≤ l.length ∧ p ≤ 80) (fun p => l.length - p) 0 ⟨by simp, by simp⟩
        (Ent.nil rfl rfl rfl (by repeat' first | exact trivial | apply And.intro | rfl | (refine int_eq ?_; rw [wrap64] <;> omega)) (by repeat' first | exact trivial | apply And.intro | rfl | (refine int_eq ?_; rw [wrap64] <;> omega))) (fun _ => rfl) fun p hpre => ?_
  obtain ⟨hp1, hp2⟩ := hpre
  by_cases hlt : p < l.length ∧ p < 80
  · obtain ⟨hl1, hl2⟩ := hlt
    have hn := loF_le 165 (l.getD p default).name.size (by omega) (by omega)
    have hmk := loF_le 20 (l.getD p default).mark.size (by omega) (by omega)
    have hkd := loF_le 12 (l.getD p default).kids.length (by omega) (by omega)
    obtain rfl | ⟨k, rfl⟩ : p = 0 ∨ ∃ k, p = k + 1 := by cases p; exact .inl rfl; exact .inr ⟨_, rfl⟩
    · repeat' ((first
        | refine then_go hm htt ?_
        | refine Side.go ?_
        | refine Hyp.go fun hlen => ?_
        | refine Split.ct ?_
        | refine Split.cf ?_
        | refine Split.tt ?_
        | refine Split.ff ?_
        | refine Indep.go ?_
        | refine Side.mk (show (0 : Int) ≤ (0 : Int) ∧ (0 : Int) < (l.length : Int) from ⟨by omega, by omega⟩) ?_
        | refine Side.mk (show (0 : Int) ≤ loF 165 (l.getD 0 default).name.size ∧ loF 165 (l.getD 0 default).name.size ≤ (l.getD 0 default).name.size from ⟨by omega, by omega⟩) ?_
        | refine Side.mk (show (0 : Int) ≤ loF 20 (l.getD 0 default).mark.size ∧ loF 20 (l.getD 0 default).mark.size ≤ (l.getD 0 default).mark.size from ⟨by omega, by omega⟩) ?_
        | refine Side.mk (show (0 : Int) ≤ loF 12 (l.getD 0 default).kids.length ∧ loF 12 (l.getD 0 default).kids.length ≤ (l.getD 0 default).kids.length from ⟨by omega, by omega⟩) ?_
        | refine Side.mk (show (0 + (loF 12 (l.getD 0 default).kids.length).toNat ≤ 17592186044416 ∧ (0 + (loF 12 (l.getD 0 default).kids.length).toNat) * 8 ≤ 140737488355328) from ⟨by omega, by omega⟩) ?_
        | refine Side.mk (show (0 + 1 ≤ 17592186044416 ∧ (0 + 1) * 72 ≤ 140737488355328) from ⟨by omega, by omega⟩) ?_
        | refine Side.mk (show RowC.allOne _ from fun i _ => rfl) ?_
        | refine Side.mk (show RowC.allOne _ from fun i hi => by have hi : i < 5 := hi; match i, hi with | 0, _ => rfl | 1, _ => rfl | 2, _ => rfl | 3, _ => rfl | 4, _ => rfl) ?_
        | refine Split.go (fun hc => ?_) fun hc => ?_) <;> conv => whnf)
      refine ⟨1, ⟨by omega, by omega⟩, by omega, Ent.trans (Ent.fz_slice 5 (n := (cutC (l.getD 0 default)).kids.length) (sz := 1) (f := fun i _ => .int .i64 ((cutC (l.getD 0 default)).kids.getD i 0)) rfl ?_ rfl ?_ ?_ ?_) (Ent.trans (Ent.regen 7 (.gen 1 5 (rowG l)) rfl rfl rfl ?_) (Ent.re [0, 1, 7] rfl rfl rfl rfl rfl rfl (by repeat' first | exact trivial | apply And.intro | rfl | (refine int_eq ?_; rw [wrap64] <;> omega)) (by repeat' first | exact trivial | apply And.intro | rfl | exact fun i => rfl)))⟩
      · exact cutC_len (l.getD 0 default)
      · intro i j hi hj
        exact cutC_cell (l.getD 0 default) i j hi hj
      · repeat' first | exact trivial | apply And.intro | rfl | exact cutC_len (l.getD 0 default) | exact cutC_len0 (l.getD 0 default)
      · repeat' first | exact trivial | apply And.intro | rfl | exact cutC_len0 (l.getD 0 default) | (refine fun i => getD_fzOk ?_ i)
      · intro i hi
        have hi : i < 1 * 5 := hi
        match i, hi with
        | 0, _ => rfl
        | 1, _ => rfl
        | 2, _ => rfl
        | 3, _ => rfl
        | 4, _ => rfl
    · repeat' ((first
        | refine then_go hm htt ?_
        | refine Side.go ?_
        | refine Hyp.go fun hlen => ?_
        | refine Split.ct ?_
        | refine Split.cf ?_
        | refine Split.tt ?_
        | refine Split.ff ?_
        | refine Indep.go ?_
        | refine Side.mk (show (0 : Int) ≤ ((k + 1 : Nat) : Int) ∧ ((k + 1 : Nat) : Int) < (l.length : Int) from ⟨by omega, by omega⟩) ?_
        | refine Side.mk (show (0 : Int) ≤ loF 165 (l.getD (k + 1) default).name.size ∧ loF 165 (l.getD (k + 1) default).name.size ≤ (l.getD (k + 1) default).name.size from ⟨by omega, by omega⟩) ?_
        | refine Side.mk (show (0 : Int) ≤ loF 20 (l.getD (k + 1) default).mark.size ∧ loF 20 (l.getD (k + 1) default).mark.size ≤ (l.getD (k + 1) default).mark.size from ⟨by omega, by omega⟩) ?_
        | refine Side.mk (show (0 : Int) ≤ loF 12 (l.getD (k + 1) default).kids.length ∧ loF 12 (l.getD (k + 1) default).kids.length ≤ (l.getD (k + 1) default).kids.length from ⟨by omega, by omega⟩) ?_
        | refine Side.mk (show (0 + (loF 12 (l.getD (k + 1) default).kids.length).toNat ≤ 17592186044416 ∧ (0 + (loF 12 (l.getD (k + 1) default).kids.length).toNat) * 8 ≤ 140737488355328) from ⟨by omega, by omega⟩) ?_
        | refine Side.mk (show ((k + 1) + 1 ≤ 17592186044416 ∧ ((k + 1) + 1) * 72 ≤ 140737488355328) from ⟨by omega, by omega⟩) ?_
        | refine Side.mk (show RowC.allOne _ from fun i _ => rfl) ?_
        | refine Side.mk (show RowC.allOne _ from fun i hi => by have hi : i < 5 := hi; match i, hi with | 0, _ => rfl | 1, _ => rfl | 2, _ => rfl | 3, _ => rfl | 4, _ => rfl) ?_
        | refine Split.go (fun hc => ?_) fun hc => ?_) <;> conv => whnf)
      refine ⟨k + 2, ⟨by omega, by omega⟩, by omega, Ent.trans (Ent.fz_slice 5 (n := (cutC (l.getD (k + 1) default)).kids.length) (sz := 1) (f := fun i _ => .int .i64 ((cutC (l.getD (k + 1) default)).kids.getD i 0)) rfl ?_ rfl ?_ ?_ ?_) (Ent.trans (Ent.regen 7 (.gen (k + 1 + 1) 5 (rowG l)) rfl rfl rfl ?_) (Ent.re [0, 1, 7] rfl rfl rfl rfl rfl rfl (by repeat' first | exact trivial | apply And.intro | rfl | (refine int_eq ?_; rw [wrap64] <;> omega)) (by repeat' first | exact trivial | apply And.intro | rfl | exact fun i => rfl)))⟩
      · exact cutC_len (l.getD (k + 1) default)
      · intro i j hi hj
        exact cutC_cell (l.getD (k + 1) default) i j hi hj
      · repeat' first | exact trivial | apply And.intro | rfl | exact cutC_len (l.getD (k + 1) default) | exact cutC_len0 (l.getD (k + 1) default)
      · repeat' first | exact trivial | apply And.intro | rfl | exact cutC_len0 (l.getD (k + 1) default) | (refine fun i => getD_fzOk ?_ i) | (refine fun i => ite_fzOk ?_ (getD_fzOk ?_ _))
      · intro i hi
        have hi : i < (k + 1 + 1) * 5 := hi
        show rowG l i = AVal.fz 5 _ _ (ite (i < (k + 1) * 5) _ _)
        by_cases hik : i < (k + 1) * 5
        · rw [if_pos hik]; rfl
        · rw [if_neg hik]
          obtain ⟨j, rfl⟩ : ∃ j, i = (k + 1) * 5 + j := ⟨i - (k + 1) * 5, by omega⟩
          have hj : j < 5 := by omega
          have h1 : ((k + 1) * 5 + j) / 5 = k + 1 := by omega
          have h2 : ((k + 1) * 5 + j) % 5 = j := by omega
          have h3 : (k + 1) * 5 + j - (k + 1) * 5 = j := by omega
          unfold rowG
          rw [h1, h2, h3]
          match j, hj with
          | 0, _ => rfl
          | 1, _ => rfl
          | 2, _ => rfl
          | 3, _ => rfl
          | 4, _ => rfl
  · have hfl : p = (fewL3 l).length := by simp [fewL3]; omega
    have hcell : ∀ i j, i < (fewL3 l).length → j < 5 → rowG l (i * 5 + j) = .d (cellD ((fewL3 l).getD i default) j) := fun i j hi hj => fewL3_cell l i j hi hj
    by_cases hpl : p = l.length
    · refine then_go hm htt ?_
      conv => whnf
      repeat' ((first
        | refine Side.go ?_
        | refine Hyp.go fun hlen => ?_
        | refine Split.ct ?_
        | refine Split.cf ?_
        | refine Split.tt ?_
        | refine Split.ff ?_
        | refine Indep.go ?_
        | refine Split.go (fun hc => ?_) fun hc => ?_) <;> conv => whnf)
      refine then_go hm htt ?_
      conv => whnf
      repeat' ((first
        | refine Side.go ?_
        | refine Hyp.go fun hlen => ?_
        | refine Split.ct ?_
        | refine Split.cf ?_
        | refine Split.tt ?_
        | refine Split.ff ?_
        | refine Indep.go ?_
        | refine Split.go (fun hc => ?_) fun hc => ?_) <;> conv => whnf)
      refine then_go hm htt ?_
      conv => whnf
      refine then_ent (Ent.fz_slice 2 (n := (fewL3 l).length) (sz := 5) (f := fun i j => cellD ((fewL3 l).getD i default) j) rfl hfl rfl hcell ?_ ?_) ?_
      · repeat' first | exact trivial | apply And.intro | rfl | exact hfl
      · repeat' first | exact trivial | apply And.intro | rfl | exact hfl
      repeat' ((first
        | refine then_go hm htt ?_
        | refine Side.go ?_
        | refine Hyp.go fun hlen => ?_
        | refine Split.ct ?_
        | refine Split.cf ?_
        | refine Split.tt ?_
        | refine Split.ff ?_
        | refine Indep.go ?_
        | refine CallG.gp (open_ok (fewL3 l)) ?_
        | refine Split.go (fun hc => ?_) fun hc => ?_) <;> conv => whnf)
      exact ret_closed rfl (tree_eq rfl) rfl
    · have hpl2 : p < l.length := by omega
      have hp60 : ¬ p < 80 := by omega
      refine then_go hm htt ?_
      conv => whnf
      repeat' ((first
        | refine Side.go ?_
        | refine Hyp.go fun hlen => ?_
        | refine Split.ct ?_
        | refine Split.cf ?_
        | refine Split.tt ?_
        | refine Split.ff ?_
        | refine Indep.go ?_
        | refine Split.go (fun hc => ?_) fun hc => ?_) <;> conv => whnf)
      refine then_go hm htt ?_
      conv => whnf
      repeat' ((first
        | refine Side.go ?_
        | refine Hyp.go fun hlen => ?_
        | refine Split.ct ?_
        | refine Split.cf ?_
        | refine Split.tt ?_
        | refine Split.ff ?_
        | refine Indep.go ?_
        | refine Split.go (fun hc => ?_) fun hc => ?_) <;> conv => whnf)
      refine then_go hm htt ?_
      conv => whnf
      refine then_ent (Ent.fz_slice 2 (n := (fewL3 l).length) (sz := 5) (f := fun i j => cellD ((fewL3 l).getD i default) j) rfl hfl rfl hcell ?_ ?_) ?_
      · repeat' first | exact trivial | apply And.intro | rfl | exact hfl
      · repeat' first | exact trivial | apply And.intro | rfl | exact hfl
      repeat' ((first
        | refine then_go hm htt ?_
        | refine Side.go ?_
        | refine Hyp.go fun hlen => ?_
        | refine Split.ct ?_
        | refine Split.cf ?_
        | refine Split.tt ?_
        | refine Split.ff ?_
        | refine Indep.go ?_
        | refine CallG.gp (open_ok (fewL3 l)) ?_
        | refine Split.go (fun hc => ?_) fun hc => ?_) <;> conv => whnf)
      exact ret_closed rfl (tree_eq rfl) rfl

end Tm
end Go.Proofs.Ytlgajkoplklkiaa

namespace Go.Proofs.Ytlgajkoplklkiaa
namespace Tm
open Go Go.Mq
set_option linter.all false

end Tm
end Go.Proofs.Ytlgajkoplklkiaa

namespace Go.Proofs.Ytlgajkoplklkiaa
namespace Tm
open Go Go.Mq
set_option linter.all false

/-! What is free -/
def mx (a b : Int) : Int := if b > a then b else a
theorem mx_eq (a b : Int) : mx a b = max a b := by unfold mx; split <;> omega
def bndF (k : Int) (i : Nat) : Int × Int := if k = 149 then (0, 1) else if i ≠ 1 then (0, 0) else if k = 139 then (1, 0) else if k = 142 then (1, 1) else if k = 134 ∨ k = 143 then (0, 1) else (0, 0)
theorem bnd_cases (k : Int) (i : Nat) : bndF k i = (0, 0) ∨ bndF k i = (0, 1) ∨ bndF k i = (1, 0) ∨ bndF k i = (1, 1) := by
  unfold bndF
  repeat' split
  all_goals simp
theorem bnd_le (k : Int) (i : Nat) : 0 ≤ (bndF k i).1 ∧ (bndF k i).1 ≤ 1 ∧ 0 ≤ (bndF k i).2 ∧ (bndF k i).2 ≤ 1 := by
  rcases bnd_cases k i with h | h | h | h <;> rw [h] <;> decide
set_option maxHeartbeats 4000000 in
set_option maxRecDepth 10000 in
theorem tbinds_ok (T : Tree) (hT : T ≠ .nil) (i : Nat) : Pure P 53 [.d (.tree T), .d (.int .i64 i)] (.tuple [.d (.int .i64 (bndF T.kind i).1), .d (.int .i64 (bndF T.kind i).2)]) := by
  refine Pure.of_body tt [] [4, 5] Try.func53 rfl rfl rfl (Nat.le_of_ble_eq_true rfl) fun g => ?_
  unfold bndF
  by_cases k1 : T.kind = 149
  · rw [if_pos k1]
    repeat' ((first
      | refine then_go hm htt ?_
      | refine Side.go ?_
      | refine Hyp.go fun hlen => ?_
      | refine Split.ct ?_
      | refine Split.cf ?_
      | refine Split.tt ?_
      | refine Split.ff ?_
      | refine Indep.go ?_
      | refine Split.go (fun hc => ?_) fun hc => ?_) <;> conv => whnf)
    exact ret_closed rfl rfl rfl
  rw [if_neg k1]
  by_cases k2 : i = 1
  · rw [if_neg (by omega)]
    subst k2
    by_cases k3 : T.kind = 139
    · rw [if_pos k3]
      repeat' ((first
        | refine then_go hm htt ?_
        | refine Side.go ?_
        | refine Hyp.go fun hlen => ?_
        | refine Split.ct ?_
        | refine Split.cf ?_
        | refine Split.tt ?_
        | refine Split.ff ?_
        | refine Indep.go ?_
        | refine Split.go (fun hc => ?_) fun hc => ?_) <;> conv => whnf)
      exact ret_closed rfl rfl rfl
    rw [if_neg k3]
    by_cases k4 : T.kind = 142
    · rw [if_pos k4]
      repeat' ((first
        | refine then_go hm htt ?_
        | refine Side.go ?_
        | refine Hyp.go fun hlen => ?_
        | refine Split.ct ?_
        | refine Split.cf ?_
        | refine Split.tt ?_
        | refine Split.ff ?_
        | refine Indep.go ?_
        | refine Split.go (fun hc => ?_) fun hc => ?_) <;> conv => whnf)
      exact ret_closed rfl rfl rfl
    rw [if_neg k4]
    by_cases k5 : T.kind = 134 ∨ T.kind = 143
    · rw [if_pos k5]
      repeat' ((first
        | refine then_go hm htt ?_
        | refine Side.go ?_
        | refine Hyp.go fun hlen => ?_
        | refine Split.ct ?_
        | refine Split.cf ?_
        | refine Split.tt ?_
        | refine Split.ff ?_
        | refine Indep.go ?_
        | refine Split.go (fun hc => ?_) fun hc => ?_) <;> conv => whnf)
      all_goals exact ret_closed rfl rfl rfl
    · rw [if_neg k5]
      repeat' ((first
        | refine then_go hm htt ?_
        | refine Side.go ?_
        | refine Hyp.go fun hlen => ?_
        | refine Split.ct ?_
        | refine Split.cf ?_
        | refine Split.tt ?_
        | refine Split.ff ?_
        | refine Indep.go ?_
        | refine Split.go (fun hc => ?_) fun hc => ?_) <;> conv => whnf)
      all_goals exact ret_closed rfl rfl rfl
  · rw [if_pos k2]
    repeat' ((first
      | refine then_go hm htt ?_
      | refine Side.go ?_
      | refine Hyp.go fun hlen => ?_
      | refine Split.ct ?_
      | refine Split.cf ?_
      | refine Split.tt ?_
      | refine Split.ff ?_
      | refine Indep.go ?_
      | refine Split.go (fun hc => ?_) fun hc => ?_) <;> conv => whnf)
    exact ret_closed rfl rfl rfl
mutual
def freeT : Tree → Int → Int → Int × Int
  | .nil, _, _ => (0, 0)
  | .node k n nm mk l, c, t => if k = 130 then (0, n - t + 1) else if k < 130 then (freeR (.node k n nm mk l) - c, 0) else freesT k 0 l c t
def freesT (k : Int) (i : Nat) : List Tree → Int → Int → Int × Int
  | [], _, _ => (0, 0)
  | x :: l, c, t => (mx (freesT k (i + 1) l c t).1 (freeT x (c + (bndF k i).1) (t + (bndF k i).2)).1, mx (freesT k (i + 1) l c t).2 (freeT x (c + (bndF k i).1) (t + (bndF k i).2)).2)
end
theorem freeT_eq {T : Tree} (h : T ≠ .nil) (c t : Int) : freeT T c t = if T.kind = 130 then (0, T.n - t + 1) else if T.kind < 130 then (freeR T - c, 0) else freesT T.kind 0 T.kids c t := by
  cases T with
  | nil => exact absurd rfl h
  | node => rw [freeT]; rfl
theorem freesT_pos (k : Int) : ∀ (l : List Tree) (i : Nat) (c t : Int), 0 ≤ (freesT k i l c t).1 ∧ 0 ≤ (freesT k i l c t).2
  | [], i, c, t => by rw [freesT]; exact ⟨Int.le_refl _, Int.le_refl _⟩
  | x :: l, i, c, t => by
    have h := freesT_pos k l (i + 1) c t
    rw [freesT]
    simp only [mx_eq]
    omega
theorem freeR_le (T : Tree) : 0 ≤ freeR T ∧ freeR T ≤ 65537 := by
  rw [freeR_eq, rfreeR]
  split
  · rename_i h
    have hz := conE_size h
    have hl : lim = 1099511627776 := rfl
    have h1 := free_bound T 0 (conE_plain h) (by omega) (by omega)
    have h2 := (free_hits T 0 (conE_plain h) (by omega) (by omega)).2.1
    omega
  · omega
theorem cellI {a b : Int} (h : a = b) : some (AObj.cells [AVal.d (.int .i64 a)]) = some (AObj.cells [AVal.d (.int .i64 b)]) := by rw [h]
def walkC : Int → Int → List (Nat × AObj) := fun A B => [(0, .cells [.d (.int .i64 B)]), (1, .cells [.d (.int .i64 A)]), (2, .cells [.fn 52 [.ref 0 0, .ref 1 0, .ref 2 0]])]
theorem shw_kids {T : Tree} (h : Shw T) : T.kind < 130 ∨ ((130 ≤ T.kind) ∧ (T.kind = 130 → 0 ≤ T.n ∧ T.n ≤ 65536) ∧ ∀ x ∈ T.kids, Shw x) := by
  rcases h with h | h | h | h
  · exact .inl (con_lt h)
  · obtain ⟨hh, hk⟩ := term_head h
    exact .inr ⟨hh.kind.1, hh.n130, hk⟩
  · obtain ⟨p1, p2, p3, p4, p5⟩ := tfield_parts h
    refine .inr ⟨by omega, fun q => by omega, fun x hx => ?_⟩
    rw [mem_one p4 hx]; exact .inr (.inl p5)
  · obtain ⟨p1, p2, p3, p4, p5⟩ := tfield_parts h
    refine .inr ⟨by omega, fun q => by omega, fun x hx => ?_⟩
    rw [mem_one p4 hx]; exact .inr (.inl p5)
set_option maxHeartbeats 8000000 in
set_option maxRecDepth 10000 in
theorem twalk_ok (T : Tree) : ∀ (c t A B : Int), Shw T → 0 ≤ c → c + sizeN T ≤ 1099511627776 → 0 ≤ t → t + sizeN T ≤ 1099511627776 → 0 ≤ A → 0 ≤ B →
    Fun P 52 [.d (.tree T), .d (.int .i64 c), .d (.int .i64 t), .ref 0 0, .ref 1 0, .ref 2 0] (walkC A B) 3 (.tuple []) (walkC (mx A (freeT T c t).1) (mx B (freeT T c t).2)) 3 := by
  induction T using Tree.ind' with
  | h0 => intro c t A B h; exact absurd rfl h.ne
  | h1 T hT ih => ?_
  intro c t A B hs hc0 hc1 ht0 ht1 hA hB
  have hsz := sizeN_kids hT
  have hfe := freeT_eq hT c t
  unfold walkC
  refine Fun.of_body tt [] [] Try.func52 rfl rfl rfl (Nat.le_of_ble_eq_true rfl) fun g => ?_
  rcases shw_kids hs with hk | ⟨hk, hn, hkids⟩
  · rw [if_neg (by omega), if_pos hk] at hfe
    rw [hfe]
    have hfr := freeR_le T
    repeat' ((first
      | refine then_go hm htt ?_
      | refine Side.go ?_
      | refine Hyp.go fun hlen => ?_
      | refine Split.ct ?_
      | refine Split.cf ?_
      | refine Split.tt ?_
      | refine Split.ff ?_
      | refine Indep.go ?_
      | refine CallG.gp (free_ok T) ?_
      | refine Split.go (fun hc => ?_) fun hc => ?_) <;> conv => whnf)
    refine ret_objs rfl rfl rfl ?_ (Nat.le_refl _)
    have e : IntKind.i64.wrap (freeR T - c) = freeR T - c := wrap64 (by omega) (by omega)
    refine ⟨cellI ?_, cellI ?_, rfl, trivial⟩
    · simp only [mx_eq]; omega
    · rw [e]; rfl
  by_cases q : T.kind = 130
  · rw [if_pos q] at hfe
    rw [hfe]
    have hb := hn q
    repeat' ((first
      | refine then_go hm htt ?_
      | refine Side.go ?_
      | refine Hyp.go fun hlen => ?_
      | refine Split.ct ?_
      | refine Split.cf ?_
      | refine Split.tt ?_
      | refine Split.ff ?_
      | refine Indep.go ?_
      | refine Split.go (fun hc => ?_) fun hc => ?_) <;> conv => whnf)
    refine ret_objs rfl rfl rfl ?_ (Nat.le_refl _)
    have e : IntKind.i64.wrap (T.n - t) = T.n - t := wrap64 (by omega) (by omega)
    have e2 : IntKind.i64.wrap (IntKind.i64.wrap (T.n - t) + 1) = T.n - t + 1 := by rw [e]; exact wrap64 (by omega) (by omega)
    refine ⟨cellI ?_, cellI ?_, rfl, trivial⟩
    · rw [e2]; rfl
    · simp only [mx_eq]; omega
  rw [if_neg q, if_neg (by omega)] at hfe
  rw [hfe]
  repeat' ((first
    | refine then_go hm htt ?_
    | refine Side.go ?_
    | refine Hyp.go fun hlen => ?_
    | refine Split.ct ?_
    | refine Split.cf ?_
    | refine Split.tt ?_
    | refine Split.ff ?_
    | refine Indep.go ?_
    | refine Split.go (fun hc => ?_) fun hc => ?_) <;> conv => whnf)
  refine loop_go (α := Nat × Int × Int) (fun p => ⟨[(0, .d (.tree T)), (1, .d (.int .i64 c)), (2, .d (.int .i64 t)), (3, .ref 0 0), (4, .ref 1 0), (5, .ref 2 0), (43, .d (.trees T.kids)), (44, .d (.int .i64 T.kids.length)), (45, .d (.int .i64 p.1))], 66, [(0, .cells [.d (.int .i64 p.2.2)]), (1, .cells [.d (.int .i64 p.2.1)]), (2, .cells [.fn 52 [.ref 0 0, .ref 1 0, .ref 2 0]])], 3, g⟩)
      (fun p => p.1 ≤ T.kids.length ∧ 0 ≤ p.2.1 ∧ 0 ≤ p.2.2 ∧ mx p.2.1 (freesT T.kind p.1 (T.kids.drop p.1) c t).1 = mx A (freesT T.kind 0 T.kids c t).1 ∧ mx p.2.2 (freesT T.kind p.1 (T.kids.drop p.1) c t).2 = mx B (freesT T.kind 0 T.kids c t).2) (fun p => T.kids.length - p.1) (0, A, B) ⟨by simp, hA, hB, rfl, rfl⟩
      (Ent.go [0, 1, 2]) (fun _ => rfl) fun p hpre => ?_
  obtain ⟨p, A', B'⟩ := p
  obtain ⟨hp1, hp2, hp3, hp4, hp5⟩ := hpre
  simp only [] at hp1 hp2 hp3 hp4 hp5
  by_cases hlt : p < T.kids.length
  · have hmx := getD_mem hlt
    have s1 := sizesN_mem hmx
    rw [drop_step hlt, freesT] at hp4 hp5
    have hbl := bnd_le T.kind p
    have hbi := tbinds_ok T hT p
    generalize bndF T.kind p = b at *
    obtain ⟨b1, b2⟩ := b
    simp only [] at hbl hbi hp4 hp5
    have hih := ih _ hmx (c + b1) (t + b2) A' B' (hkids _ hmx) (by omega) (by omega) (by omega) (by omega) hp2 hp3
    have hq := freesT_pos T.kind (T.kids.drop (p + 1)) (p + 1) c t
    have w1 : IntKind.i64.wrap (c + b1) = c + b1 := wrap64 (by omega) (by omega)
    have w2 : IntKind.i64.wrap (t + b2) = t + b2 := wrap64 (by omega) (by omega)
    generalize freeT (T.kids.getD p .nil) (c + b1) (t + b2) = F at *
    rw [← w1, ← w2] at hih
    unfold walkC at hih
    repeat' ((first
      | refine then_go hm htt ?_
      | refine Side.go ?_
      | refine Hyp.go fun hlen => ?_
      | refine Split.ct ?_
      | refine Split.cf ?_
      | refine Split.tt ?_
      | refine Split.ff ?_
      | refine Indep.go ?_
      | refine CallG.gp hbi ?_
      | refine CallG.go hih [0, 1, 2] ?_
      | refine Split.go (fun hc => ?_) fun hc => ?_) <;> conv => whnf)
    exact ⟨(p + 1, mx A' F.1, mx B' F.2), ⟨by simp only []; omega, by simp only [mx_eq]; omega, by simp only [mx_eq]; omega, by simp only []; rw [← hp4]; simp only [mx_eq]; omega, by simp only []; rw [← hp5]; simp only [mx_eq]; omega⟩, by simp only []; omega, Ent.go [0, 1, 2]⟩
  · rw [drop_end (by omega), freesT] at hp4 hp5
    repeat' ((first
      | refine then_go hm htt ?_
      | refine Side.go ?_
      | refine Hyp.go fun hlen => ?_
      | refine Split.ct ?_
      | refine Split.cf ?_
      | refine Split.tt ?_
      | refine Split.ff ?_
      | refine Indep.go ?_
      | refine Split.go (fun hc => ?_) fun hc => ?_) <;> conv => whnf)
    refine ret_objs rfl rfl rfl ?_ (Nat.le_refl _)
    refine ⟨cellI ?_, cellI ?_, rfl, trivial⟩
    · rw [← hp5]; simp only [mx_eq]; omega
    · rw [← hp4]; simp only [mx_eq]; omega
def tfreeR (T : Tree) : Int × Int := if termE T = 0 then (mx 0 (freeT T 0 0).1, mx 0 (freeT T 0 0).2) else (0, 0)
set_option maxHeartbeats 4000000 in
set_option maxRecDepth 10000 in
theorem tFree_ok (T : Tree) : Pure P 26 [.d (.tree T)] (.tuple [.d (.int .i64 (tfreeR T).1), .d (.int .i64 (tfreeR T).2)]) := by
  refine Pure.of_bodyR tt [] [.cell 2 3, .cell 3 3] Try.func26 rfl rfl rfl (Nat.le_of_ble_eq_true rfl) fun g => ?_
  unfold tfreeR
  by_cases h : termE T = 0
  · have h1 := tCheck_ok T
    rw [h] at h1
    obtain ⟨h2, h3, h4⟩ := termE_ok h
    have h5 := twalk_ok T 0 0 0 0 (.inr (.inl h2)) (by omega) (by omega) (by omega) (by omega) (by omega) (by omega)
    rw [if_pos h]
    unfold walkC at h5
    repeat' ((first
      | refine then_go hm htt ?_
      | refine Side.go ?_
      | refine Hyp.go fun hlen => ?_
      | refine Split.ct ?_
      | refine Split.cf ?_
      | refine Split.tt ?_
      | refine Split.ff ?_
      | refine Indep.go ?_
      | refine CallG.gp h1 ?_
      | refine CallG.go h5 [1, 0, 2] ?_
      | refine Split.go (fun hc => ?_) fun hc => ?_) <;> conv => whnf)
    exact retR_closed htt _ rfl rfl rfl rfl
  · rw [if_neg h]
    repeat' ((first
      | refine then_go hm htt ?_
      | refine Side.go ?_
      | refine Hyp.go fun hlen => ?_
      | refine Split.ct ?_
      | refine Split.cf ?_
      | refine Split.tt ?_
      | refine Split.ff ?_
      | refine Indep.go ?_
      | refine CallG.gp (tCheck_ok T) ?_
      | refine Split.go (fun hc => ?_) fun hc => ?_) <;> conv => whnf)
    exact retR_closed htt _ rfl rfl rfl rfl
end Tm
end Go.Proofs.Ytlgajkoplklkiaa

namespace Go.Proofs.Ytlgajkoplklkiaa
namespace Tm
open Go Go.Mq
set_option linter.all false

def sgR (r : Rw) (p : Nat) : Int := bt r.kids (if (p : Int) < (r.kids.size : Int) then (p : Int) else (r.kids.size : Int) - 1)
def KSign (s : Int) (x : Tree) (b : Int × Int) : Prop :=
  (s = 99 ∧ isConF x = true ∧ b = (0, 0)) ∨ (s = 107 ∧ isKindF x = true ∧ b = (0, 0)) ∨ (s = 102 ∧ tfieldF 137 x = true ∧ b = (0, 0)) ∨ (s = 97 ∧ tfieldF 149 x = true ∧ b = (0, 0)) ∨
  (s = 88 ∧ isTermF x = true ∧ b = (0, 1)) ∨ (s = 84 ∧ isTermF x = true ∧ b = (1, 0)) ∨ (s = 66 ∧ isTermF x = true ∧ b = (1, 1)) ∨ (s = 120 ∧ isTermF x = true ∧ b = (0, 0))
set_option maxHeartbeats 4000000 in
theorem kid_sign {T : Tree} (hT : T ≠ .nil) (ht : isTermF T = true) (h130 : T.kind ≠ 130) {r : Rw} (hr : findR T.kind rowsL = some r) :
    (0 < T.kids.length → 0 < r.kids.size) ∧ ∀ p, p < T.kids.length → KSign (sgR r p) (T.kids.getD p .nil) (bndF T.kind p) := by
  have hrow := ht
  rw [isTerm_rows hT] at hrow
  rcases kinds18 T.kind with h | h
  · rcases h with h | h | h | h | h | h | h | h | h | h | h | h | h | h | h | h | h | h
    · exact absurd h h130
    · have e : findR T.kind rowsL = some ⟨131, ByteArray.empty, -1073741824, 1073741824, false, ByteArray.empty⟩ := by rw [h]; rfl
      rw [e] at hr hrow
      cases hr
      simp only [rowF, Bool.and_eq_true] at hrow
      have hp : partsL [] T.kids = true := hrow.2
      rw [parts0] at hp
      have hp := of_decide_eq_true hp
      exact ⟨fun q => absurd q (by omega), fun p hlt => absurd hlt (by omega)⟩
    · have e : findR T.kind rowsL = some ⟨132, ByteArray.empty, 0, 1, false, ByteArray.empty⟩ := by rw [h]; rfl
      rw [e] at hr hrow
      cases hr
      simp only [rowF, Bool.and_eq_true] at hrow
      have hp : partsL [] T.kids = true := hrow.2
      rw [parts0] at hp
      have hp := of_decide_eq_true hp
      exact ⟨fun q => absurd q (by omega), fun p hlt => absurd hlt (by omega)⟩
    · have e : findR T.kind rowsL = some ⟨133, ByteArray.empty, 0, 0, false, ByteArray.empty⟩ := by rw [h]; rfl
      rw [e] at hr hrow
      cases hr
      simp only [rowF, Bool.and_eq_true] at hrow
      have hp : partsL [] T.kids = true := hrow.2
      rw [parts0] at hp
      have hp := of_decide_eq_true hp
      exact ⟨fun q => absurd q (by omega), fun p hlt => absurd hlt (by omega)⟩
    · have e : findR T.kind rowsL = some ⟨134, ⟨#[108, 97, 109]⟩, 0, 0, false, ⟨#[99, 88]⟩⟩ := by rw [h]; rfl
      rw [e] at hr hrow
      cases hr
      simp only [rowF, Bool.and_eq_true] at hrow
      have hp : partsL [99, 88] T.kids = true := hrow.2
      refine ⟨fun q => by decide, ?_⟩
      intro p hlt
      rw [parts2 _ _ (by decide) (by decide)] at hp
      simp only [Bool.and_eq_true, decide_eq_true_eq] at hp
      have hl := hp.1.1
      have hpc : p = 0 ∨ p = 1 := by omega
      rcases hpc with rfl | rfl
      · exact .inl ⟨rfl, hp.1.2, by rw [h]; rfl⟩
      · exact .inr (.inr (.inr (.inr (.inl ⟨rfl, hp.2, by rw [h]; rfl⟩))))
    · have e : findR T.kind rowsL = some ⟨135, ⟨#[97, 112, 112]⟩, 0, 0, false, ⟨#[120, 120]⟩⟩ := by rw [h]; rfl
      rw [e] at hr hrow
      cases hr
      simp only [rowF, Bool.and_eq_true] at hrow
      have hp : partsL [120, 120] T.kids = true := hrow.2
      refine ⟨fun q => by decide, ?_⟩
      intro p hlt
      rw [parts2 _ _ (by decide) (by decide)] at hp
      simp only [Bool.and_eq_true, decide_eq_true_eq] at hp
      have hl := hp.1.1
      have hpc : p = 0 ∨ p = 1 := by omega
      rcases hpc with rfl | rfl
      · exact .inr (.inr (.inr (.inr (.inr (.inr (.inr (⟨rfl, hp.1.2, by rw [h]; rfl⟩)))))))
      · exact .inr (.inr (.inr (.inr (.inr (.inr (.inr (⟨rfl, hp.2, by rw [h]; rfl⟩)))))))
    · have e : findR T.kind rowsL = some ⟨136, ⟨#[114, 101, 99]⟩, 0, 0, false, ⟨#[102]⟩⟩ := by rw [h]; rfl
      rw [e] at hr hrow
      cases hr
      simp only [rowF, Bool.and_eq_true] at hrow
      have hp : partsL [102] T.kids = true := hrow.2
      refine ⟨fun q => by decide, ?_⟩
      intro p hlt
      rw [partsF1, labT_eq, Bool.and_eq_true] at hp
      have ei : (if (p : Int) < ((⟨#[102]⟩ : ByteArray).size : Int) then (p : Int) else ((⟨#[102]⟩ : ByteArray).size : Int) - 1) = 0 := by have : (⟨#[102]⟩ : ByteArray).size = 1 := rfl; split <;> omega
      unfold sgR
      rw [ei]
      exact .inr (.inr (.inl ⟨rfl, tfieldsF_mem hp.1 _ (getD_mem hlt), by rw [h]; unfold bndF; simp⟩))
    · have e : findR T.kind rowsL = some ⟨138, ⟨#[112, 114, 111, 106]⟩, 0, 0, true, ⟨#[120]⟩⟩ := by rw [h]; rfl
      rw [e] at hr hrow
      cases hr
      simp only [rowF, Bool.and_eq_true] at hrow
      have hp : partsL [120] T.kids = true := hrow.2
      refine ⟨fun q => by decide, ?_⟩
      intro p hlt
      rw [parts1 _ (by decide) (by decide)] at hp
      simp only [Bool.and_eq_true, decide_eq_true_eq] at hp
      have hl := hp.1
      have hpc : p = 0 := by omega
      rcases hpc with rfl
      · exact .inr (.inr (.inr (.inr (.inr (.inr (.inr (⟨rfl, hp.2, by rw [h]; rfl⟩)))))))
    · have e : findR T.kind rowsL = some ⟨139, ⟨#[116, 108, 97, 109]⟩, 0, 0, false, ⟨#[107, 84]⟩⟩ := by rw [h]; rfl
      rw [e] at hr hrow
      cases hr
      simp only [rowF, Bool.and_eq_true] at hrow
      have hp : partsL [107, 84] T.kids = true := hrow.2
      refine ⟨fun q => by decide, ?_⟩
      intro p hlt
      rw [parts2 _ _ (by decide) (by decide)] at hp
      simp only [Bool.and_eq_true, decide_eq_true_eq] at hp
      have hl := hp.1.1
      have hpc : p = 0 ∨ p = 1 := by omega
      rcases hpc with rfl | rfl
      · exact .inr (.inl ⟨rfl, hp.1.2, by rw [h]; rfl⟩)
      · exact .inr (.inr (.inr (.inr (.inr (.inl ⟨rfl, hp.2, by rw [h]; rfl⟩)))))
    · have e : findR T.kind rowsL = some ⟨140, ⟨#[116, 97, 112, 112]⟩, 0, 0, false, ⟨#[120, 99]⟩⟩ := by rw [h]; rfl
      rw [e] at hr hrow
      cases hr
      simp only [rowF, Bool.and_eq_true] at hrow
      have hp : partsL [120, 99] T.kids = true := hrow.2
      refine ⟨fun q => by decide, ?_⟩
      intro p hlt
      rw [parts2 _ _ (by decide) (by decide)] at hp
      simp only [Bool.and_eq_true, decide_eq_true_eq] at hp
      have hl := hp.1.1
      have hpc : p = 0 ∨ p = 1 := by omega
      rcases hpc with rfl | rfl
      · exact .inr (.inr (.inr (.inr (.inr (.inr (.inr (⟨rfl, hp.1.2, by rw [h]; rfl⟩)))))))
      · exact .inl ⟨rfl, hp.2, by rw [h]; rfl⟩
    · have e : findR T.kind rowsL = some ⟨141, ⟨#[112, 97, 99, 107]⟩, 0, 0, false, ⟨#[99, 120, 99]⟩⟩ := by rw [h]; rfl
      rw [e] at hr hrow
      cases hr
      simp only [rowF, Bool.and_eq_true] at hrow
      have hp : partsL [99, 120, 99] T.kids = true := hrow.2
      refine ⟨fun q => by decide, ?_⟩
      intro p hlt
      rw [parts3 _ _ _ (by decide) (by decide)] at hp
      simp only [Bool.and_eq_true, decide_eq_true_eq] at hp
      have hl := hp.1.1.1
      have hpc : p = 0 ∨ p = 1 ∨ p = 2 := by omega
      rcases hpc with rfl | rfl | rfl
      · exact .inl ⟨rfl, hp.1.1.2, by rw [h]; rfl⟩
      · exact .inr (.inr (.inr (.inr (.inr (.inr (.inr (⟨rfl, hp.1.2, by rw [h]; rfl⟩)))))))
      · exact .inl ⟨rfl, hp.2, by rw [h]; rfl⟩
    · have e : findR T.kind rowsL = some ⟨142, ⟨#[117, 110, 112, 97, 99, 107]⟩, 0, 0, false, ⟨#[120, 66]⟩⟩ := by rw [h]; rfl
      rw [e] at hr hrow
      cases hr
      simp only [rowF, Bool.and_eq_true] at hrow
      have hp : partsL [120, 66] T.kids = true := hrow.2
      refine ⟨fun q => by decide, ?_⟩
      intro p hlt
      rw [parts2 _ _ (by decide) (by decide)] at hp
      simp only [Bool.and_eq_true, decide_eq_true_eq] at hp
      have hl := hp.1.1
      have hpc : p = 0 ∨ p = 1 := by omega
      rcases hpc with rfl | rfl
      · exact .inr (.inr (.inr (.inr (.inr (.inr (.inr (⟨rfl, hp.1.2, by rw [h]; rfl⟩)))))))
      · exact .inr (.inr (.inr (.inr (.inr (.inr (.inl ⟨rfl, hp.2, by rw [h]; rfl⟩))))))
    · have e : findR T.kind rowsL = some ⟨143, ⟨#[108, 101, 116]⟩, 0, 0, false, ⟨#[120, 88]⟩⟩ := by rw [h]; rfl
      rw [e] at hr hrow
      cases hr
      simp only [rowF, Bool.and_eq_true] at hrow
      have hp : partsL [120, 88] T.kids = true := hrow.2
      refine ⟨fun q => by decide, ?_⟩
      intro p hlt
      rw [parts2 _ _ (by decide) (by decide)] at hp
      simp only [Bool.and_eq_true, decide_eq_true_eq] at hp
      have hl := hp.1.1
      have hpc : p = 0 ∨ p = 1 := by omega
      rcases hpc with rfl | rfl
      · exact .inr (.inr (.inr (.inr (.inr (.inr (.inr (⟨rfl, hp.1.2, by rw [h]; rfl⟩)))))))
      · exact .inr (.inr (.inr (.inr (.inl ⟨rfl, hp.2, by rw [h]; rfl⟩))))
    · have e : findR T.kind rowsL = some ⟨144, ⟨#[105, 102]⟩, 0, 0, false, ⟨#[120, 120, 120]⟩⟩ := by rw [h]; rfl
      rw [e] at hr hrow
      cases hr
      simp only [rowF, Bool.and_eq_true] at hrow
      have hp : partsL [120, 120, 120] T.kids = true := hrow.2
      refine ⟨fun q => by decide, ?_⟩
      intro p hlt
      rw [parts3 _ _ _ (by decide) (by decide)] at hp
      simp only [Bool.and_eq_true, decide_eq_true_eq] at hp
      have hl := hp.1.1.1
      have hpc : p = 0 ∨ p = 1 ∨ p = 2 := by omega
      rcases hpc with rfl | rfl | rfl
      · exact .inr (.inr (.inr (.inr (.inr (.inr (.inr (⟨rfl, hp.1.1.2, by rw [h]; rfl⟩)))))))
      · exact .inr (.inr (.inr (.inr (.inr (.inr (.inr (⟨rfl, hp.1.2, by rw [h]; rfl⟩)))))))
      · exact .inr (.inr (.inr (.inr (.inr (.inr (.inr (⟨rfl, hp.2, by rw [h]; rfl⟩)))))))
    · have e : findR T.kind rowsL = some ⟨145, ⟨#[111, 112]⟩, 1, 5, false, ⟨#[120, 120]⟩⟩ := by rw [h]; rfl
      rw [e] at hr hrow
      cases hr
      simp only [rowF, Bool.and_eq_true] at hrow
      have hp : partsL [120, 120] T.kids = true := hrow.2
      refine ⟨fun q => by decide, ?_⟩
      intro p hlt
      rw [parts2 _ _ (by decide) (by decide)] at hp
      simp only [Bool.and_eq_true, decide_eq_true_eq] at hp
      have hl := hp.1.1
      have hpc : p = 0 ∨ p = 1 := by omega
      rcases hpc with rfl | rfl
      · exact .inr (.inr (.inr (.inr (.inr (.inr (.inr (⟨rfl, hp.1.2, by rw [h]; rfl⟩)))))))
      · exact .inr (.inr (.inr (.inr (.inr (.inr (.inr (⟨rfl, hp.2, by rw [h]; rfl⟩)))))))
    · have e : findR T.kind rowsL = some ⟨146, ⟨#[105, 110]⟩, 0, 0, true, ⟨#[99, 120]⟩⟩ := by rw [h]; rfl
      rw [e] at hr hrow
      cases hr
      simp only [rowF, Bool.and_eq_true] at hrow
      have hp : partsL [99, 120] T.kids = true := hrow.2
      refine ⟨fun q => by decide, ?_⟩
      intro p hlt
      rw [parts2 _ _ (by decide) (by decide)] at hp
      simp only [Bool.and_eq_true, decide_eq_true_eq] at hp
      have hl := hp.1.1
      have hpc : p = 0 ∨ p = 1 := by omega
      rcases hpc with rfl | rfl
      · exact .inl ⟨rfl, hp.1.2, by rw [h]; rfl⟩
      · exact .inr (.inr (.inr (.inr (.inr (.inr (.inr (⟨rfl, hp.2, by rw [h]; rfl⟩)))))))
    · have e : findR T.kind rowsL = some ⟨147, ⟨#[99, 97, 115, 101]⟩, 0, 0, false, ⟨#[120, 97]⟩⟩ := by rw [h]; rfl
      rw [e] at hr hrow
      cases hr
      simp only [rowF, Bool.and_eq_true] at hrow
      have hp : partsL [120, 97] T.kids = true := hrow.2
      refine ⟨fun q => by decide, ?_⟩
      intro p hlt
      rw [partsA2, labT_eq] at hp
      simp only [Bool.and_eq_true, decide_eq_true_eq] at hp
      by_cases hq : p < 1
      · have hpc : p = 0 := by omega
        rcases hpc with rfl
        · exact .inr (.inr (.inr (.inr (.inr (.inr (.inr (⟨rfl, hp.1.2, by rw [h]; rfl⟩)))))))
      · have ei : (if (p : Int) < ((⟨#[120, 97]⟩ : ByteArray).size : Int) then (p : Int) else ((⟨#[120, 97]⟩ : ByteArray).size : Int) - 1) = 1 := by have : (⟨#[120, 97]⟩ : ByteArray).size = 2 := rfl; split <;> omega
        unfold sgR
        rw [ei]
        have hm : T.kids.getD p .nil ∈ T.kids.drop 1 := by have e2 := getD_drop1 T.kids (p - 1) 1; rw [show 1 + (p - 1) = p by omega] at e2; rw [← e2]; exact getD_mem (by rw [List.length_drop]; omega)
        exact .inr (.inr (.inr (.inl ⟨rfl, tfieldsF_mem hp.2.1 _ hm, by rw [h]; unfold bndF; simp⟩)))
    · have e : findR T.kind rowsL = some ⟨148, ⟨#[102, 111, 108, 100]⟩, 0, 0, false, ⟨#[120, 99, 97]⟩⟩ := by rw [h]; rfl
      rw [e] at hr hrow
      cases hr
      simp only [rowF, Bool.and_eq_true] at hrow
      have hp : partsL [120, 99, 97] T.kids = true := hrow.2
      refine ⟨fun q => by decide, ?_⟩
      intro p hlt
      rw [partsA3, labT_eq] at hp
      simp only [Bool.and_eq_true, decide_eq_true_eq] at hp
      by_cases hq : p < 2
      · have hpc : p = 0 ∨ p = 1 := by omega
        rcases hpc with rfl | rfl
        · exact .inr (.inr (.inr (.inr (.inr (.inr (.inr (⟨rfl, hp.1.1.2, by rw [h]; rfl⟩)))))))
        · exact .inl ⟨rfl, hp.1.2, by rw [h]; rfl⟩
      · have ei : (if (p : Int) < ((⟨#[120, 99, 97]⟩ : ByteArray).size : Int) then (p : Int) else ((⟨#[120, 99, 97]⟩ : ByteArray).size : Int) - 1) = 2 := by have : (⟨#[120, 99, 97]⟩ : ByteArray).size = 3 := rfl; split <;> omega
        unfold sgR
        rw [ei]
        have hm : T.kids.getD p .nil ∈ T.kids.drop 2 := by have e2 := getD_drop1 T.kids (p - 2) 2; rw [show 2 + (p - 2) = p by omega] at e2; rw [← e2]; exact getD_mem (by rw [List.length_drop]; omega)
        exact .inr (.inr (.inr (.inl ⟨rfl, tfieldsF_mem hp.2.1 _ hm, by rw [h]; unfold bndF; simp⟩)))
  · rw [findR_none h] at hr; cases hr
set_option maxHeartbeats 4000000 in
set_option maxRecDepth 10000 in
theorem sign_ok (r : Rw) (p : Nat) (hp : p ≤ 17592186044416) (h : 0 < r.kids.size) : Pure P 65 [.agg [.d (.int .i64 r.kind), .d (.str r.word), .d (.int .i64 r.lo), .d (.int .i64 r.hi), .d (.bool r.label), .d (.str r.kids)], .d (.int .i64 p)] (.d (.int .u8 (sgR r p))) := by
  have hsz : r.kids.size ≤ 9223372036854775807 ∨ 9223372036854775807 < r.kids.size := by omega
  refine Pure.of_body tt [] [4] Try.func65 rfl rfl rfl (Nat.le_of_ble_eq_true rfl) fun g => ?_
  unfold sgR
  by_cases hl : (p : Int) < (r.kids.size : Int)
  · rw [if_pos hl]
    repeat' ((first
      | refine then_go hm htt ?_
      | refine Side.go ?_
      | refine Hyp.go fun hlen => ?_
      | refine Split.ct ?_
      | refine Split.cf ?_
      | refine Split.tt ?_
      | refine Split.ff ?_
      | refine Indep.go ?_
      | refine Side.mk (show (0 : Int) ≤ (p : Int) ∧ (p : Int) < (r.kids.size : Int) from by omega) ?_
      | refine Split.go (fun hc => ?_) fun hc => ?_) <;> conv => whnf)
    exact ret_closed rfl rfl rfl
  · rw [if_neg hl]
    have e : IntKind.i64.wrap ((r.kids.size : Int) - 1) = (r.kids.size : Int) - 1 := wrap64 (by omega) (by omega)
    repeat' ((first
      | refine then_go hm htt ?_
      | refine Side.go ?_
      | refine Hyp.go fun hlen => ?_
      | refine Split.ct ?_
      | refine Split.cf ?_
      | refine Split.tt ?_
      | refine Split.ff ?_
      | refine Indep.go ?_
      | refine Side.mk (show (0 : Int) ≤ IntKind.i64.wrap ((r.kids.size : Int) - 1) ∧ IntKind.i64.wrap ((r.kids.size : Int) - 1) < (r.kids.size : Int) from by rw [e]; omega) ?_
      | refine Split.go (fun hc => ?_) fun hc => ?_) <;> conv => whnf)
    exact ret_closed rfl (show (AVal.d (.int .u8 (bt r.kids (IntKind.i64.wrap ((r.kids.size : Int) - 1)))) : AVal) = _ from by rw [e]) rfl
theorem most_ok (a b : Int) : Pure P 40 [.d (.int .i64 a), .d (.int .i64 b)] (.d (.int .i64 (mx a b))) := by
  refine Pure.of_body tt [] [4] Try.func40 rfl rfl rfl (Nat.le_of_ble_eq_true rfl) fun g => ?_
  repeat' ((first
    | refine then_go hm htt ?_
    | refine Side.go ?_
    | refine Hyp.go fun hlen => ?_
    | refine Split.ct ?_
    | refine Split.cf ?_
    | refine Split.tt ?_
    | refine Split.ff ?_
    | refine Indep.go ?_
    | refine Split.go (fun hc => ?_) fun hc => ?_) <;> conv => whnf)
  all_goals refine ret_closed rfl (int_eq ?_) rfl
  all_goals (rw [mx_eq]; omega)
end Tm
end Go.Proofs.Ytlgajkoplklkiaa

namespace Go.Proofs.Ytlgajkoplklkiaa
namespace Tm
open Go Go.Mq
set_option linter.all false

theorem kind_notcon {T : Tree} (h : isKindF T = true) : isConF T = false := by
  have hT : T ≠ .nil := by intro e; subst e; rw [isKindF] at h; cases h
  cases hc : isConF T with
  | false => rfl
  | true =>
    exfalso
    rw [isKindF_eq hT] at h
    rw [isConF_eq hT, Bool.and_eq_true] at hc
    obtain ⟨_, hc⟩ := hc
    by_cases k1 : T.kind = 101
    · rw [if_neg (by omega), if_neg (by omega), if_neg (by omega), if_neg (by omega), if_neg (by omega), if_neg (by omega)] at hc
      cases hc
    by_cases k2 : T.kind = 100
    · rw [if_neg (by omega), if_neg (by omega), if_neg (by omega), if_neg (by omega), if_neg (by omega), if_neg (by omega)] at hc
      cases hc
    rw [if_neg (by omega), if_neg (by omega)] at h
    cases h
theorem kind_freeR {T : Tree} (h : isKindF T = true) : freeR T = 0 := by
  rw [freeR_eq, rfreeR, if_neg]
  intro q
  have := (conE_full q).2
  rw [kind_notcon h] at this
  cases this
/-- What lies in a kid, by its sign. -/
theorem free_con {x : Tree} (h : Sh x) (c t : Int) : freeT x c t = (freeR x - c, 0) := by
  have hl := con_lt h
  have hx : x ≠ .nil := by
    intro e
    subst e
    rcases h with h | h
    · rw [isConF] at h; cases h
    · rw [isKindF] at h; cases h
  rw [freeT_eq hx, if_neg (by omega), if_pos hl]
theorem free_field13 {x : Tree} (h : tfieldF 137 x = true) (c t : Int) : freeT x c t = (mx 0 (freeT (x.kids.getD 0 .nil) c t).1, mx 0 (freeT (x.kids.getD 0 .nil) c t).2) := by
  obtain ⟨p1, p2, p3, p4, p5⟩ := tfield_parts h
  rw [freeT_eq p1, if_neg (by omega), if_neg (by omega), p2]
  match hk : x.kids, p4 with
  | [y], _ => rw [freesT, freesT]; simp [bndF]
theorem free_arm {x : Tree} (h : tfieldF 149 x = true) (c t : Int) : freeT x c t = (mx 0 (freeT (x.kids.getD 0 .nil) c (t + 1)).1, mx 0 (freeT (x.kids.getD 0 .nil) c (t + 1)).2) := by
  obtain ⟨p1, p2, p3, p4, p5⟩ := tfield_parts h
  rw [freeT_eq p1, if_neg (by omega), if_neg (by omega), p2]
  match hk : x.kids, p4 with
  | [y], _ => rw [freesT, freesT]; simp [bndF]
def RFreeP (T : Tree) : Prop := ∀ (c t : Int), isTermF T = true → 0 ≤ c → c + sizeN T ≤ 1099511627776 → 0 ≤ t → t + sizeN T ≤ 1099511627776 →
    Pure P 39 [.d (.tree T), .d (.int .i64 c), .d (.int .i64 t)] (.tuple [.d (.int .i64 (freeT T c t).1), .d (.int .i64 (freeT T c t).2)])
set_option maxHeartbeats 16000000 in
set_option maxRecDepth 10000 in
theorem rffree_ok (T : Tree) : RFreeP T := by
  suffices h : RFreeP T ∧ ∀ x ∈ T.kids, RFreeP x from h.1
  induction T using Tree.ind' with
  | h0 => exact ⟨fun c t h => (by rw [isTermF] at h; cases h), fun x hx => (by cases hx)⟩
  | h1 T hT ih => ?_
  refine ⟨?_, fun x hx => (ih x hx).1⟩
  intro c t hs hc0 hc1 ht0 ht1
  have hsz := sizeN_kids hT
  have hfe := freeT_eq hT c t
  obtain ⟨hh, hkk⟩ := term_head hs
  obtain ⟨k1, k2, k3⟩ := hh.kind
  have hkl := len_sizes' fun x hx => (hkk x hx).ne
  by_cases q : T.kind = 130
  · rw [if_pos q] at hfe
    rw [hfe]
    have hb := hh.n130 q
    have e : IntKind.i64.wrap (T.n - t) = T.n - t := wrap64 (by omega) (by omega)
    have e2 : IntKind.i64.wrap (IntKind.i64.wrap (T.n - t) + 1) = T.n - t + 1 := by rw [e]; exact wrap64 (by omega) (by omega)
    refine Pure.of_body tt [] [6, 7] Try.func39 rfl rfl rfl (Nat.le_of_ble_eq_true rfl) fun g => ?_
    repeat' ((first
      | refine then_go hm htt ?_
      | refine Side.go ?_
      | refine Hyp.go fun hlen => ?_
      | refine Split.ct ?_
      | refine Split.cf ?_
      | refine Split.tt ?_
      | refine Split.ff ?_
      | refine Indep.go ?_
      | refine Split.go (fun hc => ?_) fun hc => ?_) <;> conv => whnf)
    exact ret_closed rfl (tup2 (int_eq rfl) (int_eq e2)) rfl
  rw [if_neg q, if_neg (by omega)] at hfe
  rw [hfe]
  obtain ⟨r, hr⟩ : ∃ r, findR T.kind rowsL = some r := by
    have h := hs
    rw [isTerm_rows hT] at h
    cases hr : findR T.kind rowsL with
    | none => rw [hr] at h; cases h
    | some r => exact ⟨r, rfl⟩
  have hfo := form_ok T.kind
  rw [hr] at hfo
  obtain ⟨sg0, sg1⟩ := kid_sign hT hs q hr
  refine Pure.of_body tt [] [6, 7] Try.func39 rfl rfl rfl (Nat.le_of_ble_eq_true rfl) fun g => ?_
  repeat' ((first
    | refine then_go hm htt ?_
    | refine Side.go ?_
    | refine Hyp.go fun hlen => ?_
    | refine Split.ct ?_
    | refine Split.cf ?_
    | refine Split.tt ?_
    | refine Split.ff ?_
    | refine Indep.go ?_
    | refine CallG.gp hfo ?_
    | refine Split.go (fun hc => ?_) fun hc => ?_) <;> conv => whnf)
  refine loop_go (α := Nat × Int × Int) (fun p => ⟨[(0, .d (.tree T)), (1, .d (.int .i64 c)), (2, .d (.int .i64 t)), (8, .ref 0 0), (10, .d (.int .i64 p.2.1)), (11, .d (.int .i64 p.2.2)), (12, .d (.int .i64 p.1))], 139, [(0, .cells [.d (.int .i64 r.kind), .d (.str r.word), .d (.int .i64 r.lo), .d (.int .i64 r.hi), .d (.bool r.label), .d (.str r.kids)])], 1, g⟩)
      (fun p => p.1 ≤ T.kids.length ∧ 0 ≤ p.2.1 ∧ 0 ≤ p.2.2 ∧ mx p.2.1 (freesT T.kind p.1 (T.kids.drop p.1) c t).1 = (freesT T.kind 0 T.kids c t).1 ∧ mx p.2.2 (freesT T.kind p.1 (T.kids.drop p.1) c t).2 = (freesT T.kind 0 T.kids c t).2) (fun p => T.kids.length - p.1) (0, 0, 0) ⟨by simp, Int.le_refl _, Int.le_refl _, by have := freesT_pos T.kind T.kids 0 c t; simp only [mx_eq, List.drop_zero]; omega, by have := freesT_pos T.kind T.kids 0 c t; simp only [mx_eq, List.drop_zero]; omega⟩
      (Ent.go [0]) (fun _ => rfl) fun p hpre => ?_
  obtain ⟨p, a, b⟩ := p
  obtain ⟨hp1, hp2, hp3, hp4, hp5⟩ := hpre
  simp only [] at hp1 hp2 hp3 hp4 hp5
  by_cases hlt : p < T.kids.length
  · have hmx := getD_mem hlt
    have s1 := sizesN_mem hmx
    have ihx := ih _ hmx
    have hxne : T.kids.getD p .nil ≠ .nil := (hkk _ hmx).ne
    rw [drop_step hlt, freesT] at hp4 hp5
    have hq := freesT_pos T.kind (T.kids.drop (p + 1)) (p + 1) c t
    have hsig := sign_ok r p (by omega) (sg0 (by omega))
    have hsg := sg1 p hlt
    generalize bndF T.kind p = bb at *
    generalize sgR r p = s at *
    have fin : ∀ x1 x2 : Int, mx a x1 = mx a (freeT (T.kids.getD p .nil) (c + bb.1) (t + bb.2)).1 → mx b x2 = mx b (freeT (T.kids.getD p .nil) (c + bb.1) (t + bb.2)).2 → 0 ≤ mx a x1 ∧ 0 ≤ mx b x2 ∧
        mx (mx a x1) (freesT T.kind (p + 1) (T.kids.drop (p + 1)) c t).1 = (freesT T.kind 0 T.kids c t).1 ∧ mx (mx b x2) (freesT T.kind (p + 1) (T.kids.drop (p + 1)) c t).2 = (freesT T.kind 0 T.kids c t).2 := fun x1 x2 e1 e2 => by
      rw [e1, e2, ← hp4, ← hp5]
      simp only [mx_eq]
      omega
    rcases hsg with ⟨rfl, hx, rfl⟩ | ⟨rfl, hx, rfl⟩ | ⟨rfl, hx, rfl⟩ | ⟨rfl, hx, rfl⟩ | ⟨rfl, hx, rfl⟩ | ⟨rfl, hx, rfl⟩ | ⟨rfl, hx, rfl⟩ | ⟨rfl, hx, rfl⟩
    · simp only [Int.add_zero] at fin
      have hfc := free_con (.inl hx) c t
      have hrf := rFree_ok (T.kids.getD p .nil)
      rw [← freeR_eq] at hrf
      have hle := freeR_le (T.kids.getD p .nil)
      have w : IntKind.i64.wrap (freeR (T.kids.getD p .nil) - c) = freeR (T.kids.getD p .nil) - c := wrap64 (by omega) (by omega)
      rw [hfc] at fin
      obtain ⟨f1, f2, f3, f4⟩ := fin (IntKind.i64.wrap (freeR (T.kids.getD p .nil) - c)) (0) (by rw [w]) (rfl)
      repeat' ((first
        | refine then_go hm htt ?_
        | refine Side.go ?_
        | refine Hyp.go fun hlen => ?_
        | refine Split.ct ?_
        | refine Split.cf ?_
        | refine Split.tt ?_
        | refine Split.ff ?_
        | refine Indep.go ?_
        | refine CallG.gp hsig ?_
        | refine CallG.gp (most_ok a (IntKind.i64.wrap (freeR (T.kids.getD p .nil) - c))) ?_
        | refine CallG.gp (most_ok b (0)) ?_
        | refine CallG.gp hrf ?_
        | refine Split.go (fun hc => ?_) fun hc => ?_) <;> conv => whnf)
      exact ⟨(p + 1, mx a (IntKind.i64.wrap (freeR (T.kids.getD p .nil) - c)), mx b (0)), ⟨by simp only []; omega, f1, f2, f3, f4⟩, by simp only []; omega, Ent.go [0]⟩
    · simp only [Int.add_zero] at fin
      have hfc := free_con (.inr hx) c t
      rw [hfc, kind_freeR hx] at fin
      obtain ⟨f1, f2, f3, f4⟩ := fin (0) (0) (by simp only [mx_eq]; omega) (rfl)
      repeat' ((first
        | refine then_go hm htt ?_
        | refine Side.go ?_
        | refine Hyp.go fun hlen => ?_
        | refine Split.ct ?_
        | refine Split.cf ?_
        | refine Split.tt ?_
        | refine Split.ff ?_
        | refine Indep.go ?_
        | refine CallG.gp hsig ?_
        | refine CallG.gp (most_ok a (0)) ?_
        | refine CallG.gp (most_ok b (0)) ?_
        | refine Split.go (fun hc => ?_) fun hc => ?_) <;> conv => whnf)
      exact ⟨(p + 1, mx a (0), mx b (0)), ⟨by simp only []; omega, f1, f2, f3, f4⟩, by simp only []; omega, Ent.go [0]⟩
    · simp only [Int.add_zero] at fin
      have hfc := free_field13 hx c t
      obtain ⟨p1, p2, p3, p4, p5⟩ := tfield_parts hx
      have hmy := getD_mem (l := (T.kids.getD p .nil).kids) (i := 0) (by omega)
      have s2 := sizesN_mem hmy
      have hszx := sizeN_kids p1
      have hrec := ihx.2 _ hmy c (t) p5 (by omega) (by omega) (by omega) (by omega)
      rw [hfc] at fin
      generalize freeT ((T.kids.getD p .nil).kids.getD 0 .nil) c (t) = F at *
      obtain ⟨f1, f2, f3, f4⟩ := fin (F.1) (F.2) (by simp only [mx_eq]; omega) (by simp only [mx_eq]; omega)
      repeat' ((first
        | refine then_go hm htt ?_
        | refine Side.go ?_
        | refine Hyp.go fun hlen => ?_
        | refine Split.ct ?_
        | refine Split.cf ?_
        | refine Split.tt ?_
        | refine Split.ff ?_
        | refine Indep.go ?_
        | refine CallG.gp hsig ?_
        | refine CallG.gp (most_ok a (F.1)) ?_
        | refine CallG.gp (most_ok b (F.2)) ?_
        | refine Side.mk p1 ?_
        | refine Side.mk (show (0 : Int) ≤ 0 ∧ (0 : Int) < ((T.kids.getD p .nil).kids.length : Int) from by omega) ?_
        | refine CallG.gp hrec ?_
        | refine Split.go (fun hc => ?_) fun hc => ?_) <;> conv => whnf)
      exact ⟨(p + 1, mx a (F.1), mx b (F.2)), ⟨by simp only []; omega, f1, f2, f3, f4⟩, by simp only []; omega, Ent.go [0]⟩
    · simp only [Int.add_zero] at fin
      have hfc := free_arm hx c t
      obtain ⟨p1, p2, p3, p4, p5⟩ := tfield_parts hx
      have hmy := getD_mem (l := (T.kids.getD p .nil).kids) (i := 0) (by omega)
      have s2 := sizesN_mem hmy
      have hszx := sizeN_kids p1
      have hrec := ihx.2 _ hmy c (t + 1) p5 (by omega) (by omega) (by omega) (by omega)
      rw [hfc] at fin
      generalize freeT ((T.kids.getD p .nil).kids.getD 0 .nil) c (t + 1) = F at *
      have w : IntKind.i64.wrap (t + 1) = t + 1 := wrap64 (by omega) (by omega)
      rw [← w] at hrec
      obtain ⟨f1, f2, f3, f4⟩ := fin (F.1) (F.2) (by simp only [mx_eq]; omega) (by simp only [mx_eq]; omega)
      repeat' ((first
        | refine then_go hm htt ?_
        | refine Side.go ?_
        | refine Hyp.go fun hlen => ?_
        | refine Split.ct ?_
        | refine Split.cf ?_
        | refine Split.tt ?_
        | refine Split.ff ?_
        | refine Indep.go ?_
        | refine CallG.gp hsig ?_
        | refine CallG.gp (most_ok a (F.1)) ?_
        | refine CallG.gp (most_ok b (F.2)) ?_
        | refine Side.mk p1 ?_
        | refine Side.mk (show (0 : Int) ≤ 0 ∧ (0 : Int) < ((T.kids.getD p .nil).kids.length : Int) from by omega) ?_
        | refine CallG.gp hrec ?_
        | refine Split.go (fun hc => ?_) fun hc => ?_) <;> conv => whnf)
      exact ⟨(p + 1, mx a (F.1), mx b (F.2)), ⟨by simp only []; omega, f1, f2, f3, f4⟩, by simp only []; omega, Ent.go [0]⟩
    · simp only [Int.add_zero] at fin
      have hrec := ihx.1 (c) (t + 1) hx (by omega) (by omega) (by omega) (by omega)
      generalize freeT (T.kids.getD p .nil) (c) (t + 1) = F at *
      have w2 : IntKind.i64.wrap (t + 1) = t + 1 := wrap64 (by omega) (by omega)
      rw [← w2] at hrec
      obtain ⟨f1, f2, f3, f4⟩ := fin (F.1) (F.2) (rfl) (rfl)
      repeat' ((first
        | refine then_go hm htt ?_
        | refine Side.go ?_
        | refine Hyp.go fun hlen => ?_
        | refine Split.ct ?_
        | refine Split.cf ?_
        | refine Split.tt ?_
        | refine Split.ff ?_
        | refine Indep.go ?_
        | refine CallG.gp hsig ?_
        | refine CallG.gp (most_ok a (F.1)) ?_
        | refine CallG.gp (most_ok b (F.2)) ?_
        | refine CallG.gp hrec ?_
        | refine Split.go (fun hc => ?_) fun hc => ?_) <;> conv => whnf)
      exact ⟨(p + 1, mx a (F.1), mx b (F.2)), ⟨by simp only []; omega, f1, f2, f3, f4⟩, by simp only []; omega, Ent.go [0]⟩
    · simp only [Int.add_zero] at fin
      have hrec := ihx.1 (c + 1) (t) hx (by omega) (by omega) (by omega) (by omega)
      generalize freeT (T.kids.getD p .nil) (c + 1) (t) = F at *
      have w1 : IntKind.i64.wrap (c + 1) = c + 1 := wrap64 (by omega) (by omega)
      rw [← w1] at hrec
      obtain ⟨f1, f2, f3, f4⟩ := fin (F.1) (F.2) (rfl) (rfl)
      repeat' ((first
        | refine then_go hm htt ?_
        | refine Side.go ?_
        | refine Hyp.go fun hlen => ?_
        | refine Split.ct ?_
        | refine Split.cf ?_
        | refine Split.tt ?_
        | refine Split.ff ?_
        | refine Indep.go ?_
        | refine CallG.gp hsig ?_
        | refine CallG.gp (most_ok a (F.1)) ?_
        | refine CallG.gp (most_ok b (F.2)) ?_
        | refine CallG.gp hrec ?_
        | refine Split.go (fun hc => ?_) fun hc => ?_) <;> conv => whnf)
      exact ⟨(p + 1, mx a (F.1), mx b (F.2)), ⟨by simp only []; omega, f1, f2, f3, f4⟩, by simp only []; omega, Ent.go [0]⟩
    · simp only [Int.add_zero] at fin
      have hrec := ihx.1 (c + 1) (t + 1) hx (by omega) (by omega) (by omega) (by omega)
      generalize freeT (T.kids.getD p .nil) (c + 1) (t + 1) = F at *
      have w1 : IntKind.i64.wrap (c + 1) = c + 1 := wrap64 (by omega) (by omega)
      have w2 : IntKind.i64.wrap (t + 1) = t + 1 := wrap64 (by omega) (by omega)
      rw [← w1, ← w2] at hrec
      obtain ⟨f1, f2, f3, f4⟩ := fin (F.1) (F.2) (rfl) (rfl)
      repeat' ((first
        | refine then_go hm htt ?_
        | refine Side.go ?_
        | refine Hyp.go fun hlen => ?_
        | refine Split.ct ?_
        | refine Split.cf ?_
        | refine Split.tt ?_
        | refine Split.ff ?_
        | refine Indep.go ?_
        | refine CallG.gp hsig ?_
        | refine CallG.gp (most_ok a (F.1)) ?_
        | refine CallG.gp (most_ok b (F.2)) ?_
        | refine CallG.gp hrec ?_
        | refine Split.go (fun hc => ?_) fun hc => ?_) <;> conv => whnf)
      exact ⟨(p + 1, mx a (F.1), mx b (F.2)), ⟨by simp only []; omega, f1, f2, f3, f4⟩, by simp only []; omega, Ent.go [0]⟩
    · simp only [Int.add_zero] at fin
      have hrec := ihx.1 (c) (t) hx (by omega) (by omega) (by omega) (by omega)
      generalize freeT (T.kids.getD p .nil) (c) (t) = F at *
      obtain ⟨f1, f2, f3, f4⟩ := fin (F.1) (F.2) (rfl) (rfl)
      repeat' ((first
        | refine then_go hm htt ?_
        | refine Side.go ?_
        | refine Hyp.go fun hlen => ?_
        | refine Split.ct ?_
        | refine Split.cf ?_
        | refine Split.tt ?_
        | refine Split.ff ?_
        | refine Indep.go ?_
        | refine CallG.gp hsig ?_
        | refine CallG.gp (most_ok a (F.1)) ?_
        | refine CallG.gp (most_ok b (F.2)) ?_
        | refine CallG.gp hrec ?_
        | refine Split.go (fun hc => ?_) fun hc => ?_) <;> conv => whnf)
      exact ⟨(p + 1, mx a (F.1), mx b (F.2)), ⟨by simp only []; omega, f1, f2, f3, f4⟩, by simp only []; omega, Ent.go [0]⟩
  · rw [drop_end (by omega), freesT] at hp4 hp5
    repeat' ((first
      | refine then_go hm htt ?_
      | refine Side.go ?_
      | refine Hyp.go fun hlen => ?_
      | refine Split.ct ?_
      | refine Split.cf ?_
      | refine Split.tt ?_
      | refine Split.ff ?_
      | refine Indep.go ?_
      | refine Split.go (fun hc => ?_) fun hc => ?_) <;> conv => whnf)
    exact ret_closed rfl (tup2 (int_eq (by rw [← hp4]; simp only [mx_eq]; omega)) (int_eq (by rw [← hp5]; simp only [mx_eq]; omega))) rfl
theorem mx_comm (a b : Int) : mx a b = mx b a := by simp only [mx_eq]; omega
set_option maxRecDepth 10000 in
theorem rtFree_ok (T : Tree) : Pure P 20 [.d (.tree T)] (.tuple [.d (.int .i64 (tfreeR T).1), .d (.int .i64 (tfreeR T).2)]) := by
  refine Pure.of_body tt [] [2, 3] Try.func20 rfl rfl rfl (Nat.le_of_ble_eq_true rfl) fun g => ?_
  unfold tfreeR
  by_cases h : termE T = 0
  · have h1 := rtCheck_ok T
    rw [h] at h1
    obtain ⟨h2, h3, h4⟩ := termE_ok h
    have h5 := rffree_ok T 0 0 h2 (by omega) (by omega) (by omega) (by omega)
    rw [if_pos h, mx_comm 0, mx_comm 0]
    repeat' ((first
      | refine then_go hm htt ?_
      | refine Side.go ?_
      | refine Hyp.go fun hlen => ?_
      | refine Split.ct ?_
      | refine Split.cf ?_
      | refine Split.tt ?_
      | refine Split.ff ?_
      | refine Indep.go ?_
      | refine CallG.gp h1 ?_
      | refine CallG.gp h5 ?_
      | refine CallG.gp (most_ok (freeT T 0 0).1 0) ?_
      | refine CallG.gp (most_ok (freeT T 0 0).2 0) ?_
      | refine Split.go (fun hc => ?_) fun hc => ?_) <;> conv => whnf)
    exact ret_closed rfl rfl rfl
  · rw [if_neg h]
    repeat' ((first
      | refine then_go hm htt ?_
      | refine Side.go ?_
      | refine Hyp.go fun hlen => ?_
      | refine Split.ct ?_
      | refine Split.cf ?_
      | refine Split.tt ?_
      | refine Split.ff ?_
      | refine Indep.go ?_
      | refine CallG.gp (rtCheck_ok T) ?_
      | refine Split.go (fun hc => ?_) fun hc => ?_) <;> conv => whnf)
    exact ret_closed rfl rfl rfl
end Tm
end Go.Proofs.Ytlgajkoplklkiaa

namespace Go.Proofs.Ytlgajkoplklkiaa
namespace Tm
open Go Go.Mq
set_option linter.all false

def lamT (n : Tree) : Tree := .node 134 0 ByteArray.empty ByteArray.empty [.node 111 0 ByteArray.empty ByteArray.empty [], n]
def tlamT (n : Tree) : Tree := .node 139 0 ByteArray.empty ByteArray.empty [.node 100 0 ByteArray.empty ByteArray.empty [], n]
def unpT (n : Tree) : Tree := .node 142 0 ByteArray.empty ByteArray.empty [n, n]
end Tm
end Go.Proofs.Ytlgajkoplklkiaa

namespace Go.Mq
open Go
set_option linter.all false
end Go.Mq
namespace Go.Proofs.Ytlgajkoplklkiaa
namespace Tm
open Go Go.Mq
set_option linter.all false

/-- What lies on the way. -/
def Val (x : Tree) : Prop := Sh x ∨ (isTermF x = true ∧ valueF x = true) ∨ (tfieldF 137 x = true ∧ valueF (x.kids.getD 0 .nil) = true)
theorem Val.ne {x : Tree} (h : Val x) : x ≠ .nil := by
  rcases h with h | h | h
  · exact Shw.ne (.inl h)
  · exact Shw.ne (.inr (.inl h.1))
  · exact Shw.ne (.inr (.inr (.inl h.1)))
theorem values_mem : ∀ {l : List Tree}, valuesF l = true → ∀ x ∈ l, valueF (x.kids.getD 0 .nil) = true
  | [], _, x, hx => by cases hx
  | y :: l, h, x, hx => by
    rw [valuesF, Bool.and_eq_true, valueIn_eq] at h
    rcases List.mem_cons.1 hx with rfl | hx
    · exact h.1
    · exact values_mem h.2 x hx
/-- A part of a value is nothing that is evaluated yet. -/
theorem Val.cases {x : Tree} (h : Val x) : (x.kind < 130 ∨ x.kind = 134 ∨ x.kind = 139) ∨
    ((130 ≤ x.kind ∧ x.kind ≠ 134 ∧ x.kind ≠ 139) ∧ (x.kind = 131 ∨ x.kind = 132 ∨ x.kind = 133 ∨ x.kind = 136 ∨ x.kind = 137 ∨ x.kind = 141 ∨ x.kind = 146) ∧ ∀ y ∈ x.kids, Val y) := by
  have hx := h.ne
  rcases h with h | ⟨h1, h2⟩ | ⟨h1, h2⟩
  · exact .inl (.inl (con_lt h))
  · by_cases k1 : x.kind = 134 ∨ x.kind = 139
    · exact .inl (.inr k1)
    · refine .inr ?_
      obtain ⟨hh, hk⟩ := term_head h1
      obtain ⟨q1, q2, q3⟩ := hh.kind
      rw [valueF_eq hx] at h2
      have ht := h1
      rw [isTermF_eq hx, Bool.and_eq_true] at ht
      obtain ⟨_, ht⟩ := ht
      by_cases k2 : x.kind = 131 ∨ x.kind = 132 ∨ x.kind = 133
      · rw [if_pos (by omega)] at ht
        have h0 : x.kids = [] := List.length_eq_zero_iff.1 (of_decide_eq_true ht)
        exact ⟨by omega, by omega, fun y hy => by rw [h0] at hy; cases hy⟩
      rw [if_neg (by omega)] at h2
      by_cases k3 : x.kind = 141
      · rw [if_pos (.inl k3)] at h2
        simp [k3, -List.getD_eq_getElem?_getD] at ht
        refine ⟨by omega, by omega, fun y hy => ?_⟩
        rcases mem_three ht.1.1.1 hy with e | e | e <;> rw [e]
        · exact .inl (.inl ht.1.1.2)
        · exact .inr (.inl ⟨ht.1.2, h2⟩)
        · exact .inl (.inl ht.2)
      by_cases k4 : x.kind = 146
      · rw [if_pos (.inr k4)] at h2
        simp [k4, -List.getD_eq_getElem?_getD] at ht
        refine ⟨by omega, by omega, fun y hy => ?_⟩
        rcases mem_two ht.1.1 hy with e | e <;> rw [e]
        · exact .inl (.inl ht.1.2)
        · exact .inr (.inl ⟨ht.2, h2⟩)
      rw [if_neg (by omega)] at h2
      by_cases k5 : x.kind = 136
      · rw [if_pos k5] at h2
        simp [k5, -List.getD_eq_getElem?_getD] at ht
        exact ⟨by omega, by omega, fun y hy => .inr (.inr ⟨tfieldsF_mem ht.1 y hy, values_mem h2 y hy⟩)⟩
      · rw [if_neg k5] at h2; cases h2
  · obtain ⟨p1, p2, p3, p4, p5⟩ := tfield_parts h1
    refine .inr ⟨by omega, by omega, fun y hy => ?_⟩
    rw [mem_one p4 hy]
    exact .inr (.inl ⟨p5, h2⟩)
end Tm
end Go.Proofs.Ytlgajkoplklkiaa

namespace Go.Proofs.Ytlgajkoplklkiaa
namespace Sb
open Go Go.Mq Tm
set_option linter.all false

/-! What a closed term makes of a term, in the place of a variable. -/
mutual
def inT (i : Int) (b : Tree) : Tree → Int → Tree
  | .nil, _ => .nil
  | .node k n nm mk l, t => if k = 130 then (if n < t ∨ n - t < i then .node k n nm mk l else if i < n - t then .node 130 (n - 1) ByteArray.empty ByteArray.empty [] else b)
    else if k < 130 then .node k n nm mk l else .node k n nm mk (insT i b k 0 l t)
def insT (i : Int) (b : Tree) (k : Int) (p : Nat) : List Tree → Int → List Tree
  | [], _ => []
  | x :: l, t => inT i b x (t + (bndF k p).2) :: insT i b k (p + 1) l t
end
/-! How many more there may be. -/
mutual
def cntF : Tree → Int → Int
  | .nil, r => r
  | .node _ _ _ _ l, r => cntsF l (r - 1)
def cntsF : List Tree → Int → Int
  | [], r => r
  | x :: l, r => if 0 ≤ r then cntsF l (cntF x r) else cntsF l r
end
def closedF (T : Tree) : Bool := if conE T = 0 then decide (freeR T = 0) else decide (termE T = 0) && (decide ((tfreeR T).1 = 0) && decide ((tfreeR T).2 = 0))
/-- It, or too long. -/
def sizedR (T : Tree) : Tree × Int := if 65536 < sizeN T then (.nil, 3) else (T, 0)
def termR (T : Tree) (i : Int) (b : Tree) : Tree × Int :=
  if termE T ≠ 0 then (.nil, termE T) else if termE b ≠ 0 then (.nil, termE b) else if i < 0 ∨ closedF b = false then (.nil, 2) else sizedR (inT i b T 0)
end Sb
end Go.Proofs.Ytlgajkoplklkiaa

namespace Go.Proofs.Ytlgajkoplklkiaa
namespace Sb
open Go Go.Mq Tm
set_option linter.all false

/-- One part in the place of another. -/
structure Rp (x y : Tree) : Prop where
  con : isConF x = true → isConF y = true
  kind : isKindF x = true → isKindF y = true
  term : isTermF x = true → isTermF y = true
  field : ∀ kind, tfieldF kind x = true → tfieldF kind y = true
  name : (∃ kind, tfieldF kind x = true) → y.name = x.name
end Sb
end Go.Proofs.Ytlgajkoplklkiaa

namespace Go.Proofs.Ytlgajkoplklkiaa
open Go Go.Mq
set_option linter.all false

/-! sem: the forms of signatures -/
def bareNF (T : Tree) : Bool := decide (T.mark = ByteArray.empty) && decide (T.name = ByteArray.empty) && decide (0 ≤ T.n) && decide (T.n ≤ 8192)
mutual
def isSigF : Tree → Bool
  | .nil => false
  | .node k n nm mk l =>
    bareF (.node k n nm mk l) false false &&
    (if k = 160 ∨ k = 161 then ((l.length : Int) == 1) && decide (conE (l.getD 0 .nil) = 0)
     else if k = 162 then sigFieldsF l && risingF l
     else false)
def sigAt (i : Nat) : List Tree → Bool
  | [] => false
  | x :: l => match i with
    | 0 => isSigF x
    | i + 1 => sigAt i l
def sigFieldsF : List Tree → Bool
  | [] => true
  | x :: l => sigFieldF x && sigFieldsF l
def sigFieldF : Tree → Bool
  | .nil => false
  | .node k n nm mk l => (k == 163) && bareF (.node k n nm mk l) true false && labelF nm && ((l.length : Int) == 1) && sigAt 0 l
end
def exF (T : Tree) : Bool := (T.kind == 164) && bareNF T && ((T.kids.length : Int) == 1) && isSigF (T.kids.getD 0 .nil)
def funF (T : Tree) : Bool := (T.kind == 165) && bareNF T && ((T.kids.length : Int) == 2) && isSigF (T.kids.getD 0 .nil) && exF (T.kids.getD 1 .nil)
def semE (T : Tree) : Int := checkF (isSigF T || exF T || funF T) T

end Go.Proofs.Ytlgajkoplklkiaa

namespace Go.Proofs.Ytlgajkoplklkiaa
open Go Go.Mq
set_option linter.all false

/-! the document's forms of signatures -/
def binF (T : Tree) (kind cnt : Int) : Bool := (T.kind == kind) && bareNF T && ((T.kids.length : Int) == cnt)
end Go.Proofs.Ytlgajkoplklkiaa

namespace Go.Proofs.Ytlgajkoplklkiaa
namespace Ex
open Go Go.Mq
set_option linter.all false

/-! expo -/
def ebindsF (T : Tree) : Int := if T.kind = 164 ∨ T.kind = 165 then T.n else bindsF T
def anyOcc (n : Tree) : Nat → Nat → Bool
  | 0, _ => false
  | m + 1, k => occursR n k || anyOcc n m (k + 1)
def fillC (cons : List Tree) (i : Nat) (c : Tree) : List Tree := if (cons.getD i .nil).isNil = true then cons.set i c else cons
def varF (cons : List Tree) (i : Int) (n : Tree) (d : Int) : Bool × List Tree :=
  if conE n ≠ 0 then (false, cons) else if anyOcc n d.toNat 0 = true then (false, cons) else if (shiftR n (IntKind.i64.wrap (0 - d)) 0).2 ≠ 0 then (false, cons)
  else (sameF ((fillC cons (i.toNat * 1) (shiftR n (IntKind.i64.wrap (0 - d)) 0).1).getD (i.toNat * 1) .nil) (shiftR n (IntKind.i64.wrap (0 - d)) 0).1, fillC cons (i.toNat * 1) (shiftR n (IntKind.i64.wrap (0 - d)) 0).1)
def rng (d : Int) : Prop := -9223372036854775808 ≤ d ∧ d < 9223372036854775808
end Ex
end Go.Proofs.Ytlgajkoplklkiaa

namespace Go.Proofs.Ytlgajkoplklkiaa
namespace Ex
open Go Go.Mq
set_option linter.all false

/-- Variables and binders are within what may be. -/
inductive EB : Tree → Prop
  | node {k n : Int} {nm mk : ByteArray} {l : List Tree} (hv : k = 110 → 0 ≤ n ∧ n ≤ 65536) (hb : k = 164 ∨ k = 165 → 0 ≤ n ∧ n ≤ 8192) (h : ∀ x ∈ l, EB x) : EB (.node k n nm mk l)
theorem EB.of {T : Tree} (hT : T ≠ .nil) (hv : T.kind = 110 → 0 ≤ T.n ∧ T.n ≤ 65536) (hb : T.kind = 164 ∨ T.kind = 165 → 0 ≤ T.n ∧ T.n ≤ 8192) (hk : ∀ x ∈ T.kids, EB x) : EB T := by
  cases T with
  | nil => exact absurd rfl hT
  | node => exact .node hv hb hk
theorem EB.v {T : Tree} (h : EB T) : T.kind = 110 → 0 ≤ T.n ∧ T.n ≤ 65536 := by cases h; assumption
theorem EB.b {T : Tree} (h : EB T) : T.kind = 164 ∨ T.kind = 165 → 0 ≤ T.n ∧ T.n ≤ 8192 := by cases h; assumption
theorem EB.k {T : Tree} (h : EB T) : ∀ x ∈ T.kids, EB x := by cases h; assumption
theorem EB.full {T : Tree} (h : EB T) : Full T := by
  induction T using Tree.ind with
  | h0 => cases h
  | h1 k n nm mk l ih => exact .node fun x hx => ih x hx (h.k x hx)
theorem kind_EB (T : Tree) : isKindF T = true → EB T := by
  induction T using Tree.ind' with
  | h0 => intro h; rw [isKindF] at h; cases h
  | h1 T hT ih =>
    intro h
    rw [isKindF_eq hT] at h
    split at h
    · rename_i hk
      rw [Bool.and_eq_true] at h
      have hl : T.kids = [] := by have := h.2; rw [beq_iff_eq] at this; exact List.length_eq_zero_iff.1 (by omega)
      exact .of hT (fun e => by omega) (fun e => by omega) (fun x hx => by rw [hl] at hx; cases hx)
    · split at h
      · rename_i hk
        simp only [Bool.and_eq_true, beq_iff_eq] at h
        obtain ⟨⟨⟨h1, h2⟩, h3⟩, h4⟩ := h
        refine .of hT (fun e => by omega) (fun e => by omega) (fun x hx => ?_)
        rcases mem_two (by omega : T.kids.length = 2) hx with e | e
        · exact ih x hx (by rw [e]; exact h3)
        · exact ih x hx (by rw [e]; exact h4)
      · cases h
/-- A constructor or a signature. -/
def formF (T : Tree) : Bool := decide (conE T = 0) || decide (semE T = 0)
mutual
def fitsF : Tree → Tree → Int → List Tree → Bool × List Tree
  | .nil, _, _, cons => (false, cons)
  | .node k a nm mk l, n, d, cons =>
    if k = 110 ∧ d ≤ a ∧ IntKind.i64.wrap (a - d) < cons.length then varF cons (IntKind.i64.wrap (a - d)) n d
    else if k ≠ n.kind ∨ a ≠ n.n ∨ nm ≠ n.name ∨ mk ≠ n.mark ∨ l.length ≠ n.kids.length then (false, cons)
    else fitssF l n.kids (IntKind.i64.wrap (d + ebindsF (.node k a nm mk l))) cons
def fitssF : List Tree → List Tree → Int → List Tree → Bool × List Tree
  | [], _, _, cons => (true, cons)
  | x :: l, ys, d, cons => if (fitsF x (ys.getD 0 .nil) d cons).1 = true then fitssF l (ys.drop 1) d (fitsF x (ys.getD 0 .nil) d cons).2 else (false, (fitsF x (ys.getD 0 .nil) d cons).2)
end
abbrev ctx (k : Nat) (cons : List Tree) (T : Tree) (d : Int) : List (Nat × AObj) := [(0, .cells [.row 1 k]), (1, .row 25 (.trees cons)), (2, .cells [.ref 0 0]), (3, .cells [.d (.tree T)]), (4, .cells [.d (.int .i64 d)])]

end Ex
end Go.Proofs.Ytlgajkoplklkiaa

namespace Go.Proofs.Ytlgajkoplklkiaa
namespace Sb
open Go Go.Mq Tm
set_option linter.all false

theorem shw_full (T : Tree) : Shw T → Full T := by
  induction T using Tree.ind' with
  | h0 => intro h; exact absurd rfl h.ne
  | h1 T hT ih =>
    intro h
    rcases shw_kids h with hk | ⟨_, _, hk⟩
    · rcases h with h | h | h | h
      · rcases h with h | h
        · exact (isConF_plain T h).full
        · exact (Ex.kind_EB T h).full
      · have := (term_head h).1.kind; omega
      · obtain ⟨_, p2, _⟩ := tfield_parts h; omega
      · obtain ⟨_, p2, _⟩ := tfield_parts h; omega
    · exact Full.of hT fun x hx => ih x hx (hk x hx)
theorem term_full {T : Tree} (h : isTermF T = true) : Full T := shw_full T (.inr (.inl h))
def xvarT (i : Int) : Tree := .node 130 i ByteArray.empty ByteArray.empty []
end Sb
end Go.Proofs.Ytlgajkoplklkiaa

namespace Go.Proofs.Ytlgajkoplklkiaa
namespace Ex
open Go Go.Mq
set_option linter.all false

end Ex
end Go.Proofs.Ytlgajkoplklkiaa

namespace Go.Proofs.Ytlgajkoplklkiaa
open Go Go.Mq
set_option linter.all false

end Go.Proofs.Ytlgajkoplklkiaa

namespace Go.Proofs.Ytlgajkoplklkiaa
namespace Ex
open Go Go.Mq
set_option linter.all false

def instF (p n : Tree) (vars : Int) : List Tree × Int :=
  if formF p = false then ([], 16) else if formF n = false then ([], 16) else if vars < 0 then ([], 2) else if 8192 < vars then ([], 2)
  else if (fitsF p n 0 (List.replicate vars.toNat .nil)).1 = true then ((fitsF p n 0 (List.replicate vars.toNat .nil)).2, 0) else ([], 24)

end Ex
end Go.Proofs.Ytlgajkoplklkiaa

namespace Go.Proofs.Ytlgajkoplklkiaa
namespace Ex
open Go Go.Mq
set_option linter.all false

mutual
def narrF : Tree → Tree → Bool
  | .nil, _ => false
  | .node k _ _ _ l, u => (k == u.kind) && (!(k == 162) || (decide (l.length = u.kids.length) && narrsF l u.kids))
def narrsF : List Tree → List Tree → Bool
  | [], _ => true
  | x :: l, ys => narrfF x (ys.getD 0 .nil) && narrsF l (ys.drop 1)
def narrfF : Tree → Tree → Bool
  | .nil, _ => false
  | .node _ _ nm _ l, y => decide (nm = y.name) && narrhF l (y.kids.getD 0 .nil)
def narrhF : List Tree → Tree → Bool
  | [], _ => false
  | x :: _, u => narrF x u
end
structure SigField (x : Tree) : Prop where
  ne : x ≠ .nil
  one : x.kids.length = 1
  sig : isSigF (x.kids.getD 0 .nil) = true
def slimF (T : Tree) : Bool := decide (semE T = 0) && decide (T.kind ≠ 164) && decide (T.kind ≠ 165)
def narrowF (p n : Tree) : Bool := slimF p && slimF n && narrF p n
end Ex
end Go.Proofs.Ytlgajkoplklkiaa

namespace Go.Proofs.Ytlgajkoplklkiaa
open Go Go.Mq
set_option linter.all false

def m50 (b : Int) : Int := (IntKind.i64.wrap (b.tmod 50 + 50)).tmod 50
def m5 (b : Int) : Int := (IntKind.i64.wrap (b.tmod 5 + 5)).tmod 5
end Go.Proofs.Ytlgajkoplklkiaa

namespace Go.Proofs.Ytlgajkoplklkiaa
namespace Ex
open Go Go.Mq
set_option linter.all false

/-! The chapter's example -/
def typT (c : Tree) : Tree := .node 161 0 ByteArray.empty ByteArray.empty [c]
end Ex
end Go.Proofs.Ytlgajkoplklkiaa

namespace Go.Proofs.Ytlgajkoplklkiaa
open Go Go.Mq
set_option linter.all false

/-! sem: shift, substitute -/
def sbindsF (T : Tree) : Int := if T.kind = 164 ∨ T.kind = 165 then T.n else 0
section
variable (con : Tree → Int → Tree × Int)
mutual
def swalkF : Tree → Int → Tree × Int
  | .nil, _ => (.nil, 0)
  | .node k n nm mk l, deep => if k < 160 then con (.node k n nm mk l) deep
    else if (swalksF l (IntKind.i64.wrap (deep + sbindsF (.node k n nm mk l)))).2 = 0 then (.node k n nm mk (swalksF l (IntKind.i64.wrap (deep + sbindsF (.node k n nm mk l)))).1, 0)
    else (.nil, (swalksF l (IntKind.i64.wrap (deep + sbindsF (.node k n nm mk l)))).2)
def swalksF : List Tree → Int → List Tree × Int
  | [], _ => ([], 0)
  | x :: l, deep => if (swalkF x deep).2 = 0 then (if (swalksF l deep).2 = 0 then ((swalkF x deep).1 :: (swalksF l deep).1, 0) else ([], (swalksF l deep).2)) else ([], (swalkF x deep).2)
end
end
/-- At the variable 0; by 1 from 1. -/
def conS (by' : Tree) (T : Tree) (deep : Int) : Tree × Int := if (shiftR by' deep 0).2 ≠ 0 then (.nil, 3) else substR T (IntKind.i64.wrap (0 + deep)) (shiftR by' deep 0).1
def conU (T : Tree) (deep : Int) : Tree × Int := shiftR T 1 (IntKind.i64.wrap (1 + deep))
def sizedF (T : Tree) (e : Int) : Tree × Int := if e ≠ 0 then (.nil, e) else if (wholeF 65536 T).1 ≠ 0 then (.nil, (wholeF 65536 T).1) else (T, 0)
def ssubstR (T b : Tree) : Tree × Int :=
  if semE T ≠ 0 then (.nil, semE T) else if conE b ≠ 0 then (.nil, conE b) else sizedF (swalkF (conS b) T 0).1 (swalkF (conS b) T 0).2
def sshiftR (T : Tree) : Tree × Int := if semE T ≠ 0 then (.nil, semE T) else swalkF conU T 0
def ssameF (a b : Tree) : Bool := decide (semE a = 0) && (decide (semE b = 0) && sameF a b)
end Go.Proofs.Ytlgajkoplklkiaa

namespace Go.Proofs.Ytlgajkoplklkiaa
namespace Ex
open Go Go.Mq
set_option linter.all false

/-! What is filled in -/
inductive Lo : Tree → Prop
  | node {k n : Int} {nm mk : ByteArray} {l : List Tree} (hk : k < 160) (h : ∀ x ∈ l, Lo x) : Lo (.node k n nm mk l)
theorem Lo.of {T : Tree} (hT : T ≠ .nil) (hk : T.kind < 160) (h : ∀ x ∈ T.kids, Lo x) : Lo T := by
  cases T with
  | nil => exact absurd rfl hT
  | node => exact .node hk h
theorem Lo.k {T : Tree} (h : Lo T) : T.kind < 160 := by cases h; assumption
theorem Lo.kids {T : Tree} (h : Lo T) : ∀ x ∈ T.kids, Lo x := by cases h; assumption
def LeafP (b s : Tree) (D : Int) (T : Tree) : Prop := ∀ (d : Int) (y c : Tree), Plain T → Lo T → 0 ≤ d → D + d + sizeN T ≤ 549755813888 → vmap (fM 1 (1 + D)) T d = some T → rputF D s T d = some y → (c = .nil ∨ c = b) → ∃ c', fitsF T y (D + d) [c] = (true, [c']) ∧ (c' = .nil ∨ c' = b)
end Ex
end Go.Proofs.Ytlgajkoplklkiaa

namespace Go.Proofs.Ytlgajkoplklkiaa
namespace Ex
open Go Go.Mq
set_option linter.all false

/-! What comes of a put is a constructor. -/
def KindP (D : Int) (s T : Tree) : Prop := isKindF T = true → ∀ (d : Int) y, Plain T → 0 ≤ d → d + sizeN T ≤ 549755813888 → rputF D s T d = some y → isKindF y = true
def ConPut (D : Int) (s T : Tree) : Prop := isConF T = true → ∀ (d : Int) y, Plain T → 0 ≤ d → d + sizeN T ≤ 549755813888 → vmap (fM 1 (1 + D)) T d = some T → rputF D s T d = some y → isConF y = true
end Ex
end Go.Proofs.Ytlgajkoplklkiaa

namespace Go.Proofs.Ytlgajkoplklkiaa
namespace Ex
open Go Go.Mq
set_option linter.all false

def SigP (b T : Tree) : Prop := ∀ (D : Int) (m c : Tree), EB T → 0 ≤ D → D + 8192 * sizeN T ≤ 274877906944 → swalkF (conS b) T D = (m, 0) → swalkF conU T D = (T, 0) → (c = .nil ∨ c = b) → ∃ c', fitsF T m D [c] = (true, [c']) ∧ (c' = .nil ∨ c' = b)
def SigM (b T : Tree) : Prop := isSigF T = true → ∀ (D : Int) (m : Tree), 0 ≤ D → D ≤ 274877906944 → sizeN m ≤ 65536 → swalkF (conS b) T D = (m, 0) → swalkF conU T D = (T, 0) → isSigF m = true
end Ex
end Go.Proofs.Ytlgajkoplklkiaa

namespace Go.Proofs.Ytlgajkoplklkiaa
namespace Sb
open Go Go.Mq Tm
set_option linter.all false

/-! Constructors in the places of constructors -/
def conStep (i : Int) (b : Tree) (T : Tree) (c : Int) (s : Bool) : Tree × Bool :=
  if s = true ∨ 65536 - c < i then (T, s) else if (substR T (c + i) b).2 ≠ 0 then (T, true) else ((substR T (c + i) b).1, false)
mutual
def inC (i : Int) (b : Tree) : Tree → Int → Bool → Tree × Bool
  | .nil, _, s => (.nil, s)
  | .node k n nm mk l, c, s => if k = 130 ∨ k < 110 then (.node k n nm mk l, s) else if k < 130 then conStep i b (.node k n nm mk l) c s
    else (.node k n nm mk (insC i b k 0 l c s).1, (insC i b k 0 l c s).2)
def insC (i : Int) (b : Tree) (k : Int) (p : Nat) : List Tree → Int → Bool → List Tree × Bool
  | [], _, s => ([], s)
  | x :: l, c, s => ((inC i b x (c + (bndF k p).1) s).1 :: (insC i b k (p + 1) l c (inC i b x (c + (bndF k p).1) s).2).1, (insC i b k (p + 1) l c (inC i b x (c + (bndF k p).1) s).2).2)
end
mutual
def rC (i : Int) (b : Tree) : Tree → Int → Tree
  | .nil, _ => .nil
  | .node k n nm mk l, c => if k = 130 ∨ k < 110 then .node k n nm mk l else if k < 130 then (if 65536 - c < i then .node k n nm mk l else oT (rputF (c + i) b (.node k n nm mk l) 0))
    else .node k n nm mk (rsC i b k 0 l c)
def rsC (i : Int) (b : Tree) (k : Int) (p : Nat) : List Tree → Int → List Tree
  | [], _ => []
  | x :: l, c => rC i b x (c + (bndF k p).1) :: rsC i b k (p + 1) l c
end
end Sb
end Go.Proofs.Ytlgajkoplklkiaa

namespace Go.Proofs.Ytlgajkoplklkiaa
namespace Sb
open Go Go.Mq Tm
set_option linter.all false

def WalkP (i : Int) (b T : Tree) : Prop := ∀ c : Int, Shw T → sizeN T ≤ 65536 → 0 ≤ c → c + sizeN T ≤ 549755813888 →
    ((inC i b T c false).2 = false ∧ (inC i b T c false).1 = rC i b T c) ∨ ((inC i b T c false).2 = true ∧ 65536 < sizeN (rC i b T c))
def conR (T : Tree) (i : Int) (b : Tree) : Tree × Int :=
  if termE T ≠ 0 then (.nil, termE T) else if conE b ≠ 0 then (.nil, conE b) else if i < 0 ∨ closedF b = false then (.nil, 2)
  else if (inC i b T 0 false).2 = true then (.nil, 3) else sizedR (inC i b T 0 false).1
def rconR (T : Tree) (i : Int) (b : Tree) : Tree × Int :=
  if termE T ≠ 0 then (.nil, termE T) else if conE b ≠ 0 then (.nil, conE b) else if i < 0 ∨ closedF b = false then (.nil, 2) else sizedR (rC i b T 0)
end Sb
end Go.Proofs.Ytlgajkoplklkiaa

namespace Go.Proofs.Ytlgajkoplklkiaa
namespace Sb
open Go Go.Mq Tm
set_option linter.all false

end Sb
end Go.Proofs.Ytlgajkoplklkiaa

namespace Go.Proofs.Ytlgajkoplklkiaa
namespace Sb
open Go Go.Mq Tm
set_option linter.all false

/-! The walk of subst: terms -/
set_option maxRecDepth 10000 in
theorem sbClosed_ok (T : Tree) : Pure P 14 [.d (.tree T)] (.d (.bool (closedF T))) := by
  have h1 := check_ok T
  have h2 := free_ok T
  have h3 := tCheck_ok T
  have h4 := tFree_ok T
  unfold closedF
  refine Pure.of_body tt [] [2] Try.func14 rfl rfl rfl (Nat.le_of_ble_eq_true rfl) fun g => ?_
  by_cases c1 : conE T = 0
  · rw [if_pos c1]
    rw [c1] at h1
    repeat' ((first
      | refine then_go hm htt ?_
      | refine Side.go ?_
      | refine Hyp.go fun hlen => ?_
      | refine Split.ct ?_
      | refine Split.cf ?_
      | refine Split.tt ?_
      | refine Split.ff ?_
      | refine Indep.go ?_
      | refine CallG.gp h1 ?_
      | refine CallG.gp h2 ?_
      | refine Split.go (fun hc => ?_) fun hc => ?_) <;> conv => whnf)
    all_goals refine ret_closed rfl (bool_eq ?_) rfl
    all_goals simp_all [int_dec]
  · rw [if_neg c1]
    by_cases c2 : termE T = 0
    · rw [decide_eq_true c2, Bool.true_and]
      rw [c2] at h3
      repeat' ((first
        | refine then_go hm htt ?_
        | refine Side.go ?_
        | refine Hyp.go fun hlen => ?_
        | refine Split.ct ?_
        | refine Split.cf ?_
        | refine Split.tt ?_
        | refine Split.ff ?_
        | refine Indep.go ?_
        | refine CallG.gp h1 ?_
        | refine CallG.gp h3 ?_
        | refine CallG.gp h4 ?_
        | refine Split.go (fun hc => ?_) fun hc => ?_) <;> conv => whnf)
      all_goals refine ret_closed rfl (bool_eq ?_) rfl
      all_goals simp_all [int_dec]
    · rw [decide_eq_false c2, Bool.false_and]
      repeat' ((first
        | refine then_go hm htt ?_
        | refine Side.go ?_
        | refine Hyp.go fun hlen => ?_
        | refine Split.ct ?_
        | refine Split.cf ?_
        | refine Split.tt ?_
        | refine Split.ff ?_
        | refine Indep.go ?_
        | refine CallG.gp h1 ?_
        | refine CallG.gp h3 ?_
        | refine Split.go (fun hc => ?_) fun hc => ?_) <;> conv => whnf)
      all_goals exact ret_closed rfl rfl rfl
end Sb
end Go.Proofs.Ytlgajkoplklkiaa



namespace Go.Proofs.Ytlgajkoplklkiaa
namespace Sb
open Go Go.Mq Tm
set_option linter.all false

def w15a : Tree := .node 134 0 ByteArray.empty ByteArray.empty [wI, .node 130 1 ByteArray.empty ByteArray.empty []]
def w15b : Tree := .node 131 7 ByteArray.empty ByteArray.empty []
def w15c : Tree := .node 134 0 ByteArray.empty ByteArray.empty [wI, w15b]
def w15s : ByteArray := ⟨#[91, 32, 108, 97, 109, 32, 105, 110, 116, 32, 55, 32, 93]⟩
end Sb
end Go.Proofs.Ytlgajkoplklkiaa

namespace Go.Proofs.Ytlgajkoplklkiaa
namespace Sb
open Go Go.Mq Tm
set_option linter.all false

/-! The document's own: closed, sized -/
set_option maxRecDepth 10000 in
theorem rClosed_ok (T : Tree) : Pure P 9 [.d (.tree T)] (.d (.bool (closedF T))) := by
  have h1 := rcheck_ok T
  have h2 := rFree_ok T
  rw [← freeR_eq] at h2
  have h3 := rtCheck_ok T
  have h4 := rtFree_ok T
  unfold closedF
  refine Pure.of_body tt [] [2] Try.func9 rfl rfl rfl (Nat.le_of_ble_eq_true rfl) fun g => ?_
  by_cases c1 : conE T = 0
  · rw [if_pos c1]
    rw [c1] at h1
    repeat' ((first
      | refine then_go hm htt ?_
      | refine Side.go ?_
      | refine Hyp.go fun hlen => ?_
      | refine Split.ct ?_
      | refine Split.cf ?_
      | refine Split.tt ?_
      | refine Split.ff ?_
      | refine Indep.go ?_
      | refine CallG.gp h1 ?_
      | refine CallG.gp h2 ?_
      | refine Split.go (fun hc => ?_) fun hc => ?_) <;> conv => whnf)
    all_goals refine ret_closed rfl (bool_eq ?_) rfl
    all_goals simp_all [int_dec]
  · rw [if_neg c1]
    repeat' ((first
      | refine then_go hm htt ?_
      | refine Side.go ?_
      | refine Hyp.go fun hlen => ?_
      | refine Split.ct ?_
      | refine Split.cf ?_
      | refine Split.tt ?_
      | refine Split.ff ?_
      | refine Indep.go ?_
      | refine CallG.gp h1 ?_
      | refine CallG.gp h3 ?_
      | refine CallG.gp h4 ?_
      | refine Split.go (fun hc => ?_) fun hc => ?_) <;> conv => whnf)
    all_goals refine ret_closed rfl (bool_eq ?_) rfl
    all_goals simp_all [int_dec]
end Sb
end Go.Proofs.Ytlgajkoplklkiaa

namespace Go.Proofs.Ytlgajkoplklkiaa
namespace St
open Go Go.Mq Tm Sb
set_option linter.all false

/-! What a step makes of a term. -/
def placeB (k : Int) (p : Nat) : Bool := if k = 135 ∨ k = 145 then decide (p < 2) else if k = 141 ∨ k = 146 then decide (p = 1) else decide (p = 0)
def fieldT (nm : ByteArray) (k : Tree) : Tree := .node 137 0 nm ByteArray.empty [k]
def withT (T : Tree) (i : Nat) (k : Tree) : Tree := .node T.kind T.n T.name T.mark (T.kids.set i (if T.kind = 136 then fieldT (T.kids.getD i .nil).name k else k))
def kidT (T : Tree) (i : Nat) : Tree := T.kids.getD i .nil
def partF (s : ByteArray) : List Tree → Option Tree
  | [] => none
  | x :: l => if x.name = s then some (x.kids.getD 0 .nil) else partF s l
mutual
def rollF (f : Tree) : Tree → Tree → Tree
  | .nil, v => v
  | .node k n nm mk l, v => if k = 110 ∧ n = 0 then withT f 0 v else if k = 115 ∧ v.kind = 136 ∧ l.map Tree.name = v.kids.map Tree.name then .node 136 v.n v.name v.mark (rollsF f l v.kids) else v
def rollsF (f : Tree) : List Tree → List Tree → List Tree
  | [], vs => vs
  | x :: l, vs => fieldT (vs.getD 0 .nil).name (rollI f x ((vs.getD 0 .nil).kids.getD 0 .nil)) :: rollsF f l (vs.drop 1)
def rollI (f : Tree) : Tree → Tree → Tree
  | .nil, v => v
  | .node _ _ _ _ l, v => rollH f l v
def rollH (f : Tree) : List Tree → Tree → Tree
  | [], v => v
  | x :: _, v => rollF f x v
end
def foldF (T : Tree) : Tree × Int :=
  if (kidT T 0).kind ≠ 146 then (.nil, 20)
  else if (No.normR (kidT (kidT T 0) 0)).2 ≠ 0 then (.nil, (No.normR (kidT (kidT T 0) 0)).2)
  else if (No.normR (kidT (kidT T 0) 0)).1.kind ≠ 121 ∨ partF (kidT T 0).name (T.kids.drop 2) = none ∨ partF (kidT T 0).name (No.normR (kidT (kidT T 0) 0)).1.kids = none then (.nil, 20)
  else if termE (.node 143 0 ByteArray.empty ByteArray.empty [rollF T (oT (partF (kidT T 0).name (No.normR (kidT (kidT T 0) 0)).1.kids)) (kidT (kidT T 0) 1), oT (partF (kidT T 0).name (T.kids.drop 2))]) ≠ 0 then
    (.nil, termE (.node 143 0 ByteArray.empty ByteArray.empty [rollF T (oT (partF (kidT T 0).name (No.normR (kidT (kidT T 0) 0)).1.kids)) (kidT (kidT T 0) 1), oT (partF (kidT T 0).name (T.kids.drop 2))]))
  else (.node 143 0 ByteArray.empty ByteArray.empty [rollF T (oT (partF (kidT T 0).name (No.normR (kidT (kidT T 0) 0)).1.kids)) (kidT (kidT T 0) 1), oT (partF (kidT T 0).name (T.kids.drop 2))], 0)
def numN (n : Int) : Tree := .node 131 n ByteArray.empty ByteArray.empty []
def boolN (b : Bool) : Tree := .node 132 (if b then 1 else 0) ByteArray.empty ByteArray.empty []
def sumF (n a b : Int) : Int := IntKind.i64.wrap (if n = 1 then a + b else if n = 2 then a - b else a * b)
def opF (T : Tree) : Tree × Int :=
  if (kidT T 0).kind ≠ 131 ∨ (kidT T 1).kind ≠ 131 then (.nil, 20)
  else if T.n = 4 then (boolN (decide ((kidT T 0).n = (kidT T 1).n)), 0)
  else if T.n = 5 then (boolN (decide ((kidT T 0).n < (kidT T 1).n)), 0)
  else if sumF T.n (kidT T 0).n (kidT T 1).n < -1073741824 ∨ 1073741824 < sumF T.n (kidT T 0).n (kidT T 1).n then (.nil, 19)
  else (numN (sumF T.n (kidT T 0).n (kidT T 1).n), 0)
def goesF (T : Tree) : Tree × Int :=
  if T.kind = 135 then (if (kidT T 0).kind = 134 then termR (kidT (kidT T 0) 1) 0 (kidT T 1) else (.nil, 20))
  else if T.kind = 140 then (if (kidT T 0).kind = 139 then conR (kidT (kidT T 0) 1) 0 (kidT T 1) else (.nil, 20))
  else if T.kind = 138 then (if (kidT T 0).kind = 136 ∧ (partF T.name (kidT T 0).kids).isSome = true then (oT (partF T.name (kidT T 0).kids), 0) else (.nil, 20))
  else if T.kind = 144 then (if (kidT T 0).kind = 132 then (if (kidT T 0).n = 1 then (kidT T 1, 0) else (kidT T 2, 0)) else (.nil, 20))
  else if T.kind = 142 then (if (kidT T 0).kind = 141 then (if (termR (kidT T 1) 0 (kidT (kidT T 0) 1)).2 ≠ 0 then (.nil, (termR (kidT T 1) 0 (kidT (kidT T 0) 1)).2) else conR (termR (kidT T 1) 0 (kidT (kidT T 0) 1)).1 0 (kidT (kidT T 0) 0)) else (.nil, 20))
  else if T.kind = 143 then termR (kidT T 1) 0 (kidT T 0)
  else if T.kind = 145 then opF T
  else if T.kind = 147 then (if (kidT T 0).kind = 146 ∧ (partF (kidT T 0).name (T.kids.drop 1)).isSome = true then termR (oT (partF (kidT T 0).name (T.kids.drop 1))) 0 (kidT (kidT T 0) 1) else (.nil, 20))
  else if T.kind = 148 then foldF T
  else (.nil, 20)
mutual
def stF : Tree → Tree × Int
  | .nil => (.nil, 20)
  | .node k n nm mk l => match (if k = 136 then stsR 0 l else stsK k 0 l) with
    | some (p, m, e) => if e ≠ 0 then (.nil, e) else (withT (.node k n nm mk l) p m, 0)
    | none => goesF (.node k n nm mk l)
def stsK (k : Int) (p : Nat) : List Tree → Option (Nat × Tree × Int)
  | [] => none
  | x :: l => if placeB k p = true ∧ valueF x = false then some (p, stF x) else stsK k (p + 1) l
def stsR (p : Nat) : List Tree → Option (Nat × Tree × Int)
  | [] => none
  | x :: l => if valueF (x.kids.getD 0 .nil) = false then some (p, stI x) else stsR (p + 1) l
def stI : Tree → Tree × Int
  | .nil => (.nil, 20)
  | .node _ _ _ _ l => stH l
def stH : List Tree → Tree × Int
  | [] => (.nil, 20)
  | x :: _ => stF x
end
def stepR (T : Tree) : Tree × Bool × Int :=
  if termE T ≠ 0 then (.nil, false, termE T) else if closedF T = false then (.nil, false, 2) else if valueF T = true then (T, false, 0)
  else if (stF T).2 ≠ 0 then (.nil, false, (stF T).2) else if termE (stF T).1 ≠ 0 then (.nil, false, termE (stF T).1) else ((stF T).1, true, 0)
def runF : Nat → Tree → Int → Tree × Int × Int
  | 0, T, s => if (stepR T).2.2 ≠ 0 then (.nil, s, (stepR T).2.2) else if (stepR T).2.1 = false then (T, s, 0) else (.nil, s, 18)
  | k + 1, T, s => if (stepR T).2.2 ≠ 0 then (.nil, s, (stepR T).2.2) else if (stepR T).2.1 = false then (T, s, 0) else runF k (stepR T).1 (s + 1)
def runR (T : Tree) (most : Int) : Tree × Int × Int := if most < 0 then (.nil, 0, 2) else runF most.toNat T 0
def unrollR (c v f : Tree) : Tree × Int := if conE c ≠ 0 ∨ tvalueR v = false ∨ termE f ≠ 0 ∨ f.kind ≠ 148 then (.nil, 16) else (rollF f c v, 0)
end St
end Go.Proofs.Ytlgajkoplklkiaa

namespace Go.Proofs.Ytlgajkoplklkiaa
namespace Sb
open Go Go.Mq Tm
set_option linter.all false

/-! The document's own: put in -/
end Sb
end Go.Proofs.Ytlgajkoplklkiaa

namespace Go.Proofs.Ytlgajkoplklkiaa
namespace Sb
open Go Go.Mq Tm
set_option linter.all false

end Sb
end Go.Proofs.Ytlgajkoplklkiaa

namespace Go.Proofs.Ytlgajkoplklkiaa
namespace Sb
open Go Go.Mq Tm
set_option linter.all false

/-! How large what comes of it is; the document's Term, Con -/
end Sb
end Go.Proofs.Ytlgajkoplklkiaa

namespace Go.Proofs.Ytlgajkoplklkiaa
namespace St
open Go Go.Mq Tm Sb
set_option linter.all false

/-! What forms the parts of a term have -/
theorem term_ne {T : Tree} (h : isTermF T = true) : T ≠ .nil := by intro e; subst e; rw [isTermF] at h; cases h
theorem term_xx {T : Tree} (h : isTermF T = true) (hk : T.kind = 135 ∨ T.kind = 142 ∨ T.kind = 143 ∨ T.kind = 145) : T.kids.length = 2 ∧ isTermF (T.kids.getD 0 .nil) = true ∧ isTermF (T.kids.getD 1 .nil) = true := by
  rw [isTermF_eq (term_ne h), Bool.and_eq_true, if_neg (by omega), if_neg (by omega), if_neg (by omega), if_pos hk] at h
  have h := h.2
  simp only [Bool.and_eq_true, decide_eq_true_eq] at h
  exact ⟨h.1.1, h.1.2, h.2⟩
theorem term_cx {T : Tree} (h : isTermF T = true) (hk : T.kind = 134 ∨ T.kind = 146) : T.kids.length = 2 ∧ isConF (T.kids.getD 0 .nil) = true ∧ isTermF (T.kids.getD 1 .nil) = true := by
  rw [isTermF_eq (term_ne h), Bool.and_eq_true, if_neg (by omega), if_pos hk] at h
  have h := h.2
  simp only [Bool.and_eq_true, decide_eq_true_eq] at h
  exact ⟨h.1.1, h.1.2, h.2⟩
theorem term_kx {T : Tree} (h : isTermF T = true) (hk : T.kind = 139) : T.kids.length = 2 ∧ isKindF (T.kids.getD 0 .nil) = true ∧ isTermF (T.kids.getD 1 .nil) = true := by
  rw [isTermF_eq (term_ne h), Bool.and_eq_true, if_neg (by omega), if_neg (by omega), if_pos hk] at h
  have h := h.2
  simp only [Bool.and_eq_true, decide_eq_true_eq] at h
  exact ⟨h.1.1, h.1.2, h.2⟩
theorem term_f {T : Tree} (h : isTermF T = true) (hk : T.kind = 136) : (∀ x ∈ T.kids, tfieldF 137 x = true) ∧ pairsF true [] T.kids = true := by
  rw [isTermF_eq (term_ne h), Bool.and_eq_true, if_neg (by omega), if_neg (by omega), if_neg (by omega), if_neg (by omega), if_pos hk] at h
  have h := h.2
  simp only [Bool.and_eq_true, decide_eq_true_eq] at h
  exact ⟨tfieldsF_mem h.1, h.2⟩
theorem term_x {T : Tree} (h : isTermF T = true) (hk : T.kind = 138) : T.kids.length = 1 ∧ isTermF (T.kids.getD 0 .nil) = true := by
  rw [isTermF_eq (term_ne h), Bool.and_eq_true, if_neg (by omega), if_neg (by omega), if_neg (by omega), if_neg (by omega), if_neg (by omega), if_pos hk] at h
  have h := h.2
  simp only [Bool.and_eq_true, decide_eq_true_eq] at h
  exact ⟨h.1, h.2⟩
theorem term_xc {T : Tree} (h : isTermF T = true) (hk : T.kind = 140) : T.kids.length = 2 ∧ isTermF (T.kids.getD 0 .nil) = true ∧ isConF (T.kids.getD 1 .nil) = true := by
  rw [isTermF_eq (term_ne h), Bool.and_eq_true, if_neg (by omega), if_neg (by omega), if_neg (by omega), if_neg (by omega), if_neg (by omega), if_neg (by omega), if_pos hk] at h
  have h := h.2
  simp only [Bool.and_eq_true, decide_eq_true_eq] at h
  exact ⟨h.1.1, h.1.2, h.2⟩
theorem term_cxc {T : Tree} (h : isTermF T = true) (hk : T.kind = 141) : T.kids.length = 3 ∧ isConF (T.kids.getD 0 .nil) = true ∧ isTermF (T.kids.getD 1 .nil) = true ∧ isConF (T.kids.getD 2 .nil) = true := by
  rw [isTermF_eq (term_ne h), Bool.and_eq_true, if_neg (by omega), if_neg (by omega), if_neg (by omega), if_neg (by omega), if_neg (by omega), if_neg (by omega), if_neg (by omega), if_pos hk] at h
  have h := h.2
  simp only [Bool.and_eq_true, decide_eq_true_eq] at h
  exact ⟨h.1.1.1, h.1.1.2, h.1.2, h.2⟩
theorem term_xxx {T : Tree} (h : isTermF T = true) (hk : T.kind = 144) : T.kids.length = 3 ∧ isTermF (T.kids.getD 0 .nil) = true ∧ isTermF (T.kids.getD 1 .nil) = true ∧ isTermF (T.kids.getD 2 .nil) = true := by
  rw [isTermF_eq (term_ne h), Bool.and_eq_true, if_neg (by omega), if_neg (by omega), if_neg (by omega), if_neg (by omega), if_neg (by omega), if_neg (by omega), if_neg (by omega), if_neg (by omega), if_pos hk] at h
  have h := h.2
  simp only [Bool.and_eq_true, decide_eq_true_eq] at h
  exact ⟨h.1.1.1, h.1.1.2, h.1.2, h.2⟩
theorem term_xa {T : Tree} (h : isTermF T = true) (hk : T.kind = 147) : 1 < T.kids.length ∧ isTermF (T.kids.getD 0 .nil) = true ∧ ∀ x ∈ T.kids.drop 1, tfieldF 149 x = true := by
  rw [isTermF_eq (term_ne h), Bool.and_eq_true, if_neg (by omega), if_neg (by omega), if_neg (by omega), if_neg (by omega), if_neg (by omega), if_neg (by omega), if_neg (by omega), if_neg (by omega), if_neg (by omega), if_pos hk] at h
  have h := h.2
  simp only [Bool.and_eq_true, decide_eq_true_eq] at h
  exact ⟨h.1.1.1, h.1.1.2, tfieldsF_mem h.1.2⟩
theorem term_xca {T : Tree} (h : isTermF T = true) (hk : T.kind = 148) : 2 < T.kids.length ∧ isTermF (T.kids.getD 0 .nil) = true ∧ isConF (T.kids.getD 1 .nil) = true ∧ ∀ x ∈ T.kids.drop 2, tfieldF 149 x = true := by
  rw [isTermF_eq (term_ne h), Bool.and_eq_true, if_neg (by omega), if_neg (by omega), if_neg (by omega), if_neg (by omega), if_neg (by omega), if_neg (by omega), if_neg (by omega), if_neg (by omega), if_neg (by omega), if_neg (by omega), if_pos hk] at h
  have h := h.2
  simp only [Bool.and_eq_true, decide_eq_true_eq] at h
  exact ⟨h.1.1.1.1, h.1.1.1.2, h.1.1.2, tfieldsF_mem h.1.2⟩
/-! The walk: small ones -/
def plcF (T : Tree) : Nat × Nat := if T.kind = 135 ∨ T.kind = 145 then (0, 2) else if T.kind = 136 then (0, T.kids.length) else if T.kind = 141 ∨ T.kind = 146 then (1, 2) else (0, 1)
def inF (T : Tree) (i : Nat) : Tree := if T.kind = 136 then (T.kids.getD i .nil).kids.getD 0 .nil else T.kids.getD i .nil
end St
end Go.Proofs.Ytlgajkoplklkiaa

namespace Go.Proofs.Ytlgajkoplklkiaa
namespace St
open Go Go.Mq Tm Sb
set_option linter.all false

/-! The walk: an operation, a value unrolled -/
def nameE : List Tree → List Tree → Bool
  | [], [] => true
  | x :: l, y :: l' => decide (x.name = y.name) && nameE l l'
  | _, _ => false
end St
end Go.Proofs.Ytlgajkoplklkiaa

namespace Go.Proofs.Ytlgajkoplklkiaa
namespace St
open Go Go.Mq Tm Sb
set_option linter.all false

theorem rec_flds {T : Tree} (hT : T ≠ .nil) (h : isConF T = true) (hk : T.kind = 115) : ∀ x ∈ T.kids, fieldF 116 x = true := by
  rw [isConF_eq hT, Bool.and_eq_true, if_neg (by omega), if_neg (by omega), if_neg (by omega), if_pos hk] at h
  have h := h.2
  simp only [Bool.and_eq_true] at h
  exact fieldsF_mem h.1
theorem sum_flds {T : Tree} (hT : T ≠ .nil) (h : isConF T = true) (hk : T.kind = 121) : ∀ x ∈ T.kids, fieldF 122 x = true := by
  rw [isConF_eq hT, Bool.and_eq_true, if_neg (by omega), if_neg (by omega), if_neg (by omega), if_neg (by omega), if_neg (by omega), if_pos hk] at h
  have h := h.2
  simp only [Bool.and_eq_true] at h
  exact fieldsF_mem h.1.2
theorem fld_parts {kind : Int} {x : Tree} (h : fieldF kind x = true) : x ≠ .nil ∧ x.kids.length = 1 ∧ isConF (x.kids.getD 0 .nil) = true := by
  have hx : x ≠ .nil := by intro e; subst e; rw [fieldF] at h; cases h
  rw [fieldF_eq hx] at h
  simp only [Bool.and_eq_true, beq_iff_eq] at h
  exact ⟨hx, by omega, h.2⟩
theorem full_len {T : Tree} (h : Full T) : T.kids.length ≤ sizesN T.kids := len_sizes' fun x hx => (h.kids x hx).ne
end St
end Go.Proofs.Ytlgajkoplklkiaa

namespace Go.Proofs.Ytlgajkoplklkiaa
namespace Mc
open Go Go.Mq Tm Sb St
set_option linter.all false

/-! Fuel is used up, never made. -/
theorem ite_p {c : Prop} [Decidable c] {p : Rs → Prop} {a b : Rs} (h1 : c → p a) (h2 : ¬ c → p b) : p (if c then a else b) := by
  by_cases h : c
  · rw [if_pos h]; exact h1 h
  · rw [if_neg h]; exact h2 h
section
variable {ev : Tree → Ev → Nat → Rs} {fo : Tree → ByteArray → Tree → Vl → Ev → Nat → Rs}
theorem recM_f (h : ∀ T ρ f, (ev T ρ f).f ≤ f) (ρ : Ev) : ∀ (l : List Tree) (f : Nat) (ls : List ByteArray) (ps : List Vl), (recM ev ρ l f ls ps).f ≤ f
  | [], f, ls, ps => by rw [recM]; exact Nat.le_refl _
  | x :: l, f, ls, ps => by
    rw [recM]
    have h1 := h (x.kids.getD 0 .nil) ρ f
    split
    · exact Nat.le_trans (recM_f h ρ l _ _ _) h1
    · exact h1
theorem wrapM_f (h : ∀ T ρ f, (ev T ρ f).f ≤ f) (T : Tree) (ρ : Ev) (f : Nat) : (wrapM ev T ρ f).f ≤ f := by
  unfold wrapM bad
  have h1 := h (T.kids.getD 1 .nil) ρ f
  dsimp only
  split
  · split <;> exact h1
  · exact h1
theorem useM_f (h : ∀ T ρ f, (ev T ρ f).f ≤ f) (h2 : ∀ T nm s p ρ f, (fo T nm s p ρ f).f ≤ f) (T : Tree) (x : Vl) (ρ : Ev) (f : Nat) : (useM ev fo T x ρ f).f ≤ f := by
  unfold useM bad
  cases x <;> dsimp only
  case rcd ls ps => split <;> (try split) <;> exact Nat.le_refl _
  case tru b => split; · exact h _ _ _
                · exact Nat.le_refl _
  case clo ty b e => split; · (split; · exact h _ _ _
                               · exact Nat.le_refl _)
                     · exact Nat.le_refl _
  case pkd c p => split; · exact h _ _ _
                  · exact Nat.le_refl _
  case tag nm s p => split; · (split; · exact h _ _ _
                               · exact Nat.le_refl _)
                     · (split; · exact h2 _ _ _ _ _ _
                        · exact Nat.le_refl _)
  all_goals exact Nat.le_refl _
theorem opM_f (n : Int) (x y : Vl) (f : Nat) : (opM n x y f).f = f := by
  unfold opM
  split
  · refine ite_p (p := fun r => r.f = f) (fun _ => rfl) fun _ => ?_
    refine ite_p (p := fun r => r.f = f) (fun _ => rfl) fun _ => ?_
    exact ite_p (p := fun r => r.f = f) (fun _ => rfl) fun _ => rfl
  · rfl
theorem unrI_eq (T : Tree) (ρ : Ev) (x : Tree) (v : Vl) (f : Nat) : unrI fo T ρ x v f = unrM fo T ρ (x.kids.getD 0 .nil) v f := by
  cases x with
  | nil => rw [unrI]; simp only [Tree.kids, List.getD_nil]; rw [unrM]
  | node k n nm mk l =>
    rw [unrI]
    cases l with
    | nil => rw [unrH]; simp only [Tree.kids, List.getD_nil]; rw [unrM]
    | cons c l => rw [unrH]; rfl
theorem unrM_node (T : Tree) (ρ : Ev) (k n : Int) (nm mk : ByteArray) (l : List Tree) (x : Vl) (f : Nat) : unrM fo T ρ (.node k n nm mk l) x f = if k = 110 ∧ n = 0 then (if f = 0 then bad 18 f else match x with
      | .tag nm s p => fo T nm s p ρ (f - 1)
      | _ => bad 20 (f - 1))
    else match x with
      | .rcd ls ps => if k = 115 ∧ l.length = ps.length then unrsM fo T ρ l ls ps f x ls [] else ⟨x, 0, f⟩
      | x => ⟨x, 0, f⟩ := by
  cases x <;> rw [unrM] <;> (intros; contradiction)
theorem unrM_f (h2 : ∀ T nm s p ρ f, (fo T nm s p ρ f).f ≤ f) (T : Tree) (ρ : Ev) (c : Tree) : (∀ x f, (unrM fo T ρ c x f).f ≤ f) ∧ ∀ y ∈ c.kids, ∀ x f, (unrM fo T ρ y x f).f ≤ f := by
  induction c using Tree.ind' with
  | h0 => exact ⟨fun x f => by rw [unrM]; exact Nat.le_refl _, fun x hx => by cases hx⟩
  | h1 c hc ih =>
    refine ⟨fun x f => ?_, fun y hy => (ih y hy).1⟩
    cases c with
    | nil => exact absurd rfl hc
    | node k n nm mk l =>
      rw [unrM_node]
      split
      · split
        · exact Nat.le_refl _
        · cases x <;> dsimp only [bad] <;> first | omega | exact Nat.le_trans (h2 _ _ _ _ _ _) (Nat.sub_le _ _)
      · cases x with
        | rcd ls ps =>
          dsimp only
          split
          · have key : ∀ (l' : List Tree), (∀ y ∈ l', ∀ z ∈ y.kids, ∀ x f, (unrM fo T ρ z x f).f ≤ f) → ∀ (a : List ByteArray) (b : List Vl) (f : Nat) (w : Vl) (al : List ByteArray) (o : List Vl), (unrsM fo T ρ l' a b f w al o).f ≤ f := by
              intro l'
              induction l' with
              | nil => intro _ a b f w al o; rw [unrsM]; exact Nat.le_refl _
              | cons y l' ih2 =>
                intro hl a b f w al o
                have hy : ∀ x f, (unrI fo T ρ y x f).f ≤ f := by
                  intro x f
                  rw [unrI_eq]
                  cases hk : y.kids with
                  | nil => simp only [List.getD_nil]; rw [unrM]; exact Nat.le_refl _
                  | cons z r => exact hl y (by simp) z (by rw [hk]; simp) x f
                rw [unrsM]
                split
                · split
                  · exact Nat.le_trans (ih2 (fun y hy => hl y (by simp [hy])) _ _ _ _ _ _) (hy _ _)
                  · exact hy _ _
                · exact Nat.le_refl _
            exact key l (fun y hy z hz => (ih y hy).2 z hz) _ _ _ _ _ _
          · exact Nat.le_refl _
        | _ => exact Nat.le_refl _
end
theorem evfo_f : ∀ k : Nat, (∀ T ρ f, (evalD k T ρ f).f ≤ f) ∧ ∀ T nm s p ρ f, (foldD k T nm s p ρ f).f ≤ f
  | 0 => ⟨fun T ρ f => by rw [evalD]; exact Nat.le_refl _, fun T nm s p ρ f => by rw [foldD]; exact Nat.le_refl _⟩
  | k + 1 => by
    obtain ⟨h1, h2⟩ := evfo_f k
    constructor
    · intro T ρ f
      have hs : f - 1 ≤ f := Nat.sub_le _ _
      rw [evalD]
      refine ite_p (p := fun r => r.f ≤ f) (fun _ => Nat.zero_le _) fun _ => ?_
      refine ite_p (p := fun r => r.f ≤ f) (fun _ => by cases atE ρ T.n <;> exact hs) fun _ => ?_
      refine ite_p (p := fun r => r.f ≤ f) (fun _ => hs) fun _ => ?_
      refine ite_p (p := fun r => r.f ≤ f) (fun _ => hs) fun _ => ?_
      refine ite_p (p := fun r => r.f ≤ f) (fun _ => hs) fun _ => ?_
      refine ite_p (p := fun r => r.f ≤ f) (fun _ => hs) fun _ => ?_
      refine ite_p (p := fun r => r.f ≤ f) (fun _ => Nat.le_trans (recM_f h1 _ _ _ _ _) hs) fun _ => ?_
      refine ite_p (p := fun r => r.f ≤ f) (fun _ => Nat.le_trans (wrapM_f h1 _ _ _) hs) fun _ => ?_
      have ha := Nat.le_trans (h1 (T.kids.getD 0 .nil) ρ (f - 1)) hs
      generalize evalD k (T.kids.getD 0 .nil) ρ (f - 1) = a at ha
      refine ite_p (p := fun r => r.f ≤ f) (fun _ => ha) fun _ => ?_
      refine ite_p (p := fun r => r.f ≤ f) (fun _ => ?_) fun _ => ?_
      · have hb := Nat.le_trans (h1 (T.kids.getD 1 .nil) ρ a.f) ha
        generalize evalD k (T.kids.getD 1 .nil) ρ a.f = b at hb
        refine ite_p (p := fun r => r.f ≤ f) (fun _ => hb) fun _ => ?_
        refine ite_p (p := fun r => r.f ≤ f) (fun _ => by rw [opM_f]; exact hb) fun _ => ?_
        split
        · exact Nat.le_trans (h1 _ _ _) hb
        · exact hb
      refine ite_p (p := fun r => r.f ≤ f) (fun _ => Nat.le_trans (h1 _ _ _) ha) fun _ => ?_
      exact Nat.le_trans (useM_f h1 h2 _ _ _ _) ha
    · intro T nm s p ρ f
      rw [foldD]
      refine ite_p (p := fun r => r.f ≤ f) (fun _ => Nat.le_refl _) fun _ => ?_
      cases armF nm (T.kids.drop 2) with
      | none => exact Nat.le_refl _
      | some b =>
        refine ite_p (p := fun r => r.f ≤ f) (fun _ => Nat.le_refl _) fun _ => ?_
        cases armF nm (No.normR s).1.kids with
        | none => exact Nat.le_refl _
        | some c =>
          have hy := (unrM_f h2 T ρ c).1 p f
          refine ite_p (p := fun r => r.f ≤ f) (fun _ => hy) fun _ => Nat.le_trans (h1 _ _ _) hy
end Mc
end Go.Proofs.Ytlgajkoplklkiaa

namespace Go.Proofs.Ytlgajkoplklkiaa
namespace Sb
open Go Go.Mq Tm
set_option linter.all false

/-! Constructors put in: the walk -/
abbrev conL (s : Bool) (i : Int) (b : Tree) : List (Nat × AObj) := [(0, .cells [.d (.bool s)]), (1, .cells [.d (.int .i64 i)]), (2, .cells [.d (.tree b)])]
end Sb
end Go.Proofs.Ytlgajkoplklkiaa

namespace Go.Proofs.Ytlgajkoplklkiaa
namespace Sb
open Go Go.Mq Tm
set_option linter.all false

theorem substR_full {T b : Tree} {i : Int} (hT : Full T) (h : (substR T i b).2 = 0) : Full (substR T i b).1 := by
  unfold substR at h ⊢
  by_cases h1 : conE T = 0
  · rw [if_pos h1] at h ⊢
    by_cases h2 : conE b = 0
    · rw [if_pos h2] at h ⊢
      by_cases h3 : i < 0
      · rw [if_pos h3] at h; exact absurd h (by decide)
      · rw [if_neg h3] at h ⊢
        by_cases h4 : substE T i b = 0
        · rw [if_pos h4]
          exact walkF_full (fun x deep s hx => substStep_full _ _ _ x deep s hx) T _ _ hT
        · rw [if_neg h4] at h; exact absurd h h4
    · rw [if_neg h2] at h; exact absurd h h2
  · rw [if_neg h1] at h; exact absurd h h1
def wConI : Tree := .node 111 0 ByteArray.empty ByteArray.empty []
def m100 (i : Int) : Int := Int.tmod (IntKind.i64.wrap (Int.tmod i 100 + 100)) 100
end Sb
end Go.Proofs.Ytlgajkoplklkiaa

namespace Go.Proofs.Ytlgajkoplklkiaa
namespace Mc
open Go Go.Mq Tm Sb St
set_option linter.all false

/-! Values stay sound: bounds by the fuel that is left. -/
def QT (T : Tree) : Prop := isTermF T = true ∧ sizeN T ≤ 65536
def bd (f : Nat) : Nat := 1073741824 - 2 * f
theorem bd_le {a b : Nat} (h : a ≤ b) : bd b ≤ bd a := by unfold bd; omega
theorem bd_s {f : Nat} (h : f ≤ 500000000) : bd f = bd (f + 1) + 2 := by unfold bd; omega
theorem QT.ne {T : Tree} (h : QT T) : T ≠ .nil := term_ne h.1
theorem QT.size {T : Tree} (h : QT T) : sizesN T.kids ≤ 65535 := by have := sizeN_kids h.ne; have := h.2; omega
theorem QT.kid {T : Tree} (h : QT T) {i : Nat} (hi : i < T.kids.length) (ht : isTermF (T.kids.getD i .nil) = true) : QT (T.kids.getD i .nil) := by
  have := sizesN_mem (getD_mem hi)
  have := h.size
  exact ⟨ht, by omega⟩
theorem QT.arm {T : Tree} (h : QT T) {k : Int} {x : Tree} (hx : x ∈ T.kids) (ht : tfieldF k x = true) : QT (x.kids.getD 0 .nil) := by
  obtain ⟨t1, t2, t3, t4, t5⟩ := tfield_parts ht
  have s1 := sizesN_mem hx
  have s2 := sizeN_kids t1
  have s3 := sizesN_mem (getD_mem (l := x.kids) (i := 0) (by omega))
  have := h.size
  exact ⟨t5, by omega⟩
theorem QT.len {T : Tree} (h : QT T) : T.kids.length ≤ 65536 := by
  have := full_len (term_full h.1)
  have := h.size
  omega
theorem armF_mem {s : ByteArray} : ∀ {l : List Tree} {b : Tree}, armF s l = some b → ∃ x ∈ l, b = x.kids.getD 0 .nil
  | [], b, h => by rw [armF] at h; cases h
  | x :: l, b, h => by
    rw [armF] at h
    split at h
    · cases h; exact ⟨x, by simp, rfl⟩
    · obtain ⟨y, h1, h2⟩ := armF_mem h
      exact ⟨y, by simp [h1], h2⟩
theorem closeL_full : ∀ {l : List Tree} {n : Tree}, Full n → (closeL l n).2 = 0 → Full (closeL l n).1
  | [], n, h, _ => by rw [closeL]; exact h
  | c :: l, n, h, h0 => by
    rw [closeL] at h0 ⊢
    by_cases h1 : (substR n 0 c).2 = 0
    · rw [if_pos h1] at h0 ⊢; exact closeL_full (substR_full h h1) h0
    · rw [if_neg h1] at h0; exact absurd h0 h1
theorem okVs_app {Q : Tree → Prop} {B : Nat} : ∀ {a b : List Vl}, okVs Q B a → okVs Q B b → okVs Q B (a ++ b)
  | [], b, _, h => h
  | x :: a, b, h, h2 => by rw [okVs] at h; rw [List.cons_append, okVs]; exact ⟨h.1, okVs_app h.2 h2⟩
theorem okVs_getD {Q : Tree → Prop} {B : Nat} : ∀ {a : List Vl} (i : Nat), okVs Q B a → okV Q B (a.getD i .unt)
  | [], i, _ => by simp only [List.getD_nil]; rw [okV]; trivial
  | x :: a, 0, h => by rw [okVs] at h; exact h.1
  | x :: a, i + 1, h => by rw [okVs] at h; exact okVs_getD (a := a) i h.2
theorem okVs_drop {Q : Tree → Prop} {B : Nat} : ∀ {a : List Vl}, okVs Q B a → okVs Q B (a.drop 1)
  | [], _ => by rw [List.drop_nil, okVs]; trivial
  | x :: a, h => by rw [okVs] at h; exact h.2
theorem term_kinds {T : Tree} (h : isTermF T = true) : T.kind = 130 ∨ T.kind = 131 ∨ T.kind = 132 ∨ T.kind = 133 ∨ T.kind = 134 ∨ T.kind = 135 ∨ T.kind = 136 ∨ T.kind = 138 ∨ T.kind = 139 ∨ T.kind = 140 ∨ T.kind = 141 ∨ T.kind = 142 ∨ T.kind = 143 ∨ T.kind = 144 ∨ T.kind = 145 ∨ T.kind = 146 ∨ T.kind = 147 ∨ T.kind = 148 := by
  apply Decidable.byContradiction
  intro hn
  rw [isTermF_eq (term_ne h), Bool.and_eq_true] at h
  have h := h.2
  simp only [not_or] at hn
  repeat rw [if_neg (by omega)] at h
  cases h
theorem term_first {T : Tree} (hT : QT T) (c1 : T.kind ≠ 130) (c2 : T.kind ≠ 131) (c3 : T.kind ≠ 132) (c4 : T.kind ≠ 133) (c5 : ¬ (T.kind = 134 ∨ T.kind = 139)) (c6 : T.kind ≠ 136) (c7 : ¬ (T.kind = 146 ∨ T.kind = 141)) :
    QT (T.kids.getD 0 .nil) ∧ 0 < T.kids.length ∧ (T.kind = 135 ∨ T.kind = 138 ∨ T.kind = 140 ∨ T.kind = 142 ∨ T.kind = 143 ∨ T.kind = 144 ∨ T.kind = 145 ∨ T.kind = 147 ∨ T.kind = 148) := by
  have hk : T.kind = 135 ∨ T.kind = 138 ∨ T.kind = 140 ∨ T.kind = 142 ∨ T.kind = 143 ∨ T.kind = 144 ∨ T.kind = 145 ∨ T.kind = 147 ∨ T.kind = 148 := by
    have := term_kinds hT.1
    omega
  have h : 0 < T.kids.length ∧ isTermF (T.kids.getD 0 .nil) = true := by
    by_cases k1 : T.kind = 135 ∨ T.kind = 142 ∨ T.kind = 143 ∨ T.kind = 145
    · obtain ⟨q1, q2, q3⟩ := term_xx hT.1 k1; exact ⟨by omega, q2⟩
    by_cases k2 : T.kind = 138
    · obtain ⟨q1, q2⟩ := term_x hT.1 k2; exact ⟨by omega, q2⟩
    by_cases k3 : T.kind = 140
    · obtain ⟨q1, q2, q3⟩ := term_xc hT.1 k3; exact ⟨by omega, q2⟩
    by_cases k4 : T.kind = 144
    · obtain ⟨q1, q2, q3, q4⟩ := term_xxx hT.1 k4; exact ⟨by omega, q2⟩
    by_cases k5 : T.kind = 147
    · obtain ⟨q1, q2, q3⟩ := term_xa hT.1 k5; exact ⟨by omega, q2⟩
    · obtain ⟨q1, q2, q3, q4⟩ := term_xca hT.1 (by omega); exact ⟨by omega, q2⟩
  exact ⟨hT.kid h.1 h.2, h.1, hk⟩
theorem opM_q {n : Int} {x y : Vl} {f B : Nat} (h : (opM n x y f).e = 0) : okV QT B (opM n x y f).v := by
  have : (∃ a, (opM n x y f).v = .num a ∧ -1073741824 ≤ a ∧ a ≤ 1073741824) ∨ (∃ b, (opM n x y f).v = .tru b) ∨ (opM n x y f).v = .unt := by
    unfold opM bad
    split
    · refine ite_p (p := fun r => (∃ a, r.v = .num a ∧ -1073741824 ≤ a ∧ a ≤ 1073741824) ∨ (∃ b, r.v = .tru b) ∨ r.v = .unt) (fun _ => .inr (.inl ⟨_, rfl⟩)) fun _ => ?_
      refine ite_p (p := fun r => (∃ a, r.v = .num a ∧ -1073741824 ≤ a ∧ a ≤ 1073741824) ∨ (∃ b, r.v = .tru b) ∨ r.v = .unt) (fun _ => .inr (.inl ⟨_, rfl⟩)) fun _ => ?_
      refine ite_p (p := fun r => (∃ a, r.v = .num a ∧ -1073741824 ≤ a ∧ a ≤ 1073741824) ∨ (∃ b, r.v = .tru b) ∨ r.v = .unt) (fun _ => .inr (.inr rfl)) fun hr => ?_
      exact .inl ⟨_, rfl, by omega, by omega⟩
    · exact .inr (.inr rfl)
  obtain ⟨a, h, h2⟩ | ⟨b, h⟩ | h := this <;> rw [h, okV] <;> first | exact h2 | trivial
section
variable {ev : Tree → Ev → Nat → Rs} {fo : Tree → ByteArray → Tree → Vl → Ev → Nat → Rs}
def EVq (ev : Tree → Ev → Nat → Rs) : Prop := ∀ T ρ f, QT T → okEv QT (bd f) ρ → sizeE ρ ≤ bd f → f ≤ 500000000 → (ev T ρ f).e = 0 → okV QT (bd ((ev T ρ f).f + 1)) (ev T ρ f).v
def FOq (fo : Tree → ByteArray → Tree → Vl → Ev → Nat → Rs) : Prop := ∀ T nm s p ρ f, QT T → T.kind = 148 → okEv QT (bd (f + 1)) ρ → sizeE ρ ≤ bd (f + 1) → okV QT (bd (f + 1)) p → f ≤ 500000000 → (fo T nm s p ρ f).e = 0 → okV QT (bd ((fo T nm s p ρ f).f + 1)) (fo T nm s p ρ f).v
theorem recM_q (h1 : ∀ T ρ f, (ev T ρ f).f ≤ f) (h : EVq ev) (ρ : Ev) (F : Nat) (hF : F ≤ 500000000) (hr : okEv QT (bd F) ρ) (hs : sizeE ρ ≤ bd F) : ∀ (l : List Tree) (f : Nat) (ls : List ByteArray) (ps : List Vl), (∀ x ∈ l, QT (x.kids.getD 0 .nil) ∧ x.name.size ≤ 1000) → (∀ s ∈ ls, s.size ≤ 1000) → f ≤ F →
    ls.length = ps.length → ls.length + l.length ≤ 1048576 → okVs QT (bd (f + 1)) ps → (recM ev ρ l f ls ps).e = 0 → okV QT (bd ((recM ev ρ l f ls ps).f + 1)) (recM ev ρ l f ls ps).v
  | [], f, ls, ps, _, hnl, _, hl, hz, hp, _ => by rw [recM]; dsimp only; rw [okV]; exact ⟨hl, by simpa using hz, hp, hnl⟩
  | x :: l, f, ls, ps, hq, hnl, hf, hl, hz, hp, he => by
    rw [recM] at he ⊢
    by_cases h0 : (ev (x.kids.getD 0 .nil) ρ f).e = 0
    · rw [if_pos h0] at he ⊢
      have hfu := h1 (x.kids.getD 0 .nil) ρ f
      have hv := h _ ρ f (hq x (by simp)).1 (okEv_mono QT (bd_le hf) hr) (Nat.le_trans hs (bd_le hf)) (by omega) h0
      refine recM_q h1 h ρ F hF hr hs l _ _ _ (fun y hy => hq y (by simp [hy])) (fun s hs => by rcases List.mem_append.1 hs with hs | hs; exact hnl s hs; rw [List.mem_singleton] at hs; rw [hs]; exact (hq x (by simp)).2) (by omega) (by simp [hl]) (by simp only [List.length_append, List.length_cons, List.length_nil] at hz ⊢; omega) ?_ he
      refine okVs_app (okVs_mono QT (bd_le (by omega)) hp) ?_
      rw [okVs, okVs]; exact ⟨hv, trivial⟩
    · rw [if_neg h0] at he; exact absurd he h0
theorem unrM_q (h1 : ∀ T nm s p ρ f, (fo T nm s p ρ f).f ≤ f) (h : FOq fo) {T : Tree} (hT : QT T) (hk : T.kind = 148) {ρ : Ev} {F : Nat} (hF : F ≤ 500000000) (hr : okEv QT (bd (F + 1)) ρ) (hs : sizeE ρ ≤ bd (F + 1)) (c : Tree) :
    (∀ x f, f ≤ F → okV QT (bd (f + 1)) x → (unrM fo T ρ c x f).e = 0 → okV QT (bd ((unrM fo T ρ c x f).f + 1)) (unrM fo T ρ c x f).v) ∧
    ∀ y ∈ c.kids, ∀ x f, f ≤ F → okV QT (bd (f + 1)) x → (unrM fo T ρ y x f).e = 0 → okV QT (bd ((unrM fo T ρ y x f).f + 1)) (unrM fo T ρ y x f).v := by
  induction c using Tree.ind' with
  | h0 => exact ⟨fun x f _ hx _ => by rw [unrM]; exact hx, fun x hx => by cases hx⟩
  | h1 c hc ih =>
    refine ⟨fun x f hf hx he => ?_, fun y hy => (ih y hy).1⟩
    cases c with
    | nil => exact absurd rfl hc
    | node k n nm mk l =>
      rw [unrM_node] at he ⊢
      by_cases hv : k = 110 ∧ n = 0
      · rw [if_pos hv] at he ⊢
        by_cases f0 : f = 0
        · rw [if_pos f0] at he; cases he
        · rw [if_neg f0] at he ⊢
          cases x with
          | tag nm s p =>
            dsimp only at he ⊢
            rw [okV] at hx
            have hx := hx.2
            have e1 : f - 1 + 1 = f := by omega
            exact h T nm s p ρ (f - 1) hT hk (okEv_mono QT (bd_le (by omega)) hr) (Nat.le_trans hs (bd_le (by omega))) (okV_mono QT (bd_le (by omega)) hx) (by omega) he
          | _ => cases he
      · rw [if_neg hv] at he ⊢
        cases x with
        | rcd ls ps =>
          dsimp only at he ⊢
          by_cases hl : k = 115 ∧ l.length = ps.length
          · rw [if_pos hl] at he ⊢
            rw [okV] at hx
            have key : ∀ (l' : List Tree), (∀ y ∈ l', ∀ z ∈ y.kids, ∀ x f, f ≤ F → okV QT (bd (f + 1)) x → (unrM fo T ρ z x f).e = 0 → okV QT (bd ((unrM fo T ρ z x f).f + 1)) (unrM fo T ρ z x f).v) →
                ∀ (a : List ByteArray) (b : List Vl) (f : Nat) (w : Vl) (al : List ByteArray) (o : List Vl), f ≤ F → okVs QT (bd (f + 1)) b → okV QT (bd (f + 1)) w → okVs QT (bd (f + 1)) o → al.length = o.length + l'.length → al.length ≤ 1048576 → (∀ s ∈ al, s.size ≤ 1000) → (unrsM fo T ρ l' a b f w al o).e = 0 →
                okV QT (bd ((unrsM fo T ρ l' a b f w al o).f + 1)) (unrsM fo T ρ l' a b f w al o).v := by
              intro l'
              induction l' with
              | nil => intro _ a b f w al o _ _ _ ho hal hz hal2 _; rw [unrsM]; dsimp only; rw [okV]; exact ⟨by simpa using hal, hz, ho, hal2⟩
              | cons y l' ih2 =>
                intro hy0 a b f w al o hf hb hw ho hal hz hal2 he
                rw [unrsM] at he ⊢
                split at he
                · rename_i hn
                  rw [if_pos hn]
                  have hy : ∀ x f, f ≤ F → okV QT (bd (f + 1)) x → (unrI fo T ρ y x f).e = 0 → okV QT (bd ((unrI fo T ρ y x f).f + 1)) (unrI fo T ρ y x f).v := by
                    intro x f q1 q2 q3
                    rw [unrI_eq] at q3 ⊢
                    cases hk : y.kids with
                    | nil => simp only [List.getD_nil]; rw [unrM]; exact q2
                    | cons z r => rw [hk] at q3; exact hy0 y (by simp) z (by rw [hk]; simp) x f q1 q2 q3
                  have hfu : (unrI fo T ρ y (b.getD 0 .unt) f).f ≤ f := by rw [unrI_eq]; exact (unrM_f h1 T ρ _).1 _ _
                  by_cases h0 : (unrI fo T ρ y (b.getD 0 .unt) f).e = 0
                  · rw [if_pos h0] at he ⊢
                    have hv := hy _ f hf (okVs_getD 0 hb) h0
                    have hm := bd_le (a := (unrI fo T ρ y (b.getD 0 .unt) f).f + 1) (b := f + 1) (by omega)
                    refine ih2 (fun y hy => hy0 y (by simp [hy])) _ _ _ _ _ _ (by omega) (okVs_mono QT hm (okVs_drop hb)) (okV_mono QT hm hw) (okVs_app (okVs_mono QT hm ho) (by rw [okVs, okVs]; exact ⟨hv, trivial⟩)) (by simp only [List.length_append, List.length_cons, List.length_nil] at hal ⊢; omega) hz hal2 he
                  · rw [if_neg h0] at he; exact absurd he h0
                · rename_i hn
                  rw [if_neg hn]
                  exact hw
            exact key l (fun y hy z hz => (ih y hy).2 z hz) ls ps f (.rcd ls ps) ls [] hf hx.2.2.1 (by rw [okV]; exact hx) (by rw [okVs]; trivial) (by simp; omega) hx.2.1 hx.2.2.2 he
          · rw [if_neg hl]; exact hx
        | _ => exact hx
theorem useM_q (h : EVq ev) (h2 : FOq fo) {T : Tree} (hT : QT T) {x : Vl} {ρ : Ev} {f : Nat} (hf : f ≤ 500000000) (hr : okEv QT (bd (f + 1)) ρ) (hs : sizeE ρ ≤ bd (f + 1)) (hx : okV QT (bd (f + 1)) x) (he : (useM ev fo T x ρ f).e = 0) :
    okV QT (bd ((useM ev fo T x ρ f).f + 1)) (useM ev fo T x ρ f).v := by
  have hb := bd_s hf
  have hm := bd_le (a := f) (b := f + 1) (by omega)
  unfold useM at he ⊢
  cases x with
  | rcd ls ps =>
    dsimp only at he ⊢
    rw [okV] at hx
    cases hl : lookM T.name ls ps with
    | none => rw [hl] at he; cases he
    | some p =>
      rw [hl] at he
      dsimp only at he ⊢
      split at he
      · rename_i hk; rw [if_pos hk]; exact lookM_ok QT hx.2.2.1 hl
      · cases he
  | tru b =>
    dsimp only at he ⊢
    split at he
    · rename_i hk
      rw [if_pos hk]
      obtain ⟨q1, q2, q3, q4⟩ := term_xxx hT.1 hk
      refine h _ ρ f ?_ (okEv_mono QT hm hr) (by omega) hf he
      cases b
      · exact hT.kid (by simp only [Bool.false_eq_true, if_false]; omega) (by simpa using q4)
      · exact hT.kid (by simp only [if_true]; omega) (by simpa using q3)
    · cases he
  | clo ty b e =>
    dsimp only at he ⊢
    rw [okV] at hx
    split at he
    · rename_i hk
      rw [if_pos hk]
      split at he
      · rename_i hc
        rw [if_pos hc]
        have hcf : Full (closeL (consE ρ) (T.kids.getD 1 .nil)).1 := closeL_full (shw_full _ (.inl (.inl (term_xc hT.1 hk.1).2.2))) hc
        exact h b (.con _ e) f hx.1 (by rw [okEv]; exact ⟨hcf.ne, okEv_mono QT hm hx.2.1⟩) (by show sizeE e + 1 ≤ _; have := hx.2.2; omega) hf he
      · rename_i hc; exact absurd he hc
    · cases he
  | pkd c p =>
    dsimp only at he ⊢
    rw [okV] at hx
    split at he
    · rename_i hk
      rw [if_pos hk]
      obtain ⟨q1, q2, q3⟩ := term_xx hT.1 (.inr (.inl hk))
      exact h _ (.val p (.con c ρ)) f (hT.kid (by omega) q3) (by rw [okEv, okEv]; exact ⟨okV_mono QT hm hx.2, hx.1, okEv_mono QT hm hr⟩) (by show sizeE ρ + 1 + 1 ≤ _; omega) hf he
    · cases he
  | tag nm s p =>
    dsimp only at he ⊢
    rw [okV] at hx
    have hx := hx.2
    split at he
    · rename_i hk
      rw [if_pos hk]
      obtain ⟨q1, q2, q3⟩ := term_xa hT.1 hk
      split at he
      · rename_i b hb'
        obtain ⟨y, hy1, hy2⟩ := armF_mem hb'
        refine h b (.val p ρ) f ?_ (by rw [okEv]; exact ⟨okV_mono QT hm hx, okEv_mono QT hm hr⟩) (by show sizeE ρ + 1 ≤ _; omega) hf he
        rw [hy2]; exact hT.arm (List.mem_of_mem_drop hy1) (q3 y hy1)
      · cases he
    · rename_i hk
      rw [if_neg hk]
      split at he
      · rename_i hk8
        rw [if_pos hk8]
        exact h2 T nm s p ρ f hT hk8 hr hs hx hf he
      · cases he
  | _ => cases he
end
theorem wrapM_q {ev : Tree → Ev → Nat → Rs} (h1 : ∀ T ρ f, (ev T ρ f).f ≤ f) (h : EVq ev) {T : Tree} (hT : QT T) (hk : T.kind = 146 ∨ T.kind = 141) {ρ : Ev} {f : Nat} (hf : f ≤ 500000000) (hr : okEv QT (bd f) ρ) (hs : sizeE ρ ≤ bd f) (he : (wrapM ev T ρ f).e = 0) :
    okV QT (bd ((wrapM ev T ρ f).f + 1)) (wrapM ev T ρ f).v := by
  have hq : QT (T.kids.getD 1 .nil) ∧ isConF (T.kids.getD 0 .nil) = true := by
    rcases hk with hk | hk
    · obtain ⟨q1, q2, q3⟩ := term_cx hT.1 (.inr hk); exact ⟨hT.kid (by omega) q3, q2⟩
    · obtain ⟨q1, q2, q3, q4⟩ := term_cxc hT.1 hk; exact ⟨hT.kid (by omega) q3, q2⟩
  have hv := h _ ρ f hq.1 hr hs hf
  unfold wrapM at he ⊢
  dsimp only at he ⊢
  generalize ev (T.kids.getD 1 .nil) ρ f = x at he hv ⊢
  by_cases h0 : x.e = 0
  · rw [if_pos h0] at he ⊢
    by_cases hc : (closeL (consE ρ) (T.kids.getD 0 .nil)).2 = 0
    · rw [if_pos hc]
      dsimp only
      have hcf : Full (closeL (consE ρ) (T.kids.getD 0 .nil)).1 := closeL_full (shw_full _ (.inl (.inl hq.2))) hc
      split
      · rw [okV]; exact ⟨by have := (term_head hT.1).1.size; omega, hv h0⟩
      · rw [okV]; exact ⟨hcf.ne, hv h0⟩
    · rw [if_neg hc] at he; exact absurd he hc
  · rw [if_neg h0] at he; exact absurd he h0
theorem evfo_q : ∀ k : Nat, EVq (evalD k) ∧ FOq (foldD k)
  | 0 => by
    constructor
    · intro T ρ f _ _ _ _ he
      rw [evalD] at he; cases he
    · intro T nm s p ρ f _ _ _ _ _ _ he
      rw [foldD] at he; cases he
  | k + 1 => by
    obtain ⟨h1, h2⟩ := evfo_q k
    have f1 := (evfo_f k).1
    have f2 := (evfo_f k).2
    constructor
    · intro T ρ f hT hr hs hf he
      rw [evalD] at he ⊢
      by_cases f0 : f = 0
      · rw [if_pos f0] at he; cases he
      rw [if_neg f0] at he ⊢
      have e1 : f - 1 + 1 = f := by omega
      have hm := bd_le (a := f - 1) (b := f) (by omega)
      have hb := bd_s (f := f - 1) (by omega)
      rw [e1] at hb
      by_cases c1 : T.kind = 130
      · rw [if_pos c1] at he ⊢
        cases ha : atE ρ T.n with
        | none => rw [ha] at he; cases he
        | some v => dsimp only; rw [e1]; exact atE_ok QT hr ha
      rw [if_neg c1] at he ⊢
      by_cases c2 : T.kind = 131
      · rw [if_pos c2]; dsimp only; rw [okV]; exact (term_head hT.1).1.n131 c2
      rw [if_neg c2] at he ⊢
      by_cases c3 : T.kind = 132
      · rw [if_pos c3]; dsimp only; rw [okV]; trivial
      rw [if_neg c3] at he ⊢
      by_cases c4 : T.kind = 133
      · rw [if_pos c4]; dsimp only; rw [okV]; trivial
      rw [if_neg c4] at he ⊢
      by_cases c5 : T.kind = 134 ∨ T.kind = 139
      · rw [if_pos c5]
        dsimp only
        rw [e1, okV]
        refine ⟨?_, hr, hs⟩
        rcases c5 with c5 | c5
        · obtain ⟨q1, q2, q3⟩ := term_cx hT.1 (.inl c5); exact hT.kid (by omega) q3
        · obtain ⟨q1, q2, q3⟩ := term_kx hT.1 c5; exact hT.kid (by omega) q3
      rw [if_neg c5] at he ⊢
      by_cases c6 : T.kind = 136
      · rw [if_pos c6] at he ⊢
        have hfl := (term_f hT.1 c6).1
        have := hT.len
        exact recM_q f1 h1 ρ (f - 1) (by omega) (okEv_mono QT hm hr) (by omega) _ _ _ _ (fun x hx => ⟨hT.arm hx (hfl x hx), by have := (tfield_parts (hfl x hx)).2.2.1; omega⟩) (fun s hs => by cases hs) (Nat.le_refl _) rfl (by simp; omega) (by rw [okVs]; trivial) he
      rw [if_neg c6] at he ⊢
      by_cases c7 : T.kind = 146 ∨ T.kind = 141
      · rw [if_pos c7] at he ⊢
        exact wrapM_q f1 h1 hT c7 (by omega) (okEv_mono QT hm hr) (by omega) he
      rw [if_neg c7] at he ⊢
      dsimp only at he ⊢
      have hk0 : QT (T.kids.getD 0 .nil) := (term_first hT (by omega) (by omega) (by omega) (by omega) (by omega) (by omega) (by omega)).1
      have hav := h1 _ ρ (f - 1) hk0 (okEv_mono QT hm hr) (by omega) (by omega)
      have haf := f1 (T.kids.getD 0 .nil) ρ (f - 1)
      generalize evalD k (T.kids.getD 0 .nil) ρ (f - 1) = a at he hav haf ⊢
      by_cases ha : a.e = 0
      · rw [if_neg (by simp [ha])] at he ⊢
        have hav := hav ha
        have hma := bd_le (a := a.f) (b := a.f + 1) (by omega)
        have hmf := bd_le (a := a.f + 1) (b := f) (by omega)
        have hba := bd_s (f := a.f) (by omega)
        by_cases c8 : T.kind = 135 ∨ T.kind = 145
        · rw [if_pos c8] at he ⊢
          obtain ⟨q1, q2, q3⟩ := term_xx hT.1 (by omega)
          have hk1 : QT (T.kids.getD 1 .nil) := hT.kid (by omega) q3
          have hbv := h1 _ ρ a.f hk1 (okEv_mono QT (by omega) hr) (by omega) (by omega)
          have hbf := f1 (T.kids.getD 1 .nil) ρ a.f
          generalize evalD k (T.kids.getD 1 .nil) ρ a.f = b at he hbv hbf ⊢
          by_cases hb0 : b.e = 0
          · rw [if_neg (by simp [hb0])] at he ⊢
            have hbv := hbv hb0
            by_cases c9 : T.kind = 145
            · rw [if_pos c9] at he ⊢
              exact opM_q he
            · rw [if_neg c9] at he ⊢
              split at he
              · rename_i body e hae
                rw [hae] at hav
                rw [okV] at hav
                have hmb := bd_le (a := b.f) (b := b.f + 1) (by omega)
                have hmb2 := bd_le (a := b.f + 1) (b := a.f + 1) (by omega)
                have hbb := bd_s (f := b.f) (by omega)
                exact h1 body (.val b.v e) b.f hav.1 (by rw [okEv]; exact ⟨okV_mono QT hmb hbv, okEv_mono QT (by omega) hav.2.1⟩) (by show sizeE e + 1 ≤ _; have := hav.2.2; omega) (by omega) he
              · cases he
          · rw [if_pos hb0] at he; exact absurd he hb0
        rw [if_neg c8] at he ⊢
        by_cases c10 : T.kind = 143
        · rw [if_pos c10] at he ⊢
          obtain ⟨q1, q2, q3⟩ := term_xx hT.1 (by omega)
          exact h1 _ (.val a.v ρ) a.f (hT.kid (by omega) q3) (by rw [okEv]; exact ⟨okV_mono QT hma hav, okEv_mono QT (by omega) hr⟩) (by show sizeE ρ + 1 ≤ _; omega) (by omega) he
        rw [if_neg c10] at he ⊢
        exact useM_q h1 h2 hT (by omega) (okEv_mono QT (by omega) hr) (by omega) hav he
      · rw [if_pos ha] at he; exact absurd he ha
    · intro T nm s p ρ f hT hk hr hs hp hf he
      obtain ⟨q1, q2, q3, q4⟩ := term_xca hT.1 hk
      rw [foldD] at he ⊢
      by_cases c1 : (No.normR s).2 = 0
      · rw [if_neg (by simp [c1])] at he ⊢
        cases hA : armF nm (T.kids.drop 2) with
        | none => rw [hA] at he; cases he
        | some b =>
          rw [hA] at he
          dsimp only at he ⊢
          by_cases c2 : (No.normR s).1.kind = 121
          · rw [if_neg (by simp [c2])] at he ⊢
            cases hA2 : armF nm (No.normR s).1.kids with
            | none => rw [hA2] at he; cases he
            | some c =>
              rw [hA2] at he
              dsimp only at he ⊢
              have huf := (unrM_f f2 T ρ c).1 p f
              have huq := (unrM_q f2 h2 hT hk hf hr hs c).1 p f (Nat.le_refl _) hp
              generalize unrM (foldD k) T ρ c p f = y at huf huq he ⊢
              by_cases c3 : y.e = 0
              · rw [if_neg (by simp [c3])] at he ⊢
                have huq := huq c3
                obtain ⟨x1, hx1, hb1⟩ := armF_mem hA
                have hbq : QT b := by rw [hb1]; exact hT.arm (List.mem_of_mem_drop hx1) (q4 x1 hx1)
                have hmy := bd_le (a := y.f) (b := y.f + 1) (by omega)
                have hmf := bd_le (a := y.f + 1) (b := f + 1) (by omega)
                have hby := bd_s (f := y.f) (by omega)
                exact h1 b (.val y.v ρ) y.f hbq (by rw [okEv]; exact ⟨okV_mono QT hmy huq, okEv_mono QT (by omega) hr⟩) (by show sizeE ρ + 1 ≤ _; omega) (by omega) he
              · rw [if_pos c3] at he; exact absurd he c3
          · rw [if_pos c2] at he; cases he
      · rw [if_pos c1] at he; exact absurd he c1
theorem FOq_all (k : Nat) : FOq (foldD k) := (evfo_q k).2
theorem EVq_all (k : Nat) : EVq (evalD k) := (evfo_q k).1
end Mc
end Go.Proofs.Ytlgajkoplklkiaa

namespace Go.Proofs.Ytlgajkoplklkiaa
namespace Mc
open Go Go.Mq Tm Sb St
set_option linter.all false

/-! The walk: folds within a value -/
def unrV (fo : Tree → ByteArray → Tree → Vl → Ev → Nat → Rs) (T : Tree) (ρ : Ev) (x : Vl) (f : Nat) : Rs := if f = 0 then bad 18 f else match x with
  | .tag nm s p => fo T nm s p ρ (f - 1)
  | _ => bad 20 (f - 1)
theorem unrM_var (fo : Tree → ByteArray → Tree → Vl → Ev → Nat → Rs) (T : Tree) (ρ : Ev) {c : Tree} (hc : c ≠ .nil) (hk : c.kind = 110 ∧ c.n = 0) (x : Vl) (f : Nat) : unrM fo T ρ c x f = unrV fo T ρ x f := by
  cases c with
  | nil => exact absurd rfl hc
  | node k n nm mk l => rw [unrM_node, if_pos (show k = 110 ∧ n = 0 from hk)]; rfl
theorem unrM_same (fo : Tree → ByteArray → Tree → Vl → Ev → Nat → Rs) (T : Tree) (ρ : Ev) {c : Tree} (hk : ¬ (c.kind = 110 ∧ c.n = 0)) {x : Vl} (f : Nat) (hx : ∀ ls ps, x = .rcd ls ps → ¬ (c.kind = 115 ∧ c.kids.length = ps.length)) : unrM fo T ρ c x f = ⟨x, 0, f⟩ := by
  cases c with
  | nil => rw [unrM]
  | node k n nm mk l =>
    rw [unrM_node, if_neg (show ¬ (k = 110 ∧ n = 0) from hk)]
    cases x with
    | rcd ls ps => dsimp only; rw [if_neg (show ¬ (k = 115 ∧ l.length = ps.length) from hx ls ps rfl)]
    | _ => rfl
theorem unrM_rec (fo : Tree → ByteArray → Tree → Vl → Ev → Nat → Rs) (T : Tree) (ρ : Ev) {c : Tree} (hk : c.kind = 115) {ls : List ByteArray} {ps : List Vl} (f : Nat) (hx : c.kids.length = ps.length) : unrM fo T ρ c (.rcd ls ps) f = unrsM fo T ρ c.kids ls ps f (.rcd ls ps) ls [] := by
  cases c with
  | nil => cases hk
  | node k n nm mk l =>
    have hk : k = 115 := hk
    rw [unrM_node, if_neg (by omega)]
    dsimp only
    rw [if_pos (show k = 115 ∧ l.length = ps.length from ⟨hk, hx⟩)]
    rfl
set_option maxHeartbeats 8000000 in
set_option maxRecDepth 10000 in
theorem unr_var (fo : Tree → ByteArray → Tree → Vl → Ev → Nat → Rs) (T : Tree) (ρ : Ev) (c : Tree) (hc : c ≠ .nil) (hk : c.kind = 110 ∧ c.n = 0) (x : Vl) (f : Nat)
    (hf : ∀ nm s p, 0 < f → x = .tag nm s p → Fun P 58 [.ref 0 0, .d (.tree T), .agg [.d (.str nm), .d (.tree s), .d (vD p)], .d (eD ρ)] (MP (f - 1)) 1 (rsA (fo T nm s p ρ (f - 1))) (MP (fo T nm s p ρ (f - 1)).f) 1)
    (hf0 : f ≤ 500000000) :
    Fun P 77 [.ref 0 0, .d (.tree c), .d (vD x), .d (.tree T), .d (eD ρ)] (MP f) 1 (rsA (unrM fo T ρ c x f)) (MP (unrM fo T ρ c x f).f) 1 := by
  have hv := unrM_var fo T ρ hc hk x f
  obtain ⟨hk1, hk2⟩ := hk
  generalize unrM fo T ρ c x f = r at hv
  unfold unrV at hv
  by_cases f0 : f = 0
  · rw [if_pos f0] at hv
    subst f0
    subst hv
    obtain ⟨t, y, hy⟩ := vD_if x
    rw [hy]
    refine Fun.of_body tt [] [10, 11] (Try.func77) rfl rfl rfl (Nat.le_of_ble_eq_true rfl) fun g => ?_
    repeat' ((first
      | refine then_go hm htt ?_
      | refine Side.go ?_
      | refine Hyp.go fun hlen => ?_
      | refine Split.ct ?_
      | refine Split.cf ?_
      | refine Split.tt ?_
      | refine Split.ff ?_
      | refine Indep.go ?_
      | refine Split.of_true (show (c.kind == 110) = true from by simpa using hk1) ?_
      | refine Split.of_true (show (c.n == 0) = true from by simpa using hk2) ?_
      | refine Split.go (fun hc => ?_) fun hc => ?_) <;> conv => whnf)
    refine RetS.ent (σ' := ⟨[(10, .d .nilI), (11, .d (.int .i64 18))], 139, [(0, .cells [.d (.int .i64 0)])], 1, g⟩) (Ent.go [0]) ?_
    exact ret_objs rfl rfl rfl (by repeat' first | exact trivial | apply And.intro | rfl | (refine int_eq ?_; rw [wrap64] <;> omega)) (Nat.le_refl _)
  · rw [if_neg f0] at hv
    have hw : IntKind.i64.wrap ((f : Int) - 1) = ((f - 1 : Nat) : Int) := by rw [wrap64] <;> omega
    cases x with
    | tag nm s p =>
      dsimp only at hv
      have h1 := hf nm s p (by omega) rfl
      rw [← hv] at h1
      obtain ⟨t, y, hy⟩ := vD_if p
      rw [hy] at h1
      rw [vD, hy]
      unfold rsA MP at *
      refine Fun.of_body tt [] [10, 11] (Try.func77) rfl rfl rfl (Nat.le_of_ble_eq_true rfl) fun g => ?_
      repeat' ((first
        | refine then_go hm htt ?_
        | refine Side.go ?_
        | refine Hyp.go fun hlen => ?_
        | refine Split.ct ?_
        | refine Split.cf ?_
        | refine Split.tt ?_
        | refine Split.ff ?_
        | refine Indep.go ?_
        | refine Split.of_true (show (c.kind == 110) = true from by simpa using hk1) ?_
        | refine Split.of_true (show (c.n == 0) = true from by simpa using hk2) ?_
        | refine Split.of_false (show ((f : Int) == 0) = false from by simp; omega) ?_
        | refine CallG.fun h1 [0] rfl rfl rfl rfl rfl rfl (by repeat' first | exact trivial | apply And.intro | rfl | (exact congrArg (fun z => some (AObj.cells [AVal.d (Mq.Data.int .i64 z)])) hw)) rfl ?_
        | refine Split.go (fun hc => ?_) fun hc => ?_) <;> conv => whnf)
      refine RetS.ent (σ' := ⟨[(10, .d (if r.e = 0 then vD r.v else .nilI)), (11, .d (.int .i64 r.e))], 139, [(0, .cells [.d (.int .i64 r.f)])], 1, g⟩) (Ent.go [0]) ?_
      exact ret_objs rfl rfl rfl (by repeat' first | exact trivial | apply And.intro | rfl | (refine int_eq ?_; rw [wrap64] <;> omega)) (Nat.le_refl _)
    | _ =>
      dsimp only at hv
      subst hv
      rw [vD]
      refine Fun.of_body tt [] [10, 11] (Try.func77) rfl rfl rfl (Nat.le_of_ble_eq_true rfl) fun g => ?_
      repeat' ((first
        | refine then_go hm htt ?_
        | refine Side.go ?_
        | refine Hyp.go fun hlen => ?_
        | refine Split.ct ?_
        | refine Split.cf ?_
        | refine Split.tt ?_
        | refine Split.ff ?_
        | refine Indep.go ?_
        | refine Split.of_true (show (c.kind == 110) = true from by simpa using hk1) ?_
        | refine Split.of_true (show (c.n == 0) = true from by simpa using hk2) ?_
        | refine Split.of_false (show ((f : Int) == 0) = false from by simp; omega) ?_
        | refine Split.go (fun hc => ?_) fun hc => ?_) <;> conv => whnf)
      refine RetS.ent (σ' := ⟨[(10, .d .nilI), (11, .d (.int .i64 20))], 139, [(0, .cells [.d (.int .i64 (f - 1 : Nat))])], 1, g⟩) (Ent.re [0] rfl rfl rfl rfl rfl rfl (by repeat' first | exact trivial | apply And.intro | rfl | (refine int_eq ?_; rw [wrap64] <;> omega)) (by repeat' first | exact trivial | apply And.intro | rfl | (exact congrArg (fun z => some (AObj.cells [AVal.d (Mq.Data.int .i64 z)])) hw))) ?_
      exact ret_objs rfl rfl rfl (by repeat' first | exact trivial | apply And.intro | rfl | (refine int_eq ?_; rw [wrap64] <;> omega)) (Nat.le_refl _)
end Mc
end Go.Proofs.Ytlgajkoplklkiaa

namespace Go.Proofs.Ytlgajkoplklkiaa
namespace Mc
open Go Go.Mq Tm Sb St
set_option linter.all false

/-! The walk: folds within a value, what stays as it is -/
set_option maxHeartbeats 16000000 in
set_option maxRecDepth 10000 in
theorem unr_same (T : Tree) (ρ : Ev) (c : Tree) (hc : c ≠ .nil) (hk : ¬ (c.kind = 110 ∧ c.n = 0)) (x : Vl) (f : Nat)
    (hx : ∀ ls ps, x = .rcd ls ps → ¬ (c.kind = 115 ∧ c.kids.length = ps.length)) :
    Fun P 77 [.ref 0 0, .d (.tree c), .d (vD x), .d (.tree T), .d (eD ρ)] (MP f) 1 (rsA ⟨x, 0, f⟩) (MP f) 1 := by
  unfold rsA MP
  rw [if_pos rfl]
  have hcs : c.kind = 110 → c.n = 0 → False := fun h1 h2 => hk ⟨h1, h2⟩
  cases x with
  | rcd ls ps =>
    have hx := hx ls ps rfl
    have hpl : (ps.map vD).length = ps.length := List.length_map _
    rw [vD, vsD_map]
    refine Fun.of_body tt [] [10, 11] (Try.func77) rfl rfl rfl (Nat.le_of_ble_eq_true rfl) fun g => ?_
    repeat' ((first
      | refine then_go hm htt ?_
      | refine Side.go ?_
      | refine Hyp.go fun hlen => ?_
      | refine Split.ct ?_
      | refine Split.cf ?_
      | refine Split.tt ?_
      | refine Split.ff ?_
      | refine Indep.go ?_
      | refine Split.go (fun hc => ?_) fun hc => ?_) <;> conv => whnf)
    all_goals first
      | (exfalso; exact hcs (by assumption) (by assumption))
      | (exfalso; apply hx; constructor <;> omega)
      | (refine RetS.ent (σ' := ⟨[(10, .d (vD (.rcd ls ps))), (11, .d (.int .i64 0))], 139, [(0, .cells [.d (.int .i64 f)])], 1, g⟩) (Ent.re [0] rfl rfl rfl rfl rfl rfl ⟨⟨by rw [vD, vsD_map]; rfl, rfl⟩, ⟨rfl, rfl⟩, trivial⟩ (by repeat' first | exact trivial | apply And.intro | rfl | (refine int_eq ?_; rw [wrap64] <;> omega))) ?_
         refine ret_objs rfl rfl ?_ (by repeat' first | exact trivial | apply And.intro | rfl | (refine int_eq ?_; rw [wrap64] <;> omega)) (Nat.le_refl _)
         show AVal.tuple [AVal.d (vD (.rcd ls ps)), .d (.int .i64 0)] = _
         rw [vD, vsD_map])
  | _ =>
    simp only [vD]
    refine Fun.of_body tt [] [10, 11] (Try.func77) rfl rfl rfl (Nat.le_of_ble_eq_true rfl) fun g => ?_
    repeat' ((first
      | refine then_go hm htt ?_
      | refine Side.go ?_
      | refine Hyp.go fun hlen => ?_
      | refine Split.ct ?_
      | refine Split.cf ?_
      | refine Split.tt ?_
      | refine Split.ff ?_
      | refine Indep.go ?_
      | refine Split.go (fun hc => ?_) fun hc => ?_) <;> conv => whnf)
    all_goals first
      | (exfalso; exact hcs (by assumption) (by assumption))
      | (refine RetS.ent (Ent.re [0] rfl rfl rfl rfl rfl rfl (σ' := ⟨[(10, .d _), (11, .d (.int .i64 0))], 139, [(0, .cells [.d (.int .i64 f)])], 1, g⟩) (by repeat' first | exact trivial | apply And.intro | rfl | (refine int_eq ?_; rw [wrap64] <;> omega)) (by repeat' first | exact trivial | apply And.intro | rfl | (refine int_eq ?_; rw [wrap64] <;> omega))) ?_
         exact ret_objs rfl rfl rfl (by repeat' first | exact trivial | apply And.intro | rfl | (refine int_eq ?_; rw [wrap64] <;> omega)) (Nat.le_refl _))
end Mc
end Go.Proofs.Ytlgajkoplklkiaa

namespace Go.Proofs.Ytlgajkoplklkiaa
namespace Mc
open Go Go.Mq Tm Sb St
set_option linter.all false

/-! The walk: folds within a record -/
theorem _root_.Go.Mq.RetS.conv {nb : Nat} {ts : List Nat} {r r' : AVal} {L' : List (Nat × AObj)} {N' : Nat} {g' : Ghost} {σ : AState} (h : RetS nb ts r L' N' g' σ) (hr : ∀ I ρ v, CA I ρ (· < N') r v → CA I ρ (· < N') r' v) : RetS nb ts r' L' N' g' σ := by
  unfold RetS at *
  intro E I ρ a w hE hT
  obtain ⟨I', ρ', h1, h2, h3, h4⟩ := h E I ρ a w hE hT
  exact ⟨I', ρ', h1, h2, h3, hr _ _ _ h4⟩
theorem getD_map {ps : List Vl} {i : Nat} (h : i < ps.length) : (ps.map vD).getD i .nils = vD (ps.getD i .unt) := by
  simp [List.getD_eq_getElem?_getD, List.getElem?_eq_getElem h]
theorem dropB_head {l : List ByteArray} (i : Nat) : (l.drop i).getD 0 ByteArray.empty = l.getD i ByteArray.empty := by
  simp [List.getD_eq_getElem?_getD]
theorem dropV_head {l : List Vl} (i : Nat) : (l.drop i).getD 0 .unt = l.getD i .unt := by
  simp [List.getD_eq_getElem?_getD]
theorem built_to {a : List ByteArray} {b : List Vl} {I : Imm} {ρ : Nat → RB} {D : Nat → Prop} {v : Value}
    (e : CA I ρ D (.tuple [.iface 104 (.agg [.d (.slice a.length 1 fun i _ => .str (a.getD i ByteArray.empty)), .d (.slice (b.map vD).length 1 fun i _ => (b.map vD).getD i .nils)]), .d (.int .i64 0)]) v) : CA I ρ D (.tuple [.d (vD (.rcd a b)), .d (.int .i64 0)]) v := by
  have := recA2_to (r := ⟨.rcd a b, 0, 0⟩) (fun _ => ⟨a, b, rfl⟩) (I := I) (ρ := ρ) (D := D) (v := v) e
  exact this
set_option maxHeartbeats 16000000 in
set_option maxRecDepth 10000 in
theorem unr_rec (fo : Tree → ByteArray → Tree → Vl → Ev → Nat → Rs) (T : Tree) (ρ : Ev) (c : Tree) (hc : c ≠ .nil) (hk : c.kind = 115) (ls : List ByteArray) (ps : List Vl) (f : Nat)
    (hl : c.kids.length = ps.length) (hls : ls.length = ps.length) (hz : ps.length ≤ 1048576) (hkk : ∀ x ∈ c.kids, x ≠ .nil ∧ 0 < x.kids.length)
    (he : ∀ i f', i < c.kids.length → f' ≤ f → Fun P 77 [.ref 0 0, .d (.tree ((c.kids.getD i .nil).kids.getD 0 .nil)), .d (vD (ps.getD i .unt)), .d (.tree T), .d (eD ρ)] (MP f') 1 (rsA (unrM fo T ρ ((c.kids.getD i .nil).kids.getD 0 .nil) (ps.getD i .unt) f')) (MP (unrM fo T ρ ((c.kids.getD i .nil).kids.getD 0 .nil) (ps.getD i .unt) f').f) 1)
    (hfu : ∀ i f', i < c.kids.length → (unrM fo T ρ ((c.kids.getD i .nil).kids.getD 0 .nil) (ps.getD i .unt) f').f ≤ f') :
    Fun P 77 [.ref 0 0, .d (.tree c), .d (vD (.rcd ls ps)), .d (.tree T), .d (eD ρ)] (MP f) 1 (rsA (unrsM fo T ρ c.kids ls ps f (.rcd ls ps) ls [])) (MP (unrsM fo T ρ c.kids ls ps f (.rcd ls ps) ls []).f) 1 := by
  have hpl : (ps.map vD).length = ps.length := List.length_map _
  have hxv : vD (.rcd ls ps) = .iface 104 (.agg 2 fun i => [Mq.Data.slice ls.length 1 fun i _ => .str (ls.getD i ByteArray.empty), Mq.Data.slice (ps.map vD).length 1 fun i _ => (ps.map vD).getD i .nils].getD i .nils) := by rw [vD, vsD_map]
  rw [hxv]
  generalize hw : (unrsM fo T ρ c.kids ls ps f (.rcd ls ps) ls []) = R
  refine Fun.of_body tt [] [10, 11] (Try.func77) rfl rfl rfl (Nat.le_of_ble_eq_true rfl) fun g => ?_
  repeat' ((first
    | refine then_go hm htt ?_
    | refine Side.go ?_
    | refine Hyp.go fun hlen => ?_
    | refine Split.ct ?_
    | refine Split.cf ?_
    | refine Split.tt ?_
    | refine Split.ff ?_
    | refine Indep.go ?_
    | refine Split.of_false (show (c.kind == 110) = false from by simp; omega) ?_
    | refine Split.of_false (show (c.kind != 115) = false from by simp; omega) ?_
    | refine Split.of_false (show ((c.kids.length : Int) != ((ps.map vD).length : Int)) = false from by simp; omega) ?_
    | refine Split.go (fun hc => ?_) fun hc => ?_) <;> conv => whnf)
  refine loop_go (α := Nat × Nat × List Vl) (fun p => ⟨[(0, .ref 0 0), (2, .d (vD (.rcd ls ps))), (3, .d (.tree T)), (4, .d (eD ρ)), (14, .ref 1 0), (16, .ref 2 0), (91, .d (.trees c.kids)), (92, .d (.int .i64 c.kids.length)), (93, .d (.int .i64 p.1))], 139, [(0, .cells [.d (.int .i64 p.2.1)]), (1, .cells [.d (.slice ls.length 1 fun i _ => .str (ls.getD i ByteArray.empty)), .d (.slice (ps.map vD).length 1 fun i _ => (ps.map vD).getD i .nils)]), (2, .cells [.d (.slice ls.length 1 fun i _ => .str (ls.getD i ByteArray.empty)), .row 3 p.1]), (3, .row 48 (rowD (p.2.2.map vD)))], 4, g⟩)
      (fun p => p.1 ≤ c.kids.length ∧ p.2.2.length = p.1 ∧ p.2.1 ≤ f ∧ unrsM fo T ρ (c.kids.drop p.1) (ls.drop p.1) (ps.drop p.1) p.2.1 (.rcd ls ps) ls p.2.2 = R) (fun p => c.kids.length - p.1) (0, f, []) ⟨by simp, rfl, Nat.le_refl _, hw⟩
      (Ent.nil rfl rfl rfl ⟨rfl, by rw [hxv]; rfl, rfl, rfl, rfl, rfl, rfl, rfl, rfl, trivial⟩ (by repeat' first | exact trivial | apply And.intro | rfl | (refine int_eq ?_; rw [wrap64] <;> omega))) (fun _ => rfl) fun p hpre => ?_
  obtain ⟨i, f', out⟩ := p
  obtain ⟨hp1, hp2, hp3, hp4⟩ := hpre
  simp only [] at hp1 hp2 hp3 hp4
  by_cases hi : i < c.kids.length
  · have hx0 := getD_mem (l := c.kids) hi
    obtain ⟨a1, a2⟩ := hkk _ hx0
    rw [drop_step hi, unrsM, unrI_eq, dropB_head, dropV_head] at hp4
    by_cases hn : (c.kids.getD i .nil).name = ls.getD i ByteArray.empty
    · rw [if_pos hn] at hp4
      have h1 := he i f' hi hp3
      have hfu1 := hfu i f' hi
      rw [← getD_map (by omega)] at h1
      generalize unrM fo T ρ ((c.kids.getD i .nil).kids.getD 0 .nil) (ps.getD i .unt) f' = r at h1 hp4 hfu1
      obtain ⟨v, e, f2⟩ := r
      unfold rsA MP at h1
      try dsimp only at h1
      try dsimp only at hp4
      try dsimp only at hfu1
      by_cases h0 : e = 0
      · subst h0
        rw [if_pos rfl, List.drop_drop, List.drop_drop, show i + 1 = i + 1 from rfl] at hp4
        rw [if_pos rfl] at h1
        obtain ⟨t, y, hy⟩ := vD_if v
        rw [hy] at h1
        repeat' ((first
          | refine then_go hm htt ?_
          | refine Side.go ?_
          | refine Hyp.go fun hlen => ?_
          | refine Split.ct ?_
          | refine Split.cf ?_
          | refine Split.tt ?_
          | refine Split.ff ?_
          | refine Indep.go ?_
          | refine CallG.go h1 [0] ?_
          | refine Side.mk a1 ?_
          | refine Side.mk (show (0 : Int) ≤ (i : Int) ∧ (i : Int) < (c.kids.length : Int) from ⟨by omega, by omega⟩) ?_
          | refine Side.mk (show (0 : Int) ≤ (i : Int) ∧ (i : Int) < (ls.length : Int) from ⟨by omega, by omega⟩) ?_
          | refine Side.mk (show (0 : Int) ≤ (i : Int) ∧ (i : Int) < ((ps.map vD).length : Int) from ⟨by omega, by omega⟩) ?_
          | refine Side.mk (show (0 : Int) ≤ 0 ∧ (0 : Int) < ((c.kids.getD i .nil).kids.length : Int) from ⟨by omega, by omega⟩) ?_
          | refine Split.of_false (bytes_bne'.2 hn) ?_
          | refine Side.mk (show (i + 1 ≤ maxN ∧ (i + 1) * 16 ≤ 140737488355328) from ⟨by unfold maxN; omega, by omega⟩) ?_
          | refine Split.go (fun hc => ?_) fun hc => ?_) <;> conv => whnf)
        refine Side.mk (by intro j hj; have hj : j < 1 * 1 := hj; obtain rfl : j = 0 := (by omega); rfl) ?_
        conv => whnf
        repeat' ((first
          | refine then_go hm htt ?_
          | refine Side.go ?_
          | refine Hyp.go fun hlen => ?_
          | refine Split.ct ?_
          | refine Split.cf ?_
          | refine Split.tt ?_
          | refine Split.ff ?_
          | refine Indep.go ?_
          | refine Side.mk (show (out.map vD).length = i from by rw [List.length_map]; exact hp2) ?_
          | refine Split.go (fun hc => ?_) fun hc => ?_) <;> conv => whnf)
        rw [rowD_appO _ _ _ (by rfl)]
        conv => whnf
        repeat' ((first
          | refine then_go hm htt ?_
          | refine Side.go ?_
          | refine Hyp.go fun hlen => ?_
          | refine Split.ct ?_
          | refine Split.cf ?_
          | refine Split.tt ?_
          | refine Split.ff ?_
          | refine Indep.go ?_
          | refine Side.mk (show (i + 1 ≤ maxN ∧ (i + 1) * 16 ≤ 140737488355328) from ⟨by unfold maxN; omega, by omega⟩) ?_
          | refine Split.go (fun hc => ?_) fun hc => ?_) <;> conv => whnf)
        have hr := rowD_snoc (out.map vD) (vD v) (fun i => [AVal.d (.iface t y)].getD i .any) (by rw [hy]; rfl) _ (rowD_app _ _ rfl)
        refine ⟨(i + 1, f2, out ++ [v]), ⟨by simp only []; omega, by simp [hp2], by simp only []; omega, hp4⟩, by simp only []; omega,
          Ent.trans (Ent.regen 5 (rowD (out.map vD ++ [vD v])) rfl hr.1 hr.2.1 hr.2.2) (Ent.re [0, 1, 2, 5] rfl rfl rfl rfl rfl rfl (by repeat' first | exact trivial | apply And.intro | rfl | (refine int_eq ?_; rw [wrap64] <;> omega)) ⟨⟨rfl, by rfl, rfl⟩, ⟨rfl, by rfl, rfl⟩, ⟨rfl, by rfl, rfl⟩, ⟨rfl, ?_, fun _ => rfl⟩, trivial⟩)⟩
        show some (AObj.row 48 (rowD (out.map vD ++ [vD v]))) = some (AObj.row 48 (rowD ((out ++ [v]).map vD)))
        rw [List.map_append]
        rfl
      · rw [if_neg h0] at hp4 h1
        rw [← hp4]
        repeat' ((first
          | refine then_go hm htt ?_
          | refine Side.go ?_
          | refine Hyp.go fun hlen => ?_
          | refine Split.ct ?_
          | refine Split.cf ?_
          | refine Split.tt ?_
          | refine Split.ff ?_
          | refine Indep.go ?_
          | refine CallG.go h1 [0] ?_
          | refine Side.mk a1 ?_
          | refine Side.mk (show (0 : Int) ≤ (i : Int) ∧ (i : Int) < (c.kids.length : Int) from ⟨by omega, by omega⟩) ?_
          | refine Side.mk (show (0 : Int) ≤ (i : Int) ∧ (i : Int) < (ls.length : Int) from ⟨by omega, by omega⟩) ?_
          | refine Side.mk (show (0 : Int) ≤ (i : Int) ∧ (i : Int) < ((ps.map vD).length : Int) from ⟨by omega, by omega⟩) ?_
          | refine Side.mk (show (0 : Int) ≤ 0 ∧ (0 : Int) < ((c.kids.getD i .nil).kids.length : Int) from ⟨by omega, by omega⟩) ?_
          | refine Split.of_false (bytes_bne'.2 hn) ?_
          | refine Split.go (fun hc => ?_) fun hc => ?_) <;> conv => whnf)
        refine RetS.ent (σ' := ⟨[(10, .d .nilI), (11, .d (.int .i64 e))], 139, [(0, .cells [.d (.int .i64 f2)])], 1, g⟩) (Ent.go [0]) ?_
        refine ret_objs rfl rfl ?_ (by repeat' first | exact trivial | apply And.intro | rfl | (refine int_eq ?_; rw [wrap64] <;> omega)) (Nat.le_refl _)
        unfold rsA
        rw [if_neg h0]
        rfl
    · rw [if_neg hn] at hp4
      rw [← hp4]
      repeat' ((first
        | refine then_go hm htt ?_
        | refine Side.go ?_
        | refine Hyp.go fun hlen => ?_
        | refine Split.ct ?_
        | refine Split.cf ?_
        | refine Split.tt ?_
        | refine Split.ff ?_
        | refine Indep.go ?_
        | refine Side.mk a1 ?_
        | refine Side.mk (show (0 : Int) ≤ (i : Int) ∧ (i : Int) < (c.kids.length : Int) from ⟨by omega, by omega⟩) ?_
        | refine Side.mk (show (0 : Int) ≤ (i : Int) ∧ (i : Int) < (ls.length : Int) from ⟨by omega, by omega⟩) ?_
        | refine Split.of_true (bytes_bne.2 hn) ?_
        | refine Split.go (fun hc => ?_) fun hc => ?_) <;> conv => whnf)
      refine RetS.ent (σ' := ⟨[(10, .d (vD (.rcd ls ps))), (11, .d (.int .i64 0))], 139, [(0, .cells [.d (.int .i64 f')])], 1, g⟩) (Ent.go [0]) ?_
      exact ret_objs rfl rfl rfl (by repeat' first | exact trivial | apply And.intro | rfl | (refine int_eq ?_; rw [wrap64] <;> omega)) (Nat.le_refl _)
  · rw [drop_end (by omega), unrsM] at hp4
    rw [← hp4]
    repeat' ((first
      | refine then_go hm htt ?_
      | refine Side.go ?_
      | refine Hyp.go fun hlen => ?_
      | refine Split.ct ?_
      | refine Split.cf ?_
      | refine Split.tt ?_
      | refine Split.ff ?_
      | refine Indep.go ?_
      | refine Split.go (fun hc => ?_) fun hc => ?_) <;> conv => whnf)
    have hol : (out.map vD).length = out.length := List.length_map _
    subst hp2
    refine RetS.ent (σ' := ⟨[(10, .iface 104 (.agg [.d (.slice ls.length 1 fun i _ => .str (ls.getD i ByteArray.empty)), .row 1 out.length])), (11, .d (.int .i64 0))], 139, [(0, .cells [.d (.int .i64 f')]), (1, .row 48 (rowD (out.map vD)))], 2, g⟩) (Ent.re [0, 3] rfl rfl rfl rfl rfl rfl (by repeat' first | exact trivial | apply And.intro | rfl | (refine int_eq ?_; rw [wrap64] <;> omega)) ⟨⟨rfl, by rfl, rfl⟩, ⟨rfl, by rfl, fun _ => rfl⟩, trivial⟩) ?_
    refine RetS.ent (Ent.fz_slice 1 (n := out.length) (sz := 1) (f := fun i _ => (out.map vD).getD i .nils) rfl hol rfl (fun i j hi hj => by obtain rfl : j = 0 := (by omega); show AVal.d ((out.map vD).getD (i * 1 + 0) .nils) = _; rw [show i * 1 + 0 = i by omega]) (by repeat' first | exact trivial | apply And.intro | rfl) (by repeat' first | exact trivial | apply And.intro | rfl)) ?_
    refine RetS.ent (σ' := ⟨[(10, .iface 104 (.agg [.d (.slice ls.length 1 fun i _ => .str (ls.getD i ByteArray.empty)), .d (.slice out.length 1 fun i _ => (out.map vD).getD i .nils)])), (11, .d (.int .i64 0))], 139, [(0, .cells [.d (.int .i64 f')])], 1, g⟩) (Ent.go [0]) ?_
    refine RetS.conv ?_ (fun I ρ v e => built_to e)
    refine ret_objs rfl rfl ?_ (by repeat' first | exact trivial | apply And.intro | rfl | (refine int_eq ?_; rw [wrap64] <;> omega)) (Nat.le_refl _)
    rw [hol]
    rfl
end Mc
end Go.Proofs.Ytlgajkoplklkiaa

namespace Go.Proofs.Ytlgajkoplklkiaa
namespace No
open Go Go.Mq
set_option linter.all false

def starT : Tree := .node 100 0 ByteArray.empty ByteArray.empty []
def arrT (a b : Tree) : Tree := .node 114 0 ByteArray.empty ByteArray.empty [a, b]
def lamT (a b : Tree) : Tree := .node 119 0 ByteArray.empty ByteArray.empty [a, b]
def appT (a b : Tree) : Tree := .node 120 0 ByteArray.empty ByteArray.empty [a, b]
def wApp : Tree := appT (lamT starT (arrT (varT 0) (varT 0))) wI
def wArr : Tree := arrT wI wI
def wS : ByteArray := ⟨#[40, 32, 105, 110, 116, 32, 45, 62, 32, 105, 110, 116, 32, 41]⟩
theorem normF_end : ∀ (k : Nat) (T : Tree), (normF k T).2 = 0 → (nstepR (normF k T).1).2.1 = false ∧ (nstepR (normF k T).1).2.2 = 0
  | 0, T => by
    rw [normF]
    split
    · exact fun h => absurd h ‹_›
    · rename_i h1
      split
      · exact fun h => absurd h (by decide)
      · rename_i h2
        exact fun _ => ⟨by simpa using h2, by simpa using h1⟩
  | k + 1, T => by
    rw [normF]
    split
    · exact fun h => absurd h ‹_›
    · rename_i h1
      split
      · exact normF_end k _
      · rename_i h2
        exact fun _ => ⟨by simpa using h2, by simpa using h1⟩
theorem nstep_zero {T : Tree} (h : (nstepR T).2.2 = 0) : conE T = 0 ∧ nstepR T = outF (stepF T) := by
  unfold nstepR at *
  by_cases hc : conE T = 0
  · exact ⟨hc, by rw [if_neg (by omega)]⟩
  · rw [if_pos hc] at h; exact absurd h hc
end No
end Go.Proofs.Ytlgajkoplklkiaa

namespace Go.Proofs.Ytlgajkoplklkiaa
namespace Mc
open Go Go.Mq Tm Sb St
set_option linter.all false

/-! The walk: folds -/
def EVw (k : Nat) : Prop := ∀ (T : Tree) (ρ : Ev) (f : Nat), QT T → okEv QT (bd f) ρ → sizeE ρ ≤ bd f → f ≤ 500000000 → 2 * f + 1 ≤ k →
  Fun P 15 [.ref 0 0, .d (.tree T), .d (eD ρ)] (MP f) 1 (rsA (evalD k T ρ f)) (MP (evalD k T ρ f).f) 1
def FOw (k : Nat) : Prop := ∀ (T : Tree) (nm : ByteArray) (s : Tree) (p : Vl) (ρ : Ev) (f : Nat), QT T → T.kind = 148 → okEv QT (bd (f + 1)) ρ → sizeE ρ ≤ bd (f + 1) → okV QT (bd (f + 1)) p → f ≤ 500000000 → 2 * f + 2 ≤ k →
  Fun P 58 [.ref 0 0, .d (.tree T), .agg [.d (.str nm), .d (.tree s), .d (vD p)], .d (eD ρ)] (MP f) 1 (rsA (foldD k T nm s p ρ f)) (MP (foldD k T nm s p ρ f).f) 1
theorem okVs_at {Q : Tree → Prop} {B : Nat} : ∀ {a : List Vl} {i : Nat}, okVs Q B a → okV Q B (a.getD i .unt) := fun {a i} h => okVs_getD i h
theorem munr_ok {k : Nat} (h : FOw k) {T : Tree} (hT : QT T) (hk : T.kind = 148) {ρ : Ev} {F : Nat} (hF : F ≤ 500000000) (hF2 : 2 * F ≤ k) (hr : okEv QT (bd (F + 1)) ρ) (hs : sizeE ρ ≤ bd (F + 1)) (c : Tree) :
    (isConF c = true → ∀ (x : Vl) (f : Nat), f ≤ F → okV QT (bd (f + 1)) x → Fun P 77 [.ref 0 0, .d (.tree c), .d (vD x), .d (.tree T), .d (eD ρ)] (MP f) 1 (rsA (unrM (foldD k) T ρ c x f)) (MP (unrM (foldD k) T ρ c x f).f) 1) ∧
    ∀ y ∈ c.kids, isConF y = true → ∀ (x : Vl) (f : Nat), f ≤ F → okV QT (bd (f + 1)) x → Fun P 77 [.ref 0 0, .d (.tree y), .d (vD x), .d (.tree T), .d (eD ρ)] (MP f) 1 (rsA (unrM (foldD k) T ρ y x f)) (MP (unrM (foldD k) T ρ y x f).f) 1 := by
  induction c using Tree.ind' with
  | h0 => exact ⟨fun h => (by rw [isConF] at h; cases h), fun x hx => (by cases hx)⟩
  | h1 c hc ih =>
    refine ⟨fun hcon x f hf hx => ?_, fun y hy => (ih y hy).1⟩
    by_cases hv : c.kind = 110 ∧ c.n = 0
    · refine unr_var (foldD k) T ρ c hc hv x f (fun nm s p f0 e => ?_) (by omega)
      subst e
      rw [okV] at hx
      have hx := hx.2
      have e1 : f - 1 + 1 = f := by omega
      exact h T nm s p ρ (f - 1) hT hk (okEv_mono QT (bd_le (by omega)) hr) (Nat.le_trans hs (bd_le (by omega))) (okV_mono QT (bd_le (by omega)) hx) (by omega) (by omega)
    · by_cases hx2 : ∃ ls ps, x = .rcd ls ps ∧ c.kind = 115 ∧ c.kids.length = ps.length
      · obtain ⟨ls, ps, rfl, h5, hl⟩ := hx2
        rw [okV] at hx
        have hcf := rec_flds hc hcon h5
        rw [unrM_rec (foldD k) T ρ h5 f hl]
        refine unr_rec (foldD k) T ρ c hc h5 ls ps f hl hx.1 (by have := hx.1; have := hx.2.1; omega) (fun y hy => by obtain ⟨g1, g2, _⟩ := fld_parts (hcf y hy); exact ⟨g1, by omega⟩) (fun i f' hi hf' => ?_) (fun i f' hi => (unrM_f (evfo_f k).2 T ρ _).1 _ _)
        obtain ⟨g1, g2, g3⟩ := fld_parts (hcf _ (getD_mem hi))
        exact (ih _ (getD_mem hi)).2 _ (getD_mem (i := 0) (by omega)) g3 _ f' (by omega) (okV_mono QT (bd_le (by omega)) (okVs_at hx.2.2.1))
      · have hx3 : ∀ ls ps, x = .rcd ls ps → ¬ (c.kind = 115 ∧ c.kids.length = ps.length) := fun ls ps e q => hx2 ⟨ls, ps, e, q⟩
        rw [unrM_same (foldD k) T ρ hv f hx3]
        exact unr_same T ρ c hc hv x f hx3
theorem normR_con {s : Tree} (h : (No.normR s).2 = 0) : Full (No.normR s).1 ∧ isConF (No.normR s).1 = true := by
  have h1 := (No.normF_end 1000 s h).2
  exact conE_full (No.nstep_zero h1).1
set_option maxHeartbeats 16000000 in
set_option maxRecDepth 10000 in
theorem mfold_ok {k : Nat} (hE : EVw k) (h : FOw k) : FOw (k + 1) := by
  intro T nm s p ρ f hT hk hr hs hp hf hfk
  have hTn := hT.ne
  obtain ⟨q1, q2, q3, q4⟩ := term_xca hT.1 hk
  have hb := bd_s hf
  have hmn := bd_le (a := f) (b := f + 1) (by omega)
  have hN := No.Normal_ok s
  have hNc := normR_con (s := s)
  have ha := marm_ok (T.kids.drop 2) nm (fun x hx => by obtain ⟨t1, t2, t3, t4, t5⟩ := tfield_parts (q4 x hx); exact ⟨t1, by omega⟩)
  have hlen := hT.len
  generalize hv : foldD (k + 1) T nm s p ρ f = R
  rw [foldD] at hv
  generalize No.normR s = nn at hN hNc hv
  obtain ⟨n, ne⟩ := nn
  try dsimp only at hN
  try dsimp only at hNc
  try dsimp only at hv
  obtain ⟨tp, yp, hyp⟩ := vD_if p
  rw [hyp]
  have fin : ∀ (g : Ghost) {T0 : Nat} {v : Vl} {e : Int} {f' : Nat}, True := fun _ _ _ _ _ => trivial
  by_cases h1 : ne = 0
  · subst h1
    obtain ⟨hNF, hNc⟩ := hNc rfl
    rw [if_neg (by simp)] at hv
    have hnn : n ≠ .nil := hNF.ne
    cases hA : armF nm (T.kids.drop 2) with
    | none =>
      rw [hA] at hv ha
      dsimp only at hv
      subst hv
      unfold MP
      refine Fun.of_body tt [] [8, 9] (Try.func58) rfl rfl rfl (Nat.le_of_ble_eq_true rfl) fun g => ?_
      repeat' ((first
        | refine then_go hm htt ?_
        | refine Side.go ?_
        | refine Hyp.go fun hlen => ?_
        | refine Split.ct ?_
        | refine Split.cf ?_
        | refine Split.tt ?_
        | refine Split.ff ?_
        | refine Indep.go ?_
        | refine CallG.gp hN ?_
        | refine CallG.gp ha ?_
        | refine Side.mk (show (0 : Int) ≤ 2 ∧ (2 : Int) ≤ (T.kids.length : Int) from ⟨by omega, by omega⟩) ?_
        | refine Split.go (fun hc => ?_) fun hc => ?_) <;> conv => whnf)
      refine RetS.ent (σ' := ⟨[(8, .d .nilI), (9, .d (.int .i64 20))], 78, [(0, .cells [.d (.int .i64 f)])], 1, g⟩) (Ent.go [0]) ?_
      exact ret_objs rfl rfl rfl (by repeat' first | exact trivial | apply And.intro | rfl | (refine int_eq ?_; rw [wrap64] <;> omega)) (Nat.le_refl _)
    | some b =>
      rw [hA] at hv ha
      dsimp only at hv
      by_cases h2 : n.kind = 121
      · rw [if_neg (by simp [h2])] at hv
        have hcf := sum_flds hnn hNc h2
        have ha2 := marm_ok n.kids nm (fun x hx => by obtain ⟨g1, g2, _⟩ := fld_parts (hcf x hx); exact ⟨g1, by omega⟩)
        cases hA2 : armF nm n.kids with
        | none =>
          rw [hA2] at hv ha2
          dsimp only at hv
          subst hv
          unfold MP
          refine Fun.of_body tt [] [8, 9] (Try.func58) rfl rfl rfl (Nat.le_of_ble_eq_true rfl) fun g => ?_
          repeat' ((first
            | refine then_go hm htt ?_
            | refine Side.go ?_
            | refine Hyp.go fun hlen => ?_
            | refine Split.ct ?_
            | refine Split.cf ?_
            | refine Split.tt ?_
            | refine Split.ff ?_
            | refine Indep.go ?_
            | refine CallG.gp hN ?_
            | refine CallG.gp ha ?_
            | refine CallG.gp ha2 ?_
            | refine Side.mk (show (0 : Int) ≤ 2 ∧ (2 : Int) ≤ (T.kids.length : Int) from ⟨by omega, by omega⟩) ?_
            | refine Split.of_false (show (n.kind != 121) = false from by simp [h2]) ?_
            | refine Split.go (fun hc => ?_) fun hc => ?_) <;> conv => whnf)
          refine RetS.ent (σ' := ⟨[(8, .d .nilI), (9, .d (.int .i64 20))], 78, [(0, .cells [.d (.int .i64 f)])], 1, g⟩) (Ent.go [0]) ?_
          exact ret_objs rfl rfl rfl (by repeat' first | exact trivial | apply And.intro | rfl | (refine int_eq ?_; rw [wrap64] <;> omega)) (Nat.le_refl _)
        | some c =>
          rw [hA2] at hv ha2
          dsimp only at hv
          obtain ⟨x2, hx2, hc2⟩ := armF_mem hA2
          have hcc : isConF c = true := by rw [hc2]; exact (fld_parts (hcf x2 hx2)).2.2
          have hu := (munr_ok h hT hk hf (by omega) hr hs c).1 hcc p f (Nat.le_refl _) hp
          have huf := (unrM_f (evfo_f k).2 T ρ c).1 p f
          have huq := (unrM_q (evfo_f k).2 (show FOq (foldD k) from FOq_all k) hT hk hf hr hs c).1 p f (Nat.le_refl _) hp
          generalize unrM (foldD k) T ρ c p f = y at hu huf huq hv
          obtain ⟨yv, ye, yf⟩ := y
          try dsimp only at hu
          try dsimp only at huf
          try dsimp only at huq
          try dsimp only at hv
          rw [hyp] at hu
          by_cases h3 : ye = 0
          · subst h3
            rw [if_neg (by simp)] at hv
            have huq := huq rfl
            obtain ⟨x1, hx1, hb1⟩ := armF_mem hA
            have hbq : QT b := by rw [hb1]; exact hT.arm (List.mem_of_mem_drop hx1) (q4 x1 hx1)
            have hmy := bd_le (a := yf) (b := yf + 1) (by omega)
            have hmf := bd_le (a := yf + 1) (b := f + 1) (by omega)
            have hby := bd_s (f := yf) (by omega)
            have he := hE b (.val yv ρ) yf hbq (by rw [okEv]; exact ⟨okV_mono QT hmy huq, okEv_mono QT (by omega) hr⟩) (by show sizeE ρ + 1 ≤ _; omega) (by omega) (by omega)
            have hbi := bind_ok ρ yv
            obtain ⟨t, y, hy⟩ := vD_if yv
            unfold rsA at hu
            rw [if_pos rfl] at hu
            rw [hy] at hu hbi
            rw [hv] at he
            unfold rsA MP at *
            refine Fun.of_body tt [] [8, 9] (Try.func58) rfl rfl rfl (Nat.le_of_ble_eq_true rfl) fun g => ?_
            repeat' ((first
              | refine then_go hm htt ?_
              | refine Side.go ?_
              | refine Hyp.go fun hlen => ?_
              | refine Split.ct ?_
              | refine Split.cf ?_
              | refine Split.tt ?_
              | refine Split.ff ?_
              | refine Indep.go ?_
              | refine CallG.gp hN ?_
              | refine CallG.gp ha ?_
              | refine CallG.gp ha2 ?_
              | refine CallG.go hu [0] ?_
              | refine CallG.gp hbi ?_
              | refine CallG.go he [0] ?_
              | refine Side.mk (show (0 : Int) ≤ 2 ∧ (2 : Int) ≤ (T.kids.length : Int) from ⟨by omega, by omega⟩) ?_
              | refine Split.of_false (show (n.kind != 121) = false from by simp [h2]) ?_
              | refine Split.go (fun hc => ?_) fun hc => ?_) <;> conv => whnf)
            refine RetS.ent (σ' := ⟨[(8, .d (if R.e = 0 then vD R.v else .nilI)), (9, .d (.int .i64 R.e))], 78, [(0, .cells [.d (.int .i64 R.f)])], 1, g⟩) (Ent.go [0]) ?_
            exact ret_objs rfl rfl rfl (by repeat' first | exact trivial | apply And.intro | rfl | (refine int_eq ?_; rw [wrap64] <;> omega)) (Nat.le_refl _)
          · rw [if_pos h3] at hv
            subst hv
            unfold rsA at hu
            rw [if_neg h3] at hu
            unfold MP at *
            refine Fun.of_body tt [] [8, 9] (Try.func58) rfl rfl rfl (Nat.le_of_ble_eq_true rfl) fun g => ?_
            repeat' ((first
              | refine then_go hm htt ?_
              | refine Side.go ?_
              | refine Hyp.go fun hlen => ?_
              | refine Split.ct ?_
              | refine Split.cf ?_
              | refine Split.tt ?_
              | refine Split.ff ?_
              | refine Indep.go ?_
              | refine CallG.gp hN ?_
              | refine CallG.gp ha ?_
              | refine CallG.gp ha2 ?_
              | refine CallG.go hu [0] ?_
              | refine Side.mk (show (0 : Int) ≤ 2 ∧ (2 : Int) ≤ (T.kids.length : Int) from ⟨by omega, by omega⟩) ?_
              | refine Split.of_false (show (n.kind != 121) = false from by simp [h2]) ?_
              | refine Split.go (fun hc => ?_) fun hc => ?_) <;> conv => whnf)
            refine RetS.ent (σ' := ⟨[(8, .d .nilI), (9, .d (.int .i64 ye))], 78, [(0, .cells [.d (.int .i64 yf)])], 1, g⟩) (Ent.go [0]) ?_
            refine ret_objs rfl rfl ?_ (by repeat' first | exact trivial | apply And.intro | rfl | (refine int_eq ?_; rw [wrap64] <;> omega)) (Nat.le_refl _)
            unfold rsA bad
            rw [if_neg h3]
            rfl
      · rw [if_pos h2] at hv
        subst hv
        unfold MP
        refine Fun.of_body tt [] [8, 9] (Try.func58) rfl rfl rfl (Nat.le_of_ble_eq_true rfl) fun g => ?_
        repeat' ((first
          | refine then_go hm htt ?_
          | refine Side.go ?_
          | refine Hyp.go fun hlen => ?_
          | refine Split.ct ?_
          | refine Split.cf ?_
          | refine Split.tt ?_
          | refine Split.ff ?_
          | refine Indep.go ?_
          | refine CallG.gp hN ?_
          | refine CallG.gp ha ?_
          | refine Side.mk (show (0 : Int) ≤ 2 ∧ (2 : Int) ≤ (T.kids.length : Int) from ⟨by omega, by omega⟩) ?_
          | refine Split.of_true (show (n.kind != 121) = true from by simp [h2]) ?_
          | refine Split.go (fun hc => ?_) fun hc => ?_) <;> conv => whnf)
        refine RetS.ent (σ' := ⟨[(8, .d .nilI), (9, .d (.int .i64 20))], 78, [(0, .cells [.d (.int .i64 f)])], 1, g⟩) (Ent.go [0]) ?_
        exact ret_objs rfl rfl rfl (by repeat' first | exact trivial | apply And.intro | rfl | (refine int_eq ?_; rw [wrap64] <;> omega)) (Nat.le_refl _)
  · rw [if_pos h1] at hv
    subst hv
    unfold MP
    refine Fun.of_body tt [] [8, 9] (Try.func58) rfl rfl rfl (Nat.le_of_ble_eq_true rfl) fun g => ?_
    repeat' ((first
      | refine then_go hm htt ?_
      | refine Side.go ?_
      | refine Hyp.go fun hlen => ?_
      | refine Split.ct ?_
      | refine Split.cf ?_
      | refine Split.tt ?_
      | refine Split.ff ?_
      | refine Indep.go ?_
      | refine CallG.gp hN ?_
      | refine Split.go (fun hc => ?_) fun hc => ?_) <;> conv => whnf)
    refine RetS.ent (σ' := ⟨[(8, .d .nilI), (9, .d (.int .i64 ne))], 78, [(0, .cells [.d (.int .i64 f)])], 1, g⟩) (Ent.go [0]) ?_
    refine ret_objs rfl rfl ?_ (by repeat' first | exact trivial | apply And.intro | rfl | (refine int_eq ?_; rw [wrap64] <;> omega)) (Nat.le_refl _)
    unfold rsA bad
    rw [if_neg h1]
    rfl
end Mc
end Go.Proofs.Ytlgajkoplklkiaa

namespace Go.Proofs.Ytlgajkoplklkiaa
namespace Mc
open Go Go.Mq Tm Sb St
set_option linter.all false

/-! The walk: evaluation -/
theorem ev_hw {f : Nat} (f0 : f ≠ 0) (hf : f ≤ 500000000) : IntKind.i64.wrap ((f : Int) - 1) = ((f - 1 : Nat) : Int) := by rw [wrap64] <;> omega
set_option maxHeartbeats 16000000 in
set_option maxRecDepth 10000 in
theorem ev_none (T : Tree) (ρ : Ev) : Fun P 15 [.ref 0 0, .d (.tree T), .d (eD ρ)] (MP 0) 1 (rsA (bad 18 0)) (MP 0) 1 := by
  have hp := eD_ptr ρ
  unfold MP
  refine Fun.of_body tt [] [6, 7] (Try.func15) rfl rfl rfl (Nat.le_of_ble_eq_true rfl) fun g => ?_
  repeat' ((first
    | refine then_go hm htt ?_
    | refine Side.go ?_
    | refine Hyp.go fun hlen => ?_
    | refine Split.ct ?_
    | refine Split.cf ?_
    | refine Split.tt ?_
    | refine Split.ff ?_
    | refine Indep.go ?_
    | refine Split.go (fun hc => ?_) fun hc => ?_) <;> conv => whnf)
  refine RetS.ent (σ' := ⟨[(6, .d .nilI), (7, .d (.int .i64 18))], 192, [(0, .cells [.d (.int .i64 (0 : Nat))])], 1, g⟩) (Ent.go [0]) ?_
  exact ret_objs rfl rfl rfl (by repeat' first | exact trivial | apply And.intro | rfl | (refine int_eq ?_; rw [wrap64] <;> omega)) (Nat.le_refl _)
set_option maxHeartbeats 16000000 in
set_option maxRecDepth 10000 in
theorem ev_some (T : Tree) (hT : QT T) (hk : T.kind = 130) (ρ : Ev) (f : Nat) (f0 : f ≠ 0) (hf : f ≤ 500000000) (v : Vl) (hv : atE ρ T.n = some v) : Fun P 15 [.ref 0 0, .d (.tree T), .d (eD ρ)] (MP f) 1 (rsA (⟨v, 0, f - 1⟩ : Rs)) (MP (⟨v, 0, f - 1⟩ : Rs).f) 1 := by
  have hTn := hT.ne
  have hw := ev_hw f0 hf
  obtain ⟨b1, b2⟩ := (term_head hT.1).1.n130 hk
  have ha := at_ok ρ T.n b1 b2
  rw [hv] at ha
  unfold oD at ha
  dsimp only at ha
  unfold MP
  refine Fun.of_body tt [] [6, 7] (Try.func15) rfl rfl rfl (Nat.le_of_ble_eq_true rfl) fun g => ?_
  repeat' ((first
    | refine then_go hm htt ?_
    | refine Side.go ?_
    | refine Hyp.go fun hlen => ?_
    | refine Split.ct ?_
    | refine Split.cf ?_
    | refine Split.tt ?_
    | refine Split.ff ?_
    | refine Indep.go ?_
    | refine Split.of_false (show ((f : Int) == 0) = false from by simp; omega) ?_
    | refine CallG.gp ha ?_
    | refine Split.go (fun hc => ?_) fun hc => ?_) <;> conv => whnf)
  refine RetS.ent (σ' := ⟨[(6, .d (vD v)), (7, .d (.int .i64 0))], 192, [(0, .cells [.d (.int .i64 (f - 1 : Nat))])], 1, g⟩) (Ent.re [0] rfl rfl rfl rfl rfl rfl (by repeat' first | exact trivial | apply And.intro | rfl | (refine int_eq ?_; rw [wrap64] <;> omega)) (by repeat' first | exact trivial | apply And.intro | rfl | (exact cell_int hw))) ?_
  exact ret_objs rfl rfl rfl (by repeat' first | exact trivial | apply And.intro | rfl | (refine int_eq ?_; rw [wrap64] <;> omega)) (Nat.le_refl _)
set_option maxHeartbeats 16000000 in
set_option maxRecDepth 10000 in
theorem ev_free (T : Tree) (hT : QT T) (hk : T.kind = 130) (ρ : Ev) (f : Nat) (f0 : f ≠ 0) (hf : f ≤ 500000000) (hv : atE ρ T.n = none) : Fun P 15 [.ref 0 0, .d (.tree T), .d (eD ρ)] (MP f) 1 (rsA (bad 20 (f - 1))) (MP (bad 20 (f - 1)).f) 1 := by
  have hTn := hT.ne
  have hw := ev_hw f0 hf
  obtain ⟨b1, b2⟩ := (term_head hT.1).1.n130 hk
  have ha := at_ok ρ T.n b1 b2
  rw [hv] at ha
  unfold oD at ha
  dsimp only at ha
  unfold MP
  refine Fun.of_body tt [] [6, 7] (Try.func15) rfl rfl rfl (Nat.le_of_ble_eq_true rfl) fun g => ?_
  repeat' ((first
    | refine then_go hm htt ?_
    | refine Side.go ?_
    | refine Hyp.go fun hlen => ?_
    | refine Split.ct ?_
    | refine Split.cf ?_
    | refine Split.tt ?_
    | refine Split.ff ?_
    | refine Indep.go ?_
    | refine Split.of_false (show ((f : Int) == 0) = false from by simp; omega) ?_
    | refine CallG.gp ha ?_
    | refine Split.go (fun hc => ?_) fun hc => ?_) <;> conv => whnf)
  refine RetS.ent (σ' := ⟨[(6, .d .nilI), (7, .d (.int .i64 20))], 192, [(0, .cells [.d (.int .i64 (f - 1 : Nat))])], 1, g⟩) (Ent.re [0] rfl rfl rfl rfl rfl rfl (by repeat' first | exact trivial | apply And.intro | rfl | (refine int_eq ?_; rw [wrap64] <;> omega)) (by repeat' first | exact trivial | apply And.intro | rfl | (exact cell_int hw))) ?_
  exact ret_objs rfl rfl rfl (by repeat' first | exact trivial | apply And.intro | rfl | (refine int_eq ?_; rw [wrap64] <;> omega)) (Nat.le_refl _)
set_option maxHeartbeats 16000000 in
set_option maxRecDepth 10000 in
theorem ev_int (T : Tree) (hT : QT T) (hk : T.kind = 131) (ρ : Ev) (f : Nat) (f0 : f ≠ 0) (hf : f ≤ 500000000) : Fun P 15 [.ref 0 0, .d (.tree T), .d (eD ρ)] (MP f) 1 (rsA (⟨.num T.n, 0, f - 1⟩ : Rs)) (MP (⟨.num T.n, 0, f - 1⟩ : Rs).f) 1 := by
  have hTn := hT.ne
  have hw := ev_hw f0 hf
  unfold MP
  refine Fun.of_body tt [] [6, 7] (Try.func15) rfl rfl rfl (Nat.le_of_ble_eq_true rfl) fun g => ?_
  repeat' ((first
    | refine then_go hm htt ?_
    | refine Side.go ?_
    | refine Hyp.go fun hlen => ?_
    | refine Split.ct ?_
    | refine Split.cf ?_
    | refine Split.tt ?_
    | refine Split.ff ?_
    | refine Indep.go ?_
    | refine Split.of_false (show ((f : Int) == 0) = false from by simp; omega) ?_
    | refine Split.go (fun hc => ?_) fun hc => ?_) <;> conv => whnf)
  refine RetS.ent (σ' := ⟨[(6, .d (vD (.num T.n))), (7, .d (.int .i64 0))], 192, [(0, .cells [.d (.int .i64 (f - 1 : Nat))])], 1, g⟩) (Ent.re [0] rfl rfl rfl rfl rfl rfl ⟨⟨by rw [vD]; rfl, rfl⟩, ⟨rfl, rfl⟩, trivial⟩ (by repeat' first | exact trivial | apply And.intro | rfl | (exact cell_int hw))) ?_
  exact ret_objs rfl rfl rfl (by repeat' first | exact trivial | apply And.intro | rfl | (refine int_eq ?_; rw [wrap64] <;> omega)) (Nat.le_refl _)
set_option maxHeartbeats 16000000 in
set_option maxRecDepth 10000 in
theorem ev_bool (T : Tree) (hT : QT T) (hk : T.kind = 132) (ρ : Ev) (f : Nat) (f0 : f ≠ 0) (hf : f ≤ 500000000) : Fun P 15 [.ref 0 0, .d (.tree T), .d (eD ρ)] (MP f) 1 (rsA (⟨.tru (decide (T.n = 1)), 0, f - 1⟩ : Rs)) (MP (⟨.tru (decide (T.n = 1)), 0, f - 1⟩ : Rs).f) 1 := by
  have hTn := hT.ne
  have hw := ev_hw f0 hf
  unfold MP
  refine Fun.of_body tt [] [6, 7] (Try.func15) rfl rfl rfl (Nat.le_of_ble_eq_true rfl) fun g => ?_
  repeat' ((first
    | refine then_go hm htt ?_
    | refine Side.go ?_
    | refine Hyp.go fun hlen => ?_
    | refine Split.ct ?_
    | refine Split.cf ?_
    | refine Split.tt ?_
    | refine Split.ff ?_
    | refine Indep.go ?_
    | refine Split.of_false (show ((f : Int) == 0) = false from by simp; omega) ?_
    | refine Split.go (fun hc => ?_) fun hc => ?_) <;> conv => whnf)
  refine RetS.ent (σ' := ⟨[(6, .d (vD (.tru (decide (T.n = 1))))), (7, .d (.int .i64 0))], 192, [(0, .cells [.d (.int .i64 (f - 1 : Nat))])], 1, g⟩) (Ent.re [0] rfl rfl rfl rfl rfl rfl ⟨⟨by rw [vD]; rfl, rfl⟩, ⟨rfl, rfl⟩, trivial⟩ (by repeat' first | exact trivial | apply And.intro | rfl | (exact cell_int hw))) ?_
  exact ret_objs rfl rfl rfl (by repeat' first | exact trivial | apply And.intro | rfl | (refine int_eq ?_; rw [wrap64] <;> omega)) (Nat.le_refl _)
set_option maxHeartbeats 16000000 in
set_option maxRecDepth 10000 in
theorem ev_unit (T : Tree) (hT : QT T) (hk : T.kind = 133) (ρ : Ev) (f : Nat) (f0 : f ≠ 0) (hf : f ≤ 500000000) : Fun P 15 [.ref 0 0, .d (.tree T), .d (eD ρ)] (MP f) 1 (rsA (⟨.unt, 0, f - 1⟩ : Rs)) (MP (⟨.unt, 0, f - 1⟩ : Rs).f) 1 := by
  have hTn := hT.ne
  have hw := ev_hw f0 hf
  unfold MP
  refine Fun.of_body tt [] [6, 7] (Try.func15) rfl rfl rfl (Nat.le_of_ble_eq_true rfl) fun g => ?_
  repeat' ((first
    | refine then_go hm htt ?_
    | refine Side.go ?_
    | refine Hyp.go fun hlen => ?_
    | refine Split.ct ?_
    | refine Split.cf ?_
    | refine Split.tt ?_
    | refine Split.ff ?_
    | refine Indep.go ?_
    | refine Split.of_false (show ((f : Int) == 0) = false from by simp; omega) ?_
    | refine Split.go (fun hc => ?_) fun hc => ?_) <;> conv => whnf)
  refine RetS.ent (σ' := ⟨[(6, .d (vD .unt)), (7, .d (.int .i64 0))], 192, [(0, .cells [.d (.int .i64 (f - 1 : Nat))])], 1, g⟩) (Ent.re [0] rfl rfl rfl rfl rfl rfl ⟨⟨by rw [vD]; rfl, rfl⟩, ⟨rfl, rfl⟩, trivial⟩ (by repeat' first | exact trivial | apply And.intro | rfl | (exact cell_int hw))) ?_
  exact ret_objs rfl rfl rfl (by repeat' first | exact trivial | apply And.intro | rfl | (refine int_eq ?_; rw [wrap64] <;> omega)) (Nat.le_refl _)
set_option maxHeartbeats 16000000 in
set_option maxRecDepth 10000 in
theorem ev_lam (T : Tree) (hT : QT T) (hk : T.kind = 134) (ρ : Ev) (f : Nat) (f0 : f ≠ 0) (hf : f ≤ 500000000) (hl : T.kids.length = 2) : Fun P 15 [.ref 0 0, .d (.tree T), .d (eD ρ)] (MP f) 1 (rsA (⟨.clo false (T.kids.getD 1 .nil) ρ, 0, f - 1⟩ : Rs)) (MP (⟨.clo false (T.kids.getD 1 .nil) ρ, 0, f - 1⟩ : Rs).f) 1 := by
  have hTn := hT.ne
  have hw := ev_hw f0 hf
  unfold MP
  have hvd : vD (.clo false (T.kids.getD 1 .nil) ρ) = .iface 76 (.agg 3 fun i => [Mq.Data.bool false, .tree (T.kids.getD 1 .nil), eD ρ].getD i .nils) := by rw [vD]
  have h139 : (T.kind == 139) = false := by rw [hk]; rfl
  rcases eD_ptr ρ with hp | ⟨q, hp⟩
  all_goals
    rw [hp] at hvd ⊢
    refine Fun.of_body tt [] [6, 7] (Try.func15) rfl rfl rfl (Nat.le_of_ble_eq_true rfl) fun g => ?_
    repeat' ((first
      | refine then_go hm htt ?_
      | refine Side.go ?_
      | refine Hyp.go fun hlen => ?_
      | refine Split.ct ?_
      | refine Split.cf ?_
      | refine Split.tt ?_
      | refine Split.ff ?_
      | refine Indep.go ?_
      | refine Split.of_false (show ((f : Int) == 0) = false from by simp; omega) ?_
      | refine Side.mk (show (0 : Int) ≤ 1 ∧ (1 : Int) < (T.kids.length : Int) from ⟨by omega, by omega⟩) ?_
      | refine Split.go (fun hc => ?_) fun hc => ?_) <;> conv => whnf)
    refine RetS.ent (σ' := ⟨[(6, .d (vD (.clo false (T.kids.getD 1 .nil) ρ))), (7, .d (.int .i64 0))], 192, [(0, .cells [.d (.int .i64 (f - 1 : Nat))])], 1, g⟩) (Ent.re [0] rfl rfl rfl rfl rfl rfl ⟨⟨by rw [hvd, ← h139]; rfl, rfl⟩, ⟨rfl, rfl⟩, trivial⟩ (by repeat' first | exact trivial | apply And.intro | rfl | (exact cell_int hw))) ?_
    exact ret_objs rfl rfl rfl (by repeat' first | exact trivial | apply And.intro | rfl | (refine int_eq ?_; rw [wrap64] <;> omega)) (Nat.le_refl _)
set_option maxHeartbeats 16000000 in
set_option maxRecDepth 10000 in
theorem ev_tlam (T : Tree) (hT : QT T) (hk : T.kind = 139) (ρ : Ev) (f : Nat) (f0 : f ≠ 0) (hf : f ≤ 500000000) (hl : T.kids.length = 2) : Fun P 15 [.ref 0 0, .d (.tree T), .d (eD ρ)] (MP f) 1 (rsA (⟨.clo true (T.kids.getD 1 .nil) ρ, 0, f - 1⟩ : Rs)) (MP (⟨.clo true (T.kids.getD 1 .nil) ρ, 0, f - 1⟩ : Rs).f) 1 := by
  have hTn := hT.ne
  have hw := ev_hw f0 hf
  unfold MP
  have hvd : vD (.clo true (T.kids.getD 1 .nil) ρ) = .iface 76 (.agg 3 fun i => [Mq.Data.bool true, .tree (T.kids.getD 1 .nil), eD ρ].getD i .nils) := by rw [vD]
  have h139 : (T.kind == 139) = true := by rw [hk]; rfl
  rcases eD_ptr ρ with hp | ⟨q, hp⟩
  all_goals
    rw [hp] at hvd ⊢
    refine Fun.of_body tt [] [6, 7] (Try.func15) rfl rfl rfl (Nat.le_of_ble_eq_true rfl) fun g => ?_
    repeat' ((first
      | refine then_go hm htt ?_
      | refine Side.go ?_
      | refine Hyp.go fun hlen => ?_
      | refine Split.ct ?_
      | refine Split.cf ?_
      | refine Split.tt ?_
      | refine Split.ff ?_
      | refine Indep.go ?_
      | refine Split.of_false (show ((f : Int) == 0) = false from by simp; omega) ?_
      | refine Side.mk (show (0 : Int) ≤ 1 ∧ (1 : Int) < (T.kids.length : Int) from ⟨by omega, by omega⟩) ?_
      | refine Split.go (fun hc => ?_) fun hc => ?_) <;> conv => whnf)
    refine RetS.ent (σ' := ⟨[(6, .d (vD (.clo true (T.kids.getD 1 .nil) ρ))), (7, .d (.int .i64 0))], 192, [(0, .cells [.d (.int .i64 (f - 1 : Nat))])], 1, g⟩) (Ent.re [0] rfl rfl rfl rfl rfl rfl ⟨⟨by rw [hvd, ← h139]; rfl, rfl⟩, ⟨rfl, rfl⟩, trivial⟩ (by repeat' first | exact trivial | apply And.intro | rfl | (exact cell_int hw))) ?_
    exact ret_objs rfl rfl rfl (by repeat' first | exact trivial | apply And.intro | rfl | (refine int_eq ?_; rw [wrap64] <;> omega)) (Nat.le_refl _)
set_option maxHeartbeats 16000000 in
set_option maxRecDepth 10000 in
theorem ev_rec {k : Nat} (T : Tree) (hT : QT T) (hk : T.kind = 136) (ρ : Ev) (f : Nat) (f0 : f ≠ 0) (hf : f ≤ 500000000) (R : Rs) (h1 : Fun P 28 [.ref 0 0, .d (.tree T), .d (eD ρ)] (MP (f - 1)) 1 (rsA R) (MP R.f) 1) : Fun P 15 [.ref 0 0, .d (.tree T), .d (eD ρ)] (MP f) 1 (rsA R) (MP R.f) 1 := by
  have hTn := hT.ne
  have hw := ev_hw f0 hf
  have hp := eD_ptr ρ
  unfold rsA MP at *
  refine Fun.of_body tt [] [6, 7] (Try.func15) rfl rfl rfl (Nat.le_of_ble_eq_true rfl) fun g => ?_
  repeat' ((first
    | refine then_go hm htt ?_
    | refine Side.go ?_
    | refine Hyp.go fun hlen => ?_
    | refine Split.ct ?_
    | refine Split.cf ?_
    | refine Split.tt ?_
    | refine Split.ff ?_
    | refine Indep.go ?_
    | refine Split.of_false (show ((f : Int) == 0) = false from by simp; omega) ?_
    | refine CallG.fun h1 [0] rfl rfl rfl rfl rfl rfl (by repeat' first | exact trivial | apply And.intro | rfl | (exact cell_int hw)) rfl ?_
    | refine Split.go (fun hc => ?_) fun hc => ?_) <;> conv => whnf)
  all_goals
    refine RetS.ent (σ' := ⟨[(6, .d (if R.e = 0 then vD R.v else .nilI)), (7, .d (.int .i64 R.e))], 192, [(0, .cells [.d (.int .i64 R.f)])], 1, g⟩) (Ent.go [0]) ?_
    exact ret_objs rfl rfl rfl (by repeat' first | exact trivial | apply And.intro | rfl | (refine int_eq ?_; rw [wrap64] <;> omega)) (Nat.le_refl _)
set_option maxHeartbeats 16000000 in
set_option maxRecDepth 10000 in
theorem ev_wrap {k : Nat} (T : Tree) (hT : QT T) (hk : T.kind = 146 ∨ T.kind = 141) (ρ : Ev) (f : Nat) (f0 : f ≠ 0) (hf : f ≤ 500000000) (R : Rs) (h1 : Fun P 29 [.ref 0 0, .d (.tree T), .d (eD ρ)] (MP (f - 1)) 1 (rsA R) (MP R.f) 1) : Fun P 15 [.ref 0 0, .d (.tree T), .d (eD ρ)] (MP f) 1 (rsA R) (MP R.f) 1 := by
  have hTn := hT.ne
  have hw := ev_hw f0 hf
  have hp := eD_ptr ρ
  unfold rsA MP at *
  refine Fun.of_body tt [] [6, 7] (Try.func15) rfl rfl rfl (Nat.le_of_ble_eq_true rfl) fun g => ?_
  repeat' ((first
    | refine then_go hm htt ?_
    | refine Side.go ?_
    | refine Hyp.go fun hlen => ?_
    | refine Split.ct ?_
    | refine Split.cf ?_
    | refine Split.tt ?_
    | refine Split.ff ?_
    | refine Indep.go ?_
    | refine Split.of_false (show ((f : Int) == 0) = false from by simp; omega) ?_
    | refine CallG.fun h1 [0] rfl rfl rfl rfl rfl rfl (by repeat' first | exact trivial | apply And.intro | rfl | (exact cell_int hw)) rfl ?_
    | refine Split.go (fun hc => ?_) fun hc => ?_) <;> conv => whnf)
  all_goals
    refine RetS.ent (σ' := ⟨[(6, .d (if R.e = 0 then vD R.v else .nilI)), (7, .d (.int .i64 R.e))], 192, [(0, .cells [.d (.int .i64 R.f)])], 1, g⟩) (Ent.go [0]) ?_
    exact ret_objs rfl rfl rfl (by repeat' first | exact trivial | apply And.intro | rfl | (refine int_eq ?_; rw [wrap64] <;> omega)) (Nat.le_refl _)
set_option maxHeartbeats 16000000 in
set_option maxRecDepth 10000 in
theorem ev_bad (T : Tree) (hT : QT T) (hk : T.kind = 135 ∨ T.kind = 138 ∨ T.kind = 140 ∨ T.kind = 142 ∨ T.kind = 143 ∨ T.kind = 144 ∨ T.kind = 145 ∨ T.kind = 147 ∨ T.kind = 148) (ρ : Ev) (f : Nat) (f0 : f ≠ 0) (hf : f ≤ 500000000) (hl : 0 < T.kids.length) (a : Rs) (h1 : Fun P 15 [.ref 0 0, .d (.tree (T.kids.getD 0 .nil)), .d (eD ρ)] (MP (f - 1)) 1 (rsA a) (MP a.f) 1) (ha : a.e ≠ 0) : Fun P 15 [.ref 0 0, .d (.tree T), .d (eD ρ)] (MP f) 1 (rsA (bad a.e a.f)) (MP (bad a.e a.f).f) 1 := by
  have hTn := hT.ne
  have hw := ev_hw f0 hf
  have h130 : (T.kind == 130) = false := by simp; omega
  have h131 : (T.kind == 131) = false := by simp; omega
  have h132 : (T.kind == 132) = false := by simp; omega
  have h133 : (T.kind == 133) = false := by simp; omega
  have h134 : (T.kind == 134) = false := by simp; omega
  have h139 : (T.kind == 139) = false := by simp; omega
  have h136 : (T.kind == 136) = false := by simp; omega
  have h146 : (T.kind == 146) = false := by simp; omega
  have h141 : (T.kind == 141) = false := by simp; omega
  unfold rsA at *
  rw [if_neg ha] at h1
  unfold MP at *
  refine Fun.of_body tt [] [6, 7] (Try.func15) rfl rfl rfl (Nat.le_of_ble_eq_true rfl) fun g => ?_
  repeat' ((first
    | refine then_go hm htt ?_
    | refine Side.go ?_
    | refine Hyp.go fun hlen => ?_
    | refine Split.ct ?_
    | refine Split.cf ?_
    | refine Split.tt ?_
    | refine Split.ff ?_
    | refine Indep.go ?_
    | refine Split.of_false (show ((f : Int) == 0) = false from by simp; omega) ?_
    | refine CallG.fun h1 [0] rfl rfl rfl rfl rfl rfl (by repeat' first | exact trivial | apply And.intro | rfl | (exact cell_int hw)) rfl ?_
    | refine Side.mk (show (0 : Int) ≤ 0 ∧ (0 : Int) < (T.kids.length : Int) from ⟨by omega, by omega⟩) ?_
    | refine Split.of_false h130 ?_
    | refine Split.of_false h131 ?_
    | refine Split.of_false h132 ?_
    | refine Split.of_false h133 ?_
    | refine Split.of_false h134 ?_
    | refine Split.of_false h139 ?_
    | refine Split.of_false h136 ?_
    | refine Split.of_false h146 ?_
    | refine Split.of_false h141 ?_
    | refine Split.go (fun hc => ?_) fun hc => ?_) <;> conv => whnf)
  refine RetS.ent (σ' := ⟨[(6, .d .nilI), (7, .d (.int .i64 a.e))], 192, [(0, .cells [.d (.int .i64 a.f)])], 1, g⟩) (Ent.go [0]) ?_
  refine ret_objs rfl rfl ?_ (by repeat' first | exact trivial | apply And.intro | rfl | (refine int_eq ?_; rw [wrap64] <;> omega)) (Nat.le_refl _)
  unfold bad
  dsimp only
  rw [if_neg ha]
  rfl
set_option maxHeartbeats 16000000 in
set_option maxRecDepth 10000 in
theorem ev_let (T : Tree) (hT : QT T) (hk : T.kind = 143) (ρ : Ev) (f : Nat) (f0 : f ≠ 0) (hf : f ≤ 500000000) (hl : 0 < T.kids.length) (a : Rs) (h1 : Fun P 15 [.ref 0 0, .d (.tree (T.kids.getD 0 .nil)), .d (eD ρ)] (MP (f - 1)) 1 (rsA a) (MP a.f) 1) (ha : a.e = 0) (hl2 : T.kids.length = 2) (R : Rs) (h2 : Fun P 15 [.ref 0 0, .d (.tree (T.kids.getD 1 .nil)), .d (eD (.val a.v ρ))] (MP a.f) 1 (rsA R) (MP R.f) 1) : Fun P 15 [.ref 0 0, .d (.tree T), .d (eD ρ)] (MP f) 1 (rsA R) (MP R.f) 1 := by
  have hTn := hT.ne
  have hw := ev_hw f0 hf
  have h130 : (T.kind == 130) = false := by simp; omega
  have h131 : (T.kind == 131) = false := by simp; omega
  have h132 : (T.kind == 132) = false := by simp; omega
  have h133 : (T.kind == 133) = false := by simp; omega
  have h134 : (T.kind == 134) = false := by simp; omega
  have h139 : (T.kind == 139) = false := by simp; omega
  have h136 : (T.kind == 136) = false := by simp; omega
  have h146 : (T.kind == 146) = false := by simp; omega
  have h141 : (T.kind == 141) = false := by simp; omega
  unfold rsA at h1
  rw [if_pos ha] at h1
  rw [ha] at h1
  obtain ⟨t, y, hy⟩ := vD_if a.v
  have hb := bind_ok ρ a.v
  rw [hy] at h1 hb
  unfold rsA MP at *
  refine Fun.of_body tt [] [6, 7] (Try.func15) rfl rfl rfl (Nat.le_of_ble_eq_true rfl) fun g => ?_
  repeat' ((first
    | refine then_go hm htt ?_
    | refine Side.go ?_
    | refine Hyp.go fun hlen => ?_
    | refine Split.ct ?_
    | refine Split.cf ?_
    | refine Split.tt ?_
    | refine Split.ff ?_
    | refine Indep.go ?_
    | refine Split.of_false (show ((f : Int) == 0) = false from by simp; omega) ?_
    | refine CallG.fun h1 [0] rfl rfl rfl rfl rfl rfl (by repeat' first | exact trivial | apply And.intro | rfl | (exact cell_int hw)) rfl ?_
    | refine Side.mk (show (0 : Int) ≤ 0 ∧ (0 : Int) < (T.kids.length : Int) from ⟨by omega, by omega⟩) ?_
    | refine Split.of_false h130 ?_
    | refine Split.of_false h131 ?_
    | refine Split.of_false h132 ?_
    | refine Split.of_false h133 ?_
    | refine Split.of_false h134 ?_
    | refine Split.of_false h139 ?_
    | refine Split.of_false h136 ?_
    | refine Split.of_false h146 ?_
    | refine Split.of_false h141 ?_
    | refine CallG.gp hb ?_
    | refine CallG.go h2 [0] ?_
    | refine Side.mk (show (0 : Int) ≤ 1 ∧ (1 : Int) < (T.kids.length : Int) from ⟨by omega, by omega⟩) ?_
    | refine Split.go (fun hc => ?_) fun hc => ?_) <;> conv => whnf)
  refine RetS.ent (σ' := ⟨[(6, .d (if R.e = 0 then vD R.v else .nilI)), (7, .d (.int .i64 R.e))], 192, [(0, .cells [.d (.int .i64 R.f)])], 1, g⟩) (Ent.go [0]) ?_
  exact ret_objs rfl rfl rfl (by repeat' first | exact trivial | apply And.intro | rfl | (refine int_eq ?_; rw [wrap64] <;> omega)) (Nat.le_refl _)
set_option maxHeartbeats 16000000 in
set_option maxRecDepth 10000 in
theorem ev_use (T : Tree) (hT : QT T) (hk : T.kind = 138 ∨ T.kind = 140 ∨ T.kind = 142 ∨ T.kind = 144 ∨ T.kind = 147 ∨ T.kind = 148) (ρ : Ev) (f : Nat) (f0 : f ≠ 0) (hf : f ≤ 500000000) (hl : 0 < T.kids.length) (a : Rs) (h1 : Fun P 15 [.ref 0 0, .d (.tree (T.kids.getD 0 .nil)), .d (eD ρ)] (MP (f - 1)) 1 (rsA a) (MP a.f) 1) (ha : a.e = 0) (R : Rs) (h2 : Fun P 32 [.ref 0 0, .d (.tree T), .d (vD a.v), .d (eD ρ)] (MP a.f) 1 (rsA R) (MP R.f) 1) : Fun P 15 [.ref 0 0, .d (.tree T), .d (eD ρ)] (MP f) 1 (rsA R) (MP R.f) 1 := by
  have hTn := hT.ne
  have hw := ev_hw f0 hf
  have h130 : (T.kind == 130) = false := by simp; omega
  have h131 : (T.kind == 131) = false := by simp; omega
  have h132 : (T.kind == 132) = false := by simp; omega
  have h133 : (T.kind == 133) = false := by simp; omega
  have h134 : (T.kind == 134) = false := by simp; omega
  have h139 : (T.kind == 139) = false := by simp; omega
  have h136 : (T.kind == 136) = false := by simp; omega
  have h146 : (T.kind == 146) = false := by simp; omega
  have h141 : (T.kind == 141) = false := by simp; omega
  have h135 : (T.kind == 135) = false := by simp; omega
  have h145 : (T.kind == 145) = false := by simp; omega
  have h143 : (T.kind == 143) = false := by simp; omega
  unfold rsA at h1
  rw [if_pos ha] at h1
  rw [ha] at h1
  obtain ⟨t, y, hy⟩ := vD_if a.v
  unfold rsA MP at *
  refine Fun.of_body tt [] [6, 7] (Try.func15) rfl rfl rfl (Nat.le_of_ble_eq_true rfl) fun g => ?_
  repeat' ((first
    | refine then_go hm htt ?_
    | refine Side.go ?_
    | refine Hyp.go fun hlen => ?_
    | refine Split.ct ?_
    | refine Split.cf ?_
    | refine Split.tt ?_
    | refine Split.ff ?_
    | refine Indep.go ?_
    | refine Split.of_false (show ((f : Int) == 0) = false from by simp; omega) ?_
    | refine CallG.fun h1 [0] rfl rfl rfl rfl rfl rfl (by repeat' first | exact trivial | apply And.intro | rfl | (exact cell_int hw)) rfl ?_
    | refine Side.mk (show (0 : Int) ≤ 0 ∧ (0 : Int) < (T.kids.length : Int) from ⟨by omega, by omega⟩) ?_
    | refine Split.of_false h130 ?_
    | refine Split.of_false h131 ?_
    | refine Split.of_false h132 ?_
    | refine Split.of_false h133 ?_
    | refine Split.of_false h134 ?_
    | refine Split.of_false h139 ?_
    | refine Split.of_false h136 ?_
    | refine Split.of_false h146 ?_
    | refine Split.of_false h141 ?_
    | refine Split.of_false h135 ?_
    | refine Split.of_false h145 ?_
    | refine Split.of_false h143 ?_
    | refine CallG.go h2 [0] ?_
    | refine Split.go (fun hc => ?_) fun hc => ?_) <;> conv => whnf)
  refine RetS.ent (σ' := ⟨[(6, .d (if R.e = 0 then vD R.v else .nilI)), (7, .d (.int .i64 R.e))], 192, [(0, .cells [.d (.int .i64 R.f)])], 1, g⟩) (Ent.go [0]) ?_
  exact ret_objs rfl rfl rfl (by repeat' first | exact trivial | apply And.intro | rfl | (refine int_eq ?_; rw [wrap64] <;> omega)) (Nat.le_refl _)
set_option maxHeartbeats 16000000 in
set_option maxRecDepth 10000 in
theorem ev_bad2 (T : Tree) (hT : QT T) (hk : T.kind = 135 ∨ T.kind = 145) (ρ : Ev) (f : Nat) (f0 : f ≠ 0) (hf : f ≤ 500000000) (hl : 0 < T.kids.length) (a : Rs) (h1 : Fun P 15 [.ref 0 0, .d (.tree (T.kids.getD 0 .nil)), .d (eD ρ)] (MP (f - 1)) 1 (rsA a) (MP a.f) 1) (ha : a.e = 0) (hl2 : T.kids.length = 2) (b : Rs) (h2 : Fun P 15 [.ref 0 0, .d (.tree (T.kids.getD 1 .nil)), .d (eD ρ)] (MP a.f) 1 (rsA b) (MP b.f) 1) (hb : b.e ≠ 0) : Fun P 15 [.ref 0 0, .d (.tree T), .d (eD ρ)] (MP f) 1 (rsA (bad b.e b.f)) (MP (bad b.e b.f).f) 1 := by
  have hTn := hT.ne
  have hw := ev_hw f0 hf
  have h130 : (T.kind == 130) = false := by simp; omega
  have h131 : (T.kind == 131) = false := by simp; omega
  have h132 : (T.kind == 132) = false := by simp; omega
  have h133 : (T.kind == 133) = false := by simp; omega
  have h134 : (T.kind == 134) = false := by simp; omega
  have h139 : (T.kind == 139) = false := by simp; omega
  have h136 : (T.kind == 136) = false := by simp; omega
  have h146 : (T.kind == 146) = false := by simp; omega
  have h141 : (T.kind == 141) = false := by simp; omega
  unfold rsA at h1
  rw [if_pos ha] at h1
  rw [ha] at h1
  obtain ⟨t, y, hy⟩ := vD_if a.v
  unfold rsA at h2 ⊢
  rw [if_neg hb] at h2
  unfold MP at *
  refine Fun.of_body tt [] [6, 7] (Try.func15) rfl rfl rfl (Nat.le_of_ble_eq_true rfl) fun g => ?_
  repeat' ((first
    | refine then_go hm htt ?_
    | refine Side.go ?_
    | refine Hyp.go fun hlen => ?_
    | refine Split.ct ?_
    | refine Split.cf ?_
    | refine Split.tt ?_
    | refine Split.ff ?_
    | refine Indep.go ?_
    | refine Split.of_false (show ((f : Int) == 0) = false from by simp; omega) ?_
    | refine CallG.fun h1 [0] rfl rfl rfl rfl rfl rfl (by repeat' first | exact trivial | apply And.intro | rfl | (exact cell_int hw)) rfl ?_
    | refine Side.mk (show (0 : Int) ≤ 0 ∧ (0 : Int) < (T.kids.length : Int) from ⟨by omega, by omega⟩) ?_
    | refine Split.of_false h130 ?_
    | refine Split.of_false h131 ?_
    | refine Split.of_false h132 ?_
    | refine Split.of_false h133 ?_
    | refine Split.of_false h134 ?_
    | refine Split.of_false h139 ?_
    | refine Split.of_false h136 ?_
    | refine Split.of_false h146 ?_
    | refine Split.of_false h141 ?_
    | refine CallG.go h2 [0] ?_
    | refine Side.mk (show (0 : Int) ≤ 1 ∧ (1 : Int) < (T.kids.length : Int) from ⟨by omega, by omega⟩) ?_
    | refine Split.go (fun hc => ?_) fun hc => ?_) <;> conv => whnf)
  all_goals first
    | (exfalso; omega)
    | skip
  all_goals
    refine RetS.ent (σ' := ⟨[(6, .d .nilI), (7, .d (.int .i64 b.e))], 192, [(0, .cells [.d (.int .i64 b.f)])], 1, g⟩) (Ent.go [0]) ?_
    refine ret_objs rfl rfl ?_ (by repeat' first | exact trivial | apply And.intro | rfl | (refine int_eq ?_; rw [wrap64] <;> omega)) (Nat.le_refl _)
    unfold bad
    dsimp only
    rw [if_neg hb]
    rfl
set_option maxHeartbeats 16000000 in
set_option maxRecDepth 10000 in
theorem ev_op (T : Tree) (hT : QT T) (hk : T.kind = 145) (ρ : Ev) (f : Nat) (f0 : f ≠ 0) (hf : f ≤ 500000000) (hl : 0 < T.kids.length) (a : Rs) (h1 : Fun P 15 [.ref 0 0, .d (.tree (T.kids.getD 0 .nil)), .d (eD ρ)] (MP (f - 1)) 1 (rsA a) (MP a.f) 1) (ha : a.e = 0) (hl2 : T.kids.length = 2) (b : Rs) (h2 : Fun P 15 [.ref 0 0, .d (.tree (T.kids.getD 1 .nil)), .d (eD ρ)] (MP a.f) 1 (rsA b) (MP b.f) 1) (hb : b.e = 0) : Fun P 15 [.ref 0 0, .d (.tree T), .d (eD ρ)] (MP f) 1 (rsA (opM T.n a.v b.v b.f)) (MP (opM T.n a.v b.v b.f).f) 1 := by
  have hTn := hT.ne
  have hw := ev_hw f0 hf
  have h130 : (T.kind == 130) = false := by simp; omega
  have h131 : (T.kind == 131) = false := by simp; omega
  have h132 : (T.kind == 132) = false := by simp; omega
  have h133 : (T.kind == 133) = false := by simp; omega
  have h134 : (T.kind == 134) = false := by simp; omega
  have h139 : (T.kind == 139) = false := by simp; omega
  have h136 : (T.kind == 136) = false := by simp; omega
  have h146 : (T.kind == 146) = false := by simp; omega
  have h141 : (T.kind == 141) = false := by simp; omega
  have h135 : (T.kind == 135) = false := by simp; omega
  unfold rsA at h1
  rw [if_pos ha] at h1
  rw [ha] at h1
  obtain ⟨t, y, hy⟩ := vD_if a.v
  have ho := mop_ok T.n a.v b.v b.f
  have hof := opM_f T.n a.v b.v b.f
  generalize opM T.n a.v b.v b.f = R at ho hof
  unfold rsA at h2 ⊢ ho
  rw [if_pos hb] at h2
  rw [hb] at h2
  unfold MP at *
  refine Fun.of_body tt [] [6, 7] (Try.func15) rfl rfl rfl (Nat.le_of_ble_eq_true rfl) fun g => ?_
  repeat' ((first
    | refine then_go hm htt ?_
    | refine Side.go ?_
    | refine Hyp.go fun hlen => ?_
    | refine Split.ct ?_
    | refine Split.cf ?_
    | refine Split.tt ?_
    | refine Split.ff ?_
    | refine Indep.go ?_
    | refine Split.of_false (show ((f : Int) == 0) = false from by simp; omega) ?_
    | refine CallG.fun h1 [0] rfl rfl rfl rfl rfl rfl (by repeat' first | exact trivial | apply And.intro | rfl | (exact cell_int hw)) rfl ?_
    | refine Side.mk (show (0 : Int) ≤ 0 ∧ (0 : Int) < (T.kids.length : Int) from ⟨by omega, by omega⟩) ?_
    | refine Split.of_false h130 ?_
    | refine Split.of_false h131 ?_
    | refine Split.of_false h132 ?_
    | refine Split.of_false h133 ?_
    | refine Split.of_false h134 ?_
    | refine Split.of_false h139 ?_
    | refine Split.of_false h136 ?_
    | refine Split.of_false h146 ?_
    | refine Split.of_false h141 ?_
    | refine Split.of_false h135 ?_
    | refine CallG.go h2 [0] ?_
    | refine CallG.gp ho ?_
    | refine Side.mk (show (0 : Int) ≤ 1 ∧ (1 : Int) < (T.kids.length : Int) from ⟨by omega, by omega⟩) ?_
    | refine Split.go (fun hc => ?_) fun hc => ?_) <;> conv => whnf)
  refine RetS.ent (σ' := ⟨[(6, .d (if R.e = 0 then vD R.v else .nilI)), (7, .d (.int .i64 R.e))], 192, [(0, .cells [.d (.int .i64 R.f)])], 1, g⟩) (Ent.re [0] rfl rfl rfl rfl rfl rfl (by repeat' first | exact trivial | apply And.intro | rfl | (refine int_eq ?_; rw [wrap64] <;> omega)) ⟨⟨rfl, by rw [hof]; rfl, rfl⟩, trivial⟩) ?_
  exact ret_objs rfl rfl rfl (by repeat' first | exact trivial | apply And.intro | rfl | (refine int_eq ?_; rw [wrap64] <;> omega)) (Nat.le_refl _)
set_option maxHeartbeats 16000000 in
set_option maxRecDepth 10000 in
theorem ev_app (T : Tree) (hT : QT T) (hk : T.kind = 135) (ρ : Ev) (f : Nat) (f0 : f ≠ 0) (hf : f ≤ 500000000) (hl : 0 < T.kids.length) (a : Rs) (h1 : Fun P 15 [.ref 0 0, .d (.tree (T.kids.getD 0 .nil)), .d (eD ρ)] (MP (f - 1)) 1 (rsA a) (MP a.f) 1) (ha : a.e = 0) (hl2 : T.kids.length = 2) (b : Rs) (h2 : Fun P 15 [.ref 0 0, .d (.tree (T.kids.getD 1 .nil)), .d (eD ρ)] (MP a.f) 1 (rsA b) (MP b.f) 1) (hb : b.e = 0) (body : Tree) (e : Ev) (hav : a.v = .clo false body e) (R : Rs) (h3 : Fun P 15 [.ref 0 0, .d (.tree body), .d (eD (.val b.v e))] (MP b.f) 1 (rsA R) (MP R.f) 1) : Fun P 15 [.ref 0 0, .d (.tree T), .d (eD ρ)] (MP f) 1 (rsA R) (MP R.f) 1 := by
  have hTn := hT.ne
  have hw := ev_hw f0 hf
  have h130 : (T.kind == 130) = false := by simp; omega
  have h131 : (T.kind == 131) = false := by simp; omega
  have h132 : (T.kind == 132) = false := by simp; omega
  have h133 : (T.kind == 133) = false := by simp; omega
  have h134 : (T.kind == 134) = false := by simp; omega
  have h139 : (T.kind == 139) = false := by simp; omega
  have h136 : (T.kind == 136) = false := by simp; omega
  have h146 : (T.kind == 146) = false := by simp; omega
  have h141 : (T.kind == 141) = false := by simp; omega
  unfold rsA at h1 h2
  rw [if_pos ha] at h1
  rw [ha, hav, vD] at h1
  rw [if_pos hb] at h2
  rw [hb] at h2
  obtain ⟨t, y, hy⟩ := vD_if b.v
  have hbi := bind_ok e b.v
  rw [hy] at h2 hbi
  unfold rsA MP at *
  rcases eD_ptr e with hpe | ⟨qe, hpe⟩
  all_goals
    rw [hpe] at h1 hbi
    refine Fun.of_body tt [] [6, 7] (Try.func15) rfl rfl rfl (Nat.le_of_ble_eq_true rfl) fun g => ?_
    repeat' ((first
      | refine then_go hm htt ?_
      | refine Side.go ?_
      | refine Hyp.go fun hlen => ?_
      | refine Split.ct ?_
      | refine Split.cf ?_
      | refine Split.tt ?_
      | refine Split.ff ?_
      | refine Indep.go ?_
      | refine Split.of_false (show ((f : Int) == 0) = false from by simp; omega) ?_
      | refine CallG.fun h1 [0] rfl rfl rfl rfl rfl rfl (by repeat' first | exact trivial | apply And.intro | rfl | (exact cell_int hw)) rfl ?_
      | refine Side.mk (show (0 : Int) ≤ 0 ∧ (0 : Int) < (T.kids.length : Int) from ⟨by omega, by omega⟩) ?_
      | refine Split.of_false h130 ?_
      | refine Split.of_false h131 ?_
      | refine Split.of_false h132 ?_
      | refine Split.of_false h133 ?_
      | refine Split.of_false h134 ?_
      | refine Split.of_false h139 ?_
      | refine Split.of_false h136 ?_
      | refine Split.of_false h146 ?_
      | refine Split.of_false h141 ?_
      | refine CallG.go h2 [0] ?_
      | refine CallG.gp hbi ?_
      | refine CallG.go h3 [0] ?_
      | refine Side.mk (show (0 : Int) ≤ 1 ∧ (1 : Int) < (T.kids.length : Int) from ⟨by omega, by omega⟩) ?_
      | refine Split.go (fun hc => ?_) fun hc => ?_) <;> conv => whnf)
    refine RetS.ent (σ' := ⟨[(6, .d (if R.e = 0 then vD R.v else .nilI)), (7, .d (.int .i64 R.e))], 192, [(0, .cells [.d (.int .i64 R.f)])], 1, g⟩) (Ent.go [0]) ?_
    exact ret_objs rfl rfl rfl (by repeat' first | exact trivial | apply And.intro | rfl | (refine int_eq ?_; rw [wrap64] <;> omega)) (Nat.le_refl _)
set_option maxHeartbeats 16000000 in
set_option maxRecDepth 10000 in
theorem ev_stuck (T : Tree) (hT : QT T) (hk : T.kind = 135) (ρ : Ev) (f : Nat) (f0 : f ≠ 0) (hf : f ≤ 500000000) (hl : 0 < T.kids.length) (a : Rs) (h1 : Fun P 15 [.ref 0 0, .d (.tree (T.kids.getD 0 .nil)), .d (eD ρ)] (MP (f - 1)) 1 (rsA a) (MP a.f) 1) (ha : a.e = 0) (hl2 : T.kids.length = 2) (b : Rs) (h2 : Fun P 15 [.ref 0 0, .d (.tree (T.kids.getD 1 .nil)), .d (eD ρ)] (MP a.f) 1 (rsA b) (MP b.f) 1) (hb : b.e = 0) (hav : ∀ body e, a.v ≠ .clo false body e) : Fun P 15 [.ref 0 0, .d (.tree T), .d (eD ρ)] (MP f) 1 (rsA (bad 20 b.f)) (MP (bad 20 b.f).f) 1 := by
  have hTn := hT.ne
  have hw := ev_hw f0 hf
  have h130 : (T.kind == 130) = false := by simp; omega
  have h131 : (T.kind == 131) = false := by simp; omega
  have h132 : (T.kind == 132) = false := by simp; omega
  have h133 : (T.kind == 133) = false := by simp; omega
  have h134 : (T.kind == 134) = false := by simp; omega
  have h139 : (T.kind == 139) = false := by simp; omega
  have h136 : (T.kind == 136) = false := by simp; omega
  have h146 : (T.kind == 146) = false := by simp; omega
  have h141 : (T.kind == 141) = false := by simp; omega
  unfold rsA at h1 h2
  rw [if_pos ha] at h1
  rw [ha] at h1
  rw [if_pos hb] at h2
  rw [hb] at h2
  generalize a.v = av at h1 hav
  obtain ⟨t, y, hy⟩ := vD_if b.v
  rw [hy] at h2
  unfold MP at *
  rcases av with n | bb | _ | ⟨ls, ps⟩ | ⟨nm, s, p⟩ | ⟨ty, b', e'⟩ | ⟨c, p⟩
  case clo =>
    cases ty with
    | false => exact absurd rfl (hav _ _)
    | true =>
      rw [vD] at h1
      rcases eD_ptr e' with hpe | ⟨qe, hpe⟩
      all_goals
        rw [hpe] at h1
        refine Fun.of_body tt [] [6, 7] (Try.func15) rfl rfl rfl (Nat.le_of_ble_eq_true rfl) fun g => ?_
        repeat' ((first
          | refine then_go hm htt ?_
          | refine Side.go ?_
          | refine Hyp.go fun hlen => ?_
          | refine Split.ct ?_
          | refine Split.cf ?_
          | refine Split.tt ?_
          | refine Split.ff ?_
          | refine Indep.go ?_
          | refine Split.of_false (show ((f : Int) == 0) = false from by simp; omega) ?_
          | refine CallG.fun h1 [0] rfl rfl rfl rfl rfl rfl (by repeat' first | exact trivial | apply And.intro | rfl | (exact cell_int hw)) rfl ?_
          | refine Side.mk (show (0 : Int) ≤ 0 ∧ (0 : Int) < (T.kids.length : Int) from ⟨by omega, by omega⟩) ?_
          | refine Split.of_false h130 ?_
          | refine Split.of_false h131 ?_
          | refine Split.of_false h132 ?_
          | refine Split.of_false h133 ?_
          | refine Split.of_false h134 ?_
          | refine Split.of_false h139 ?_
          | refine Split.of_false h136 ?_
          | refine Split.of_false h146 ?_
          | refine Split.of_false h141 ?_
          | refine CallG.go h2 [0] ?_
          | refine Side.mk (show (0 : Int) ≤ 1 ∧ (1 : Int) < (T.kids.length : Int) from ⟨by omega, by omega⟩) ?_
          | refine Split.go (fun hc => ?_) fun hc => ?_) <;> conv => whnf)
        refine RetS.ent (σ' := ⟨[(6, .d .nilI), (7, .d (.int .i64 20))], 192, [(0, .cells [.d (.int .i64 b.f)])], 1, g⟩) (Ent.go [0]) ?_
        exact ret_objs rfl rfl rfl (by repeat' first | exact trivial | apply And.intro | rfl | (refine int_eq ?_; rw [wrap64] <;> omega)) (Nat.le_refl _)
  all_goals
    rw [vD] at h1
    refine Fun.of_body tt [] [6, 7] (Try.func15) rfl rfl rfl (Nat.le_of_ble_eq_true rfl) fun g => ?_
    repeat' ((first
      | refine then_go hm htt ?_
      | refine Side.go ?_
      | refine Hyp.go fun hlen => ?_
      | refine Split.ct ?_
      | refine Split.cf ?_
      | refine Split.tt ?_
      | refine Split.ff ?_
      | refine Indep.go ?_
      | refine Split.of_false (show ((f : Int) == 0) = false from by simp; omega) ?_
      | refine CallG.fun h1 [0] rfl rfl rfl rfl rfl rfl (by repeat' first | exact trivial | apply And.intro | rfl | (exact cell_int hw)) rfl ?_
      | refine Side.mk (show (0 : Int) ≤ 0 ∧ (0 : Int) < (T.kids.length : Int) from ⟨by omega, by omega⟩) ?_
      | refine Split.of_false h130 ?_
      | refine Split.of_false h131 ?_
      | refine Split.of_false h132 ?_
      | refine Split.of_false h133 ?_
      | refine Split.of_false h134 ?_
      | refine Split.of_false h139 ?_
      | refine Split.of_false h136 ?_
      | refine Split.of_false h146 ?_
      | refine Split.of_false h141 ?_
      | refine CallG.go h2 [0] ?_
      | refine Side.mk (show (0 : Int) ≤ 1 ∧ (1 : Int) < (T.kids.length : Int) from ⟨by omega, by omega⟩) ?_
      | refine Split.go (fun hc => ?_) fun hc => ?_) <;> conv => whnf)
    refine RetS.ent (σ' := ⟨[(6, .d .nilI), (7, .d (.int .i64 20))], 192, [(0, .cells [.d (.int .i64 b.f)])], 1, g⟩) (Ent.go [0]) ?_
    exact ret_objs rfl rfl rfl (by repeat' first | exact trivial | apply And.intro | rfl | (refine int_eq ?_; rw [wrap64] <;> omega)) (Nat.le_refl _)
end Mc
end Go.Proofs.Ytlgajkoplklkiaa

namespace Go.Proofs.Ytlgajkoplklkiaa
namespace Mc
open Go Go.Mq Tm Sb St
set_option linter.all false

/-! The walk: evaluation, put together -/
theorem bd_top {f n : Nat} (h : n ≤ bd f) : n ≤ 1073741824 := by unfold bd at h; omega
theorem muse_ok {k : Nat} (hE : EVw k) (hF : FOw k) {T : Tree} (hT : QT T) {x : Vl} {ρ : Ev} {f : Nat} (hf : f ≤ 500000000) (hfk : 2 * f + 2 ≤ k) (hr : okEv QT (bd (f + 1)) ρ) (hs : sizeE ρ ≤ bd (f + 1)) (hx : okV QT (bd (f + 1)) x) :
    Fun P 32 [.ref 0 0, .d (.tree T), .d (vD x), .d (eD ρ)] (MP f) 1 (rsA (useM (evalD k) (foldD k) T x ρ f)) (MP (useM (evalD k) (foldD k) T x ρ f).f) 1 := by
  have hb := bd_s hf
  have hmn := bd_le (a := f) (b := f + 1) (by omega)
  have hTn := hT.ne
  have hEr := okEv_mono QT hmn hr
  cases x with
  | num n => exact use_num _ _ T hTn ρ f n
  | unt => exact use_unt _ _ T hTn ρ f
  | rcd ls ps => rw [okV] at hx; exact use_rcd _ _ T hTn ρ f ls ps hx.1 hx.2.1
  | tru b =>
    refine use_tru _ _ T hTn ρ f b (fun hk => (term_xxx hT.1 hk).1) fun i hi hk => ?_
    obtain ⟨q1, q2, q3, q4⟩ := term_xxx hT.1 hk
    refine hE _ ρ f (hT.kid hi ?_) hEr (by omega) hf (by omega)
    match i, hi with
    | 0, _ => exact q2
    | 1, _ => exact q3
    | 2, _ => exact q4
    | i + 3, hi => omega
  | pkd c p =>
    rw [okV] at hx
    refine use_pkd _ _ T hTn ρ f c p (fun hk => by have := (term_xx hT.1 (.inr (.inl hk))).1; omega) fun hk => ?_
    obtain ⟨q1, q2, q3⟩ := term_xx hT.1 (.inr (.inl hk))
    exact hE _ _ f (hT.kid (by omega) q3) (by rw [okEv, okEv]; exact ⟨okV_mono QT hmn hx.2, hx.1, hEr⟩) (by show sizeE ρ + 1 + 1 ≤ _; omega) hf (by omega)
  | clo ty b e =>
    rw [okV] at hx
    refine use_clo _ _ T hTn ρ f ty b e (fun hk => by have := (term_xc hT.1 hk).1; omega) (okEv_M QT hr) (bd_top hs) fun hk ht hcl => ?_
    have hcf : Full (closeL (consE ρ) (T.kids.getD 1 .nil)).1 := closeL_full (shw_full _ (.inl (.inl (term_xc hT.1 hk).2.2))) hcl
    exact hE b _ f hx.1 (by rw [okEv]; exact ⟨hcf.ne, okEv_mono QT hmn hx.2.1⟩) (by show sizeE e + 1 ≤ _; have := hx.2.2; omega) hf (by omega)
  | tag nm s p =>
    rw [okV] at hx
    have hx := hx.2
    refine use_tag _ _ T hTn ρ f nm s p (fun hk => by have := (term_xa hT.1 hk).1; omega) (fun hk x hx => by obtain ⟨t1, t2, t3, t4, t5⟩ := tfield_parts ((term_xa hT.1 hk).2.2 x hx); exact ⟨t1, by omega⟩) (fun b hk hA => ?_) (fun hk => ?_)
    · obtain ⟨q1, q2, q3⟩ := term_xa hT.1 hk
      obtain ⟨y, hy1, hy2⟩ := armF_mem hA
      refine hE b _ f (by rw [hy2]; exact hT.arm (List.mem_of_mem_drop hy1) (q3 y hy1)) (by rw [okEv]; exact ⟨okV_mono QT hmn hx, hEr⟩) (by show sizeE ρ + 1 ≤ _; omega) hf (by omega)
    · exact hF T nm s p ρ f hT hk hr hs hx hf hfk
theorem meval_ok {k : Nat} (hE : EVw k) (hF : FOw k) : EVw (k + 1) := by
  intro T ρ f hT hr hs hf hfk
  have hTn := hT.ne
  by_cases f0 : f = 0
  · subst f0
    rw [show evalD (k + 1) T ρ 0 = bad 18 0 from by rw [evalD, if_pos rfl]]
    exact ev_none T ρ
  have e1 : f - 1 + 1 = f := by omega
  have hmn := bd_le (a := f - 1) (b := f) (by omega)
  have hb := bd_s (f := f - 1) (by omega)
  rw [e1] at hb
  have hEr := okEv_mono QT hmn hr
  generalize hv : evalD (k + 1) T ρ f = R
  rw [evalD, if_neg f0] at hv
  by_cases c1 : T.kind = 130
  · rw [if_pos c1] at hv
    cases ha : atE ρ T.n with
    | none => rw [ha] at hv; dsimp only at hv; rw [← hv]; exact ev_free T hT c1 ρ f f0 hf ha
    | some v => rw [ha] at hv; dsimp only at hv; rw [← hv]; exact ev_some T hT c1 ρ f f0 hf v ha
  rw [if_neg c1] at hv
  by_cases c2 : T.kind = 131
  · rw [if_pos c2] at hv; rw [← hv]; exact ev_int T hT c2 ρ f f0 hf
  rw [if_neg c2] at hv
  by_cases c3 : T.kind = 132
  · rw [if_pos c3] at hv; rw [← hv]; exact ev_bool T hT c3 ρ f f0 hf
  rw [if_neg c3] at hv
  by_cases c4 : T.kind = 133
  · rw [if_pos c4] at hv; rw [← hv]; exact ev_unit T hT c4 ρ f f0 hf
  rw [if_neg c4] at hv
  by_cases c5 : T.kind = 134 ∨ T.kind = 139
  · rw [if_pos c5] at hv
    rw [← hv]
    rcases c5 with c5 | c5
    · rw [show decide (T.kind = 139) = false from by simp; omega]
      exact ev_lam T hT c5 ρ f f0 hf (term_cx hT.1 (.inl c5)).1
    · rw [show decide (T.kind = 139) = true from by simp [c5]]
      exact ev_tlam T hT c5 ρ f f0 hf (term_kx hT.1 c5).1
  rw [if_neg c5] at hv
  by_cases c6 : T.kind = 136
  · rw [if_pos c6] at hv
    have hfl := (term_f hT.1 c6).1
    have hlen := hT.len
    have h1 := mrec_ok (evalD k) T hTn (by omega) (fun x hx => by obtain ⟨t1, t2, t3, t4, t5⟩ := tfield_parts (hfl x hx); exact ⟨t1, by omega⟩) ρ (f - 1) (evfo_f k).1
      (fun x hx f' hf' => hE _ ρ f' (hT.arm hx (hfl x hx)) (okEv_mono QT (bd_le (by omega)) hr) (Nat.le_trans hs (bd_le (by omega))) (by omega) (by omega))
    rw [hv] at h1
    exact ev_rec (k := k) T hT c6 ρ f f0 hf R h1
  rw [if_neg c6] at hv
  by_cases c7 : T.kind = 146 ∨ T.kind = 141
  · rw [if_pos c7] at hv
    have hq : QT (T.kids.getD 1 .nil) ∧ (T.kids.length = 2 ∨ T.kids.length = 3) := by
      rcases c7 with c7 | c7
      · obtain ⟨q1, q2, q3⟩ := term_cx hT.1 (.inr c7); exact ⟨hT.kid (by omega) q3, .inl q1⟩
      · obtain ⟨q1, q2, q3, q4⟩ := term_cxc hT.1 c7; exact ⟨hT.kid (by omega) q3, .inr q1⟩
    have h1 := mwrap_ok (evalD k) T hTn hq.2 c7 ρ (f - 1) (okEv_M QT hr) (bd_top hs) (hE _ ρ (f - 1) hq.1 hEr (by omega) (by omega) (by omega))
    rw [hv] at h1
    exact ev_wrap (k := k) T hT c7 ρ f f0 hf R h1
  rw [if_neg c7] at hv
  dsimp only at hv
  obtain ⟨hk0, hl0, hkk⟩ := term_first hT c1 c2 c3 c4 c5 c6 c7
  have h1 := hE _ ρ (f - 1) hk0 hEr (by omega) (by omega) (by omega)
  have hav := EVq_all k _ ρ (f - 1) hk0 hEr (by omega) (by omega)
  have haf := (evfo_f k).1 (T.kids.getD 0 .nil) ρ (f - 1)
  generalize evalD k (T.kids.getD 0 .nil) ρ (f - 1) = a at h1 hv hav haf
  by_cases ha : a.e = 0
  · rw [if_neg (by simp [ha])] at hv
    have hav := hav ha
    have hma := bd_le (a := a.f) (b := a.f + 1) (by omega)
    have hmf := bd_le (a := a.f + 1) (b := f) (by omega)
    have hba := bd_s (f := a.f) (by omega)
    by_cases c8 : T.kind = 135 ∨ T.kind = 145
    · rw [if_pos c8] at hv
      obtain ⟨q1, q2, q3⟩ := term_xx hT.1 (by omega)
      have hk1 : QT (T.kids.getD 1 .nil) := hT.kid (by omega) q3
      have h2 := hE _ ρ a.f hk1 (okEv_mono QT (by omega) hr) (by omega) (by omega) (by omega)
      have hbv := EVq_all k _ ρ a.f hk1 (okEv_mono QT (by omega) hr) (by omega) (by omega)
      have hbf := (evfo_f k).1 (T.kids.getD 1 .nil) ρ a.f
      generalize evalD k (T.kids.getD 1 .nil) ρ a.f = b at h2 hv hbv hbf
      by_cases hb0 : b.e = 0
      · rw [if_neg (by simp [hb0])] at hv
        have hbv := hbv hb0
        by_cases c9 : T.kind = 145
        · rw [if_pos c9] at hv
          rw [← hv]
          exact ev_op T hT c9 ρ f f0 hf hl0 a h1 ha q1 b h2 hb0
        · rw [if_neg c9] at hv
          by_cases hc : ∃ body e, a.v = .clo false body e
          · obtain ⟨body, e, hae⟩ := hc
            rw [hae] at hv hav
            dsimp only at hv
            rw [okV] at hav
            have hmb := bd_le (a := b.f) (b := b.f + 1) (by omega)
            have hmb2 := bd_le (a := b.f + 1) (b := a.f + 1) (by omega)
            have hbb := bd_s (f := b.f) (by omega)
            have h3 := hE body (.val b.v e) b.f hav.1 (by rw [okEv]; exact ⟨okV_mono QT hmb hbv, okEv_mono QT (by omega) hav.2.1⟩) (by show sizeE e + 1 ≤ _; have := hav.2.2; omega) (by omega) (by omega)
            rw [hv] at h3
            exact ev_app T hT (by omega) ρ f f0 hf hl0 a h1 ha q1 b h2 hb0 body e hae R h3
          · have hnc : ∀ body e, a.v ≠ .clo false body e := fun body e q => hc ⟨body, e, q⟩
            have hvb : R = bad 20 b.f := by
              rw [← hv]
              cases hav2 : a.v with
              | clo ty body e =>
                cases ty with
                | false => exact absurd hav2 (hnc _ _)
                | true => rfl
              | _ => rfl
            rw [hvb]
            exact ev_stuck T hT (by omega) ρ f f0 hf hl0 a h1 ha q1 b h2 hb0 hnc
      · rw [if_pos hb0] at hv
        rw [← hv]
        exact ev_bad2 T hT c8 ρ f f0 hf hl0 a h1 ha q1 b h2 hb0
    rw [if_neg c8] at hv
    by_cases c10 : T.kind = 143
    · rw [if_pos c10] at hv
      obtain ⟨q1, q2, q3⟩ := term_xx hT.1 (by omega)
      have h2 := hE _ (.val a.v ρ) a.f (hT.kid (by omega) q3) (by rw [okEv]; exact ⟨okV_mono QT hma hav, okEv_mono QT (by omega) hr⟩) (by show sizeE ρ + 1 ≤ _; omega) (by omega) (by omega)
      rw [hv] at h2
      exact ev_let T hT c10 ρ f f0 hf hl0 a h1 ha q1 R h2
    rw [if_neg c10] at hv
    have h2 := muse_ok hE hF hT (f := a.f) (by omega) (by omega) (okEv_mono QT (by omega) hr) (by omega) hav
    rw [hv] at h2
    exact ev_use T hT (by omega) ρ f f0 hf hl0 a h1 ha R h2
  · rw [if_pos ha] at hv
    rw [← hv]
    exact ev_bad T hT hkk ρ f f0 hf hl0 a h1 ha
theorem evfo_w : ∀ k : Nat, EVw k ∧ FOw k
  | 0 => ⟨fun T ρ f _ _ _ _ h => by omega, fun T nm s p ρ f _ _ _ _ _ _ h => by omega⟩
  | k + 1 => by
    obtain ⟨h1, h2⟩ := evfo_w k
    exact ⟨meval_ok h1 h2, mfold_ok h1 h2⟩
end Mc
end Go.Proofs.Ytlgajkoplklkiaa

namespace Go.Proofs.Ytlgajkoplklkiaa
namespace Mc
open Go Go.Mq
set_option linter.all false

/-! A row by another name -/
def mvS (a nx : Nat) : Nat → Nat := fun i => bif Nat.beq i nx then a else i
def TmMv (tm : List (Nat × AVal)) (s : Nat → Nat) : List (Nat × AVal) → Prop
  | [] => True
  | (t, v) :: r => Mq.look tm t = v.ren s ∧ TmMv tm s r
theorem TmMv.get {tm : List (Nat × AVal)} {s : Nat → Nat} : ∀ {l : List (Nat × AVal)}, TmMv tm s l → ∀ t, Mq.look l t = .any ∨ Mq.look tm t = (Mq.look l t).ren s
  | [], _, t => .inl rfl
  | (j, v) :: r, h, t => by
    simp only [Mq.look]
    cases hb : Nat.beq j t with
    | true =>
      have := Nat.eq_of_beq_eq_true hb
      subst this
      exact .inr h.1
    | false => exact TmMv.get h.2 t
def StMv (st : List (Nat × AObj)) (s : Nat → Nat) (a k : Nat) : List (Nat × AObj) → Prop
  | [] => True
  | (i, o) :: r => (Nat.blt i k = true ∧ Nat.beq i a = false ∧ sget st (s i) = some (o.ren s)) ∧ StMv st s a k r
theorem StMv.get {st : List (Nat × AObj)} {s : Nat → Nat} {a k : Nat} : ∀ {l : List (Nat × AObj)}, StMv st s a k l → ∀ {i : Nat} {o : AObj}, sget l i = some o → i < k ∧ i ≠ a ∧ sget st (s i) = some (o.ren s)
  | [], _, i, o, h => by simp [sget] at h
  | (j, x) :: r, h, i, o, e => by
    simp only [sget] at e
    cases hb : Nat.beq j i with
    | true =>
      rw [hb, cond_true] at e
      cases e
      have := Nat.eq_of_beq_eq_true hb
      subst this
      obtain ⟨h1, h2, h3⟩ := h.1
      exact ⟨Nat.le_of_ble_eq_true h1, fun e => by rw [e] at h2; simp at h2, h3⟩
    | false => rw [hb, cond_false] at e; exact StMv.get h.2 e
theorem mvS_new (a nx : Nat) : mvS a nx nx = a := by unfold mvS; simp
theorem mvS_old {a nx i : Nat} (h : i ≠ nx) : mvS a nx i = i := by
  unfold mvS
  cases hb : Nat.beq i nx with
  | true => exact absurd (Nat.eq_of_beq_eq_true hb) h
  | false => rfl
/-- What an id stands for is known by a new one, too; the object goes over to that one. -/
theorem Ent.mv {nb : Nat} {σ σ' : AState} (a : Nat) (hn : σ'.n = σ.n) (ha : Nat.blt a σ.nx = true) (hx : σ'.nx = σ.nx + 1) (hg : σ'.g = σ.g) (htm : TmMv σ.tm (mvS a σ.nx) σ'.tm) (hst : StMv σ.st (mvS a σ.nx) a (σ.nx + 1) σ'.st) : Ent nb σ σ' := by
  have ha : a < σ.nx := Nat.le_of_ble_eq_true ha
  have hD : ∀ i, mvS a σ.nx i < σ.nx → i < σ.nx + 1 := fun i h => by
    by_cases e : i = σ.nx
    · omega
    · rw [mvS_old e] at h; omega
  refine ⟨hn, fun E I ρ act w hE hr => ⟨I, fun i => ρ (mvS a σ.nx i), Imm.le_refl I, ?_, hr.defs, by rw [hr.size]; exact hn.symm, fun t => ?_, fun id hid => ?_, fun id hid => ?_⟩⟩
  · obtain ⟨own, h⟩ := hr.rel
    have h : RelO E I ρ (fun i => i < σ.nx) (sget σ.st) σ.g w own := h
    show Rel E I _ (fun i => i < σ'.nx) (sget σ'.st) σ'.g w
    rw [hx, hg]
    let ownN : Nat → Own := fun b => match own b with
      | .obj i => if i = a then .obj σ.nx else .obj i
      | o => o
    have hown : ∀ b i, own b = .obj i → ownN b = if i = a then .obj σ.nx else .obj i := fun b i e => by show (match own b with | .obj i => _ | o => o) = _; rw [e]
    have hoth : ∀ b, (∀ i, own b ≠ .obj i) → ownN b = own b := fun b e => by
      show (match own b with | .obj i => _ | o => o) = _
      cases ho : own b with
      | obj i => exact absurd ho (e i)
      | _ => rfl
    refine ⟨ownN, ⟨h.env, fun b hb => ?_, fun b c hc => ?_, fun i o e => (hst.get e).1, fun i o e => ?_, fun i o e hni => ?_, ?_⟩⟩
    · refine h.lt b fun e => hb ?_
      rw [hoth b (fun i q => by rw [e] at q; cases q)]; exact e
    · obtain ⟨q1, q2⟩ := h.imm b c hc
      exact ⟨by rw [hoth b (fun i q => by rw [q1] at q; cases q)]; exact q1, q2⟩
    · obtain ⟨q1, q2, q3⟩ := hst.get e
      have := (h.obj _ _ q3).ren_dn
      refine ORel.mono (Imm.le_refl I) (fun id hid => hD id hid) (fun _ _ => rfl) ?_ (fun _ => rfl) this
      show mvS a σ.nx i < σ.nx
      exact h.key _ _ q3
    · obtain ⟨q1, q2, q3⟩ := hst.get e
      have := h.ownd _ _ q3 hni
      show ownN (ρ (mvS a σ.nx i)).blk = _
      rw [hown _ _ this]
      by_cases e1 : i = σ.nx
      · rw [e1, mvS_new, if_pos rfl]
      · rw [mvS_old e1, if_neg q2]
    · have : gheap ownN w = gheap own w := by
        funext b
        unfold gheap
        cases ho : own b with
        | obj i => rw [hown b i ho]; split <;> (split at * <;> first | rfl | (rename_i q; cases q) | skip)
        | _ => rw [hoth b (fun i q => by rw [ho] at q; cases q), ho]
      rw [this]; exact h.gst
  · show CA I _ (fun i => i < σ'.nx) (Mq.look σ'.tm t) _
    rw [hx]
    rcases htm.get t with h1 | h1
    · rw [h1]; exact .any
    · have h3 : CA I ρ (fun i => i < σ.nx) (Mq.look σ.tm t) _ := hr.slot t
      rw [h1] at h3
      exact (CA.ren_dn h3).mono (Imm.le_refl I) (fun id hid => hD id hid) (fun _ _ => rfl)
  · show id < σ'.nx
    have := hr.dom id hid
    have : id < σ.nx := this
    omega
  · have h1 : id < σ.nx := hr.dom id hid
    show ρ (mvS a σ.nx id) = _
    rw [mvS_old (by omega)]
    exact hr.bas id hid
/-! The walk: a text's writer -/
def WC (r : Nat) (u : Bool) (s : ByteArray) (e : Int) : AObj := .cellsT (some 57) [bif u then .ref 0 0 else .d (.tree .nil), .row r s.size, .d (.int .i64 e)]
def WB (s : ByteArray) : AObj := .row 5 (.ints .u8 (bytesI s))
def WOi (r : Nat) (u : Bool) (s : ByteArray) (e : Int) : List (Nat × AObj) := [(0, WC r u s e), (r, WB s)]
def WO (u : Bool) (s : ByteArray) (e : Int) : List (Nat × AObj) := WOi 1 u s e
theorem inf_builder : ∃ j, P.info? 55 = some j ∧ j.size = 2 := ⟨(P.info? 55).getD default, by kernel_rfl, by kernel_rfl⟩
theorem ptrB : PtrTo P 52 := ⟨55, (P.info? 55).getD default, by kernel_rfl, by kernel_rfl⟩
theorem convA : ConvSame P 52 156 57 0 3 := by
  obtain ⟨j, h1, h2⟩ := inf_builder
  exact ConvSame.to (t := 55) (by kernel_rfl) (by kernel_rfl) h1 (by omega) (by omega)
theorem convB : ConvSame P 156 52 57 0 3 := by
  obtain ⟨j, h1, h2⟩ := inf_builder
  exact ConvSame.from (u := 55) (by kernel_rfl) (by kernel_rfl) h1 (by kernel_rfl)
theorem noEsc : ExtSame P 114 := ⟨_, Extern.AbiNoEscape.same, Try.func114, by kernel_rfl, by kernel_rfl, by kernel_rfl, by kernel_rfl, fun x w => Lib.run_noEscape (w := w) x⟩
theorem appS : AppStr P 53 9 5 := ⟨by kernel_rfl, by kernel_rfl, (P.info? 5).getD default, by kernel_rfl, by kernel_rfl, by kernel_rfl, by kernel_rfl⟩
theorem uStr : UStr P 81 5 := ⟨by kernel_rfl, by kernel_rfl⟩
set_option maxHeartbeats 4000000 in
set_option maxRecDepth 10000 in
theorem copyA (s : ByteArray) (e : Int) : Fun P 113 [.ref 0 0] (WO false s e) 2 (.tuple []) (WO true s e) 2 := by
  unfold WO WOi WC WB
  refine Fun.of_body tt [] [] (Try.func113) rfl rfl rfl (Nat.le_of_ble_eq_true rfl) fun g => ?_
  repeat' ((first
    | refine then_go hm htt ?_
    | refine Side.go ?_
    | refine Hyp.go fun hlen => ?_
    | refine Split.ct ?_
    | refine Split.cf ?_
    | refine Split.tt ?_
    | refine Split.ff ?_
    | refine Indep.go ?_
    | refine CallG.ext noEsc ?_
    | refine Side.mk convA ?_
    | refine Side.mk convB ?_
    | refine Split.go (fun hc => ?_) fun hc => ?_) <;> conv => whnf)
  exact ret_objs rfl rfl rfl (by repeat' first | exact trivial | apply And.intro | rfl | (refine int_eq ?_; rw [wrap64] <;> omega)) (Nat.le_refl _)
set_option maxHeartbeats 4000000 in
set_option maxRecDepth 10000 in
theorem copyB (s : ByteArray) (e : Int) : Fun P 113 [.ref 0 0] (WO true s e) 2 (.tuple []) (WO true s e) 2 := by
  unfold WO WOi WC WB
  refine Fun.of_body tt [] [] (Try.func113) rfl rfl rfl (Nat.le_of_ble_eq_true rfl) fun g => ?_
  repeat' ((first
    | refine then_go hm htt ?_
    | refine Side.go ?_
    | refine Hyp.go fun hlen => ?_
    | refine Split.ct ?_
    | refine Split.cf ?_
    | refine Split.tt ?_
    | refine Split.ff ?_
    | refine Indep.go ?_
    | refine Side.mk ptrB ?_
    | refine Split.go (fun hc => ?_) fun hc => ?_) <;> conv => whnf)
  exact ret_objs rfl rfl rfl (by repeat' first | exact trivial | apply And.intro | rfl | (refine int_eq ?_; rw [wrap64] <;> omega)) (Nat.le_refl _)
theorem copy_ok (u : Bool) (s : ByteArray) (e : Int) : Fun P 113 [.ref 0 0] (WO u s e) 2 (.tuple []) (WO true s e) 2 := by
  cases u
  · exact copyA s e
  · exact copyB s e
set_option maxHeartbeats 4000000 in
set_option maxRecDepth 10000 in
theorem wstr_ok (u : Bool) (s x : ByteArray) (e : Int) (hl : s.size + x.size ≤ maxN) : Fun P 110 [.ref 0 0, .d (.str x)] (WO u s e) 2 (.tuple [.d (.int .i64 x.size), .d .nilI]) (WOi 2 true (s ++ x) e) 3 := by
  have hc := copy_ok u s e
  have hs : (s ++ x).size = s.size + x.size := ByteArray.size_append
  unfold WO WOi WC WB at *
  cases u
  all_goals
   refine Fun.of_body tt [] [4, 5] (Try.func110) rfl rfl rfl (Nat.le_of_ble_eq_true rfl) fun g => ?_
   repeat' ((first
     | refine then_go hm htt ?_
     | refine Side.go ?_
     | refine Hyp.go fun hlen => ?_
     | refine Split.ct ?_
     | refine Split.cf ?_
     | refine Split.tt ?_
     | refine Split.ff ?_
     | refine Indep.go ?_
     | refine CallG.go hc [0, 1] ?_
     | refine Side.mk appS ?_
     | refine Side.mk (show (bytesI s).length = s.size from bytesI_length s) ?_
     | refine Side.mk (show s.size + x.size ≤ maxN from hl) ?_
     | refine Split.go (fun hc => ?_) fun hc => ?_) <;> conv => whnf)
   refine RetS.ent (σ' := ⟨[(4, .d (.int .i64 x.size)), (5, .d .nilI)], 19, [(0, .cellsT (some 57) [.ref 0 0, .row 2 (s ++ x).size, .d (.int .i64 e)]), (2, .row 5 (.ints .u8 (bytesI (s ++ x))))], 3, g⟩) (Ent.re [0, 1, 2] rfl rfl rfl rfl rfl rfl (by repeat' first | exact trivial | apply And.intro | rfl | (refine int_eq ?_; rw [wrap64] <;> omega)) ⟨⟨rfl, by rw [hs]; rfl, rfl⟩, ⟨rfl, by rw [bytesI_app]; rfl, trivial⟩, trivial⟩) ?_
   exact ret_objs rfl rfl rfl (by repeat' first | exact trivial | apply And.intro | rfl | (refine int_eq ?_; rw [wrap64] <;> omega)) (by decide)
set_option maxHeartbeats 4000000 in
set_option maxRecDepth 10000 in
theorem wlen_ok (u : Bool) (s : ByteArray) (e : Int) : Fun P 111 [.ref 0 0] (WO u s e) 2 (.d (.int .i64 s.size)) (WO u s e) 2 := by
  unfold WO WOi WC WB
  cases u
  all_goals
   refine Fun.of_body tt [] [2] (Try.func111) rfl rfl rfl (Nat.le_of_ble_eq_true rfl) fun g => ?_
   repeat' ((first
     | refine then_go hm htt ?_
     | refine Side.go ?_
     | refine Hyp.go fun hlen => ?_
     | refine Split.ct ?_
     | refine Split.cf ?_
     | refine Split.tt ?_
     | refine Split.ff ?_
     | refine Indep.go ?_
     | refine Split.go (fun hc => ?_) fun hc => ?_) <;> conv => whnf)
   exact ret_objs rfl rfl rfl (by repeat' first | exact trivial | apply And.intro | rfl | (refine int_eq ?_; rw [wrap64] <;> omega)) (Nat.le_refl _)
set_option maxHeartbeats 4000000 in
set_option maxRecDepth 10000 in
theorem wtext_ok (u : Bool) (s : ByteArray) (e : Int) (h0 : 0 < s.size) : Fun P 16 [.ref 0 0] (WO u s e) 2 (.d (.str s)) [] 2 := by
  have hb : 0 < (bytesI s).length := by rw [bytesI_length]; exact h0
  have hbl : (s.size : Int) = ((bytesI s).length : Int) := by rw [bytesI_length]
  unfold WO WOi WC WB
  cases u
  all_goals
   refine Fun.of_body tt [] [2] (Try.func16) rfl rfl rfl (Nat.le_of_ble_eq_true rfl) fun g => ?_
   repeat' ((first
     | refine then_go hm htt ?_
     | refine Side.go ?_
     | refine Hyp.go fun hlen => ?_
     | refine Split.ct ?_
     | refine Split.cf ?_
     | refine Split.tt ?_
     | refine Split.ff ?_
     | refine Indep.go ?_
     | refine Side.mk uStr ?_
     | refine Side.mk (show (0 : Nat) = 0 ∧ (s.size : Int) = ((bytesI s).length : Int) ∧ 0 < (bytesI s).length ∧ ∀ z ∈ bytesI s, 0 ≤ z ∧ z < 256 from ⟨rfl, hbl, hb, bytesI_le s⟩) ?_
     | refine Split.go (fun hc => ?_) fun hc => ?_) <;> conv => whnf)
   rw [show ofI (bytesI s) = s from ofI_bytesI s]
   exact ret_objs rfl rfl rfl trivial (Nat.le_refl _)
end Mc
end Go.Proofs.Ytlgajkoplklkiaa
