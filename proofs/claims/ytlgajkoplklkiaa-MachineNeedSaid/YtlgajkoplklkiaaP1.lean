/- What the proof stands on, part 1: what functions of the program compute, and plain facts about it. -/
import Derived.Laws.StructEq
import Derived.MapKept
import Derived.Test.YtlgajkoplklkiaaProg
import Derived.Test.YtlgajkoplklkiaaP0
set_option linter.all false
/- Calls, and the operations of a region one behind the other. -/
namespace Go.Mq
open Go

/-! Calls -/
/-- The functions that have a body. -/
def Bodied (P : Program) (f : FuncId) : Prop := ∃ fn, P.funcs[f]? = some fn ∧ (fn.name == "runtime.NumGoroutine") = false ∧ fn.body.isNone = false

/-- What a call does to the objects that it is handed, and to what else is owned. -/
def CallC (P : Program) (f : FuncId) (args : List AVal) (G : Objs) (N : Nat) (g : Ghost) (r : AVal) (G' : Objs) (N' : Nat) (g' : Ghost) : Prop :=
  ∀ E I ρ w (vs : Array Value), Rel E I ρ (· < N) G g w → All2 I ρ (· < N) args vs.toList →
    Calls P f vs w fun en w' => ∃ I' ρ' v, I.le I' ∧ (∀ id, id < N → ρ' id = ρ id) ∧ en = .returned v ∧ Rel E I' ρ' (· < N') G' g' w' ∧ CA I' ρ' (· < N') r v

def noObjs : Objs := fun _ => none

/-- A call that touches nothing that is owned. -/
def Pure (P : Program) (f : FuncId) (args : List AVal) (r : AVal) : Prop := Bodied P f ∧ ∀ g, CallC P f args noObjs 0 g r noObjs 0 g

def CallE (P : Program) (f : FuncId) (args : List AVal) (X : FS) (e : Eff) : Prop :=
  ∀ E I ρ w (vs : Array Value), Rel E I ρ X.D X.G X.g w → All2 I ρ X.D args vs.toList → (∀ id ∈ e.nw, ¬ X.D id) →
    Calls P f vs w fun en w' => ∃ I' ρ' v, I.le I' ∧ (∀ id, X.D id → ρ' id = ρ id) ∧ en = .returned v ∧ Rel E I' ρ' (fun i => i ∈ e.nw ∨ X.D i) (putG X.G e.u) (e.g.getD X.g) w' ∧ CA I' ρ' (fun i => i ∈ e.nw ∨ X.D i) e.v v

def CallLoc (P : Program) (f : FuncId) (args : List AVal) (F : List Nat) (gu : Bool) (X : FS) (e : Eff) : Prop :=
  ∀ X' : FS, (∀ id ∈ F, X'.G id = X.G id) → (gu = true → X'.g = X.g) → CallE P f args X' e

mutual
def AVal.closed : AVal → Bool
  | .ref _ _ => false
  | .row _ _ => false
  | .mp _ => false
  | .fn _ l => closedL l
  | .agg l => closedL l
  | .tuple l => closedL l
  | .iface _ x => x.closed
  | _ => true
def closedL : List AVal → Bool
  | [] => true
  | x :: l => x.closed && closedL l
end

theorem closedL_get : ∀ {l : List AVal}, closedL l = true → ∀ i (h : i < l.length), (l[i]).closed = true
  | [], _, i, h => by simp at h
  | x :: l, hc, i, h => by
    simp only [closedL, Bool.and_eq_true] at hc
    cases i with
    | zero => exact hc.1
    | succ i => exact closedL_get hc.2 i (by simpa using h)

theorem CA.unbind {I : Imm} {ρ ρ' : Nat → RB} {D D' : Nat → Prop} {x : AVal} {v : Value} (h : CA I ρ D x v) : x.closed = true → CA I ρ' D' x v := by
  induction h with
  | d hd => exact fun _ => .d hd
  | und => exact fun _ => .und
  | any => exact fun _ => .any
  | ref => exact fun h => by simp [AVal.closed] at h
  | row => exact fun h => by simp [AVal.closed] at h
  | row0 => exact fun h => by simp [AVal.closed] at h
  | mp => exact fun h => by simp [AVal.closed] at h
  | fn hl _ ih => exact fun h => .fn hl fun i hi => ih i hi (closedL_get (by simpa [AVal.closed] using h) i hi)
  | agg hl _ ih => exact fun h => .agg hl fun i hi => ih i hi (closedL_get (by simpa [AVal.closed] using h) i hi)
  | tuple hl _ ih => exact fun h => .tuple hl fun i hi => ih i hi (closedL_get (by simpa [AVal.closed] using h) i hi)
  | val => exact fun _ => .val
  | iface _ ih => exact fun h => .iface (ih (by simpa [AVal.closed] using h))

theorem All2.unbind {I : Imm} {ρ ρ' : Nat → RB} {D D' : Nat → Prop} : ∀ {l : List AVal} {vs : List Value}, All2 I ρ D l vs → closedL l = true → All2 I ρ' D' l vs
  | [], [], _, _ => trivial
  | [], _ :: _, h, _ => h.elim
  | _ :: _, [], h, _ => h.elim
  | _ :: _, _ :: _, h, hc => by
    simp only [closedL, Bool.and_eq_true] at hc
    exact ⟨h.1.unbind hc.1, All2.unbind h.2 hc.2⟩

/-- A call by what it does to what is owned alone, in whatever state. -/
theorem CallC.loc {P : Program} {f : FuncId} {args : List AVal} {r : AVal} {X : FS} (h : ∀ g, CallC P f args noObjs 0 g r noObjs 0 g) (hc : closedL args = true) : CallLoc P f args [] false X (one1 r) := by
  intro X' _ _ E I ρ w vs hr ha _
  have h1 : Rel E I ρ (· < 0) noObjs (pack ρ X'.D X'.G X'.g) w := hr.aside
  refine (h _ E I ρ w vs h1 (ha.unbind hc)).mono ?_
  rintro en w' ⟨I', ρ', v, hI, _, he, hr', hv⟩
  refine ⟨I', ρ, v, hI, fun _ _ => rfl, he, ?_, ?_⟩
  · have := hr'.back
    simpa [putG, one1] using this
  · exact hv.mono (Imm.le_refl _) (fun id hid => by simp at hid) (fun id hid => by simp at hid)

theorem pure_loc {P : Program} {f : FuncId} {args : List AVal} {r : AVal} {X : FS} (h : Pure P f args r) (hc : closedL args = true) : CallLoc P f args [] false X (one1 r) := CallC.loc h.2 hc

/-- A call of a function that is known. -/
def CallG (P : Program) (f : FuncId) (args : List AVal) (X : FS) (nx : Nat) (K : List Nat → Bool → Eff → Prop) : Prop :=
  (Bodied P f ∧ ∃ F gu e, EffOK F gu nx e ∧ CallLoc P f args F gu X e ∧ K F gu e) ∨ (ExtSame P f ∧ ∃ x, args = [x] ∧ K [] false (one1 x))

/-- A call of a function of the system that hands back what it is handed. -/
theorem CallG.ext {P : Program} {f : FuncId} {x : AVal} {X : FS} {nx : Nat} {K : List Nat → Bool → Eff → Prop} (h : ExtSame P f) (hk : K [] false (one1 x)) : CallG P f [x] X nx K := .inr ⟨h, x, rfl, hk⟩

/-- A call by a value. -/
def CallK (P : Program) (fo : AVal) (args : List AVal) (X : FS) (nx : Nat) (K : List Nat → Bool → Eff → Prop) : Prop :=
  match fo with
  | .fn f caps => forceL (args ++ caps) fun l => CallG P f l X nx K
  | _ => False

theorem CallG.pure {P : Program} {f : FuncId} {args : List AVal} {X : FS} {nx : Nat} {K : List Nat → Bool → Eff → Prop} {r : AVal} (h : Pure P f args r) (hc : closedL args = true) (hk : K [] false (one1 r)) :
    CallG P f args X nx K := .inl ⟨h.1, [], false, one1 r, .one, pure_loc h hc, hk⟩

theorem fn_inv {I : Imm} {ρ : Nat → RB} {D : Nat → Prop} {f : FuncId} {l : List AVal} {v : Value} (h : CA I ρ D (.fn f l) v) : ∃ cs, v = .func (.func f) #[] cs ∧ CAs I ρ D l cs := by
  cases h with
  | fn hl hc => exact ⟨_, rfl, hl, hc⟩

theorem All2.append {I : Imm} {ρ : Nat → RB} {D : Nat → Prop} : ∀ {a b : List AVal} {u v : List Value}, All2 I ρ D a u → All2 I ρ D b v → All2 I ρ D (a ++ b) (u ++ v)
  | [], _, [], _, _, h => h
  | [], _, _ :: _, _, h, _ => h.elim
  | _ :: _, _, [], _, h, _ => h.elim
  | _ :: _, _, _ :: _, _, h, h2 => ⟨h.1, All2.append h.2 h2⟩

theorem CAs.all2 {I : Imm} {ρ : Nat → RB} {D : Nat → Prop} {l : List AVal} {cs : Array Value} (h : CAs I ρ D l cs) : All2 I ρ D l cs.toList :=
  All2.of l cs.toList (by simpa using h.1) (fun i hi => by simpa using h.2 i hi)

def callOp (fo : Operand) (xs : Array Operand) (ts : Array TypeId) : Op := .call { callee := .value fo, args := xs, argTypes := ts }

theorem run_callFunc {P : Program} {w : World} {f : FuncId} (h : Bodied P f) (args : Array Value) : (callFunc f args).run P w = .ok (.enter f args) w := by
  obtain ⟨fn, h1, h2, h3⟩ := h
  have h2' : fn.name ≠ "runtime.NumGoroutine" := by simpa using h2
  have h3' : fn.body ≠ none := by intro e; rw [e] at h3; simp at h3
  simp [callFunc, h1, h2', h3']

theorem call_L {P : Program} {E : Env} {dst : Option Tmp} {fo : Operand} {xs : Array Operand} {ts : Array TypeId} {T : TypeId} {pos : String} {aft : Array Edge} {gd : Option (Nat × Bool)} {X : FS} {f : FuncId} {caps : List AVal} {F : List Nat} {gu : Bool} {e : Eff}
    (hd : dstOk dst X.n) (hf : evT X.T fo = .fn f caps) (hb : Bodied P f) (h : CallLoc P f (xs.toList.map (evT X.T) ++ caps) F gu X e) : OpL P E ⟨dst, callOp fo xs ts, T, pos, aft, gd⟩ F gu X e := by
  intro X' ⟨hn, hx, hF, hg⟩ I ρ a w hr hfr
  have hfm : fo ∈ (callOp fo xs ts).operands := by simp [callOp, Op.operands, Call.operands]
  have hv := hr.ev fo
  rw [hx fo hfm, hf] at hv
  obtain ⟨cs, e1, hcs⟩ := fn_inv hv
  have hargs : All2 I ρ X'.D (xs.toList.map (evT X.T)) (xs.map a.eval).toList := by
    refine All2.of _ _ (by simp) fun j hj => ?_
    have hj' : j < xs.size := by simpa using hj
    have hm : xs[j] ∈ (callOp fo xs ts).operands := by simp [callOp, Op.operands, Call.operands]
    have := hr.ev xs[j]
    rw [hx _ hm] at this
    simp [hj']
    exact this
  have hcall := h X' hF hg E I ρ w ((xs.map a.eval) ++ cs) hr.rel (by simpa using hargs.append hcs.all2) hfr
  have hrun : (execOp a.eval ⟨dst, callOp fo xs ts, T, pos, aft, gd⟩).run P w = .ok (.enter f ((xs.map a.eval) ++ cs)) w := by
    simp [execOp, callOp, resolve, e1, Deferred.ofValue, invoke, run_callFunc hb]
  unfold Oper.wp
  rw [hrun]
  simp only [Oper.upon]
  refine hcall.mono ?_
  rintro en w' ⟨I', ρ', v, hI, hρ, rfl, hr', hcv⟩
  refine ⟨I', ρ', hI, hr', ?_, ?_, slot_put hr.size (by rw [hn]; exact hd) (fun t => (hr.slot t).mono hI (fun _ => .inr) hρ) hcv, fun id h => .inr (hr.dom id h), fun id h => (hρ id (hr.dom id h)).trans (hr.bas id h)⟩
  · cases dst <;> simp [Act.put, hr.defs]
  · have := hr.size
    cases dst <;> simp [Act.put, FS.app, this]

theorem ext_L {P : Program} {E : Env} {dst : Option Tmp} {fo : Operand} {xs : Array Operand} {ts : Array TypeId} {T : TypeId} {pos : String} {aft : Array Edge} {gd : Option (Nat × Bool)} {X : FS} {f : FuncId} {caps : List AVal} {x : AVal}
    (hd : dstOk dst X.n) (hf : evT X.T fo = .fn f caps) (hb : ExtSame P f) (h : xs.toList.map (evT X.T) ++ caps = [x]) : OpL P E ⟨dst, callOp fo xs ts, T, pos, aft, gd⟩ [] false X (one1 x) := by
  refine read_L hd fun X' hn hx hF I ρ a w hr => ?_
  have hfm : fo ∈ (callOp fo xs ts).operands := by simp [callOp, Op.operands, Call.operands]
  have hv := hr.ev fo
  rw [hx fo hfm, hf] at hv
  obtain ⟨cs, e1, hcs⟩ := fn_inv hv
  have hargs : All2 I ρ X'.D (xs.toList.map (evT X.T)) (xs.map a.eval).toList := by
    refine All2.of _ _ (by simp) fun j hj => ?_
    have hj' : j < xs.size := by simpa using hj
    have hm : xs[j] ∈ (callOp fo xs ts).operands := by simp [callOp, Op.operands, Call.operands]
    have := hr.ev xs[j]
    rw [hx _ hm] at this
    simp [hj']
    exact this
  have hall : All2 I ρ X'.D [x] ((xs.map a.eval) ++ cs).toList := by
    rw [← h]
    simpa using hargs.append hcs.all2
  obtain ⟨v, hv1, hv2⟩ : ∃ v, (xs.map a.eval) ++ cs = #[v] ∧ CA I ρ X'.D x v := by
    generalize hz : (xs.map a.eval) ++ cs = z at hall
    obtain ⟨z⟩ := z
    match z, hall with
    | [v], hall => exact ⟨v, rfl, hall.1⟩
    | [], hall => exact hall.elim
    | _ :: _ :: _, hall => exact hall.2.elim
  obtain ⟨fn, e, q1, q2, q3, q4, q5, q6⟩ := hb.h
  refine ⟨v, ?_, hv2⟩
  have hrun := run_callFunc_extern q1 q2 q3 q4 q5 #[v] w
  rw [q6] at hrun
  simp [execOp, callOp, resolve, e1, Deferred.ofValue, invoke, hv1, hrun]

/-- A method that a type has itself, by value. -/
structure MethOK (P : Program) (t : TypeId) (m : String) (f : FuncId) : Prop where
  row : ∃ i mi, P.info? t = some i ∧ i.methods.find? (·.name == m) = some mi ∧ mi.path = #[] ∧ mi.func = some (f, false)
  und : ∃ d, P.underlying t = some d ∧ (match d with | .pointer _ => False | _ => True)
theorem run_method {P : Program} {t : TypeId} {m : String} {f : FuncId} (h : MethOK P t m f) (v : Value) (w : World) (n : Nat) : (method (n + 1) t v m).run P w = .ok (f, v) w := by
  obtain ⟨i, mi, h1, h2, h3, h4⟩ := h.row
  obtain ⟨d, h5, h6⟩ := h.und
  have hr : ∀ (o : Option String) (w : World), (receiverAt t (.val v) false o).run P w = .ok v w := by
    intro o w
    cases d <;> first | exact h6.elim | simp [receiverAt, underlying, h5, Place.get]
  simp [method, typeInfo, h1, h2, h3, h4, follow, hr]
def InvG (P : Program) (t : TypeId) (m : String) (l : List AVal) (X : FS) (nx : Nat) (K : List Nat → Bool → Eff → Prop) : Prop := ∃ f, MethOK P t m f ∧ Bodied P f ∧ CallG P f l X nx K
theorem InvG.mk {P : Program} {t : TypeId} {m : String} {l : List AVal} {X : FS} {nx : Nat} {K : List Nat → Bool → Eff → Prop} (f : FuncId) (h : MethOK P t m f) (hb : Bodied P f) (hc : CallG P f l X nx K) : InvG P t m l X nx K := ⟨f, h, hb, hc⟩
/-- A call through an interface. -/
def InvV (P : Program) (v : AVal) (m : String) (l : List AVal) (X : FS) (nx : Nat) (K : List Nat → Bool → Eff → Prop) : Prop := ∃ t y, v = .d (.iface t y) ∧ InvG P t m (unD y :: l) X nx K
theorem InvV.mk {P : Program} {v : AVal} {t : TypeId} {y : Data} {m : String} {l : List AVal} {X : FS} {nx : Nat} {K : List Nat → Bool → Eff → Prop} (f : FuncId) (hv : v = .d (.iface t y)) (h : MethOK P t m f) (hb : Bodied P f) (hc : CallG P f (unD y :: l) X nx K) : InvV P v m l X nx K := ⟨t, y, hv, f, h, hb, hc⟩
def invOp (r : Operand) (m : String) (xs : Array Operand) (ts : Array TypeId) : Op := .call { callee := .invoke r m, args := xs, argTypes := ts }
theorem inv_L {P : Program} {E : Env} {dst : Option Tmp} {r : Operand} {m : String} {xs : Array Operand} {ts : Array TypeId} {T : TypeId} {pos : String} {aft : Array Edge} {gd : Option (Nat × Bool)} {X : FS} {t : TypeId} {y : Data} {f : FuncId} {F : List Nat} {gu : Bool} {e : Eff}
    (hd : dstOk dst X.n) (hf : evT X.T r = .d (.iface t y)) (hm : MethOK P t m f) (hb : Bodied P f) (h : CallLoc P f (unD y :: xs.toList.map (evT X.T)) F gu X e) : OpL P E ⟨dst, invOp r m xs ts, T, pos, aft, gd⟩ F gu X e := by
  intro X' ⟨hn, hx, hF, hg⟩ I ρ a w hr hfr
  have hfm : r ∈ (invOp r m xs ts).operands := by simp [invOp, Op.operands, Call.operands]
  have hv := hr.ev r
  rw [hx r hfm, hf] at hv
  obtain ⟨v, e1, hcv0⟩ : ∃ v, a.eval r = .iface t v ∧ Cd I y v := by
    generalize a.eval r = z at hv
    cases hv with | d hv => cases hv; exact ⟨_, rfl, ‹_›⟩
  have hargs : All2 I ρ X'.D (xs.toList.map (evT X.T)) (xs.map a.eval).toList := by
    refine All2.of _ _ (by simp) fun j hj => ?_
    have hj' : j < xs.size := by simpa using hj
    have hm : xs[j] ∈ (invOp r m xs ts).operands := by simp [invOp, Op.operands, Call.operands]
    have := hr.ev xs[j]
    rw [hx _ hm] at this
    simp [hj']
    exact this
  have hall : All2 I ρ X'.D (unD y :: xs.toList.map (evT X.T)) (#[v] ++ xs.map a.eval).toList := by
    simp only [Array.toList_append, List.cons_append, List.nil_append]
    exact ⟨unD_ok hcv0, hargs⟩
  have hcall := h X' hF hg E I ρ w (#[v] ++ xs.map a.eval) hr.rel hall hfr
  have hrun : (execOp a.eval ⟨dst, invOp r m xs ts, T, pos, aft, gd⟩).run P w = .ok (.enter f (#[v] ++ xs.map a.eval)) w := by
    have hme : ∀ w : World, (method (P.types.size + Made.depth) t v m).run P w = .ok (f, v) w := fun w => run_method hm v w (P.types.size + 99)
    have hex : (xs.map a.eval).extract 0 xs.size = xs.map a.eval := by
      apply Array.ext'
      simp
      rw [List.take_of_length_le (by simp)]
    have h0 : (#[Value.iface t v] ++ xs.map a.eval)[0]? = some (.iface t v) := by simp [Array.getElem?_append_left]
    simp [execOp, invOp, resolve, e1, invoke, h0, callMethod, hme, hex, run_callFunc hb]
  unfold Oper.wp
  rw [hrun]
  simp only [Oper.upon]
  refine hcall.mono ?_
  rintro en w' ⟨I', ρ', v, hI, hρ, rfl, hr', hcv⟩
  refine ⟨I', ρ', hI, hr', ?_, ?_, slot_put hr.size (by rw [hn]; exact hd) (fun t => (hr.slot t).mono hI (fun _ => .inr) hρ) hcv, fun id h => .inr (hr.dom id h), fun id h => (hρ id (hr.dom id h)).trans (hr.bas id h)⟩
  · cases dst <;> simp [Act.put, hr.defs]
  · have := hr.size
    cases dst <;> simp [Act.put, FS.app, this]

/-! One operation -/
def convK (P : Program) (tt : List (Nat × TI)) (s d : Nat) (x : Operand) (ev : Operand → AVal) (get : Objs) (nx : Nat) (K : List Nat → Bool → Eff → Prop) : Prop :=
  match ev x with
  | .row _ _ => mem3K tt (.convert s d x) ev get nx (fun F e => K F false e)
  | .ref _ _ => uK P (.convert s d x) ev get nx (fun F e => K F false e)
  | _ => pureK tt (.convert s d x) ev (fun v => K [] false (one1 v))
def appK (P : Program) (tt : List (Nat × TI)) (xs : Array Operand) (ts : Array TypeId) (ev : Operand → AVal) (get : Objs) (nx : Nat) (K : List Nat → Bool → Eff → Prop) : Prop :=
  match xs.toList with
  | [_, y] => (match ev y with
    | .d (.str _) => uK P (.call { callee := .builtin .append, args := xs, argTypes := ts }) ev get nx (fun F e => K F false e)
    | _ => mem2K tt (.call { callee := .builtin .append, args := xs, argTypes := ts }) ev get nx (fun F e => K F false e))
  | _ => False
/-- Structs of a text and a number are held against each other. -/
structure EqSI (P : Program) (t : TypeId) : Prop where
  gd : P.eqGuardType P.depth t = false
  eq : ∀ (a b : ByteArray) (m n : Int) (w : World), (Op.equal t (.agg #[.string a, .int .i64 m]) (.agg #[.string b, .int .i64 n])).run P w = .ok (decide (a = b) && decide (m = n)) w
def aggK (P : Program) (o : BinOp) (t : TypeId) (l : List AVal) (y : AVal) (K : AVal → Prop) : Prop :=
  match l, y with
  | [.d (.str a), .d (.int .i64 m)], .agg [.d (.str b), .d (.int .i64 n)] => Side (EqSI P t) <| match o with
    | .eql => K (.d (.bool (decide (a = b) && decide (m = n))))
    | .neq => K (.d (.bool (!(decide (a = b) && decide (m = n)))))
    | _ => False
  | _, _ => False
theorem two_inv {I : Imm} {ρ : Nat → RB} {D : Nat → Prop} {a : ByteArray} {m : Int} {v : Value} (h : CA I ρ D (.agg [.d (.str a), .d (.int .i64 m)]) v) : v = .agg #[.string a, .int .i64 m] := by
  obtain ⟨cs, rfl, h1, h2⟩ := h.agg_inv
  have a0 := (h2 0 (by simp)).str
  have a1 := (h2 1 (by simp)).int
  congr 1
  apply Array.ext
  · exact h1
  · intro i hi1 hi2
    match i, hi1 with
    | 0, hi => simpa [hi] using a0
    | 1, hi => simpa [hi] using a1
    | i + 2, hi => rw [h1] at hi; simp at hi; omega
theorem agg_L {P : Program} {E : Env} {dst : Option Tmp} {o : BinOp} {t : TypeId} {x y : Operand} {p T : TypeId} {pos : String} {aft : Array Edge} {gd : Option (Nat × Bool)} {X : FS} {a b : ByteArray} {m n : Int} {r : Bool}
    (hd : dstOk dst X.n) (hx : evT X.T x = .agg [.d (.str a), .d (.int .i64 m)]) (hy : evT X.T y = .agg [.d (.str b), .d (.int .i64 n)]) (he : EqSI P t)
    (hr : (o = .eql ∧ r = (decide (a = b) && decide (m = n))) ∨ (o = .neq ∧ r = !(decide (a = b) && decide (m = n)))) : OpL P E ⟨dst, .binOp o t x y p, T, pos, aft, gd⟩ [] false X (one1 (.d (.bool r))) := by
  refine read_L hd fun X' _ hxx hF I ρ act w hr2 => ?_
  have hv := hr2.ev x
  have hu := hr2.ev y
  rw [hxx x (by simp [Op.operands]), hx] at hv
  rw [hxx y (by simp [Op.operands]), hy] at hu
  have e1 := two_inv hv
  have e2 := two_inv hu
  refine ⟨.bool r, ?_, .d .bool⟩
  have hg : (eqGuard o t x y (.agg #[.string a, .int .i64 m]) (.agg #[.string b, .int .i64 n])).run P w = .ok () w := by
    rcases hr with ⟨rfl, _⟩ | ⟨rfl, _⟩ <;> simp [eqGuard, he.gd]
  rcases hr with ⟨rfl, rfl⟩ | ⟨rfl, rfl⟩
  · simp only [execOp, e1, e2, Sem.run_bind, hg, Result.andThen_ok]
    simp [binOp, he.eq]
  · simp only [execOp, e1, e2, Sem.run_bind, hg, Result.andThen_ok]
    simp [binOp, he.eq]
def binG (P : Program) (tt : List (Nat × TI)) (o : BinOp) (t : TypeId) (x y : Operand) (p : TypeId) (ev : Operand → AVal) (get : Objs) (nx : Nat) (K : List Nat → Bool → Eff → Prop) : Prop :=
  match ev x with
  | .ref _ _ => uK P (.binOp o t x y p) ev get nx (fun F e => K F false e)
  | .agg l => aggK P o t l (ev y) (fun v => K [] false (one1 v))
  | _ => iK tt (.binOp o t x y p) ev (fun v => K [] false (one1 v))
def evOp (P : Program) (tt : List (Nat × TI)) (op : Op) (X : FS) (nx : Nat) (K : List Nat → Bool → Eff → Prop) : Prop :=
  match op with
  | .call { callee := .value fo, args := xs, argTypes := _ } => CallK P (evT X.T fo) (xs.toList.map (evT X.T)) X nx K
  | .call { callee := .invoke r m, args := xs, argTypes := _ } => InvV P (evT X.T r) m (xs.toList.map (evT X.T)) X nx K
  | .call { callee := .builtin .append, args := xs, argTypes := ts } => appK P tt xs ts (evT X.T) X.G nx K
  | .call { callee := .builtin .unsafeSliceData, args := xs, argTypes := ts } => uK P (.call { callee := .builtin .unsafeSliceData, args := xs, argTypes := ts }) (evT X.T) X.G nx (fun F e => K F false e)
  | .call { callee := .builtin .unsafeString, args := xs, argTypes := ts } => uK P (.call { callee := .builtin .unsafeString, args := xs, argTypes := ts }) (evT X.T) X.G nx (fun F e => K F false e)
  | .binOp o t x y p => binG P tt o t x y p (evT X.T) X.G nx K
  | .call { callee := .builtin b, args := xs, argTypes := ts } => mem2K tt (.call { callee := .builtin b, args := xs, argTypes := ts }) (evT X.T) X.G nx (fun F e => K F false e)
  | .buildSlice t n ps => mem2K tt (.buildSlice t n ps) (evT X.T) X.G nx (fun F e => K F false e)
  | .load t a => memK tt (.load t a) (evT X.T) X.G nx (fun F e => K F false e)
  | .store t a x => memK tt (.store t a x) (evT X.T) X.G nx (fun F e => K F false e)
  | .alloc t => memK tt (.alloc t) (evT X.T) X.G nx (fun F e => K F false e)
  | .box t x => memK tt (.box t x) (evT X.T) X.G nx (fun F e => K F false e)
  | .build t ps => memK tt (.build t ps) (evT X.T) X.G nx (fun F e => K F false e)
  | .makeSlice t l c => mem3K tt (.makeSlice t l c) (evT X.T) X.G nx (fun F e => K F false e)
  | .makeMap t none => mem3K tt (.makeMap t none) (evT X.T) X.G nx (fun F e => K F false e)
  | .lookup t m k false => mem3K tt (.lookup t m k false) (evT X.T) X.G nx (fun F e => K F false e)
  | .mapUpdate t m k x => mem3K tt (.mapUpdate t m k x) (evT X.T) X.G nx (fun F e => K F false e)
  | .mapEntry t m k => mem3K tt (.mapEntry t m k) (evT X.T) X.G nx (fun F e => K F false e)
  | .entryStore t m n x => mem3K tt (.entryStore t m n x) (evT X.T) X.G nx (fun F e => K F false e)
  | .convert s d x => convK P tt s d x (evT X.T) X.G nx K
  | op => iK tt op (evT X.T) (fun v => K [] false (one1 v))

def RealE (E : Env) (X : FS) : Prop := ∃ I ρ a w, RelT E I ρ X a w

theorem evOp_ok {P : Program} {E : Env} {tt : List (Nat × TI)} (htt : TTok P tt) {dst : Option Tmp} {op : Op} {T : TypeId} {pos : String} {aft : Array Edge} {gd : Option (Nat × Bool)} {X : FS} {nx : Nat}
    {K : List Nat → Bool → Eff → Prop} (hd : dstOk dst X.n) (hreal : RealE E X) (h : evOp P tt op X nx K) : ∃ F gu e, K F gu e ∧ EffOK F gu nx e ∧ OpL P E ⟨dst, op, T, pos, aft, gd⟩ F gu X e := by
  have fromX : ∀ {op : Op}, iK tt op (evT X.T) (fun v => K [] false (one1 v)) → ∃ F gu e, K F gu e ∧ EffOK F gu nx e ∧ OpL P E ⟨dst, op, T, pos, aft, gd⟩ F gu X e := by
    intro op h
    obtain ⟨r, hk, hp⟩ := iK_ok htt h
    exact ⟨[], false, one1 r, hk, .one, pure_L hd hp⟩
  have fromP : ∀ {op : Op}, pureK tt op (evT X.T) (fun v => K [] false (one1 v)) → ∃ F gu e, K F gu e ∧ EffOK F gu nx e ∧ OpL P E ⟨dst, op, T, pos, aft, gd⟩ F gu X e := by
    intro op h
    obtain ⟨r, hk, hp⟩ := pureK_ok htt h
    exact ⟨[], false, one1 r, hk, .one, pure_L hd hp⟩
  have lift : ∀ {op : Op}, (∃ F e, K F false e ∧ EffOK F false nx e ∧ OpL P E ⟨dst, op, T, pos, aft, gd⟩ F false X e) → ∃ F gu e, K F gu e ∧ EffOK F gu nx e ∧ OpL P E ⟨dst, op, T, pos, aft, gd⟩ F gu X e := by
    intro op ⟨F, e, h⟩
    exact ⟨F, false, e, h⟩
  have hR : Real X := by obtain ⟨I, ρ, a, w, h⟩ := hreal; exact ⟨E, I, ρ, a, w, h⟩
  unfold evOp at h
  split at h
  · rename_i fo xs ts
    unfold CallK at h
    split at h
    · rename_i f caps hf
      rw [forceL_eq] at h
      rcases h with ⟨hb, F, gu, e, h1, h2, h3⟩ | ⟨hb, x, h1, h2⟩
      · exact ⟨F, gu, e, h3, h1, call_L hd hf hb h2⟩
      · exact ⟨[], false, one1 x, h2, .one, ext_L hd hf hb h1⟩
    · exact h.elim
  · rename_i r m xs ts
    obtain ⟨t, y, hy, f, hm, hb, h⟩ := h
    unfold CallG at h
    rcases h with ⟨_, F, gu, e, h1, h2, h3⟩ | ⟨hx, _⟩
    · exact ⟨F, gu, e, h3, h1, inv_L hd hy hm hb h2⟩
    · obtain ⟨fn, h1, _, h2⟩ := hb
      obtain ⟨fn', _, h3, _, h4, _⟩ := hx.h
      rw [h1] at h3
      cases h3
      rw [h2] at h4
      cases h4
  · rename_i xs ts
    unfold appK at h
    split at h
    · split at h
      · exact lift (uapp_ok hd h)
      · exact lift (append_ok htt hd h)
    · exact h.elim
  · exact lift (udata_ok hd h)
  · exact lift (ustr_ok hd h)
  · rename_i o t x y p
    unfold binG at h
    split at h
    · exact lift (ubin_ok hd h)
    · rename_i l hx
      unfold aggK at h
      split at h
      · rename_i a m b n hl hy
        obtain ⟨he, h⟩ := h
        split at h
        · exact ⟨[], false, _, h, .one, agg_L hd (by assumption) (by assumption) he (.inl ⟨rfl, rfl⟩)⟩
        · exact ⟨[], false, _, h, .one, agg_L hd (by assumption) (by assumption) he (.inr ⟨rfl, rfl⟩)⟩
        · exact h.elim
      · exact h.elim
    · exact fromX h
  · rename_i b xs ts _ _ _
    cases b <;> first
      | exact lift (len_ok htt hd hR h)
      | exact lift (min_ok hd h)
      | exact lift (max_ok hd h)
      | exact lift (append_ok htt hd h)
      | exact h.elim
  · exact lift (buildSlice_ok htt hd h)
  · exact lift (load_ok htt hd h)
  · exact lift (store_ok htt hd h)
  · exact lift (alloc_ok htt hd h)
  · exact lift (box_ok hd h)
  · exact lift (build_ok htt hd h)
  · exact lift (makeSlice_ok htt hd h)
  · exact lift (makeMap_ok hd h)
  · exact lift (lookup_ok htt hd h)
  · exact lift (mapUpdate_ok htt hd h)
  · exact lift (mapEntry_ok htt hd h)
  · exact lift (entryStore_ok hd h)
  · unfold convK at h
    split at h
    · exact lift (convB_ok htt hd h)
    · exact lift (uconv_ok hd h)
    · exact fromP h
  · exact fromX h

theorem CallG.mk {P : Program} {f : FuncId} {args : List AVal} {X : FS} {nx : Nat} {K : List Nat → Bool → Eff → Prop} (h : Bodied P f ∧ ∃ F gu e, EffOK F gu nx e ∧ CallLoc P f args F gu X e ∧ K F gu e) : CallG P f args X nx K := .inl h
attribute [irreducible] CallG InvV
end Go.Mq

/- A region's operations, one behind the other and in whatever order. -/
namespace Go.Mq
open Go

def slotOf (ops : List Oper) (j : Nat) : Option Tmp := (ops[j]?).bind (·.dst)

/-- Is the operation carried out in this state? -/
def Wants (ops : List Oper) (o : Oper) (X : FS) : Prop := match o.guard with
  | none => True
  | some (j, b) => ∃ d, slotOf ops j = some d ∧ X.T d = .d (.bool b)
def Skips (ops : List Oper) (o : Oper) (X : FS) : Prop := match o.guard with
  | none => False
  | some (j, b) => ∃ d, slotOf ops j = some d ∧ (X.T d = .d (.bool (!b)) ∨ X.T d = .und)

theorem getD_some {a : Array Value} {d : Nat} {v : Value} (h : a.getD d undef = v) (hv : v ≠ undef) : a[d]? = some v := by
  by_cases hd : d < a.size
  · simp [hd] at h ⊢; exact h
  · simp [hd] at h; exact absurd h.symm hv

theorem wants_ok {E : Env} {I : Imm} {ρ : Nat → RB} {X : FS} {a : Act} {w : World} {ops : List Oper} {o : Oper} (h : RelT E I ρ X a w) (hw : Wants ops o X) : Region.wanted o (yielded ops.toArray a.tmps) = true := by
  unfold Wants at hw
  unfold Region.wanted
  cases hg : o.guard with
  | none => rfl
  | some p =>
    obtain ⟨j, b⟩ := p
    rw [hg] at hw
    obtain ⟨d, h1, h2⟩ := hw
    have hs := h.slot d
    rw [h2] at hs
    have hs := getD_some hs.bool (by simp [undef])
    have : yielded ops.toArray a.tmps j = some b := by
      unfold yielded
      have e : ((ops.toArray[j]?).bind (·.dst)).bind (a.tmps[·]?) = some (.bool b) := by
        have : (ops.toArray[j]?).bind (·.dst) = some d := by simpa [slotOf] using h1
        rw [this]; exact hs
      rw [e]
    simp [this]

theorem skips_ok {E : Env} {I : Imm} {ρ : Nat → RB} {X : FS} {a : Act} {w : World} {ops : List Oper} {o : Oper} (h : RelT E I ρ X a w) (hw : Skips ops o X) : Region.wanted o (yielded ops.toArray a.tmps) = false := by
  unfold Skips at hw
  unfold Region.wanted
  cases hg : o.guard with
  | none => rw [hg] at hw; exact hw.elim
  | some p =>
    obtain ⟨j, b⟩ := p
    rw [hg] at hw
    obtain ⟨d, h1, h2⟩ := hw
    have hs := h.slot d
    have hd : (ops.toArray[j]?).bind (·.dst) = some d := by simpa [slotOf] using h1
    rcases h2 with h2 | h2
    · rw [h2] at hs
      have hs := getD_some hs.bool (by simp [undef])
      have : yielded ops.toArray a.tmps j = some (!b) := by
        unfold yielded
        rw [hd]; simp only [Option.bind_some, hs]
      simp [this]
    · rw [h2] at hs
      have : yielded ops.toArray a.tmps j = none := by
        unfold yielded
        rw [hd]; simp only [Option.bind_some]
        generalize hu : a.tmps.getD d undef = u at hs
        cases hs
        cases ht : a.tmps[d]? with
        | none => rfl
        | some v =>
          have : v = undef := by
            have := hu
            rw [Array.getD_eq_getD_getElem?, ht] at this
            simpa using this
          rw [this]; rfl
      simp [this]

def skipE : Eff := ⟨.und, [], [], none⟩

/-- The effects of a region's operations, in the order of the text. -/
inductive Chain (P : Program) (E : Env) (all : List Oper) : List Oper → Nat → FS → List (List Nat × Bool × Eff) → FS → Prop
  | nil {nx : Nat} {X : FS} : Chain P E all [] nx X [] X
  | run {o : Oper} {rest : List Oper} {nx : Nat} {X Y : FS} {F : List Nat} {gu : Bool} {e : Eff} {es : List (List Nat × Bool × Eff)} (hw : Wants all o X) (he : EffOK F gu nx e) (hL : OpL P E o F gu X e)
      (hr : Chain P E all rest (nx + e.nw.length) (X.app o.dst e) es Y) : Chain P E all (o :: rest) nx X ((F, gu, e) :: es) Y
  | skip {o : Oper} {rest : List Oper} {nx : Nat} {X Y : FS} {es : List (List Nat × Bool × Eff)} (hw : Skips all o X) (hd : dstOk o.dst X.n)
      (hr : Chain P E all rest nx (X.app o.dst skipE) es Y) : Chain P E all (o :: rest) nx X (([], false, skipE) :: es) Y

theorem app_skip {X : FS} {dst : Option Tmp} : (X.app dst skipE).D = X.D ∧ (X.app dst skipE).G = X.G ∧ (X.app dst skipE).g = X.g ∧ (X.app dst skipE).n = X.n := by
  refine ⟨?_, rfl, rfl, rfl⟩
  funext i; simp [FS.app, skipE]

theorem relT_skip {E : Env} {I : Imm} {ρ : Nat → RB} {X : FS} {a : Act} {w : World} {dst : Option Tmp} (h : RelT E I ρ X a w) (hd : dstOk dst X.n) : RelT E I ρ (X.app dst skipE) (a.put dst undef) w := by
  obtain ⟨h1, h2, h3, h4⟩ := app_skip (X := X) (dst := dst)
  refine ⟨?_, ?_, ?_, ?_, by rw [h1]; exact h.dom, h.bas⟩
  · rw [h1, h2, h3]; exact h.rel
  · cases dst <;> simp [Act.put, h.defs]
  · have := h.size; cases dst <;> simp [Act.put, h4, this]
  · rw [h1]; exact slot_put h.size hd h.slot .und

theorem Oper.wp_post {P : Program} {o : Oper} {a : Act} {w : World} {K K' : Act → World → Prop} {Q : Exit → Act → World → Prop} (h : o.wp P a w K (fun _ _ _ => False)) (hk : ∀ a w, K a w → K' a w) : o.wp P a w K' Q := by
  unfold Oper.wp at *
  generalize (execOp a.eval o).run P w = r at *
  cases r with
  | ok n w' =>
    cases n <;> simp only [Oper.upon] at h ⊢ <;>
      first
        | exact hk _ _ h
        | exact Calls.mono h (fun e w'' he => by cases e <;> first | exact hk _ _ he | exact he.elim | (obtain ⟨_, _, hf⟩ := he; exact hf.elim))
        | exact Rows.mono h (fun _ _ he => hk _ _ he)
  | halt x w' => cases x <;> simp only [Oper.upon] at h

theorem chain_seq {P : Program} {E : Env} {all : List Oper} {Q : Exit → Act → World → Prop} {Y : FS} {I0 : Imm} (hQ : ∀ I ρ a w, I0.le I → RelT E I ρ Y a w → Q .normal a w) :
    ∀ {l : List Oper} {nx : Nat} {X : FS} {es : List (List Nat × Bool × Eff)}, Chain P E all l nx X es Y → (∀ id, X.D id ↔ id < nx) → ∀ (k : Nat), all.drop k = l → ∀ I ρ a w, I0.le I → RelT E I ρ X a w → wpOps P all.toArray Q (List.range' k l.length) a w := by
  intro l nx X es hc
  induction hc with
  | nil => intro _ k _ I ρ a w hI0 h; exact hQ I ρ a w hI0 h
  | @run o rest nx X Y F gu e es hw he hL hr ih =>
    intro hD k hk I ρ a w hI0 h
    have hko : all[k]? = some o := by
      have := congrArg (·[0]?) hk
      simpa using this
    have hk' : all.drop (k + 1) = rest := by
      have := congrArg List.tail hk
      simpa using this
    simp only [List.length_cons, List.range'_succ, wpOps]
    have : all.toArray[k]? = some o := by simpa using hko
    rw [this]
    simp only [wants_ok h hw, if_true]
    left
    have hE := hL X ⟨rfl, fun _ _ => rfl, fun _ _ => rfl, fun _ => rfl⟩
    have hfr : ∀ id ∈ e.nw, ¬ X.D id := fun id hid hd => by
      have := (he.nw id).1 hid
      have := (hD id).1 hd
      omega
    refine Oper.wp_post (hE I ρ a w h hfr) ?_
    rintro a' w' ⟨I', ρ', hle, hr'⟩
    refine ih hQ ?_ (k + 1) hk' I' ρ' a' w' (Imm.le_trans hI0 hle) hr'
    intro id
    show id ∈ e.nw ∨ X.D id ↔ _
    rw [he.nw, hD]; omega
  | @skip o rest nx X Y es hw hd hr ih =>
    intro hD k hk I ρ a w hI0 h
    have hko : all[k]? = some o := by
      have := congrArg (·[0]?) hk
      simpa using this
    have hk' : all.drop (k + 1) = rest := by
      have := congrArg List.tail hk
      simpa using this
    simp only [List.length_cons, List.range'_succ, wpOps]
    have : all.toArray[k]? = some o := by simpa using hko
    rw [this]
    simp only [skips_ok h hw, Bool.false_eq_true, if_false]
    refine ih hQ ?_ (k + 1) hk' I ρ _ w hI0 (relT_skip h hd)
    intro id
    rw [app_skip.1, hD]

end Go.Mq

/- The operations of a region that draws its order. -/
namespace Go.Mq
open Go

/-! What stands somewhere after some writes -/
def val {α : Type} (init : α) (w : Nat → Option α) (S : Nat → Bool) : Nat → α
  | 0 => init
  | n + 1 => if S n then (w n).getD (val init w S n) else val init w S n

theorem val_congr {α : Type} {init : α} {w : Nat → Option α} {S S' : Nat → Bool} : ∀ {n : Nat}, (∀ k, k < n → w k ≠ none → S k = S' k) → val init w S n = val init w S' n
  | 0, _ => rfl
  | n + 1, h => by
    have ih := val_congr (init := init) (n := n) fun k hk => h k (by omega)
    simp only [val, ih]
    cases hw : w n with
    | none => simp
    | some v => rw [h n (by omega) (by rw [hw]; simp)]

def addB (S : Nat → Bool) (i : Nat) : Nat → Bool := fun k => Nat.beq k i || S k

theorem beq_ne {a b : Nat} (h : a ≠ b) : Nat.beq a b = false := by
  cases hb : Nat.beq a b with
  | false => rfl
  | true => exact absurd (Nat.eq_of_beq_eq_true hb) h
theorem beq_self (a : Nat) : Nat.beq a a = true := by induction a with
  | zero => rfl
  | succ n ih => exact ih

theorem val_add {α : Type} {init : α} {w : Nat → Option α} {S : Nat → Bool} {i : Nat} : ∀ {n : Nat}, i < n → S i = false → (∀ k, k < n → k ≠ i → w k ≠ none → w i ≠ none → S k = true → k < i) → val init w (addB S i) n = (w i).getD (val init w S n)
  | 0, hi, _, _ => by omega
  | n + 1, hi, hS, h => by
    by_cases e : i = n
    · subst e
      have h1 : addB S i i = true := by simp [addB]
      have h2 : val init w (addB S i) i = val init w S i := val_congr fun k hk _ => by
        have : Nat.beq k i = false := beq_ne (by omega)
        simp [addB, this]
      simp only [val, h1, if_true, hS, Bool.false_eq_true, if_false, h2]
    · have hlt : i < n := by omega
      have h1 : addB S i n = S n := by
        have : Nat.beq n i = false := beq_ne (by omega)
        simp [addB, this]
      have ih := val_add (init := init) hlt hS fun k hk => h k (by omega)
      simp only [val, h1, ih]
      cases hw : w n with
      | none => simp
      | some v =>
        cases hwi : w i with
        | none => simp
        | some u =>
          have : S n ≠ true := fun hs => by
            have := h n (by omega) (by omega) (by rw [hw]; simp) (by rw [hwi]; simp) hs
            omega
          simp [this]

/-! Who waits for whom -/
def ancOne (acc : List Nat) (o : Oper) : Nat := o.after.toList.foldl (fun m e => bif Region.binds .any e then m ||| 2 ^ e.on ||| acc.getD e.on 0 else m) 0
def ancs : List Oper → List Nat → List Nat
  | [], acc => acc
  | o :: r, acc => ancs r (acc ++ [ancOne acc o])

def Deps (S : Nat → Bool) (o : Oper) : Prop := ∀ e ∈ o.after, Region.binds .any e = true → S e.on = true
def Closed (ops : List Oper) (S : Nat → Bool) : Prop := ∀ i o, ops[i]? = some o → S i = true → Deps S o

theorem testBit_foldl {acc : List Nat} {k : Nat} : ∀ (l : List Edge) (m : Nat), (l.foldl (fun m e => bif Region.binds .any e then m ||| 2 ^ e.on ||| acc.getD e.on 0 else m) m).testBit k = true →
    m.testBit k = true ∨ ∃ e ∈ l, Region.binds .any e = true ∧ (k = e.on ∨ (acc.getD e.on 0).testBit k = true)
  | [], m, h => .inl h
  | e :: l, m, h => by
    simp only [List.foldl_cons] at h
    rcases testBit_foldl l _ h with h | ⟨e', h1, h2, h3⟩
    · cases hb : Region.binds .any e with
      | false => rw [hb] at h; exact .inl h
      | true =>
        rw [hb] at h
        simp only [cond_true, Nat.testBit_or, Bool.or_eq_true, Nat.testBit_two_pow, decide_eq_true_eq] at h
        rcases h with (h | h) | h
        · exact .inl h
        · exact .inr ⟨e, by simp, hb, .inl h.symm⟩
        · exact .inr ⟨e, by simp, hb, .inr h⟩
    · exact .inr ⟨e', by simp [h1], h2, h3⟩

/-- Each bit of an operation's mask stands for one that comes ahead of it. -/
def AncOK (ops : List Oper) (acc : List Nat) : Prop := ∀ i k, (acc.getD i 0).testBit k = true → ∃ o, ops[i]? = some o ∧ ∃ e ∈ o.after, Region.binds .any e = true ∧ (k = e.on ∨ (e.on < i ∧ (acc.getD e.on 0).testBit k = true))

theorem ancs_ok {ops : List Oper} : ∀ (l : List Oper) (acc : List Nat), ops.drop acc.length = l → AncOK ops acc → AncOK ops (ancs l acc)
  | [], acc, _, h => h
  | o :: l, acc, hd, h => by
    have ho : ops[acc.length]? = some o := by
      have := congrArg (·[0]?) hd
      simpa using this
    have hd' : ops.drop (acc ++ [ancOne acc o]).length = l := by
      have := congrArg List.tail hd
      simpa using this
    refine ancs_ok l _ hd' fun i k hk => ?_
    by_cases hi : i < acc.length
    · have e1 : (acc ++ [ancOne acc o]).getD i 0 = acc.getD i 0 := by simp [List.getElem?_append_left hi]
      rw [e1] at hk
      obtain ⟨o', h1, e, h2, h3, h4⟩ := h i k hk
      refine ⟨o', h1, e, h2, h3, ?_⟩
      rcases h4 with h4 | ⟨h4, h5⟩
      · exact .inl h4
      · refine .inr ⟨h4, ?_⟩
        have : (acc ++ [ancOne acc o]).getD e.on 0 = acc.getD e.on 0 := by simp [List.getElem?_append_left (show e.on < acc.length by omega)]
        rw [this]; exact h5
    · by_cases hi2 : i = acc.length
      · subst hi2
        have e1 : (acc ++ [ancOne acc o]).getD acc.length 0 = ancOne acc o := by simp
        rw [e1] at hk
        rcases testBit_foldl _ _ hk with h0 | ⟨e, h1, h2, h3⟩
        · simp at h0
        · refine ⟨o, ho, e, by simpa using h1, h2, ?_⟩
          rcases h3 with h3 | h3
          · exact .inl h3
          · have hlt : e.on < acc.length := by
              rcases Nat.lt_or_ge e.on acc.length with h' | h'
              · exact h'
              · simp [List.getElem?_eq_none h'] at h3
            refine .inr ⟨hlt, ?_⟩
            have : (acc ++ [ancOne acc o]).getD e.on 0 = acc.getD e.on 0 := by simp [List.getElem?_append_left hlt]
            rw [this]; exact h3
      · have e1 : (acc ++ [ancOne acc o]).getD i 0 = 0 := by
          have : (acc ++ [ancOne acc o]).length ≤ i := by simp; omega
          simp [List.getElem?_eq_none this]
        rw [e1] at hk; simp at hk

theorem anc_in {ops : List Oper} {acc : List Nat} (h : AncOK ops acc) {S : Nat → Bool} (hc : Closed ops S) : ∀ (i : Nat) (o : Oper), ops[i]? = some o → Deps S o → ∀ k, (acc.getD i 0).testBit k = true → S k = true := by
  intro i
  induction i using Nat.strongRecOn with
  | _ i ih =>
    intro o ho hd k hk
    obtain ⟨o', h1, e, h2, h3, h4⟩ := h i k hk
    rw [ho] at h1; cases h1
    have he := hd e h2 h3
    rcases h4 with rfl | ⟨h4, h5⟩
    · exact he
    · obtain ⟨o2, ho2, _⟩ := h e.on k h5
      exact ih e.on h4 o2 ho2 (hc e.on o2 ho2 he) k h5

/-- All edges lead back. -/
def backB (ops : List Oper) : Bool := (List.range ops.length).all fun i => (ops.getD i default).after.all fun e => !Region.binds .any e || Nat.blt e.on i

theorem anc_lt {ops : List Oper} {acc : List Nat} (h : AncOK ops acc) (hb : backB ops = true) : ∀ (i : Nat) k, (acc.getD i 0).testBit k = true → k < i := by
  intro i
  induction i using Nat.strongRecOn with
  | _ i ih =>
    intro k hk
    obtain ⟨o, h1, e, h2, h3, h4⟩ := h i k hk
    have hi : i < ops.length := (List.getElem?_eq_some_iff.1 h1).1
    have he : e.on < i := by
      unfold backB at hb
      rw [List.all_eq_true] at hb
      have := hb i (by simpa using hi)
      have e1 : ops.getD i default = o := by rw [List.getD_eq_getElem?_getD, h1]; rfl
      rw [e1, Array.all_eq_true_iff_forall_mem] at this
      have := this e h2
      rw [h3] at this
      simpa [Nat.blt_eq] using this
    rcases h4 with rfl | ⟨h4, h5⟩
    · exact he
    · have := ih e.on he k h5; omega

end Go.Mq

/- Whatever order the tape draws, a region comes to the same. -/
namespace Go.Mq
open Go

abbrev Es := List (List Nat × Bool × Eff)
def effOf (es : Es) (k : Nat) : Eff := (es.getD k ([], false, skipE)).2.2

def gW : List (Nat × Option AObj) → Nat → Option (Option AObj)
  | [], _ => none
  | (i, o) :: r, id => match gW r id with
    | some x => some x
    | none => if id = i then some o else none

theorem putG_eq : ∀ (u : List (Nat × Option AObj)) (G : Objs) (id : Nat), putG G u id = (gW u id).getD (G id)
  | [], _, _ => rfl
  | (i, o) :: r, G, id => by
    simp only [putG, gW]
    rw [putG_eq r]
    cases gW r id with
    | some x => rfl
    | none => by_cases h : id = i <;> simp [h]

def wT (all : List Oper) (es : Es) (t k : Nat) : Option AVal := if slotOf all k = some t then some (effOf es k).v else none
def wG (es : Es) (id k : Nat) : Option (Option AObj) := gW (effOf es k).u id
def wg (es : Es) (k : Nat) : Option Ghost := (effOf es k).g

def XS (all : List Oper) (es : Es) (X0 : FS) (S : Nat → Bool) : FS :=
  { n := X0.n, T := fun t => val (X0.T t) (wT all es t) S all.length, G := fun id => val (X0.G id) (wG es id) S all.length,
    D := fun id => X0.D id ∨ ∃ k, k < all.length ∧ S k = true ∧ id ∈ (effOf es k).nw, g := val X0.g (wg es) S all.length }

def upto (k : Nat) : Nat → Bool := fun j => Nat.blt j k
theorem upto_iff {k j : Nat} : upto k j = true ↔ j < k := by simp [upto, Nat.blt_eq]
theorem upto_false {k j : Nat} : upto k j = false ↔ ¬ j < k := by
  rw [← upto_iff]; cases upto k j <;> simp

theorem addB_upto (k : Nat) : addB (upto k) k = upto (k + 1) := by
  funext j
  cases h : upto (k + 1) j with
  | true =>
    have := upto_iff.1 h
    by_cases e : j = k
    · subst e; simp [addB]
    · have : upto k j = true := upto_iff.2 (by omega)
      simp [addB, this]
  | false =>
    have := upto_false.1 h
    have h1 : upto k j = false := upto_false.2 (by omega)
    simp [addB, h1, beq_ne (show j ≠ k by omega)]

theorem FS.ext {X Y : FS} (h1 : X.n = Y.n) (h2 : X.T = Y.T) (h3 : X.G = Y.G) (h4 : X.D = Y.D) (h5 : X.g = Y.g) : X = Y := by
  cases X; cases Y; simp_all

/-- One more operation has been carried out. -/
theorem XS_add {all : List Oper} {es : Es} {X0 : FS} {S : Nat → Bool} {i : Nat} {o : Oper} (ho : all[i]? = some o) (hS : S i = false)
    (hT : ∀ t k, k < all.length → k ≠ i → slotOf all k = some t → slotOf all i = some t → S k = true → k < i)
    (hG : ∀ id k, k < all.length → k ≠ i → wG es id k ≠ none → wG es id i ≠ none → S k = true → k < i)
    (hg : ∀ k, k < all.length → k ≠ i → wg es k ≠ none → wg es i ≠ none → S k = true → k < i) :
    (XS all es X0 S).app o.dst (effOf es i) = XS all es X0 (addB S i) := by
  have hi : i < all.length := (List.getElem?_eq_some_iff.1 ho).1
  have hslot : slotOf all i = o.dst := by simp [slotOf, ho]
  refine FS.ext rfl ?_ ?_ ?_ ?_
  · funext t
    show putT _ o.dst _ t = val (X0.T t) (wT all es t) (addB S i) all.length
    rw [val_add hi hS ?_]
    · show _ = (if slotOf all i = some t then some (effOf es i).v else none).getD _
      rw [hslot]
      cases hd : o.dst with
      | none => simp [putT, XS]
      | some d =>
        by_cases e : t = d
        · subst e; simp [putT]
        · simp [putT, e, Ne.symm e, XS]
    · intro k hk hne h1 h2 h3
      have e1 : slotOf all k = some t := by unfold wT at h1; split at h1 <;> first | assumption | exact absurd rfl h1
      have e2 : slotOf all i = some t := by unfold wT at h2; split at h2 <;> first | assumption | exact absurd rfl h2
      exact hT t k hk hne e1 e2 h3
  · funext id
    show putG _ _ id = val (X0.G id) (wG es id) (addB S i) all.length
    rw [val_add hi hS (fun k hk hne h1 h2 h3 => hG id k hk hne h1 h2 h3), putG_eq]
    rfl
  · funext id
    apply propext
    show (id ∈ (effOf es i).nw ∨ (X0.D id ∨ _)) ↔ _
    constructor
    · rintro (h | h | ⟨k, h1, h2, h3⟩)
      · exact .inr ⟨i, hi, by simp [addB], h⟩
      · exact .inl h
      · exact .inr ⟨k, h1, by simp [addB, h2], h3⟩
    · rintro (h | ⟨k, h1, h2, h3⟩)
      · exact .inr (.inl h)
      · by_cases e : k = i
        · subst e; exact .inl h3
        · have : S k = true := by simpa [addB, beq_ne e] using h2
          exact .inr (.inr ⟨k, h1, this, h3⟩)
  · show (effOf es i).g.getD _ = val X0.g (wg es) (addB S i) all.length
    rw [val_add hi hS (fun k hk hne h1 h2 h3 => hg k hk hne h1 h2 h3)]
    rfl

/-- What each operation does in the order of the text. -/
def Fact (P : Program) (E : Env) (all : List Oper) (es : Es) (X0 : FS) (N : Nat → Nat) (k : Nat) : Prop :=
  ∃ o F gu, all[k]? = some o ∧ es[k]? = some (F, gu, effOf es k) ∧ (∀ id, id ∈ (effOf es k).nw ↔ N k ≤ id ∧ id < N (k + 1)) ∧ N k ≤ N (k + 1) ∧
    ((Wants all o (XS all es X0 (upto k)) ∧ (∀ p ∈ (effOf es k).u, p.1 ∈ F ∨ p.1 ∈ (effOf es k).nw) ∧ OpL P E o F gu (XS all es X0 (upto k)) (effOf es k)) ∨
     (Skips all o (XS all es X0 (upto k)) ∧ dstOk o.dst X0.n ∧ effOf es k = skipE))

def sumN (es : Es) (n0 : Nat) : Nat → Nat
  | 0 => n0
  | k + 1 => sumN es n0 k + (effOf es k).nw.length

theorem XS_zero {all : List Oper} {es : Es} {X0 : FS} : XS all es X0 (upto 0) = X0 := by
  have : ∀ {α : Type} (a : α) (w : Nat → Option α) (n : Nat), val a w (upto 0) n = a := by
    intro α a w n
    induction n with
    | zero => rfl
    | succ n ih => simp [val, upto, Nat.blt, ih]
  refine FS.ext rfl (by funext t; exact this _ _ _) (by funext id; exact this _ _ _) ?_ (this _ _ _)
  funext id
  apply propext
  show (X0.D id ∨ _) ↔ _
  constructor
  · rintro (h | ⟨k, _, h, _⟩)
    · exact h
    · have := upto_iff.1 h; omega
  · exact .inl

theorem XS_next {all : List Oper} {es : Es} {X0 : FS} {k : Nat} {o : Oper} (ho : all[k]? = some o) : (XS all es X0 (upto k)).app o.dst (effOf es k) = XS all es X0 (upto (k + 1)) := by
  rw [← addB_upto]
  exact XS_add ho (upto_false.2 (by omega)) (fun _ k' _ _ _ _ h => upto_iff.1 h) (fun _ k' _ _ _ _ h => upto_iff.1 h) (fun k' _ _ _ _ h => upto_iff.1 h)

theorem chain_facts {P : Program} {E : Env} {all : List Oper} {es : Es} {X0 Y : FS} {n0 : Nat} : ∀ {l : List Oper} {nx : Nat} {X : FS} {es' : Es}, Chain P E all l nx X es' Y → ∀ k, all.drop k = l → es.drop k = es' → X = XS all es X0 (upto k) → nx = sumN es n0 k →
    k ≤ all.length → (∀ j, k ≤ j → j < all.length → Fact P E all es X0 (sumN es n0) j) ∧ Y = XS all es X0 (upto all.length) := by
  intro l nx X es' hc
  induction hc with
  | @nil nx X =>
    intro k hk _ hX _ hle
    have : k = all.length := by
      have := congrArg List.length hk
      simp at this; omega
    subst this
    exact ⟨fun j h1 h2 => by omega, hX⟩
  | @run o rest nx X Y F gu e es' hw he hL hr ih =>
    intro k hk hes hX hnx hle
    have hko : all[k]? = some o := by have := congrArg (·[0]?) hk; simpa using this
    have hk' : all.drop (k + 1) = rest := by have := congrArg List.tail hk; simpa using this
    have hek : es[k]? = some (F, gu, e) := by have := congrArg (·[0]?) hes; simpa using this
    have hes' : es.drop (k + 1) = es' := by have := congrArg List.tail hes; simpa using this
    have hef : effOf es k = e := by simp [effOf, hek]
    have hlt : k < all.length := (List.getElem?_eq_some_iff.1 hko).1
    obtain ⟨h1, h2⟩ := ih (k + 1) hk' hes' (by rw [hX, ← XS_next hko, hef]) (by rw [hnx]; simp only [sumN, hef]) (by omega)
    refine ⟨fun j hj hjl => ?_, h2⟩
    by_cases e1 : j = k
    · subst e1
      refine ⟨o, F, gu, hko, by rw [hef]; exact hek, fun id => ?_, by simp only [sumN]; omega, .inl ⟨hX ▸ hw, by rw [hef]; exact he.key, by rw [hef]; exact hX ▸ hL⟩⟩
      rw [hef, he.nw, hnx]; simp only [sumN, hef]
    · exact h1 j (by omega) hjl
  | @skip o rest nx X Y es' hw hd hr ih =>
    intro k hk hes hX hnx hle
    have hko : all[k]? = some o := by have := congrArg (·[0]?) hk; simpa using this
    have hk' : all.drop (k + 1) = rest := by have := congrArg List.tail hk; simpa using this
    have hek : es[k]? = some ([], false, skipE) := by have := congrArg (·[0]?) hes; simpa using this
    have hes' : es.drop (k + 1) = es' := by have := congrArg List.tail hes; simpa using this
    have hef : effOf es k = skipE := by simp [effOf, hek]
    have hlt : k < all.length := (List.getElem?_eq_some_iff.1 hko).1
    obtain ⟨h1, h2⟩ := ih (k + 1) hk' hes' (by rw [hX, ← XS_next hko, hef]) (by rw [hnx]; simp only [sumN, hef]; rfl) (by omega)
    refine ⟨fun j hj hjl => ?_, h2⟩
    by_cases e1 : j = k
    · subst e1
      refine ⟨o, [], false, hko, by rw [hef]; exact hek, fun id => ?_, by simp only [sumN]; omega, .inr ⟨hX ▸ hw, ?_, hef⟩⟩
      · rw [hef]; simp only [sumN, hef]; simp [skipE]
      · have : X.n = X0.n := by rw [hX]; rfl
        rw [← this]; exact hd
    · exact h1 j (by omega) hjl

theorem sumN_mono {es : Es} {n0 : Nat} {i j : Nat} (h : i ≤ j) : sumN es n0 i ≤ sumN es n0 j := by
  induction h with
  | refl => exact Nat.le_refl _
  | step _ ih => simp only [sumN]; omega

/-! What must be in order -/
def footR (p : List Nat × Bool × Eff) : List Nat := (bif p.2.1 then [0] else []) ++ p.1.map (· + 1)
def footW (p : List Nat × Bool × Eff) : List Nat := (bif p.2.2.g.isSome then [0] else []) ++ (p.2.2.u.map (·.1 + 1) ++ p.2.2.nw.map (· + 1))

def conflB (all : List Oper) (fs : List (List Nat × List Nat)) (k i : Nat) : Bool :=
  (match slotOf all k with
   | some d => (Oper.looksAt all.toArray (all.getD i default)).contains d || (all.getD i default).dst == some d
   | none => false) || (fs.getD k ([], [])).2.any fun r => (fs.getD i ([], [])).1.contains r || (fs.getD i ([], [])).2.contains r

def indepB (all : List Oper) (fs : List (List Nat × List Nat)) : Bool :=
  backB all && ((List.range all.length).all fun i => (List.range all.length).all fun k => Nat.beq k i || !conflB all fs k i || ((ancs all []).getD i 0).testBit k || ((ancs all []).getD k 0).testBit i)


theorem conf_slot {all : List Oper} {fs : List (List Nat × List Nat)} {k i d : Nat} {o : Oper} (ho : all[i]? = some o) (hk : slotOf all k = some d) (h : d ∈ Oper.looksAt all.toArray o ∨ o.dst = some d) : conflB all fs k i = true := by
  have e : all.getD i default = o := by rw [List.getD_eq_getElem?_getD, ho]; rfl
  unfold conflB
  rw [hk, e]
  rcases h with h | h
  · simp [h]
  · simp [h]

theorem conf_res {all : List Oper} {fs : List (List Nat × List Nat)} {k i r : Nat} (hk : r ∈ (fs.getD k ([], [])).2) (h : r ∈ (fs.getD i ([], [])).1 ∨ r ∈ (fs.getD i ([], [])).2) : conflB all fs k i = true := by
  unfold conflB
  have : ((fs.getD k ([], [])).2.any fun r => (fs.getD i ([], [])).1.contains r || (fs.getD i ([], [])).2.contains r) = true := by
    rw [List.any_eq_true]
    refine ⟨r, hk, ?_⟩
    rw [Bool.or_eq_true, List.contains_iff_mem, List.contains_iff_mem]
    exact h
  rw [this, Bool.or_true]

theorem gW_mem : ∀ {u : List (Nat × Option AObj)} {id : Nat}, gW u id ≠ none → id ∈ u.map (·.1)
  | [], _, h => absurd rfl h
  | (i, o) :: r, id, h => by
    simp only [gW] at h
    cases hr : gW r id with
    | some x => have := gW_mem (u := r) (id := id) (by rw [hr]; simp); simp only [List.map_cons, List.mem_cons]; exact .inr this
    | none =>
      rw [hr] at h
      by_cases e : id = i
      · simp [e]
      · simp [e] at h

section
variable {P : Program} {E : Env} {all : List Oper} {es : Es} {X0 : FS} {n0 : Nat}

theorem foots_at {k : Nat} {F : List Nat} {gu : Bool} (h : es[k]? = some (F, gu, effOf es k)) : (es.map fun p => (footR p, footW p)).getD k ([], []) = (footR (F, gu, effOf es k), footW (F, gu, effOf es k)) := by
  simp [h]

/-- One operation, out of order. -/
theorem step_any (hf : ∀ j, j < all.length → Fact P E all es X0 (sumN es n0) j) (hD : ∀ id, X0.D id ↔ id < n0) (hi : indepB all (es.map fun p => (footR p, footW p)) = true) {S : Nat → Bool} (hS : Closed all S)
    {i : Nat} {o : Oper} (ho : all[i]? = some o) (hni : S i = false) (hdep : Deps S o) {Q : Exit → Act → World → Prop} {K : Act → World → Prop} {I : Imm} {ρ : Nat → RB} {a : Act} {w : World} (hK : ∀ I' ρ a w, I.le I' → RelT E I' ρ (XS all es X0 (addB S i)) a w → K a w) (hr : RelT E I ρ (XS all es X0 S) a w) :
    wpOp P all.toArray Q i K a w := by
  have hil : i < all.length := (List.getElem?_eq_some_iff.1 ho).1
  obtain ⟨o', F, gu, ho', hei, hnw, _, hcase⟩ := hf i hil
  rw [ho] at ho'; cases ho'
  simp only [indepB, Bool.and_eq_true] at hi
  obtain ⟨hback, hind⟩ := hi
  have hanc : AncOK all (ancs all []) := ancs_ok all [] rfl (fun i k hk => by simp at hk)
  -- what conflicts is in order
  have ord : ∀ k, k < all.length → k ≠ i → conflB all (es.map fun p => (footR p, footW p)) k i = true → (S k = true ∧ k < i) ∨ (S k = false ∧ i < k) := by
    intro k hk hne hc
    rw [List.all_eq_true] at hind
    have h1 := hind i (by simpa using hil)
    rw [List.all_eq_true] at h1
    have h2 := h1 k (by simpa using hk)
    rw [hc, beq_ne hne] at h2
    simp only [Bool.false_or, Bool.not_true, Bool.or_eq_true] at h2
    rcases h2 with h2 | h2
    · exact .inl ⟨anc_in hanc hS i o ho hdep k h2, anc_lt hanc hback i k h2⟩
    · refine .inr ⟨?_, anc_lt hanc hback k i h2⟩
      cases hSk : S k with
      | false => rfl
      | true =>
        obtain ⟨ok, hok, _⟩ := hanc k i h2
        have := anc_in hanc hS k ok hok (hS k ok hok hSk) i h2
        rw [hni] at this; cases this
  have same : ∀ k, k < all.length → (k ≠ i → conflB all (es.map fun p => (footR p, footW p)) k i = true) → upto i k = S k := by
    intro k hk hc
    by_cases e : k = i
    · subst e; rw [hni]; exact upto_false.2 (by omega)
    · rcases ord k hk e (hc e) with ⟨h1, h2⟩ | ⟨h1, h2⟩
      · rw [h1]; exact upto_iff.2 h2
      · rw [h1]; exact upto_false.2 (by omega)
  have before : ∀ k, k < all.length → k ≠ i → conflB all (es.map fun p => (footR p, footW p)) k i = true → S k = true → k < i := by
    intro k hk hne hc hSk
    rcases ord k hk hne hc with ⟨_, h⟩ | ⟨h, _⟩
    · exact h
    · rw [h] at hSk; cases hSk
  have foot : ∀ k, k < all.length → ∃ F' gu', (es.map fun p => (footR p, footW p)).getD k ([], []) = (footR (F', gu', effOf es k), footW (F', gu', effOf es k)) := by
    intro k hk
    obtain ⟨_, F', gu', _, h2, _⟩ := hf k hk
    exact ⟨F', gu', foots_at h2⟩
  have hfi := foots_at hei
  have wrG : ∀ id k, k < all.length → wG es id k ≠ none → id + 1 ∈ ((es.map fun p => (footR p, footW p)).getD k ([], [])).2 := by
    intro id k hk h
    obtain ⟨F', gu', e⟩ := foot k hk
    rw [e]
    have := gW_mem h
    simp only [footW, List.mem_append, List.mem_map]
    refine .inr (.inl ?_)
    obtain ⟨p, h1, h2⟩ := List.mem_map.1 this
    exact ⟨p, h1, by rw [h2]⟩
  have wrg : ∀ k, k < all.length → wg es k ≠ none → 0 ∈ ((es.map fun p => (footR p, footW p)).getD k ([], [])).2 := by
    intro k hk h
    obtain ⟨F', gu', e⟩ := foot k hk
    rw [e]
    have : (effOf es k).g.isSome = true := by
      unfold wg at h
      cases hg : (effOf es k).g with
      | none => exact absurd hg h
      | some _ => rfl
    simp [footW, this]
  -- slots, objects and what else is owned, as in the order of the text
  have slotSame : ∀ t, t ∈ Oper.looksAt all.toArray o → (XS all es X0 (upto i)).T t = (XS all es X0 S).T t := by
    intro t ht
    refine val_congr fun k hk hw => same k hk fun _ => ?_
    have : slotOf all k = some t := by unfold wT at hw; split at hw <;> first | assumption | exact absurd rfl hw
    exact conf_slot ho this (.inl ht)
  have objSame : ∀ id, id ∈ F → (XS all es X0 S).G id = (XS all es X0 (upto i)).G id := by
    intro id hid
    refine (val_congr fun k hk hw => same k hk fun _ => ?_).symm
    refine conf_res (wrG id k hk hw) (.inl ?_)
    rw [hfi]
    simp only [footR, List.mem_append, List.mem_map]
    exact .inr ⟨id, hid, rfl⟩
  have gSame : gu = true → (XS all es X0 S).g = (XS all es X0 (upto i)).g := by
    intro hgu
    refine (val_congr fun k hk hw => same k hk fun _ => ?_).symm
    refine conf_res (wrg k hk hw) (.inl ?_)
    rw [hfi, hgu]
    simp [footR]
  have add : (XS all es X0 S).app o.dst (effOf es i) = XS all es X0 (addB S i) := by
    refine XS_add ho hni (fun t k hk hne h1 h2 => before k hk hne (conf_slot ho h1 (.inr ?_))) (fun id k hk hne h1 h2 => before k hk hne (conf_res (wrG id k hk h1) (.inr (wrG id i hil h2)))) (fun k hk hne h1 h2 => before k hk hne (conf_res (wrg k hk h1) (.inr (wrg i hil h2))))
    simpa [slotOf, ho] using h2
  have guardSame : ∀ j b d, o.guard = some (j, b) → slotOf all j = some d → (XS all es X0 (upto i)).T d = (XS all es X0 S).T d := by
    intro j b d hg hd
    refine slotSame d ?_
    have hd' : (all.toArray[j]?).bind (·.dst) = some d := by simpa [slotOf] using hd
    unfold Oper.looksAt
    rw [hg]
    simp only [hd', Option.toList_some, List.mem_append]
    exact .inr (by simp)
  unfold wpOp
  have : all.toArray[i]? = some o := by simpa using ho
  rw [this]
  rcases hcase with ⟨hw, hkey, hL⟩ | ⟨hw, hd, hskip⟩
  · have hw' : Wants all o (XS all es X0 S) := by
      unfold Wants at hw ⊢
      cases hg : o.guard with
      | none => trivial
      | some p =>
        obtain ⟨j, b⟩ := p
        rw [hg] at hw
        obtain ⟨d, h1, h2⟩ := hw
        exact ⟨d, h1, by rw [← guardSame j b d hg h1]; exact h2⟩
    simp only [wants_ok hr hw', if_true]
    left
    have hE := hL (XS all es X0 S) ⟨rfl, fun x hx => ?_, objSame, gSame⟩
    · have hfr : ∀ id ∈ (effOf es i).nw, ¬ (XS all es X0 S).D id := by
        intro id hid hdd
        have h1 := (hnw id).1 hid
        rcases hdd with h2 | ⟨k, h2, h3, h4⟩
        · have := (hD id).1 h2
          have := sumN_mono (es := es) (n0 := n0) (show 0 ≤ i by omega)
          simp only [sumN] at this; omega
        · obtain ⟨_, _, _, _, _, hnwk, _, _⟩ := hf k h2
          have h5 := (hnwk id).1 h4
          by_cases e : k = i
          · subst e; rw [hni] at h3; cases h3
          · rcases Nat.lt_or_gt_of_ne e with h6 | h6
            · have := sumN_mono (es := es) (n0 := n0) (show k + 1 ≤ i by omega); omega
            · have := sumN_mono (es := es) (n0 := n0) (show i + 1 ≤ k by omega); omega
      refine Oper.wp_post (hE I ρ a w hr hfr) ?_
      rintro a' w' ⟨I', ρ', hle, hr'⟩
      rw [add] at hr'
      exact hK I' ρ' a' w' hle hr'
    · cases x with
      | tmp t =>
        refine (slotSame t ?_).symm
        unfold Oper.looksAt
        refine List.mem_append_left _ (List.mem_filterMap.2 ⟨.tmp t, by simpa using hx, rfl⟩)
      | _ => rfl
  · have hw' : Skips all o (XS all es X0 S) := by
      unfold Skips at hw ⊢
      cases hg : o.guard with
      | none => rw [hg] at hw; exact hw
      | some p =>
        obtain ⟨j, b⟩ := p
        rw [hg] at hw
        obtain ⟨d, h1, h2⟩ := hw
        exact ⟨d, h1, by rw [← guardSame j b d hg h1]; exact h2⟩
    simp only [skips_ok hr hw', Bool.false_eq_true, if_false]
    have hr' := relT_skip (dst := o.dst) hr hd
    rw [← hskip, add] at hr'
    exact hK I ρ _ w (Imm.le_refl I) hr'

def listedS (listed : Array Bool) : Nat → Bool := fun k => listed.getD k false

theorem listed_add {listed : Array Bool} {i : Nat} (hi : i < listed.size) : listedS (listed.setIfInBounds i true) = addB (listedS listed) i := by
  funext k
  unfold listedS addB
  by_cases e : k = i
  · subst e; simp [hi]
  · simp [beq_ne e, Ne.symm e]

theorem any_order (hf : ∀ j, j < all.length → Fact P E all es X0 (sumN es n0) j) (hD : ∀ id, X0.D id ↔ id < n0) (hi : indepB all (es.map fun p => (footR p, footW p)) = true) {Q : Exit → Act → World → Prop}
    {I0 : Imm} (hQ : ∀ I ρ a w, I0.le I → RelT E I ρ (XS all es X0 (upto all.length)) a w → Q .normal a w) :
    ∀ (fuel : Nat) (listed : Array Bool), listed.size = all.length → Closed all (listedS listed) → (List.range all.length).countP (fun k => !listedS listed k) = fuel → ∀ I ρ a w, I0.le I → RelT E I ρ (XS all es X0 (listedS listed)) a w → wpAny P .any all.toArray Q fuel listed a w := by
  have hback : backB all = true := by simp only [indepB, Bool.and_eq_true] at hi; exact hi.1
  -- while something is left, something may come up
  have ready : ∀ (listed : Array Bool), listed.size = all.length → Closed all (listedS listed) → Region.ready .any all.toArray listed = [] → ∀ k, k < all.length → listedS listed k = true := by
    intro listed hsz hc hr k
    induction k using Nat.strongRecOn with
    | _ k ih =>
      intro hk
      cases hl : listedS listed k with
      | true => rfl
      | false =>
        have hok : all[k]? = some all[k] := List.getElem?_eq_getElem hk
        have : k ∈ Region.ready .any all.toArray listed := by
          rw [mem_ready]
          refine ⟨?_, all[k], by simp [hk], fun e he hb => ?_⟩
          · unfold listedS at hl
            have : k < listed.size := by omega
            simp [this] at hl ⊢; exact hl
          · have hlt : e.on < k := by
              unfold backB at hback
              rw [List.all_eq_true] at hback
              have h1 := hback k (by simpa using hk)
              have e1 : all.getD k default = all[k] := by rw [List.getD_eq_getElem?_getD, hok]; rfl
              rw [e1, Array.all_eq_true_iff_forall_mem] at h1
              have h2 := h1 e he
              rw [hb] at h2
              simpa [Nat.blt_eq] using h2
            exact ih e.on hlt (by omega)
        rw [hr] at this; cases this
  have done : ∀ (listed : Array Bool), listed.size = all.length → (∀ k, k < all.length → listedS listed k = true) → ∀ I ρ a w, I0.le I → RelT E I ρ (XS all es X0 (listedS listed)) a w → Q .normal a w := by
    intro listed hsz hall I ρ a w hI0 hr
    have hS : listedS listed = upto all.length := by
      funext k
      by_cases hk : k < all.length
      · rw [hall k hk, upto_iff.2 hk]
      · rw [upto_false.2 hk]; unfold listedS
        have : ¬ k < listed.size := by omega
        simp [this]
    rw [hS] at hr
    exact hQ I ρ a w hI0 hr
  intro fuel
  induction fuel with
  | zero =>
    intro listed hsz hc hcnt I ρ a w hI0 hr
    have hall : ∀ k, k < all.length → listedS listed k = true := by
      intro k hk
      rw [List.countP_eq_zero] at hcnt
      have := hcnt k (by simpa using hk)
      simpa using this
    refine ⟨?_, done listed hsz hall I ρ a w hI0 hr⟩
    apply List.eq_nil_iff_forall_not_mem.2
    intro k hk
    rw [mem_ready] at hk
    obtain ⟨h1, o, h2, _⟩ := hk
    have hkl : k < all.length := by
      have : all[k]? = some o := by simpa using h2
      exact (List.getElem?_eq_some_iff.1 this).1
    have h3 := hall k hkl
    unfold listedS at h3
    have : k < listed.size := by omega
    simp [this] at h1 h3
    rw [h3] at h1; cases h1
  | succ fuel ih =>
    intro listed hsz hc hcnt I ρ a w hI0 hr
    refine ⟨fun h => done listed hsz (ready listed hsz hc h) I ρ a w hI0 hr, fun i hi' => ?_⟩
    rw [mem_ready] at hi'
    obtain ⟨h1, o, h2, h3⟩ := hi'
    have ho : all[i]? = some o := by simpa using h2
    have hil : i < all.length := (List.getElem?_eq_some_iff.1 ho).1
    have hil2 : i < listed.size := by omega
    have hni : listedS listed i = false := by unfold listedS; simp [hil2] at h1 ⊢; exact h1
    have hdep : Deps (listedS listed) o := fun e he hb => h3 e he hb
    refine step_any hf hD hi hc ho hni hdep (fun I' ρ' a' w' hle hr' => ?_) hr
    · rw [← listed_add hil2] at hr'
      refine ih (listed.setIfInBounds i true) (by simpa using hsz) ?_ ?_ I' ρ' a' w' (Imm.le_trans hI0 hle) hr'
      · rw [listed_add hil2]
        intro k ok hok hk e he hb
        by_cases e1 : k = i
        · subst e1; rw [ho] at hok; cases hok
          have := hdep e he hb
          simp [addB, this]
        · have : listedS listed k = true := by simpa [addB, beq_ne e1] using hk
          have := hc k ok hok this e he hb
          simp [addB, this]
      · rw [listed_add hil2]
        have cnt : ∀ n, i < n → (List.range n).countP (fun k => !listedS listed k) = (List.range n).countP (fun k => !addB (listedS listed) i k) + 1 := by
          intro n hn
          induction n with
          | zero => omega
          | succ n ihn =>
            rw [List.range_succ, List.countP_append, List.countP_append]
            by_cases e : i = n
            · subst e
              have h0 : (List.range i).countP (fun k => !listedS listed k) = (List.range i).countP (fun k => !addB (listedS listed) i k) := by
                apply List.countP_congr
                intro k hk
                have : k ≠ i := by have := List.mem_range.1 hk; omega
                simp [addB, beq_ne this]
              rw [h0]
              simp [hni, addB]
            · have := ihn (by omega)
              rw [this]
              have h5 : addB (listedS listed) i n = listedS listed n := by simp [addB, beq_ne (Ne.symm e)]
              simp only [List.countP_cons, List.countP_nil, h5]
              omega
        have := cnt all.length hil
        omega
end
end Go.Mq

/- What is not written any more; names of objects changed. -/
namespace Go.Mq
open Go

def Imm.put (I : Imm) (b : Nat) (c : Array Value × TypeId × (Nat × Nat)) : Imm := fun i => if i = b then some c else I i
theorem Imm.put_at {I : Imm} {b : Nat} {c : Array Value} {q : TypeId × (Nat × Nat)} : ∃ q', (I.put b (c, q)) b = some (c, q') := ⟨q, if_pos rfl⟩
theorem Imm.put_cell {J : Imm} {b o : Nat} {c : Array Value} (h : ∃ q, J b = some (c, q)) (ho : o < c.size) : J.cell b o = some (c.getD o undef) := by
  obtain ⟨q, h⟩ := h
  unfold Imm.cell; rw [h]; simp [ho]

section
variable {E : Env} {I : Imm} {ρ : Nat → RB} {D : Nat → Prop} {G : Objs} {g : Ghost} {w w' : World}

/-- A new block that is never written. -/
theorem Rel.alloc_imm (h : Rel E I ρ D G g w) (cs : Array Value) (T : TypeId) (fz : Nat × Nat) : I.le (I.put w.heap.size (cs, T, fz)) ∧ Rel E (I.put w.heap.size (cs, T, fz)) ρ D G g (w.alloc (.cells cs T fz)) := by
  obtain ⟨own, h⟩ := h
  have hI : I.le (I.put w.heap.size (cs, T, fz)) := by
    intro b c hb
    obtain ⟨h1, _⟩ := h.imm b c hb
    have := h.lt b (by rw [h1]; intro e; cases e)
    unfold Imm.put
    rw [if_neg (by omega)]; exact hb
  refine ⟨hI, fun b => if b = w.heap.size then .imm else own b, ⟨h.env, ?_, ?_, h.key, ?_, ?_, ?_⟩⟩
  · intro b hb
    rw [World.size_alloc]
    by_cases e : b = w.heap.size
    · omega
    · rw [if_neg e] at hb; have := h.lt b hb; omega
  · intro b c hb
    unfold Imm.put at hb
    by_cases e : b = w.heap.size
    · rw [if_pos e] at hb
      cases hb
      subst e
      exact ⟨if_pos rfl, heap_alloc_new⟩
    · rw [if_neg e] at hb
      obtain ⟨h1, h2⟩ := h.imm b c hb
      have hlt := h.lt b (by rw [h1]; intro e; cases e)
      exact ⟨by rw [if_neg e]; exact h1, by rw [heap_alloc_lt hlt]; exact h2⟩
  · intro i o e
    refine ORel.mono hI (fun _ h => h) (fun _ _ => rfl) (h.key i o e) ?_ (h.obj i o e)
    intro hn
    have := h.lt (ρ i).blk (by rw [h.ownd i o e hn]; intro e; cases e)
    exact heap_alloc_lt this
  · intro i o e hn
    have h1 := h.ownd i o e hn
    have := h.lt (ρ i).blk (by rw [h1]; intro e; cases e)
    rw [if_neg (by omega)]; exact h1
  · have : gheap (fun b => if b = w.heap.size then .imm else own b) (w.alloc (.cells cs T fz)) = gheap own w := by
      funext b
      unfold gheap
      by_cases e : b = w.heap.size
      · simp only [e, if_true]
        cases ho : own w.heap.size with
        | gst => have := h.lt w.heap.size (by rw [ho]; intro e; cases e); omega
        | _ => rfl
      · simp only [e, if_false]
        cases ho : own b with
        | gst => have := h.lt b (by rw [ho]; intro e; cases e); exact heap_alloc_lt this
        | _ => rfl
    rw [this]; exact g.mono _ _ _ hI h.gst

/-- An object that is not written any more. -/
theorem Rel.freeze (h : Rel E I ρ D G g w) {id : Nat} {o : AObj} {cs : Array Value} {T : TypeId} {fz : Nat × Nat} (hg : G id = some o) (hn : (ρ id).isnil = false) (hb : w.heap[(ρ id).blk]? = some (.cells cs T fz)) :
    I.le (I.put (ρ id).blk (cs, T, fz)) ∧ Rel E (I.put (ρ id).blk (cs, T, fz)) ρ D (fun i => if i = id then none else G i) g w := by
  obtain ⟨own, h⟩ := h
  have hown := h.ownd id o hg hn
  have hI : I.le (I.put (ρ id).blk (cs, T, fz)) := by
    intro b c hb
    obtain ⟨h1, _⟩ := h.imm b c hb
    unfold Imm.put
    rw [if_neg (by intro e; rw [e, hown] at h1; cases h1)]; exact hb
  refine ⟨hI, fun b => if b = (ρ id).blk then .imm else own b, ⟨h.env, ?_, ?_, ?_, ?_, ?_, ?_⟩⟩
  · intro b hb'
    by_cases e : b = (ρ id).blk
    · subst e; exact h.lt _ (by rw [hown]; intro e; cases e)
    · rw [if_neg e] at hb'; exact h.lt b hb'
  · intro b c hc
    unfold Imm.put at hc
    by_cases e : b = (ρ id).blk
    · rw [if_pos e] at hc
      cases hc
      subst e
      exact ⟨if_pos rfl, hb⟩
    · rw [if_neg e] at hc
      obtain ⟨h1, h2⟩ := h.imm b c hc
      exact ⟨by rw [if_neg e]; exact h1, h2⟩
  · intro i o' e
    split at e
    · cases e
    · exact h.key i o' e
  · intro i o' e
    split at e
    · cases e
    · exact (h.obj i o' e).mono hI (fun _ h => h) (fun _ _ => rfl) (h.key i o' e) (fun _ => rfl)
  · intro i o' e hni
    split at e
    · cases e
    · rename_i hne
      have := h.ownd i o' e hni
      rw [if_neg (by intro e2; rw [e2, hown] at this; cases this; exact hne rfl)]; exact this
  · have : gheap (fun b => if b = (ρ id).blk then .imm else own b) w = gheap own w := by
      funext b
      unfold gheap
      by_cases e : b = (ρ id).blk
      · subst e; simp only [if_true, hown]
      · simp only [e, if_false]
    rw [this]; exact g.mono _ _ _ hI h.gst
end

/-! Blocks that are trees, or lists of them -/
def nodeOf : List AVal → Option Tree
  | [.d (.int .i64 k), .d (.int .i64 n), .d (.str nm), .d (.str mk), .d (.trees l)] => some (.node k n nm mk l)
  | [.d (.int .i64 k), .d (.int .i64 n), .d (.str nm), .d (.str mk), .d .nils] => some (.node k n nm mk [])
  | _ => none

def allD : List AVal → Option (List Data)
  | [] => some []
  | .d x :: r => (allD r).map (x :: ·)
  | _ => none

section
variable {I J : Imm} {ρ : Nat → RB} {D : Nat → Prop}
theorem CA.data {x : Data} {v : Value} (h : CA I ρ D (.d x) v) : Cd I x v := by cases h; assumption

theorem nodeOf_ok {vs : List AVal} {t : Tree} {cs : Array Value} {b : Nat} (h : nodeOf vs = some t) (hc : CAs I ρ D vs cs) (hI : I.le J) (hb : ∃ q, J b = some (cs, q)) : TrI J t (.pointer (some ⟨b, 0, none⟩)) := by
  have key : ∀ {a1 a2 a3 a4 a5 : AVal}, CAs I ρ D [a1, a2, a3, a4, a5] cs → ∀ k n nm mk l, a1 = .d (.int .i64 k) → a2 = .d (.int .i64 n) → a3 = .d (.str nm) → a4 = .d (.str mk) → (a5 = .d (.trees l) ∨ (a5 = .d .nils ∧ l = [])) → TrI J (.node k n nm mk l) (.pointer (some ⟨b, 0, none⟩)) := by
    intro a1 a2 a3 a4 a5 hc k n nm mk l e1 e2 e3 e4 e5
    have hs : cs.size = 5 := hc.1
    have hh := fun (i : Nat) (hi : i < 5) => Imm.put_cell (o := i) hb (by omega)
    subst e1 e2 e3 e4
    have c0 := (hc.2 0 (by simp)).int
    have c1 := (hc.2 1 (by simp)).int
    have c2 := (hc.2 2 (by simp)).str
    have c3 := (hc.2 3 (by simp)).str
    have c4 := hc.2 4 (by simp)
    refine TrI.shut (kv := cs.getD 4 undef) (by rw [hh 0 (by omega), c0]) (by rw [hh 1 (by omega), c1]) (by rw [hh 2 (by omega), c2]) (by rw [hh 3 (by omega), c3]) (hh 4 (by omega)) ?_
    rcases e5 with e5 | ⟨e5, e6⟩
    · subst e5; exact c4.trees.mono hI
    · subst e5 e6; exact .inl ⟨rfl, c4.nils⟩
  unfold nodeOf at h
  split at h
  · cases h; exact key hc _ _ _ _ _ rfl rfl rfl rfl (.inl rfl)
  · cases h; exact key hc _ _ _ _ _ rfl rfl rfl rfl (.inr ⟨rfl, rfl⟩)
  · cases h

theorem treesI_ok {vs : List AVal} {l : List Tree} {cs : Array Value} {b cap : Nat} (h : allTrees vs = some l) (hc : CAs I ρ D vs cs) (hI : I.le J) (hb : ∃ q, J b = some (cs, q)) (hcap : vs.length ≤ cap) (hm : vs.length ≤ maxN) : TrsI J l (.slice (some ⟨b, 0, none⟩) vs.length cap) := by
  obtain ⟨h1, h2⟩ := allTrees_ok h
  rw [← h1] at hcap hm ⊢
  refine .inr ⟨b, 0, cap, fun i => cs.getD i undef, rfl, hcap, hm, fun i hi => ?_, fun i hi => ?_⟩
  · rw [Nat.zero_add]; exact Imm.put_cell hb (by rw [hc.1]; omega)
  · have h3 := hc.2 i (by omega)
    have h4 := h2 i (by omega)
    rw [List.getD_eq_getElem?_getD, List.getElem?_eq_getElem (by omega)] at h4
    simp only [Option.getD_some] at h4
    rw [h4] at h3
    have := h3.tree.mono hI
    rwa [List.getD_eq_getElem?_getD, List.getElem?_eq_getElem hi] at this

theorem allD_ok : ∀ {l : List AVal} {r : List Data}, allD l = some r → r.length = l.length ∧ ∀ i (h : i < l.length), l[i] = .d (r.getD i .nils)
  | [], r, h => by simp [allD] at h; subst h; exact ⟨rfl, fun i hi => by simp at hi⟩
  | x :: l, r, h => by
    cases x with
    | d y =>
      cases hr : allD l with
      | none => simp [allD, hr] at h
      | some r' =>
        simp [allD, hr] at h
        subst h
        have ih := allD_ok hr
        refine ⟨by simp [ih.1], fun i hi => ?_⟩
        cases i with
        | zero => rfl
        | succ i => simpa using ih.2 i (by simpa using hi)
    | _ => simp [allD] at h
end

/-- What is made and is never written. -/
def fzK (tt : List (Nat × TI)) (op : Op) (ev : Operand → AVal) (K : AVal → Prop) : Prop :=
  match op with
  | .box _ x => match ev x with
    | .agg l => match nodeOf l with
      | some t => K (.d (.tree t))
      | none => match allD l with
        | some ds => K (.d (.ptr ds.length (fun i => ds.getD i .nils) 0))
        | none => False
    | _ => False
  | .buildSlice t n ps =>
    match ttl tt t with
    | some i => match i.desc with
      | .slice _ => Side (n ≤ maxN) <| Side (n * i.esz ≤ 16777216) <| forceL (List.replicate (n * i.esz) .any) fun c0 => fillK ((List.range n).map fun k => (k * i.esz, i.esz)) c0 (ps.toList.map fun p => (p.1, ev p.2)) fun l => match allTrees l with
          | some ts => Side (i.esz = 1) <| K (.d (.trees ts))
          | none => match allD l with
            | some ds => K (.d (.slice n i.esz fun k j => ds.getD (k * i.esz + j) .nils))
            | none => False
      | _ => False
    | none => False
  | .call { callee := .builtin .append, args := xs, argTypes := ts } =>
    match xs.toList, ts.toList with
    | [x, y], [t, t'] => match ttl tt t with
      | some i => match i.desc with
        | .slice _ => Side (t = t') <| (match ev x, ev y with
          | .d (.tight n sz f), .d (.slice m sz' g) => Side (sz = i.esz ∧ sz' = i.esz ∧ 0 < m ∧ 0 < i.esz) <| Side (n + m ≤ maxN ∧ (n + m) * i.ebytes ≤ 140737488355328) <| K (.d (.slice (n + m) i.esz fun a j => if a < n then f a j else g (a - n) j))
          | _, _ => False)
        | _ => False
      | none => False
    | _, _ => False
  | _ => False

theorem slot_lt {n sz i j : Nat} (hi : i < n) (hj : j < sz) : i * sz + j < n * sz := by
  have : (i + 1) * sz ≤ n * sz := Nat.mul_le_mul_right _ hi
  have e : (i + 1) * sz = i * sz + sz := Nat.succ_mul i sz
  omega

theorem fz_L {P : Program} {E : Env} {o : Oper} {X : FS} {r : AVal} (hd : dstOk o.dst X.n)
    (h : ∀ X', (∀ x ∈ o.op.operands, evT X'.T x = evT X.T x) → ∀ I ρ a w, RelT E I ρ X' a w → ∃ v cs T, (execOp a.eval o).run P w = .ok (.value v) (w.alloc (.cells cs T (0, 0))) ∧ ∀ J, I.le J → (∃ q, J w.heap.size = some (cs, q)) → CA J ρ X'.D r v) :
    OpL P E o [] false X (one1 r) := by
  intro X' ⟨hn, hx, _, _⟩
  refine OpE.value (by rw [hn]; exact hd) fun I ρ a w hr _ => ?_
  obtain ⟨v, cs, T, h1, h2⟩ := h X' hx I ρ a w hr
  obtain ⟨h3, h4⟩ := hr.rel.alloc_imm cs T (0, 0)
  have hdom : (fun i => i ∈ ([] : List Nat) ∨ X'.D i) = X'.D := by funext i; simp
  refine ⟨v, _, .inl h1, _, ρ, h3, fun _ _ => rfl, ?_, ?_⟩
  · simp only [one1, hdom, putG_nil, Option.getD_none]; exact h4
  · simp only [one1, hdom]; exact h2 _ h3 Imm.put_at

theorem fz_Ld {P : Program} {E : Env} {o : Oper} {X : FS} {r : AVal} (hd : dstOk o.dst X.n)
    (h : ∀ X', (∀ x ∈ o.op.operands, evT X'.T x = evT X.T x) → ∀ I ρ a w, RelT E I ρ X' a w → ∃ v cs T, (execOp a.eval o).run P w = .ok (.value v) (w.drew.alloc (.cells cs T (0, 0))) ∧ ∀ J, I.le J → (∃ q, J w.heap.size = some (cs, q)) → CA J ρ X'.D r v) :
    OpL P E o [] false X (one1 r) := by
  intro X' ⟨hn, hx, _, _⟩
  refine OpE.value (by rw [hn]; exact hd) fun I ρ a w hr _ => ?_
  obtain ⟨v, cs, T, h1, h2⟩ := h X' hx I ρ a w hr
  have hr' : Rel E I ρ X'.D X'.G X'.g w.drew := hr.rel.drawn _
  obtain ⟨h3, h4⟩ := hr'.alloc_imm cs T (0, 0)
  have hdom : (fun i => i ∈ ([] : List Nat) ∨ X'.D i) = X'.D := by funext i; simp
  refine ⟨v, _, .inl h1, _, ρ, h3, fun _ _ => rfl, ?_, ?_⟩
  · simp only [one1, hdom, putG_nil, Option.getD_none]; exact h4
  · simp only [one1, hdom]; exact h2 _ h3 Imm.put_at

theorem fzK_ok {P : Program} {E : Env} {tt : List (Nat × TI)} (htt : TTok P tt) {dst : Option Tmp} {op : Op} {T : TypeId} {pos : String} {aft : Array Edge} {gd : Option (Nat × Bool)} {X : FS}
    {K : AVal → Prop} (hd : dstOk dst X.n) (h : fzK tt op (evT X.T) K) : ∃ r, K r ∧ OpL P E ⟨dst, op, T, pos, aft, gd⟩ [] false X (one1 r) := by
  unfold fzK at h
  split at h
  · rename_i t x
    have hxm : x ∈ (Op.box t x).operands := by simp [Op.operands]
    split at h
    · rename_i l hl
      have base : ∀ r : AVal, (∀ (I J : Imm) (ρ : Nat → RB) (D : Nat → Prop) (b : Nat) (cs : Array Value), CAs I ρ D l cs → I.le J → (∃ q, J b = some (cs, q)) → CA J ρ D r (.pointer (some ⟨b, 0, none⟩))) →
          OpL P E ⟨dst, .box t x, T, pos, aft, gd⟩ [] false X (one1 r) := by
        intro r hr'
        refine fz_L hd fun X' hx I ρ a w hr => ?_
        have hv := hr.ev x
        rw [hx x hxm, hl] at hv
        obtain ⟨us, e, hus⟩ := hv.agg_inv
        refine ⟨.pointer (some ⟨w.heap.size, 0, none⟩), us, t, ?_, fun J hJ hb => hr' I J ρ X'.D _ us hus hJ hb⟩
        simp [execOp, Instr.box, e, newVar_run, Value.cells]
      split at h
      · rename_i t' ht
        exact ⟨_, h, base _ fun I J ρ D b cs hc hJ hb => .d (.tree (nodeOf_ok ht hc hJ hb))⟩
      · split at h
        · rename_i ds hds
          obtain ⟨h1, h2⟩ := allD_ok hds
          refine ⟨_, h, base _ fun I J ρ D b cs hc hJ hb => .d ?_⟩
          have := Cd.ptr (I := J) (n := ds.length) (f := fun i => ds.getD i .nils) (off := 0) (b := b) (o := 0) (cs := fun i => cs.getD i undef) (fun i hi => by rw [Nat.zero_add]; exact Imm.put_cell hb (by rw [hc.1]; omega)) (fun i hi => by
            have h3 := hc.2 i (by omega)
            rw [h2 i (by omega)] at h3
            exact h3.data.mono hJ)
          exact this
        · exact h.elim
    · exact h.elim
  · rename_i t n ps
    split at h
    · rename_i i hi
      have hT := htt t i hi
      split at h
      · rename_i e he
        obtain ⟨hnm, h24, h⟩ := h
        rw [forceL_eq, fillK_eq] at h
        split at h
        · rename_i l hl
          have hlen : l.length = n * i.esz := by simpa using fillA_length _ _ _ hl
          have base : ∀ r : AVal, (∀ (I J : Imm) (ρ : Nat → RB) (D : Nat → Prop) (b : Nat) (cs : Array Value), CAs I ρ D l cs → I.le J → (∃ q, J b = some (cs, q)) → CA J ρ D r (.slice (some ⟨b, 0, none⟩) n n)) →
              OpL P E ⟨dst, .buildSlice t n ps, T, pos, aft, gd⟩ [] false X (one1 r) := by
            intro r hr'
            refine fz_L hd fun X' hx I ρ a w hr => ?_
            obtain ⟨cs', hrun, hcs⟩ := buildSlice_run hT he h24 hl (fun x hm => (by rw [← hx x hm]; exact hr.ev x)) w
            refine ⟨.slice (some ⟨w.heap.size, 0, none⟩) n n, cs', e, ?_, fun J hJ hb => hr' I J ρ X'.D _ cs' hcs hJ hb⟩
            simp only [execOp, Sem.run_bind, hrun, Result.andThen_ok]; rfl
          split at h
          · rename_i ts hts
            obtain ⟨hs1, h⟩ := h
            rw [hs1, Nat.mul_one] at hlen
            refine ⟨_, h, base _ fun I J ρ D b cs hc hJ hb => .d (.trees ?_)⟩
            have := treesI_ok (cap := n) hts hc hJ hb (by omega) (by omega)
            rwa [hlen] at this
          · split at h
            · rename_i ds hds
              obtain ⟨h1, h2⟩ := allD_ok hds
              refine ⟨_, h, base _ fun I J ρ D b cs hc hJ hb => .d ?_⟩
              refine Cd.slice (cs := fun k j => cs.getD (k * i.esz + j) undef) (Nat.le_refl _) hnm (fun k j hk hj => ?_) (fun k j hk hj => ?_)
              · have := slot_lt hk hj
                rw [Nat.zero_add]
                exact Imm.put_cell hb (by rw [hc.1]; omega)
              · have := slot_lt hk hj
                have h3 := hc.2 (k * i.esz + j) (by omega)
                rw [h2 _ (by omega)] at h3
                exact h3.data.mono hJ
            · exact h.elim
        · exact h.elim
      · exact h.elim
    · exact h.elim
  · rename_i xs ts
    split at h
    · rename_i x y t t' hxs hts
      have hxs := arr2 hxs
      have hts := arr2 hts
      subst hxs hts
      split at h
      · rename_i i hi
        have hT := htt t i hi
        split at h
        · rename_i el he
          obtain ⟨rfl, h⟩ := h
          obtain ⟨ff, hf1, hf2, hf3, z, hz, hzs⟩ := hT.elem el he
          have hu := hT.und
          rw [he] at hu
          split at h
          · rename_i n sz f m sz' g hx hy
            obtain ⟨⟨rfl, hsz', hm0, hpos⟩, ⟨hmx, hby⟩, h⟩ := h
            subst hsz'
            refine ⟨_, h, fz_Ld hd fun X' hx' I ρ a w hr => ?_⟩
            have hvx := hr.ev x
            rw [hx' x (by simp [Op.operands, Call.operands]), hx] at hvx
            have hvy := hr.ev y
            rw [hx' y (by simp [Op.operands, Call.operands]), hy] at hvy
            have hcx := hvx.data
            have hcy := hvy.data
            have cellsOf : ∀ {k b o : Nat} {cs : Nat → Nat → Value}, (∀ a j, a < k → j < i.esz → I.cell b (o + a * i.esz + j) = some (cs a j)) → ∀ j u, ((List.range (k * i.esz)).map fun j => cs (j / i.esz) (j % i.esz))[j]? = some u → w.cell? ((⟨b, o, none⟩ : Addr).add j) = some u := by
              intro k b o cs hc j u hj
              rw [List.getElem?_map] at hj
              by_cases hjl : j < k * i.esz
              · simp [hjl] at hj; subst hj
                have h1 : j / i.esz < k := (Nat.div_lt_iff_lt_mul hpos).2 hjl
                have h2 : j % i.esz < i.esz := Nat.mod_lt _ hpos
                have := hc _ _ h1 h2
                rw [add_addr]
                have e : o + j / i.esz * i.esz + j % i.esz = o + j := by rw [Nat.add_assoc, Nat.div_add_mod']
                rw [e] at this
                exact Imm.cell_world hr.rel this
              · simp [hjl] at hj
            have getOf : ∀ {k : Nat} {cs : Nat → Nat → Value} {a j : Nat}, a < k → j < i.esz → ((List.range (k * i.esz)).map fun j => cs (j / i.esz) (j % i.esz)).getD (a * i.esz + j) undef = cs a j := by
              intro k cs a j ha hj
              have hl := slot_lt ha hj
              have e1 : (a * i.esz + j) / i.esz = a := by rw [Nat.add_comm, Nat.add_mul_div_right _ _ hpos, Nat.div_eq_of_lt hj, Nat.zero_add]
              have e2 : (a * i.esz + j) % i.esz = j := by rw [Nat.add_comm, Nat.add_mul_mod_self_right, Nat.mod_eq_of_lt hj]
              simp [hl, e1, e2]
            have fin : ∀ {olds : List Value} {n' : Nat} {f' : Nat → Nat → Data} {cs1 : Nat → Nat → Value} {ad : Addr} {c : Nat} {cs2 : Nat → Nat → Value}, n' = n → a.eval y = .slice (some ad) m c →
                (∀ j u, ((List.range (m * i.esz)).map fun j => cs2 (j / i.esz) (j % i.esz))[j]? = some u → w.cell? (ad.add j) = some u) → (∀ a j, a < m → j < i.esz → Cd I (g a j) (cs2 a j)) →
                ((a.eval x = .slice none 0 0 ∧ n = 0 ∧ olds = []) ∨ ∃ ao : Addr, a.eval x = .slice (some ao) n n ∧ olds.length = n * i.esz ∧ ∀ j u, olds[j]? = some u → w.cell? (ao.add j) = some u) → (olds = (List.range (n * i.esz)).map fun j => cs1 (j / i.esz) (j % i.esz)) → (∀ a j, a < n → j < i.esz → Cd I (f a j) (cs1 a j)) →
                ∃ v cs T', (execOp a.eval ⟨dst, .call { callee := .builtin .append, args := #[x, y], argTypes := #[t, t] }, T, pos, aft, gd⟩).run P w = .ok (.value v) (w.drew.alloc (.cells cs T' (0, 0))) ∧
                  ∀ J, I.le J → (∃ q, J w.heap.size = some (cs, q)) → CA J ρ X'.D (.d (.slice (n + m) i.esz fun a j => if a < n then f a j else g (a - n) j)) v := by
              intro olds n' f' cs1 ad c cs2 _ hy' hn2 hg2 hx1 ho hf1'
              rw [← hf2] at hx1
              obtain ⟨cap, cur, hr1, hr2, hr3, hr4⟩ := run_append_new (P := P) (w := w) (ty := T) hu hf1 hz (by rw [hzs, hf2]) hx1 (ad := ad) (c := c) (m := m) (news := (List.range (m * i.esz)).map fun j => cs2 (j / i.esz) (j % i.esz)) (by simp [hf2]) hn2 hm0 hmx (by rw [hf3]; exact hby)
              refine ⟨.slice (some ⟨w.heap.size, 0, none⟩) (n + m) cap, cur, el, ?_, fun J hJ hb => ?_⟩
              · rw [← hy'] at hr1
                simp only [execOp, resolve, invoke, builtin, Array.map, Sem.run_bind]
                simp [resolve, invoke, builtin, hr1]
              · rw [hf2] at hr3 hr4
                have hsz : ∀ k j, k < n + m → j < i.esz → k * i.esz + j < cur.size := fun k j hk hj => by
                  have h1 := slot_lt hk hj
                  have h2 : (n + m) * i.esz ≤ cap * i.esz := Nat.mul_le_mul_right _ hr2
                  omega
                refine .d (Cd.slice (cs := fun k j => cur.getD (k * i.esz + j) undef) hr2 hmx (fun k j hk hj => ?_) (fun k j hk hj => ?_))
                · rw [Nat.zero_add]
                  exact Imm.put_cell hb (hsz k j hk hj)
                · show Cd J (if k < n then f k j else g (k - n) j) (cur.getD (k * i.esz + j) undef)
                  rw [hr4 _ (slot_lt hk hj)]
                  have hol : olds.length = n * i.esz := by rw [ho]; simp
                  by_cases hkn : k < n
                  · rw [if_pos hkn, getD_app_left (by rw [hol]; exact slot_lt hkn hj), ho, getOf hkn hj]
                    exact (hf1' k j hkn hj).mono hJ
                  · have e : k * i.esz + j = olds.length + ((k - n) * i.esz + j) := by
                      rw [hol, ← Nat.add_assoc, ← Nat.add_mul, show n + (k - n) = k by omega]
                    rw [if_neg hkn, e, getD_app_right, getOf (by omega) hj]
                    exact (hg2 (k - n) j (by omega) hj).mono hJ
            generalize hvy' : a.eval y = vy at hcy fin
            generalize hvx' : a.eval x = vx at hcx fin
            cases hcy with
            | slice0 => omega
            | sliceE => omega
            | slice hl2 hm2 hc2 ht2 =>
              rename_i b2 o2 cap2 cs2
              cases hcx with
              | tight hm1 hc1 ht1 =>
                rename_i b1 o1 cs1
                exact fin (n' := n) (f' := f) (cs1 := cs1) (cs2 := cs2) rfl rfl (cellsOf hc2) ht2 (.inr ⟨_, rfl, by simp, cellsOf hc1⟩) rfl ht1
              | tight0 => exact fin (n' := 0) (f' := f) (cs1 := fun _ _ => undef) (cs2 := cs2) (olds := []) rfl rfl (cellsOf hc2) ht2 (.inl ⟨rfl, rfl, rfl⟩) (by simp) (fun a j ha => by omega)
              | tightE =>
                rename_i ad
                exact fin (n' := 0) (f' := f) (cs1 := fun _ _ => undef) (cs2 := cs2) (olds := []) rfl rfl (cellsOf hc2) ht2 (.inr ⟨_, rfl, by simp, fun j u hj => by simp at hj⟩) (by simp) (fun a j ha => by omega)
          · exact h.elim
        · exact h.elim
      · exact h.elim
    · exact h.elim
  · exact h.elim
end Go.Mq

/- Names of objects changed: a callee's names against its caller's. -/
namespace Go.Mq
open Go

mutual
def AVal.ren (s : Nat → Nat) : AVal → AVal
  | .ref id o => .ref (s id) o
  | .row id n => .row (s id) n
  | .mp id => .mp (s id)
  | .fn f l => .fn f (renL s l)
  | .agg l => .agg (renL s l)
  | .tuple l => .tuple (renL s l)
  | .iface t x => .iface t (x.ren s)
  | .d x => .d x
  | .und => .und
  | .any => .any
  | .val v => .val v
def renL (s : Nat → Nat) : List AVal → List AVal
  | [] => []
  | x :: l => x.ren s :: renL s l
end

def RowC.ren (s : Nat → Nat) : RowC → RowC
  | .gen n sz f => .gen n sz fun i => (f i).ren s
  | r => r
def AObj.ren (s : Nat → Nat) : AObj → AObj
  | .cellsT ty vs => .cellsT ty (renL s vs)
  | .row e r => .row e (r.ren s)
  | .set l => .set l
  | .setp l x => .setp l x

theorem renL_length {s : Nat → Nat} : ∀ l : List AVal, (renL s l).length = l.length
  | [] => rfl
  | _ :: l => by simp [renL, renL_length l]
theorem renL_get {s : Nat → Nat} : ∀ (l : List AVal) (i : Nat) (h : i < l.length), (renL s l)[i]'(by rw [renL_length]; exact h) = (l[i]).ren s
  | [], i, h => by simp at h
  | x :: l, 0, _ => rfl
  | x :: l, i + 1, h => by simpa [renL] using renL_get l i (by simpa using h)
theorem RowC.ren_len {s : Nat → Nat} (r : RowC) : (r.ren s).len = r.len := by cases r <;> rfl
theorem RowC.ren_sz {s : Nat → Nat} (r : RowC) : (r.ren s).sz = r.sz := by cases r <;> rfl
theorem RowC.ren_cell {s : Nat → Nat} (r : RowC) (i : Nat) : (r.ren s).cell i = (r.cell i).ren s := by cases r <;> rfl

section
variable {I : Imm} {ρ : Nat → RB} {D : Nat → Prop} {s : Nat → Nat}

theorem CA.ren_up {x : AVal} {v : Value} (h : CA I (fun i => ρ (s i)) (fun i => D (s i)) x v) : CA I ρ D (x.ren s) v := by
  induction h with
  | d h => exact .d h
  | und => exact .und
  | any => exact .any
  | ref h => exact .ref (id := s _) h
  | row h h1 h2 h3 => exact .row (id := s _) h h1 h2 h3
  | row0 h h1 => exact .row0 (id := s _) h h1
  | mp h => exact .mp (id := s _) h
  | fn hl _ ih => exact .fn (by rw [renL_length]; exact hl) fun i hi => by rw [renL_length] at hi; rw [renL_get _ i hi]; exact ih i hi
  | agg hl _ ih => exact .agg (by rw [renL_length]; exact hl) fun i hi => by rw [renL_length] at hi; rw [renL_get _ i hi]; exact ih i hi
  | tuple hl _ ih => exact .tuple (by rw [renL_length]; exact hl) fun i hi => by rw [renL_length] at hi; rw [renL_get _ i hi]; exact ih i hi
  | val => exact .val
  | iface _ ih => exact .iface ih

theorem CA.row_inv {id n : Nat} {v : Value} (h : CA I ρ D (.row id n) v) : D id ∧ (((ρ id).isnil = false ∧ n ≤ (ρ id).cap ∧ n ≤ maxN ∧ v = .slice (some ⟨(ρ id).blk, 0, none⟩) n (ρ id).cap) ∨ ((ρ id).isnil = true ∧ n = 0 ∧ v = .slice none 0 0)) := by
  cases h with
  | row h h1 h2 h3 => exact ⟨h, .inl ⟨h1, h2, h3, rfl⟩⟩
  | row0 h h1 => exact ⟨h, .inr ⟨h1, rfl, rfl⟩⟩
theorem CA.ref_inv {id o : Nat} {v : Value} (h : CA I ρ D (.ref id o) v) : D id ∧ v = .pointer (some ⟨(ρ id).blk, o, none⟩) := by
  cases h with
  | ref h => exact ⟨h, rfl⟩
theorem CA.mp_inv {id : Nat} {v : Value} (h : CA I ρ D (.mp id) v) : D id ∧ v = .map (some (ρ id).blk) := by
  cases h with
  | mp h => exact ⟨h, rfl⟩
theorem CA.tuple_inv {l : List AVal} {v : Value} (h : CA I ρ D (.tuple l) v) : ∃ cs, v = .tuple cs ∧ CAs I ρ D l cs := by
  cases h with
  | tuple hl hc => exact ⟨_, rfl, hl, hc⟩
theorem CA.iface_inv {t : TypeId} {x : AVal} {v : Value} (h : CA I ρ D (.iface t x) v) : ∃ u, v = .iface t u ∧ CA I ρ D x u := by
  cases h with
  | iface h => exact ⟨_, rfl, h⟩

mutual
theorem CA.ren_dn : ∀ {x : AVal} {v : Value}, CA I ρ D (x.ren s) v → CA I (fun i => ρ (s i)) (fun i => D (s i)) x v
  | .ref id o, v, h => by
    obtain ⟨h1, rfl⟩ := h.ref_inv
    exact .ref (ρ := fun i => ρ (s i)) (D := fun i => D (s i)) h1
  | .row id n, v, h => by
    obtain ⟨h1, ⟨h2, h3, h4, rfl⟩ | ⟨h2, rfl, rfl⟩⟩ := h.row_inv
    · exact .row (ρ := fun i => ρ (s i)) (D := fun i => D (s i)) h1 h2 h3 h4
    · exact .row0 (ρ := fun i => ρ (s i)) (D := fun i => D (s i)) h1 h2
  | .mp id, v, h => by
    obtain ⟨h1, rfl⟩ := h.mp_inv
    exact .mp (ρ := fun i => ρ (s i)) (D := fun i => D (s i)) h1
  | .fn f l, v, h => by
    obtain ⟨cs, rfl, h1, h2⟩ := fn_inv h
    rw [renL_length] at h1
    exact .fn h1 (CAs.ren_dn (l := l) (fun i hi => by have := h2 i (by rw [renL_length]; exact hi); rwa [renL_get _ i hi] at this))
  | .agg l, v, h => by
    obtain ⟨cs, rfl, h1, h2⟩ := h.agg_inv
    rw [renL_length] at h1
    exact .agg h1 (CAs.ren_dn (l := l) (fun i hi => by have := h2 i (by rw [renL_length]; exact hi); rwa [renL_get _ i hi] at this))
  | .tuple l, v, h => by
    obtain ⟨cs, rfl, h1, h2⟩ := h.tuple_inv
    rw [renL_length] at h1
    exact .tuple h1 (CAs.ren_dn (l := l) (fun i hi => by have := h2 i (by rw [renL_length]; exact hi); rwa [renL_get _ i hi] at this))
  | .iface t x, v, h => by
    obtain ⟨u, rfl, h1⟩ := h.iface_inv
    exact .iface (CA.ren_dn h1)
  | .d x, v, h => .d h.data
  | .und, v, h => by cases h; exact .und
  | .any, v, h => .any
  | .val u, v, h => by cases h; exact .val
theorem CAs.ren_dn : ∀ {l : List AVal} {us : Nat → Value}, (∀ i (h : i < l.length), CA I ρ D ((l[i]).ren s) (us i)) → ∀ i (h : i < l.length), CA I (fun i => ρ (s i)) (fun i => D (s i)) l[i] (us i)
  | [], us, h, i, hi => by simp at hi
  | x :: l, us, h, 0, hi => CA.ren_dn (h 0 hi)
  | x :: l, us, h, i + 1, hi => CAs.ren_dn (l := l) (us := fun i => us (i + 1)) (fun j hj => h (j + 1) (by simpa using hj)) i (by simpa using hi)
end

theorem ORel.ren_up {h : Nat → Option Obj} {id : Nat} {o : AObj} (e : ORel I (fun i => ρ (s i)) (fun i => D (s i)) h id o) : ORel I ρ D h (s id) (o.ren s) := by
  cases o with
  | cellsT ty vs =>
    obtain ⟨h1, cs, T, h2, h3, h4⟩ := e
    exact ⟨h1, cs, T, h2, by rw [renL_length]; exact h3, fun i hi => by rw [renL_length] at hi; rw [renL_get _ i hi]; exact (h4 i hi).ren_up⟩
  | row el r =>
    rcases e with ⟨h1, h2⟩ | ⟨h1, h2, h3, cs, h4, h5, h6⟩
    · exact .inl ⟨h1, by rw [RowC.ren_len]; exact h2⟩
    · exact .inr ⟨h1, by rw [RowC.ren_len]; exact h2, by rw [RowC.ren_len]; exact h3, cs, h4, by rw [RowC.ren_sz]; exact h5, fun i hi => by rw [RowC.ren_len, RowC.ren_sz] at hi; rw [RowC.ren_cell]; exact (h6 i hi).ren_up⟩
  | set l => exact e
  | setp l x => exact e
theorem ORel.ren_dn {h : Nat → Option Obj} {id : Nat} {o : AObj} (e : ORel I ρ D h (s id) (o.ren s)) : ORel I (fun i => ρ (s i)) (fun i => D (s i)) h id o := by
  cases o with
  | cellsT ty vs =>
    obtain ⟨h1, cs, T, h2, h3, h4⟩ := e
    rw [renL_length] at h3
    exact ⟨h1, cs, T, h2, h3, CAs.ren_dn (l := vs) (fun i hi => by have := h4 i (by rw [renL_length]; exact hi); rwa [renL_get _ i hi] at this)⟩
  | row el r =>
    rcases e with ⟨h1, h2⟩ | ⟨h1, h2, h3, cs, h4, h5, h6⟩
    · exact .inl ⟨h1, by rw [RowC.ren_len] at h2; exact h2⟩
    · rw [RowC.ren_len] at h2 h3
      rw [RowC.ren_sz] at h5
      exact .inr ⟨h1, h2, h3, cs, h4, h5, fun i hi => by have := h6 i (by rw [RowC.ren_len, RowC.ren_sz]; exact hi); rw [RowC.ren_cell] at this; exact this.ren_dn⟩
  | set l => exact e
  | setp l x => exact e

theorem All2.ren_up : ∀ {l : List AVal} {vs : List Value}, All2 I (fun i => ρ (s i)) (fun i => D (s i)) l vs → All2 I ρ D (renL s l) vs
  | [], [], _ => trivial
  | [], _ :: _, h => h.elim
  | _ :: _, [], h => h.elim
  | _ :: _, _ :: _, h => ⟨h.1.ren_up, All2.ren_up h.2⟩
theorem All2.ren_dn : ∀ {l : List AVal} {vs : List Value}, All2 I ρ D (renL s l) vs → All2 I (fun i => ρ (s i)) (fun i => D (s i)) l vs
  | [], [], _ => trivial
  | [], _ :: _, h => h.elim
  | _ :: _, [], h => h.elim
  | _ :: _, _ :: _, h => ⟨h.1.ren_dn, All2.ren_dn h.2⟩
end

section
variable {E : Env} {I : Imm} {ρ ρ' : Nat → RB} {D D' : Nat → Prop} {G G' : Objs} {g : Ghost} {w : World} {s : Nat → Nat}

/-- Fewer objects, by other names. -/
theorem Rel.ren_dn (h : Rel E I ρ D G g w) (hs : ∀ i j, s i = s j → i = j) (hG : ∀ i o, G' i = some o → G (s i) = some (o.ren s)) : Rel E I (fun i => ρ (s i)) (fun i => D (s i)) G' g w := by
  obtain ⟨own, h⟩ := h
  let ownN : Nat → Own := fun b => match own b with
    | .obj j => (open Classical in if h : ∃ i, s i = j then .obj (Classical.choose h) else .free)
    | o => o
  have hN : ∀ b i, own b = .obj (s i) → ownN b = .obj i := by
    intro b i hb
    show (match own b with | .obj j => (open Classical in if h : ∃ i, s i = j then Own.obj (Classical.choose h) else .free) | o => o) = _
    rw [hb]
    have hex : ∃ i', s i' = s i := ⟨i, rfl⟩
    simp only [dif_pos hex]
    rw [hs _ _ (Classical.choose_spec hex)]
  refine ⟨ownN, ⟨h.env, ?_, ?_, ?_, ?_, ?_, ?_⟩⟩
  · intro b hb
    apply h.lt b
    intro e
    apply hb
    show (match own b with | .obj j => (open Classical in if h : ∃ i, s i = j then Own.obj (Classical.choose h) else .free) | o => o) = _
    rw [e]
  · intro b c hb
    obtain ⟨h1, h2⟩ := h.imm b c hb
    refine ⟨?_, h2⟩
    show (match own b with | .obj j => (open Classical in if h : ∃ i, s i = j then Own.obj (Classical.choose h) else .free) | o => o) = _
    rw [h1]
  · intro i o e; exact h.key _ _ (hG i o e)
  · intro i o e; exact (h.obj _ _ (hG i o e)).ren_dn
  · intro i o e hn; exact hN _ _ (h.ownd _ _ (hG i o e) hn)
  · have : gheap ownN w = gheap own w := by
      funext b
      unfold gheap
      show (match (match own b with | .obj j => (open Classical in if h : ∃ i, s i = j then Own.obj (Classical.choose h) else .free) | o => o) with | .gst => w.heap[b]? | _ => none) = _
      cases own b with
      | obj j => simp only []; by_cases hex : ∃ i, s i = j <;> simp [hex]
      | _ => rfl
    rw [this]; exact h.gst

/-- The objects by other names, in a greater domain. -/
theorem Rel.ren_up (h : Rel E I (fun i => ρ (s i)) (fun i => D (s i)) G g w) (hG : ∀ j o', G' j = some o' → ∃ i o, j = s i ∧ G i = some o ∧ o' = o.ren s) : Rel E I ρ D G' g w := by
  obtain ⟨own, h⟩ := h
  let ownN : Nat → Own := fun b => match own b with
    | .obj i => .obj (s i)
    | o => o
  refine ⟨ownN, ⟨h.env, ?_, ?_, ?_, ?_, ?_, ?_⟩⟩
  · intro b hb
    apply h.lt b
    intro e
    apply hb
    show (match own b with | .obj i => Own.obj (s i) | o => o) = _
    rw [e]
  · intro b c hb
    obtain ⟨h1, h2⟩ := h.imm b c hb
    refine ⟨?_, h2⟩
    show (match own b with | .obj i => Own.obj (s i) | o => o) = _
    rw [h1]
  · intro j o e
    obtain ⟨i, o', rfl, h1, rfl⟩ := hG j o e
    exact h.key _ _ h1
  · intro j o e
    obtain ⟨i, o', rfl, h1, rfl⟩ := hG j o e
    exact (h.obj _ _ h1).ren_up
  · intro j o e hn
    obtain ⟨i, o', rfl, h1, rfl⟩ := hG j o e
    show (match own (ρ (s i)).blk with | .obj i => Own.obj (s i) | o => o) = _
    rw [h.ownd _ _ h1 hn]
  · have : gheap ownN w = gheap own w := by
      funext b
      unfold gheap
      show (match (match own b with | .obj i => Own.obj (s i) | o => o) with | .gst => w.heap[b]? | _ => none) = _
      cases own b <;> rfl
    rw [this]; exact h.gst

/-- Some objects stay here, the others are laid aside. -/
theorem Rel.part (h : Rel E I ρ D G g w) {G₁ G₂ : Objs} (h1 : ∀ i o, G₁ i = some o → G i = some o) (h2 : ∀ i o, G₂ i = some o → G i = some o ∧ G₁ i = none) : Rel E I ρ D G₁ (pack ρ D G₂ g) w := by
  obtain ⟨own, h⟩ := h
  let ownN : Nat → Own := fun b => match own b with
    | .obj i => (match G₁ i with | some _ => .obj i | none => .gst)
    | o => o
  let ownG : Nat → Own := fun b => match own b with
    | .imm => .free
    | .obj i => (match G₁ i with | some _ => .free | none => .obj i)
    | o => o
  have Ng : ∀ b, ownN b = .gst ↔ own b = .gst ∨ ∃ i, own b = .obj i ∧ G₁ i = none := by
    intro b
    show (match own b with | .obj i => (match G₁ i with | some _ => Own.obj i | none => .gst) | o => o) = .gst ↔ _
    cases ho : own b with
    | obj i => simp only []; cases hg : G₁ i <;> simp [hg]
    | _ => simp
  refine ⟨ownN, ⟨h.env, ?_, ?_, fun i o e => h.key i o (h1 i o e), fun i o e => h.obj i o (h1 i o e), ?_, ownG, ?_, ?_, fun i o e => h.key i o (h2 i o e).1, ?_, ?_, ?_⟩⟩
  · intro b hb
    apply h.lt b
    intro e
    apply hb
    show (match own b with | .obj i => (match G₁ i with | some _ => Own.obj i | none => .gst) | o => o) = _
    rw [e]
  · intro b c hb
    obtain ⟨h3, h4⟩ := h.imm b c hb
    refine ⟨?_, h4⟩
    show (match own b with | .obj i => (match G₁ i with | some _ => Own.obj i | none => .gst) | o => o) = _
    rw [h3]
  · intro i o e hn
    have := h.ownd i o (h1 i o e) hn
    show (match own (ρ i).blk with | .obj i => (match G₁ i with | some _ => Own.obj i | none => .gst) | o => o) = _
    rw [this]; simp only [e]
  · intro b hb
    have hb : (match own b with | .imm => Own.free | .obj i => (match G₁ i with | some _ => .free | none => .obj i) | o => o) ≠ .free := hb
    have hlt : b < w.heap.size := h.lt b (by intro e; rw [e] at hb; exact hb rfl)
    unfold gheap
    have : ownN b = .gst := by
      rw [Ng]
      cases ho : own b with
      | gst => exact .inl rfl
      | obj i =>
        rw [ho] at hb
        simp only [] at hb
        cases hg : G₁ i with
        | some _ => rw [hg] at hb; exact absurd rfl hb
        | none => exact .inr ⟨i, rfl, hg⟩
      | _ => rw [ho] at hb; exact absurd rfl hb
    rw [this]; exact heap_ne_none hlt
  · intro b e
    have e : (match own b with | .imm => Own.free | .obj i => (match G₁ i with | some _ => .free | none => .obj i) | o => o) = .imm := e
    cases ho : own b with
    | obj i => rw [ho] at e; simp only [] at e; cases hg : G₁ i <;> rw [hg] at e <;> cases e
    | _ => rw [ho] at e; cases e
  · intro i o e
    obtain ⟨h3, h4⟩ := h2 i o e
    refine (h.obj i o h3).mono (Imm.le_refl I) (fun _ h => h) (fun _ _ => rfl) (h.key i o h3) fun hn => ?_
    have := h.ownd i o h3 hn
    unfold gheap
    rw [(Ng _).2 (.inr ⟨i, this, h4⟩)]
  · intro i o e hn
    obtain ⟨h3, h4⟩ := h2 i o e
    have := h.ownd i o h3 hn
    show (match own (ρ i).blk with | .imm => Own.free | .obj i => (match G₁ i with | some _ => .free | none => .obj i) | o => o) = _
    rw [this]; simp only [h4]
  · have : (fun b => match ownG b with | .gst => gheap ownN w b | _ => none) = gheap own w := by
      funext b
      show (match (match own b with | .imm => Own.free | .obj i => (match G₁ i with | some _ => .free | none => .obj i) | o => o) with | .gst => gheap ownN w b | _ => none) = _
      unfold gheap
      cases ho : own b with
      | gst => simp only []; rw [(Ng b).2 (.inl ho)]
      | obj i => simp only []; cases hg : G₁ i <;> rfl
      | _ => rfl
    show g.P I (fun b => match ownG b with | .gst => gheap ownN w b | _ => none)
    rw [this]; exact h.gst
end

/-! A call that is handed objects -/
/-- The caller's names of the callee's objects; what is new comes behind. -/
def nameOf (ids : List Nat) (nx : Nat) (i : Nat) : Nat := if i < ids.length then ids.getD i 0 else nx + (i - ids.length)
def nodupB : List Nat → Bool
  | [] => true
  | x :: l => !(l.any (Nat.beq x)) && nodupB l

theorem nodupB_ok : ∀ {l : List Nat}, nodupB l = true → ∀ i j, i < l.length → j < l.length → l.getD i 0 = l.getD j 0 → i = j
  | [], _, i, j, hi, _, _ => by simp at hi
  | x :: l, h, i, j, hi, hj, e => by
    simp only [nodupB, Bool.and_eq_true, Bool.not_eq_true', List.any_eq_false] at h
    have hx : ∀ k, k < l.length → l.getD k 0 ≠ x := by
      intro k hk e
      have hm : l.getD k 0 ∈ l := by
        rw [List.getD_eq_getElem?_getD, List.getElem?_eq_getElem hk]; exact List.getElem_mem hk
      exact h.1 _ hm (by rw [e]; simp)
    cases i with
    | zero =>
      cases j with
      | zero => rfl
      | succ j => exact absurd e.symm (hx j (by simpa using hj))
    | succ i =>
      cases j with
      | zero => exact absurd e (hx i (by simpa using hi))
      | succ j => rw [nodupB_ok h.2 i j (by simpa using hi) (by simpa using hj) (by simpa using e)]

theorem nameOf_inj {ids : List Nat} {nx : Nat} (hd : nodupB ids = true) (hl : ids.all (Nat.blt · nx) = true) : ∀ i j, nameOf ids nx i = nameOf ids nx j → i = j := by
  have hb : ∀ k, k < ids.length → ids.getD k 0 < nx := by
    intro k hk
    rw [List.all_eq_true] at hl
    have hm : ids.getD k 0 ∈ ids := by
      rw [List.getD_eq_getElem?_getD, List.getElem?_eq_getElem hk]; exact List.getElem_mem hk
    exact Nat.le_of_ble_eq_true (hl _ hm)
  intro i j e
  unfold nameOf at e
  split at e <;> split at e
  · exact nodupB_ok hd i j ‹_› ‹_› e
  · have := hb i ‹_›; omega
  · have := hb j ‹_›; omega
  · omega

end Go.Mq

/- A call that is handed objects. -/
namespace Go.Mq
open Go

mutual
def AVal.under (k : Nat) : AVal → Bool
  | .ref i _ => Nat.blt i k
  | .row i _ => Nat.blt i k
  | .mp i => Nat.blt i k
  | .fn _ l => underL k l
  | .agg l => underL k l
  | .tuple l => underL k l
  | .iface _ x => x.under k
  | _ => true
def underL (k : Nat) : List AVal → Bool
  | [] => true
  | x :: l => x.under k && underL k l
end
def RowC.under (k : Nat) : RowC → Prop
  | .gen _ _ f => ∀ i, (f i).under k = true
  | _ => True
def AObj.under (k : Nat) : AObj → Prop
  | .cellsT _ vs => underL k vs = true
  | .row _ r => r.under k
  | .set _ => True
  | .setp _ _ => True

theorem underL_get {k : Nat} : ∀ {l : List AVal}, underL k l = true → ∀ i (h : i < l.length), (l[i]).under k = true
  | [], _, i, h => by simp at h
  | x :: l, hc, i, h => by
    simp only [underL, Bool.and_eq_true] at hc
    cases i with
    | zero => exact hc.1
    | succ i => exact underL_get hc.2 i (by simpa using h)
theorem RowC.under_cell {k : Nat} {r : RowC} (h : r.under k) (i : Nat) : (r.cell i).under k = true := by
  cases r <;> first | rfl | exact h i

section
variable {I : Imm} {ρ : Nat → RB} {D : Nat → Prop} {k : Nat}
theorem CA.shrink {x : AVal} {v : Value} (h : CA I ρ D x v) : x.under k = true → CA I ρ (· < k) x v := by
  induction h with
  | d hd => exact fun _ => .d hd
  | und => exact fun _ => .und
  | any => exact fun _ => .any
  | ref => exact fun h => .ref (Nat.le_of_ble_eq_true h)
  | row _ h1 h2 h3 => exact fun h => .row (Nat.le_of_ble_eq_true h) h1 h2 h3
  | row0 _ h1 => exact fun h => .row0 (Nat.le_of_ble_eq_true h) h1
  | mp => exact fun h => .mp (Nat.le_of_ble_eq_true h)
  | fn hl _ ih => exact fun h => .fn hl fun i hi => ih i hi (underL_get (by simpa [AVal.under] using h) i hi)
  | agg hl _ ih => exact fun h => .agg hl fun i hi => ih i hi (underL_get (by simpa [AVal.under] using h) i hi)
  | tuple hl _ ih => exact fun h => .tuple hl fun i hi => ih i hi (underL_get (by simpa [AVal.under] using h) i hi)
  | val => exact fun _ => .val
  | iface _ ih => exact fun h => .iface (ih (by simpa [AVal.under] using h))

theorem All2.shrink : ∀ {l : List AVal} {vs : List Value}, All2 I ρ D l vs → underL k l = true → All2 I ρ (· < k) l vs
  | [], [], _, _ => trivial
  | [], _ :: _, h, _ => h.elim
  | _ :: _, [], h, _ => h.elim
  | _ :: _, _ :: _, h, hc => by
    simp only [underL, Bool.and_eq_true] at hc
    exact ⟨h.1.shrink hc.1, All2.shrink h.2 hc.2⟩

theorem ORel.shrink {h : Nat → Option Obj} {id : Nat} {o : AObj} (e : ORel I ρ D h id o) (hu : o.under k) : ORel I ρ (· < k) h id o := by
  cases o with
  | cellsT ty vs =>
    obtain ⟨h1, cs, T, h2, h3, h4⟩ := e
    exact ⟨h1, cs, T, h2, h3, fun i hi => (h4 i hi).shrink (underL_get hu i hi)⟩
  | row el r =>
    rcases e with ⟨h1, h2⟩ | ⟨h1, h2, h3, cs, h4, h5, h6⟩
    · exact .inl ⟨h1, h2⟩
    · exact .inr ⟨h1, h2, h3, cs, h4, h5, fun i hi => (h6 i hi).shrink (RowC.under_cell hu i)⟩
  | set l => exact e
  | setp l x => exact e
end

section
variable {E : Env} {I : Imm} {ρ ρ' : Nat → RB} {D D' : Nat → Prop} {G G' : Objs} {g : Ghost} {w : World} {k : Nat}
theorem Rel.shrink (h : Rel E I ρ D G g w) (hu : ∀ i o, G i = some o → i < k ∧ o.under k) : Rel E I ρ (· < k) G g w := by
  obtain ⟨own, h⟩ := h
  exact ⟨own, ⟨h.env, h.lt, h.imm, fun i o e => (hu i o e).1, fun i o e => (h.obj i o e).shrink (hu i o e).2, h.ownd, h.gst⟩⟩
theorem Rel.grow (h : Rel E I ρ D G g w) (hD : ∀ i, D i → D' i) (hρ : ∀ i, D i → ρ' i = ρ i) : Rel E I ρ' D' G g w := by
  obtain ⟨own, h⟩ := h
  exact ⟨own, ⟨h.env, h.lt, h.imm, fun i o e => hD i (h.key i o e), fun i o e => (h.obj i o e).mono (Imm.le_refl I) hD hρ (h.key i o e) (fun _ => rfl), fun i o e hn => by rw [hρ i (h.key i o e)] at hn ⊢; exact h.ownd i o e hn, h.gst⟩⟩
theorem Rel.key (h : Rel E I ρ D G g w) {i : Nat} {o : AObj} (e : G i = some o) : D i := by obtain ⟨own, h⟩ := h; exact h.key i o e
end

/-- The objects of a list, by other names, are there. -/
def StIn (G : Objs) (s : Nat → Nat) (k : Nat) : List (Nat × AObj) → Prop
  | [] => True
  | (i, o) :: r => (Nat.blt i k = true ∧ G (s i) = some (o.ren s) ∧ o.under k) ∧ StIn G s k r

def sget : List (Nat × AObj) → Nat → Option AObj
  | [], _ => none
  | (k, v) :: r, t => bif Nat.beq k t then some v else sget r t

theorem StIn.get {G : Objs} {s : Nat → Nat} {k : Nat} : ∀ {L : List (Nat × AObj)}, StIn G s k L → ∀ {i : Nat} {o : AObj}, sget L i = some o → i < k ∧ G (s i) = some (o.ren s) ∧ o.under k
  | [], _, i, o, e => by simp [sget] at e
  | (j, x) :: r, h, i, o, e => by
    simp only [sget] at e
    cases hb : Nat.beq j i with
    | true =>
      rw [hb, cond_true] at e
      cases e
      have := Nat.eq_of_beq_eq_true hb
      subst this
      exact ⟨Nat.le_of_ble_eq_true h.1.1, h.1.2⟩
    | false => rw [hb, cond_false] at e; exact StIn.get h.2 e

/-- What a function does to the objects that it is handed (named 0, 1, ..), whatever else there is. -/
def Fun (P : Program) (f : FuncId) (args : List AVal) (L : List (Nat × AObj)) (k : Nat) (r : AVal) (L' : List (Nat × AObj)) (N' : Nat) : Prop := Bodied P f ∧ ∀ g, CallC P f args (sget L) k g r (sget L') N' g

def callU (ids : List Nat) (nx N' : Nat) (L' : List (Nat × AObj)) : List (Nat × Option AObj) := (List.range N').map fun i => (nameOf ids nx i, (sget L' i).map (AObj.ren (nameOf ids nx)))
def callN (ids : List Nat) (nx N' : Nat) : List Nat := (List.range (N' - ids.length)).map fun j => nx + j

section
variable {α : Type} {s : Nat → Nat} {f : Nat → Option AObj}
theorem putG_ne : ∀ (l : List Nat) (G : Objs) (j : Nat), (∀ i ∈ l, s i ≠ j) → putG G (l.map fun i => (s i, f i)) j = G j
  | [], _, _, _ => rfl
  | x :: l, G, j, h => by
    simp only [List.map_cons, putG]
    rw [putG_ne l _ j (fun i hi => h i (by simp [hi])), if_neg (fun e => h x (by simp) e.symm)]
theorem putG_at (hs : ∀ i j, s i = s j → i = j) : ∀ (l : List Nat) (G : Objs) (i : Nat), i ∈ l → putG G (l.map fun i => (s i, f i)) (s i) = f i
  | [], _, _, h => by simp at h
  | x :: l, G, i, h => by
    simp only [List.map_cons, putG]
    by_cases hi : i ∈ l
    · exact putG_at hs l _ i hi
    · have hx : i = x := by simpa [hi] using h
      subst hx
      rw [putG_ne l _ _ (fun j hj e => hi (by have := hs _ _ e; subst this; exact hj)), if_pos rfl]
end

theorem fun_loc {P : Program} {f : FuncId} {cargs : List AVal} {L L' : List (Nat × AObj)} {k N' nx : Nat} {r : AVal} {X : FS} (h : ∀ g, CallC P f cargs (sget L) k g r (sget L') N' g) (ids : List Nat) (hk : ids.length = k) (hkN : k ≤ N')
    (hnd : nodupB ids = true) (hlt : ids.all (Nat.blt · nx) = true) (hu : underL k cargs = true) (hL : StIn X.G (nameOf ids nx) k L) (hall : (List.range k).all (fun i => (sget L i).isSome) = true) :
    CallLoc P f (renL (nameOf ids nx) cargs) ids false X ⟨r.ren (nameOf ids nx), callU ids nx N' L', callN ids nx N', none⟩ := by
  intro X' hG _ E I ρ w vs hr ha hfr
  have hs := nameOf_inj hnd hlt
  have hsk : ∀ i, i < k → nameOf ids nx i ∈ ids := by
    intro i hi
    unfold nameOf
    rw [if_pos (by omega), List.getD_eq_getElem?_getD, List.getElem?_eq_getElem (by omega)]
    exact List.getElem_mem (by omega)
  have hlt' : ∀ j ∈ ids, j < nx := fun j hj => Nat.le_of_ble_eq_true ((List.all_eq_true.1 hlt) j hj)
  have hin : ∀ j, j ∈ ids → ∃ i, i < k ∧ nameOf ids nx i = j := by
    intro j hj
    obtain ⟨i, hi, e⟩ := List.mem_iff_getElem.1 hj
    refine ⟨i, by omega, ?_⟩
    unfold nameOf
    rw [if_pos hi, List.getD_eq_getElem?_getD, List.getElem?_eq_getElem hi]
    exact e
  have hDk : ∀ i, i < k → X'.D (nameOf ids nx i) := by
    intro i hi
    have h1 := (List.all_eq_true.1 hall) i (by simpa using hi)
    cases ho : sget L i with
    | none => rw [ho] at h1; simp at h1
    | some o =>
      have := (hL.get ho).2.1
      rw [← hG _ (hsk i hi)] at this
      exact hr.key this
  -- the objects that are handed over, and the others
  let G₁ : Objs := fun j => if j ∈ ids then X'.G j else none
  let G₂ : Objs := fun j => if j ∈ ids then none else X'.G j
  have h1 : Rel E I ρ X'.D G₁ (pack ρ X'.D G₂ X'.g) w := by
    refine hr.part (fun i o e => ?_) (fun i o e => ?_)
    · have e : (if i ∈ ids then X'.G i else none) = some o := e
      split at e
      · exact e
      · cases e
    · have e : (if i ∈ ids then none else X'.G i) = some o := e
      split at e
      · cases e
      · rename_i hn
        exact ⟨e, if_neg hn⟩
  have h2 : Rel E I (fun i => ρ (nameOf ids nx i)) (fun i => X'.D (nameOf ids nx i)) (sget L) (pack ρ X'.D G₂ X'.g) w := by
    refine h1.ren_dn hs fun i o e => ?_
    obtain ⟨a1, a2, a3⟩ := hL.get e
    show (if _ ∈ ids then X'.G _ else none) = _
    rw [if_pos (hsk i a1), hG _ (hsk i a1)]; exact a2
  have h3 : Rel E I (fun i => ρ (nameOf ids nx i)) (· < k) (sget L) (pack ρ X'.D G₂ X'.g) w := h2.shrink fun i o e => ⟨(hL.get e).1, (hL.get e).2.2⟩
  have ha2 := (All2.ren_dn ha).shrink hu
  refine (h _ E I _ w vs h3 ha2).mono ?_
  rintro en w' ⟨I', ρc, v, hI, hρ, he, hr', hv⟩
  have hnw : ∀ j, j ∈ callN ids nx N' ↔ nx ≤ j ∧ j < nx + (N' - k) := by
    intro j
    unfold callN
    simp only [List.mem_map, List.mem_range, hk]
    constructor
    · rintro ⟨a, h1, rfl⟩; omega
    · intro ⟨h1, h2⟩; exact ⟨j - nx, by omega, by omega⟩
  let ρ' : Nat → RB := fun j => if nx ≤ j ∧ j < nx + (N' - k) then ρc (k + (j - nx)) else ρ j
  have hρ's : ∀ i, i < N' → ρ' (nameOf ids nx i) = ρc i := by
    intro i hi
    show (if _ then _ else _) = _
    by_cases hik : i < k
    · have := hlt' _ (hsk i hik)
      rw [if_neg (by omega), hρ i hik]
    · have e : nameOf ids nx i = nx + (i - k) := by unfold nameOf; rw [if_neg (by omega), hk]
      rw [e, if_pos (by omega)]
      congr 1
      omega
  have hρ'o : ∀ j, X'.D j → ρ' j = ρ j := by
    intro j hj
    show (if _ then _ else _) = _
    rw [if_neg (fun e => hfr j ((hnw j).2 e) hj)]
  have hD' : ∀ i, i < N' → (nameOf ids nx i ∈ callN ids nx N' ∨ X'.D (nameOf ids nx i)) := by
    intro i hi
    by_cases hik : i < k
    · exact .inr (hDk i hik)
    · have e : nameOf ids nx i = nx + (i - k) := by unfold nameOf; rw [if_neg (by omega), hk]
      exact .inl ((hnw _).2 (by omega))
  have h4 : Rel E I' (fun i => ρ' (nameOf ids nx i)) (fun i => nameOf ids nx i ∈ callN ids nx N' ∨ X'.D (nameOf ids nx i)) (sget L') (pack ρ X'.D G₂ X'.g) w' := hr'.grow hD' hρ's
  let G3 : Objs := putG (fun _ => none) (callU ids nx N' L')
  have hG3 : ∀ i, i < N' → G3 (nameOf ids nx i) = (sget L' i).map (AObj.ren (nameOf ids nx)) := fun i hi => putG_at (f := fun i => (sget L' i).map (AObj.ren (nameOf ids nx))) hs _ _ i (by simpa using hi)
  have hG3n : ∀ j, (∀ i, i < N' → nameOf ids nx i ≠ j) → G3 j = none := fun j hj => putG_ne (f := fun i => (sget L' i).map (AObj.ren (nameOf ids nx))) _ _ j (fun i hi => hj i (by simpa using hi))
  have h5 : Rel E I' ρ' (fun j => j ∈ callN ids nx N' ∨ X'.D j) G3 (pack ρ X'.D G₂ X'.g) w' := by
    refine Rel.ren_up (D := fun j => j ∈ callN ids nx N' ∨ X'.D j) h4 fun j o' e => ?_
    by_cases hj : ∃ i, i < N' ∧ nameOf ids nx i = j
    · obtain ⟨i, hi, rfl⟩ := hj
      rw [hG3 i hi] at e
      cases ho : sget L' i with
      | none => rw [ho] at e; cases e
      | some o => rw [ho] at e; cases e; exact ⟨i, o, rfl, ho, rfl⟩
    · rw [hG3n j (fun i hi e2 => hj ⟨i, hi, e2⟩)] at e; cases e
  have h6 := h5.join (fun j hj => .inr hj) hρ'o
  refine ⟨I', ρ', v, hI, hρ'o, he, ?_, ?_⟩
  · have : (fun i => match G3 i with | some o => some o | none => G₂ i) = putG X'.G (callU ids nx N' L') := by
      funext j
      by_cases hj : ∃ i, i < N' ∧ nameOf ids nx i = j
      · obtain ⟨i, hi, rfl⟩ := hj
        have e2 : putG X'.G (callU ids nx N' L') (nameOf ids nx i) = (sget L' i).map (AObj.ren (nameOf ids nx)) := putG_at (f := fun i => (sget L' i).map (AObj.ren (nameOf ids nx))) hs _ _ i (by simpa using hi)
        rw [e2, hG3 i hi]
        cases ho : sget L' i with
        | some o => rfl
        | none =>
          show (if _ ∈ ids then none else X'.G _) = none
          by_cases hik : i < k
          · rw [if_pos (hsk i hik)]
          · split
            · rfl
            · cases hx : X'.G (nameOf ids nx i) with
              | none => rfl
              | some o =>
                have := hr.key hx
                have e : nameOf ids nx i = nx + (i - k) := by unfold nameOf; rw [if_neg (by omega), hk]
                exact absurd this (hfr _ ((hnw _).2 (by omega)))
      · have hne : ∀ i, i < N' → nameOf ids nx i ≠ j := fun i hi e2 => hj ⟨i, hi, e2⟩
        have e2 : putG X'.G (callU ids nx N' L') j = X'.G j := putG_ne (f := fun i => (sget L' i).map (AObj.ren (nameOf ids nx))) _ _ j (fun i hi => hne i (by simpa using hi))
        rw [e2, hG3n j hne]
        show (if j ∈ ids then none else X'.G j) = _
        split
        · rename_i hjm
          obtain ⟨i, hi, e⟩ := hin j hjm
          exact absurd e (hne i (by omega))
        · rfl
    have h7 : Rel E I' ρ' (fun j => j ∈ callN ids nx N' ∨ X'.D j) (fun i => match G3 i with | some o => some o | none => G₂ i) X'.g w' := h6
    rw [this] at h7
    exact h7
  · have hv2 : CA I' (fun i => ρ' (nameOf ids nx i)) (fun i => nameOf ids nx i ∈ callN ids nx N' ∨ X'.D (nameOf ids nx i)) r v := hv.mono (Imm.le_refl I') hD' hρ's
    exact hv2.ren_up (ρ := ρ') (D := fun j => j ∈ callN ids nx N' ∨ X'.D j)


theorem CallG.fun {P : Program} {f : FuncId} {args cargs : List AVal} {L L' : List (Nat × AObj)} {k N' nx : Nat} {r : AVal} {X : FS} {K : List Nat → Bool → Eff → Prop} (h : Fun P f cargs L k r L' N') (ids : List Nat) (hk : ids.length = k) (hkN : Nat.ble k N' = true)
    (hargs : renL (nameOf ids nx) cargs = args) (hnd : nodupB ids = true) (hlt : ids.all (Nat.blt · nx) = true) (hu : underL k cargs = true) (hL : StIn X.G (nameOf ids nx) k L) (hall : (List.range k).all (fun i => (sget L i).isSome) = true)
    (hK : K ids false ⟨r.ren (nameOf ids nx), callU ids nx N' L', callN ids nx N', none⟩) : CallG P f args X nx K := by
  subst hargs
  refine CallG.mk ⟨h.1, ids, false, _, ⟨fun i => ?_, fun p hp => ?_, fun _ => rfl⟩, fun_loc h.2 ids hk (Nat.le_of_ble_eq_true hkN) hnd hlt hu hL hall, hK⟩
  · simp only [callN, List.mem_map, List.mem_range, List.length_map, List.length_range]
    constructor
    · rintro ⟨a, h1, rfl⟩; omega
    · intro ⟨h1, h2⟩; exact ⟨i - nx, by omega, by omega⟩
  · simp only [callU, List.mem_map, List.mem_range] at hp
    obtain ⟨i, hi, rfl⟩ := hp
    by_cases hik : i < ids.length
    · refine .inl ?_
      show nameOf ids nx i ∈ ids
      unfold nameOf
      rw [if_pos hik, List.getD_eq_getElem?_getD, List.getElem?_eq_getElem hik]
      exact List.getElem_mem hik
    · refine .inr ?_
      show nameOf ids nx i ∈ callN ids nx N'
      unfold nameOf callN
      rw [if_neg hik]
      simp only [List.mem_map, List.mem_range]
      exact ⟨i - ids.length, by omega, rfl⟩

end Go.Mq

/- The conditions under which a piece of code comes to what is wanted: reckoned on abstract states. -/
namespace Go.Mq
open Go

/-- What is known while a function is walked: the program, its types, which slots hold what is never written, how many objects were handed in. -/
structure Cx where
  P : Program
  tt : List (Nat × TI)
  fz : List Nat
  nb : Nat

structure AState where
  tm : List (Nat × AVal)
  n : Nat
  st : List (Nat × AObj)
  nx : Nat
  g : Ghost

def look : List (Nat × AVal) → Nat → AVal
  | [], _ => .any
  | (k, v) :: r, t => bif Nat.beq k t then v else look r t
def AState.fs (σ : AState) : FS := ⟨σ.n, look σ.tm, sget σ.st, fun i => i < σ.nx, σ.g⟩

def forceO (o : AObj) (K : AObj → Prop) : Prop :=
  match o with
  | .cellsT ty l => forceL l fun l' => K (.cellsT ty l')
  | .row e r => K (.row e r)
  | .set l => K (.set l)
  | .setp l s => K (.setp l s)
theorem forceO_eq (o : AObj) (K : AObj → Prop) : forceO o K = K o := by cases o <;> simp [forceO, forceL_eq]

def eraseSt : List (Nat × AObj) → Nat → List (Nat × AObj)
  | [], _ => []
  | (i, o) :: r, id => bif Nat.beq i id then eraseSt r id else (i, o) :: eraseSt r id
theorem sget_erase : ∀ (st : List (Nat × AObj)) (id t : Nat), sget (eraseSt st id) t = if t = id then none else sget st t
  | [], _, _ => by simp [eraseSt, sget]
  | (i, o) :: r, id, t => by
    simp only [eraseSt]
    by_cases h : i = id
    · subst h
      rw [beq_self, cond_true, sget_erase r]
      by_cases h2 : t = i
      · simp [h2]
      · simp [h2, sget, beq_ne (Ne.symm h2)]
    · rw [beq_ne h, cond_false]
      simp only [sget, sget_erase r]
      by_cases h2 : i = t
      · subst h2; simp [h]
      · simp [beq_ne h2]

def forceN (n : Nat) (K : Nat → Prop) : Prop :=
  match n with
  | 0 => K 0
  | k + 1 => K (k + 1)
theorem forceN_eq (n : Nat) (K : Nat → Prop) : forceN n K = K n := by cases n <;> rfl
def forceSt (st : List (Nat × AObj)) (K : List (Nat × AObj) → Prop) : Prop :=
  match st with
  | [] => K []
  | (i, o) :: r => forceSt r fun r' => K ((i, o) :: r')
theorem forceSt_eq : ∀ (st : List (Nat × AObj)) (K : List (Nat × AObj) → Prop), forceSt st K = K st
  | [], _ => rfl
  | (i, o) :: r, K => by simp only [forceSt, forceSt_eq r]

def putSt (st : List (Nat × AObj)) (u : List (Nat × Option AObj)) (K : List (Nat × AObj) → Prop) : Prop :=
  match u with
  | [] => forceSt st K
  | (id, some o) :: r => forceN id fun id' => forceO o fun o' => putSt ((id', o') :: eraseSt st id') r K
  | (id, none) :: r => putSt (eraseSt st id) r K

theorem putSt_ok : ∀ (u : List (Nat × Option AObj)) (st : List (Nat × AObj)) (K : List (Nat × AObj) → Prop), putSt st u K → ∃ st', K st' ∧ sget st' = putG (sget st) u
  | [], st, K, h => ⟨st, by simpa only [putSt, forceSt_eq] using h, rfl⟩
  | (id, some o) :: r, st, K, h => by
    simp only [putSt, forceO_eq, forceN_eq] at h
    obtain ⟨st', h1, h2⟩ := putSt_ok r _ K h
    refine ⟨st', h1, ?_⟩
    rw [h2]
    simp only [putG]
    congr 1
    funext i
    simp only [sget, sget_erase]
    by_cases e : i = id
    · subst e; simp
    · simp [beq_ne (Ne.symm e), e]
  | (id, none) :: r, st, K, h => by
    simp only [putSt] at h
    obtain ⟨st', h1, h2⟩ := putSt_ok r _ K h
    refine ⟨st', h1, ?_⟩
    rw [h2]
    simp only [putG]
    congr 1
    funext i
    rw [sget_erase]

def nextNx (nw : List Nat) (nx : Nat) (K : Nat → Prop) : Prop :=
  match nw with
  | [] => K nx
  | [_] => K (nx + 1)
  | l => K (nx + l.length)
theorem nextNx_eq (nw : List Nat) (nx : Nat) (K : Nat → Prop) : nextNx nw nx K = K (nx + nw.length) := by
  unfold nextNx; split <;> rfl
def nextG (e : Option Ghost) (g : Ghost) (K : Ghost → Prop) : Prop :=
  match e with
  | none => K g
  | some g' => K g'
theorem nextG_eq (e : Option Ghost) (g : Ghost) (K : Ghost → Prop) : nextG e g K = K (e.getD g) := by cases e <;> rfl

def stepS (σ : AState) (dst : Option Tmp) (e : Eff) (K : AState → Prop) : Prop :=
  match σ with
  | ⟨tm, n, st, nx, g⟩ => match e with
    | ⟨v, u, nw, eg⟩ => putSt st u fun st' => nextNx nw nx fun nx' => nextG eg g fun g' => match dst with
      | none => K ⟨tm, n, st', nx', g'⟩
      | some d => bif Nat.blt d n then forceV v fun v' => K ⟨(d, v') :: tm, n, st', nx', g'⟩ else False

theorem stepS_ok {σ : AState} {dst : Option Tmp} {e : Eff} {K : AState → Prop} (h : stepS σ dst e K) : dstOk dst σ.n ∧ ∃ σ' : AState, K σ' ∧ σ'.n = σ.n ∧ σ'.nx = σ.nx + e.nw.length ∧
    ((∀ i, i ∈ e.nw ↔ σ.nx ≤ i ∧ i < σ.nx + e.nw.length) → σ'.fs = σ.fs.app dst e) := by
  obtain ⟨tm, n, st, nx, g⟩ := σ
  obtain ⟨v, u, nw, eg⟩ := e
  simp only [stepS] at h
  obtain ⟨st', h, hst⟩ := putSt_ok u st _ h
  rw [nextNx_eq, nextG_eq] at h
  have hD : (∀ i, i ∈ nw ↔ nx ≤ i ∧ i < nx + nw.length) → (fun i => i < nx + nw.length) = (fun i => i ∈ nw ∨ i < nx) := by
    intro hw; funext i; apply propext; rw [hw]; omega
  cases dst with
  | none =>
    simp only [] at h
    exact ⟨fun d hd => (by cases hd), _, h, rfl, rfl, fun hw => FS.ext rfl rfl hst (hD hw) rfl⟩
  | some d =>
    simp only [forceV_eq] at h
    cases hb : Nat.blt d n with
    | false => rw [hb] at h; exact h.elim
    | true =>
      rw [hb, cond_true] at h
      refine ⟨fun d' hd => (by cases hd; exact Nat.le_of_ble_eq_true hb), _, h, rfl, rfl, fun hw => FS.ext rfl ?_ hst (hD hw) rfl⟩
      funext t
      show look ((d, v) :: tm) t = if t = d then v else look tm t
      simp only [look]
      by_cases e : t = d
      · subst e; simp
      · simp [e, beq_ne (Ne.symm e)]

def setSlot (σ : AState) (d : Nat) (b : Bool) (K : AState → Prop) : Prop :=
  match σ with
  | ⟨tm, n, st, nx, g⟩ => K ⟨(d, .d (.bool b)) :: tm, n, st, nx, g⟩
theorem setSlot_ok {σ : AState} {d : Nat} {b : Bool} {K : AState → Prop} (h : setSlot σ d b K) (hl : look σ.tm d = .d (.bool b)) : ∃ σ' : AState, K σ' ∧ σ'.fs = σ.fs ∧ σ'.nx = σ.nx ∧ σ'.n = σ.n := by
  obtain ⟨tm, n, st, nx, g⟩ := σ
  refine ⟨_, h, FS.ext rfl ?_ rfl rfl rfl, rfl, rfl⟩
  funext t
  show look ((d, .d (.bool b)) :: tm) t = look tm t
  simp only [look]
  by_cases e : d = t
  · subst e; simp [hl]
  · simp [beq_ne e]

def evOpD (C : Cx) (dst : Option Tmp) (op : Op) (X : FS) (nx : Nat) (K : List Nat → Bool → Eff → Prop) : Prop :=
  match dst with
  | some d => bif C.fz.any (Nat.beq d) then fzK C.tt op (evT X.T) (fun v => K [] false (one1 v)) else evOp C.P C.tt op X nx K
  | none => evOp C.P C.tt op X nx K

theorem evOpD_ok {C : Cx} {E : Env} (htt : TTok C.P C.tt) {dst : Option Tmp} {op : Op} {T : TypeId} {pos : String} {aft : Array Edge} {gd : Option (Nat × Bool)} {X : FS} {nx : Nat}
    {K : List Nat → Bool → Eff → Prop} (hd : dstOk dst X.n) (hreal : RealE E X) (h : evOpD C dst op X nx K) : ∃ F gu e, K F gu e ∧ EffOK F gu nx e ∧ OpL C.P E ⟨dst, op, T, pos, aft, gd⟩ F gu X e := by
  unfold evOpD at h
  split at h
  · rw [Bool.cond_eq_ite] at h
    split at h
    · obtain ⟨r, h1, h2⟩ := fzK_ok (E := E) (T := T) (pos := pos) (aft := aft) (gd := gd) htt hd h
      exact ⟨[], false, one1 r, h1, .one, h2⟩
    · exact evOp_ok htt hd hreal h
  · exact evOp_ok htt hd hreal h

theorem evOpD_some {C : Cx} {E : Env} (htt : TTok C.P C.tt) {dst : Option Tmp} {op : Op} {X : FS} {nx : Nat}
    {K : List Nat → Bool → Eff → Prop} (hreal : RealE E X) (h : evOpD C dst op X nx K) : ∃ F gu e, K F gu e := by
  unfold evOpD at h
  have key : evOp C.P C.tt op X nx K → ∃ F gu e, K F gu e := fun h => by
    obtain ⟨F, gu, e, h1, _⟩ := evOp_ok (E := E) htt (dst := none) (T := 0) (pos := "") (aft := #[]) (gd := none) (fun d hd => by cases hd) hreal h
    exact ⟨F, gu, e, h1⟩
  split at h
  · rw [Bool.cond_eq_ite] at h
    split at h
    · obtain ⟨r, h1, _⟩ := fzK_ok (P := C.P) (E := E) (dst := none) (T := 0) (pos := "") (aft := #[]) (gd := none) htt (fun d hd => by cases hd) h
      exact ⟨[], false, one1 r, h1⟩
    · exact key h
  · exact key h

def evOps (C : Cx) (all : List Oper) : List Oper → List (List Nat × List Nat) → AState → (List (List Nat × List Nat) → AState → Prop) → Prop
  | [], acc, σ, K => K acc σ
  | o :: rest, acc, σ, K =>
    match o.guard with
    | none => evOpD C o.dst o.op σ.fs σ.nx fun F gu e => stepS σ o.dst e fun σ' => evOps C all rest ((footR (F, gu, e), footW (F, gu, e)) :: acc) σ' K
    | some (j, b) =>
      match slotOf all j with
      | none => False
      | some d =>
        match look σ.tm d with
        | .d (.bool c) =>
          bif b then
            Split c (setSlot σ d true fun σ => evOpD C o.dst o.op σ.fs σ.nx fun F gu e => stepS σ o.dst e fun σ' => evOps C all rest ((footR (F, gu, e), footW (F, gu, e)) :: acc) σ' K)
              (setSlot σ d false fun σ => stepS σ o.dst skipE fun σ' => evOps C all rest (([], []) :: acc) σ' K)
          else
            Split c (setSlot σ d true fun σ => stepS σ o.dst skipE fun σ' => evOps C all rest (([], []) :: acc) σ' K)
              (setSlot σ d false fun σ => evOpD C o.dst o.op σ.fs σ.nx fun F gu e => stepS σ o.dst e fun σ' => evOps C all rest ((footR (F, gu, e), footW (F, gu, e)) :: acc) σ' K)
        | .und => stepS σ o.dst skipE fun σ' => evOps C all rest (([], []) :: acc) σ' K
        | _ => False

theorem wp_real {P : Program} {o : Oper} {a : Act} {w : World} {K : Act → World → Prop} (h : o.wp P a w K (fun _ _ _ => False)) : ∃ a' w', K a' w' := by
  unfold Oper.wp at h
  generalize (execOp a.eval o).run P w = r at *
  cases r with
  | ok n w' =>
    cases n <;> simp only [Oper.upon] at h
    case enter f args =>
      obtain ⟨e, w', fr, h1, _⟩ := h []
      cases e with
      | returned v => exact ⟨_, _, h1⟩
      | panicked => exact h1.elim
      | outgrown => obtain ⟨_, _, h2⟩ := h1; exact h2.elim
    case row r args => obtain ⟨v, w', h1, _⟩ := h default []; exact ⟨_, _, h1⟩
    all_goals exact ⟨_, _, h⟩
  | halt x w' => cases x <;> simp only [Oper.upon] at h

theorem real_next {P : Program} {E : Env} {X : FS} {o : Oper} {F : List Nat} {gu : Bool} {e : Eff} {nx : Nat} (hr : RealE E X) (hD : ∀ id, X.D id ↔ id < nx) (he : EffOK F gu nx e) (hL : OpL P E o F gu X e) : RealE E (X.app o.dst e) := by
  obtain ⟨I, ρ, a, w, h⟩ := hr
  have hE := hL X ⟨rfl, fun _ _ => rfl, fun _ _ => rfl, fun _ => rfl⟩ I ρ a w h (fun id hid hd => by
    have := (he.nw id).1 hid; have := (hD id).1 hd; omega)
  obtain ⟨a', w', I', ρ', _, h'⟩ := wp_real hE
  exact ⟨I', ρ', a', w', h'⟩

theorem evOps_ok {C : Cx} {E : Env} (htt : TTok C.P C.tt) {all : List Oper} : ∀ (l : List Oper) (acc : List (List Nat × List Nat)) (σ : AState) (K : List (List Nat × List Nat) → AState → Prop), evOps C all l acc σ K → RealE E σ.fs →
    ∃ (es : Es) (σ' : AState), Chain C.P E all l σ.nx σ.fs es σ'.fs ∧ K ((es.map fun p => (footR p, footW p)).reverse ++ acc) σ' ∧ σ'.n = σ.n := by
  intro l
  induction l with
  | nil => intro acc σ K h _; exact ⟨[], σ, .nil, h, rfl⟩
  | cons o rest ih =>
    intro acc σ K h hreal
    -- an operation that is carried out
    have run : ∀ σ1 : AState, σ1.fs = σ.fs → σ1.nx = σ.nx → σ1.n = σ.n → Wants all o σ.fs → evOpD C o.dst o.op σ1.fs σ1.nx (fun F gu e => stepS σ1 o.dst e fun σ' => evOps C all rest ((footR (F, gu, e), footW (F, gu, e)) :: acc) σ' K) →
        ∃ (es : Es) (σ' : AState), Chain C.P E all (o :: rest) σ.nx σ.fs es σ'.fs ∧ K ((es.map fun p => (footR p, footW p)).reverse ++ acc) σ' ∧ σ'.n = σ.n := by
      intro σ1 hfs hnx hn hw h
      by_cases hd : dstOk o.dst σ1.fs.n
      · obtain ⟨F, gu, e, h1, h2, h3⟩ := evOpD_ok (E := E) htt (dst := o.dst) (T := o.type) (pos := o.pos) (aft := o.after) (gd := o.guard) hd (by rw [hfs]; exact hreal) h
        obtain ⟨_, σ2, h4, h5, h6, h7⟩ := stepS_ok h1
        have h7 := h7 h2.nw
        have hr2 : RealE E σ2.fs := by
          rw [h7]; exact real_next (o := o) (by rw [hfs]; exact hreal) (fun id => Iff.rfl) h2 h3
        obtain ⟨es, σ', h8, h9, h10⟩ := ih _ σ2 K h4 hr2
        refine ⟨(F, gu, e) :: es, σ', ?_, by simpa using h9, by rw [h10, h5, hn]⟩
        rw [h6, hnx, h7, hfs] at h8
        rw [hnx] at h2
        rw [hfs] at h3
        exact .run hw h2 h3 h8
      · exfalso
        -- what is reckoned asks for the slot
        obtain ⟨F, gu, e, h1⟩ := evOpD_some (E := E) htt (by rw [hfs]; exact hreal) h
        exact hd (stepS_ok h1).1
    have skip : ∀ σ1 : AState, σ1.fs = σ.fs → σ1.nx = σ.nx → σ1.n = σ.n → Skips all o σ.fs → stepS σ1 o.dst skipE (fun σ' => evOps C all rest (([], []) :: acc) σ' K) →
        ∃ (es : Es) (σ' : AState), Chain C.P E all (o :: rest) σ.nx σ.fs es σ'.fs ∧ K ((es.map fun p => (footR p, footW p)).reverse ++ acc) σ' ∧ σ'.n = σ.n := by
      intro σ1 hfs hnx hn hw h
      obtain ⟨hd, σ2, h4, h5, h6, h7⟩ := stepS_ok h
      have h7 := h7 (fun i => by simp [skipE]; try omega)
      have hr2 : RealE E σ2.fs := by
        rw [h7, hfs]
        obtain ⟨I, ρ, a, w, hr⟩ := hreal
        exact ⟨I, ρ, _, w, relT_skip hr (by rw [hn] at hd; exact hd)⟩
      obtain ⟨es, σ', h8, h9, h10⟩ := ih _ σ2 K h4 hr2
      refine ⟨([], false, skipE) :: es, σ', ?_, by simpa [footR, footW, skipE] using h9, by rw [h10, h5, hn]⟩
      rw [h7, hfs] at h8
      have : σ2.nx = σ.nx := by rw [h6, hnx]; rfl
      rw [this] at h8
      exact .skip hw (by rw [hn] at hd; exact hd) h8
    simp only [evOps] at h
    split at h
    · rename_i hg
      exact run σ rfl rfl rfl (by unfold Wants; rw [hg]; trivial) h
    · rename_i j b hg
      split at h
      · exact h.elim
      · rename_i d hd
        split at h
        · rename_i c hc
          have goR : ∀ b', b = b' → c = b' → (setSlot σ d b' fun σ => evOpD C o.dst o.op σ.fs σ.nx fun F gu e => stepS σ o.dst e fun σ' => evOps C all rest ((footR (F, gu, e), footW (F, gu, e)) :: acc) σ' K) →
              ∃ (es : Es) (σ' : AState), Chain C.P E all (o :: rest) σ.nx σ.fs es σ'.fs ∧ K ((es.map fun p => (footR p, footW p)).reverse ++ acc) σ' ∧ σ'.n = σ.n := by
            intro b' e1 e2 hq
            subst e1 e2
            obtain ⟨σ1, h3, h4, h5, h6⟩ := setSlot_ok hq hc
            exact run σ1 h4 h5 h6 (by unfold Wants; rw [hg]; exact ⟨d, hd, hc⟩) h3
          have goS : ∀ b', b = !b' → c = b' → (setSlot σ d b' fun σ => stepS σ o.dst skipE fun σ' => evOps C all rest (([], []) :: acc) σ' K) →
              ∃ (es : Es) (σ' : AState), Chain C.P E all (o :: rest) σ.nx σ.fs es σ'.fs ∧ K ((es.map fun p => (footR p, footW p)).reverse ++ acc) σ' ∧ σ'.n = σ.n := by
            intro b' e1 e2 hq
            subst e1 e2
            obtain ⟨σ1, h3, h4, h5, h6⟩ := setSlot_ok hq hc
            exact skip σ1 h4 h5 h6 (by unfold Skips; rw [hg]; exact ⟨d, hd, .inl (by rw [Bool.not_not]; exact hc)⟩) h3
          cases b with
          | true =>
            rw [cond_true] at h
            cases hcv : c with
            | true => exact goR true rfl hcv (h.1 hcv)
            | false => exact goS false rfl hcv (h.2 hcv)
          | false =>
            rw [cond_false] at h
            cases hcv : c with
            | true => exact goS true rfl hcv (h.1 hcv)
            | false => exact goR false rfl hcv (h.2 hcv)
        · rename_i hc
          exact skip σ rfl rfl rfl (by unfold Skips; rw [hg]; exact ⟨d, hd, .inr hc⟩) h
        · exact h.elim

/-- In whatever order they are carried out, it comes to the same. -/
structure Indep (ops : List Oper) (acc : List (List Nat × List Nat)) (q : Prop) : Prop where
  ok : indepB ops acc.reverse = true
  r : q

def evRegion (C : Cx) (ops : Array Oper) (draw : Bool) (σ : AState) (K : AState → Prop) : Prop :=
  bif draw then evOps C ops.toList ops.toList [] σ fun acc σ' => Indep ops.toList acc (K σ')
  else evOps C ops.toList ops.toList [] σ fun _ σ' => K σ'

/-- What is wanted of a piece of code, in every memory that the state fits. -/
def WPc (C : Cx) (c : Code) (K : Exit → AState → Prop) (σ : AState) : Prop :=
  ∀ E I ρ a w, E.nb = C.nb → RelT E I ρ σ.fs a w → c.wp C.P (fun e a' w' => ∃ I' ρ' σ', I.le I' ∧ K e σ' ∧ σ'.n = σ.n ∧ RelT E I' ρ' σ'.fs a' w') a w

end Go.Mq

/- Code, loops and functions. -/
namespace Go.Mq
open Go

/-- Behind a statement: what follows is reckoned when it is asked for. -/
def Then (C : Cx) (c : Code) (K : Exit → AState → Prop) (σ : AState) : Prop := WPc C c K σ
/-- A loop. -/
def LoopG (C : Cx) (b : Code) (K : Exit → AState → Prop) (σ : AState) : Prop := WPc C (.loop b) K σ
/-- What is not reckoned. -/
def Other (C : Cx) (c : Code) (K : Exit → AState → Prop) (σ : AState) : Prop := WPc C c K σ

def thenK (C : Cx) (b : Code) (K : Exit → AState → Prop) : Exit → AState → Prop := fun e σ' => match e with
  | .normal => Then C b K σ'
  | .exit id => K (.exit id) σ'
  | .goto l => K (.goto l) σ'
  | .ret => K .ret σ'
  | .panic c => K (.panic c) σ'
  | .outgrown => K .outgrown σ'
def blockK (id : Nat) (K : Exit → AState → Prop) : Exit → AState → Prop := fun e σ' => match e with
  | .exit id' => bif Nat.beq id' id then K .normal σ' else K (.exit id') σ'
  | .normal => K .normal σ'
  | .goto l => K (.goto l) σ'
  | .ret => K .ret σ'
  | .panic c => K (.panic c) σ'
  | .outgrown => K .outgrown σ'

def ev (C : Cx) : Code → (Exit → AState → Prop) → AState → Prop
  | .skip, K, σ => K .normal σ
  | .region _ ops d, K, σ => evRegion C ops d σ (K .normal)
  | .seq a b, K, σ => ev C a (thenK C b K) σ
  | .cond c a b, K, σ => match evT (look σ.tm) c with
    | .d (.bool t) => Split t (Then C a K σ) (Then C b K σ)
    | _ => False
  | .block id b, K, σ => ev C b (blockK id K) σ
  | .loop b, K, σ => LoopG C b K σ
  | .exit id, K, σ => K (.exit id) σ
  | .ret, K, σ => K .ret σ
  | c, K, σ => Other C c K σ

theorem WPc.mono {C : Cx} {c : Code} {K K' : Exit → AState → Prop} {σ : AState} (h : WPc C c K σ) (hk : ∀ e σ, K e σ → K' e σ) : WPc C c K' σ :=
  fun E I ρ a w hE hr => wp_mono (h E I ρ a w hE hr) fun _ _ _ ⟨I', ρ', σ', h1, h2, h3⟩ => ⟨I', ρ', σ', h1, hk _ _ h2, h3⟩

theorem WPc.region {C : Cx} (hm : C.P.follows .mixedOrders = true) (htt : TTok C.P C.tt) {id : Nat} {ops : Array Oper} {d : Bool} {K : Exit → AState → Prop} {σ : AState} (h : evRegion C ops d σ (K .normal)) : WPc C (.region id ops d) K σ := by
  intro E I ρ a w hE hr
  have hreal : RealE E σ.fs := ⟨I, ρ, a, w, hr⟩
  unfold evRegion at h
  cases d with
  | false =>
    rw [cond_false] at h
    obtain ⟨es, σ', h1, h2, h3⟩ := evOps_ok htt _ _ _ _ h hreal
    refine wp_region ?_
    have := chain_seq (Q := fun e a' w' => ∃ I' ρ' σ', I.le I' ∧ K e σ' ∧ σ'.n = σ.n ∧ RelT E I' ρ' σ'.fs a' w') (I0 := I) (fun I' ρ' a' w' hI' hr' => ⟨I', ρ', σ', hI', h2, h3, hr'⟩) h1 (fun _ => Iff.rfl) 0 rfl I ρ a w (Imm.le_refl I) hr
    rw [List.range_eq_range']
    simpa using this
  | true =>
    rw [cond_true] at h
    obtain ⟨es, σ', h1, ⟨h2, h2'⟩, h3⟩ := evOps_ok htt _ _ _ _ h hreal
    rw [List.append_nil, List.reverse_reverse] at h2
    obtain ⟨hf, hY⟩ := chain_facts (n0 := σ.nx) h1 0 rfl rfl XS_zero.symm rfl (Nat.zero_le _)
    refine wp_region_any hm ?_
    have hr' : RelT E I ρ σ.fs a { w with drawn := w.drawn + 1 } := ⟨hr.rel.drawn _, hr.defs, hr.size, hr.slot, hr.dom, hr.bas⟩
    have hl0 : listedS (Array.replicate ops.size false) = upto 0 := by
      funext k
      have : upto 0 k = false := upto_false.2 (by omega)
      rw [this]
      unfold listedS
      by_cases hk : k < ops.size <;> simp [hk]
    have := any_order (fun j hj => hf j (Nat.zero_le _) hj) (fun _ => Iff.rfl) h2 (Q := fun e a' w' => ∃ I' ρ' σ', I.le I' ∧ K e σ' ∧ σ'.n = σ.n ∧ RelT E I' ρ' σ'.fs a' w') (I0 := I)
      (fun I' ρ' a' w' hI' hr2 => ⟨I', ρ', σ', hI', h2', h3, by rw [hY]; exact hr2⟩) ops.size (Array.replicate ops.size false) (by simp) ?_ ?_ I ρ a _ (Imm.le_refl I) (by rw [hl0, XS_zero]; exact hr')
    · simpa using this
    · rw [hl0]; intro k o _ hk; have := upto_iff.1 hk; omega
    · rw [hl0]
      have : ∀ k, (!upto 0 k) = true := fun k => by
        have : upto 0 k = false := upto_false.2 (by omega)
        rw [this]; rfl
      simp [this]

theorem ev_ok {C : Cx} (hm : C.P.follows .mixedOrders = true) (htt : TTok C.P C.tt) : ∀ (c : Code) (K : Exit → AState → Prop) (σ : AState), ev C c K σ → WPc C c K σ := by
  intro c
  induction c with
  | skip => intro K σ h E I ρ a w hE hr; exact wp_skip ⟨I, ρ, σ, Imm.le_refl I, h, rfl, hr⟩
  | region id ops d => intro K σ h; exact WPc.region hm htt h
  | seq x y ihx ihy =>
    intro K σ h E I ρ a w hE hr
    refine wp_seq (wp_mono (ihx _ σ h E I ρ a w hE hr) ?_)
    rintro e a' w' ⟨I', ρ', σ', h1, h2, h3, h4⟩
    cases e with
    | normal =>
      refine wp_mono (h2 E I' ρ' a' w' hE h4) ?_
      rintro e2 a2 w2 ⟨I2, ρ2, σ2, g1, g2, g3, g4⟩
      exact ⟨I2, ρ2, σ2, Imm.le_trans h1 g1, g2, by rw [g3, h3], g4⟩
    | _ => exact ⟨I', ρ', σ', h1, h2, h3, h4⟩
  | cond c x y ihx ihy =>
    intro K σ h E I ρ a w hE hr
    simp only [ev] at h
    split at h
    · rename_i t ht
      have hv := hr.ev c
      rw [show evT σ.fs.T c = .d (.bool t) from ht] at hv
      refine wp_cond hv.bool ?_
      cases t with
      | true => exact h.1 rfl E I ρ a w hE hr
      | false => exact h.2 rfl E I ρ a w hE hr
    · exact h.elim
  | block id b ih =>
    intro K σ h E I ρ a w hE hr
    refine wp_block (wp_mono (ih _ σ h E I ρ a w hE hr) ?_)
    rintro e a' w' ⟨I', ρ', σ', h1, h2, h3, h4⟩
    cases e with
    | exit id' =>
      simp only [Exit.inBlock]
      simp only [blockK] at h2
      by_cases e : id' = id
      · subst e
        rw [beq_self, cond_true] at h2
        rw [if_pos rfl]
        exact ⟨I', ρ', σ', h1, h2, h3, h4⟩
      · rw [beq_ne e, cond_false] at h2
        rw [if_neg e]
        exact ⟨I', ρ', σ', h1, h2, h3, h4⟩
    | _ => exact ⟨I', ρ', σ', h1, h2, h3, h4⟩
  | exit id => intro K σ h E I ρ a w hE hr; exact wp_exit ⟨I, ρ, σ, Imm.le_refl I, h, rfl, hr⟩
  | ret => intro K σ h E I ρ a w hE hr; exact wp_ret ⟨I, ρ, σ, Imm.le_refl I, h, rfl, hr⟩
  | _ => intro K σ h; exact h

theorem then_go {C : Cx} (hm : C.P.follows .mixedOrders = true) (htt : TTok C.P C.tt) {c : Code} {K : Exit → AState → Prop} {σ : AState} (h : ev C c K σ) : Then C c K σ := ev_ok hm htt c K σ h

/-! States that say less -/
/-- Whatever fits the one state fits the other one. -/
def Ent (nb : Nat) (σ σ' : AState) : Prop := σ'.n = σ.n ∧ ∀ E I ρ a w, E.nb = nb → RelT E I ρ σ.fs a w → ∃ I' ρ', I.le I' ∧ RelT E I' ρ' σ'.fs a w

theorem Ent.refl (nb : Nat) (σ : AState) : Ent nb σ σ := ⟨rfl, fun _ I ρ _ _ _ h => ⟨I, ρ, Imm.le_refl I, h⟩⟩
theorem Ent.trans {nb : Nat} {a b c : AState} (h : Ent nb a b) (h' : Ent nb b c) : Ent nb a c := ⟨h'.1.trans h.1, fun E I ρ x w hE hr => by
  obtain ⟨I', ρ', h1, h2⟩ := h.2 E I ρ x w hE hr
  obtain ⟨I2, ρ2, h3, h4⟩ := h'.2 E I' ρ' x w hE h2
  exact ⟨I2, ρ2, Imm.le_trans h1 h3, h4⟩⟩

theorem WPc.ent {C : Cx} {c : Code} {K : Exit → AState → Prop} {σ σ' : AState} (he : Ent C.nb σ σ') (h : WPc C c K σ') : WPc C c K σ := by
  intro E I ρ a w hE hr
  obtain ⟨I', ρ', h1, h2⟩ := he.2 E I ρ a w hE hr
  refine wp_mono (h E I' ρ' a w hE h2) ?_
  rintro e a' w' ⟨I2, ρ2, σ2, g1, g2, g3, g4⟩
  exact ⟨I2, ρ2, σ2, Imm.le_trans h1 g1, g2, by rw [g3, he.1], g4⟩

theorem then_ent {C : Cx} {c : Code} {K : Exit → AState → Prop} {σ σ' : AState} (he : Ent C.nb σ σ') (h : Then C c K σ') : Then C c K σ := WPc.ent he h
/-- What a loop's body comes to: again, or out. -/
structure Again {α : Type} (nb : Nat) (S : α → AState) (pre : α → Prop) (μ : α → Nat) (m : Nat) (σ : AState) : Prop where
  ex : ∃ p, pre p ∧ μ p < m ∧ Ent nb σ (S p)

def loopK {α : Type} (nb : Nat) (S : α → AState) (pre : α → Prop) (μ : α → Nat) (m : Nat) (K : Exit → AState → Prop) : Exit → AState → Prop := fun e σ' => match e with
  | .normal => Again nb S pre μ m σ'
  | .exit id => K (.exit id) σ'
  | .goto l => K (.goto l) σ'
  | .ret => K .ret σ'
  | .panic ch => K (.panic ch) σ'
  | .outgrown => K .outgrown σ'

/-- A loop: from each state of a family to another one of it that is nearer the end, or out. -/
theorem loop_go {C : Cx} {c : Code} {K : Exit → AState → Prop} {σ : AState} {α : Type} (S : α → AState) (pre : α → Prop) (μ : α → Nat) (p0 : α) (h0 : pre p0) (he : Ent C.nb σ (S p0)) (hn : ∀ p, (S p).n = σ.n)
    (h : ∀ p, pre p → Then C c (loopK C.nb S pre μ (μ p) K) (S p)) : LoopG C c K σ := by
  intro E I ρ a w hE hr
  obtain ⟨I0, ρ0, h1, h2⟩ := he.2 E I ρ a w hE hr
  have key : ∀ (m : Nat) (p : α), μ p = m → pre p → ∀ I1 ρ1 a1 w1, I.le I1 → RelT E I1 ρ1 (S p).fs a1 w1 →
      ∀ (b : Frame) (k : List Item) (cs : List Frame), ∃ e a' w', (∃ I' ρ' σ', I.le I' ∧ K e σ' ∧ σ'.n = σ.n ∧ RelT E I' ρ' σ'.fs a' w') ∧ Arrives C.P (lone (b.at a1 (.code c :: .inLoop c :: k)) cs w1) b k cs e a' w' := by
    intro m
    induction m using Nat.strongRecOn with
    | _ m ih =>
      intro p hm hp I1 ρ1 a1 w1 hI1 hr1 b k cs
      obtain ⟨e, a2, w2, ⟨I2, ρ2, σ2, g1, g2, g3, g4⟩, harr⟩ := h p hp E I1 ρ1 a1 w1 hE hr1 b (.inLoop c :: k) cs
      have hI2 := Imm.le_trans hI1 g1
      have hn2 : σ2.n = σ.n := by rw [g3, hn]
      cases e with
      | normal =>
        obtain ⟨p', q1, q2, q3⟩ := g2.ex
        obtain ⟨I3, ρ3, q4, q5⟩ := q3.2 E I2 ρ2 a2 w2 hE g4
        obtain ⟨e3, a3, w3, r1, r2⟩ := ih (μ p') (hm ▸ q2) p' rfl q1 I3 ρ3 a2 w2 (Imm.le_trans hI2 q4) q5 b k cs
        exact ⟨e3, a3, w3, r1, .of_steps (Steps.trans harr (.one step_inLoop)) r2⟩
      | exit id => exact ⟨_, a2, w2, ⟨I2, ρ2, σ2, hI2, g2, hn2, g4⟩, .pass (x := .inLoop c) rfl (fun _ _ => .inl (by simp)) harr⟩
      | goto l => exact ⟨_, a2, w2, ⟨I2, ρ2, σ2, hI2, g2, hn2, g4⟩, .pass (x := .inLoop c) rfl (fun _ _ => .inl (by simp)) harr⟩
      | ret => exact ⟨_, a2, w2, ⟨I2, ρ2, σ2, hI2, g2, hn2, g4⟩, .pass (x := .inLoop c) rfl (fun _ _ => .inl (by simp)) harr⟩
      | panic ch => exact ⟨_, a2, w2, ⟨I2, ρ2, σ2, hI2, g2, hn2, g4⟩, .pass (x := .inLoop c) rfl (fun _ _ => .inl (by simp)) harr⟩
      | outgrown => exact ⟨_, a2, w2, ⟨I2, ρ2, σ2, hI2, g2, hn2, g4⟩, .pass (x := .inLoop c) rfl (fun _ _ => .inl (by simp)) harr⟩
  intro b k cs
  obtain ⟨e, a', w', h3, h4⟩ := key _ p0 rfl h0 I0 ρ0 a w h1 h2 b k cs
  exact ⟨e, a', w', h3, .of_steps (.one step_loop) h4⟩

/-! Fewer slots, fewer objects, other names -/
def TmIn (tm : List (Nat × AVal)) (s : Nat → Nat) (k : Nat) : List (Nat × AVal) → Prop
  | [] => True
  | (t, v) :: r => (look tm t = v.ren s ∧ v.under k = true) ∧ TmIn tm s k r

theorem TmIn.get {tm : List (Nat × AVal)} {s : Nat → Nat} {k : Nat} : ∀ {l : List (Nat × AVal)}, TmIn tm s k l → ∀ t, look l t = .any ∨ (look tm t = (look l t).ren s ∧ (look l t).under k = true)
  | [], _, t => .inl rfl
  | (j, v) :: r, h, t => by
    simp only [look]
    cases hb : Nat.beq j t with
    | true =>
      have := Nat.eq_of_beq_eq_true hb
      subst this
      exact .inr h.1
    | false => exact TmIn.get h.2 t

theorem Ent.re {nb : Nat} {σ σ' : AState} (ids : List Nat) (hn : σ'.n = σ.n) (hx : σ'.nx = ids.length) (hnd : nodupB ids = true) (hlt : ids.all (Nat.blt · σ.nx) = true) (hb : (List.range nb).all (fun i => Nat.blt i ids.length && Nat.beq (ids.getD i 0) i) = true)
    (hg : σ'.g = σ.g) (htm : TmIn σ.tm (nameOf ids σ.nx) ids.length σ'.tm) (hst : StIn (sget σ.st) (nameOf ids σ.nx) ids.length σ'.st) : Ent nb σ σ' := by
  have hs := nameOf_inj hnd hlt
  have hbb : ∀ i, i < nb → i < ids.length ∧ nameOf ids σ.nx i = i := by
    intro i hi
    have h1 := (List.all_eq_true.1 hb) i (by simpa using hi)
    simp only [Bool.and_eq_true] at h1
    have h2 : i < ids.length := Nat.le_of_ble_eq_true h1.1
    refine ⟨h2, ?_⟩
    unfold nameOf
    rw [if_pos h2]
    exact Nat.eq_of_beq_eq_true h1.2
  refine ⟨hn, fun E I ρ a w hE hr => ⟨I, fun i => ρ (nameOf ids σ.nx i), Imm.le_refl I, ?_, hr.defs, by rw [hr.size]; exact hn.symm, fun t => ?_, fun id hid => ?_, fun id hid => ?_⟩⟩
  · have h1 : Rel E I (fun i => ρ (nameOf ids σ.nx i)) (fun i => nameOf ids σ.nx i < σ.nx) (sget σ'.st) σ.g w := Rel.ren_dn (D := fun i => i < σ.nx) hr.rel hs fun i o e => (hst.get e).2.1
    have h2 := h1.shrink (k := ids.length) fun i o e => ⟨(hst.get e).1, (hst.get e).2.2⟩
    show Rel E I _ (fun i => i < σ'.nx) (sget σ'.st) σ'.g w
    rw [hx, hg]; exact h2
  · show CA I _ (fun i => i < σ'.nx) (look σ'.tm t) _
    rw [hx]
    rcases htm.get t with h1 | ⟨h1, h2⟩
    · rw [h1]; exact .any
    · have h3 : CA I ρ (fun i => i < σ.nx) (look σ.tm t) _ := hr.slot t
      rw [h1] at h3
      exact (CA.ren_dn h3).shrink h2
  · show id < σ'.nx
    rw [hx]; rw [hE] at hid; exact (hbb id hid).1
  · rw [hE] at hid
    show ρ (nameOf ids σ.nx id) = _
    rw [(hbb id hid).2]
    exact hr.bas id (by rw [hE]; exact hid)

attribute [irreducible] Then LoopG Other
end Go.Mq

/- Functions: from a body to a contract. -/
namespace Go.Mq
open Go

def resVal (ts : List Nat) (tmps : Array Value) : Value := match ts with
  | [t] => tmps.getD t undef
  | ts => .tuple (ts.map fun t => tmps.getD t undef).toArray
def resV (ts : List Nat) (σ : AState) : AVal := match ts with
  | [t] => look σ.tm t
  | ts => .tuple (ts.map fun t => look σ.tm t)

/-- What a function hands back fits. -/
def RetS (nb : Nat) (ts : List Nat) (r : AVal) (L' : List (Nat × AObj)) (N' : Nat) (g' : Ghost) (σ : AState) : Prop :=
  ∀ E I ρ a w, E.nb = nb → RelT E I ρ σ.fs a w → ∃ I' ρ', I.le I' ∧ (∀ id, id < E.nb → ρ' id = E.ρb id) ∧ Rel E I' ρ' (· < N') (sget L') g' w ∧ CA I' ρ' (· < N') r (resVal ts a.tmps)

def retK (nb : Nat) (ts : List Nat) (r : AVal) (L' : List (Nat × AObj)) (N' : Nat) (g' : Ghost) : Exit → AState → Prop := fun e σ => match e with
  | .ret => RetS nb ts r L' N' g' σ
  | .normal => RetS nb ts r L' N' g' σ
  | _ => False

theorem RetS.ent {nb : Nat} {ts : List Nat} {r : AVal} {L' : List (Nat × AObj)} {N' : Nat} {g' : Ghost} {σ σ' : AState} (he : Ent nb σ σ') (h : RetS nb ts r L' N' g' σ') : RetS nb ts r L' N' g' σ := by
  intro E I ρ a w hE hr
  obtain ⟨I', ρ', h1, h2⟩ := he.2 E I ρ a w hE hr
  obtain ⟨I2, ρ2, g1, g2⟩ := h E I' ρ' a w hE h2
  exact ⟨I2, ρ2, Imm.le_trans h1 g1, g2⟩

theorem Rel.drop {E : Env} {I : Imm} {ρ ρ' : Nat → RB} {D D' : Nat → Prop} {G : Objs} {g : Ghost} {w : World} (h : Rel E I ρ D G g w) : Rel E I ρ' D' (fun _ => none) g w := by
  obtain ⟨own, h⟩ := h
  let ownN : Nat → Own := fun b => match own b with
    | .obj _ => .free
    | o => o
  refine ⟨ownN, ⟨h.env, ?_, ?_, fun _ _ e => (by cases e), fun _ _ e => (by cases e), fun _ _ e => (by cases e), ?_⟩⟩
  · intro b hb
    apply h.lt b
    intro e
    apply hb
    show (match own b with | .obj _ => Own.free | o => o) = _
    rw [e]
  · intro b c hb
    obtain ⟨h1, h2⟩ := h.imm b c hb
    refine ⟨?_, h2⟩
    show (match own b with | .obj _ => Own.free | o => o) = _
    rw [h1]
  · have : gheap ownN w = gheap own w := by
      funext b
      unfold gheap
      show (match (match own b with | .obj _ => Own.free | o => o) with | .gst => w.heap[b]? | _ => none) = _
      cases ho : own b <;> rfl
    rw [this]; exact h.gst

theorem resV_ok {E : Env} {I : Imm} {ρ : Nat → RB} {σ : AState} {a : Act} {w : World} (h : RelT E I ρ σ.fs a w) (ts : List Nat) : CA I ρ (· < σ.nx) (resV ts σ) (resVal ts a.tmps) := by
  have multi : ∀ ts : List Nat, CA I ρ (· < σ.nx) (.tuple (ts.map fun t => look σ.tm t)) (.tuple (ts.map fun t => a.tmps.getD t undef).toArray) := by
    intro ts
    refine .tuple (by simp) fun i hi => ?_
    have hi' : i < ts.length := by simpa using hi
    simp [hi']
    have : CA I ρ (· < σ.nx) (look σ.tm ts[i]) _ := h.slot ts[i]
    simpa using this
  unfold resV resVal
  match ts with
  | [] => exact multi []
  | [t] => exact h.slot t
  | t :: u :: ts => exact multi (t :: u :: ts)

/-- What is handed back holds nothing that is written. -/
theorem ret_closed {nb : Nat} {ts : List Nat} {r : AVal} {g' : Ghost} {σ : AState} (hg : σ.g = g') (hr : resV ts σ = r) (hc : r.closed = true) : RetS nb ts r [] 0 g' σ := by
  intro E I ρ a w _ h
  subst hg
  refine ⟨I, ρ, Imm.le_refl I, h.bas, h.rel.drop, ?_⟩
  have := resV_ok h ts
  rw [hr] at this
  exact this.unbind hc

def StEq (st : List (Nat × AObj)) : List (Nat × AObj) → Prop
  | [] => True
  | (i, o) :: r => sget st i = some o ∧ StEq st r
theorem StEq.get {st : List (Nat × AObj)} : ∀ {L : List (Nat × AObj)}, StEq st L → ∀ {i : Nat} {o : AObj}, sget L i = some o → sget st i = some o
  | [], _, i, o, e => by simp [sget] at e
  | (j, x) :: r, h, i, o, e => by
    simp only [sget] at e
    cases hb : Nat.beq j i with
    | true =>
      rw [hb, cond_true] at e
      cases e
      have := Nat.eq_of_beq_eq_true hb
      subst this
      exact h.1
    | false => rw [hb, cond_false] at e; exact StEq.get h.2 e

/-- What is handed back, and the objects as they are left. -/
theorem ret_objs {nb : Nat} {ts : List Nat} {r : AVal} {L' : List (Nat × AObj)} {N' : Nat} {g' : Ghost} {σ : AState} (hg : σ.g = g') (hn : N' = σ.nx) (hr : resV ts σ = r) (hL0 : StEq σ.st L') (hb : nb ≤ N') : RetS nb ts r L' N' g' σ := by
  have hL : ∀ i o, sget L' i = some o → sget σ.st i = some o := fun i o => hL0.get
  intro E I ρ a w hE h
  subst hg hn
  have hv := resV_ok h ts
  rw [hr] at hv
  refine ⟨I, ρ, Imm.le_refl I, h.bas, ?_, hv⟩
  obtain ⟨own, hr⟩ := h.rel
  have hrel : RelO E I ρ (· < σ.nx) (sget σ.st) σ.g w own := hr
  exact ⟨own, ⟨hrel.env, hrel.lt, hrel.imm, fun i o e => hrel.key i o (hL i o e), fun i o e => hrel.obj i o (hL i o e), fun i o e => hrel.ownd i o (hL i o e), hrel.gst⟩⟩

def argTm : Nat → List AVal → List (Nat × AVal)
  | _, [] => []
  | k, x :: l => (k, x) :: argTm (k + 1) l

theorem look_argTm : ∀ (l : List AVal) (k t : Nat), look (argTm k l) t = if k ≤ t then l.getD (t - k) .any else .any
  | [], k, t => by simp [argTm, look]
  | x :: l, k, t => by
    simp only [argTm, look]
    by_cases h : k = t
    · subst h; simp
    · rw [beq_ne h, cond_false, look_argTm l]
      by_cases h2 : k ≤ t
      · have h3 : k + 1 ≤ t := by omega
        have h4 : t - k = (t - (k + 1)) + 1 := by omega
        simp [h2, h3, h4]
      · have h3 : ¬ k + 1 ≤ t := by omega
        simp [h2, h3]

theorem mapM_tmp {P : Program} {w : World} {tmps : Array Value} (F : ResultVar → Sem Value) (hF : ∀ t, F (.tmp t) = Pure.pure (tmps.getD t undef)) : ∀ ts : List Nat, ((ts.map ResultVar.tmp).mapM F).run P w = .ok (ts.map fun t => tmps.getD t undef) w
  | [] => by simp
  | t :: ts => by simp only [List.map_cons, List.mapM_cons, hF, Sem.run_bind, Sem.run_pure, Result.andThen_ok, mapM_tmp F hF ts]

theorem run_results {P : Program} {w : World} {fn : Func} {ts : List Nat} (h : fn.results.toList = ts.map ResultVar.tmp) (tmps : Array Value) : (results fn tmps).run P w = .ok (resVal ts tmps) w := by
  unfold results
  rw [Array.mapM_eq_mapM_toList, h]
  rw [Sem.run_bind, Sem.run_map, mapM_tmp (tmps := tmps) _ (fun t => by rfl) ts]
  simp only [Result.andThen_ok, Sem.run_pure]
  unfold resVal
  match ts with
  | [] => simp
  | [t] => simp
  | t :: u :: ts => simp

theorem CallC.of_body {P : Program} {tt : List (Nat × TI)} {fz : List Nat} {f : FuncId} {fn : Func} {body : Code} {args : List AVal} {ts : List Nat} {L L' : List (Nat × AObj)} {N N' : Nat} {g g' : Ghost} {r : AVal}
    (hf : P.funcs[f]? = some fn) (hb : fn.body = some body) (hres : fn.results.toList = ts.map ResultVar.tmp) (hsz : args.length ≤ fn.ntmps)
    (h : Then ⟨P, tt, fz, N⟩ body (retK N ts r L' N' g') ⟨argTm 0 args, fn.ntmps, L, N, g⟩) : CallC P f args (sget L) N g r (sget L') N' g' := by
  intro E I ρ w vs hr ha
  let E' : Env := ⟨E.base, N, ρ⟩
  have hlen : vs.size = args.length := by have := ha.len; simpa using this.symm
  have hr' : Rel E' I ρ (· < N) (sget L) g w := by
    obtain ⟨own, hr⟩ := hr
    exact ⟨own, ⟨hr.env, hr.lt, hr.imm, hr.key, hr.obj, hr.ownd, hr.gst⟩⟩
  have harg : ∀ (l : List AVal) (us : List Value), All2 I ρ (· < N) l us → ∀ i, CA I ρ (· < N) (l.getD i .any) (us.getD i undef) := by
    intro l
    induction l with
    | nil => intro us _ i; simp; exact .any
    | cons x l ih =>
      intro us hu i
      cases us with
      | nil => exact hu.elim
      | cons u us =>
        cases i with
        | zero => exact hu.1
        | succ i => simpa using ih us hu.2 i
  have hT : RelT E' I ρ (AState.fs ⟨argTm 0 args, fn.ntmps, L, N, g⟩) { tmps := vs ++ Array.replicate (fn.ntmps - vs.size) undef, defers := [] } w := by
    refine ⟨hr', rfl, ?_, fun t => ?_, fun id h => h, fun id h => rfl⟩
    · simp [AState.fs]; omega
    · show CA I ρ (· < N) (look (argTm 0 args) t) _
      rw [look_argTm]
      simp only [Nat.zero_le, if_true, Nat.sub_zero]
      by_cases ht : t < vs.size
      · have := harg args vs.toList ha t
        simpa [Array.getElem?_append_left, ht] using this
      · have : args.getD t .any = .any := by simp [List.getElem?_eq_none (show args.length ≤ t by omega)]
        rw [this]; exact .any
  unfold Then WPc at h
  refine calls_of_wp hf hb (wp_mono (h E' I ρ _ w rfl hT) ?_)
  rintro e a' w' ⟨I', ρ', σ', h1, h2, h3, h4⟩
  have fin : RetS N ts r L' N' g' σ' → a'.defers = [] ∧ ∃ v, (results fn a'.tmps).run P w' = .ok v w' ∧ ∃ I' ρ' v', I.le I' ∧ (∀ id, id < N → ρ' id = ρ id) ∧ Ending.returned v = .returned v' ∧ Rel E I' ρ' (· < N') (sget L') g' w' ∧ CA I' ρ' (· < N') r v' := by
    intro hret
    obtain ⟨I2, ρ2, q1, q2, q3, q4⟩ := hret E' I' ρ' a' w' rfl h4
    refine ⟨h4.defs, _, run_results hres a'.tmps, I2, ρ2, _, Imm.le_trans h1 q1, q2, rfl, ?_, q4⟩
    obtain ⟨own, q3⟩ := q3
    exact ⟨own, ⟨q3.env, q3.lt, q3.imm, q3.key, q3.obj, q3.ownd, q3.gst⟩⟩
  cases e with
  | normal => exact fin h2
  | ret => exact fin h2
  | exit id => exact h2.elim
  | goto l => exact h2.elim
  | panic ch => exact h2.elim
  | outgrown => exact h2.elim

/-- A function that touches nothing that is owned. -/
theorem Pure.of_body {P : Program} (tt : List (Nat × TI)) (fz : List Nat) {f : FuncId} {fn : Func} {body : Code} {args : List AVal} (ts : List Nat) {r : AVal}
    (hf : P.funcs[f]? = some fn) (hnm : (fn.name == "runtime.NumGoroutine") = false) (hb : fn.body = some body) (hres : fn.results.toList = ts.map ResultVar.tmp) (hsz : args.length ≤ fn.ntmps)
    (h : ∀ g, Then ⟨P, tt, fz, 0⟩ body (retK 0 ts r [] 0 g) ⟨argTm 0 args, fn.ntmps, [], 0, g⟩) : Pure P f args r :=
  ⟨⟨fn, hf, hnm, by rw [hb]; rfl⟩, fun g => CallC.of_body (L := []) (L' := []) hf hb hres hsz (h g)⟩

theorem Fun.of_body {P : Program} (tt : List (Nat × TI)) (fz : List Nat) {f : FuncId} {fn : Func} {body : Code} {args : List AVal} (ts : List Nat) {L L' : List (Nat × AObj)} {N N' : Nat} {r : AVal}
    (hf : P.funcs[f]? = some fn) (hnm : (fn.name == "runtime.NumGoroutine") = false) (hb : fn.body = some body) (hres : fn.results.toList = ts.map ResultVar.tmp) (hsz : args.length ≤ fn.ntmps)
    (h : ∀ g, Then ⟨P, tt, fz, N⟩ body (retK N ts r L' N' g) ⟨argTm 0 args, fn.ntmps, L, N, g⟩) : Fun P f args L N r L' N' :=
  ⟨⟨fn, hf, hnm, by rw [hb]; rfl⟩, fun g => CallC.of_body hf hb hres hsz (h g)⟩

attribute [irreducible] RetS
end Go.Mq

/- Objects that are not written any more; slices that are nil yet. -/
namespace Go.Mq
open Go

mutual
/-- The row `id` is `y`, its cells and those of the block `id` are `z`. -/
def AVal.fz (id : Nat) (y : Data) (z : Nat → Data) : AVal → AVal
  | .ref i o => bif Nat.beq i id then .d (z o) else .ref i o
  | .row i n => bif Nat.beq i id then .d y else .row i n
  | .fn f l => .fn f (fzL id y z l)
  | .agg l => .agg (fzL id y z l)
  | .tuple l => .tuple (fzL id y z l)
  | .iface t x => .iface t (x.fz id y z)
  | v => v
def fzL (id : Nat) (y : Data) (z : Nat → Data) : List AVal → List AVal
  | [] => []
  | x :: l => x.fz id y z :: fzL id y z l
end
mutual
/-- The slices of the row `id` are as long as it, its cells that are pointed at are cells of it. -/
def AVal.fzOk (id m c : Nat) : AVal → Prop
  | .row i n => bif Nat.beq i id then n = m else True
  | .ref i o => bif Nat.beq i id then o < c else True
  | .fn _ l => fzOkL id m c l
  | .agg l => fzOkL id m c l
  | .tuple l => fzOkL id m c l
  | .iface _ x => x.fzOk id m c
  | _ => True
def fzOkL (id m c : Nat) : List AVal → Prop
  | [] => True
  | x :: l => x.fzOk id m c ∧ fzOkL id m c l
end
def RowC.fz (id : Nat) (y : Data) (z : Nat → Data) : RowC → RowC
  | .gen n sz f => .gen n sz fun i => (f i).fz id y z
  | r => r
def RowC.fzOk (id m c : Nat) : RowC → Prop
  | .gen _ _ f => ∀ i, (f i).fzOk id m c
  | _ => True
def AObj.fz (id : Nat) (y : Data) (z : Nat → Data) : AObj → AObj
  | .cellsT ty vs => .cellsT ty (fzL id y z vs)
  | .row e r => .row e (r.fz id y z)
  | .set l => .set l
  | .setp l x => .setp l x
def AObj.fzOk (id m c : Nat) : AObj → Prop
  | .cellsT _ vs => fzOkL id m c vs
  | .row _ r => r.fzOk id m c
  | .set _ => True
  | .setp _ _ => True
def fzTm (id : Nat) (y : Data) (z : Nat → Data) : List (Nat × AVal) → List (Nat × AVal)
  | [] => []
  | (t, v) :: r => (t, v.fz id y z) :: fzTm id y z r
def fzOkTm (id m c : Nat) : List (Nat × AVal) → Prop
  | [] => True
  | (_, v) :: r => v.fzOk id m c ∧ fzOkTm id m c r
def fzSt (id : Nat) (y : Data) (z : Nat → Data) : List (Nat × AObj) → List (Nat × AObj)
  | [] => []
  | (i, o) :: r => bif Nat.beq i id then fzSt id y z r else (i, o.fz id y z) :: fzSt id y z r
def fzOkSt (id m c : Nat) : List (Nat × AObj) → Prop
  | [] => True
  | (i, o) :: r => (bif Nat.beq i id then True else o.fzOk id m c) ∧ fzOkSt id m c r

section
variable {id m c : Nat} {y : Data} {z : Nat → Data}
theorem fzL_length : ∀ l : List AVal, (fzL id y z l).length = l.length
  | [] => rfl
  | _ :: l => by simp [fzL, fzL_length l]
theorem fzL_get : ∀ (l : List AVal) (i : Nat) (h : i < l.length), (fzL id y z l)[i]'(by rw [fzL_length]; exact h) = (l[i]).fz id y z
  | [], i, h => by simp at h
  | x :: l, 0, _ => rfl
  | x :: l, i + 1, h => by simpa [fzL] using fzL_get l i (by simpa using h)
theorem fzOkL_get : ∀ {l : List AVal}, fzOkL id m c l → ∀ i (h : i < l.length), (l[i]).fzOk id m c
  | [], _, i, h => by simp at h
  | x :: l, hc, i, h => by
    cases i with
    | zero => exact hc.1
    | succ i => exact fzOkL_get hc.2 i (by simpa using h)
theorem RowC.fz_len (r : RowC) : (r.fz id y z).len = r.len := by cases r <;> rfl
theorem RowC.fz_sz (r : RowC) : (r.fz id y z).sz = r.sz := by cases r <;> rfl
theorem RowC.fz_cell (r : RowC) (i : Nat) : (r.fz id y z).cell i = (r.cell i).fz id y z := by cases r <;> rfl
theorem RowC.fzOk_cell {r : RowC} (h : r.fzOk id m c) (i : Nat) : (r.cell i).fzOk id m c := by
  cases r <;> first | exact trivial | exact h i
theorem look_fz : ∀ (tm : List (Nat × AVal)) (t : Nat), look (fzTm id y z tm) t = (look tm t).fz id y z
  | [], _ => rfl
  | (j, v) :: r, t => by
    simp only [fzTm, look]
    cases Nat.beq j t with
    | true => rfl
    | false => exact look_fz r t
theorem look_fzOk : ∀ {tm : List (Nat × AVal)}, fzOkTm id m c tm → ∀ t, (look tm t).fzOk id m c
  | [], _, _ => trivial
  | (j, v) :: r, h, t => by
    simp only [look]
    cases Nat.beq j t with
    | true => exact h.1
    | false => exact look_fzOk h.2 t
theorem sget_fz : ∀ (st : List (Nat × AObj)) (i : Nat) (o : AObj), sget (fzSt id y z st) i = some o → i ≠ id ∧ ∃ o', sget st i = some o' ∧ o = o'.fz id y z
  | [], _, _, h => by simp [fzSt, sget] at h
  | (j, x) :: r, i, o, h => by
    simp only [fzSt] at h
    by_cases hj : j = id
    · rw [hj, beq_self, cond_true] at h
      obtain ⟨h1, o', h2, h3⟩ := sget_fz r i o h
      exact ⟨h1, o', by simp only [sget]; rw [hj, beq_ne (fun e => h1 e.symm), cond_false]; exact h2, h3⟩
    · rw [beq_ne hj, cond_false] at h
      simp only [sget] at h
      by_cases hi : j = i
      · subst hi
        rw [beq_self, cond_true] at h
        cases h
        exact ⟨hj, x, by simp [sget], rfl⟩
      · rw [beq_ne hi, cond_false] at h
        obtain ⟨h1, o', h2, h3⟩ := sget_fz r i o h
        exact ⟨h1, o', by simp only [sget]; rw [beq_ne hi, cond_false]; exact h2, h3⟩
theorem sget_fzOk : ∀ {st : List (Nat × AObj)}, fzOkSt id m c st → ∀ {i : Nat} {o : AObj}, sget st i = some o → i ≠ id → o.fzOk id m c
  | [], _, _, _, h, _ => by simp [sget] at h
  | (j, x) :: r, hk, i, o, h, hi => by
    simp only [sget] at h
    by_cases hj : j = i
    · subst hj
      rw [beq_self, cond_true] at h
      cases h
      have := hk.1
      rw [beq_ne hi, cond_false] at this
      exact this
    · rw [beq_ne hj, cond_false] at h
      exact sget_fzOk hk.2 h hi
end

section
variable {I J : Imm} {ρ : Nat → RB} {D : Nat → Prop} {id m c : Nat} {y : Data} {z : Nat → Data}
mutual
theorem CA.fz (hI : I.le J) (hy : ∀ v, CA I ρ D (.row id m) v → Cd J y v) (hz : ∀ o v, o < c → CA I ρ D (.ref id o) v → Cd J (z o) v) : ∀ {x : AVal} {v : Value}, CA I ρ D x v → x.fzOk id m c → CA J ρ D (x.fz id y z) v
  | .ref i o, v, h, hk => by
    simp only [AVal.fz, AVal.fzOk] at hk ⊢
    by_cases e : i = id
    · subst e; rw [beq_self, cond_true] at hk ⊢; exact .d (hz o v hk h)
    · rw [beq_ne e, cond_false]; exact h.mono hI (fun _ h => h) (fun _ _ => rfl)
  | .row i n, v, h, hk => by
    simp only [AVal.fz, AVal.fzOk] at hk ⊢
    by_cases e : i = id
    · subst e; rw [beq_self, cond_true] at hk ⊢; subst hk; exact .d (hy v h)
    · rw [beq_ne e, cond_false]; exact h.mono hI (fun _ h => h) (fun _ _ => rfl)
  | .fn f l, v, h, hk => by
    obtain ⟨cs, rfl, h1, h2⟩ := fn_inv h
    exact .fn (by rw [fzL_length]; exact h1) fun i hi => by rw [fzL_length] at hi; rw [fzL_get _ i hi]; exact CAs.fz hI hy hz (l := l) h2 hk i hi
  | .agg l, v, h, hk => by
    obtain ⟨cs, rfl, h1, h2⟩ := h.agg_inv
    exact .agg (by rw [fzL_length]; exact h1) fun i hi => by rw [fzL_length] at hi; rw [fzL_get _ i hi]; exact CAs.fz hI hy hz (l := l) h2 hk i hi
  | .tuple l, v, h, hk => by
    obtain ⟨cs, rfl, h1, h2⟩ := h.tuple_inv
    exact .tuple (by rw [fzL_length]; exact h1) fun i hi => by rw [fzL_length] at hi; rw [fzL_get _ i hi]; exact CAs.fz hI hy hz (l := l) h2 hk i hi
  | .iface t x, v, h, hk => by
    obtain ⟨u, rfl, h1⟩ := h.iface_inv
    exact .iface (CA.fz hI hy hz h1 hk)
  | .mp id, v, h, _ => h.mono hI (fun _ h => h) (fun _ _ => rfl)
  | .d x, v, h, _ => h.mono hI (fun _ h => h) (fun _ _ => rfl)
  | .und, v, h, _ => h.mono hI (fun _ h => h) (fun _ _ => rfl)
  | .any, v, h, _ => h.mono hI (fun _ h => h) (fun _ _ => rfl)
  | .val u, v, h, _ => h.mono hI (fun _ h => h) (fun _ _ => rfl)
theorem CAs.fz (hI : I.le J) (hy : ∀ v, CA I ρ D (.row id m) v → Cd J y v) (hz : ∀ o v, o < c → CA I ρ D (.ref id o) v → Cd J (z o) v) : ∀ {l : List AVal} {us : Nat → Value}, (∀ i (h : i < l.length), CA I ρ D l[i] (us i)) → fzOkL id m c l → ∀ i (h : i < l.length), CA J ρ D ((l[i]).fz id y z) (us i)
  | [], us, h, _, i, hi => by simp at hi
  | x :: l, us, h, hk, 0, hi => CA.fz hI hy hz (h 0 hi) hk.1
  | x :: l, us, h, hk, i + 1, hi => CAs.fz hI hy hz (l := l) (us := fun i => us (i + 1)) (fun j hj => h (j + 1) (by simpa using hj)) hk.2 i (by simpa using hi)
end

theorem ORel.fz {h : Nat → Option Obj} {i : Nat} {o : AObj} (hI : I.le J) (hy : ∀ v, CA I ρ D (.row id m) v → Cd J y v) (hz : ∀ o v, o < c → CA I ρ D (.ref id o) v → Cd J (z o) v) (e : ORel I ρ D h i o) (hk : o.fzOk id m c) : ORel J ρ D h i (o.fz id y z) := by
  cases o with
  | cellsT ty vs =>
    obtain ⟨h1, cs, T, h2, h3, h4⟩ := e
    exact ⟨h1, cs, T, h2, by rw [fzL_length]; exact h3, fun j hj => by rw [fzL_length] at hj; rw [fzL_get _ j hj]; exact (h4 j hj).fz hI hy hz (fzOkL_get hk j hj)⟩
  | row el r =>
    rcases e with ⟨h1, h2⟩ | ⟨h1, h2, h3, cs, h4, h5, h6⟩
    · exact .inl ⟨h1, by rw [RowC.fz_len]; exact h2⟩
    · exact .inr ⟨h1, by rw [RowC.fz_len]; exact h2, by rw [RowC.fz_len]; exact h3, cs, h4, by rw [RowC.fz_sz]; exact h5, fun j hj => by rw [RowC.fz_len, RowC.fz_sz] at hj; rw [RowC.fz_cell]; exact (h6 j hj).fz hI hy hz (RowC.fzOk_cell hk j)⟩
  | set l => exact e
  | setp l x => exact e
end

/-- The state behind the freezing of an object. -/
def AState.fz (σ : AState) (id : Nat) (y : Data) (z : Nat → Data) : AState := ⟨fzTm id y z σ.tm, σ.n, fzSt id y z σ.st, σ.nx, σ.g⟩

theorem Ent.fz_core {nb : Nat} {σ : AState} {id m c : Nat} {y : Data} {z : Nat → Data}
    (h : ∀ E I ρ a w, RelT E I ρ σ.fs a w → ∃ J, I.le J ∧ Rel E J ρ (· < σ.nx) (fun i => if i = id then none else sget σ.st i) σ.g w ∧ (∀ v, CA I ρ (· < σ.nx) (.row id m) v → Cd J y v) ∧ ∀ o v, o < c → CA I ρ (· < σ.nx) (.ref id o) v → Cd J (z o) v)
    (htm : fzOkTm id m c σ.tm) (hst : fzOkSt id m c σ.st) : Ent nb σ (σ.fz id y z) := by
  refine ⟨rfl, fun E I ρ a w hE hr => ?_⟩
  obtain ⟨J, hI, hrel, hy, hz⟩ := h E I ρ a w hr
  refine ⟨J, ρ, hI, ?_, hr.defs, hr.size, fun t => ?_, hr.dom, hr.bas⟩
  · show Rel E J ρ (· < σ.nx) (sget (fzSt id y z σ.st)) σ.g w
    have hob := hr.rel
    obtain ⟨own0, hob⟩ := hob
    have hob : RelO E I ρ (· < σ.nx) (sget σ.st) σ.g w own0 := hob
    obtain ⟨own, hrel⟩ := hrel
    refine ⟨own, ⟨hrel.env, hrel.lt, hrel.imm, fun i o e => ?_, fun i o e => ?_, fun i o e hn => ?_, hrel.gst⟩⟩
    · obtain ⟨h1, o', h2, rfl⟩ := sget_fz _ _ _ e
      exact hob.key i o' h2
    · obtain ⟨h1, o', h2, rfl⟩ := sget_fz _ _ _ e
      exact (hob.obj i o' h2).fz hI hy hz (sget_fzOk hst h2 h1)
    · obtain ⟨h1, o', h2, rfl⟩ := sget_fz _ _ _ e
      exact hrel.ownd i o' (by rw [if_neg h1]; exact h2) hn
  · show CA J ρ (· < σ.nx) (look (fzTm id y z σ.tm) t) _
    rw [look_fz]
    exact (show CA I ρ (· < σ.nx) (look σ.tm t) _ from hr.slot t).fz hI hy hz (look_fzOk htm t)

theorem rel_forget {E : Env} {I : Imm} {ρ : Nat → RB} {D : Nat → Prop} {G : Objs} {g : Ghost} {w : World} (h : Rel E I ρ D G g w) (id : Nat) : Rel E I ρ D (fun i => if i = id then none else G i) g w := by
  have := h.part (G₁ := fun i => if i = id then none else G i) (G₂ := fun _ => none) (fun i o e => by split at e; · cases e
                                                                                                      · exact e) (fun i o e => by cases e)
  obtain ⟨own, h⟩ := h
  -- the block stays with its owner's name, which nobody asks for
  exact ⟨own, ⟨h.env, h.lt, h.imm, fun i o e => by split at e; · cases e
                                                   · exact h.key i o e, fun i o e => by split at e; · cases e
                                                                                        · exact h.obj i o e, fun i o e hn => by split at e; · cases e
                                                                                                                                · exact h.ownd i o e hn, h.gst⟩⟩

/-- A row of trees. -/
theorem Ent.fz_row {nb : Nat} {σ : AState} (id : Nat) {e : TypeId} {l : List Tree} (h : sget σ.st id = some (.row e (.trees l))) (htm : fzOkTm id l.length 0 σ.tm) (hst : fzOkSt id l.length 0 σ.st) : Ent nb σ (σ.fz id (.trees l) (fun _ => .nils)) := by
  refine Ent.fz_core (c := 0) (fun E I ρ a w hr => ?_) htm hst
  have hrel : Rel E I ρ (· < σ.nx) (sget σ.st) σ.g w := hr.rel
  have h0 := hrel
  obtain ⟨own, ho⟩ := h0
  rcases ho.obj id _ h with ⟨h1, h2⟩ | ⟨h1, h2, h3, cs, h4, h5, h6⟩
  · have hl : l = [] := List.length_eq_zero_iff.1 h2
    refine ⟨I, Imm.le_refl I, rel_forget hrel id, fun v hv => ?_, fun o v h => by omega⟩
    obtain ⟨_, ⟨q, _⟩ | ⟨_, _, rfl⟩⟩ := hv.row_inv
    · rw [h1] at q; cases q
    · exact .trees (.inl ⟨hl, rfl⟩)
  · obtain ⟨hI, hrel'⟩ := hrel.freeze h h1 h4
    refine ⟨_, hI, hrel', fun v hv => ?_, fun o v h => by omega⟩
    obtain ⟨_, ⟨_, _, _, rfl⟩ | ⟨q, _⟩⟩ := hv.row_inv
    · simp only [RowC.len, RowC.sz, Nat.mul_one] at h2 h3 h5 h6
      refine .trees (.inr ⟨_, 0, _, fun i => cs.getD i undef, rfl, h2, h3.1, fun i hi => ?_, fun i hi => ?_⟩)
      · rw [Nat.zero_add]; exact Imm.put_cell Imm.put_at (by omega)
      · have := (h6 i hi).tree.mono hI
        rwa [List.getD_eq_getElem?_getD, List.getElem?_eq_getElem hi] at this
    · rw [h1] at q; cases q

/-- A row of whatever data. -/
theorem Ent.fz_slice {nb : Nat} {σ : AState} (id : Nat) {e : TypeId} {r : RowC} {n sz : Nat} {f : Nat → Nat → Data} (h : sget σ.st id = some (.row e r)) (hn : r.len = n) (hs : r.sz = sz) (hf : ∀ i j, i < n → j < sz → r.cell (i * sz + j) = .d (f i j))
    (htm : fzOkTm id n 0 σ.tm) (hst : fzOkSt id n 0 σ.st) : Ent nb σ (σ.fz id (.slice n sz f) (fun _ => .nils)) := by
  refine Ent.fz_core (c := 0) (fun E I ρ a w hr => ?_) htm hst
  have hrel : Rel E I ρ (· < σ.nx) (sget σ.st) σ.g w := hr.rel
  have h0 := hrel
  obtain ⟨own, ho⟩ := h0
  rcases ho.obj id _ h with ⟨h1, h2⟩ | ⟨h1, h2, h3, cs, h4, h5, h6⟩
  · have hl : n = 0 := by omega
    subst hl
    refine ⟨I, Imm.le_refl I, rel_forget hrel id, fun v hv => ?_, fun o v h => by omega⟩
    obtain ⟨_, ⟨q, _⟩ | ⟨_, _, rfl⟩⟩ := hv.row_inv
    · rw [h1] at q; cases q
    · exact .slice0
  · obtain ⟨hI, hrel'⟩ := hrel.freeze h h1 h4
    refine ⟨_, hI, hrel', fun v hv => ?_, fun o v h => by omega⟩
    obtain ⟨_, ⟨_, _, _, rfl⟩ | ⟨q, _⟩⟩ := hv.row_inv
    · rw [hn] at h2 h3 h6
      rw [hs] at h5 h6
      refine .slice (cs := fun i j => cs.getD (i * sz + j) undef) h2 h3.1 (fun i j hi hj => ?_) (fun i j hi hj => ?_)
      · have := slot_lt hi hj
        have h7 : n * sz ≤ (ρ id).cap * sz := Nat.mul_le_mul_right _ h2
        rw [Nat.zero_add]; exact Imm.put_cell Imm.put_at (by omega)
      · have := h6 _ (slot_lt hi hj)
        rw [hf i j hi hj] at this
        exact this.data.mono hI
    · rw [h1] at q; cases q

/-- A row in other words. -/
theorem Ent.regen {nb : Nat} {σ : AState} (id : Nat) {e : TypeId} {r : RowC} (r' : RowC) (h : sget σ.st id = some (.row e r)) (hn : r'.len = r.len) (hs : r'.sz = r.sz) (hf : ∀ i, i < r.len * r.sz → r'.cell i = r.cell i) :
    Ent nb σ ⟨σ.tm, σ.n, (id, .row e r') :: σ.st, σ.nx, σ.g⟩ := by
  refine ⟨rfl, fun E I ρ a w hE hr => ⟨I, ρ, Imm.le_refl I, ?_, hr.defs, hr.size, hr.slot, hr.dom, hr.bas⟩⟩
  obtain ⟨own, ho⟩ := hr.rel
  have ho : RelO E I ρ (· < σ.nx) (sget σ.st) σ.g w own := ho
  have key : ∀ i o, sget ((id, AObj.row e r') :: σ.st) i = some o → (i = id ∧ o = .row e r') ∨ (i ≠ id ∧ sget σ.st i = some o) := by
    intro i o e'
    simp only [sget] at e'
    by_cases hi : id = i
    · subst hi; rw [beq_self, cond_true] at e'; cases e'; exact .inl ⟨rfl, rfl⟩
    · rw [beq_ne hi, cond_false] at e'; exact .inr ⟨fun e => hi e.symm, e'⟩
  refine ⟨own, ⟨ho.env, ho.lt, ho.imm, fun i o e' => ?_, fun i o e' => ?_, fun i o e' hni => ?_, ho.gst⟩⟩
  · rcases key i o e' with ⟨rfl, _⟩ | ⟨_, h1⟩
    · exact ho.key _ _ h
    · exact ho.key _ _ h1
  · rcases key i o e' with ⟨rfl, rfl⟩ | ⟨_, h1⟩
    · rcases ho.obj _ _ h with ⟨h1, h2⟩ | ⟨h1, h2, h3, cs, h4, h5, h6⟩
      · exact .inl ⟨h1, by rw [hn]; exact h2⟩
      · exact .inr ⟨h1, by rw [hn]; exact h2, by rw [hn]; exact h3, cs, h4, by rw [hs]; exact h5, fun j hj => by rw [hn, hs] at hj; rw [hf j hj]; exact h6 j hj⟩
    · exact ho.obj _ _ h1
  · rcases key i o e' with ⟨rfl, _⟩ | ⟨_, h1⟩
    · exact ho.ownd _ _ h hni
    · exact ho.ownd _ _ h1 hni

/-- A node. -/
theorem Ent.fz_node {nb : Nat} {σ : AState} (id : Nat) {vs : List AVal} {t : Tree} (h : sget σ.st id = some (.cells vs)) (ht : nodeOf vs = some t) (htm : fzOkTm id 0 1 σ.tm) (hst : fzOkSt id 0 1 σ.st) : Ent nb σ (σ.fz id (.trees []) (fun _ => .tree t)) := by
  refine Ent.fz_core (m := 0) (c := 1) (fun E I ρ a w hr => ?_) htm hst
  have hrel : Rel E I ρ (· < σ.nx) (sget σ.st) σ.g w := hr.rel
  have h0 := hrel
  obtain ⟨own, ho⟩ := h0
  obtain ⟨h1, cs, T, h2, h3, h4⟩ := ho.obj id _ h
  obtain ⟨hI, hrel'⟩ := hrel.freeze h h1 h2
  refine ⟨_, hI, hrel', fun v hv => ?_, fun o v ho hv => ?_⟩
  · obtain ⟨_, ⟨_, _, _, rfl⟩ | ⟨_, _, rfl⟩⟩ := hv.row_inv
    · exact .trees (.inr ⟨_, 0, _, fun _ => undef, rfl, Nat.zero_le _, by simp [maxN], fun i hi => by simp at hi, fun i hi => by simp at hi⟩)
    · exact .trees (.inl ⟨rfl, rfl⟩)
  · obtain ⟨_, rfl⟩ := hv.ref_inv
    have : o = 0 := by omega
    subst this
    exact .tree (nodeOf_ok ht ⟨h3, h4⟩ hI Imm.put_at)

/-! Slices that are nil yet become rows -/
mutual
def AVal.unnil (id : Nat) : AVal → AVal
  | .row i n => bif Nat.beq i id && Nat.beq n 0 then .d .nils else .row i n
  | .fn f l => .fn f (unnilL id l)
  | .agg l => .agg (unnilL id l)
  | .tuple l => .tuple (unnilL id l)
  | v => v
def unnilL (id : Nat) : List AVal → List AVal
  | [] => []
  | x :: l => x.unnil id :: unnilL id l
end
def AObj.unnil (id : Nat) : AObj → AObj
  | .cellsT ty vs => .cellsT ty (unnilL id vs)
  | o => o
theorem unnilL_length {id : Nat} : ∀ l : List AVal, (unnilL id l).length = l.length
  | [] => rfl
  | _ :: l => by simp [unnilL, unnilL_length l]
theorem unnilL_get {id : Nat} : ∀ (l : List AVal) (i : Nat) (h : i < l.length), (unnilL id l)[i]'(by rw [unnilL_length]; exact h) = (l[i]).unnil id
  | [], i, h => by simp at h
  | x :: l, 0, _ => rfl
  | x :: l, i + 1, h => by simpa [unnilL] using unnilL_get l i (by simpa using h)

section
variable {I : Imm} {ρ : Nat → RB} {D : Nat → Prop} {id : Nat}
mutual
theorem CA.nil (hd : ¬ D id) : ∀ {x : AVal} {v : Value}, CA I ρ D (x.unnil id) v → CA I (upd ρ id ⟨0, 0, true⟩) (dom D id) x v
  | .row i n, v, h => by
    simp only [AVal.unnil] at h
    cases hb : (Nat.beq i id && Nat.beq n 0) with
    | true =>
      rw [hb, cond_true] at h
      simp only [Bool.and_eq_true] at hb
      have h1 := Nat.eq_of_beq_eq_true hb.1
      have h2 := Nat.eq_of_beq_eq_true hb.2
      subst h1 h2
      rw [h.nils]
      exact .row0 (.inl rfl) (by rw [upd_same])
    | false =>
      rw [hb, cond_false] at h
      exact h.mono (Imm.le_refl I) (fun _ => .inr) (upd_ne hd)
  | .fn f l, v, h => by
    obtain ⟨cs, rfl, h1, h2⟩ := fn_inv h
    rw [unnilL_length] at h1
    exact .fn h1 (CAs.nil hd (l := l) (fun i hi => by have := h2 i (by rw [unnilL_length]; exact hi); rwa [unnilL_get _ i hi] at this))
  | .agg l, v, h => by
    obtain ⟨cs, rfl, h1, h2⟩ := h.agg_inv
    rw [unnilL_length] at h1
    exact .agg h1 (CAs.nil hd (l := l) (fun i hi => by have := h2 i (by rw [unnilL_length]; exact hi); rwa [unnilL_get _ i hi] at this))
  | .tuple l, v, h => by
    obtain ⟨cs, rfl, h1, h2⟩ := h.tuple_inv
    rw [unnilL_length] at h1
    exact .tuple h1 (CAs.nil hd (l := l) (fun i hi => by have := h2 i (by rw [unnilL_length]; exact hi); rwa [unnilL_get _ i hi] at this))
  | .iface t x, v, h => h.mono (Imm.le_refl I) (fun _ => .inr) (upd_ne hd)
  | .ref i o, v, h => h.mono (Imm.le_refl I) (fun _ => .inr) (upd_ne hd)
  | .mp i, v, h => h.mono (Imm.le_refl I) (fun _ => .inr) (upd_ne hd)
  | .d x, v, h => h.mono (Imm.le_refl I) (fun _ => .inr) (upd_ne hd)
  | .und, v, h => h.mono (Imm.le_refl I) (fun _ => .inr) (upd_ne hd)
  | .any, v, h => .any
  | .val u, v, h => h.mono (Imm.le_refl I) (fun _ => .inr) (upd_ne hd)
theorem CAs.nil (hd : ¬ D id) : ∀ {l : List AVal} {us : Nat → Value}, (∀ i (h : i < l.length), CA I ρ D ((l[i]).unnil id) (us i)) → ∀ i (h : i < l.length), CA I (upd ρ id ⟨0, 0, true⟩) (dom D id) l[i] (us i)
  | [], us, h, i, hi => by simp at hi
  | x :: l, us, h, 0, hi => CA.nil hd (h 0 hi)
  | x :: l, us, h, i + 1, hi => CAs.nil hd (l := l) (us := fun i => us (i + 1)) (fun j hj => h (j + 1) (by simpa using hj)) i (by simpa using hi)
end

theorem ORel.nil (hd : ¬ D id) {h : Nat → Option Obj} {i : Nat} (hi : D i) {o : AObj} (e : ORel I ρ D h i (o.unnil id)) : ORel I (upd ρ id ⟨0, 0, true⟩) (dom D id) h i o := by
  cases o with
  | cellsT ty vs =>
    obtain ⟨h1, cs, T, h2, h3, h4⟩ := e
    rw [unnilL_length] at h3
    rw [← upd_ne (ρ := ρ) (r := ⟨0, 0, true⟩) hd i hi] at h1 h2
    exact ⟨h1, cs, T, h2, h3, CAs.nil hd (l := vs) (fun j hj => by have := h4 j (by rw [unnilL_length]; exact hj); rwa [unnilL_get _ j hj] at this)⟩
  | row el r => exact e.mono (Imm.le_refl I) (fun _ => .inr) (upd_ne hd) hi (fun _ => rfl)
  | set l => exact e.mono (Imm.le_refl I) (fun _ => .inr) (upd_ne hd) hi (fun _ => rfl)
  | setp l x => exact e.mono (Imm.le_refl I) (fun _ => .inr) (upd_ne hd) hi (fun _ => rfl)
end

def TmNil (tm : List (Nat × AVal)) (id : Nat) : List (Nat × AVal) → Prop
  | [] => True
  | (t, v) :: r => look tm t = v.unnil id ∧ TmNil tm id r
def StNil (st : List (Nat × AObj)) (id : Nat) : List (Nat × AObj) → Prop
  | [] => True
  | (i, o) :: r => (bif Nat.beq i id then (match o with | .row _ q => q.len = 0 | _ => False) else sget st i = some (o.unnil id)) ∧ StNil st id r

theorem TmNil.get {tm : List (Nat × AVal)} {id : Nat} : ∀ {l : List (Nat × AVal)}, TmNil tm id l → ∀ t, look l t = .any ∨ look tm t = (look l t).unnil id
  | [], _, t => .inl rfl
  | (j, v) :: r, h, t => by
    simp only [look]
    cases hb : Nat.beq j t with
    | true =>
      have := Nat.eq_of_beq_eq_true hb
      subst this
      exact .inr h.1
    | false => exact TmNil.get h.2 t
theorem StNil.get {st : List (Nat × AObj)} {id : Nat} : ∀ {l : List (Nat × AObj)}, StNil st id l → ∀ {i : Nat} {o : AObj}, sget l i = some o → (i = id ∧ ∃ e q, o = .row e q ∧ q.len = 0) ∨ (i ≠ id ∧ sget st i = some (o.unnil id))
  | [], _, i, o, h => by simp [sget] at h
  | (j, x) :: r, h, i, o, e => by
    simp only [sget] at e
    cases hb : Nat.beq j i with
    | true =>
      rw [hb, cond_true] at e
      cases e
      have := Nat.eq_of_beq_eq_true hb
      subst this
      have h1 := h.1
      by_cases hj : j = id
      · rw [hj, beq_self, cond_true] at h1
        cases x with
        | row e q => exact .inl ⟨hj, e, q, rfl, h1⟩
        | _ => exact h1.elim
      · rw [beq_ne hj, cond_false] at h1; exact .inr ⟨hj, h1⟩
    | false => rw [hb, cond_false] at e; exact StNil.get h.2 e

/-- Slices that are nil yet are the row `σ.nx`. -/
theorem Ent.nil {nb : Nat} {σ σ' : AState} (hn : σ'.n = σ.n) (hx : σ'.nx = σ.nx + 1) (hg : σ'.g = σ.g) (htm : TmNil σ.tm σ.nx σ'.tm) (hst : StNil σ.st σ.nx σ'.st) : Ent nb σ σ' := by
  have hd : ¬ (σ.nx < σ.nx) := Nat.lt_irrefl _
  have hD : (fun i => i < σ'.nx) = dom (fun i => i < σ.nx) σ.nx := by funext i; apply propext; rw [hx]; unfold dom; omega
  refine ⟨hn, fun E I ρ a w hE hr => ⟨I, upd ρ σ.nx ⟨0, 0, true⟩, Imm.le_refl I, ?_, hr.defs, by rw [hr.size]; exact hn.symm, fun t => ?_, fun id hid => ?_, fun id hid => ?_⟩⟩
  · show Rel E I _ (fun i => i < σ'.nx) (sget σ'.st) σ'.g w
    rw [hD, hg]
    obtain ⟨own, h⟩ := hr.rel
    have h : RelO E I ρ (fun i => i < σ.nx) (sget σ.st) σ.g w own := h
    refine ⟨own, ⟨h.env, h.lt, h.imm, fun i o e => ?_, fun i o e => ?_, fun i o e hni => ?_, h.gst⟩⟩
    · rcases hst.get e with ⟨h1, _⟩ | ⟨_, h1⟩
      · exact .inl h1
      · exact .inr (h.key _ _ h1)
    · rcases hst.get e with ⟨h1, e', q, rfl, h2⟩ | ⟨_, h1⟩
      · subst h1; exact .inl ⟨by rw [upd_same], h2⟩
      · exact ORel.nil (D := fun i => i < σ.nx) hd (h.key _ _ h1) (h.obj _ _ h1)
    · rcases hst.get e with ⟨h1, _⟩ | ⟨_, h1⟩
      · subst h1; rw [upd_same] at hni; cases hni
      · have hk := h.key _ _ h1
        rw [upd_ne (D := fun i => i < σ.nx) hd i hk] at hni ⊢
        exact h.ownd _ _ h1 hni
  · show CA I _ (fun i => i < σ'.nx) (look σ'.tm t) _
    rw [hD]
    rcases htm.get t with h1 | h1
    · rw [h1]; exact .any
    · have h3 : CA I ρ (fun i => i < σ.nx) (look σ.tm t) _ := hr.slot t
      rw [h1] at h3
      exact CA.nil (D := fun i => i < σ.nx) hd h3
  · show id < σ'.nx
    have := hr.dom id hid
    have : id < σ.nx := this
    omega
  · have : id < σ.nx := hr.dom id hid
    rw [upd_ne (D := fun i => i < σ.nx) hd id this]
    exact hr.bas id hid
end Go.Mq

/- Small lemmas for the walk. -/
namespace Go.Mq
open Go

theorem Tree.ind {p : Tree → Prop} (h0 : p .nil) (h1 : ∀ k n nm mk l, (∀ x ∈ l, p x) → p (.node k n nm mk l)) : ∀ t, p t
  | .nil => h0
  | .node k n nm mk l => h1 k n nm mk l fun x hx => Tree.ind h0 h1 x
termination_by t => SizeOf.sizeOf t
decreasing_by
  have := List.sizeOf_lt_of_mem hx
  simp
  omega

theorem int_eq {k : IntKind} {a b : Int} (h : a = b) : (AVal.d (.int k a)) = (AVal.d (.int k b)) := by rw [h]
theorem bool_eq {a b : Bool} (h : a = b) : (AVal.d (.bool a)) = (AVal.d (.bool b)) := by rw [h]
theorem str_eq {a b : ByteArray} (h : a = b) : (AVal.d (.str a)) = (AVal.d (.str b)) := by rw [h]
theorem tree_eq {a b : Tree} (h : a = b) : (AVal.d (.tree a)) = (AVal.d (.tree b)) := by rw [h]
theorem tup2 {a b c d : AVal} (h1 : a = c) (h2 : b = d) : AVal.tuple [a, b] = AVal.tuple [c, d] := by rw [h1, h2]
theorem tup3 {a b c d e f : AVal} (h1 : a = d) (h2 : b = e) (h3 : c = f) : AVal.tuple [a, b, c] = AVal.tuple [d, e, f] := by rw [h1, h2, h3]
theorem wrap64 {x : Int} (h1 : -9223372036854775808 ≤ x) (h2 : x < 9223372036854775808) : IntKind.i64.wrap x = x := by
  rw [IntKind.wrap_i64]; omega

theorem Tree.isNil_iff {t : Tree} : t.isNil = true ↔ t = .nil := by cases t <;> simp [Tree.isNil]
theorem Tree.isNil_not {t : Tree} : t.isNil = false ↔ t ≠ .nil := by cases t <;> simp [Tree.isNil]
/-- By the kids. -/
theorem Tree.ind' {p : Tree → Prop} (h0 : p .nil) (h1 : ∀ t, t ≠ .nil → (∀ x ∈ t.kids, p x) → p t) : ∀ t, p t :=
  Tree.ind h0 fun _ _ _ _ _ h => h1 _ (by simp) h
theorem getD_mem {l : List Tree} {i : Nat} (h : i < l.length) : l.getD i .nil ∈ l := by
  rw [List.getD_eq_getElem?_getD, List.getElem?_eq_getElem h]; exact List.getElem_mem h
theorem drop_step {l : List Tree} {i : Nat} (h : i < l.length) : l.drop i = l.getD i .nil :: l.drop (i + 1) := by
  rw [List.getD_eq_getElem?_getD, List.getElem?_eq_getElem h, List.drop_eq_getElem_cons h]; rfl
theorem drop_end {l : List Tree} {i : Nat} (h : l.length ≤ i) : l.drop i = [] := List.drop_eq_nil_of_le h

theorem bytes_eq {x y : ByteArray} : (x.toList == y.toList) = true ↔ x = y := by
  rw [← MapKept.bytes_beq, Go.beq_toListBytes]
theorem bytes_ne {x y : ByteArray} : (x.toList == y.toList) = false ↔ x ≠ y := by
  rw [← Bool.not_eq_true, bytes_eq]
theorem bytes_bne {x y : ByteArray} : (!(x.toList == y.toList)) = true ↔ x ≠ y := by rw [Bool.not_eq_true', bytes_ne]
theorem bytes_bne' {x y : ByteArray} : (!(x.toList == y.toList)) = false ↔ x = y := by rw [Bool.not_eq_false', bytes_eq]
theorem bytes_dec (x y : ByteArray) : (x.toList == y.toList) = decide (x = y) := by
  cases h : (x.toList == y.toList)
  · exact (decide_eq_false (bytes_ne.1 h)).symm
  · exact (decide_eq_true (bytes_eq.1 h)).symm
theorem empty_bytes : (⟨#[]⟩ : ByteArray) = ByteArray.empty := rfl

theorem cell_int {k : IntKind} {a b : Int} (h : a = b) : some (AObj.cells [.d (.int k a)]) = some (AObj.cells [.d (.int k b)]) := by rw [h]
theorem cell_bool {a b : Bool} (h : a = b) : some (AObj.cells [.d (.bool a)]) = some (AObj.cells [.d (.bool b)]) := by rw [h]

theorem int_dec (a b : Int) : (a == b) = decide (a = b) := rfl
theorem wrapB {x lo hi : Int} (h1 : -9223372036854775808 ≤ x) (h2 : x < 9223372036854775808) (h : lo ≤ x ∧ x < hi) : lo ≤ IntKind.i64.wrap x ∧ IntKind.i64.wrap x < hi := by rw [wrap64 h1 h2]; exact h
theorem wrapN {x : Int} {n : Nat} (h1 : -9223372036854775808 ≤ x) (h2 : x < 9223372036854775808) (h : x.toNat < n) : (IntKind.i64.wrap x).toNat < n := by rw [wrap64 h1 h2]; exact h

/-- No nil in it. -/
inductive Full : Tree → Prop
  | node {k n : Int} {nm mk : ByteArray} {l : List Tree} (h : ∀ x ∈ l, Full x) : Full (.node k n nm mk l)
theorem Full.ne {t : Tree} (h : Full t) : t ≠ .nil := by cases h; simp
theorem Full.kids {t : Tree} (h : Full t) : ∀ x ∈ t.kids, Full x := by cases h; assumption
theorem Full.kid {t : Tree} (h : Full t) {i : Nat} (hi : i < t.kids.length) : Full (t.kids.getD i .nil) := h.kids _ (getD_mem hi)
theorem Full.of {t : Tree} (h : t ≠ .nil) (hk : ∀ x ∈ t.kids, Full x) : Full t := by cases t with
  | nil => exact absurd rfl h
  | node => exact .node hk
end Go.Mq

/- Shorter words for the walk: what can be found by itself is left out. -/
namespace Go.Mq
open Go

theorem Side.go {p q : Prop} (r : q) (l : p := by first | assumption | exact trivial | rfl | exact Nat.le_of_ble_eq_true rfl | omega | exact fun _ _ => rfl) : Side p q := ⟨l, r⟩
theorem Hyp.go {n : Nat} {q : Prop} (h : n ≤ 17592186044416 → q) : Hyp (n ≤ 17592186044416) q := ⟨h⟩
theorem Split.tt {b : Bool} {p q : Prop} (h : p) (e : b = true := by
    first
    | rfl
    | assumption
    | ((try simp only [bytes_eq, bytes_ne, empty_bytes, bytes_bne, bytes_bne']); (try simp only [decide_eq_true_eq, decide_eq_false_iff_not, beq_iff_eq, beq_eq_false_iff_ne, bne_iff_ne, bne_eq_false_iff_eq, Bool.not_eq_true', Bool.not_eq_false', Tree.isNil_iff, Tree.isNil_not, Int.not_lt, Int.not_le, gt_iff_lt, ge_iff_le, ne_eq, Decidable.not_not, Int.toNat_natCast, Int.toNat_zero, Int.toNat_one]); first | assumption | omega)) : Split b p q := .of_true e h
theorem Split.ff {b : Bool} {p q : Prop} (h : q) (e : b = false := by
    first
    | rfl
    | assumption
    | ((try simp only [bytes_eq, bytes_ne, empty_bytes, bytes_bne, bytes_bne']); (try simp only [decide_eq_true_eq, decide_eq_false_iff_not, beq_iff_eq, beq_eq_false_iff_ne, bne_iff_ne, bne_eq_false_iff_eq, Bool.not_eq_true', Bool.not_eq_false', Tree.isNil_iff, Tree.isNil_not, Int.not_lt, Int.not_le, gt_iff_lt, ge_iff_le, ne_eq, Decidable.not_not, Int.toNat_natCast, Int.toNat_zero, Int.toNat_one]); first | assumption | omega)) : Split b p q := .of_false e h
theorem Split.go {b : Bool} {p q A B : Prop} (h1 : A → p) (h2 : B → q)
    (e1 : (b = true) = A := by
      (try simp only [bytes_eq, bytes_ne, empty_bytes, bytes_bne, bytes_bne'])
      (try simp only [decide_eq_true_eq, decide_eq_false_iff_not, beq_iff_eq, beq_eq_false_iff_ne, bne_iff_ne, bne_eq_false_iff_eq, Bool.not_eq_true', Bool.not_eq_false', Tree.isNil_iff, Tree.isNil_not, Int.not_lt, Int.not_le, gt_iff_lt, ge_iff_le, ne_eq, Decidable.not_not, Int.toNat_natCast, Int.toNat_zero, Int.toNat_one])
      first | done | rfl)
    (e2 : (b = false) = B := by
      (try simp only [bytes_eq, bytes_ne, empty_bytes, bytes_bne, bytes_bne'])
      (try simp only [decide_eq_true_eq, decide_eq_false_iff_not, beq_iff_eq, beq_eq_false_iff_ne, bne_iff_ne, bne_eq_false_iff_eq, Bool.not_eq_true', Bool.not_eq_false', Tree.isNil_iff, Tree.isNil_not, Int.not_lt, Int.not_le, gt_iff_lt, ge_iff_le, ne_eq, Decidable.not_not, Int.toNat_natCast, Int.toNat_zero, Int.toNat_one])
      first | done | rfl) : Split b p q := ⟨fun h => h1 (e1 ▸ h), fun h => h2 (e2 ▸ h)⟩
theorem Indep.go {ops : List Oper} {acc : List (List Nat × List Nat)} {q : Prop} (r : q) (ok : indepB ops acc.reverse = true := by kernel_rfl) : Indep ops acc q := ⟨ok, r⟩
theorem Ent.go {nb : Nat} {σ σ' : AState} (ids : List Nat) (hn : σ'.n = σ.n := by rfl) (hx : σ'.nx = ids.length := by rfl) (hnd : nodupB ids = true := by rfl) (hlt : ids.all (Nat.blt · σ.nx) = true := by rfl)
    (hb : (List.range nb).all (fun i => Nat.blt i ids.length && Nat.beq (ids.getD i 0) i) = true := by rfl) (hg : σ'.g = σ.g := by rfl)
    (htm : TmIn σ.tm (nameOf ids σ.nx) ids.length σ'.tm := by repeat' first | exact trivial | apply And.intro | rfl | (refine int_eq ?_; rw [wrap64] <;> omega))
    (hst : StIn (sget σ.st) (nameOf ids σ.nx) ids.length σ'.st := by repeat' first | exact trivial | apply And.intro | rfl | (refine int_eq ?_; rw [wrap64] <;> omega)) : Ent nb σ σ' := .re ids hn hx hnd hlt hb hg htm hst
theorem CallG.go {P : Program} {f : FuncId} {args cargs : List AVal} {L L' : List (Nat × AObj)} {k N' nx : Nat} {r : AVal} {X : FS} {K : List Nat → Bool → Eff → Prop} (h : Fun P f cargs L k r L' N') (ids : List Nat)
    (hK : K ids false ⟨r.ren (nameOf ids nx), callU ids nx N' L', callN ids nx N', none⟩)
    (hk : ids.length = k := by rfl) (hkN : Nat.ble k N' = true := by rfl)
    (hargs : renL (nameOf ids nx) cargs = args := by rfl) (hnd : nodupB ids = true := by rfl) (hlt : ids.all (Nat.blt · nx) = true := by rfl) (hu : underL k cargs = true := by rfl)
    (hL : StIn X.G (nameOf ids nx) k L := by repeat' first | exact trivial | apply And.intro | rfl | (refine int_eq ?_; rw [wrap64] <;> omega)) (hall : (List.range k).all (fun i => (sget L i).isSome) = true := by rfl) :
    CallG P f args X nx K := .fun h ids hk hkN hargs hnd hlt hu hL hall hK
theorem CallG.gp {P : Program} {f : FuncId} {args : List AVal} {X : FS} {nx : Nat} {K : List Nat → Bool → Eff → Prop} {r : AVal} (h : Pure P f args r) (hk : K [] false (one1 r)) (hc : closedL args = true := by rfl) : CallG P f args X nx K := .pure h hc hk
end Go.Mq

/- The types that the walk asks for, and what of them holds of the program. -/
namespace Go.Proofs.Ytlgajkoplklkiaa
open Go Go.Mq
noncomputable abbrev P : Program := Go.Proofs.Try.prog
theorem hm : P.follows .mixedOrders = true := by kernel_rfl
def ti3 : TI := ⟨(.int .i64), 1, 8, (.int .i64 0), [], false, 0, 0, false⟩
theorem tok3 : TIok P 3 ti3 where
  und := by kernel_rfl
  info := ⟨(P.info? 3).getD default, by kernel_rfl, by kernel_rfl, by kernel_rfl, by kernel_rfl⟩
  agg := rfl
  offm := fun fs h => by cases h
  offp := rfl
  offn := rfl
  elem := fun e h => by cases h
  arr := fun n e h => by cases h
def ti4 : TI := ⟨.bool, 1, 1, (.bool false), [], false, 0, 0, false⟩
theorem tok4 : TIok P 4 ti4 where
  und := by kernel_rfl
  info := ⟨(P.info? 4).getD default, by kernel_rfl, by kernel_rfl, by kernel_rfl, by kernel_rfl⟩
  agg := rfl
  offm := fun fs h => by cases h
  offp := rfl
  offn := rfl
  elem := fun e h => by cases h
  arr := fun n e h => by cases h
def ti5 : TI := ⟨(.int .u8), 1, 1, (.int .u8 0), [], false, 0, 0, false⟩
theorem tok5 : TIok P 5 ti5 where
  und := by kernel_rfl
  info := ⟨(P.info? 5).getD default, by kernel_rfl, by kernel_rfl, by kernel_rfl, by kernel_rfl⟩
  agg := rfl
  offm := fun fs h => by cases h
  offp := rfl
  offn := rfl
  elem := fun e h => by cases h
  arr := fun n e h => by cases h
def ti9 : TI := ⟨.string, 1, 16, (.string ByteArray.empty), [], false, 0, 0, false⟩
theorem tok9 : TIok P 9 ti9 where
  und := by kernel_rfl
  info := ⟨(P.info? 9).getD default, by kernel_rfl, by kernel_rfl, by kernel_rfl, by kernel_rfl⟩
  agg := rfl
  offm := fun fs h => by cases h
  offp := rfl
  offn := rfl
  elem := fun e h => by cases h
  arr := fun n e h => by cases h
def ti22 : TI := ⟨(.slice 40), 1, 24, (.slice none 0 0), [], false, 5, 72, false⟩
theorem tok22 : TIok P 22 ti22 where
  und := by kernel_rfl
  info := ⟨(P.info? 22).getD default, by kernel_rfl, by kernel_rfl, by kernel_rfl, by kernel_rfl⟩
  agg := rfl
  offm := fun fs h => by cases h
  offp := rfl
  offn := rfl
  elem := fun e h => by cases h; exact ⟨(P.info? 40).getD default, by kernel_rfl, by kernel_rfl, by kernel_rfl, ((P.info? 40).getD default).zero.getD undef, by kernel_rfl, by kernel_rfl⟩
  arr := fun n e h => by cases h
def ti24 : TI := ⟨(.struct #[⟨ "Cells", 22, 0, false, "", "", 0⟩]), 1, 24, (.agg #[(.slice none 0 0)]), [(0, 1)], true, 0, 0, false⟩
theorem tok24 : TIok P 24 ti24 where
  und := by kernel_rfl
  info := ⟨(P.info? 24).getD default, by kernel_rfl, by kernel_rfl, by kernel_rfl, by kernel_rfl⟩
  agg := rfl
  offm := fun fs h => by cases h; kernel_rfl
  offp := rfl
  offn := rfl
  elem := fun e h => by cases h
  arr := fun n e h => by cases h
def ti25 : TI := ⟨(.pointer 64), 1, 8, (.pointer none), [], false, 0, 0, false⟩
theorem tok25 : TIok P 25 ti25 where
  und := by kernel_rfl
  info := ⟨(P.info? 25).getD default, by kernel_rfl, by kernel_rfl, by kernel_rfl, by kernel_rfl⟩
  agg := rfl
  offm := fun fs h => by cases h
  offp := rfl
  offn := rfl
  elem := fun e h => by cases h
  arr := fun n e h => by cases h
def ti27 : TI := ⟨(.int .i64), 1, 8, (.int .i64 0), [], false, 0, 0, false⟩
theorem tok27 : TIok P 27 ti27 where
  und := by kernel_rfl
  info := ⟨(P.info? 27).getD default, by kernel_rfl, by kernel_rfl, by kernel_rfl, by kernel_rfl⟩
  agg := rfl
  offm := fun fs h => by cases h
  offp := rfl
  offn := rfl
  elem := fun e h => by cases h
  arr := fun n e h => by cases h
def ti33 : TI := ⟨(.func #[25] #[4] false), 1, 8, .nilFunc, [], false, 0, 0, false⟩
theorem tok33 : TIok P 33 ti33 where
  und := by kernel_rfl
  info := ⟨(P.info? 33).getD default, by kernel_rfl, by kernel_rfl, by kernel_rfl, by kernel_rfl⟩
  agg := rfl
  offm := fun fs h => by cases h
  offp := rfl
  offn := rfl
  elem := fun e h => by cases h
  arr := fun n e h => by cases h
def ti38 : TI := ⟨(.slice 3), 1, 24, (.slice none 0 0), [], false, 1, 8, false⟩
theorem tok38 : TIok P 38 ti38 where
  und := by kernel_rfl
  info := ⟨(P.info? 38).getD default, by kernel_rfl, by kernel_rfl, by kernel_rfl, by kernel_rfl⟩
  agg := rfl
  offm := fun fs h => by cases h
  offp := rfl
  offn := rfl
  elem := fun e h => by cases h; exact ⟨(P.info? 3).getD default, by kernel_rfl, by kernel_rfl, by kernel_rfl, ((P.info? 3).getD default).zero.getD undef, by kernel_rfl, by kernel_rfl⟩
  arr := fun n e h => by cases h
def ti40 : TI := ⟨(.struct #[⟨ "Kind", 3, 0, false, "", "", 0⟩, ⟨ "N", 3, 1, false, "", "", 8⟩, ⟨ "Name", 9, 2, false, "", "", 16⟩, ⟨ "Mark", 9, 3, false, "", "", 32⟩, ⟨ "Kids", 38, 4, false, "", "", 48⟩]), 5, 72, (.agg #[(.int .i64 0), (.int .i64 0), (.string ByteArray.empty), (.string ByteArray.empty), (.slice none 0 0)]), [(0, 1), (1, 1), (2, 1), (3, 1), (4, 1)], true, 0, 0, false⟩
theorem tok40 : TIok P 40 ti40 where
  und := by kernel_rfl
  info := ⟨(P.info? 40).getD default, by kernel_rfl, by kernel_rfl, by kernel_rfl, by kernel_rfl⟩
  agg := rfl
  offm := fun fs h => by cases h; kernel_rfl
  offp := rfl
  offn := rfl
  elem := fun e h => by cases h
  arr := fun n e h => by cases h
def ti53 : TI := ⟨(.slice 5), 1, 24, (.slice none 0 0), [], false, 1, 1, false⟩
theorem tok53 : TIok P 53 ti53 where
  und := by kernel_rfl
  info := ⟨(P.info? 53).getD default, by kernel_rfl, by kernel_rfl, by kernel_rfl, by kernel_rfl⟩
  agg := rfl
  offm := fun fs h => by cases h
  offp := rfl
  offn := rfl
  elem := fun e h => by cases h; exact ⟨(P.info? 5).getD default, by kernel_rfl, by kernel_rfl, by kernel_rfl, ((P.info? 5).getD default).zero.getD undef, by kernel_rfl, by kernel_rfl⟩
  arr := fun n e h => by cases h
def ti62 : TI := ⟨(.slice 25), 1, 24, (.slice none 0 0), [], false, 1, 8, false⟩
theorem tok62 : TIok P 62 ti62 where
  und := by kernel_rfl
  info := ⟨(P.info? 62).getD default, by kernel_rfl, by kernel_rfl, by kernel_rfl, by kernel_rfl⟩
  agg := rfl
  offm := fun fs h => by cases h
  offp := rfl
  offn := rfl
  elem := fun e h => by cases h; exact ⟨(P.info? 25).getD default, by kernel_rfl, by kernel_rfl, by kernel_rfl, ((P.info? 25).getD default).zero.getD undef, by kernel_rfl, by kernel_rfl⟩
  arr := fun n e h => by cases h
def ti64 : TI := ⟨(.struct #[⟨ "Kind", 3, 0, false, "", "", 0⟩, ⟨ "N", 3, 1, false, "", "", 8⟩, ⟨ "Name", 9, 2, false, "", "", 16⟩, ⟨ "Mark", 9, 3, false, "", "", 32⟩, ⟨ "Kids", 62, 4, false, "", "", 48⟩]), 5, 72, (.agg #[(.int .i64 0), (.int .i64 0), (.string ByteArray.empty), (.string ByteArray.empty), (.slice none 0 0)]), [(0, 1), (1, 1), (2, 1), (3, 1), (4, 1)], true, 0, 0, false⟩
theorem tok64 : TIok P 64 ti64 where
  und := by kernel_rfl
  info := ⟨(P.info? 64).getD default, by kernel_rfl, by kernel_rfl, by kernel_rfl, by kernel_rfl⟩
  agg := rfl
  offm := fun fs h => by cases h; kernel_rfl
  offp := rfl
  offn := rfl
  elem := fun e h => by cases h
  arr := fun n e h => by cases h
def ti67 : TI := ⟨(.pointer 3), 1, 8, (.pointer none), [], false, 0, 0, false⟩
theorem tok67 : TIok P 67 ti67 where
  und := by kernel_rfl
  info := ⟨(P.info? 67).getD default, by kernel_rfl, by kernel_rfl, by kernel_rfl, by kernel_rfl⟩
  agg := rfl
  offm := fun fs h => by cases h
  offp := rfl
  offn := rfl
  elem := fun e h => by cases h
  arr := fun n e h => by cases h
def ti84 : TI := ⟨(.struct #[⟨ "Kind", 3, 0, false, "", "", 0⟩, ⟨ "Word", 9, 1, false, "", "", 8⟩, ⟨ "From", 3, 2, false, "", "", 24⟩, ⟨ "To", 3, 3, false, "", "", 32⟩, ⟨ "Label", 4, 4, false, "", "", 40⟩, ⟨ "Kids", 9, 5, false, "", "", 48⟩]), 6, 64, (.agg #[(.int .i64 0), (.string ByteArray.empty), (.int .i64 0), (.int .i64 0), (.bool false), (.string ByteArray.empty)]), [(0, 1), (1, 1), (2, 1), (3, 1), (4, 1), (5, 1)], true, 0, 0, false⟩
theorem tok84 : TIok P 84 ti84 where
  und := by kernel_rfl
  info := ⟨(P.info? 84).getD default, by kernel_rfl, by kernel_rfl, by kernel_rfl, by kernel_rfl⟩
  agg := rfl
  offm := fun fs h => by cases h; kernel_rfl
  offp := rfl
  offn := rfl
  elem := fun e h => by cases h
  arr := fun n e h => by cases h
def ti97 : TI := ⟨(.func #[25, 3] #[25] false), 1, 8, .nilFunc, [], false, 0, 0, false⟩
theorem tok97 : TIok P 97 ti97 where
  und := by kernel_rfl
  info := ⟨(P.info? 97).getD default, by kernel_rfl, by kernel_rfl, by kernel_rfl, by kernel_rfl⟩
  agg := rfl
  offm := fun fs h => by cases h
  offp := rfl
  offn := rfl
  elem := fun e h => by cases h
  arr := fun n e h => by cases h
def ti98 : TI := ⟨(.func #[25, 3, 3] #[] false), 1, 8, .nilFunc, [], false, 0, 0, false⟩
theorem tok98 : TIok P 98 ti98 where
  und := by kernel_rfl
  info := ⟨(P.info? 98).getD default, by kernel_rfl, by kernel_rfl, by kernel_rfl, by kernel_rfl⟩
  agg := rfl
  offm := fun fs h => by cases h
  offp := rfl
  offn := rfl
  elem := fun e h => by cases h
  arr := fun n e h => by cases h
def ti101 : TI := ⟨(.slice 9), 1, 24, (.slice none 0 0), [], false, 1, 16, false⟩
theorem tok101 : TIok P 101 ti101 where
  und := by kernel_rfl
  info := ⟨(P.info? 101).getD default, by kernel_rfl, by kernel_rfl, by kernel_rfl, by kernel_rfl⟩
  agg := rfl
  offm := fun fs h => by cases h
  offp := rfl
  offn := rfl
  elem := fun e h => by cases h; exact ⟨(P.info? 9).getD default, by kernel_rfl, by kernel_rfl, by kernel_rfl, ((P.info? 9).getD default).zero.getD undef, by kernel_rfl, by kernel_rfl⟩
  arr := fun n e h => by cases h
def ti118 : TI := ⟨(.slice 84), 1, 24, (.slice none 0 0), [], false, 6, 64, false⟩
theorem tok118 : TIok P 118 ti118 where
  und := by kernel_rfl
  info := ⟨(P.info? 118).getD default, by kernel_rfl, by kernel_rfl, by kernel_rfl, by kernel_rfl⟩
  agg := rfl
  offm := fun fs h => by cases h
  offp := rfl
  offn := rfl
  elem := fun e h => by cases h; exact ⟨(P.info? 84).getD default, by kernel_rfl, by kernel_rfl, by kernel_rfl, ((P.info? 84).getD default).zero.getD undef, by kernel_rfl, by kernel_rfl⟩
  arr := fun n e h => by cases h
def ti122 : TI := ⟨(.slice 33), 1, 24, (.slice none 0 0), [], false, 1, 8, false⟩
theorem tok122 : TIok P 122 ti122 where
  und := by kernel_rfl
  info := ⟨(P.info? 122).getD default, by kernel_rfl, by kernel_rfl, by kernel_rfl, by kernel_rfl⟩
  agg := rfl
  offm := fun fs h => by cases h
  offp := rfl
  offn := rfl
  elem := fun e h => by cases h; exact ⟨(P.info? 33).getD default, by kernel_rfl, by kernel_rfl, by kernel_rfl, ((P.info? 33).getD default).zero.getD undef, by kernel_rfl, by kernel_rfl⟩
  arr := fun n e h => by cases h
def ti123 : TI := ⟨(.map 9 4), 1, 8, (.map none), [], false, 0, 0, false⟩
theorem tok123 : TIok P 123 ti123 where
  und := by kernel_rfl
  info := ⟨(P.info? 123).getD default, by kernel_rfl, by kernel_rfl, by kernel_rfl, by kernel_rfl⟩
  agg := rfl
  offm := fun fs h => by cases h
  offp := rfl
  offn := rfl
  elem := fun e h => by cases h
  arr := fun n e h => by cases h
def ti154 : TI := ⟨(.int .u64), 1, 8, (.int .u64 0), [], false, 0, 0, false⟩
theorem tok154 : TIok P 154 ti154 where
  und := by kernel_rfl
  info := ⟨(P.info? 154).getD default, by kernel_rfl, by kernel_rfl, by kernel_rfl, by kernel_rfl⟩
  agg := rfl
  offm := fun fs h => by cases h
  offp := rfl
  offn := rfl
  elem := fun e h => by cases h
  arr := fun n e h => by cases h
def tt : List (Nat × TI) := [(3, ti3), (4, ti4), (5, ti5), (9, ti9), (22, ti22), (24, ti24), (25, ti25), (27, ti27), (33, ti33), (38, ti38), (40, ti40), (53, ti53), (62, ti62), (64, ti64), (67, ti67), (84, ti84), (97, ti97), (98, ti98), (101, ti101), (118, ti118), (122, ti122), (123, ti123), (154, ti154)]
theorem htt : TTok P tt := .cons tok3 (.cons tok4 (.cons tok5 (.cons tok9 (.cons tok22 (.cons tok24 (.cons tok25 (.cons tok27 (.cons tok33 (.cons tok38 (.cons tok40 (.cons tok53 (.cons tok62 (.cons tok64 (.cons tok67 (.cons tok84 (.cons tok97 (.cons tok98 (.cons tok101 (.cons tok118 (.cons tok122 (.cons tok123 (.cons tok154 .nil))))))))))))))))))))))
end Go.Proofs.Ytlgajkoplklkiaa

namespace Go.Proofs.Ytlgajkoplklkiaa
open Go Go.Mq
set_option linter.all false


/-! ctor: kinds -/
def bareF (T : Tree) (name number : Bool) : Bool := decide (T.mark = ByteArray.empty) && (name || decide (T.name = ByteArray.empty)) && (number || T.n == 0)
theorem bare_ok (T : Tree) (hT : T ≠ .nil) (name number : Bool) : Pure P 68 [.d (.tree T), .d (.bool name), .d (.bool number)] (.d (.bool (bareF T name number))) := by
  refine Pure.of_body tt [] [6] Try.func68 rfl rfl rfl (Nat.le_of_ble_eq_true rfl) fun g => ?_
  repeat' ((first
    | refine then_go hm htt ?_
    | refine Side.go ?_
    | refine Hyp.go fun hlen => ?_
    | refine Split.ct ?_
    | refine Split.cf ?_
    | refine Split.tt ?_
    | refine Split.ff ?_
    | refine Indep.go ?_
    | refine Split.go (fun hc => ?_) fun hc => ?_) <;> conv => whnf)
  all_goals refine ret_closed rfl (bool_eq ?_) rfl
  all_goals (simp_all [-List.getD_eq_getElem?_getD, int_dec, bareF] <;> omega)

def labelF (s : ByteArray) : Bool := decide ((1 : Int) ≤ s.size) && decide ((s.size : Int) ≤ 160)
theorem label_ok (s : ByteArray) : Pure P 78 [.d (.str s)] (.d (.bool (labelF s))) := by
  refine Pure.of_body tt [] [2] Try.func78 rfl rfl rfl (Nat.le_of_ble_eq_true rfl) fun g => ?_
  repeat' ((first
    | refine then_go hm htt ?_
    | refine Side.go ?_
    | refine Hyp.go fun hlen => ?_
    | refine Split.ct ?_
    | refine Split.cf ?_
    | refine Split.tt ?_
    | refine Split.ff ?_
    | refine Indep.go ?_
    | refine Split.go (fun hc => ?_) fun hc => ?_) <;> conv => whnf)
  all_goals refine ret_closed rfl (bool_eq ?_) rfl
  all_goals (simp_all [-List.getD_eq_getElem?_getD, int_dec, labelF] <;> omega)

def isKindF : Tree → Bool
  | .nil => false
  | .node k n nm mk l =>
    if k = 100 then bareF (.node k n nm mk l) false false && ((l.length : Int) == 0)
    else if k = 101 then bareF (.node k n nm mk l) false false && (match l with
      | [a, b] => isKindF a && isKindF b
      | _ => false)
    else false
theorem len_two {l : List Tree} : ((l.length : Int) == 2) = decide (l.length = 2) := by
  rw [Bool.eq_iff_iff]; simp; omega
theorem isKindF_eq {T : Tree} (h : T ≠ .nil) : isKindF T = if T.kind = 100 then bareF T false false && ((T.kids.length : Int) == 0)
    else if T.kind = 101 then bareF T false false && ((T.kids.length : Int) == 2) && isKindF (T.kids.getD 0 .nil) && isKindF (T.kids.getD 1 .nil) else false := by
  cases T with
  | nil => exact absurd rfl h
  | node k n nm mk l =>
    rw [isKindF.eq_def]
    simp only [Tree.kind, Tree.kids]
    by_cases h1 : k = 100
    · simp [h1]
    · simp only [h1, if_false]
      by_cases h2 : k = 101
      · simp only [h2, if_true, len_two]
        match l with
        | [] => simp
        | [_] => simp
        | [a, b] => simp [Bool.and_assoc]
        | _ :: _ :: _ :: _ => simp
      · simp [h2]

set_option maxRecDepth 10000 in
theorem isKind_ok (T : Tree) (hF : Full T) : Pure P 71 [.d (.tree T)] (.d (.bool (isKindF T))) := by
  induction T using Tree.ind' with
  | h0 => exact absurd rfl hF.ne
  | h1 T hT ih => ?_
  refine Pure.of_body tt [] [2] Try.func71 rfl rfl rfl (Nat.le_of_ble_eq_true rfl) fun g => ?_
  repeat' ((first
    | refine then_go hm htt ?_
    | refine Side.go ?_
    | refine Hyp.go fun hlen => ?_
    | refine Split.ct ?_
    | refine Split.cf ?_
    | refine Split.tt ?_
    | refine Split.ff ?_
    | refine Indep.go ?_
    | refine CallG.gp (bare_ok _ hT _ _) ?_
    | refine CallG.gp (ih _ (getD_mem (by omega)) (hF.kid (by omega))) ?_
    | refine Split.go (fun hc => ?_) fun hc => ?_) <;> conv => whnf)
  all_goals refine ret_closed rfl (bool_eq ?_) rfl
  all_goals (simp_all [-List.getD_eq_getElem?_getD, int_dec, isKindF_eq hT] <;> omega)

/-! ctor: the tree is whole, and not too large -/
mutual
/-- The error and what is left. -/
def wholeF (left : Int) : Tree → Int × Int
  | .nil => (1, left)
  | .node _ _ _ _ l => if left - 1 < 0 then (3, left - 1) else wholesF (left - 1) l
def wholesF (left : Int) : List Tree → Int × Int
  | [] => (0, left)
  | x :: l => if (wholeF left x).1 = 0 then wholesF (wholeF left x).2 l else wholeF left x
end
theorem wholeF_kids {T : Tree} (h : T ≠ .nil) (left : Int) : wholeF left T = if left - 1 < 0 then (3, left - 1) else wholesF (left - 1) T.kids := by
  cases T with
  | nil => exact absurd rfl h
  | node => rw [wholeF]; rfl

theorem whole_bound (T : Tree) : ∀ left : Int, 0 ≤ left → (-1 ≤ (wholeF left T).2 ∧ (wholeF left T).2 ≤ left) ∧ ((wholeF left T).1 = 0 → 0 ≤ (wholeF left T).2) := by
  induction T using Tree.ind' with
  | h0 => intro left h; rw [wholeF]; exact ⟨⟨by show -1 ≤ left; omega, Int.le_refl _⟩, fun _ => h⟩
  | h1 T hT ih =>
    have kids : ∀ (l : List Tree), (∀ x ∈ l, ∀ left : Int, 0 ≤ left → (-1 ≤ (wholeF left x).2 ∧ (wholeF left x).2 ≤ left) ∧ ((wholeF left x).1 = 0 → 0 ≤ (wholeF left x).2)) → ∀ left : Int, 0 ≤ left → (-1 ≤ (wholesF left l).2 ∧ (wholesF left l).2 ≤ left) ∧ ((wholesF left l).1 = 0 → 0 ≤ (wholesF left l).2) := by
      intro l
      induction l with
      | nil => intro _ left h; rw [wholesF]; exact ⟨⟨by show -1 ≤ left; omega, Int.le_refl _⟩, fun _ => h⟩
      | cons x l ih2 =>
        intro hx left h
        rw [wholesF]
        have h1 := hx x (by simp) left h
        split
        · have := ih2 (fun y hy => hx y (by simp [hy])) _ (h1.2 ‹_›)
          exact ⟨⟨this.1.1, by omega⟩, this.2⟩
        · exact h1
    intro left h
    rw [wholeF_kids hT]
    split
    · exact ⟨⟨by show -1 ≤ left - 1; omega, by show left - 1 ≤ left; omega⟩, fun h => by simp at h⟩
    · have := kids T.kids ih (left - 1) (by omega)
      exact ⟨⟨this.1.1, by omega⟩, this.2⟩

set_option maxRecDepth 10000 in
theorem whole_ok (T : Tree) : ∀ (left : Int), 0 ≤ left → left ≤ 65536 → Fun P 67 [.d (.tree T), .ref 0 0] [(0, .cells [.d (.int .i64 left)])] 1 (.d (.int .i64 (wholeF left T).1)) [(0, .cells [.d (.int .i64 (wholeF left T).2)])] 1 := by
  induction T using Tree.ind' with
  | h0 => ?_
  | h1 T hT ih => ?_
  · intro left h1 h2
    refine Fun.of_body tt [] [4] Try.func67 rfl rfl rfl (Nat.le_of_ble_eq_true rfl) fun g => ?_
    repeat' ((first
      | refine then_go hm htt ?_
      | refine Side.go ?_
      | refine Hyp.go fun hlen => ?_
      | refine Split.ct ?_
      | refine Split.cf ?_
      | refine Split.tt ?_
      | refine Split.ff ?_
      | refine Indep.go ?_
      | refine Split.go (fun hc => ?_) fun hc => ?_) <;> conv => whnf)
    exact ret_objs rfl rfl (int_eq (by rw [wholeF])) ⟨cell_int (by rw [wholeF]), trivial⟩ (Nat.le_refl _)
  · intro left h1 h2
    have hw : IntKind.i64.wrap (left - 1) = left - 1 := wrap64 (by omega) (by omega)
    refine Fun.of_body tt [] [4] Try.func67 rfl rfl rfl (Nat.le_of_ble_eq_true rfl) fun g => ?_
    repeat' ((first
      | refine then_go hm htt ?_
      | refine Side.go ?_
      | refine Hyp.go fun hlen => ?_
      | refine Split.ct ?_
      | refine Split.cf ?_
      | refine Split.tt ?_
      | refine Split.ff ?_
      | refine Indep.go ?_
      | (refine Split.mk (fun hc => ?_) (fun hc => ?_) <;> (try simp only [bytes_eq, bytes_ne, empty_bytes, bytes_bne, bytes_bne'] at hc) <;> (try simp only [decide_eq_true_eq, decide_eq_false_iff_not, beq_iff_eq, beq_eq_false_iff_ne, bne_iff_ne, bne_eq_false_iff_eq, Bool.not_eq_true', Bool.not_eq_false', Tree.isNil_iff, Tree.isNil_not, Int.not_lt, Int.not_le, gt_iff_lt, ge_iff_le, ne_eq, Decidable.not_not, Int.toNat_natCast, Int.toNat_zero, Int.toNat_one, hw] at hc))) <;> conv => whnf)
    · exact ret_objs rfl rfl (int_eq (by rw [wholeF_kids hT, if_pos (by omega)])) ⟨cell_int (by rw [wholeF_kids hT, if_pos (by omega), hw]), trivial⟩ (Nat.le_refl _)
    · refine loop_go (α := Nat × Int) (fun p => ⟨[(1, .ref 0 0), (22, .d (.trees T.kids)), (23, .d (.int .i64 T.kids.length)), (24, .d (.int .i64 p.1))], 35, [(0, .cells [.d (.int .i64 p.2)])], 1, g⟩)
        (fun p => p.1 ≤ T.kids.length ∧ (0 ≤ p.2 ∧ p.2 ≤ 65536) ∧ wholesF p.2 (T.kids.drop p.1) = wholesF (left - 1) T.kids) (fun p => T.kids.length - p.1) (0, IntKind.i64.wrap (left - 1)) ⟨by omega, by rw [hw]; simp only []; omega, by rw [hw]; rfl⟩
        (Ent.go [0]) (fun _ => rfl) fun p hpre => ?_
      obtain ⟨hp1, hp2, hp3⟩ := hpre
      repeat' ((first
        | refine then_go hm htt ?_
        | refine Side.go ?_
        | refine Hyp.go fun hlen => ?_
        | refine Split.ct ?_
        | refine Split.cf ?_
        | refine Split.tt ?_
        | refine Split.ff ?_
        | refine Indep.go ?_
        | refine CallG.fun (ih (T.kids.getD p.1 .nil) (getD_mem (by omega)) p.2 (by omega) (by omega)) [0] rfl rfl rfl rfl rfl rfl ⟨⟨rfl, rfl, rfl⟩, trivial⟩ rfl ?_
        | refine Split.go (fun hc => ?_) fun hc => ?_) <;> conv => whnf)
      · have hs := whole_bound (T.kids.getD p.1 .nil) p.2 hp2.1
        rw [drop_step (by omega), wholesF, if_neg hc] at hp3
        exact ret_objs rfl rfl (int_eq (by rw [wholeF_kids hT, if_neg (by omega), ← hp3])) ⟨cell_int (by rw [wholeF_kids hT, if_neg (by omega), ← hp3]), trivial⟩ (Nat.le_refl _)
      · have hs := whole_bound (T.kids.getD p.1 .nil) p.2 hp2.1
        rw [drop_step (by omega), wholesF, if_pos hc] at hp3
        exact ⟨(p.1 + 1, (wholeF p.2 (T.kids.getD p.1 .nil)).2), ⟨by simp only []; omega, ⟨hs.2 hc, by simp only []; omega⟩, hp3⟩, by simp only []; omega, Ent.go [0]⟩
      · rw [drop_end (by omega), wholesF] at hp3
        exact ret_objs rfl rfl (int_eq (by rw [wholeF_kids hT, if_neg (by omega), ← hp3])) ⟨cell_int (by rw [wholeF_kids hT, if_neg (by omega), ← hp3]), trivial⟩ (Nat.le_refl _)
end Go.Proofs.Ytlgajkoplklkiaa

namespace Go.Proofs.Ytlgajkoplklkiaa
open Go Go.Mq
set_option linter.all false

/-! ctor: constructors -/
def ltB (a b : ByteArray) : Bool := Op.bytesLess a.toList b.toList
def risingF : List Tree → Bool
  | [] => true
  | [_] => true
  | a :: b :: r => ltB a.name b.name && risingF (b :: r)

theorem risingF_drop {l : List Tree} {i : Nat} (h : i + 1 < l.length) : risingF (l.drop i) = (ltB (l.getD i .nil).name (l.getD (i + 1) .nil).name && risingF (l.drop (i + 1))) := by
  rw [drop_step (i := i) (by omega), drop_step (i := i + 1) (by omega), risingF]
theorem risingF_end {l : List Tree} {i : Nat} (h : l.length ≤ i + 1) : risingF (l.drop i) = true := by
  by_cases h2 : i < l.length
  · rw [drop_step h2, drop_end (by omega)]; rfl
  · rw [drop_end (by omega)]; rfl

set_option maxRecDepth 10000 in
theorem rising_ok (T : Tree) (hF : Full T) : Pure P 70 [.d (.tree T)] (.d (.bool (risingF T.kids))) := by
  have hT := hF.ne
  refine Pure.of_body tt [] [2] Try.func70 rfl rfl rfl (Nat.le_of_ble_eq_true rfl) fun g => ?_
  repeat' ((first
    | refine then_go hm htt ?_
    | refine Side.go ?_
    | refine Hyp.go fun hlen => ?_
    | refine Split.ct ?_
    | refine Split.cf ?_
    | refine Split.tt ?_
    | refine Split.ff ?_
    | refine Indep.go ?_
    | refine Split.go (fun hc => ?_) fun hc => ?_) <;> conv => whnf)
  refine loop_go (α := Nat) (fun p => ⟨[(0, .d (.tree T)), (3, .d (.int .i64 ((p : Int) + 1)))], 35, [], 0, g⟩)
        (fun p => (p = 0 ∨ p < T.kids.length) ∧ risingF (T.kids.drop p) = risingF T.kids) (fun p => T.kids.length - p) 0 ⟨.inl rfl, rfl⟩
        (Ent.go []) (fun _ => rfl) fun p hpre => ?_
  obtain ⟨hp1, hp2⟩ := hpre
  repeat' ((first
    | refine then_go hm htt ?_
    | refine Side.go ?_
    | refine Hyp.go fun hlen => ?_
    | refine Split.ct ?_
    | refine Split.cf ?_
    | refine Split.tt ?_
    | refine Split.ff ?_
    | refine Indep.go ?_
    | refine Side.mk (wrapB (by omega) (by omega) (by omega)) ?_
    | refine Side.mk (hF.kid (wrapN (by omega) (by omega) (by omega))).ne ?_
    | refine Side.mk (hF.kid (by omega)).ne ?_
    | refine Split.go (fun hc => ?_) fun hc => ?_) <;> conv => whnf)
  · have hw : IntKind.i64.wrap ((p : Int) + 1 - 1) = (p : Int) := by rw [wrap64] <;> omega
    rw [hw] at hc
    refine ret_closed rfl (bool_eq ?_) rfl
    rw [risingF_drop (by omega)] at hp2
    rw [← hp2]
    have : ltB (T.kids.getD p .nil).name (T.kids.getD (p + 1) .nil).name = false := hc
    rw [this]; rfl
  · have hw : IntKind.i64.wrap ((p : Int) + 1 - 1) = (p : Int) := by rw [wrap64] <;> omega
    rw [hw] at hc
    rw [risingF_drop (by omega)] at hp2
    have : ltB (T.kids.getD p .nil).name (T.kids.getD (p + 1) .nil).name = true := hc
    rw [this, Bool.true_and] at hp2
    exact ⟨p + 1, ⟨.inr (by omega), hp2⟩, by omega, Ent.go []⟩
  · refine ret_closed rfl (bool_eq ?_) rfl
    rw [← hp2, risingF_end (by omega)]

def unlikeF (seen : List ByteArray) : List Tree → Bool
  | [] => true
  | x :: l => !(memB x.name seen) && unlikeF (x.name :: seen) l

set_option maxRecDepth 10000 in
theorem unlike_ok (T : Tree) (hF : Full T) : Pure P 72 [.d (.tree T)] (.d (.bool (unlikeF [] T.kids))) := by
  have hT := hF.ne
  refine Pure.of_body tt [] [2] Try.func72 rfl rfl rfl (Nat.le_of_ble_eq_true rfl) fun g => ?_
  repeat' ((first
    | refine then_go hm htt ?_
    | refine Side.go ?_
    | refine Hyp.go fun hlen => ?_
    | refine Split.ct ?_
    | refine Split.cf ?_
    | refine Split.tt ?_
    | refine Split.ff ?_
    | refine Indep.go ?_
    | refine Split.go (fun hc => ?_) fun hc => ?_) <;> conv => whnf)
  refine loop_go (α := Nat × List ByteArray) (fun p => ⟨[(3, .mp 0), (10, .d (.trees T.kids)), (11, .d (.int .i64 T.kids.length)), (12, .d (.int .i64 p.1))], 28, [(0, .set p.2)], 1, g⟩)
        (fun p => p.1 ≤ T.kids.length ∧ unlikeF p.2 (T.kids.drop p.1) = unlikeF [] T.kids) (fun p => T.kids.length - p.1) (0, []) ⟨by omega, rfl⟩
        (Ent.go [0]) (fun _ => rfl) fun p hpre => ?_
  obtain ⟨hp1, hp2⟩ := hpre
  repeat' ((first
    | refine then_go hm htt ?_
    | refine Side.go ?_
    | refine Hyp.go fun hlen => ?_
    | refine Split.ct ?_
    | refine Split.cf ?_
    | refine Split.tt ?_
    | refine Split.ff ?_
    | refine Indep.go ?_
    | refine Side.mk (hF.kid (by omega)).ne ?_
    | refine Split.go (fun hc => ?_) fun hc => ?_) <;> conv => whnf)
  · refine ret_closed rfl (bool_eq ?_) rfl
    rw [drop_step (by omega), unlikeF] at hp2
    rw [← hp2, hc]; rfl
  · rw [drop_step (by omega), unlikeF, hc, Bool.not_false, Bool.true_and] at hp2
    exact ⟨(p.1 + 1, _), ⟨by simp only []; omega, hp2⟩, by simp only []; omega, Ent.go [0]⟩
  · refine ret_closed rfl (bool_eq ?_) rfl
    rw [← hp2, drop_end (by omega)]; rfl
end Go.Proofs.Ytlgajkoplklkiaa

namespace Go.Proofs.Ytlgajkoplklkiaa
open Go Go.Mq
set_option linter.all false

mutual
def isConF : Tree → Bool
  | .nil => false
  | .node k n nm mk l =>
    bareF (.node k n nm mk l) false (k == 110) &&
    (if k = 110 then decide (0 ≤ n) && decide (n ≤ 65536) && ((l.length : Int) == 0)
     else if k = 111 ∨ k = 112 ∨ k = 113 then (l.length : Int) == 0
     else if k = 114 ∨ k = 120 then ((l.length : Int) == 2) && conAt 0 l && conAt 1 l
     else if k = 115 then fieldsF 116 l && risingF l
     else if k = 117 ∨ k = 118 ∨ k = 119 then ((l.length : Int) == 2) && isKindF (l.getD 0 .nil) && conAt 1 l
     else if k = 121 then decide (0 < (l.length : Int)) && fieldsF 122 l && unlikeF [] l
     else false)
def conAt (i : Nat) : List Tree → Bool
  | [] => false
  | x :: l => match i with
    | 0 => isConF x
    | i + 1 => conAt i l
def fieldsF (kind : Int) : List Tree → Bool
  | [] => true
  | x :: l => fieldF kind x && fieldsF kind l
def fieldF (kind : Int) : Tree → Bool
  | .nil => false
  | .node k n nm mk l => (k == kind) && bareF (.node k n nm mk l) true false && labelF nm && ((l.length : Int) == 1) && conAt 0 l
end
theorem conAt_eq : ∀ (l : List Tree) (i : Nat), conAt i l = isConF (l.getD i .nil)
  | [], i => by rw [conAt]; simp [isConF]
  | x :: l, 0 => by rw [conAt]; rfl
  | x :: l, i + 1 => by rw [conAt]; exact conAt_eq l i
theorem fieldF_eq {T : Tree} (h : T ≠ .nil) (kind : Int) : fieldF kind T = ((T.kind == kind) && bareF T true false && labelF T.name && ((T.kids.length : Int) == 1) && isConF (T.kids.getD 0 .nil)) := by
  cases T with
  | nil => exact absurd rfl h
  | node k n nm mk l => rw [fieldF, conAt_eq]; rfl
theorem isConF_eq {T : Tree} (h : T ≠ .nil) : isConF T = (bareF T false (T.kind == 110) &&
    (if T.kind = 110 then decide (0 ≤ T.n) && decide (T.n ≤ 65536) && ((T.kids.length : Int) == 0)
     else if T.kind = 111 ∨ T.kind = 112 ∨ T.kind = 113 then (T.kids.length : Int) == 0
     else if T.kind = 114 ∨ T.kind = 120 then ((T.kids.length : Int) == 2) && isConF (T.kids.getD 0 .nil) && isConF (T.kids.getD 1 .nil)
     else if T.kind = 115 then fieldsF 116 T.kids && risingF T.kids
     else if T.kind = 117 ∨ T.kind = 118 ∨ T.kind = 119 then ((T.kids.length : Int) == 2) && isKindF (T.kids.getD 0 .nil) && isConF (T.kids.getD 1 .nil)
     else if T.kind = 121 then decide (0 < (T.kids.length : Int)) && fieldsF 122 T.kids && unlikeF [] T.kids
     else false)) := by
  cases T with
  | nil => exact absurd rfl h
  | node k n nm mk l => rw [isConF]; simp only [conAt_eq]; rfl

set_option maxRecDepth 10000 in
theorem named_ok (T : Tree) (hF : Full T) (kind : Int) (ih : ∀ x ∈ T.kids, ∀ y ∈ x.kids, Full y → Pure P 49 [.d (.tree y)] (.d (.bool (isConF y)))) : Pure P 69 [.d (.tree T), .d (.int .i64 kind)] (.d (.bool (fieldsF kind T.kids))) := by
  have hT := hF.ne
  refine Pure.of_body tt [] [4] Try.func69 rfl rfl rfl (Nat.le_of_ble_eq_true rfl) fun g => ?_
  repeat' ((first
    | refine then_go hm htt ?_
    | refine Side.go ?_
    | refine Hyp.go fun hlen => ?_
    | refine Split.ct ?_
    | refine Split.cf ?_
    | refine Split.tt ?_
    | refine Split.ff ?_
    | refine Indep.go ?_
    | refine Split.go (fun hc => ?_) fun hc => ?_) <;> conv => whnf)
  refine loop_go (α := Nat) (fun p => ⟨[(1, .d (.int .i64 kind)), (10, .d (.trees T.kids)), (11, .d (.int .i64 T.kids.length)), (12, .d (.int .i64 p))], 54, [], 0, g⟩)
        (fun p => p ≤ T.kids.length ∧ fieldsF kind (T.kids.drop p) = fieldsF kind T.kids) (fun p => T.kids.length - p) 0 ⟨by omega, rfl⟩
        (Ent.go []) (fun _ => rfl) fun p hpre => ?_
  obtain ⟨hp1, hp2⟩ := hpre
  by_cases hlt : p < T.kids.length
  · have hx := hF.kid hlt
    have hmem := getD_mem hlt
    rw [drop_step hlt, fieldsF, fieldF_eq hx.ne] at hp2
    repeat' ((first
      | refine then_go hm htt ?_
      | refine Side.go ?_
      | refine Hyp.go fun hlen => ?_
      | refine Split.ct ?_
      | refine Split.cf ?_
      | refine Split.tt ?_
      | refine Split.ff ?_
      | refine Indep.go ?_
      | refine Side.mk hx.ne ?_
      | refine Side.mk (show (0 : Int) ≤ 0 ∧ (0 : Int) < ((T.kids.getD p .nil).kids.length : Int) from ⟨by omega, by omega⟩) ?_
      | refine CallG.gp (bare_ok (T.kids.getD p .nil) hx.ne _ _) ?_
      | refine CallG.gp (label_ok _) ?_
      | refine CallG.gp (ih (T.kids.getD p .nil) hmem ((T.kids.getD p .nil).kids.getD 0 .nil) (getD_mem (by omega)) (hx.kid (by omega))) ?_
      | refine Split.go (fun hc => ?_) fun hc => ?_) <;> conv => whnf)
    all_goals first
      | (refine ret_closed rfl (bool_eq ?_) rfl; rw [← hp2]; simp_all [-List.getD_eq_getElem?_getD, int_dec]; done)
      | (refine ⟨p + 1, ⟨by omega, ?_⟩, by omega, Ent.go []⟩; simp_all [-List.getD_eq_getElem?_getD, int_dec]; done)
      | skip
  · have hp3 : p = T.kids.length := by omega
    repeat' ((first
      | refine then_go hm htt ?_
      | refine Side.go ?_
      | refine Hyp.go fun hlen => ?_
      | refine Split.ct ?_
      | refine Split.cf ?_
      | refine Split.tt ?_
      | refine Split.ff ?_
      | refine Indep.go ?_
      | refine Split.go (fun hc => ?_) fun hc => ?_) <;> conv => whnf)
    refine ret_closed rfl (bool_eq ?_) rfl
    rw [← hp2, drop_end (by omega), fieldsF]

set_option maxHeartbeats 4000000 in
set_option maxRecDepth 10000 in
theorem isCon_ok (T : Tree) (hF : Full T) : Pure P 49 [.d (.tree T)] (.d (.bool (isConF T))) := by
  suffices h : Pure P 49 [.d (.tree T)] (.d (.bool (isConF T))) ∧ ∀ x ∈ T.kids, Pure P 49 [.d (.tree x)] (.d (.bool (isConF x))) from h.1
  induction T using Tree.ind' with
  | h0 => exact absurd rfl hF.ne
  | h1 T hT ih => ?_
  refine ⟨?_, fun x hx => (ih x hx (hF.kids x hx)).1⟩
  have hn : ∀ kind, Pure P 69 [.d (.tree T), .d (.int .i64 kind)] (.d (.bool (fieldsF kind T.kids))) := fun kind => named_ok T hF kind fun x hx y hy _ => (ih x hx (hF.kids x hx)).2 y hy
  have hk : ∀ i, i < T.kids.length → Pure P 49 [.d (.tree (T.kids.getD i .nil))] (.d (.bool (isConF (T.kids.getD i .nil)))) := fun i hi => (ih _ (getD_mem hi) (hF.kid hi)).1
  refine Pure.of_body tt [] [2] Try.func49 rfl rfl rfl (Nat.le_of_ble_eq_true rfl) fun g => ?_
  repeat' ((first
    | refine then_go hm htt ?_
    | refine Side.go ?_
    | refine Hyp.go fun hlen => ?_
    | refine Split.ct ?_
    | refine Split.cf ?_
    | refine Split.tt ?_
    | refine Split.ff ?_
    | refine Indep.go ?_
    | refine CallG.gp (bare_ok T hT _ _) ?_
    | refine CallG.gp (hn _) ?_
    | refine CallG.gp (rising_ok T hF) ?_
    | refine CallG.gp (unlike_ok T hF) ?_
    | refine CallG.gp (hk 0 (by omega)) ?_
    | refine CallG.gp (hk 1 (by omega)) ?_
    | refine CallG.gp (isKind_ok (T.kids.getD 0 .nil) (hF.kid (by omega))) ?_
    | refine Split.go (fun hc => ?_) fun hc => ?_) <;> conv => whnf)
  all_goals refine ret_closed rfl (bool_eq ?_) rfl
  all_goals (simp_all [-List.getD_eq_getElem?_getD, int_dec, isConF_eq hT] <;> omega)
end Go.Proofs.Ytlgajkoplklkiaa

namespace Go.Proofs.Ytlgajkoplklkiaa
open Go Go.Mq
set_option linter.all false

theorem wholeF_full (T : Tree) : ∀ left : Int, (wholeF left T).1 = 0 → Full T := by
  induction T using Tree.ind' with
  | h0 => intro left h; rw [wholeF] at h; simp at h
  | h1 T hT ih =>
    have kids : ∀ (l : List Tree), (∀ x ∈ l, ∀ left : Int, (wholeF left x).1 = 0 → Full x) → ∀ left : Int, (wholesF left l).1 = 0 → ∀ x ∈ l, Full x := by
      intro l
      induction l with
      | nil => intro _ left _ x hx; simp at hx
      | cons y l ih2 =>
        intro hx left h x hm
        rw [wholesF] at h
        split at h
        · rcases List.mem_cons.1 hm with rfl | hm
          · exact hx x (by simp) _ ‹_›
          · exact ih2 (fun z hz => hx z (by simp [hz])) _ h x hm
        · exact absurd h ‹_›
    intro left h
    rw [wholeF_kids hT] at h
    split at h
    · simp at h
    · exact Full.of hT (kids T.kids ih _ h)

def checkF (b : Bool) (T : Tree) : Int := if (wholeF 65536 T).1 = 0 then (if b then 0 else 16) else (wholeF 65536 T).1

set_option maxRecDepth 10000 in
theorem checkCon_ok (T : Tree) : Pure P 48 [.d (.tree T), .fn 49 []] (.d (.int .i64 (checkF (isConF T) T))) := by
  refine Pure.of_body tt [] [4] Try.func48 rfl rfl rfl (Nat.le_of_ble_eq_true rfl) fun g => ?_
  repeat' ((first
    | refine then_go hm htt ?_
    | refine Side.go ?_
    | refine Hyp.go fun hlen => ?_
    | refine Split.ct ?_
    | refine Split.cf ?_
    | refine Split.tt ?_
    | refine Split.ff ?_
    | refine Indep.go ?_
    | refine CallG.fun (whole_ok T 65536 (by omega) (by omega)) [0] rfl rfl rfl rfl rfl rfl ⟨⟨rfl, rfl, rfl⟩, trivial⟩ rfl ?_
    | refine CallG.gp (isCon_ok T (wholeF_full T _ (by assumption))) ?_
    | refine Split.go (fun hc => ?_) fun hc => ?_) <;> conv => whnf)
  all_goals refine ret_closed rfl (int_eq ?_) rfl
  all_goals (simp_all [-List.getD_eq_getElem?_getD, int_dec, checkF] <;> omega)

set_option maxRecDepth 10000 in
theorem checkKind_ok (T : Tree) : Pure P 48 [.d (.tree T), .fn 71 []] (.d (.int .i64 (checkF (isKindF T) T))) := by
  refine Pure.of_body tt [] [4] Try.func48 rfl rfl rfl (Nat.le_of_ble_eq_true rfl) fun g => ?_
  repeat' ((first
    | refine then_go hm htt ?_
    | refine Side.go ?_
    | refine Hyp.go fun hlen => ?_
    | refine Split.ct ?_
    | refine Split.cf ?_
    | refine Split.tt ?_
    | refine Split.ff ?_
    | refine Indep.go ?_
    | refine CallG.fun (whole_ok T 65536 (by omega) (by omega)) [0] rfl rfl rfl rfl rfl rfl ⟨⟨rfl, rfl, rfl⟩, trivial⟩ rfl ?_
    | refine CallG.gp (isKind_ok T (wholeF_full T _ (by assumption))) ?_
    | refine Split.go (fun hc => ?_) fun hc => ?_) <;> conv => whnf)
  all_goals refine ret_closed rfl (int_eq ?_) rfl
  all_goals (simp_all [-List.getD_eq_getElem?_getD, int_dec, checkF] <;> omega)

def conE (T : Tree) : Int := checkF (isConF T) T
def kindE (T : Tree) : Int := checkF (isKindF T) T
theorem check_ok (T : Tree) : Pure P 24 [.d (.tree T)] (.d (.int .i64 (conE T))) := by
  refine Pure.of_body tt [] [2] Try.func24 rfl rfl rfl (Nat.le_of_ble_eq_true rfl) fun g => ?_
  repeat' ((first
    | refine then_go hm htt ?_
    | refine Side.go ?_
    | refine Hyp.go fun hlen => ?_
    | refine Split.ct ?_
    | refine Split.cf ?_
    | refine Split.tt ?_
    | refine Split.ff ?_
    | refine Indep.go ?_
    | refine CallG.gp (checkCon_ok T) ?_
    | refine Split.go (fun hc => ?_) fun hc => ?_) <;> conv => whnf)
  all_goals refine ret_closed rfl (int_eq ?_) rfl
  all_goals (simp_all [-List.getD_eq_getElem?_getD, int_dec, conE] <;> omega)
theorem kind_ok (T : Tree) : Pure P 66 [.d (.tree T)] (.d (.int .i64 (kindE T))) := by
  refine Pure.of_body tt [] [2] Try.func66 rfl rfl rfl (Nat.le_of_ble_eq_true rfl) fun g => ?_
  repeat' ((first
    | refine then_go hm htt ?_
    | refine Side.go ?_
    | refine Hyp.go fun hlen => ?_
    | refine Split.ct ?_
    | refine Split.cf ?_
    | refine Split.tt ?_
    | refine Split.ff ?_
    | refine Indep.go ?_
    | refine CallG.gp (checkKind_ok T) ?_
    | refine Split.go (fun hc => ?_) fun hc => ?_) <;> conv => whnf)
  all_goals refine ret_closed rfl (int_eq ?_) rfl
  all_goals (simp_all [-List.getD_eq_getElem?_getD, int_dec, kindE] <;> omega)
theorem conE_full {T : Tree} (h : conE T = 0) : Full T ∧ isConF T = true := by
  unfold conE checkF at h
  split at h
  · refine ⟨wholeF_full T _ ‹_›, ?_⟩
    cases hc : isConF T
    · rw [hc] at h; simp at h
    · rfl
  · exact absurd h ‹_›
end Go.Proofs.Ytlgajkoplklkiaa

namespace Go.Proofs.Ytlgajkoplklkiaa
open Go Go.Mq
set_option linter.all false

def bindsF (T : Tree) : Int := if T.kind = 117 then 1 else if T.kind = 118 then 1 else if T.kind = 119 then 1 else if T.kind = 121 then 1 else 0
set_option maxRecDepth 10000 in
theorem binds_ok (T : Tree) (hT : T ≠ .nil) : Pure P 73 [.d (.tree T)] (.d (.int .i64 (bindsF T))) := by
  refine Pure.of_body tt [] [2] Try.func73 rfl rfl rfl (Nat.le_of_ble_eq_true rfl) fun g => ?_
  repeat' ((first
    | refine then_go hm htt ?_
    | refine Side.go ?_
    | refine Hyp.go fun hlen => ?_
    | refine Split.ct ?_
    | refine Split.cf ?_
    | refine Split.tt ?_
    | refine Split.ff ?_
    | refine Indep.go ?_
    | refine Split.go (fun hc => ?_) fun hc => ?_) <;> conv => whnf)
  all_goals refine ret_closed rfl (int_eq ?_) rfl
  all_goals (simp_all [-List.getD_eq_getElem?_getD, int_dec, bindsF] <;> omega)

def movedF (T : Tree) (by' : Int) : Tree := .node 110 (IntKind.i64.wrap (T.n + by')) ByteArray.empty ByteArray.empty []
theorem moved_ok (T : Tree) (hT : T ≠ .nil) (by' : Int) : Pure P 81 [.d (.tree T), .d (.int .i64 by')] (.d (.tree (movedF T by'))) := by
  refine Pure.of_body tt [12] [4] Try.func81 rfl rfl rfl (Nat.le_of_ble_eq_true rfl) fun g => ?_
  repeat' ((first
    | refine then_go hm htt ?_
    | refine Side.go ?_
    | refine Hyp.go fun hlen => ?_
    | refine Split.ct ?_
    | refine Split.cf ?_
    | refine Split.tt ?_
    | refine Split.ff ?_
    | refine Indep.go ?_
    | refine Split.go (fun hc => ?_) fun hc => ?_) <;> conv => whnf)
  all_goals refine ret_closed rfl (tree_eq ?_) rfl
  all_goals rfl

section
variable {σ : Type} (f : Tree → Int → σ → Tree × σ)
mutual
def walkF : Tree → Int → σ → Tree × σ
  | .nil, _, s => (.nil, s)
  | .node k n nm mk l, deep, s =>
    if k = 110 then f (.node k n nm mk l) deep s
    else if l.length = 0 then (.node k n nm mk l, s)
    else (.node k n nm mk (walksF l (IntKind.i64.wrap (deep + bindsF (.node k n nm mk l))) s).1, (walksF l (IntKind.i64.wrap (deep + bindsF (.node k n nm mk l))) s).2)
def walksF : List Tree → Int → σ → List Tree × σ
  | [], _, s => ([], s)
  | x :: l, deep, s => ((walkF x deep s).1 :: (walksF l deep (walkF x deep s).2).1, (walksF l deep (walkF x deep s).2).2)
end
theorem walkF_eq {T : Tree} (h : T ≠ .nil) (deep : Int) (s : σ) : walkF f T deep s = if T.kind = 110 then f T deep s else if T.kids.length = 0 then (T, s)
    else (.node T.kind T.n T.name T.mark (walksF f T.kids (IntKind.i64.wrap (deep + bindsF T)) s).1, (walksF f T.kids (IntKind.i64.wrap (deep + bindsF T)) s).2) := by
  cases T with
  | nil => exact absurd rfl h
  | node => rw [walkF]; rfl
end

def freeStep (T : Tree) (deep : Int) (s : Int) : Tree × Int := (T, if IntKind.i64.wrap (IntKind.i64.wrap (T.n - deep) + 1) > s then IntKind.i64.wrap (IntKind.i64.wrap (T.n - deep) + 1) else s)
set_option maxRecDepth 10000 in
theorem freeStep_ok (T : Tree) (deep : Int) (s : Int) (hF : Full T) (hk : T.kind = 110) : Fun P 51 [.d (.tree T), .d (.int .i64 deep), .ref 0 0] [(0, .cells [.d (.int .i64 s)])] 1 (.d (.tree (freeStep T deep s).1)) [(0, .cells [.d (.int .i64 (freeStep T deep s).2)])] 1 := by
  have hT := hF.ne
  refine Fun.of_body tt [] [5] Try.func51 rfl rfl rfl (Nat.le_of_ble_eq_true rfl) fun g => ?_
  repeat' ((first
    | refine then_go hm htt ?_
    | refine Side.go ?_
    | refine Hyp.go fun hlen => ?_
    | refine Split.ct ?_
    | refine Split.cf ?_
    | refine Split.tt ?_
    | refine Split.ff ?_
    | refine Indep.go ?_
    | refine Split.go (fun hc => ?_) fun hc => ?_) <;> conv => whnf)
  have e : (if IntKind.i64.wrap (IntKind.i64.wrap (T.n - deep) + 1) > s then IntKind.i64.wrap (IntKind.i64.wrap (T.n - deep) + 1) else s) = (freeStep T deep s).2 := rfl
  exact ret_objs rfl rfl (tree_eq rfl) (by repeat' first | exact trivial | apply And.intro | rfl | (refine int_eq ?_; rw [wrap64] <;> omega)) (Nat.le_refl _)

set_option maxHeartbeats 2000000 in
set_option maxRecDepth 10000 in
theorem walkFree_ok  (T : Tree) : ∀ (deep : Int) (s : Int), Full T → Fun P 50 [.d (.tree T), .d (.int .i64 deep), .fn 51 [.ref 0 0]] ([(0, .cells [.d (.int .i64 s)])]) 1 (.d (.tree (walkF freeStep T deep s).1)) ([(0, .cells [.d (.int .i64 (walkF freeStep T deep s).2)])]) 1 := by
  induction T using Tree.ind' with
  | h0 => intro deep s hF; exact absurd rfl hF.ne
  | h1 T hT ih => ?_
  intro deep s hF
  refine Fun.of_body tt [48] [6] Try.func50 rfl rfl rfl (Nat.le_of_ble_eq_true rfl) fun g => ?_
  repeat' ((first
    | refine then_go hm htt ?_
    | refine Side.go ?_
    | refine Hyp.go fun hlen => ?_
    | refine Split.ct ?_
    | refine Split.cf ?_
    | refine Split.tt ?_
    | refine Split.ff ?_
    | refine Indep.go ?_
    | refine CallG.go (freeStep_ok T deep s hF (by assumption)) [0] ?_
    | refine Split.go (fun hc => ?_) fun hc => ?_) <;> conv => whnf)
  · exact ret_objs rfl rfl (tree_eq (by rw [walkF_eq _ hT, if_pos (by assumption)])) (by rw [walkF_eq _ hT, if_pos (by assumption)]; exact (by repeat' first | exact trivial | apply And.intro | rfl | (refine int_eq ?_; rw [wrap64] <;> omega))) (Nat.le_refl _)
  · exact ret_objs rfl rfl (tree_eq (by rw [walkF_eq _ hT, if_neg (by assumption), if_pos (by omega)])) (by rw [walkF_eq _ hT, if_neg (by assumption), if_pos (by omega)]; exact (by repeat' first | exact trivial | apply And.intro | rfl | (refine int_eq ?_; rw [wrap64] <;> omega))) (Nat.le_refl _)
  refine loop_go (α := Nat × List Tree × Int) (fun p => ⟨[(0, .d (.tree T)), (1, .d (.int .i64 deep)), (2, .fn 51 [.ref 0 0]), (7, .ref 1 0), (33, .d (.trees T.kids)), (34, .d (.int .i64 T.kids.length)), (35, .d (.int .i64 p.1))], 52, ([(0, .cells [.d (.int .i64 p.2.2)])]) ++ [(1, .cells [.d (.int .i64 T.kind), .d (.int .i64 T.n), .d (.str T.name), .d (.str T.mark), .row 2 p.1]), (2, .row 25 (.trees p.2.1))], 3, g⟩)
        (fun p => p.1 ≤ T.kids.length ∧ p.2.1.length = p.1 ∧ walksF freeStep T.kids (IntKind.i64.wrap (deep + bindsF T)) s = (p.2.1 ++ (walksF freeStep (T.kids.drop p.1) (IntKind.i64.wrap (deep + bindsF T)) p.2.2).1, (walksF freeStep (T.kids.drop p.1) (IntKind.i64.wrap (deep + bindsF T)) p.2.2).2)) (fun p => T.kids.length - p.1) (0, [], s) ⟨by simp, rfl, by simp⟩
        (Ent.nil rfl rfl rfl (by repeat' first | exact trivial | apply And.intro | rfl | (refine int_eq ?_; rw [wrap64] <;> omega)) (by repeat' first | exact trivial | apply And.intro | rfl | (refine int_eq ?_; rw [wrap64] <;> omega))) (fun _ => rfl) fun p hpre => ?_
  obtain ⟨i, out, s'⟩ := p
  obtain ⟨hp1, hp2, hp3⟩ := hpre
  simp only [] at hp1 hp2 hp3
  repeat' ((first
    | refine then_go hm htt ?_
    | refine Side.go ?_
    | refine Hyp.go fun hlen => ?_
    | refine Split.ct ?_
    | refine Split.cf ?_
    | refine Split.tt ?_
    | refine Split.ff ?_
    | refine Indep.go ?_
    | refine Side.mk (show (i + 1 ≤ 17592186044416 ∧ (i + 1) * 8 ≤ 140737488355328) from ⟨by omega, by omega⟩) ?_
    | refine CallG.gp (binds_ok T hT) ?_
    | refine CallG.go (ih (T.kids.getD i .nil) (getD_mem (by omega)) (IntKind.i64.wrap (deep + bindsF T)) s' (hF.kid (by omega))) [0] ?_
    | refine Split.go (fun hc => ?_) fun hc => ?_) <;> conv => whnf)
  · rw [drop_step (by omega), walksF] at hp3
    refine ⟨(i + 1, out ++ [(walkF freeStep (T.kids.getD i .nil) (IntKind.i64.wrap (deep + bindsF T)) s').1], (walkF freeStep (T.kids.getD i .nil) (IntKind.i64.wrap (deep + bindsF T)) s').2), ⟨by simp only []; omega, by simp [hp2], by rw [hp3]; simp⟩, by simp only []; omega, Ent.go [0, 1, 3]⟩
  · rw [drop_end (by omega), walksF, List.append_nil] at hp3
    refine RetS.ent (Ent.fz_row 2 (l := out) rfl (by repeat' first | exact trivial | apply And.intro | rfl | exact hp2.symm | exact Nat.zero_lt_one | omega) (by repeat' first | exact trivial | apply And.intro | rfl | exact hp2.symm | exact Nat.zero_lt_one | omega)) ?_
    refine RetS.ent (Ent.fz_node 1 rfl rfl (by repeat' first | exact trivial | apply And.intro | rfl | exact hp2.symm | exact Nat.zero_lt_one | omega) (by repeat' first | exact trivial | apply And.intro | rfl | exact hp2.symm | exact Nat.zero_lt_one | omega)) ?_
    refine RetS.ent (σ' := ⟨[(6, .d (.tree (.node T.kind T.n T.name T.mark out)))], 52, [(0, .cells [.d (.int .i64 s')])], 1, g⟩) (Ent.go [0]) ?_
    exact ret_objs rfl rfl (tree_eq (by rw [walkF_eq _ hT, if_neg (by assumption), if_neg (by omega), hp3])) (by rw [walkF_eq _ hT, if_neg (by assumption), if_neg (by omega), hp3]; exact (by repeat' first | exact trivial | apply And.intro | rfl | (refine int_eq ?_; rw [wrap64] <;> omega))) (Nat.le_refl _)
end Go.Proofs.Ytlgajkoplklkiaa

namespace Go.Proofs.Ytlgajkoplklkiaa
open Go Go.Mq
set_option linter.all false

def w64 (x : Int) : Int := IntKind.i64.wrap x
def occStep (i : Int) (T : Tree) (deep : Int) (s : Bool) : Tree × Bool := (T, s || (decide (0 ≤ i) && decide (deep ≤ T.n) && decide (IntKind.i64.wrap (T.n - deep) = i)))
def shiftStep (frm by' : Int) (T : Tree) (deep : Int) (ok : Bool) : Tree × Bool :=
  if T.n < deep then (T, ok)
  else if IntKind.i64.wrap (T.n - deep) < frm then (T, ok)
  else if (ok && decide (IntKind.i64.wrap (deep - T.n) ≤ by') && decide (by' ≤ IntKind.i64.wrap (65536 - T.n))) = true then (movedF T by', true) else (T, false)
set_option maxHeartbeats 2000000 in
set_option maxRecDepth 10000 in
theorem shiftStep_ok (frm by' : Int) (T : Tree) (deep : Int) (s : Bool) (hF : Full T) (hk : T.kind = 110) : Fun P 85 [.d (.tree T), .d (.int .i64 deep), .ref 0 0, .ref 1 0, .ref 2 0] [(0, .cells [.d (.int .i64 frm)]), (1, .cells [.d (.bool s)]), (2, .cells [.d (.int .i64 by')])] 3 (.d (.tree (shiftStep frm by' T deep s).1)) [(0, .cells [.d (.int .i64 frm)]), (1, .cells [.d (.bool (shiftStep frm by' T deep s).2)]), (2, .cells [.d (.int .i64 by')])] 3 := by
  have hT := hF.ne
  refine Fun.of_body tt [] [7] Try.func85 rfl rfl rfl (Nat.le_of_ble_eq_true rfl) fun g => ?_
  repeat' ((first
    | refine then_go hm htt ?_
    | refine Side.go ?_
    | refine Hyp.go fun hlen => ?_
    | refine Split.ct ?_
    | refine Split.cf ?_
    | refine Split.tt ?_
    | refine Split.ff ?_
    | refine Indep.go ?_
    | refine CallG.gp (moved_ok T hT by') ?_
    | refine Split.go (fun hc => ?_) fun hc => ?_) <;> conv => whnf)
  all_goals refine ret_objs rfl rfl (tree_eq ?_) ⟨rfl, cell_bool ?_, rfl, trivial⟩ (Nat.le_refl _)
  all_goals (unfold shiftStep; (repeat' split) <;> first | rfl | omega | (exfalso; omega) | (simp_all; done) | (simp_all; omega))

set_option maxHeartbeats 2000000 in
set_option maxRecDepth 10000 in
theorem walkShift_ok (frm by' : Int) (T : Tree) : ∀ (deep : Int) (s : Bool), Full T → Fun P 50 [.d (.tree T), .d (.int .i64 deep), .fn 85 [.ref 0 0, .ref 1 0, .ref 2 0]] ([(0, .cells [.d (.int .i64 frm)]), (1, .cells [.d (.bool s)]), (2, .cells [.d (.int .i64 by')])]) 3 (.d (.tree (walkF (shiftStep frm by') T deep s).1)) ([(0, .cells [.d (.int .i64 frm)]), (1, .cells [.d (.bool (walkF (shiftStep frm by') T deep s).2)]), (2, .cells [.d (.int .i64 by')])]) 3 := by
  induction T using Tree.ind' with
  | h0 => intro deep s hF; exact absurd rfl hF.ne
  | h1 T hT ih => ?_
  intro deep s hF
  refine Fun.of_body tt [48] [6] Try.func50 rfl rfl rfl (Nat.le_of_ble_eq_true rfl) fun g => ?_
  repeat' ((first
    | refine then_go hm htt ?_
    | refine Side.go ?_
    | refine Hyp.go fun hlen => ?_
    | refine Split.ct ?_
    | refine Split.cf ?_
    | refine Split.tt ?_
    | refine Split.ff ?_
    | refine Indep.go ?_
    | refine CallG.go (shiftStep_ok frm by' T deep s hF (by assumption)) [0, 1, 2] ?_
    | refine Split.go (fun hc => ?_) fun hc => ?_) <;> conv => whnf)
  · exact ret_objs rfl rfl (tree_eq (by rw [walkF_eq _ hT, if_pos (by assumption)])) (by rw [walkF_eq _ hT, if_pos (by assumption)]; exact (by repeat' first | exact trivial | apply And.intro | rfl | (refine int_eq ?_; rw [wrap64] <;> omega))) (Nat.le_refl _)
  · exact ret_objs rfl rfl (tree_eq (by rw [walkF_eq _ hT, if_neg (by assumption), if_pos (by omega)])) (by rw [walkF_eq _ hT, if_neg (by assumption), if_pos (by omega)]; exact (by repeat' first | exact trivial | apply And.intro | rfl | (refine int_eq ?_; rw [wrap64] <;> omega))) (Nat.le_refl _)
  refine loop_go (α := Nat × List Tree × Bool) (fun p => ⟨[(0, .d (.tree T)), (1, .d (.int .i64 deep)), (2, .fn 85 [.ref 0 0, .ref 1 0, .ref 2 0]), (7, .ref 3 0), (33, .d (.trees T.kids)), (34, .d (.int .i64 T.kids.length)), (35, .d (.int .i64 p.1))], 52, ([(0, .cells [.d (.int .i64 frm)]), (1, .cells [.d (.bool p.2.2)]), (2, .cells [.d (.int .i64 by')])]) ++ [(3, .cells [.d (.int .i64 T.kind), .d (.int .i64 T.n), .d (.str T.name), .d (.str T.mark), .row 4 p.1]), (4, .row 25 (.trees p.2.1))], 5, g⟩)
        (fun p => p.1 ≤ T.kids.length ∧ p.2.1.length = p.1 ∧ walksF (shiftStep frm by') T.kids (IntKind.i64.wrap (deep + bindsF T)) s = (p.2.1 ++ (walksF (shiftStep frm by') (T.kids.drop p.1) (IntKind.i64.wrap (deep + bindsF T)) p.2.2).1, (walksF (shiftStep frm by') (T.kids.drop p.1) (IntKind.i64.wrap (deep + bindsF T)) p.2.2).2)) (fun p => T.kids.length - p.1) (0, [], s) ⟨by simp, rfl, by simp⟩
        (Ent.nil rfl rfl rfl (by repeat' first | exact trivial | apply And.intro | rfl | (refine int_eq ?_; rw [wrap64] <;> omega)) (by repeat' first | exact trivial | apply And.intro | rfl | (refine int_eq ?_; rw [wrap64] <;> omega))) (fun _ => rfl) fun p hpre => ?_
  obtain ⟨i, out, s'⟩ := p
  obtain ⟨hp1, hp2, hp3⟩ := hpre
  simp only [] at hp1 hp2 hp3
  repeat' ((first
    | refine then_go hm htt ?_
    | refine Side.go ?_
    | refine Hyp.go fun hlen => ?_
    | refine Split.ct ?_
    | refine Split.cf ?_
    | refine Split.tt ?_
    | refine Split.ff ?_
    | refine Indep.go ?_
    | refine Side.mk (show (i + 1 ≤ 17592186044416 ∧ (i + 1) * 8 ≤ 140737488355328) from ⟨by omega, by omega⟩) ?_
    | refine CallG.gp (binds_ok T hT) ?_
    | refine CallG.go (ih (T.kids.getD i .nil) (getD_mem (by omega)) (IntKind.i64.wrap (deep + bindsF T)) s' (hF.kid (by omega))) [0, 1, 2] ?_
    | refine Split.go (fun hc => ?_) fun hc => ?_) <;> conv => whnf)
  · rw [drop_step (by omega), walksF] at hp3
    refine ⟨(i + 1, out ++ [(walkF (shiftStep frm by') (T.kids.getD i .nil) (IntKind.i64.wrap (deep + bindsF T)) s').1], (walkF (shiftStep frm by') (T.kids.getD i .nil) (IntKind.i64.wrap (deep + bindsF T)) s').2), ⟨by simp only []; omega, by simp [hp2], by rw [hp3]; simp⟩, by simp only []; omega, Ent.go [0, 1, 2, 3, 5]⟩
  · rw [drop_end (by omega), walksF, List.append_nil] at hp3
    refine RetS.ent (Ent.fz_row 4 (l := out) rfl (by repeat' first | exact trivial | apply And.intro | rfl | exact hp2.symm | exact Nat.zero_lt_one | omega) (by repeat' first | exact trivial | apply And.intro | rfl | exact hp2.symm | exact Nat.zero_lt_one | omega)) ?_
    refine RetS.ent (Ent.fz_node 3 rfl rfl (by repeat' first | exact trivial | apply And.intro | rfl | exact hp2.symm | exact Nat.zero_lt_one | omega) (by repeat' first | exact trivial | apply And.intro | rfl | exact hp2.symm | exact Nat.zero_lt_one | omega)) ?_
    refine RetS.ent (σ' := ⟨[(6, .d (.tree (.node T.kind T.n T.name T.mark out)))], 52, [(0, .cells [.d (.int .i64 frm)]), (1, .cells [.d (.bool s')]), (2, .cells [.d (.int .i64 by')])], 3, g⟩) (Ent.go [0, 1, 2]) ?_
    exact ret_objs rfl rfl (tree_eq (by rw [walkF_eq _ hT, if_neg (by assumption), if_neg (by omega), hp3])) (by rw [walkF_eq _ hT, if_neg (by assumption), if_neg (by omega), hp3]; exact (by repeat' first | exact trivial | apply And.intro | rfl | (refine int_eq ?_; rw [wrap64] <;> omega))) (Nat.le_refl _)
end Go.Proofs.Ytlgajkoplklkiaa

namespace Go.Proofs.Ytlgajkoplklkiaa
open Go Go.Mq
set_option linter.all false

def freeR (T : Tree) : Int := if conE T = 0 then (walkF freeStep T 0 0).2 else 0
set_option maxRecDepth 10000 in
theorem free_ok (T : Tree) : Pure P 25 [.d (.tree T)] (.d (.int .i64 (freeR T))) := by
  refine Pure.of_body tt [] [2] Try.func25 rfl rfl rfl (Nat.le_of_ble_eq_true rfl) fun g => ?_
  repeat' ((first
    | refine then_go hm htt ?_
    | refine Side.go ?_
    | refine Hyp.go fun hlen => ?_
    | refine Split.ct ?_
    | refine Split.cf ?_
    | refine Split.tt ?_
    | refine Split.ff ?_
    | refine Indep.go ?_
    | refine CallG.gp (check_ok T) ?_
    | refine CallG.go (walkFree_ok T 0 0 (conE_full (by assumption)).1) [0] ?_
    | refine Split.go (fun hc => ?_) fun hc => ?_) <;> conv => whnf)
  all_goals refine ret_closed rfl (int_eq ?_) rfl
  all_goals (simp_all [-List.getD_eq_getElem?_getD, int_dec, freeR] <;> omega)

def occursR (T : Tree) (i : Int) : Bool := if conE T = 0 then (walkF (occStep i) T 0 false).2 else false
def shiftR (T : Tree) (by' frm : Int) : Tree × Int :=
  if conE T = 0 then (if (walkF (shiftStep frm by') T 0 (decide (0 ≤ frm))).2 = true then ((walkF (shiftStep frm by') T 0 (decide (0 ≤ frm))).1, 0) else (.nil, 2)) else (.nil, conE T)
set_option maxRecDepth 10000 in
theorem shift_ok (T : Tree) (by' frm : Int) : Pure P 82 [.d (.tree T), .d (.int .i64 by'), .d (.int .i64 frm)] (.tuple [.d (.tree (shiftR T by' frm).1), .d (.int .i64 (shiftR T by' frm).2)]) := by
  refine Pure.of_body tt [] [6, 7] Try.func82 rfl rfl rfl (Nat.le_of_ble_eq_true rfl) fun g => ?_
  repeat' ((first
    | refine then_go hm htt ?_
    | refine Side.go ?_
    | refine Hyp.go fun hlen => ?_
    | refine Split.ct ?_
    | refine Split.cf ?_
    | refine Split.tt ?_
    | refine Split.ff ?_
    | refine Indep.go ?_
    | refine CallG.gp (check_ok T) ?_
    | refine CallG.go (walkShift_ok frm by' T 0 (decide (0 ≤ frm)) (conE_full (by assumption)).1) [1, 2, 0] ?_
    | refine Split.go (fun hc => ?_) fun hc => ?_) <;> conv => whnf)
  all_goals refine ret_closed rfl (tup2 (tree_eq ?_) (int_eq ?_)) rfl
  all_goals (simp_all [shiftR] <;> omega)
end Go.Proofs.Ytlgajkoplklkiaa

namespace Go.Proofs.Ytlgajkoplklkiaa
open Go Go.Mq
set_option linter.all false

mutual
def largeF (most : Int) : Tree → Int
  | .nil => 0
  | .node _ _ _ _ l => largesF 1 most l
def largesF (s most : Int) : List Tree → Int
  | [] => s
  | x :: l => if s > most then s else largesF (s + largeF (most - s) x) most l
end
theorem largeF_kids {T : Tree} (h : T ≠ .nil) (most : Int) : largeF most T = largesF 1 most T.kids := by
  cases T with
  | nil => exact absurd rfl h
  | node => rw [largeF]; rfl
theorem largeF_bound (T : Tree) : ∀ most : Int, 0 ≤ most → 0 ≤ largeF most T ∧ largeF most T ≤ most + 1 := by
  induction T using Tree.ind' with
  | h0 => intro most h; rw [largeF]; omega
  | h1 T hT ih =>
    have kids : ∀ (l : List Tree), (∀ x ∈ l, ∀ most : Int, 0 ≤ most → 0 ≤ largeF most x ∧ largeF most x ≤ most + 1) → ∀ (s most : Int), 0 ≤ most → 0 ≤ s → s ≤ most + 1 → 0 ≤ largesF s most l ∧ largesF s most l ≤ most + 1 := by
      intro l
      induction l with
      | nil => intro _ s most _ _ _; rw [largesF]; omega
      | cons x l ih2 =>
        intro hx s most h1 h2 h3
        rw [largesF]
        split
        · omega
        · have := hx x (by simp) (most - s) (by omega)
          exact ih2 (fun y hy => hx y (by simp [hy])) _ most h1 (by omega) (by omega)
    intro most h
    rw [largeF_kids hT]
    exact kids T.kids ih 1 most h (by omega) (by omega)

set_option maxRecDepth 10000 in
theorem large_ok (T : Tree) : ∀ (most : Int), Full T → 0 ≤ most → most ≤ 65536 → Pure P 83 [.d (.tree T), .d (.int .i64 most)] (.d (.int .i64 (largeF most T))) := by
  induction T using Tree.ind' with
  | h0 => intro most hF; exact absurd rfl hF.ne
  | h1 T hT ih => ?_
  intro most hF h1 h2
  refine Pure.of_body tt [] [4] Try.func83 rfl rfl rfl (Nat.le_of_ble_eq_true rfl) fun g => ?_
  repeat' ((first
    | refine then_go hm htt ?_
    | refine Side.go ?_
    | refine Hyp.go fun hlen => ?_
    | refine Split.ct ?_
    | refine Split.cf ?_
    | refine Split.tt ?_
    | refine Split.ff ?_
    | refine Indep.go ?_
    | refine Split.go (fun hc => ?_) fun hc => ?_) <;> conv => whnf)
  refine loop_go (α := Nat × Int) (fun p => ⟨[(1, .d (.int .i64 most)), (5, .d (.int .i64 p.2)), (11, .d (.trees T.kids)), (12, .d (.int .i64 T.kids.length)), (13, .d (.int .i64 p.1))], 29, [], 0, g⟩) (fun p => p.1 ≤ T.kids.length ∧ (0 ≤ p.2 ∧ p.2 ≤ most + 1) ∧ largesF p.2 most (T.kids.drop p.1) = largesF 1 most T.kids) (fun p => T.kids.length - p.1) (0, 1) ⟨by omega, by simp only []; omega, rfl⟩
        (Ent.go []) (fun _ => rfl) fun p hpre => ?_
  obtain ⟨i, s⟩ := p
  obtain ⟨hp1, hp2, hp3⟩ := hpre
  simp only [] at hp1 hp2 hp3
  have hw : IntKind.i64.wrap (most - s) = most - s := wrap64 (by omega) (by omega)
  repeat' ((first
    | refine then_go hm htt ?_
    | refine Side.go ?_
    | refine Hyp.go fun hlen => ?_
    | refine Split.ct ?_
    | refine Split.cf ?_
    | refine Split.tt ?_
    | refine Split.ff ?_
    | refine Indep.go ?_
    | rw [hw]; refine CallG.gp (ih (T.kids.getD i .nil) (getD_mem (by omega)) (most - s) (hF.kid (by omega)) (by omega) (by omega)) ?_
    | refine Split.go (fun hc => ?_) fun hc => ?_) <;> conv => whnf)
  · refine ret_closed rfl (int_eq ?_) rfl
    rw [drop_step (by omega), largesF, if_pos (by omega)] at hp3
    rw [largeF_kids hT, ← hp3]
  · have hb := largeF_bound (T.kids.getD i .nil) (most - s) (by omega)
    rw [drop_step (by omega), largesF, if_neg (by omega)] at hp3
    exact ⟨(i + 1, s + largeF (most - s) (T.kids.getD i .nil)), ⟨by simp only []; omega, by simp only []; omega, hp3⟩, by simp only []; omega, Ent.go []⟩
  · refine ret_closed rfl (int_eq ?_) rfl
    rw [drop_end (by omega), largesF] at hp3
    rw [largeF_kids hT, ← hp3]

def substStep (i own : Int) (b : Tree) (T : Tree) (deep : Int) (s : Int × Int) : Tree × (Int × Int) :=
  if s.1 ≠ 0 then (T, s)
  else if T.n < deep then (T, s)
  else if IntKind.i64.wrap (T.n - deep) < i then (T, s)
  else if i < IntKind.i64.wrap (T.n - deep) then (movedF T (-1), s)
  else if 65536 < IntKind.i64.wrap (s.2 + own) then (T, (3, IntKind.i64.wrap (s.2 + own)))
  else if (shiftR b deep 0).2 ≠ 0 then (T, (3, IntKind.i64.wrap (s.2 + own)))
  else ((shiftR b deep 0).1, (s.1, IntKind.i64.wrap (s.2 + own)))
set_option maxHeartbeats 4000000 in
set_option maxRecDepth 10000 in
theorem substStep_ok (i own : Int) (b : Tree) (T : Tree) (deep : Int) (s : Int × Int) (hF : Full T) (hk : T.kind = 110) : Fun P 80 [.d (.tree T), .d (.int .i64 deep), .ref 0 0, .ref 1 0, .ref 2 0, .ref 3 0, .ref 4 0] [(0, .cells [.d (.int .i64 s.1)]), (1, .cells [.d (.int .i64 i)]), (2, .cells [.d (.int .i64 s.2)]), (3, .cells [.d (.int .i64 own)]), (4, .cells [.d (.tree b)])] 5
    (.d (.tree (substStep i own b T deep s).1)) [(0, .cells [.d (.int .i64 (substStep i own b T deep s).2.1)]), (1, .cells [.d (.int .i64 i)]), (2, .cells [.d (.int .i64 (substStep i own b T deep s).2.2)]), (3, .cells [.d (.int .i64 own)]), (4, .cells [.d (.tree b)])] 5 := by
  have hT := hF.ne
  refine Fun.of_body tt [] [9] Try.func80 rfl rfl rfl (Nat.le_of_ble_eq_true rfl) fun g => ?_
  repeat' ((first
    | refine then_go hm htt ?_
    | refine Side.go ?_
    | refine Hyp.go fun hlen => ?_
    | refine Split.ct ?_
    | refine Split.cf ?_
    | refine Split.tt ?_
    | refine Split.ff ?_
    | refine Indep.go ?_
    | refine CallG.gp (moved_ok T hT (-1)) ?_
    | refine CallG.gp (shift_ok b deep 0) ?_
    | refine Split.go (fun hc => ?_) fun hc => ?_) <;> conv => whnf)
  all_goals refine ret_objs rfl rfl (tree_eq ?_) ⟨cell_int ?_, rfl, cell_int ?_, rfl, rfl, trivial⟩ (Nat.le_refl _)
  all_goals (unfold substStep; (repeat' split) <;> first | rfl | omega | (exfalso; omega) | (simp_all; done) | (simp_all; omega))

set_option maxHeartbeats 2000000 in
set_option maxRecDepth 10000 in
theorem walkSubst_ok (j own : Int) (b : Tree) (T : Tree) : ∀ (deep : Int) (s : (Int × Int)), Full T → Fun P 50 [.d (.tree T), .d (.int .i64 deep), .fn 80 [.ref 0 0, .ref 1 0, .ref 2 0, .ref 3 0, .ref 4 0]] ([(0, .cells [.d (.int .i64 (s).1)]), (1, .cells [.d (.int .i64 j)]), (2, .cells [.d (.int .i64 (s).2)]), (3, .cells [.d (.int .i64 own)]), (4, .cells [.d (.tree b)])]) 5 (.d (.tree (walkF (substStep j own b) T deep s).1)) ([(0, .cells [.d (.int .i64 ((walkF (substStep j own b) T deep s).2).1)]), (1, .cells [.d (.int .i64 j)]), (2, .cells [.d (.int .i64 ((walkF (substStep j own b) T deep s).2).2)]), (3, .cells [.d (.int .i64 own)]), (4, .cells [.d (.tree b)])]) 5 := by
  induction T using Tree.ind' with
  | h0 => intro deep s hF; exact absurd rfl hF.ne
  | h1 T hT ih => ?_
  intro deep s hF
  refine Fun.of_body tt [48] [6] Try.func50 rfl rfl rfl (Nat.le_of_ble_eq_true rfl) fun g => ?_
  repeat' ((first
    | refine then_go hm htt ?_
    | refine Side.go ?_
    | refine Hyp.go fun hlen => ?_
    | refine Split.ct ?_
    | refine Split.cf ?_
    | refine Split.tt ?_
    | refine Split.ff ?_
    | refine Indep.go ?_
    | refine CallG.go (substStep_ok j own b T deep s hF (by assumption)) [0, 1, 2, 3, 4] ?_
    | refine Split.go (fun hc => ?_) fun hc => ?_) <;> conv => whnf)
  · exact ret_objs rfl rfl (tree_eq (by rw [walkF_eq _ hT, if_pos (by assumption)])) (by rw [walkF_eq _ hT, if_pos (by assumption)]; exact (by repeat' first | exact trivial | apply And.intro | rfl | (refine int_eq ?_; rw [wrap64] <;> omega))) (Nat.le_refl _)
  · exact ret_objs rfl rfl (tree_eq (by rw [walkF_eq _ hT, if_neg (by assumption), if_pos (by omega)])) (by rw [walkF_eq _ hT, if_neg (by assumption), if_pos (by omega)]; exact (by repeat' first | exact trivial | apply And.intro | rfl | (refine int_eq ?_; rw [wrap64] <;> omega))) (Nat.le_refl _)
  refine loop_go (α := Nat × List Tree × (Int × Int)) (fun p => ⟨[(0, .d (.tree T)), (1, .d (.int .i64 deep)), (2, .fn 80 [.ref 0 0, .ref 1 0, .ref 2 0, .ref 3 0, .ref 4 0]), (7, .ref 5 0), (33, .d (.trees T.kids)), (34, .d (.int .i64 T.kids.length)), (35, .d (.int .i64 p.1))], 52, ([(0, .cells [.d (.int .i64 (p.2.2).1)]), (1, .cells [.d (.int .i64 j)]), (2, .cells [.d (.int .i64 (p.2.2).2)]), (3, .cells [.d (.int .i64 own)]), (4, .cells [.d (.tree b)])]) ++ [(5, .cells [.d (.int .i64 T.kind), .d (.int .i64 T.n), .d (.str T.name), .d (.str T.mark), .row 6 p.1]), (6, .row 25 (.trees p.2.1))], 7, g⟩)
        (fun p => p.1 ≤ T.kids.length ∧ p.2.1.length = p.1 ∧ walksF (substStep j own b) T.kids (IntKind.i64.wrap (deep + bindsF T)) s = (p.2.1 ++ (walksF (substStep j own b) (T.kids.drop p.1) (IntKind.i64.wrap (deep + bindsF T)) p.2.2).1, (walksF (substStep j own b) (T.kids.drop p.1) (IntKind.i64.wrap (deep + bindsF T)) p.2.2).2)) (fun p => T.kids.length - p.1) (0, [], s) ⟨by simp, rfl, by simp⟩
        (Ent.nil rfl rfl rfl (by repeat' first | exact trivial | apply And.intro | rfl | (refine int_eq ?_; rw [wrap64] <;> omega)) (by repeat' first | exact trivial | apply And.intro | rfl | (refine int_eq ?_; rw [wrap64] <;> omega))) (fun _ => rfl) fun p hpre => ?_
  obtain ⟨i, out, s'⟩ := p
  obtain ⟨hp1, hp2, hp3⟩ := hpre
  simp only [] at hp1 hp2 hp3
  repeat' ((first
    | refine then_go hm htt ?_
    | refine Side.go ?_
    | refine Hyp.go fun hlen => ?_
    | refine Split.ct ?_
    | refine Split.cf ?_
    | refine Split.tt ?_
    | refine Split.ff ?_
    | refine Indep.go ?_
    | refine Side.mk (show (i + 1 ≤ 17592186044416 ∧ (i + 1) * 8 ≤ 140737488355328) from ⟨by omega, by omega⟩) ?_
    | refine CallG.gp (binds_ok T hT) ?_
    | refine CallG.go (ih (T.kids.getD i .nil) (getD_mem (by omega)) (IntKind.i64.wrap (deep + bindsF T)) s' (hF.kid (by omega))) [0, 1, 2, 3, 4] ?_
    | refine Split.go (fun hc => ?_) fun hc => ?_) <;> conv => whnf)
  · rw [drop_step (by omega), walksF] at hp3
    refine ⟨(i + 1, out ++ [(walkF (substStep j own b) (T.kids.getD i .nil) (IntKind.i64.wrap (deep + bindsF T)) s').1], (walkF (substStep j own b) (T.kids.getD i .nil) (IntKind.i64.wrap (deep + bindsF T)) s').2), ⟨by simp only []; omega, by simp [hp2], by rw [hp3]; simp⟩, by simp only []; omega, Ent.go [0, 1, 2, 3, 4, 5, 7]⟩
  · rw [drop_end (by omega), walksF, List.append_nil] at hp3
    refine RetS.ent (Ent.fz_row 6 (l := out) rfl (by repeat' first | exact trivial | apply And.intro | rfl | exact hp2.symm | exact Nat.zero_lt_one | omega) (by repeat' first | exact trivial | apply And.intro | rfl | exact hp2.symm | exact Nat.zero_lt_one | omega)) ?_
    refine RetS.ent (Ent.fz_node 5 rfl rfl (by repeat' first | exact trivial | apply And.intro | rfl | exact hp2.symm | exact Nat.zero_lt_one | omega) (by repeat' first | exact trivial | apply And.intro | rfl | exact hp2.symm | exact Nat.zero_lt_one | omega)) ?_
    refine RetS.ent (σ' := ⟨[(6, .d (.tree (.node T.kind T.n T.name T.mark out)))], 52, [(0, .cells [.d (.int .i64 (s').1)]), (1, .cells [.d (.int .i64 j)]), (2, .cells [.d (.int .i64 (s').2)]), (3, .cells [.d (.int .i64 own)]), (4, .cells [.d (.tree b)])], 5, g⟩) (Ent.go [0, 1, 2, 3, 4]) ?_
    exact ret_objs rfl rfl (tree_eq (by rw [walkF_eq _ hT, if_neg (by assumption), if_neg (by omega), hp3])) (by rw [walkF_eq _ hT, if_neg (by assumption), if_neg (by omega), hp3]; exact (by repeat' first | exact trivial | apply And.intro | rfl | (refine int_eq ?_; rw [wrap64] <;> omega))) (Nat.le_refl _)
end Go.Proofs.Ytlgajkoplklkiaa

namespace Go.Proofs.Ytlgajkoplklkiaa
open Go Go.Mq
set_option linter.all false

mutual
def sizeF : Tree → Int
  | .nil => 0
  | .node _ _ _ _ l => sizesF 1 l
def sizesF (a : Int) : List Tree → Int
  | [] => a
  | x :: l => sizesF (IntKind.i64.wrap (a + sizeF x)) l
end
theorem sizeF_kids {T : Tree} (h : T ≠ .nil) : sizeF T = sizesF 1 T.kids := by cases T <;> simp_all [sizeF, Tree.kids]

theorem size_ok (T : Tree) : Pure P 79 [.d (.tree T)] (.d (.int .i64 (sizeF T))) := by
  induction T using Tree.ind' with
  | h0 => ?_
  | h1 T hT ih => ?_
  · refine Pure.of_body tt [] [2] Try.func79 rfl rfl rfl (Nat.le_of_ble_eq_true rfl) fun g => ?_
    repeat' ((first
      | refine then_go hm htt ?_
      | refine Side.go ?_
      | refine Hyp.go fun hlen => ?_
      | refine Split.ct ?_
      | refine Split.cf ?_
      | refine Split.tt ?_
      | refine Split.ff ?_
      | refine Indep.go ?_
      | refine Split.go (fun hc => ?_) fun hc => ?_) <;> conv => whnf)
    all_goals refine ret_closed rfl (int_eq ?_) rfl
    all_goals rfl
  · refine Pure.of_body tt [] [2] Try.func79 rfl rfl rfl (Nat.le_of_ble_eq_true rfl) fun g => ?_
    repeat' ((first
      | refine then_go hm htt ?_
      | refine Side.go ?_
      | refine Hyp.go fun hlen => ?_
      | refine Split.ct ?_
      | refine Split.cf ?_
      | refine Split.tt ?_
      | refine Split.ff ?_
      | refine Indep.go ?_
      | refine Split.go (fun hc => ?_) fun hc => ?_) <;> conv => whnf)
    · refine loop_go (α := Nat × Int) (fun p => ⟨[(3, .d (.int .i64 p.2)), (11, .d (.trees T.kids)), (12, .d (.int .i64 T.kids.length)), (13, .d (.int .i64 p.1))], 23, [], 0, g⟩) (fun p => p.1 ≤ T.kids.length ∧ sizesF p.2 (T.kids.drop p.1) = sizesF 1 T.kids) (fun p => T.kids.length - p.1) (0, 1) ⟨by omega, rfl⟩
        (Ent.re [] rfl rfl rfl rfl rfl rfl (by repeat' first | exact trivial | apply And.intro | rfl) trivial) (fun _ => rfl) fun p hpre => ?_
      obtain ⟨hp1, hp2⟩ := hpre
      repeat' ((first
        | refine then_go hm htt ?_
        | refine Side.go ?_
        | refine Hyp.go fun hlen => ?_
        | refine Split.ct ?_
        | refine Split.cf ?_
        | refine Split.tt ?_
        | refine Split.ff ?_
        | refine Indep.go ?_
        | refine CallG.gp (ih _ (getD_mem (by omega))) ?_
        | refine Split.go (fun hc => ?_) fun hc => ?_) <;> conv => whnf)
      · rw [drop_step (by omega), sizesF] at hp2
        exact ⟨(p.1 + 1, _), ⟨by omega, hp2⟩, by omega, Ent.re [] rfl rfl rfl rfl rfl rfl (by repeat' first | exact trivial | apply And.intro | rfl | (refine int_eq ?_; rw [wrap64] <;> omega)) trivial⟩
      · refine ret_closed rfl (int_eq ?_) rfl
        rw [drop_end (by omega), sizesF] at hp2
        rw [sizeF_kids hT, ← hp2]

end Go.Proofs.Ytlgajkoplklkiaa

namespace Go.Proofs.Ytlgajkoplklkiaa
open Go Go.Mq
set_option linter.all false

theorem walkF_full {σ : Type} {f : Tree → Int → σ → Tree × σ} (hf : ∀ x deep s, Full x → Full (f x deep s).1) (T : Tree) : ∀ deep s, Full T → Full (walkF f T deep s).1 := by
  induction T using Tree.ind' with
  | h0 => intro deep s h; exact absurd rfl h.ne
  | h1 T hT ih =>
    have kids : ∀ (l : List Tree), (∀ x ∈ l, ∀ deep s, Full x → Full (walkF f x deep s).1) → (∀ x ∈ l, Full x) → ∀ deep s, ∀ y ∈ (walksF f l deep s).1, Full y := by
      intro l
      induction l with
      | nil => intro _ _ deep s y hy; rw [walksF] at hy; simp at hy
      | cons x l ih2 =>
        intro hx hF deep s y hy
        rw [walksF] at hy
        rcases List.mem_cons.1 hy with rfl | hy
        · exact hx x (by simp) deep s (hF x (by simp))
        · exact ih2 (fun z hz => hx z (by simp [hz])) (fun z hz => hF z (by simp [hz])) _ _ y hy
    intro deep s hF
    rw [walkF_eq f hT]
    split
    · exact hf T deep s hF
    · split
      · exact hF
      · exact .node (kids T.kids ih hF.kids _ _)

theorem movedF_full (T : Tree) (b : Int) : Full (movedF T b) := .node (fun x hx => by simp at hx)
theorem shiftStep_full (frm b : Int) (x : Tree) (deep : Int) (s : Bool) (h : Full x) : Full (shiftStep frm b x deep s).1 := by
  unfold shiftStep
  repeat' split
  all_goals first | exact h | exact movedF_full _ _
theorem shiftR_full {T : Tree} {b frm : Int} (h : (shiftR T b frm).2 = 0) : Full (shiftR T b frm).1 := by
  unfold shiftR at h ⊢
  split at h
  · split at h
    · rw [if_pos ‹_›, if_pos ‹_›]
      exact walkF_full (shiftStep_full frm b) T 0 _ (conE_full ‹_›).1
    · simp at h
  · exact absurd h ‹_›
theorem substStep_full (i own : Int) (b x : Tree) (deep : Int) (s : Int × Int) (h : Full x) : Full (substStep i own b x deep s).1 := by
  unfold substStep
  repeat' split
  all_goals first | exact h | exact movedF_full _ _ | skip
  rename_i hq
  exact shiftR_full (Decidable.not_not.1 hq)

def substE (T : Tree) (i : Int) (b : Tree) : Int :=
  if (walkF (substStep i (sizeF b) b) T 0 (0, 0)).2.1 = 0 ∧ 65536 < largeF 65536 (walkF (substStep i (sizeF b) b) T 0 (0, 0)).1 then 3 else (walkF (substStep i (sizeF b) b) T 0 (0, 0)).2.1
def substR (T : Tree) (i : Int) (b : Tree) : Tree × Int :=
  if conE T = 0 then
    if conE b = 0 then
      if i < 0 then (.nil, 2)
      else if substE T i b = 0 then ((walkF (substStep i (sizeF b) b) T 0 (0, 0)).1, 0) else (.nil, substE T i b)
    else (.nil, conE b)
  else (.nil, conE T)

set_option maxHeartbeats 4000000 in
set_option maxRecDepth 10000 in
theorem subst_ok (T : Tree) (i : Int) (b : Tree) : Pure P 75 [.d (.tree T), .d (.int .i64 i), .d (.tree b)] (.tuple [.d (.tree (substR T i b).1), .d (.int .i64 (substR T i b).2)]) := by
  refine Pure.of_body tt [] [6, 7] Try.func75 rfl rfl rfl (Nat.le_of_ble_eq_true rfl) fun g => ?_
  repeat' ((first
    | refine then_go hm htt ?_
    | refine Side.go ?_
    | refine Hyp.go fun hlen => ?_
    | refine Split.ct ?_
    | refine Split.cf ?_
    | refine Split.tt ?_
    | refine Split.ff ?_
    | refine Indep.go ?_
    | refine CallG.gp (check_ok T) ?_
    | refine CallG.gp (check_ok b) ?_
    | refine CallG.gp (size_ok b) ?_
    | refine CallG.go (walkSubst_ok i (sizeF b) b T 0 (0, 0) (conE_full (by assumption)).1) [3, 0, 2, 4, 1] ?_
    | refine CallG.gp (large_ok (walkF (substStep i (sizeF b) b) T 0 (0, 0)).1 65536 (walkF_full (substStep_full i (sizeF b) b) T 0 (0, 0) (conE_full (by assumption)).1) (by omega) (by omega)) ?_
    | refine Split.go (fun hc => ?_) fun hc => ?_) <;> conv => whnf)
  all_goals refine ret_closed rfl (tup2 (tree_eq ?_) (int_eq ?_)) rfl
  all_goals (unfold substR substE; (repeat' split) <;> first | rfl | omega | (exfalso; omega) | (simp_all; done) | (simp_all; omega))
end Go.Proofs.Ytlgajkoplklkiaa

namespace Go.Proofs.Ytlgajkoplklkiaa
open Go Go.Mq
set_option linter.all false

/-! the document's answers to layer 10 -/
set_option maxRecDepth 10000 in
theorem rplain_ok (T : Tree) (hT : T ≠ .nil) (name : Bool) : Pure P 59 [.d (.tree T), .d (.bool name)] (.d (.bool (bareF T name false))) := by
  refine Pure.of_body tt [] [4] Try.func59 rfl rfl rfl (Nat.le_of_ble_eq_true rfl) fun g => ?_
  repeat' ((first
    | refine then_go hm htt ?_
    | refine Side.go ?_
    | refine Hyp.go fun hlen => ?_
    | refine Split.ct ?_
    | refine Split.cf ?_
    | refine Split.tt ?_
    | refine Split.ff ?_
    | refine Indep.go ?_
    | refine Split.go (fun hc => ?_) fun hc => ?_) <;> conv => whnf)
  all_goals refine ret_closed rfl (bool_eq ?_) rfl
  all_goals (try simp only [bytes_dec, empty_bytes])
  all_goals (unfold bareF; by_cases q1 : T.mark = ByteArray.empty <;> by_cases q2 : T.name = ByteArray.empty <;> by_cases q3 : T.n = 0 <;> cases name <;> simp_all [int_dec])

set_option maxHeartbeats 2000000 in
set_option maxRecDepth 10000 in
theorem risKind_ok (T : Tree) (hF : Full T) : Pure P 61 [.d (.tree T)] (.d (.bool (isKindF T))) := by
  induction T using Tree.ind' with
  | h0 => exact absurd rfl hF.ne
  | h1 T hT ih => ?_
  refine Pure.of_body tt [] [2] Try.func61 rfl rfl rfl (Nat.le_of_ble_eq_true rfl) fun g => ?_
  repeat' ((first
    | refine then_go hm htt ?_
    | refine Side.go ?_
    | refine Hyp.go fun hlen => ?_
    | refine Split.ct ?_
    | refine Split.cf ?_
    | refine Split.tt ?_
    | refine Split.ff ?_
    | refine Indep.go ?_
    | refine CallG.gp (rplain_ok T hT false) ?_
    | refine CallG.gp (ih (T.kids.getD 0 .nil) (getD_mem (by omega)) (hF.kid (by omega))) ?_
    | refine CallG.gp (ih (T.kids.getD 1 .nil) (getD_mem (by omega)) (hF.kid (by omega))) ?_
    | refine Split.go (fun hc => ?_) fun hc => ?_) <;> conv => whnf)
  all_goals refine ret_closed rfl (bool_eq ?_) rfl
  all_goals (rw [isKindF_eq hT]; (repeat' split) <;> simp_all [-List.getD_eq_getElem?_getD, int_dec])

set_option maxRecDepth 10000 in
theorem rinner_ok (T : Tree) (hT : T ≠ .nil) : Pure P 64 [.d (.tree T)] (.d (.int .i64 (bindsF T))) := by
  refine Pure.of_body tt [] [2] Try.func64 rfl rfl rfl (Nat.le_of_ble_eq_true rfl) fun g => ?_
  repeat' ((first
    | refine then_go hm htt ?_
    | refine Side.go ?_
    | refine Hyp.go fun hlen => ?_
    | refine Split.ct ?_
    | refine Split.cf ?_
    | refine Split.tt ?_
    | refine Split.ff ?_
    | refine Indep.go ?_
    | refine Split.go (fun hc => ?_) fun hc => ?_) <;> conv => whnf)
  all_goals refine ret_closed rfl (int_eq ?_) rfl
  all_goals (unfold bindsF; (repeat' split) <;> first | rfl | omega | (exfalso; omega))

def withinL (left : Int) (T : Tree) : Int := if (wholeF left T).1 = 0 then (wholeF left T).2 else if T.isNil then left else 0
set_option maxHeartbeats 2000000 in
set_option maxRecDepth 10000 in
theorem rwithin_ok (T : Tree) : ∀ left : Int, 0 ≤ left → left ≤ 65536 → Pure P 33 [.d (.tree T), .d (.int .i64 left)] (.tuple [.d (.int .i64 (withinL left T)), .d (.int .i64 (wholeF left T).1)]) := by
  induction T using Tree.ind' with
  | h0 => ?_
  | h1 T hT ih => ?_
  · intro left h1 h2
    refine Pure.of_body tt [] [4, 5] Try.func33 rfl rfl rfl (Nat.le_of_ble_eq_true rfl) fun g => ?_
    repeat' ((first
      | refine then_go hm htt ?_
      | refine Side.go ?_
      | refine Hyp.go fun hlen => ?_
      | refine Split.ct ?_
      | refine Split.cf ?_
      | refine Split.tt ?_
      | refine Split.ff ?_
      | refine Indep.go ?_
      | refine Split.go (fun hc => ?_) fun hc => ?_) <;> conv => whnf)
    exact ret_closed rfl (tup2 (int_eq (by simp [withinL, wholeF, Tree.isNil])) (int_eq (by rw [wholeF]))) rfl
  · intro left h1 h2
    have hnil : T.isNil = false := Tree.isNil_not.2 hT
    refine Pure.of_body tt [] [4, 5] Try.func33 rfl rfl rfl (Nat.le_of_ble_eq_true rfl) fun g => ?_
    repeat' ((first
      | refine then_go hm htt ?_
      | refine Side.go ?_
      | refine Hyp.go fun hlen => ?_
      | refine Split.ct ?_
      | refine Split.cf ?_
      | refine Split.tt ?_
      | refine Split.ff ?_
      | refine Indep.go ?_
      | refine Split.go (fun hc => ?_) fun hc => ?_) <;> conv => whnf)
    · have e : wholeF left T = (3, left - 1) := by rw [wholeF_kids hT, if_pos (by omega)]
      exact ret_closed rfl (tup2 (int_eq (by simp [withinL, e, hnil])) (int_eq (by rw [e]))) rfl
    · have hw : IntKind.i64.wrap (left - 1) = left - 1 := wrap64 (by omega) (by omega)
      have e : wholeF left T = wholesF (left - 1) T.kids := by rw [wholeF_kids hT, if_neg (by omega)]
      refine loop_go (α := Nat × Int) (fun p => ⟨[(0, .d (.tree T)), (1, .d (.int .i64 p.2)), (6, .d (.int .i64 p.1))], 42, [], 0, g⟩)
        (fun p => p.1 ≤ T.kids.length ∧ (0 ≤ p.2 ∧ p.2 ≤ 65536) ∧ wholesF p.2 (T.kids.drop p.1) = wholesF (left - 1) T.kids) (fun p => T.kids.length - p.1) (0, IntKind.i64.wrap (left - 1)) ⟨by omega, by rw [hw]; simp only []; omega, by rw [hw]; rfl⟩
        (Ent.go []) (fun _ => rfl) fun p hpre => ?_
      obtain ⟨i, s⟩ := p
      obtain ⟨hp1, hp2, hp3⟩ := hpre
      simp only [] at hp1 hp2 hp3
      have hb := whole_bound (T.kids.getD i .nil) s hp2.1
      repeat' ((first
        | refine then_go hm htt ?_
        | refine Side.go ?_
        | refine Hyp.go fun hlen => ?_
        | refine Split.ct ?_
        | refine Split.cf ?_
        | refine Split.tt ?_
        | refine Split.ff ?_
        | refine Indep.go ?_
        | refine CallG.gp (ih (T.kids.getD i .nil) (getD_mem (by omega)) s (by omega) (by omega)) ?_
        | refine Split.go (fun hc => ?_) fun hc => ?_) <;> conv => whnf)
      · rw [drop_step (by omega), wholesF, if_neg hc] at hp3
        exact ret_closed rfl (tup2 (int_eq (by rw [withinL, e, ← hp3, if_neg hc, hnil]; rfl)) (int_eq (by rw [e, ← hp3]))) rfl
      · rw [drop_step (by omega), wholesF, if_pos hc] at hp3
        have hl : withinL s (T.kids.getD i .nil) = (wholeF s (T.kids.getD i .nil)).2 := if_pos hc
        refine ⟨(i + 1, withinL s (T.kids.getD i .nil)), ⟨by simp only []; omega, by rw [hl]; simp only []; have := hb.2 hc; omega, by rw [hl]; exact hp3⟩, by simp only []; omega, Ent.go []⟩
      · rw [drop_end (by omega), wholesF] at hp3
        exact ret_closed rfl (tup2 (int_eq (by rw [withinL, e, ← hp3]; rfl)) (int_eq (by rw [e, ← hp3]))) rfl

end Go.Proofs.Ytlgajkoplklkiaa
