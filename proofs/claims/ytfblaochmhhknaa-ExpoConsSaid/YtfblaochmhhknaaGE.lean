/- What functions of the program compute, and plain facts about it. -/
import Derived.Deep.Slices
import Derived.Deep.Fields
import Derived.ChangeSame
import Derived.SizedLaws
import Derived.ProofKit
import Derived.OpenShut
import Derived.Carry
import Derived.Test.YtfblaochmhhknaaGD
import Derived.Test.YtfblaochmhhknaaGB
set_option linter.all false
namespace Go.Proofs.Ytfblaochmhhknaa
open Go Go.Mq
set_option linter.all false

def TextP (T : Tree) : Prop := Sh T → sizeN T ≤ 65536 → Pure P 72 [.d (.tree T)] (.d (.str (textF T)))
theorem cs2 : cBrace.size = 1 ∧ cBar1.size = 2 ∧ cComma1.size = 2 := ⟨rfl, rfl, rfl⟩
theorem brace_open : cBrace ++ cBlank = cOpen := by kernel_rfl
theorem sep_115 : cComma1 ++ cBlank = cComma := by kernel_rfl
theorem sep_121 : cBar1 ++ cBlank = cBar := by kernel_rfl
theorem sizesN_take : ∀ (l : List Tree) (p : Nat), sizesN (l.take p) ≤ sizesN l
  | [], p => by simp [sizesN]
  | x :: l, 0 => by simp [sizesN]
  | x :: l, p + 1 => by
    rw [List.take_succ_cons, sizesN, sizesN]
    have := sizesN_take l p
    omega
theorem getD_get {l : List Tree} {i : Nat} (h : i < l.length) : l.getD i .nil = l[i] := by
  rw [List.getD_eq_getElem?_getD, List.getElem?_eq_getElem h]; rfl

theorem take_ne_nil {α : Type} (f : Tree → α) {l : List Tree} {p : Nat} (hp : p ≠ 0) (h : p < l.length) : (l.take p).map f ≠ [] := by
  intro e
  have := congrArg List.length e
  rw [List.length_map, List.length_take, List.length_nil] at this
  omega
theorem take_one_map {α : Type} (f : Tree → α) {l : List Tree} {p : Nat} (hp : p = 0) (h : p < l.length) : (l.take (p + 1)).map f = [f (l.getD p .nil)] := by
  subst hp
  rw [← take_map_step f h]; rfl

set_option maxHeartbeats 4000000 in
set_option maxRecDepth 10000 in
theorem rtext_two (T : Tree) (hT : T ≠ .nil) (hn : ShN T) (hz : sizeN T ≤ 65536) (ih : ∀ x ∈ T.kids, TextP x) (h115 : T.kind ≠ 115) (h121 : T.kind ≠ 121) : Pure P 72 [.d (.tree T)] (.d (.str (textF T))) := by
  have hks := hn.ks
  have hzz := sizeN_kids hT
  obtain ⟨e1, e2, e3, e4, e5, e6, e7, e8, e9, e10, e11, e12, e13, e14, e15, e16, e17, e18, e19, e20, e21, e22⟩ := cs
  have hte := textF_eq hT
  by_cases hk2 : T.kind = 101 ∨ T.kind = 114 ∨ T.kind = 117 ∨ T.kind = 118 ∨ T.kind = 119 ∨ T.kind = 120
  · obtain ⟨hl, s0, s1⟩ := hn.two hk2
    have hs2 := sizesN_two hl
    have t0 := text_size _ s0
    have t1 := text_size _ s1
    have p0 := ih _ (getD_mem (by omega : 0 < T.kids.length)) s0 (by omega)
    have p1 := ih _ (getD_mem (by omega : 1 < T.kids.length)) s1 (by omega)
    have hsum : ∀ a b c : ByteArray, a.size ≤ 1000 → b.size ≤ 1000 → c.size ≤ 1000 → a.size + (textF (T.kids.getD 0 .nil)).size ≤ 9223372036854775807 ∧ (a ++ textF (T.kids.getD 0 .nil)).size + b.size ≤ 9223372036854775807 ∧ ((a ++ textF (T.kids.getD 0 .nil)) ++ b).size + (textF (T.kids.getD 1 .nil)).size ≤ 9223372036854775807 ∧ (((a ++ textF (T.kids.getD 0 .nil)) ++ b) ++ textF (T.kids.getD 1 .nil)).size + c.size ≤ 9223372036854775807 := by
      intro a b c h1 h2 h3; simp only [ByteArray.size_append]; omega
    clear t0 t1 hs2 hzz ih
    refine Pure.of_body tt [] [2] Try.func72 rfl rfl rfl (Nat.le_of_ble_eq_true rfl) fun g => ?_
    repeat' first
      | (refine then_go hm htt ?_; conv => whnf)
      | (refine Side.mk (by first | assumption | exact trivial | rfl | exact Nat.le_of_ble_eq_true rfl | omega) ?_; conv => whnf)
      | (refine Hyp.mk fun hlen => ?_; replace hlen : _ ≤ 17592186044416 := hlen; conv => whnf)
      | (refine Split.ct ?_; conv => whnf)
      | (refine Split.cf ?_; conv => whnf)
      | (refine Split.of_true (by first | rfl | assumption | ((try simp only [bytes_eq, bytes_ne, empty_bytes, bytes_bne, bytes_bne']); (try simp only [decide_eq_true_eq, decide_eq_false_iff_not, beq_iff_eq, beq_eq_false_iff_ne, bne_iff_ne, bne_eq_false_iff_eq, Bool.not_eq_true', Bool.not_eq_false', Tree.isNil_iff, Tree.isNil_not, Int.not_lt, Int.not_le, gt_iff_lt, ge_iff_le, ne_eq, Decidable.not_not, Int.toNat_natCast, Int.toNat_zero, Int.toNat_one]); first | assumption | omega)) ?_; conv => whnf)
      | (refine Split.of_false (by first | rfl | assumption | ((try simp only [bytes_eq, bytes_ne, empty_bytes, bytes_bne, bytes_bne']); (try simp only [decide_eq_true_eq, decide_eq_false_iff_not, beq_iff_eq, beq_eq_false_iff_ne, bne_iff_ne, bne_eq_false_iff_eq, Bool.not_eq_true', Bool.not_eq_false', Tree.isNil_iff, Tree.isNil_not, Int.not_lt, Int.not_le, gt_iff_lt, ge_iff_le, ne_eq, Decidable.not_not, Int.toNat_natCast, Int.toNat_zero, Int.toNat_one]); first | assumption | omega)) ?_; conv => whnf)
      | (refine Indep.mk (by kernel_rfl) ?_; conv => whnf)
      | (refine CallG.pure p0 rfl ?_; conv => whnf)
      | (refine CallG.pure p1 rfl ?_; conv => whnf)
      | (refine Side.mk (show (0 : Int) ≤ 0 ∧ (0 : Int) < (T.kids.length : Int) from ⟨by omega, by omega⟩) ?_; conv => whnf)
      | (refine Side.mk (show (0 : Int) ≤ 1 ∧ (1 : Int) < (T.kids.length : Int) from ⟨by omega, by omega⟩) ?_; conv => whnf)
      | (refine Side.mk (hsum _ cEnd cEnd (by decide) (by decide) (by decide)).1 ?_; conv => whnf)
      | (refine Side.mk (hsum _ _ cEnd (by decide) (by decide) (by decide)).2.1 ?_; conv => whnf)
      | (refine Side.mk (hsum _ _ cEnd (by decide) (by decide) (by decide)).2.2.1 ?_; conv => whnf)
      | (refine Side.mk (hsum _ _ _ (by decide) (by decide) (by decide)).2.2.2 ?_; conv => whnf)
      | (refine Split.mk (fun hc => ?_) (fun hc => ?_) <;> (try simp only [bytes_eq, bytes_ne, empty_bytes, bytes_bne, bytes_bne'] at hc) <;> (try simp only [decide_eq_true_eq, decide_eq_false_iff_not, beq_iff_eq, beq_eq_false_iff_ne, bne_iff_ne, bne_eq_false_iff_eq, Bool.not_eq_true', Bool.not_eq_false', Tree.isNil_iff, Tree.isNil_not, Int.not_lt, Int.not_le, gt_iff_lt, ge_iff_le, ne_eq, Decidable.not_not, Int.toNat_natCast, Int.toNat_zero, Int.toNat_one] at hc) <;> conv => whnf)
    all_goals
      refine ret_closed rfl (str_eq ?_) rfl
      rw [hte]
      repeat first | rw [if_pos (by omega)] | rw [if_neg (by omega)]
      simp only [ByteArray.append_assoc]
      rfl
  · have hnum : T.kind = 110 → Pure P 126 [.d (.int .i64 T.n)] (.d (.str (numF T.n))) := fun hk => rnumber_ok T.n.natAbs T.n (Nat.le_refl _) (by have := hn.num hk; omega) (by have := hn.num hk; omega)
    have hnsz : T.kind = 110 → cDollar.size + (numF T.n).size ≤ 9223372036854775807 := fun hk => by
      have := numF_size2 (hn.num hk).1 (hn.num hk).2
      omega
    clear hzz ih
    refine Pure.of_body tt [] [2] Try.func72 rfl rfl rfl (Nat.le_of_ble_eq_true rfl) fun g => ?_
    repeat' first
      | (refine then_go hm htt ?_; conv => whnf)
      | (refine Side.mk (by first | assumption | exact trivial | rfl | exact Nat.le_of_ble_eq_true rfl | omega) ?_; conv => whnf)
      | (refine Hyp.mk fun hlen => ?_; replace hlen : _ ≤ 17592186044416 := hlen; conv => whnf)
      | (refine Split.ct ?_; conv => whnf)
      | (refine Split.cf ?_; conv => whnf)
      | (refine Split.of_true (by first | rfl | assumption | ((try simp only [bytes_eq, bytes_ne, empty_bytes, bytes_bne, bytes_bne']); (try simp only [decide_eq_true_eq, decide_eq_false_iff_not, beq_iff_eq, beq_eq_false_iff_ne, bne_iff_ne, bne_eq_false_iff_eq, Bool.not_eq_true', Bool.not_eq_false', Tree.isNil_iff, Tree.isNil_not, Int.not_lt, Int.not_le, gt_iff_lt, ge_iff_le, ne_eq, Decidable.not_not, Int.toNat_natCast, Int.toNat_zero, Int.toNat_one]); first | assumption | omega)) ?_; conv => whnf)
      | (refine Split.of_false (by first | rfl | assumption | ((try simp only [bytes_eq, bytes_ne, empty_bytes, bytes_bne, bytes_bne']); (try simp only [decide_eq_true_eq, decide_eq_false_iff_not, beq_iff_eq, beq_eq_false_iff_ne, bne_iff_ne, bne_eq_false_iff_eq, Bool.not_eq_true', Bool.not_eq_false', Tree.isNil_iff, Tree.isNil_not, Int.not_lt, Int.not_le, gt_iff_lt, ge_iff_le, ne_eq, Decidable.not_not, Int.toNat_natCast, Int.toNat_zero, Int.toNat_one]); first | assumption | omega)) ?_; conv => whnf)
      | (refine Indep.mk (by kernel_rfl) ?_; conv => whnf)
      | (refine CallG.pure (hnum (by omega)) rfl ?_; conv => whnf)
      | (refine Side.mk (hnsz (by omega)) ?_; conv => whnf)
      | (refine Split.mk (fun hc => ?_) (fun hc => ?_) <;> (try simp only [bytes_eq, bytes_ne, empty_bytes, bytes_bne, bytes_bne'] at hc) <;> (try simp only [decide_eq_true_eq, decide_eq_false_iff_not, beq_iff_eq, beq_eq_false_iff_ne, bne_iff_ne, bne_eq_false_iff_eq, Bool.not_eq_true', Bool.not_eq_false', Tree.isNil_iff, Tree.isNil_not, Int.not_lt, Int.not_le, gt_iff_lt, ge_iff_le, ne_eq, Decidable.not_not, Int.toNat_natCast, Int.toNat_zero, Int.toNat_one] at hc) <;> conv => whnf)
    all_goals
      refine ret_closed rfl (str_eq ?_) rfl
      rw [hte]
      repeat first | rw [if_pos (by omega)] | rw [if_neg (by omega)]
      rfl

set_option maxHeartbeats 4000000 in
set_option maxRecDepth 10000 in
theorem rtext_115 (T : Tree) (hT : T ≠ .nil) (hn : ShN T) (hz : sizeN T ≤ 65536) (ih : ∀ x ∈ T.kids, ∀ y ∈ x.kids, TextP y) (hk : T.kind = 115) : Pure P 72 [.d (.tree T)] (.d (.str (textF T))) := by
  have hzz := sizeN_kids hT
  have hf := hn.fld (by omega)
  obtain ⟨e1, e2, e3, e4, e5, e6, e7, e8, e9, e10, e11, e12, e13, e14, e15, e16, e17, e18, e19, e20, e21, e22⟩ := cs
  obtain ⟨e23, e24, e25⟩ := cs2
  have hte := textF_eq hT
  have hkl : T.kids.length ≤ 65536 := by have := len_sizes hf; omega
  have hkid : ∀ p, p < T.kids.length → ShF (T.kids.getD p .nil) ∧ Pure P 72 [.d (.tree ((T.kids.getD p .nil).kids.getD 0 .nil))] (.d (.str (textF ((T.kids.getD p .nil).kids.getD 0 .nil)))) ∧ (textF ((T.kids.getD p .nil).kids.getD 0 .nil)).size ≤ 400 * 65536 := by
    intro p hp
    have hm := getD_mem hp
    have hx := hf _ hm
    have h1 := sizesN_mem hm
    have h2 : sizeN (T.kids.getD p .nil) = 1 + sizeN ((T.kids.getD p .nil).kids.getD 0 .nil) := by rw [sizeN_kids hx.ne, sizesN_one hx.len]
    have h3 := text_size _ hx.kid
    exact ⟨hx, ih _ hm _ (getD_mem (by rw [hx.len]; omega)) hx.kid (by omega), by omega⟩
  have hjz : ∀ p, (joinF ((T.kids.take p).map (itemF cEq)) cComma).size ≤ 1099511627776 := by
    intro p
    have h1 := items_size cEq (by omega) (T.kids.take p) (fun x hx => hf x (List.mem_of_mem_take hx)) (fun x hx => text_size _ (hf x (List.mem_of_mem_take hx)).kid)
    have h2 := joinF_sum ((T.kids.take p).map (itemF cEq)) cComma
    have h3 := sizesN_take T.kids p
    rw [List.length_map] at h2
    have h4 : (T.kids.take p).length * (cComma).size ≤ 65536 * 3 := Nat.mul_le_mul (by rw [List.length_take]; omega) (by omega)
    omega
  have hoz : ∀ p, (cOpen ++ joinF ((T.kids.take p).map (itemF cEq)) cComma).size ≤ 1099511627778 := by
    intro p
    have := hjz p
    rw [ByteArray.size_append]; omega
  refine Pure.of_body tt [] [2] Try.func72 rfl rfl rfl (Nat.le_of_ble_eq_true rfl) fun g => ?_
  repeat' first
    | (refine then_go hm htt ?_; conv => whnf)
    | (refine Side.mk (by first | assumption | exact trivial | rfl | exact Nat.le_of_ble_eq_true rfl | omega) ?_; conv => whnf)
    | (refine Hyp.mk fun hlen => ?_; replace hlen : _ ≤ 17592186044416 := hlen; conv => whnf)
    | (refine Split.ct ?_; conv => whnf)
    | (refine Split.cf ?_; conv => whnf)
    | (refine Split.of_true (by first | rfl | assumption | ((try simp only [bytes_eq, bytes_ne, empty_bytes, bytes_bne, bytes_bne']); (try simp only [decide_eq_true_eq, decide_eq_false_iff_not, beq_iff_eq, beq_eq_false_iff_ne, bne_iff_ne, bne_eq_false_iff_eq, Bool.not_eq_true', Bool.not_eq_false', Tree.isNil_iff, Tree.isNil_not, Int.not_lt, Int.not_le, gt_iff_lt, ge_iff_le, ne_eq, Decidable.not_not, Int.toNat_natCast, Int.toNat_zero, Int.toNat_one]); first | assumption | omega)) ?_; conv => whnf)
    | (refine Split.of_false (by first | rfl | assumption | ((try simp only [bytes_eq, bytes_ne, empty_bytes, bytes_bne, bytes_bne']); (try simp only [decide_eq_true_eq, decide_eq_false_iff_not, beq_iff_eq, beq_eq_false_iff_ne, bne_iff_ne, bne_eq_false_iff_eq, Bool.not_eq_true', Bool.not_eq_false', Tree.isNil_iff, Tree.isNil_not, Int.not_lt, Int.not_le, gt_iff_lt, ge_iff_le, ne_eq, Decidable.not_not, Int.toNat_natCast, Int.toNat_zero, Int.toNat_one]); first | assumption | omega)) ?_; conv => whnf)
    | (refine Indep.mk (by kernel_rfl) ?_; conv => whnf)
    | (refine Split.mk (fun hc => ?_) (fun hc => ?_) <;> (try simp only [bytes_eq, bytes_ne, empty_bytes, bytes_bne, bytes_bne'] at hc) <;> (try simp only [decide_eq_true_eq, decide_eq_false_iff_not, beq_iff_eq, beq_eq_false_iff_ne, bne_iff_ne, bne_eq_false_iff_eq, Bool.not_eq_true', Bool.not_eq_false', Tree.isNil_iff, Tree.isNil_not, Int.not_lt, Int.not_le, gt_iff_lt, ge_iff_le, ne_eq, Decidable.not_not, Int.toNat_natCast, Int.toNat_zero, Int.toNat_one] at hc) <;> conv => whnf)
  refine loop_go (α := Nat × ByteArray) (fun p => ⟨[(0, .d (.tree T)), (3, .d (.trees T.kids)), (4, .d (.str p.2)), (5, .d (.int .i64 p.1))], 188, [], 0, g⟩)
        (fun p => p.1 ≤ T.kids.length ∧ p.2 = if p.1 = 0 then cBrace else cOpen ++ joinF ((T.kids.take p.1).map (itemF cEq)) cComma) (fun p => T.kids.length - p.1) (0, cBrace) ⟨by simp, rfl⟩
        (Ent.re [] rfl rfl rfl rfl rfl rfl (by repeat' first | exact trivial | apply And.intro | rfl | (refine int_eq ?_; rw [wrap64] <;> omega)) (by repeat' first | exact trivial | apply And.intro | rfl | (refine int_eq ?_; rw [wrap64] <;> omega))) (fun _ => rfl) fun p hpre => ?_
  obtain ⟨p, out⟩ := p
  obtain ⟨hp1, hp2⟩ := hpre
  simp only [] at hp1 hp2
  by_cases hlt : p < T.kids.length
  · obtain ⟨hx, hsh, hsz⟩ := hkid p hlt
    have hnm := hx.name
    have hxl := hx.len
    have hie := itemF_eq hx.ne cEq
    by_cases hp0 : p = 0
    · rw [if_pos hp0] at hp2
      subst hp2
      have z0 : (cBrace ++ cBlank).size = (cBrace).size + (cBlank).size := ByteArray.size_append
      have z1 : ((cBrace ++ cBlank) ++ (T.kids.getD p .nil).name).size = ((cBrace ++ cBlank)).size + ((T.kids.getD p .nil).name).size := ByteArray.size_append
      have z2 : (((cBrace ++ cBlank) ++ (T.kids.getD p .nil).name) ++ cEq).size = (((cBrace ++ cBlank) ++ (T.kids.getD p .nil).name)).size + (cEq).size := ByteArray.size_append
      have z3 : ((((cBrace ++ cBlank) ++ (T.kids.getD p .nil).name) ++ cEq) ++ (textF ((T.kids.getD p .nil).kids.getD 0 .nil))).size = ((((cBrace ++ cBlank) ++ (T.kids.getD p .nil).name) ++ cEq)).size + ((textF ((T.kids.getD p .nil).kids.getD 0 .nil))).size := ByteArray.size_append
      repeat' first
        | (refine then_go hm htt ?_; conv => whnf)
        | (refine Side.mk (by first | assumption | exact trivial | rfl | exact Nat.le_of_ble_eq_true rfl | omega) ?_; conv => whnf)
        | (refine Hyp.mk fun hlen => ?_; replace hlen : _ ≤ 17592186044416 := hlen; conv => whnf)
        | (refine Split.ct ?_; conv => whnf)
        | (refine Split.cf ?_; conv => whnf)
        | (refine Split.of_true (by first | rfl | assumption | ((try simp only [bytes_eq, bytes_ne, empty_bytes, bytes_bne, bytes_bne']); (try simp only [decide_eq_true_eq, decide_eq_false_iff_not, beq_iff_eq, beq_eq_false_iff_ne, bne_iff_ne, bne_eq_false_iff_eq, Bool.not_eq_true', Bool.not_eq_false', Tree.isNil_iff, Tree.isNil_not, Int.not_lt, Int.not_le, gt_iff_lt, ge_iff_le, ne_eq, Decidable.not_not, Int.toNat_natCast, Int.toNat_zero, Int.toNat_one]); first | assumption | omega)) ?_; conv => whnf)
        | (refine Split.of_false (by first | rfl | assumption | ((try simp only [bytes_eq, bytes_ne, empty_bytes, bytes_bne, bytes_bne']); (try simp only [decide_eq_true_eq, decide_eq_false_iff_not, beq_iff_eq, beq_eq_false_iff_ne, bne_iff_ne, bne_eq_false_iff_eq, Bool.not_eq_true', Bool.not_eq_false', Tree.isNil_iff, Tree.isNil_not, Int.not_lt, Int.not_le, gt_iff_lt, ge_iff_le, ne_eq, Decidable.not_not, Int.toNat_natCast, Int.toNat_zero, Int.toNat_one]); first | assumption | omega)) ?_; conv => whnf)
        | (refine Indep.mk (by kernel_rfl) ?_; conv => whnf)
        | (refine Side.mk (show (0 : Int) ≤ (p : Int) ∧ (p : Int) < (T.kids.length : Int) from ⟨by omega, by omega⟩) ?_; conv => whnf)
        | (refine Side.mk hx.ne ?_; conv => whnf)
        | (refine Side.mk (show (0 : Int) ≤ 0 ∧ (0 : Int) < ((T.kids.getD p .nil).kids.length : Int) from ⟨by omega, by omega⟩) ?_; conv => whnf)
        | (refine CallG.pure hsh rfl ?_; conv => whnf)
        | (refine Side.mk (show (cBrace).size + (cBlank).size ≤ 9223372036854775807 from by omega) ?_; conv => whnf)
        | (refine Side.mk (show ((cBrace ++ cBlank)).size + ((T.kids.getD p .nil).name).size ≤ 9223372036854775807 from by omega) ?_; conv => whnf)
        | (refine Side.mk (show (((cBrace ++ cBlank) ++ (T.kids.getD p .nil).name)).size + (cEq).size ≤ 9223372036854775807 from by omega) ?_; conv => whnf)
        | (refine Side.mk (show ((((cBrace ++ cBlank) ++ (T.kids.getD p .nil).name) ++ cEq)).size + ((textF ((T.kids.getD p .nil).kids.getD 0 .nil))).size ≤ 9223372036854775807 from by omega) ?_; conv => whnf)
        | (refine Split.mk (fun hc => ?_) (fun hc => ?_) <;> (try simp only [bytes_eq, bytes_ne, empty_bytes, bytes_bne, bytes_bne'] at hc) <;> (try simp only [decide_eq_true_eq, decide_eq_false_iff_not, beq_iff_eq, beq_eq_false_iff_ne, bne_iff_ne, bne_eq_false_iff_eq, Bool.not_eq_true', Bool.not_eq_false', Tree.isNil_iff, Tree.isNil_not, Int.not_lt, Int.not_le, gt_iff_lt, ge_iff_le, ne_eq, Decidable.not_not, Int.toNat_natCast, Int.toNat_zero, Int.toNat_one] at hc) <;> conv => whnf)
      refine ⟨(p + 1, ((((cBrace ++ cBlank) ++ (T.kids.getD p .nil).name) ++ cEq) ++ (textF ((T.kids.getD p .nil).kids.getD 0 .nil)))), ⟨by simp only []; omega, ?_⟩, by simp only []; omega, Ent.re [] rfl rfl rfl rfl rfl rfl (by repeat' first | exact trivial | apply And.intro | rfl | (refine int_eq ?_; rw [wrap64] <;> omega)) (by repeat' first | exact trivial | apply And.intro | rfl | (refine int_eq ?_; rw [wrap64] <;> omega))⟩
      simp only []
      rw [if_neg (by omega), take_one_map _ hp0 hlt, joinF_cons, tailB, ByteArray.append_empty, hie, ← brace_open]
      simp only [ByteArray.append_assoc]
    · rw [if_neg hp0] at hp2
      subst hp2
      have hop := hoz p
      have z0 : ((cOpen ++ joinF ((T.kids.take p).map (itemF cEq)) cComma) ++ cComma1).size = ((cOpen ++ joinF ((T.kids.take p).map (itemF cEq)) cComma)).size + (cComma1).size := ByteArray.size_append
      have z1 : (((cOpen ++ joinF ((T.kids.take p).map (itemF cEq)) cComma) ++ cComma1) ++ cBlank).size = (((cOpen ++ joinF ((T.kids.take p).map (itemF cEq)) cComma) ++ cComma1)).size + (cBlank).size := ByteArray.size_append
      have z2 : ((((cOpen ++ joinF ((T.kids.take p).map (itemF cEq)) cComma) ++ cComma1) ++ cBlank) ++ (T.kids.getD p .nil).name).size = ((((cOpen ++ joinF ((T.kids.take p).map (itemF cEq)) cComma) ++ cComma1) ++ cBlank)).size + ((T.kids.getD p .nil).name).size := ByteArray.size_append
      have z3 : (((((cOpen ++ joinF ((T.kids.take p).map (itemF cEq)) cComma) ++ cComma1) ++ cBlank) ++ (T.kids.getD p .nil).name) ++ cEq).size = (((((cOpen ++ joinF ((T.kids.take p).map (itemF cEq)) cComma) ++ cComma1) ++ cBlank) ++ (T.kids.getD p .nil).name)).size + (cEq).size := ByteArray.size_append
      have z4 : ((((((cOpen ++ joinF ((T.kids.take p).map (itemF cEq)) cComma) ++ cComma1) ++ cBlank) ++ (T.kids.getD p .nil).name) ++ cEq) ++ (textF ((T.kids.getD p .nil).kids.getD 0 .nil))).size = ((((((cOpen ++ joinF ((T.kids.take p).map (itemF cEq)) cComma) ++ cComma1) ++ cBlank) ++ (T.kids.getD p .nil).name) ++ cEq)).size + ((textF ((T.kids.getD p .nil).kids.getD 0 .nil))).size := ByteArray.size_append
      repeat' first
        | (refine then_go hm htt ?_; conv => whnf)
        | (refine Side.mk (by first | assumption | exact trivial | rfl | exact Nat.le_of_ble_eq_true rfl | omega) ?_; conv => whnf)
        | (refine Hyp.mk fun hlen => ?_; replace hlen : _ ≤ 17592186044416 := hlen; conv => whnf)
        | (refine Split.ct ?_; conv => whnf)
        | (refine Split.cf ?_; conv => whnf)
        | (refine Split.of_true (by first | rfl | assumption | ((try simp only [bytes_eq, bytes_ne, empty_bytes, bytes_bne, bytes_bne']); (try simp only [decide_eq_true_eq, decide_eq_false_iff_not, beq_iff_eq, beq_eq_false_iff_ne, bne_iff_ne, bne_eq_false_iff_eq, Bool.not_eq_true', Bool.not_eq_false', Tree.isNil_iff, Tree.isNil_not, Int.not_lt, Int.not_le, gt_iff_lt, ge_iff_le, ne_eq, Decidable.not_not, Int.toNat_natCast, Int.toNat_zero, Int.toNat_one]); first | assumption | omega)) ?_; conv => whnf)
        | (refine Split.of_false (by first | rfl | assumption | ((try simp only [bytes_eq, bytes_ne, empty_bytes, bytes_bne, bytes_bne']); (try simp only [decide_eq_true_eq, decide_eq_false_iff_not, beq_iff_eq, beq_eq_false_iff_ne, bne_iff_ne, bne_eq_false_iff_eq, Bool.not_eq_true', Bool.not_eq_false', Tree.isNil_iff, Tree.isNil_not, Int.not_lt, Int.not_le, gt_iff_lt, ge_iff_le, ne_eq, Decidable.not_not, Int.toNat_natCast, Int.toNat_zero, Int.toNat_one]); first | assumption | omega)) ?_; conv => whnf)
        | (refine Indep.mk (by kernel_rfl) ?_; conv => whnf)
        | (refine Side.mk (show (0 : Int) ≤ (p : Int) ∧ (p : Int) < (T.kids.length : Int) from ⟨by omega, by omega⟩) ?_; conv => whnf)
        | (refine Side.mk hx.ne ?_; conv => whnf)
        | (refine Side.mk (show (0 : Int) ≤ 0 ∧ (0 : Int) < ((T.kids.getD p .nil).kids.length : Int) from ⟨by omega, by omega⟩) ?_; conv => whnf)
        | (refine CallG.pure hsh rfl ?_; conv => whnf)
        | (refine Side.mk (show ((cOpen ++ joinF ((T.kids.take p).map (itemF cEq)) cComma)).size + (cComma1).size ≤ 9223372036854775807 from by omega) ?_; conv => whnf)
        | (refine Side.mk (show (((cOpen ++ joinF ((T.kids.take p).map (itemF cEq)) cComma) ++ cComma1)).size + (cBlank).size ≤ 9223372036854775807 from by omega) ?_; conv => whnf)
        | (refine Side.mk (show ((((cOpen ++ joinF ((T.kids.take p).map (itemF cEq)) cComma) ++ cComma1) ++ cBlank)).size + ((T.kids.getD p .nil).name).size ≤ 9223372036854775807 from by omega) ?_; conv => whnf)
        | (refine Side.mk (show (((((cOpen ++ joinF ((T.kids.take p).map (itemF cEq)) cComma) ++ cComma1) ++ cBlank) ++ (T.kids.getD p .nil).name)).size + (cEq).size ≤ 9223372036854775807 from by omega) ?_; conv => whnf)
        | (refine Side.mk (show ((((((cOpen ++ joinF ((T.kids.take p).map (itemF cEq)) cComma) ++ cComma1) ++ cBlank) ++ (T.kids.getD p .nil).name) ++ cEq)).size + ((textF ((T.kids.getD p .nil).kids.getD 0 .nil))).size ≤ 9223372036854775807 from by omega) ?_; conv => whnf)
        | (refine Split.mk (fun hc => ?_) (fun hc => ?_) <;> (try simp only [bytes_eq, bytes_ne, empty_bytes, bytes_bne, bytes_bne'] at hc) <;> (try simp only [decide_eq_true_eq, decide_eq_false_iff_not, beq_iff_eq, beq_eq_false_iff_ne, bne_iff_ne, bne_eq_false_iff_eq, Bool.not_eq_true', Bool.not_eq_false', Tree.isNil_iff, Tree.isNil_not, Int.not_lt, Int.not_le, gt_iff_lt, ge_iff_le, ne_eq, Decidable.not_not, Int.toNat_natCast, Int.toNat_zero, Int.toNat_one] at hc) <;> conv => whnf)
      refine ⟨(p + 1, ((((((cOpen ++ joinF ((T.kids.take p).map (itemF cEq)) cComma) ++ cComma1) ++ cBlank) ++ (T.kids.getD p .nil).name) ++ cEq) ++ (textF ((T.kids.getD p .nil).kids.getD 0 .nil)))), ⟨by simp only []; omega, ?_⟩, by simp only []; omega, Ent.re [] rfl rfl rfl rfl rfl rfl (by repeat' first | exact trivial | apply And.intro | rfl | (refine int_eq ?_; rw [wrap64] <;> omega)) (by repeat' first | exact trivial | apply And.intro | rfl | (refine int_eq ?_; rw [wrap64] <;> omega))⟩
      simp only []
      rw [if_neg (by omega), ← take_map_step _ hlt, joinF_snoc (take_ne_nil _ hp0 hlt), hie, ← sep_115]
      simp only [ByteArray.append_assoc]
  · have hpe : p = T.kids.length := by omega
    have hop := hoz p
    by_cases hp0 : p = 0
    · rw [if_pos hp0] at hp2
      subst hp2
      skip
      repeat' first
        | (refine then_go hm htt ?_; conv => whnf)
        | (refine Side.mk (by first | assumption | exact trivial | rfl | exact Nat.le_of_ble_eq_true rfl | omega) ?_; conv => whnf)
        | (refine Hyp.mk fun hlen => ?_; replace hlen : _ ≤ 17592186044416 := hlen; conv => whnf)
        | (refine Split.ct ?_; conv => whnf)
        | (refine Split.cf ?_; conv => whnf)
        | (refine Split.of_true (by first | rfl | assumption | ((try simp only [bytes_eq, bytes_ne, empty_bytes, bytes_bne, bytes_bne']); (try simp only [decide_eq_true_eq, decide_eq_false_iff_not, beq_iff_eq, beq_eq_false_iff_ne, bne_iff_ne, bne_eq_false_iff_eq, Bool.not_eq_true', Bool.not_eq_false', Tree.isNil_iff, Tree.isNil_not, Int.not_lt, Int.not_le, gt_iff_lt, ge_iff_le, ne_eq, Decidable.not_not, Int.toNat_natCast, Int.toNat_zero, Int.toNat_one]); first | assumption | omega)) ?_; conv => whnf)
        | (refine Split.of_false (by first | rfl | assumption | ((try simp only [bytes_eq, bytes_ne, empty_bytes, bytes_bne, bytes_bne']); (try simp only [decide_eq_true_eq, decide_eq_false_iff_not, beq_iff_eq, beq_eq_false_iff_ne, bne_iff_ne, bne_eq_false_iff_eq, Bool.not_eq_true', Bool.not_eq_false', Tree.isNil_iff, Tree.isNil_not, Int.not_lt, Int.not_le, gt_iff_lt, ge_iff_le, ne_eq, Decidable.not_not, Int.toNat_natCast, Int.toNat_zero, Int.toNat_one]); first | assumption | omega)) ?_; conv => whnf)
        | (refine Indep.mk (by kernel_rfl) ?_; conv => whnf)
        | (refine Side.mk (show cBrace.size + cClose.size ≤ 9223372036854775807 from by omega) ?_; conv => whnf)
        | (refine Split.mk (fun hc => ?_) (fun hc => ?_) <;> (try simp only [bytes_eq, bytes_ne, empty_bytes, bytes_bne, bytes_bne'] at hc) <;> (try simp only [decide_eq_true_eq, decide_eq_false_iff_not, beq_iff_eq, beq_eq_false_iff_ne, bne_iff_ne, bne_eq_false_iff_eq, Bool.not_eq_true', Bool.not_eq_false', Tree.isNil_iff, Tree.isNil_not, Int.not_lt, Int.not_le, gt_iff_lt, ge_iff_le, ne_eq, Decidable.not_not, Int.toNat_natCast, Int.toNat_zero, Int.toNat_one] at hc) <;> conv => whnf)
      all_goals first
        | (exfalso; have := hn.sum (by omega); omega)
        | (refine ret_closed rfl (str_eq ?_) rfl; rw [hte]; (repeat first | rw [if_pos (by omega)] | rw [if_neg (by omega)]); kernel_rfl)
    · rw [if_neg hp0] at hp2
      have hp2' : out = cOpen ++ joinF (T.kids.map (itemF cEq)) cComma := by rw [hp2, hpe, List.take_length]
      rw [hpe, List.take_length] at hop
      subst hp2'
      clear hp2
      skip
      repeat' first
        | (refine then_go hm htt ?_; conv => whnf)
        | (refine Side.mk (by first | assumption | exact trivial | rfl | exact Nat.le_of_ble_eq_true rfl | omega) ?_; conv => whnf)
        | (refine Hyp.mk fun hlen => ?_; replace hlen : _ ≤ 17592186044416 := hlen; conv => whnf)
        | (refine Split.ct ?_; conv => whnf)
        | (refine Split.cf ?_; conv => whnf)
        | (refine Split.of_true (by first | rfl | assumption | ((try simp only [bytes_eq, bytes_ne, empty_bytes, bytes_bne, bytes_bne']); (try simp only [decide_eq_true_eq, decide_eq_false_iff_not, beq_iff_eq, beq_eq_false_iff_ne, bne_iff_ne, bne_eq_false_iff_eq, Bool.not_eq_true', Bool.not_eq_false', Tree.isNil_iff, Tree.isNil_not, Int.not_lt, Int.not_le, gt_iff_lt, ge_iff_le, ne_eq, Decidable.not_not, Int.toNat_natCast, Int.toNat_zero, Int.toNat_one]); first | assumption | omega)) ?_; conv => whnf)
        | (refine Split.of_false (by first | rfl | assumption | ((try simp only [bytes_eq, bytes_ne, empty_bytes, bytes_bne, bytes_bne']); (try simp only [decide_eq_true_eq, decide_eq_false_iff_not, beq_iff_eq, beq_eq_false_iff_ne, bne_iff_ne, bne_eq_false_iff_eq, Bool.not_eq_true', Bool.not_eq_false', Tree.isNil_iff, Tree.isNil_not, Int.not_lt, Int.not_le, gt_iff_lt, ge_iff_le, ne_eq, Decidable.not_not, Int.toNat_natCast, Int.toNat_zero, Int.toNat_one]); first | assumption | omega)) ?_; conv => whnf)
        | (refine Indep.mk (by kernel_rfl) ?_; conv => whnf)
        | (refine Side.mk (show ((cOpen ++ joinF (T.kids.map (itemF cEq)) cComma)).size + cClose.size ≤ 9223372036854775807 from by omega) ?_; conv => whnf)
        | (refine Split.mk (fun hc => ?_) (fun hc => ?_) <;> (try simp only [bytes_eq, bytes_ne, empty_bytes, bytes_bne, bytes_bne'] at hc) <;> (try simp only [decide_eq_true_eq, decide_eq_false_iff_not, beq_iff_eq, beq_eq_false_iff_ne, bne_iff_ne, bne_eq_false_iff_eq, Bool.not_eq_true', Bool.not_eq_false', Tree.isNil_iff, Tree.isNil_not, Int.not_lt, Int.not_le, gt_iff_lt, ge_iff_le, ne_eq, Decidable.not_not, Int.toNat_natCast, Int.toNat_zero, Int.toNat_one] at hc) <;> conv => whnf)
      refine ret_closed rfl (str_eq ?_) rfl
      rw [hte]
      repeat first | rw [if_pos (by omega)] | rw [if_neg (by omega)]
      rw [ByteArray.empty_append]; rfl

set_option maxHeartbeats 4000000 in
set_option maxRecDepth 10000 in
theorem rtext_121 (T : Tree) (hT : T ≠ .nil) (hn : ShN T) (hz : sizeN T ≤ 65536) (ih : ∀ x ∈ T.kids, ∀ y ∈ x.kids, TextP y) (hk : T.kind = 121) : Pure P 72 [.d (.tree T)] (.d (.str (textF T))) := by
  have hzz := sizeN_kids hT
  have hf := hn.fld (by omega)
  obtain ⟨e1, e2, e3, e4, e5, e6, e7, e8, e9, e10, e11, e12, e13, e14, e15, e16, e17, e18, e19, e20, e21, e22⟩ := cs
  obtain ⟨e23, e24, e25⟩ := cs2
  have hte := textF_eq hT
  have hkl : T.kids.length ≤ 65536 := by have := len_sizes hf; omega
  have hkid : ∀ p, p < T.kids.length → ShF (T.kids.getD p .nil) ∧ Pure P 72 [.d (.tree ((T.kids.getD p .nil).kids.getD 0 .nil))] (.d (.str (textF ((T.kids.getD p .nil).kids.getD 0 .nil)))) ∧ (textF ((T.kids.getD p .nil).kids.getD 0 .nil)).size ≤ 400 * 65536 := by
    intro p hp
    have hm := getD_mem hp
    have hx := hf _ hm
    have h1 := sizesN_mem hm
    have h2 : sizeN (T.kids.getD p .nil) = 1 + sizeN ((T.kids.getD p .nil).kids.getD 0 .nil) := by rw [sizeN_kids hx.ne, sizesN_one hx.len]
    have h3 := text_size _ hx.kid
    exact ⟨hx, ih _ hm _ (getD_mem (by rw [hx.len]; omega)) hx.kid (by omega), by omega⟩
  have hjz : ∀ p, (joinF ((T.kids.take p).map (itemF cOf)) cBar).size ≤ 1099511627776 := by
    intro p
    have h1 := items_size cOf (by omega) (T.kids.take p) (fun x hx => hf x (List.mem_of_mem_take hx)) (fun x hx => text_size _ (hf x (List.mem_of_mem_take hx)).kid)
    have h2 := joinF_sum ((T.kids.take p).map (itemF cOf)) cBar
    have h3 := sizesN_take T.kids p
    rw [List.length_map] at h2
    have h4 : (T.kids.take p).length * (cBar).size ≤ 65536 * 3 := Nat.mul_le_mul (by rw [List.length_take]; omega) (by omega)
    omega
  have hoz : ∀ p, (cOpen ++ joinF ((T.kids.take p).map (itemF cOf)) cBar).size ≤ 1099511627778 := by
    intro p
    have := hjz p
    rw [ByteArray.size_append]; omega
  refine Pure.of_body tt [] [2] Try.func72 rfl rfl rfl (Nat.le_of_ble_eq_true rfl) fun g => ?_
  repeat' first
    | (refine then_go hm htt ?_; conv => whnf)
    | (refine Side.mk (by first | assumption | exact trivial | rfl | exact Nat.le_of_ble_eq_true rfl | omega) ?_; conv => whnf)
    | (refine Hyp.mk fun hlen => ?_; replace hlen : _ ≤ 17592186044416 := hlen; conv => whnf)
    | (refine Split.ct ?_; conv => whnf)
    | (refine Split.cf ?_; conv => whnf)
    | (refine Split.of_true (by first | rfl | assumption | ((try simp only [bytes_eq, bytes_ne, empty_bytes, bytes_bne, bytes_bne']); (try simp only [decide_eq_true_eq, decide_eq_false_iff_not, beq_iff_eq, beq_eq_false_iff_ne, bne_iff_ne, bne_eq_false_iff_eq, Bool.not_eq_true', Bool.not_eq_false', Tree.isNil_iff, Tree.isNil_not, Int.not_lt, Int.not_le, gt_iff_lt, ge_iff_le, ne_eq, Decidable.not_not, Int.toNat_natCast, Int.toNat_zero, Int.toNat_one]); first | assumption | omega)) ?_; conv => whnf)
    | (refine Split.of_false (by first | rfl | assumption | ((try simp only [bytes_eq, bytes_ne, empty_bytes, bytes_bne, bytes_bne']); (try simp only [decide_eq_true_eq, decide_eq_false_iff_not, beq_iff_eq, beq_eq_false_iff_ne, bne_iff_ne, bne_eq_false_iff_eq, Bool.not_eq_true', Bool.not_eq_false', Tree.isNil_iff, Tree.isNil_not, Int.not_lt, Int.not_le, gt_iff_lt, ge_iff_le, ne_eq, Decidable.not_not, Int.toNat_natCast, Int.toNat_zero, Int.toNat_one]); first | assumption | omega)) ?_; conv => whnf)
    | (refine Indep.mk (by kernel_rfl) ?_; conv => whnf)
    | (refine Split.mk (fun hc => ?_) (fun hc => ?_) <;> (try simp only [bytes_eq, bytes_ne, empty_bytes, bytes_bne, bytes_bne'] at hc) <;> (try simp only [decide_eq_true_eq, decide_eq_false_iff_not, beq_iff_eq, beq_eq_false_iff_ne, bne_iff_ne, bne_eq_false_iff_eq, Bool.not_eq_true', Bool.not_eq_false', Tree.isNil_iff, Tree.isNil_not, Int.not_lt, Int.not_le, gt_iff_lt, ge_iff_le, ne_eq, Decidable.not_not, Int.toNat_natCast, Int.toNat_zero, Int.toNat_one] at hc) <;> conv => whnf)
  refine loop_go (α := Nat × ByteArray) (fun p => ⟨[(0, .d (.tree T)), (3, .d (.trees T.kids)), (4, .d (.str p.2)), (5, .d (.int .i64 p.1))], 188, [], 0, g⟩)
        (fun p => p.1 ≤ T.kids.length ∧ p.2 = if p.1 = 0 then cBrace else cOpen ++ joinF ((T.kids.take p.1).map (itemF cOf)) cBar) (fun p => T.kids.length - p.1) (0, cBrace) ⟨by simp, rfl⟩
        (Ent.re [] rfl rfl rfl rfl rfl rfl (by repeat' first | exact trivial | apply And.intro | rfl | (refine int_eq ?_; rw [wrap64] <;> omega)) (by repeat' first | exact trivial | apply And.intro | rfl | (refine int_eq ?_; rw [wrap64] <;> omega))) (fun _ => rfl) fun p hpre => ?_
  obtain ⟨p, out⟩ := p
  obtain ⟨hp1, hp2⟩ := hpre
  simp only [] at hp1 hp2
  by_cases hlt : p < T.kids.length
  · obtain ⟨hx, hsh, hsz⟩ := hkid p hlt
    have hnm := hx.name
    have hxl := hx.len
    have hie := itemF_eq hx.ne cOf
    by_cases hp0 : p = 0
    · rw [if_pos hp0] at hp2
      subst hp2
      have z0 : (cBrace ++ cBlank).size = (cBrace).size + (cBlank).size := ByteArray.size_append
      have z1 : ((cBrace ++ cBlank) ++ (T.kids.getD p .nil).name).size = ((cBrace ++ cBlank)).size + ((T.kids.getD p .nil).name).size := ByteArray.size_append
      have z2 : (((cBrace ++ cBlank) ++ (T.kids.getD p .nil).name) ++ cOf).size = (((cBrace ++ cBlank) ++ (T.kids.getD p .nil).name)).size + (cOf).size := ByteArray.size_append
      have z3 : ((((cBrace ++ cBlank) ++ (T.kids.getD p .nil).name) ++ cOf) ++ (textF ((T.kids.getD p .nil).kids.getD 0 .nil))).size = ((((cBrace ++ cBlank) ++ (T.kids.getD p .nil).name) ++ cOf)).size + ((textF ((T.kids.getD p .nil).kids.getD 0 .nil))).size := ByteArray.size_append
      repeat' first
        | (refine then_go hm htt ?_; conv => whnf)
        | (refine Side.mk (by first | assumption | exact trivial | rfl | exact Nat.le_of_ble_eq_true rfl | omega) ?_; conv => whnf)
        | (refine Hyp.mk fun hlen => ?_; replace hlen : _ ≤ 17592186044416 := hlen; conv => whnf)
        | (refine Split.ct ?_; conv => whnf)
        | (refine Split.cf ?_; conv => whnf)
        | (refine Split.of_true (by first | rfl | assumption | ((try simp only [bytes_eq, bytes_ne, empty_bytes, bytes_bne, bytes_bne']); (try simp only [decide_eq_true_eq, decide_eq_false_iff_not, beq_iff_eq, beq_eq_false_iff_ne, bne_iff_ne, bne_eq_false_iff_eq, Bool.not_eq_true', Bool.not_eq_false', Tree.isNil_iff, Tree.isNil_not, Int.not_lt, Int.not_le, gt_iff_lt, ge_iff_le, ne_eq, Decidable.not_not, Int.toNat_natCast, Int.toNat_zero, Int.toNat_one]); first | assumption | omega)) ?_; conv => whnf)
        | (refine Split.of_false (by first | rfl | assumption | ((try simp only [bytes_eq, bytes_ne, empty_bytes, bytes_bne, bytes_bne']); (try simp only [decide_eq_true_eq, decide_eq_false_iff_not, beq_iff_eq, beq_eq_false_iff_ne, bne_iff_ne, bne_eq_false_iff_eq, Bool.not_eq_true', Bool.not_eq_false', Tree.isNil_iff, Tree.isNil_not, Int.not_lt, Int.not_le, gt_iff_lt, ge_iff_le, ne_eq, Decidable.not_not, Int.toNat_natCast, Int.toNat_zero, Int.toNat_one]); first | assumption | omega)) ?_; conv => whnf)
        | (refine Indep.mk (by kernel_rfl) ?_; conv => whnf)
        | (refine Side.mk (show (0 : Int) ≤ (p : Int) ∧ (p : Int) < (T.kids.length : Int) from ⟨by omega, by omega⟩) ?_; conv => whnf)
        | (refine Side.mk hx.ne ?_; conv => whnf)
        | (refine Side.mk (show (0 : Int) ≤ 0 ∧ (0 : Int) < ((T.kids.getD p .nil).kids.length : Int) from ⟨by omega, by omega⟩) ?_; conv => whnf)
        | (refine CallG.pure hsh rfl ?_; conv => whnf)
        | (refine Side.mk (show (cBrace).size + (cBlank).size ≤ 9223372036854775807 from by omega) ?_; conv => whnf)
        | (refine Side.mk (show ((cBrace ++ cBlank)).size + ((T.kids.getD p .nil).name).size ≤ 9223372036854775807 from by omega) ?_; conv => whnf)
        | (refine Side.mk (show (((cBrace ++ cBlank) ++ (T.kids.getD p .nil).name)).size + (cOf).size ≤ 9223372036854775807 from by omega) ?_; conv => whnf)
        | (refine Side.mk (show ((((cBrace ++ cBlank) ++ (T.kids.getD p .nil).name) ++ cOf)).size + ((textF ((T.kids.getD p .nil).kids.getD 0 .nil))).size ≤ 9223372036854775807 from by omega) ?_; conv => whnf)
        | (refine Split.mk (fun hc => ?_) (fun hc => ?_) <;> (try simp only [bytes_eq, bytes_ne, empty_bytes, bytes_bne, bytes_bne'] at hc) <;> (try simp only [decide_eq_true_eq, decide_eq_false_iff_not, beq_iff_eq, beq_eq_false_iff_ne, bne_iff_ne, bne_eq_false_iff_eq, Bool.not_eq_true', Bool.not_eq_false', Tree.isNil_iff, Tree.isNil_not, Int.not_lt, Int.not_le, gt_iff_lt, ge_iff_le, ne_eq, Decidable.not_not, Int.toNat_natCast, Int.toNat_zero, Int.toNat_one] at hc) <;> conv => whnf)
      refine ⟨(p + 1, ((((cBrace ++ cBlank) ++ (T.kids.getD p .nil).name) ++ cOf) ++ (textF ((T.kids.getD p .nil).kids.getD 0 .nil)))), ⟨by simp only []; omega, ?_⟩, by simp only []; omega, Ent.re [] rfl rfl rfl rfl rfl rfl (by repeat' first | exact trivial | apply And.intro | rfl | (refine int_eq ?_; rw [wrap64] <;> omega)) (by repeat' first | exact trivial | apply And.intro | rfl | (refine int_eq ?_; rw [wrap64] <;> omega))⟩
      simp only []
      rw [if_neg (by omega), take_one_map _ hp0 hlt, joinF_cons, tailB, ByteArray.append_empty, hie, ← brace_open]
      simp only [ByteArray.append_assoc]
    · rw [if_neg hp0] at hp2
      subst hp2
      have hop := hoz p
      have z0 : ((cOpen ++ joinF ((T.kids.take p).map (itemF cOf)) cBar) ++ cBar1).size = ((cOpen ++ joinF ((T.kids.take p).map (itemF cOf)) cBar)).size + (cBar1).size := ByteArray.size_append
      have z1 : (((cOpen ++ joinF ((T.kids.take p).map (itemF cOf)) cBar) ++ cBar1) ++ cBlank).size = (((cOpen ++ joinF ((T.kids.take p).map (itemF cOf)) cBar) ++ cBar1)).size + (cBlank).size := ByteArray.size_append
      have z2 : ((((cOpen ++ joinF ((T.kids.take p).map (itemF cOf)) cBar) ++ cBar1) ++ cBlank) ++ (T.kids.getD p .nil).name).size = ((((cOpen ++ joinF ((T.kids.take p).map (itemF cOf)) cBar) ++ cBar1) ++ cBlank)).size + ((T.kids.getD p .nil).name).size := ByteArray.size_append
      have z3 : (((((cOpen ++ joinF ((T.kids.take p).map (itemF cOf)) cBar) ++ cBar1) ++ cBlank) ++ (T.kids.getD p .nil).name) ++ cOf).size = (((((cOpen ++ joinF ((T.kids.take p).map (itemF cOf)) cBar) ++ cBar1) ++ cBlank) ++ (T.kids.getD p .nil).name)).size + (cOf).size := ByteArray.size_append
      have z4 : ((((((cOpen ++ joinF ((T.kids.take p).map (itemF cOf)) cBar) ++ cBar1) ++ cBlank) ++ (T.kids.getD p .nil).name) ++ cOf) ++ (textF ((T.kids.getD p .nil).kids.getD 0 .nil))).size = ((((((cOpen ++ joinF ((T.kids.take p).map (itemF cOf)) cBar) ++ cBar1) ++ cBlank) ++ (T.kids.getD p .nil).name) ++ cOf)).size + ((textF ((T.kids.getD p .nil).kids.getD 0 .nil))).size := ByteArray.size_append
      repeat' first
        | (refine then_go hm htt ?_; conv => whnf)
        | (refine Side.mk (by first | assumption | exact trivial | rfl | exact Nat.le_of_ble_eq_true rfl | omega) ?_; conv => whnf)
        | (refine Hyp.mk fun hlen => ?_; replace hlen : _ ≤ 17592186044416 := hlen; conv => whnf)
        | (refine Split.ct ?_; conv => whnf)
        | (refine Split.cf ?_; conv => whnf)
        | (refine Split.of_true (by first | rfl | assumption | ((try simp only [bytes_eq, bytes_ne, empty_bytes, bytes_bne, bytes_bne']); (try simp only [decide_eq_true_eq, decide_eq_false_iff_not, beq_iff_eq, beq_eq_false_iff_ne, bne_iff_ne, bne_eq_false_iff_eq, Bool.not_eq_true', Bool.not_eq_false', Tree.isNil_iff, Tree.isNil_not, Int.not_lt, Int.not_le, gt_iff_lt, ge_iff_le, ne_eq, Decidable.not_not, Int.toNat_natCast, Int.toNat_zero, Int.toNat_one]); first | assumption | omega)) ?_; conv => whnf)
        | (refine Split.of_false (by first | rfl | assumption | ((try simp only [bytes_eq, bytes_ne, empty_bytes, bytes_bne, bytes_bne']); (try simp only [decide_eq_true_eq, decide_eq_false_iff_not, beq_iff_eq, beq_eq_false_iff_ne, bne_iff_ne, bne_eq_false_iff_eq, Bool.not_eq_true', Bool.not_eq_false', Tree.isNil_iff, Tree.isNil_not, Int.not_lt, Int.not_le, gt_iff_lt, ge_iff_le, ne_eq, Decidable.not_not, Int.toNat_natCast, Int.toNat_zero, Int.toNat_one]); first | assumption | omega)) ?_; conv => whnf)
        | (refine Indep.mk (by kernel_rfl) ?_; conv => whnf)
        | (refine Side.mk (show (0 : Int) ≤ (p : Int) ∧ (p : Int) < (T.kids.length : Int) from ⟨by omega, by omega⟩) ?_; conv => whnf)
        | (refine Side.mk hx.ne ?_; conv => whnf)
        | (refine Side.mk (show (0 : Int) ≤ 0 ∧ (0 : Int) < ((T.kids.getD p .nil).kids.length : Int) from ⟨by omega, by omega⟩) ?_; conv => whnf)
        | (refine CallG.pure hsh rfl ?_; conv => whnf)
        | (refine Side.mk (show ((cOpen ++ joinF ((T.kids.take p).map (itemF cOf)) cBar)).size + (cBar1).size ≤ 9223372036854775807 from by omega) ?_; conv => whnf)
        | (refine Side.mk (show (((cOpen ++ joinF ((T.kids.take p).map (itemF cOf)) cBar) ++ cBar1)).size + (cBlank).size ≤ 9223372036854775807 from by omega) ?_; conv => whnf)
        | (refine Side.mk (show ((((cOpen ++ joinF ((T.kids.take p).map (itemF cOf)) cBar) ++ cBar1) ++ cBlank)).size + ((T.kids.getD p .nil).name).size ≤ 9223372036854775807 from by omega) ?_; conv => whnf)
        | (refine Side.mk (show (((((cOpen ++ joinF ((T.kids.take p).map (itemF cOf)) cBar) ++ cBar1) ++ cBlank) ++ (T.kids.getD p .nil).name)).size + (cOf).size ≤ 9223372036854775807 from by omega) ?_; conv => whnf)
        | (refine Side.mk (show ((((((cOpen ++ joinF ((T.kids.take p).map (itemF cOf)) cBar) ++ cBar1) ++ cBlank) ++ (T.kids.getD p .nil).name) ++ cOf)).size + ((textF ((T.kids.getD p .nil).kids.getD 0 .nil))).size ≤ 9223372036854775807 from by omega) ?_; conv => whnf)
        | (refine Split.mk (fun hc => ?_) (fun hc => ?_) <;> (try simp only [bytes_eq, bytes_ne, empty_bytes, bytes_bne, bytes_bne'] at hc) <;> (try simp only [decide_eq_true_eq, decide_eq_false_iff_not, beq_iff_eq, beq_eq_false_iff_ne, bne_iff_ne, bne_eq_false_iff_eq, Bool.not_eq_true', Bool.not_eq_false', Tree.isNil_iff, Tree.isNil_not, Int.not_lt, Int.not_le, gt_iff_lt, ge_iff_le, ne_eq, Decidable.not_not, Int.toNat_natCast, Int.toNat_zero, Int.toNat_one] at hc) <;> conv => whnf)
      refine ⟨(p + 1, ((((((cOpen ++ joinF ((T.kids.take p).map (itemF cOf)) cBar) ++ cBar1) ++ cBlank) ++ (T.kids.getD p .nil).name) ++ cOf) ++ (textF ((T.kids.getD p .nil).kids.getD 0 .nil)))), ⟨by simp only []; omega, ?_⟩, by simp only []; omega, Ent.re [] rfl rfl rfl rfl rfl rfl (by repeat' first | exact trivial | apply And.intro | rfl | (refine int_eq ?_; rw [wrap64] <;> omega)) (by repeat' first | exact trivial | apply And.intro | rfl | (refine int_eq ?_; rw [wrap64] <;> omega))⟩
      simp only []
      rw [if_neg (by omega), ← take_map_step _ hlt, joinF_snoc (take_ne_nil _ hp0 hlt), hie, ← sep_121]
      simp only [ByteArray.append_assoc]
  · have hpe : p = T.kids.length := by omega
    have hop := hoz p
    by_cases hp0 : p = 0
    · rw [if_pos hp0] at hp2
      subst hp2
      have z1 : (cMu ++ cBrace).size = cMu.size + cBrace.size := ByteArray.size_append
      repeat' first
        | (refine then_go hm htt ?_; conv => whnf)
        | (refine Side.mk (by first | assumption | exact trivial | rfl | exact Nat.le_of_ble_eq_true rfl | omega) ?_; conv => whnf)
        | (refine Hyp.mk fun hlen => ?_; replace hlen : _ ≤ 17592186044416 := hlen; conv => whnf)
        | (refine Split.ct ?_; conv => whnf)
        | (refine Split.cf ?_; conv => whnf)
        | (refine Split.of_true (by first | rfl | assumption | ((try simp only [bytes_eq, bytes_ne, empty_bytes, bytes_bne, bytes_bne']); (try simp only [decide_eq_true_eq, decide_eq_false_iff_not, beq_iff_eq, beq_eq_false_iff_ne, bne_iff_ne, bne_eq_false_iff_eq, Bool.not_eq_true', Bool.not_eq_false', Tree.isNil_iff, Tree.isNil_not, Int.not_lt, Int.not_le, gt_iff_lt, ge_iff_le, ne_eq, Decidable.not_not, Int.toNat_natCast, Int.toNat_zero, Int.toNat_one]); first | assumption | omega)) ?_; conv => whnf)
        | (refine Split.of_false (by first | rfl | assumption | ((try simp only [bytes_eq, bytes_ne, empty_bytes, bytes_bne, bytes_bne']); (try simp only [decide_eq_true_eq, decide_eq_false_iff_not, beq_iff_eq, beq_eq_false_iff_ne, bne_iff_ne, bne_eq_false_iff_eq, Bool.not_eq_true', Bool.not_eq_false', Tree.isNil_iff, Tree.isNil_not, Int.not_lt, Int.not_le, gt_iff_lt, ge_iff_le, ne_eq, Decidable.not_not, Int.toNat_natCast, Int.toNat_zero, Int.toNat_one]); first | assumption | omega)) ?_; conv => whnf)
        | (refine Indep.mk (by kernel_rfl) ?_; conv => whnf)
        | (refine Side.mk (show cMu.size + cBrace.size ≤ 9223372036854775807 from by omega) ?_; conv => whnf)
        | (refine Side.mk (show (cMu ++ cBrace).size + cClose.size ≤ 9223372036854775807 from by omega) ?_; conv => whnf)
        | (refine Split.mk (fun hc => ?_) (fun hc => ?_) <;> (try simp only [bytes_eq, bytes_ne, empty_bytes, bytes_bne, bytes_bne'] at hc) <;> (try simp only [decide_eq_true_eq, decide_eq_false_iff_not, beq_iff_eq, beq_eq_false_iff_ne, bne_iff_ne, bne_eq_false_iff_eq, Bool.not_eq_true', Bool.not_eq_false', Tree.isNil_iff, Tree.isNil_not, Int.not_lt, Int.not_le, gt_iff_lt, ge_iff_le, ne_eq, Decidable.not_not, Int.toNat_natCast, Int.toNat_zero, Int.toNat_one] at hc) <;> conv => whnf)
      all_goals first
        | (exfalso; have := hn.sum (by omega); omega)
        | (refine ret_closed rfl (str_eq ?_) rfl; rw [hte]; (repeat first | rw [if_pos (by omega)] | rw [if_neg (by omega)]); kernel_rfl)
    · rw [if_neg hp0] at hp2
      have hp2' : out = cOpen ++ joinF (T.kids.map (itemF cOf)) cBar := by rw [hp2, hpe, List.take_length]
      rw [hpe, List.take_length] at hop
      subst hp2'
      clear hp2
      have z1 : (cMu ++ (cOpen ++ joinF (T.kids.map (itemF cOf)) cBar)).size = cMu.size + (cOpen ++ joinF (T.kids.map (itemF cOf)) cBar).size := ByteArray.size_append
      repeat' first
        | (refine then_go hm htt ?_; conv => whnf)
        | (refine Side.mk (by first | assumption | exact trivial | rfl | exact Nat.le_of_ble_eq_true rfl | omega) ?_; conv => whnf)
        | (refine Hyp.mk fun hlen => ?_; replace hlen : _ ≤ 17592186044416 := hlen; conv => whnf)
        | (refine Split.ct ?_; conv => whnf)
        | (refine Split.cf ?_; conv => whnf)
        | (refine Split.of_true (by first | rfl | assumption | ((try simp only [bytes_eq, bytes_ne, empty_bytes, bytes_bne, bytes_bne']); (try simp only [decide_eq_true_eq, decide_eq_false_iff_not, beq_iff_eq, beq_eq_false_iff_ne, bne_iff_ne, bne_eq_false_iff_eq, Bool.not_eq_true', Bool.not_eq_false', Tree.isNil_iff, Tree.isNil_not, Int.not_lt, Int.not_le, gt_iff_lt, ge_iff_le, ne_eq, Decidable.not_not, Int.toNat_natCast, Int.toNat_zero, Int.toNat_one]); first | assumption | omega)) ?_; conv => whnf)
        | (refine Split.of_false (by first | rfl | assumption | ((try simp only [bytes_eq, bytes_ne, empty_bytes, bytes_bne, bytes_bne']); (try simp only [decide_eq_true_eq, decide_eq_false_iff_not, beq_iff_eq, beq_eq_false_iff_ne, bne_iff_ne, bne_eq_false_iff_eq, Bool.not_eq_true', Bool.not_eq_false', Tree.isNil_iff, Tree.isNil_not, Int.not_lt, Int.not_le, gt_iff_lt, ge_iff_le, ne_eq, Decidable.not_not, Int.toNat_natCast, Int.toNat_zero, Int.toNat_one]); first | assumption | omega)) ?_; conv => whnf)
        | (refine Indep.mk (by kernel_rfl) ?_; conv => whnf)
        | (refine Side.mk (show cMu.size + ((cOpen ++ joinF (T.kids.map (itemF cOf)) cBar)).size ≤ 9223372036854775807 from by omega) ?_; conv => whnf)
        | (refine Side.mk (show (cMu ++ (cOpen ++ joinF (T.kids.map (itemF cOf)) cBar)).size + cClose.size ≤ 9223372036854775807 from by omega) ?_; conv => whnf)
        | (refine Split.mk (fun hc => ?_) (fun hc => ?_) <;> (try simp only [bytes_eq, bytes_ne, empty_bytes, bytes_bne, bytes_bne'] at hc) <;> (try simp only [decide_eq_true_eq, decide_eq_false_iff_not, beq_iff_eq, beq_eq_false_iff_ne, bne_iff_ne, bne_eq_false_iff_eq, Bool.not_eq_true', Bool.not_eq_false', Tree.isNil_iff, Tree.isNil_not, Int.not_lt, Int.not_le, gt_iff_lt, ge_iff_le, ne_eq, Decidable.not_not, Int.toNat_natCast, Int.toNat_zero, Int.toNat_one] at hc) <;> conv => whnf)
      refine ret_closed rfl (str_eq ?_) rfl
      rw [hte]
      repeat first | rw [if_pos (by omega)] | rw [if_neg (by omega)]
      simp only [ByteArray.append_assoc]; rfl

theorem rtext_ok (T : Tree) : TextP T := by
  suffices h : TextP T ∧ (∀ x ∈ T.kids, TextP x) from h.1
  induction T using Tree.ind' with
  | h0 => exact ⟨fun h => absurd rfl h.n.ne, fun x hx => by cases hx⟩
  | h1 T hT ih =>
    refine ⟨fun h hz => ?_, fun x hx => (ih x hx).1⟩
    by_cases h115 : T.kind = 115
    · exact rtext_115 T hT h.n hz (fun x hx => (ih x hx).2) h115
    · by_cases h121 : T.kind = 121
      · exact rtext_121 T hT h.n hz (fun x hx => (ih x hx).2) h121
      · exact rtext_two T hT h.n hz (fun x hx => (ih x hx).1) h115 h121

set_option maxRecDepth 10000 in
theorem rShow_ok (T : Tree) : Pure P 28 [.d (.tree T)] (.d (.str (showR T))) := by
  refine Pure.of_body tt [] [2] Try.func28 rfl rfl rfl (Nat.le_of_ble_eq_true rfl) fun g => ?_
  by_cases h : conE T ≠ 0 ∧ kindE T ≠ 0
  · repeat' first
      | (refine then_go hm htt ?_; conv => whnf)
      | (refine Side.mk (by first | assumption | exact trivial | rfl | exact Nat.le_of_ble_eq_true rfl | omega) ?_; conv => whnf)
      | (refine Hyp.mk fun hlen => ?_; replace hlen : _ ≤ 17592186044416 := hlen; conv => whnf)
      | (refine Split.ct ?_; conv => whnf)
      | (refine Split.cf ?_; conv => whnf)
      | (refine Split.of_true (by first | rfl | assumption | ((try simp only [bytes_eq, bytes_ne, empty_bytes, bytes_bne, bytes_bne']); (try simp only [decide_eq_true_eq, decide_eq_false_iff_not, beq_iff_eq, beq_eq_false_iff_ne, bne_iff_ne, bne_eq_false_iff_eq, Bool.not_eq_true', Bool.not_eq_false', Tree.isNil_iff, Tree.isNil_not, Int.not_lt, Int.not_le, gt_iff_lt, ge_iff_le, ne_eq, Decidable.not_not, Int.toNat_natCast, Int.toNat_zero, Int.toNat_one]); first | assumption | omega)) ?_; conv => whnf)
      | (refine Split.of_false (by first | rfl | assumption | ((try simp only [bytes_eq, bytes_ne, empty_bytes, bytes_bne, bytes_bne']); (try simp only [decide_eq_true_eq, decide_eq_false_iff_not, beq_iff_eq, beq_eq_false_iff_ne, bne_iff_ne, bne_eq_false_iff_eq, Bool.not_eq_true', Bool.not_eq_false', Tree.isNil_iff, Tree.isNil_not, Int.not_lt, Int.not_le, gt_iff_lt, ge_iff_le, ne_eq, Decidable.not_not, Int.toNat_natCast, Int.toNat_zero, Int.toNat_one]); first | assumption | omega)) ?_; conv => whnf)
      | (refine Indep.mk (by kernel_rfl) ?_; conv => whnf)
      | (refine CallG.pure (rcheck_ok T) rfl ?_; conv => whnf)
      | (refine CallG.pure (rkind_ok T) rfl ?_; conv => whnf)
      | (refine Split.mk (fun hc => ?_) (fun hc => ?_) <;> (try simp only [bytes_eq, bytes_ne, empty_bytes, bytes_bne, bytes_bne'] at hc) <;> (try simp only [decide_eq_true_eq, decide_eq_false_iff_not, beq_iff_eq, beq_eq_false_iff_ne, bne_iff_ne, bne_eq_false_iff_eq, Bool.not_eq_true', Bool.not_eq_false', Tree.isNil_iff, Tree.isNil_not, Int.not_lt, Int.not_le, gt_iff_lt, ge_iff_le, ne_eq, Decidable.not_not, Int.toNat_natCast, Int.toNat_zero, Int.toNat_one] at hc) <;> conv => whnf)
    exact ret_closed rfl (str_eq (by rw [showR, if_pos h]; rfl)) rfl
  · have hs := showR_sh h
    have hp := rtext_ok T hs.1 hs.2
    repeat' first
      | (refine then_go hm htt ?_; conv => whnf)
      | (refine Side.mk (by first | assumption | exact trivial | rfl | exact Nat.le_of_ble_eq_true rfl | omega) ?_; conv => whnf)
      | (refine Hyp.mk fun hlen => ?_; replace hlen : _ ≤ 17592186044416 := hlen; conv => whnf)
      | (refine Split.ct ?_; conv => whnf)
      | (refine Split.cf ?_; conv => whnf)
      | (refine Split.of_true (by first | rfl | assumption | ((try simp only [bytes_eq, bytes_ne, empty_bytes, bytes_bne, bytes_bne']); (try simp only [decide_eq_true_eq, decide_eq_false_iff_not, beq_iff_eq, beq_eq_false_iff_ne, bne_iff_ne, bne_eq_false_iff_eq, Bool.not_eq_true', Bool.not_eq_false', Tree.isNil_iff, Tree.isNil_not, Int.not_lt, Int.not_le, gt_iff_lt, ge_iff_le, ne_eq, Decidable.not_not, Int.toNat_natCast, Int.toNat_zero, Int.toNat_one]); first | assumption | omega)) ?_; conv => whnf)
      | (refine Split.of_false (by first | rfl | assumption | ((try simp only [bytes_eq, bytes_ne, empty_bytes, bytes_bne, bytes_bne']); (try simp only [decide_eq_true_eq, decide_eq_false_iff_not, beq_iff_eq, beq_eq_false_iff_ne, bne_iff_ne, bne_eq_false_iff_eq, Bool.not_eq_true', Bool.not_eq_false', Tree.isNil_iff, Tree.isNil_not, Int.not_lt, Int.not_le, gt_iff_lt, ge_iff_le, ne_eq, Decidable.not_not, Int.toNat_natCast, Int.toNat_zero, Int.toNat_one]); first | assumption | omega)) ?_; conv => whnf)
      | (refine Indep.mk (by kernel_rfl) ?_; conv => whnf)
      | (refine CallG.pure (rcheck_ok T) rfl ?_; conv => whnf)
      | (refine CallG.pure (rkind_ok T) rfl ?_; conv => whnf)
      | (refine CallG.pure hp rfl ?_; conv => whnf)
      | (refine Split.mk (fun hc => ?_) (fun hc => ?_) <;> (try simp only [bytes_eq, bytes_ne, empty_bytes, bytes_bne, bytes_bne'] at hc) <;> (try simp only [decide_eq_true_eq, decide_eq_false_iff_not, beq_iff_eq, beq_eq_false_iff_ne, bne_iff_ne, bne_eq_false_iff_eq, Bool.not_eq_true', Bool.not_eq_false', Tree.isNil_iff, Tree.isNil_not, Int.not_lt, Int.not_le, gt_iff_lt, ge_iff_le, ne_eq, Decidable.not_not, Int.toNat_natCast, Int.toNat_zero, Int.toNat_one] at hc) <;> conv => whnf)
    all_goals exact ret_closed rfl (str_eq (by rw [showR, if_neg h])) rfl
end Go.Proofs.Ytfblaochmhhknaa

namespace Go.Proofs.Ytfblaochmhhknaa
open Go Go.Mq
set_option linter.all false

/-! The chapter's example -/
def varT (n : Int) : Tree := .node 110 n ByteArray.empty ByteArray.empty []
def wN : Tree := .node 114 0 ByteArray.empty ByteArray.empty [varT 0, varT 1]
def wI : Tree := .node 111 0 ByteArray.empty ByteArray.empty []
def wM : Tree := .node 114 0 ByteArray.empty ByteArray.empty [wI, varT 0]
def wS1 : ByteArray := ⟨#[40, 32, 36, 48, 32, 45, 62, 32, 36, 49, 32, 41]⟩
def wS2 : ByteArray := ⟨#[40, 32, 105, 110, 116, 32, 45, 62, 32, 36, 48, 32, 41]⟩
theorem w_subst : substR wN 0 wI = (wM, 0) := by kernel_rfl
theorem w_show1 : showR wN = wS1 := by kernel_rfl
theorem w_show2 : showR wM = wS2 := by kernel_rfl

theorem works1_ok (n : Int) : Pure P 73 [.d (.int .i64 n)] (.d (.tree (varT n))) := by
  refine Pure.of_body tt [5] [2] Try.func73 rfl rfl rfl (Nat.le_of_ble_eq_true rfl) fun g => ?_
  repeat' first
    | (refine then_go hm htt ?_; conv => whnf)
    | (refine Side.mk (by first | assumption | exact trivial | rfl | exact Nat.le_of_ble_eq_true rfl | omega) ?_; conv => whnf)
    | (refine Hyp.mk fun hlen => ?_; replace hlen : _ ≤ 17592186044416 := hlen; conv => whnf)
    | (refine Split.ct ?_; conv => whnf)
    | (refine Split.cf ?_; conv => whnf)
    | (refine Split.of_true (by first | rfl | assumption | ((try simp only [bytes_eq, bytes_ne, empty_bytes, bytes_bne, bytes_bne']); (try simp only [decide_eq_true_eq, decide_eq_false_iff_not, beq_iff_eq, beq_eq_false_iff_ne, bne_iff_ne, bne_eq_false_iff_eq, Bool.not_eq_true', Bool.not_eq_false', Tree.isNil_iff, Tree.isNil_not, Int.not_lt, Int.not_le, gt_iff_lt, ge_iff_le, ne_eq, Decidable.not_not, Int.toNat_natCast, Int.toNat_zero, Int.toNat_one]); first | assumption | omega)) ?_; conv => whnf)
    | (refine Split.of_false (by first | rfl | assumption | ((try simp only [bytes_eq, bytes_ne, empty_bytes, bytes_bne, bytes_bne']); (try simp only [decide_eq_true_eq, decide_eq_false_iff_not, beq_iff_eq, beq_eq_false_iff_ne, bne_iff_ne, bne_eq_false_iff_eq, Bool.not_eq_true', Bool.not_eq_false', Tree.isNil_iff, Tree.isNil_not, Int.not_lt, Int.not_le, gt_iff_lt, ge_iff_le, ne_eq, Decidable.not_not, Int.toNat_natCast, Int.toNat_zero, Int.toNat_one]); first | assumption | omega)) ?_; conv => whnf)
    | (refine Indep.mk (by kernel_rfl) ?_; conv => whnf)
    | (refine Split.mk (fun hc => ?_) (fun hc => ?_) <;> (try simp only [bytes_eq, bytes_ne, empty_bytes, bytes_bne, bytes_bne'] at hc) <;> (try simp only [decide_eq_true_eq, decide_eq_false_iff_not, beq_iff_eq, beq_eq_false_iff_ne, bne_iff_ne, bne_eq_false_iff_eq, Bool.not_eq_true', Bool.not_eq_false', Tree.isNil_iff, Tree.isNil_not, Int.not_lt, Int.not_le, gt_iff_lt, ge_iff_le, ne_eq, Decidable.not_not, Int.toNat_natCast, Int.toNat_zero, Int.toNat_one] at hc) <;> conv => whnf)
  exact ret_closed rfl (tree_eq rfl) rfl

set_option maxRecDepth 10000 in
theorem works_ok : Pure P 29 [] (.d (.bool true)) := by
  have h1 : Pure P 30 [.d (.tree wN), .d (.int .i64 0), .d (.tree wI)] (.tuple [.d (.tree wM), .d (.int .i64 0)]) := by
    have := subst_ok wN 0 wI
    rw [w_subst] at this
    exact this
  have h2 : Pure P 27 [.d (.tree wN)] (.d (.str wS1)) := w_show1 ▸ Show_ok wN
  have h3 : Pure P 27 [.d (.tree wM)] (.d (.str wS2)) := w_show2 ▸ Show_ok wM
  refine Pure.of_body tt [9, 11, 15] [0] Try.func29 rfl rfl rfl (Nat.le_of_ble_eq_true rfl) fun g => ?_
  repeat' first
    | (refine then_go hm htt ?_; conv => whnf)
    | (refine Side.mk (by first | assumption | exact trivial | rfl | exact Nat.le_of_ble_eq_true rfl | omega) ?_; conv => whnf)
    | (refine Hyp.mk fun hlen => ?_; replace hlen : _ ≤ 17592186044416 := hlen; conv => whnf)
    | (refine Split.ct ?_; conv => whnf)
    | (refine Split.cf ?_; conv => whnf)
    | (refine Split.of_true (by first | rfl | assumption | ((try simp only [bytes_eq, bytes_ne, empty_bytes, bytes_bne, bytes_bne']); (try simp only [decide_eq_true_eq, decide_eq_false_iff_not, beq_iff_eq, beq_eq_false_iff_ne, bne_iff_ne, bne_eq_false_iff_eq, Bool.not_eq_true', Bool.not_eq_false', Tree.isNil_iff, Tree.isNil_not, Int.not_lt, Int.not_le, gt_iff_lt, ge_iff_le, ne_eq, Decidable.not_not, Int.toNat_natCast, Int.toNat_zero, Int.toNat_one]); first | assumption | omega)) ?_; conv => whnf)
    | (refine Split.of_false (by first | rfl | assumption | ((try simp only [bytes_eq, bytes_ne, empty_bytes, bytes_bne, bytes_bne']); (try simp only [decide_eq_true_eq, decide_eq_false_iff_not, beq_iff_eq, beq_eq_false_iff_ne, bne_iff_ne, bne_eq_false_iff_eq, Bool.not_eq_true', Bool.not_eq_false', Tree.isNil_iff, Tree.isNil_not, Int.not_lt, Int.not_le, gt_iff_lt, ge_iff_le, ne_eq, Decidable.not_not, Int.toNat_natCast, Int.toNat_zero, Int.toNat_one]); first | assumption | omega)) ?_; conv => whnf)
    | (refine Indep.mk (by kernel_rfl) ?_; conv => whnf)
    | (refine CallG.pure (works1_ok 0) rfl ?_; conv => whnf)
    | (refine CallG.pure (works1_ok 1) rfl ?_; conv => whnf)
    | (refine CallG.pure h1 rfl ?_; conv => whnf)
    | (refine CallG.pure h2 rfl ?_; conv => whnf)
    | (refine CallG.pure h3 rfl ?_; conv => whnf)
    | (refine Split.mk (fun hc => ?_) (fun hc => ?_) <;> (try simp only [bytes_eq, bytes_ne, empty_bytes, bytes_bne, bytes_bne'] at hc) <;> (try simp only [decide_eq_true_eq, decide_eq_false_iff_not, beq_iff_eq, beq_eq_false_iff_ne, bne_iff_ne, bne_eq_false_iff_eq, Bool.not_eq_true', Bool.not_eq_false', Tree.isNil_iff, Tree.isNil_not, Int.not_lt, Int.not_le, gt_iff_lt, ge_iff_le, ne_eq, Decidable.not_not, Int.toNat_natCast, Int.toNat_zero, Int.toNat_one] at hc) <;> conv => whnf)
  all_goals first
    | exact ret_closed rfl (bool_eq (bytes_eq.2 rfl)) rfl
    | exact absurd rfl hc
end Go.Proofs.Ytfblaochmhhknaa

namespace Go.Proofs.Ytfblaochmhhknaa
open Go Go.Mq
set_option linter.all false

theorem rsame_self (X : Tree) : Pure P 32 [.d (.tree X), .d (.tree X)] (.d (.bool true)) := by
  have := rSame_ok X X
  rw [(sameF_iff X X).2 rfl] at this
  exact this

set_option maxHeartbeats 2000000 in
set_option maxRecDepth 10000 in
theorem ctorChecks_ok (l : List Cel) : Pure P 5 [.agg [.d (cellsD l)]] (.d (.bool true)) := by
  refine Pure.of_body tt [] [2] Try.func5 rfl rfl rfl (Nat.le_of_ble_eq_true rfl) fun g => ?_
  repeat' first
    | (refine then_go hm htt ?_; conv => whnf)
    | (refine Side.mk (by first | assumption | exact trivial | rfl | exact Nat.le_of_ble_eq_true rfl | omega) ?_; conv => whnf)
    | (refine Hyp.mk fun hlen => ?_; replace hlen : _ ≤ 17592186044416 := hlen; conv => whnf)
    | (refine Split.ct ?_; conv => whnf)
    | (refine Split.cf ?_; conv => whnf)
    | (refine Split.of_true (by first | rfl | assumption | ((try simp only [bytes_eq, bytes_ne, empty_bytes, bytes_bne, bytes_bne']); (try simp only [decide_eq_true_eq, decide_eq_false_iff_not, beq_iff_eq, beq_eq_false_iff_ne, bne_iff_ne, bne_eq_false_iff_eq, Bool.not_eq_true', Bool.not_eq_false', Tree.isNil_iff, Tree.isNil_not, Int.not_lt, Int.not_le, gt_iff_lt, ge_iff_le, ne_eq, Decidable.not_not, Int.toNat_natCast, Int.toNat_zero, Int.toNat_one]); first | assumption | omega)) ?_; conv => whnf)
    | (refine Split.of_false (by first | rfl | assumption | ((try simp only [bytes_eq, bytes_ne, empty_bytes, bytes_bne, bytes_bne']); (try simp only [decide_eq_true_eq, decide_eq_false_iff_not, beq_iff_eq, beq_eq_false_iff_ne, bne_iff_ne, bne_eq_false_iff_eq, Bool.not_eq_true', Bool.not_eq_false', Tree.isNil_iff, Tree.isNil_not, Int.not_lt, Int.not_le, gt_iff_lt, ge_iff_le, ne_eq, Decidable.not_not, Int.toNat_natCast, Int.toNat_zero, Int.toNat_one]); first | assumption | omega)) ?_; conv => whnf)
    | (refine Indep.mk (by kernel_rfl) ?_; conv => whnf)
    | (refine Split.of_true (beq_self_eq_true _) ?_; conv => whnf)
    | (refine Split.of_true (bytes_eq.2 rfl) ?_; conv => whnf)
    | (refine CallG.pure (few_ok l) rfl ?_; conv => whnf)
    | (refine CallG.pure (check_ok (fewF l)) rfl ?_; conv => whnf)
    | (refine CallG.pure (rcheck_ok (fewF l)) rfl ?_; conv => whnf)
    | (refine CallG.pure (kind_ok (fewF l)) rfl ?_; conv => whnf)
    | (refine CallG.pure (rkind_ok (fewF l)) rfl ?_; conv => whnf)
    | (refine CallG.pure (Show_ok (fewF l)) rfl ?_; conv => whnf)
    | (refine CallG.pure (rShow_ok (fewF l)) rfl ?_; conv => whnf)
    | (refine CallG.pure works_ok rfl ?_; conv => whnf)
    | (refine Split.mk (fun hc => ?_) (fun hc => ?_) <;> (try simp only [bytes_eq, bytes_ne, empty_bytes, bytes_bne, bytes_bne'] at hc) <;> (try simp only [decide_eq_true_eq, decide_eq_false_iff_not, beq_iff_eq, beq_eq_false_iff_ne, bne_iff_ne, bne_eq_false_iff_eq, Bool.not_eq_true', Bool.not_eq_false', Tree.isNil_iff, Tree.isNil_not, Int.not_lt, Int.not_le, gt_iff_lt, ge_iff_le, ne_eq, Decidable.not_not, Int.toNat_natCast, Int.toNat_zero, Int.toNat_one] at hc) <;> conv => whnf)
  exact ret_closed rfl (bool_eq rfl) rfl

set_option maxHeartbeats 2000000 in
set_option maxRecDepth 10000 in
theorem ctorShifts_ok (l : List Cel) (b frm : Int) : Pure P 8 [.agg [.d (cellsD l)], .d (.int .i64 b), .d (.int .i64 frm)] (.d (.bool true)) := by
  have hs := rShift_ok (fewF l) b frm
  rw [← shiftR_eq] at hs
  have hf := rFree_ok (fewF l)
  rw [← freeR_eq] at hf
  have ho := rOccurs_ok (fewF l) frm
  rw [← occursR_eq] at ho
  refine Pure.of_body tt [] [6] Try.func8 rfl rfl rfl (Nat.le_of_ble_eq_true rfl) fun g => ?_
  repeat' first
    | (refine then_go hm htt ?_; conv => whnf)
    | (refine Side.mk (by first | assumption | exact trivial | rfl | exact Nat.le_of_ble_eq_true rfl | omega) ?_; conv => whnf)
    | (refine Hyp.mk fun hlen => ?_; replace hlen : _ ≤ 17592186044416 := hlen; conv => whnf)
    | (refine Split.ct ?_; conv => whnf)
    | (refine Split.cf ?_; conv => whnf)
    | (refine Split.of_true (by first | rfl | assumption | ((try simp only [bytes_eq, bytes_ne, empty_bytes, bytes_bne, bytes_bne']); (try simp only [decide_eq_true_eq, decide_eq_false_iff_not, beq_iff_eq, beq_eq_false_iff_ne, bne_iff_ne, bne_eq_false_iff_eq, Bool.not_eq_true', Bool.not_eq_false', Tree.isNil_iff, Tree.isNil_not, Int.not_lt, Int.not_le, gt_iff_lt, ge_iff_le, ne_eq, Decidable.not_not, Int.toNat_natCast, Int.toNat_zero, Int.toNat_one]); first | assumption | omega)) ?_; conv => whnf)
    | (refine Split.of_false (by first | rfl | assumption | ((try simp only [bytes_eq, bytes_ne, empty_bytes, bytes_bne, bytes_bne']); (try simp only [decide_eq_true_eq, decide_eq_false_iff_not, beq_iff_eq, beq_eq_false_iff_ne, bne_iff_ne, bne_eq_false_iff_eq, Bool.not_eq_true', Bool.not_eq_false', Tree.isNil_iff, Tree.isNil_not, Int.not_lt, Int.not_le, gt_iff_lt, ge_iff_le, ne_eq, Decidable.not_not, Int.toNat_natCast, Int.toNat_zero, Int.toNat_one]); first | assumption | omega)) ?_; conv => whnf)
    | (refine Indep.mk (by kernel_rfl) ?_; conv => whnf)
    | (refine Split.of_true (beq_self_eq_true _) ?_; conv => whnf)
    | (refine Split.of_true (bytes_eq.2 rfl) ?_; conv => whnf)
    | (refine CallG.pure (few_ok l) rfl ?_; conv => whnf)
    | (refine CallG.pure (shift_ok (fewF l) b frm) rfl ?_; conv => whnf)
    | (refine CallG.pure hs rfl ?_; conv => whnf)
    | (refine CallG.pure (rsame_self _) rfl ?_; conv => whnf)
    | (refine CallG.pure (free_ok (fewF l)) rfl ?_; conv => whnf)
    | (refine CallG.pure hf rfl ?_; conv => whnf)
    | (refine CallG.pure (occurs_ok (fewF l) frm) rfl ?_; conv => whnf)
    | (refine CallG.pure ho rfl ?_; conv => whnf)
    | (refine CallG.pure works_ok rfl ?_; conv => whnf)
    | (refine Split.mk (fun hc => ?_) (fun hc => ?_) <;> (try simp only [bytes_eq, bytes_ne, empty_bytes, bytes_bne, bytes_bne'] at hc) <;> (try simp only [decide_eq_true_eq, decide_eq_false_iff_not, beq_iff_eq, beq_eq_false_iff_ne, bne_iff_ne, bne_eq_false_iff_eq, Bool.not_eq_true', Bool.not_eq_false', Tree.isNil_iff, Tree.isNil_not, Int.not_lt, Int.not_le, gt_iff_lt, ge_iff_le, ne_eq, Decidable.not_not, Int.toNat_natCast, Int.toNat_zero, Int.toNat_one] at hc) <;> conv => whnf)
  exact ret_closed rfl (bool_eq rfl) rfl

set_option maxHeartbeats 2000000 in
set_option maxRecDepth 10000 in
theorem ctorSubsts_ok (l : List Cel) (i : Int) (u : List Cel) : Pure P 6 [.agg [.d (cellsD l)], .d (.int .i64 i), .agg [.d (cellsD u)]] (.d (.bool true)) := by
  have hs := rSubst_ok (fewF l) i (fewF u)
  rw [← substR_eq] at hs
  refine Pure.of_body tt [] [6] Try.func6 rfl rfl rfl (Nat.le_of_ble_eq_true rfl) fun g => ?_
  repeat' first
    | (refine then_go hm htt ?_; conv => whnf)
    | (refine Side.mk (by first | assumption | exact trivial | rfl | exact Nat.le_of_ble_eq_true rfl | omega) ?_; conv => whnf)
    | (refine Hyp.mk fun hlen => ?_; replace hlen : _ ≤ 17592186044416 := hlen; conv => whnf)
    | (refine Split.ct ?_; conv => whnf)
    | (refine Split.cf ?_; conv => whnf)
    | (refine Split.of_true (by first | rfl | assumption | ((try simp only [bytes_eq, bytes_ne, empty_bytes, bytes_bne, bytes_bne']); (try simp only [decide_eq_true_eq, decide_eq_false_iff_not, beq_iff_eq, beq_eq_false_iff_ne, bne_iff_ne, bne_eq_false_iff_eq, Bool.not_eq_true', Bool.not_eq_false', Tree.isNil_iff, Tree.isNil_not, Int.not_lt, Int.not_le, gt_iff_lt, ge_iff_le, ne_eq, Decidable.not_not, Int.toNat_natCast, Int.toNat_zero, Int.toNat_one]); first | assumption | omega)) ?_; conv => whnf)
    | (refine Split.of_false (by first | rfl | assumption | ((try simp only [bytes_eq, bytes_ne, empty_bytes, bytes_bne, bytes_bne']); (try simp only [decide_eq_true_eq, decide_eq_false_iff_not, beq_iff_eq, beq_eq_false_iff_ne, bne_iff_ne, bne_eq_false_iff_eq, Bool.not_eq_true', Bool.not_eq_false', Tree.isNil_iff, Tree.isNil_not, Int.not_lt, Int.not_le, gt_iff_lt, ge_iff_le, ne_eq, Decidable.not_not, Int.toNat_natCast, Int.toNat_zero, Int.toNat_one]); first | assumption | omega)) ?_; conv => whnf)
    | (refine Indep.mk (by kernel_rfl) ?_; conv => whnf)
    | (refine Split.of_true (beq_self_eq_true _) ?_; conv => whnf)
    | (refine Split.of_true (bytes_eq.2 rfl) ?_; conv => whnf)
    | (refine CallG.pure (few_ok l) rfl ?_; conv => whnf)
    | (refine CallG.pure (few_ok u) rfl ?_; conv => whnf)
    | (refine CallG.pure (subst_ok (fewF l) i (fewF u)) rfl ?_; conv => whnf)
    | (refine CallG.pure hs rfl ?_; conv => whnf)
    | (refine CallG.pure (rsame_self _) rfl ?_; conv => whnf)
    | (refine CallG.pure works_ok rfl ?_; conv => whnf)
    | (refine Split.mk (fun hc => ?_) (fun hc => ?_) <;> (try simp only [bytes_eq, bytes_ne, empty_bytes, bytes_bne, bytes_bne'] at hc) <;> (try simp only [decide_eq_true_eq, decide_eq_false_iff_not, beq_iff_eq, beq_eq_false_iff_ne, bne_iff_ne, bne_eq_false_iff_eq, Bool.not_eq_true', Bool.not_eq_false', Tree.isNil_iff, Tree.isNil_not, Int.not_lt, Int.not_le, gt_iff_lt, ge_iff_le, ne_eq, Decidable.not_not, Int.toNat_natCast, Int.toNat_zero, Int.toNat_one] at hc) <;> conv => whnf)
  exact ret_closed rfl (bool_eq rfl) rfl
end Go.Proofs.Ytfblaochmhhknaa

namespace Go.Proofs.Ytfblaochmhhknaa
open Go Go.Mq Go.ChangeShapes Go.WideShapes Go.Deep Go.RowKit Go.ChangeAt
set_option linter.all false

/-! The arguments are opened -/
theorem imm_cell {W : World} {b o : Nat} {v : Value} (h : W.cell? ⟨b, o, none⟩ = some v) : (immOf W).cell b o = some v := by
  unfold World.cell? at h
  split at h
  · rename_i c T fz hb
    unfold Imm.cell immOf
    rw [hb]
    simpa using h
  · cases h
theorem imm_cell' {W : World} {a : Addr} {k : Nat} {v : Value} (hs : a.spot = none) (h : W.cell? (a.add k) = some v) : (immOf W).cell a.block (a.off + k) = some v := by
  obtain ⟨b, o, s⟩ := a
  simp only at hs
  subst hs
  rw [add_addr] at h
  exact imm_cell h
theorem add_spot (a : Addr) (h : (a.add 0).spot = none) : a.spot = none := by
  simpa [Addr.add] using h

section
variable {H : Type} {enc : TypeId × Value → H} {P : Program} {w : World} {base : Nat} {spare : Nat → Bool} {held : Bool}
theorem open_slice_fields {t e : TypeId} {fs : Array Field} {fuel : Nat} {cs : List Value} {x : DataW H × List MemPlace} (ht : P.underlying t = some (.slice e)) (he : P.underlying e = some (.struct fs))
    (hone : oneCellFields P fs = true) (hC : P.cellsOf e = fs.size) (h : DataW.trod enc P w base spare held fuel t cs = some x) :
    (cs = [.slice none 0 0] ∧ x = (.nil, [])) ∨
    ∃ (a : Addr) (len cap m : Nat) (D : Nat → DataW H) (Pl : Nat → List MemPlace), cs = [.slice (some a) len cap] ∧ base ≤ a.block ∧ len ≤ cap ∧ cap ≤ maxLen ∧ m = (if spare a.block then cap else len) ∧
      x = (.slice ((List.range len).map D) ((List.range (m - len)).map fun j => D (len + j)), MemPlace.row a (m * fs.size) ++ (List.range m).flatMap Pl) ∧
      ∀ i, i < m → ∃ (ys : List (DataW H × List MemPlace)) (n : Nat), D i = .agg (ys.map (·.1)) ∧ Pl i = ys.flatMap (·.2) ∧ ys.length = fs.size ∧
        ∀ (j : Nat) (f : Field), fs[j]? = some f → ∃ (v : Value) (y : DataW H × List MemPlace), w.cell? (a.add (i * fs.size + j)) = some v ∧ ys[j]? = some y ∧ DataW.trod enc P w base spare held n f.type [v] = some y := by
  rcases open_slice ht h with h0 | ⟨a, len, cap, m, n, D, Pl, hcs, hb, hl, hm, hmm, hx, hi⟩
  · exact .inl h0
  · refine .inr ⟨a, len, cap, m, D, Pl, hcs, hb, hl, hm, hmm, by rw [hC] at hx; exact hx, fun i him => ?_⟩
    obtain ⟨cs', hc, ht'⟩ := hi i him
    rw [hC] at hc
    obtain ⟨ys, n', hn', hy, hlen, hyl, hf⟩ := DataW.trod_struct he ht'
    obtain ⟨_, hcl, hat⟩ := World.cells?_some hc
    simp only [Prod.mk.injEq] at hy
    refine ⟨ys, n', hy.1, hy.2, hyl, fun j f hj => ?_⟩
    obtain ⟨ho, hk⟩ := hone_of hone j f hj
    have hjl : j < fs.size := (Array.getElem?_eq_some_iff.1 hj).1
    have hcell := hat j hjl
    have hv : cs'[j]? = some (cs'[j]'(by omega)) := List.getElem?_eq_getElem (by omega)
    have h1 := hf j f hj
    rw [ho, hk] at h1
    have hone' : (cs'.drop j).take 1 = [cs'[j]'(by omega)] := by
      rw [List.drop_eq_getElem_cons (by omega)]
      rfl
    rw [hone'] at h1
    have hys : ys[j]? = some (ys[j]'(by omega)) := List.getElem?_eq_getElem (by omega)
    refine ⟨_, _, ?_, hys, h1.trans hys⟩
    rw [← Go.Deep.add_add, hcell, hv]
end

theorem mem_weightsAll {H : Type} {Q : Program} {e : TypeId} : ∀ {l : List (DataW H)} {d : DataW H} {n : Nat}, d ∈ l → n ∈ d.weights Q e → n ∈ DataW.weightsAll Q e l
  | [], _, _, h, _ => by cases h
  | x :: l, d, n, h, hn => by
    simp only [DataW.weightsAll, List.mem_append]
    rcases List.mem_cons.1 h with rfl | h
    · exact .inl hn
    · exact .inr (mem_weightsAll h hn)

theorem cells60 : P.cellsOf 60 = 5 := by kernel_rfl
theorem cells3 : P.cellsOf 3 = 1 := by kernel_rfl

theorem open_cel {H : Type} {enc : TypeId × Value → H} {W : World} {n4 n0 n1 n2 n3 : Nat} {v0 v1 v2 v3 v4 : Value} {y0 y1 y2 y3 y4 : DataW H × List MemPlace}
    (h0 : DataW.trod enc P W 0 (fun _ => true) true n0 3 [v0] = some y0) (h1 : DataW.trod enc P W 0 (fun _ => true) true n1 3 [v1] = some y1)
    (h2 : DataW.trod enc P W 0 (fun _ => true) true n2 9 [v2] = some y2) (h3 : DataW.trod enc P W 0 (fun _ => true) true n3 9 [v3] = some y3)
    (h4 : DataW.trod enc P W 0 (fun _ => true) true n4 58 [v4] = some y4) (hz : ∀ n ∈ y4.1.weights P 58, n ≤ reachBytes) :
    ∃ c : Cel, Cd (immOf W) (cellD c 0) v0 ∧ Cd (immOf W) (cellD c 1) v1 ∧ Cd (immOf W) (cellD c 2) v2 ∧ Cd (immOf W) (cellD c 3) v3 ∧ Cd (immOf W) (cellD c 4) v4 := by
  obtain ⟨k, e0, _, _⟩ := DataW.trod_int Try.underlying3 h0
  obtain ⟨n, e1, _, _⟩ := DataW.trod_int Try.underlying3 h1
  obtain ⟨s, e2, _, _⟩ := DataW.trod_string Try.underlying9 h2
  obtain ⟨m, e3, _, _⟩ := DataW.trod_string Try.underlying9 h3
  cases e0; cases e1; cases e2; cases e3
  rcases open_ints Try.underlying58 Try.underlying3 cells3 h4 with ⟨e4, _⟩ | ⟨a, len, cap, zs, e4, _, hl, hc, hzl, hy, hcell, _⟩
  · cases e4
    exact ⟨⟨k, n, s, m, []⟩, .int, .int, .str, .str, .slice0⟩
  · cases e4
    simp only [if_true] at hzl
    have hw := hz ((zs.take len).length * P.bytesOf 3 + (zs.drop len).length * P.bytesOf 3) (by
      rw [hy]
      simp [DataW.weights, Try.underlying58, lits, Nat.add_mul])
    have hb8 : P.bytesOf 3 = 8 := by kernel_rfl
    have hr := reachBytes_lt
    rw [hb8, List.length_take] at hw
    have hlm : len ≤ maxN := by unfold maxN; omega
    by_cases hc0 : cap = 0
    · have hl0 : len = 0 := by omega
      subst hc0 hl0
      exact ⟨⟨k, n, s, m, []⟩, .int, .int, .str, .str, .sliceE⟩
    · have hsp : a.spot = none := add_spot a (World.cell?_spot (hcell 0 (by omega)))
      obtain ⟨b, o, sp⟩ := a
      simp only at hsp
      subst hsp
      have hll : (zs.take len).length = len := by rw [List.length_take]; omega
      refine ⟨⟨k, n, s, m, zs.take len⟩, .int, .int, .str, .str, ?_⟩
      have key : Cd (immOf W) (.slice len 1 (fun i _ => .int .i64 ((zs.take len).getD i 0))) (.slice (some ⟨b, o, none⟩) len cap) := by
        refine .slice (cs := fun i _ => .int .i64 ((zs.take len).getD i 0)) hl hlm (fun i j hi hj => ?_) (fun i j hi hj => .int)
        have := imm_cell' rfl (hcell i (by omega))
        have e : o + i * 1 + j = o + i := by omega
        rw [e]
        simp only at this
        rw [this]
        simp [List.getElem?_take, hi]
      show Cd (immOf W) (.slice (zs.take len).length 1 (fun i _ => .int .i64 ((zs.take len).getD i 0))) _
      rw [hll]
      exact key

theorem mem_range_map {α : Type} {D : Nat → α} {n i : Nat} (h : i < n) : D i ∈ (List.range n).map D := List.mem_map.2 ⟨i, List.mem_range.2 h, rfl⟩

theorem open_cells {H : Type} {enc : TypeId × Value → H} {W : World} {fuel : Nat} {v : Value} {y : DataW H × List MemPlace}
    (h : DataW.trod enc P W 0 (fun _ => true) true fuel 22 [v] = some y) (hz : ∀ n ∈ y.1.weights P 22, n ≤ reachBytes) : ∃ l : List Cel, Cd (immOf W) (cellsD l) v := by
  rcases open_slice_fields Try.underlying22 Try.underlying60 (by kernel_rfl) (by kernel_rfl) h with ⟨hc, _⟩ | ⟨a, len, cap, m, D, Pl, hc, _, hl, hm, hmm, hy, hi⟩
  · cases hc
    exact ⟨[], .slice0⟩
  · cases hc
    simp only [if_true] at hmm
    subst hmm
    have hw := hz (((List.range len).map D).length * P.bytesOf 60 + ((List.range (m - len)).map fun j => D (len + j)).length * P.bytesOf 60) (by
      rw [hy]
      simp [DataW.weights, Try.underlying22, Nat.add_mul])
    have hb72 : P.bytesOf 60 = 72 := by kernel_rfl
    have hr := reachBytes_lt
    rw [hb72, List.length_map, List.length_range] at hw
    have hlm : len ≤ maxN := by unfold maxN; omega
    have helem : ∀ i, i < len → ∀ n ∈ (D i).weights P 60, n ≤ reachBytes := by
      intro i hil n hn
      refine hz n ?_
      rw [hy]
      simp only [DataW.weights, Try.underlying22, List.mem_cons, List.mem_append]
      exact .inr (.inl (mem_weightsAll (mem_range_map hil) hn))
    by_cases hc0 : m = 0
    · have hl0 : len = 0 := by omega
      subst hc0 hl0
      exact ⟨[], .sliceE⟩
    · have hsp : a.spot = none := by
        obtain ⟨ys, n, _, _, _, hf⟩ := hi 0 (by omega)
        obtain ⟨v0, _, hv0, _, _⟩ := hf 0 _ rfl
        exact add_spot a (World.cell?_spot hv0)
      have each : ∀ i, i < len → ∃ p : Cel × (Nat → Value), ∀ j, j < 5 → W.cell? (a.add (i * 5 + j)) = some (p.2 j) ∧ Cd (immOf W) (cellD p.1 j) (p.2 j) := by
        intro i hil
        obtain ⟨ys, n, hD, _, hyl, hf⟩ := hi i (by omega)
        obtain ⟨v0, y0, c0, g0, t0⟩ := hf 0 _ rfl
        obtain ⟨v1, y1, c1, g1, t1⟩ := hf 1 _ rfl
        obtain ⟨v2, y2, c2, g2, t2⟩ := hf 2 _ rfl
        obtain ⟨v3, y3, c3, g3, t3⟩ := hf 3 _ rfl
        obtain ⟨v4, y4, c4, g4, t4⟩ := hf 4 _ rfl
        have hz4 : ∀ n ∈ y4.1.weights P 58, n ≤ reachBytes := by
          intro n hn
          refine helem i hil n ?_
          rw [hD]
          simp only [DataW.weights, Try.underlying60]
          exact DataW.weights_mem_each (j := 4) (t := 58) rfl (by rw [List.getElem?_map, g4]; rfl) n hn
        obtain ⟨c, q0, q1, q2, q3, q4⟩ := open_cel t0 t1 t2 t3 t4 hz4
        refine ⟨(c, fun j => if j = 0 then v0 else if j = 1 then v1 else if j = 2 then v2 else if j = 3 then v3 else v4), fun j hj => ?_⟩
        match j, hj with
        | 0, _ => exact ⟨c0, q0⟩
        | 1, _ => exact ⟨c1, q1⟩
        | 2, _ => exact ⟨c2, q2⟩
        | 3, _ => exact ⟨c3, q3⟩
        | 4, _ => exact ⟨c4, q4⟩
      haveI : Inhabited (Cel × (Nat → Value)) := ⟨(default, fun _ => undef)⟩
      obtain ⟨p, hp⟩ := choose_lt each
      obtain ⟨b, o, sp⟩ := a
      simp only at hsp
      subst hsp
      refine ⟨(List.range len).map fun i => (p i).1, ?_⟩
      have hll : ((List.range len).map fun i => (p i).1).length = len := by simp
      have key : Cd (immOf W) (.slice len 5 (fun i j => cellD (((List.range len).map fun i => (p i).1).getD i default) j)) (.slice (some ⟨b, o, none⟩) len m) := by
        refine .slice (cs := fun i j => (p i).2 j) hl hlm (fun i j hil hj => ?_) (fun i j hil hj => ?_)
        · have := imm_cell' rfl (hp i hil j hj).1
          simp only at this
          rw [← this, Nat.add_assoc]
        · have := (hp i hil j hj).2
          have e : ((List.range len).map fun i => (p i).1).getD i default = (p i).1 := by simp [hil]
          rw [e]
          exact this
      show Cd (immOf W) (.slice ((List.range len).map fun i => (p i).1).length 5 _) _
      rw [hll]
      exact key

set_option maxRecDepth 100000 in
theorem open_tree {H : Type} {enc : TypeId × Value → H} {W : World} {base : Nat} {v : Value} {d : DataW H} {p : List MemPlace}
    (hv : Value.okWide P W .any base 24 v) (h : DataW.Trod enc P W 0 (fun _ => true) true 24 v d p) (hz : ∀ n ∈ d.weights P 24, n ≤ reachBytes) :
    ∃ l : List Cel, ∀ ρ : Nat → RB, CA (immOf W) ρ (· < 0) (.agg [.d (cellsD l)]) v := by
  obtain ⟨cs, rfl, hcs⟩ := okWide_struct Try.underlying24 hv
  obtain ⟨fuel, hf⟩ := h
  obtain ⟨xs, n, _, hx, hlen, hxl, hfld⟩ := DataW.trod_struct Try.underlying24 hf
  have h1 : P.cellsOf 24 = 1 := by kernel_rfl
  obtain ⟨cl⟩ := cs
  match cl, hcs.trans h1, xs, hxl with
  | [c0], _, [y0], _ =>
    have h0 : DataW.trod enc P W 0 (fun _ => true) true n 22 (((Value.agg #[c0]).cells.toList.drop 0).take (P.cellsOf 22)) = some y0 := hfld 0 _ rfl
    have h2 : P.cellsOf 22 = 1 := by kernel_rfl
    have h0' : DataW.trod enc P W 0 (fun _ => true) true n 22 [c0] = some y0 := by
      have e : ∀ k, k = 1 → ((Value.agg #[c0]).cells.toList.drop 0).take k = [c0] := fun k hk => by subst hk; rfl
      have h3 := e _ h2
      generalize P.cellsOf 22 = k at h0 h3
      rw [← h3]
      exact h0
    obtain ⟨l, hl⟩ := open_cells h0' (fun m hm => hz m (by
      cases hx
      simp only [DataW.weights, Try.underlying24]
      exact DataW.weights_mem_each (j := 0) (t := 22) rfl rfl m hm))
    refine ⟨l, fun ρ => .agg rfl fun i hi => ?_⟩
    have hi0 : i = 0 := by simpa using hi
    subst hi0
    exact .d hl
end Go.Proofs.Ytfblaochmhhknaa
