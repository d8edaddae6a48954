/- Plan: what the checks are, columns and steps that pass them. -/
import Derived.Test.YtnbilkoabogllaaGx
import Derived.Test.YtnbilkoabogllaaFx
import Derived.Test.YtnbilkoabogllaaA36x
import Derived.KernelRfl
import Derived.Test.YtnbilkoabogllaaIx
set_option linter.unusedSimpArgs false
set_option linter.unusedVariables false
set_option linter.unusedSimpArgs false
set_option linter.unusedVariables false
namespace Go.Abs.Plan
open Enc (Is)

/-- Calls of pure functions of one value. -/
theorem callP1 {α : Type} [Enc α] {f : FuncId} {af : AFunc} (ht : tbl f = some (.code af)) (hp : af.pure = true) {S : AV → Prop} (x : α) (hS : ∀ r, S r → S r.lend)
    (hrun : ∀ v : AV, Is v x → ∃ r, runPure (callW tbl) loopW af [v] = some r ∧ S r) (v : AV) (hv : Is v x) (H : Heap) : ∃ r, callW tbl (.func f [] []) [v] H = some (r, H) ∧ S r :=
  callP_of ht hp (R := fun a => ∃ v, a = [v] ∧ Is v x) (by rintro a ⟨v, rfl, h⟩; simp [Enc.plain h]) (by rintro a ⟨v, rfl, h⟩; exact ⟨v.lend, rfl, Enc.lend h⟩) hS (by rintro a ⟨v, rfl, h⟩; exact hrun v h) [v] H ⟨v, rfl, hv⟩

end Go.Abs.Plan

set_option linter.unusedSimpArgs false
set_option linter.unusedVariables false
namespace Go.Abs.Plan
open Enc (Is)

/-! ### Bits -/
theorem wrap_u64 {n : Int} (h1 : 0 ≤ n) (h2 : n < 2 ^ 64) : IntKind.u64.wrap n = n := by
  simp [IntKind.wrap, IntKind.bits, IntKind.signed]
  omega
theorem ofInt_nat (n : Nat) : BitVec.ofInt 64 (n : Int) = BitVec.ofNat 64 n := by simp
theorem fdiv_pow (B j : Nat) : ((B : Int).fdiv (2 ^ j)) = ((B >>> j : Nat) : Int) := by
  rw [Int.fdiv_eq_ediv_of_nonneg _ (Int.pow_nonneg (by decide)), Nat.shiftRight_eq_div_pow]; simp
theorem shr_u64 {B j : Nat} (hj : j < 64) (eq : EqKind) : binA .shr eq (.int .u64 (B : Int)) (i64 (j : Int)) = some (.int .u64 ((B >>> j : Nat) : Int)) := by
  have : ¬ ((j : Int) < 0) := by omega
  have e : min j 64 = j := by omega
  simp only [binA, this, if_false, Int.toNat_natCast, IntKind.bits, e, fdiv_pow]
theorem and1_bv (n : Nat) : (BitVec.ofNat 64 n &&& BitVec.ofNat 64 1).toNat = n % 2 := by simp [BitVec.toNat_and, Nat.and_one_is_mod]
theorem and1_u64 {n : Nat} (hn : n < 2 ^ 64) (eq : EqKind) : binA .and eq (.int .u64 (n : Int)) (.int .u64 1) = some (.int .u64 ((n % 2 : Nat) : Int)) := by
  have h : IntKind.u64.wrap (((BitVec.ofNat 64 n &&& BitVec.ofNat 64 1).toNat : Nat) : Int) = ((n % 2 : Nat) : Int) := by rw [and1_bv, wrap_u64 (by omega) (by omega)]
  have h2 : BitVec.ofInt (IntKind.u64).bits (n : Int) = BitVec.ofNat 64 n := ofInt_nat n
  show some (AV.int .u64 (IntKind.u64.wrap (((BitVec.ofInt 64 (n : Int) &&& BitVec.ofInt 64 1).toNat : Nat) : Int))) = _
  rw [show BitVec.ofInt 64 (n : Int) = BitVec.ofNat 64 n from ofInt_nat n]
  exact congrArg (fun x => some (AV.int .u64 x)) h
theorem bit_eq (B j : Nat) : (((B >>> j) % 2 : Nat) : Int) = 1 ↔ B.testBit j = true := by
  rw [Nat.testBit_eq_decide_div_mod_eq, Nat.shiftRight_eq_div_pow]; simp only [decide_eq_true_eq]; omega
theorem shl_u64 {j : Nat} (hj : j < 64) (eq : EqKind) : binA .shl eq (.int .u64 1) (i64 (j : Int)) = some (.int .u64 ((2 ^ j : Nat) : Int)) := by
  have h0 : ¬ ((j : Int) < 0) := by omega
  have e : min j 64 = j := by omega
  have hp : 2 ^ j < 2 ^ 64 := Nat.pow_lt_pow_right (by decide) hj
  simp only [binA, h0, if_false, Int.toNat_natCast, IntKind.bits, e, Int.one_mul]
  have : ((2 : Int) ^ j) = ((2 ^ j : Nat) : Int) := by simp
  have hc : ((2 ^ j : Nat) : Int) < 2 ^ 64 := by exact_mod_cast hp
  rw [this, wrap_u64 (Int.natCast_nonneg _) hc]
theorem or_bv {x y : Nat} (hx : x < 2 ^ 64) (hy : y < 2 ^ 64) : (BitVec.ofNat 64 x ||| BitVec.ofNat 64 y).toNat = x ||| y := by
  simp only [BitVec.toNat_or, BitVec.toNat_ofNat]
  rw [Nat.mod_eq_of_lt hx, Nat.mod_eq_of_lt hy]
theorem or_u64 {x y : Nat} (hx : x < 2 ^ 64) (hy : y < 2 ^ 64) (eq : EqKind) : binA .or eq (.int .u64 (x : Int)) (.int .u64 (y : Int)) = some (.int .u64 ((x ||| y : Nat) : Int)) := by
  have hlt := Nat.or_lt_two_pow hx hy
  have h : IntKind.u64.wrap (((BitVec.ofNat 64 x ||| BitVec.ofNat 64 y).toNat : Nat) : Int) = ((x ||| y : Nat) : Int) := by
    rw [or_bv hx hy, wrap_u64 (Int.natCast_nonneg _) (by exact_mod_cast hlt)]
  show some (AV.int .u64 (IntKind.u64.wrap (((BitVec.ofInt 64 (x : Int) ||| BitVec.ofInt 64 (y : Int)).toNat : Nat) : Int))) = _
  rw [show BitVec.ofInt 64 (x : Int) = BitVec.ofNat 64 x from ofInt_nat x, show BitVec.ofInt 64 (y : Int) = BitVec.ofNat 64 y from ofInt_nat y]
  exact congrArg (fun x => some (AV.int .u64 x)) h

/-! ### Names -/
/-! ### What is being made -/
end Go.Abs.Plan

set_option linter.unusedSimpArgs false
set_option linter.unusedVariables false
namespace Go.Abs.Plan
open Enc (Is)

def plN (ns : List ByteArray) (nm : ByteArray) : Nat := ns.findIdx (fun m => decide (nm = m))
theorem testBit_or {B j : Nat} (h : B.testBit j = true) : B ||| 2 ^ j = B := by
  apply Nat.eq_of_testBit_eq
  intro i
  rw [Nat.testBit_or, Nat.testBit_two_pow]
  by_cases e : j = i
  · subst e; simp [h]
  · simp [e]

end Go.Abs.Plan

set_option linter.unusedSimpArgs false
set_option linter.unusedVariables false
namespace Go.Abs.Plan
open Enc (Is)

end Go.Abs.Plan

set_option linter.unusedSimpArgs false
set_option linter.unusedVariables false
namespace Go.Abs.Plan
open Enc (Is)

end Go.Abs.Plan

set_option linter.unusedSimpArgs false
set_option linter.unusedVariables false
namespace Go.Abs.Plan
open Enc (Is)

end Go.Abs.Plan

set_option linter.unusedSimpArgs false
set_option linter.unusedVariables false
namespace Go.Abs.Plan
open Enc (Is)

end Go.Abs.Plan

set_option linter.unusedSimpArgs false
set_option linter.unusedVariables false
namespace Go.Abs.Plan
open Enc (Is)

def opOk (op : Int) : Prop := op = 1 ∨ op = 2 ∨ op = 3 ∨ op = 4 ∨ op = 5 ∨ op = 6
instance (op : Int) : Decidable (opOk op) := by unfold opOk; exact inferInstance

theorem compare0 : runPure (callK tbl 30) (lpK 30) a_value_Compare [zeroVal.enc, zeroVal.enc] = some (i64 0) := by kernel_rfl
theorem compare0_call (H : Heap) : callW tbl (.func f_value_Compare [] []) [zeroVal.enc, zeroVal.enc] H = some (i64 0, H) := callP_closed rfl rfl rfl rfl (runPure_closed compare0) H

set_option maxHeartbeats 1000000 in
theorem holds0_run (op : Int) : ∃ r, runPure (callW tbl) loopW a_value_Holds [i64 op, zeroVal.enc, zeroVal.enc] = some r ∧ ∃ b, r = .tuple [.bool b, i64 (if opOk op then 0 else 1)] := by
  have hc := fun H => compare0_call H
  simp only [Val.enc, zeroVal] at hc
  refine pureK a_value_Holds rfl (fun F hF => ?_)
  by_cases h2 : op = 2
  · subst h2; simp [a_value_Holds, c_value_Holds, AV.rowok, zeroVal, hc]; exact hF _ _ _ (reify_plain rfl) ⟨_, rfl⟩
  by_cases h5 : op = 5
  · subst h5; simp [a_value_Holds, c_value_Holds, AV.rowok, zeroVal, hc]; exact hF _ _ _ (reify_plain rfl) ⟨_, rfl⟩
  by_cases h6 : op = 6
  · subst h6; simp [a_value_Holds, c_value_Holds, AV.rowok, zeroVal, hc]; exact hF _ _ _ (reify_plain rfl) ⟨_, rfl⟩
  by_cases h4 : op = 4
  · subst h4; simp [a_value_Holds, c_value_Holds, AV.rowok, zeroVal, hc]; exact hF _ _ _ (reify_plain rfl) ⟨_, rfl⟩
  by_cases h1 : op = 1
  · subst h1; simp [a_value_Holds, c_value_Holds, AV.rowok, zeroVal, hc]; exact hF _ _ _ (reify_plain rfl) ⟨_, rfl⟩
  by_cases h3 : op = 3
  · subst h3; simp [a_value_Holds, c_value_Holds, AV.rowok, zeroVal, hc]; exact hF _ _ _ (reify_plain rfl) ⟨_, rfl⟩
  · simp [a_value_Holds, c_value_Holds, AV.rowok, zeroVal, hc, h1, h2, h3, h4, h5, h6]
    exact hF _ _ _ (reify_plain rfl) ⟨false, by simp [opOk, h1, h2, h3, h4, h5, h6]⟩

theorem holds0_call (op : Int) (H : Heap) : ∃ b, callW tbl (.func f_value_Holds [] []) [i64 op, zeroVal.enc, zeroVal.enc] H = some (.tuple [.bool b, i64 (if opOk op then 0 else 1)], H) := by
  obtain ⟨r, h, b, rfl⟩ := holds0_run op
  exact ⟨b, callP_closed rfl rfl rfl rfl h H⟩

/-! ### clean -/
end Go.Abs.Plan

set_option linter.unusedSimpArgs false
set_option linter.unusedVariables false
namespace Go.Abs.Plan
open Enc (Is)

theorem buildA_nil {cs : List AV} : buildA cs [] = some (.agg cs) := rfl
theorem buildA_cons {cs : List AV} {off sz : Nat} {v : AV} {r : List (Nat × Nat × AV)} : buildA cs ((off, sz, v) :: r) = if v.rowok sz = true ∧ off + sz ≤ cs.length then buildA (splice cs off v.cells) r else none := rfl

end Go.Abs.Plan

set_option linter.unusedSimpArgs false
set_option linter.unusedVariables false
namespace Go.Abs.Plan
open Enc (Is)

end Go.Abs.Plan

set_option linter.unusedSimpArgs false
set_option linter.unusedVariables false
namespace Go.Abs.Plan
open Enc (Is)

def cntT (ns : List ByteArray) (B : Nat) (t : Term) : Bool := t.kind == 2 || (t.kind == 1 && B.testBit (plN ns t.name))
def cnt (ns : List ByteArray) (B : Nat) (ts : List Term) : Nat := (ts.filter (cntT ns B)).length
end Go.Abs.Plan

set_option linter.unusedSimpArgs false
set_option linter.unusedVariables false
namespace Go.Abs.Plan
open Enc (Is)

theorem unders_append {n : Nat} (a b : List AV) : AV.unders n (a ++ b) = (AV.unders n a && AV.unders n b) := by
  induction a with
  | nil => simp [AV.unders]
  | cons x a ih => simp [AV.unders, ih, Bool.and_assoc]

end Go.Abs.Plan

set_option linter.unusedSimpArgs false
set_option linter.unusedVariables false
namespace Go.Abs.Plan
open Enc (Is)

end Go.Abs.Plan

set_option linter.unusedSimpArgs false
set_option linter.unusedVariables false
namespace Go.Abs.Plan
open Enc (Is)

end Go.Abs.Plan

set_option linter.unusedSimpArgs false
set_option linter.unusedVariables false
namespace Go.Abs.Plan
open Enc (Is)

end Go.Abs.Plan

set_option linter.unusedSimpArgs false
set_option linter.unusedVariables false
namespace Go.Abs
open Enc (Is)
variable {call : CallF} {lp : LoopF}
end Go.Abs
namespace Go.Abs.Plan
open Enc (Is)

end Go.Abs.Plan

set_option linter.unusedSimpArgs false
set_option linter.unusedVariables false
namespace Go.Abs.Plan
open Enc (Is)

/-- A column that is right where B is bound; what is bound behind it. 'w': may it bind? 'sk': may it stand for anything? -/
def okCol (n B : Nat) (w sk : Bool) (c : Col) : Option Nat :=
  if c.use = 1 then (if c.var = 0 then some B else none)
  else if c.use = 2 then (if sk = true ∧ c.var = 0 ∧ c.v = zeroVal then some B else none)
  else if c.use = 3 then (if c.v = zeroVal ∧ 0 ≤ c.var ∧ c.var.toNat < n ∧ w = true ∧ B.testBit c.var.toNat = false then some (B ||| 2 ^ c.var.toNat) else none)
  else if c.use = 4 then (if c.v = zeroVal ∧ 0 ≤ c.var ∧ c.var.toNat < n ∧ B.testBit c.var.toNat = true then some B else none)
  else none

def bitsOf (n B : Nat) : List AV := (List.range n).map fun i => .bool (B.testBit i)
theorem bitsOf_len (n B : Nat) : (bitsOf n B).length = n := by simp [bitsOf]
theorem bitsOf_set {n B j : Nat} (h : j < n) : (bitsOf n B).set j (.bool true) = bitsOf n (B ||| 2 ^ j) := by
  apply List.ext_getElem
  · simp [bitsOf]
  · intro i h1 h2
    simp only [bitsOf, List.getElem_set, List.getElem_map, List.getElem_range, Nat.testBit_or, Nat.testBit_two_pow]
    by_cases e : j = i
    · subst e; simp
    · simp [e]
def toldBlk (g n B : Nat) : Blk := .arr g 1 (bitsOf n B)
def askBlk (g n B : Nat) : Blk := .arr g 2 [.agg [i64 n, .int .u64 B]]

theorem refcol_ok (g b n B B' : Nat) (H : Heap) (c : Col) (w : Bool) (hb : H[b]? = some (toldBlk g n B)) (hn : n ≤ 64) (h : okCol n B w true c = some B') :
    callW tbl (.func f_ref18_col [] []) [c.enc, .sl b g 0 n, .bool w] H = some (.bool true, H.set b (toldBlk g n B')) := by
  have hlt := lt_of hb
  have hh := hat_of hb
  refine callB a_ref18_col rfl rfl rfl (fun F hF => ?_)
  obtain ⟨use, var, val⟩ := c
  unfold okCol at h
  simp only at h
  by_cases h1 : use = 1
  · subst h1
    simp at h
    obtain ⟨rfl, rfl⟩ := h
    simp [a_ref18_col, c_ref18_col, AV.rowok, buildA_nil]
    refine hF _ _ ?_
    rw [show (a_ref18_col.frz) = false from rfl, close_same rfl, set_same hb]
  by_cases h2 : use = 2
  · subst h2
    simp at h
    obtain ⟨⟨rfl, rfl⟩, rfl⟩ := h
    simp [a_ref18_col, c_ref18_col, AV.rowok, buildA_nil, zeroVal]
    refine hF _ _ ?_
    rw [show (a_ref18_col.frz) = false from rfl, close_same rfl, set_same hb]
  by_cases h3 : use = 3
  · subst h3
    simp at h
    obtain ⟨⟨rfl, hv0, hvn, rfl, hbit⟩, rfl⟩ := h
    obtain ⟨j, rfl⟩ : ∃ j : Nat, var = (j : Int) := ⟨var.toNat, by omega⟩
    simp only [Int.toNat_natCast] at hvn hbit
    have hneg : ¬ (j : Int) < 0 := by omega
    have hge : ¬ (n : Int) ≤ (j : Int) := by omega
    have hbs := bitsOf_set (B := B) hvn
    have hbl := bitsOf_len n B
    have hbg : (bitsOf n B)[j] = .bool (B.testBit j) := by simp [bitsOf]
    simp [a_ref18_col, c_ref18_col, AV.rowok, buildA_nil, zeroVal, hh, toldBlk, hneg, hge, hvn, hlt, hbl, hbg, hbit, putCells]
    refine hF _ _ ?_
    rw [show (a_ref18_col.frz) = false from rfl, close_same (by simp), hbs]; rfl
  by_cases h4 : use = 4
  · subst h4
    simp at h
    obtain ⟨⟨rfl, hv0, hvn, hbit⟩, rfl⟩ := h
    obtain ⟨j, rfl⟩ : ∃ j : Nat, var = (j : Int) := ⟨var.toNat, by omega⟩
    simp only [Int.toNat_natCast] at hvn hbit
    have hlt' : (j : Int) < n := by omega
    have hbl := bitsOf_len n B
    have hbg : (bitsOf n B)[j]'(by omega) = .bool (B.testBit j) := by simp [bitsOf]
    simp [a_ref18_col, c_ref18_col, AV.rowok, buildA_nil, zeroVal, hh, toldBlk, hlt', hvn, hlt, hbl, hbg, hbit, putCells]
    refine hF _ _ ?_
    rw [show (a_ref18_col.frz) = false from rfl, close_same rfl, set_same hb]
  · simp [h1, h2, h3, h4] at h

theorem askcol_ok (g b n B B' : Nat) (H : Heap) (c : Col) (w sk : Bool) (hb : H[b]? = some (askBlk g n B)) (hn : n ≤ 64) (hB : B < 2 ^ 64) (h : okCol n B w sk c = some B') :
    callW tbl (.func f_plan_asking_col [] []) [.ptr b g 0 0, c.enc, .bool w, .bool sk] H = some (.bool true, H.set b (askBlk g n B')) := by
  have hlt := lt_of hb
  have hh := hat_of hb
  refine callB a_plan_asking_col rfl rfl rfl (fun F hF => ?_)
  obtain ⟨use, var, val⟩ := c
  unfold okCol at h
  simp only at h
  by_cases h1 : use = 1
  · subst h1
    simp at h
    obtain ⟨rfl, rfl⟩ := h
    simp [a_plan_asking_col, c_plan_asking_col, AV.rowok, buildA_nil]
    refine hF _ _ ?_
    rw [show (a_plan_asking_col.frz) = false from rfl, close_same rfl, set_same hb]
  by_cases h2 : use = 2
  · subst h2
    simp at h
    obtain ⟨⟨rfl, rfl, rfl⟩, rfl⟩ := h
    simp [a_plan_asking_col, c_plan_asking_col, AV.rowok, buildA_nil, zeroVal]
    refine hF _ _ ?_
    rw [show (a_plan_asking_col.frz) = false from rfl, close_same rfl, set_same hb]
  by_cases h3 : use = 3
  · subst h3
    simp at h
    obtain ⟨⟨rfl, hv0, hvn, rfl, hbit⟩, rfl⟩ := h
    obtain ⟨j, rfl⟩ : ∃ j : Nat, var = (j : Int) := ⟨var.toNat, by omega⟩
    simp only [Int.toNat_natCast] at hvn hbit ⊢
    have hneg : ¬ (j : Int) < 0 := by omega
    have hge : ¬ (n : Int) ≤ (j : Int) := by omega
    have hs := shr_u64 (B := B) (j := j) (by omega) .no
    have ha := and1_u64 (n := B >>> j) (by rw [Nat.shiftRight_eq_div_pow]; exact Nat.lt_of_le_of_lt (Nat.div_le_self ..) hB) .no
    have ht := bit_eq B j
    have hpow : 2 ^ j < 2 ^ 64 := Nat.pow_lt_pow_right (by decide) (by omega)
    have hsl := shl_u64 (j := j) (by omega) .no
    have ho := or_u64 hB hpow .no
    generalize (B >>> j) % 2 = q at ha ht
    generalize B >>> j = p at hs ha
    have he : binA .eql .no (.int .u64 (q : Int)) (.int .u64 1) = some (.bool false) := by
      have : ¬ (q : Int) = 1 := by simp [hbit] at ht; omega
      simp [this]
    generalize hq : 2 ^ j = qq at hsl ho
    generalize ho' : B ||| qq = r at ho
    simp [a_plan_asking_col, c_plan_asking_col, AV.rowok, buildA_nil, zeroVal, hh, askBlk, hneg, hge, hlt, hs, ha, he, hsl, ho, splice, putCells]
    refine hF _ _ ?_
    rw [show (a_plan_asking_col.frz) = false from rfl, close_same (by simp), ← ho', ← hq]; rfl
  by_cases h4 : use = 4
  · subst h4
    simp at h
    obtain ⟨⟨rfl, hv0, hvn, hbit⟩, rfl⟩ := h
    obtain ⟨j, rfl⟩ : ∃ j : Nat, var = (j : Int) := ⟨var.toNat, by omega⟩
    simp only [Int.toNat_natCast] at hvn hbit
    have hneg : ¬ (j : Int) < 0 := by omega
    have hge : ¬ (n : Int) ≤ (j : Int) := by omega
    have hs := shr_u64 (B := B) (j := j) (by omega) .no
    have ha := and1_u64 (n := B >>> j) (by rw [Nat.shiftRight_eq_div_pow]; exact Nat.lt_of_le_of_lt (Nat.div_le_self ..) hB) .no
    have ht := bit_eq B j
    generalize (B >>> j) % 2 = q at ha ht
    generalize B >>> j = p at hs ha
    have he : binA .eql .no (.int .u64 (q : Int)) (.int .u64 1) = some (.bool true) := by
      have : (q : Int) = 1 := by simp [hbit] at ht; omega
      simp [this]
    simp [a_plan_asking_col, c_plan_asking_col, AV.rowok, buildA_nil, zeroVal, hh, askBlk, hneg, hge, hlt, hs, ha, he, splice, putCells]
    refine hF _ _ ?_
    rw [show (a_plan_asking_col.frz) = false from rfl, close_same rfl]
    exact congrArg (Prod.mk _) (set_same hb).symm
  · simp [h1, h2, h3, h4] at h

def okCols (n : Nat) (w sk : Bool) : Nat → List Col → Option Nat
  | B, [] => some B
  | B, c :: cs => match okCol n B w sk c with
    | some B' => okCols n w sk B' cs
    | none => none
theorem okCol_lt {n B B' : Nat} {w sk : Bool} {c : Col} (hn : n ≤ 64) (hB : B < 2 ^ 64) (h : okCol n B w sk c = some B') : B' < 2 ^ 64 := by
  unfold okCol at h
  repeat' split at h
  all_goals first
    | (simp only [Option.some.injEq] at h; subst h; exact hB)
    | (simp only [Option.some.injEq] at h; subst h; rename_i hc; exact Nat.or_lt_two_pow hB (Nat.pow_lt_pow_right (by decide) (by omega)))
    | simp at h
theorem okCols_snoc {n : Nat} {w sk : Bool} : ∀ {cs : List Col} {B : Nat} {c : Col}, okCols n w sk B (cs ++ [c]) = (okCols n w sk B cs).bind fun B' => okCol n B' w sk c
  | [], B, c => by simp [okCols]; cases okCol n B w sk c <;> rfl
  | x :: cs, B, c => by
    simp only [List.cons_append, okCols]
    cases okCol n B w sk x with
    | none => rfl
    | some B' => exact okCols_snoc
theorem okCols_take {n : Nat} {w sk : Bool} {cs : List Col} {B B' : Nat} (h : okCols n w sk B cs = some B') : ∀ j, ∃ B1, okCols n w sk B (cs.take j) = some B1 := by
  intro j
  induction cs generalizing B j with
  | nil => exact ⟨B, by simp [okCols]⟩
  | cons c cs ih =>
    simp only [okCols] at h
    split at h
    · rename_i B2 h2
      cases j with
      | zero => exact ⟨B, rfl⟩
      | succ j =>
        obtain ⟨B1, h1⟩ := ih h j
        exact ⟨B1, by simp only [List.take_succ_cons, okCols, h2]; exact h1⟩
    · simp at h
theorem okCols_lt {n : Nat} {w sk : Bool} (hn : n ≤ 64) : ∀ {cs : List Col} {B B' : Nat}, B < 2 ^ 64 → okCols n w sk B cs = some B' → B' < 2 ^ 64
  | [], B, B', hB, h => by simp [okCols] at h; omega
  | c :: cs, B, B', hB, h => by
    simp only [okCols] at h
    split at h
    · rename_i B2 h2; exact okCols_lt hn (okCol_lt hn hB h2) h
    · simp at h

/-- A step that is right where B is bound. -/
def okStep (n B : Nat) (first : Bool) (s : Step) : Option Nat :=
  if s.op = 3 then (if s.pred = ⟨#[]⟩ ∧ s.cols = [] ∧ s.old = false ∧ 1 ≤ s.cmp ∧ s.cmp ≤ 6 then (match okCol n B false false s.a with
    | some B1 => okCol n B1 false false s.b
    | none => none) else none)
  else if (s.op = 1 ∨ s.op = 2 ∨ (s.op = 4 ∧ first = true ∧ s.old = false)) ∧ s.cmp = 0 ∧ s.a = zeroCol ∧ s.b = zeroCol ∧ s.cols.length ≤ 8 then okCols n (decide (s.op ≠ 2)) true B s.cols
  else none
end Go.Abs.Plan

set_option linter.unusedSimpArgs false
set_option linter.unusedVariables false
namespace Go.Abs.Plan
open Enc (Is)

theorem okCol_sk {n B B' : Nat} {w : Bool} {c : Col} (h : okCol n B w false c = some B') : okCol n B w true c = some B' ∧ c.use ≠ 2 := by
  unfold okCol at h ⊢
  by_cases h2 : c.use = 2
  · simp [h2] at h
  · simp only [h2, if_false] at h ⊢; exact ⟨h, h2⟩
theorem okCol_same {n B B' : Nat} {sk : Bool} {c : Col} (h : okCol n B false sk c = some B') : B' = B := by
  unfold okCol at h
  repeat' split at h
  all_goals first
    | (simp only [Option.some.injEq] at h; exact h.symm)
    | (simp at h; done)
    | (rename_i hc; simp at hc)

theorem told_ok (g b n B B' : Nat) (H : Heap) (c : Col) (hb : H[b]? = some (toldBlk g n B)) (hn : n ≤ 64) (h : okCol n B false false c = some B') :
    callW tbl (.func f_ref18_told [] []) [c.enc, .sl b g 0 n] H = some (.bool true, H) := by
  have hs := okCol_same h
  subst hs
  obtain ⟨h1, h2⟩ := okCol_sk h
  have hcol := refcol_ok g b n B' B' H c false hb hn h1
  rw [set_same hb] at hcol
  have c2 : (c.use != 2) = true := by simpa using h2
  refine callB a_ref18_told rfl rfl rfl (fun F hF => ?_)
  simp only [Col.enc] at hcol
  simp [a_ref18_told, c_ref18_told, AV.rowok, c2, hcol]
  refine hF _ _ ?_
  rw [show (a_ref18_told.frz) = false from rfl, close_same rfl]

theorem refstep_loop (g b n B B' : Nat) (H : Heap) (st : Step) (cv : AV) (w : Bool) (hcv : Is cv st.cols) (hb : H[b]? = some (toldBlk g n B)) (hn : n ≤ 64) (hl : st.cols.length ≤ 8) (hw : (st.op != 2) = w) (h : okCols n w true B st.cols = some B') (s : St) (ks : List KF) (R : AExit → St → Prop)
    (e1 : s.heap = H) (e2 : s.dfr = []) (e3 : s.tm.get 2 = .sl b g 0 n) (e4 : s.tm.get 3 = .fptr false (st.encW cv).cells 0) (e5 : s.tm.get 8 = i64 0)
    (hexit : ∀ s' : St, s'.heap = H.set b (toldBlk g n B') → s'.dfr = [] → KONT (callW tbl) loopW ks (.exit 1) s' R) :
    EXEC (callW tbl) loopW (.loop c_ref18_step_l0) ks s R := by
  have hc := isl_cell hcv
  have hln := IsL.len hcv
  refine EXEC_loop_inv (fun k s => ∃ (j B1 : Nat), j + k = st.cols.length ∧ okCols n w true B (st.cols.take j) = some B1 ∧ s.heap = H.set b (toldBlk g n B1) ∧ s.dfr = [] ∧ s.tm.get 2 = .sl b g 0 n ∧ s.tm.get 3 = .fptr false (st.encW cv).cells 0 ∧ s.tm.get 8 = i64 j) st.cols.length
    ⟨0, B, by simp, by simp [okCols], by rw [e1, set_same hb], e2, e3, e4, e5⟩ ?_
  rintro k s Q ⟨j, B1, h0, h1, h2, h3, h4, h5, h6⟩ hn' hx
  simp only [AV.cells] at h5
  by_cases hj : j < st.cols.length
  · have hj' : (j : Int) < st.cols.length := by omega
    have hg : st.cols[j]? = some st.cols[j] := by simp [hj]
    obtain ⟨fl', lv, rfl, hidx⟩ := IsL.idx hcv hg
    simp only [show Enc.sz Col = 5 from rfl] at hidx
    have htk : st.cols.take (j + 1) = st.cols.take j ++ [st.cols[j]] := by rw [List.take_add_one, hg]; rfl
    obtain ⟨B2, hB2⟩ := okCols_take h (j + 1)
    rw [htk, okCols_snoc, h1, Option.bind_some] at hB2
    have hb1 : s.heap[b]? = some (toldBlk g n B1) := by rw [h2]; simp [lt_of hb]
    have hcol := refcol_ok g b n B1 B2 s.heap st.cols[j] w hb1 hn hB2
    simp only [Col.enc] at hcol
    simp [c_ref18_step_l0, h4, h5, h6, hln, hj', hidx, AV.rowok, hc, hw, hcol]
    have hwr : IntKind.i64.wrap ((j : Int) + 1) = ((j + 1 : Nat) : Int) := by rw [wrap_i64 (by omega) (by omega)]; push_cast; rfl
    rw [hwr]
    refine hn' _ (k - 1) (by omega) ⟨j + 1, B2, by omega, by rw [htk, okCols_snoc, h1, Option.bind_some]; exact hB2, by simp [h2], h3, by simp [h4], by simp [h5], by simp⟩
  · have hj' : ¬ (j : Int) < st.cols.length := by omega
    simp [c_ref18_step_l0, h4, h5, h6, hln, hj', AV.rowok, hc]
    rw [List.take_of_length_le (by omega)] at h1
    have : B1 = B' := by rw [h1] at h; simpa using h
    subst this
    exact hx _ _ (by simp) (hexit _ h2 h3)

theorem refstep_ok (g b n B B' : Nat) (H : Heap) (first : Bool) (s : Step) (sv : AV) (hs : Is sv s) (hb : H[b]? = some (toldBlk g n B)) (hn : n ≤ 64) (h : okStep n B first s = some B') :
    callW tbl (.func f_ref18_step [] []) [sv, .bool first, .sl b g 0 n] H = some (.bool true, H.set b (toldBlk g n B')) := by
  obtain ⟨cv, hcv, rfl⟩ := hs
  have hc := isl_cell hcv
  have hln := IsL.len hcv
  refine callB a_ref18_step rfl rfl rfl (fun F hF => ?_)
  unfold okStep at h
  by_cases h3 : s.op = 3
  · rw [if_pos h3] at h
    split at h
    · rename_i hh
      obtain ⟨hp, hcs, ho, hlo, hhi⟩ := hh
      split at h
      · rename_i B1 hB1
        have e1 := okCol_same hB1
        subst e1
        have e2 := okCol_same h
        subst e2
        have t1 := told_ok g b n B' B' H s.a hb hn hB1
        have t2 := told_ok g b n B' B' H s.b hb hn h
        simp only [Col.enc] at t1 t2
        rw [hcs] at hln
        simp only [List.length_nil] at hln
        simp [a_ref18_step, c_ref18_step, AV.rowok, hc, h3, hp, ho, hln, hlo, hhi, t1, t2, buildA_nil]
        refine hF _ _ ?_
        rw [show (a_ref18_step.frz) = false from rfl, close_same rfl, set_same hb]
      · simp at h
    · simp at h
  · rw [if_neg h3] at h
    split at h
    · rename_i hh
      obtain ⟨hop, hcmp, ha, hb0, h8⟩ := hh
      have h8' : ¬ (8 : Int) < s.cols.length := by omega
      have c3 : (s.op == 3) = false := by simp [h3]
      have hexit : ∀ s' : St, s'.heap = H.set b (toldBlk g n B') → s'.dfr = [] → ∀ ks, KONT (callW tbl) loopW ([KF.block 1, KF.seq ((ACode.region [{ dst := some 6, keep := true, op := AOp.move (AOperand.const (AV.bool true)), guard := none }]).seq ACode.ret), KF.block 0, KF.seq ks]) (.exit 1) s' (FINQ [AResult.tmp 6] F) := by
        intro s' g1 g2 ks
        simp [g1, g2]
        refine hF _ _ ?_
        rw [show (a_ref18_step.frz) = false from rfl, close_same (by simp)]
      rcases hop with hop | hop | ⟨hop, hf, ho⟩
      · simp [a_ref18_step, c_ref18_step, AV.rowok, hc, hop, hcmp, ha, hb0, hln, h8', buildA_nil, zeroCol, zeroVal]
        refine refstep_loop g b n B B' H s cv (decide (s.op ≠ 2)) hcv hb hn h8 (by simp [hop]) h _ _ _ rfl rfl (by simp) (by simp [hop, hcmp, ha, hb0, zeroCol, zeroVal]) (by simp) (fun s' g1 g2 => hexit s' g1 g2 _)
      · simp [a_ref18_step, c_ref18_step, AV.rowok, hc, hop, hcmp, ha, hb0, hln, h8', buildA_nil, zeroCol, zeroVal]
        refine refstep_loop g b n B B' H s cv (decide (s.op ≠ 2)) hcv hb hn h8 (by simp [hop]) h _ _ _ rfl rfl (by simp) (by simp [hop, hcmp, ha, hb0, zeroCol, zeroVal]) (by simp) (fun s' g1 g2 => hexit s' g1 g2 _)
      · simp [a_ref18_step, c_ref18_step, AV.rowok, hc, hop, hf, ho, hcmp, ha, hb0, hln, h8', buildA_nil, zeroCol, zeroVal]
        refine refstep_loop g b n B B' H s cv (decide (s.op ≠ 2)) hcv hb hn h8 (by simp [hop]) h _ _ _ rfl rfl (by simp) (by simp [hop, ho, hcmp, ha, hb0, zeroCol, zeroVal]) (by simp) (fun s' g1 g2 => hexit s' g1 g2 _)
    · simp at h
end Go.Abs.Plan

set_option linter.unusedSimpArgs false
set_option linter.unusedVariables false
namespace Go.Abs.Plan
open Enc (Is)

theorem askstep_loop (g b n B B' : Nat) (H : Heap) (st : Step) (cv : AV) (w : Bool) (hcv : Is cv st.cols) (hb : H[b]? = some (askBlk g n B)) (hn : n ≤ 64) (hB : B < 2 ^ 64) (hl : st.cols.length ≤ 8) (hw : (st.op != 2) = w) (h : okCols n w true B st.cols = some B') (s : St) (ks : List KF) (R : AExit → St → Prop)
    (e1 : s.heap = H) (e2 : s.dfr = []) (e3 : s.tm.get 0 = .ptr b g 0 0) (e4 : s.tm.get 4 = .fptr false (st.encW cv).cells 0) (e5 : s.tm.get 103 = cv) (e6 : s.tm.get 104 = i64 st.cols.length) (e7 : s.tm.get 105 = i64 0)
    (hexit : ∀ s' : St, s'.heap = H.set b (askBlk g n B') → s'.dfr = [] → KONT (callW tbl) loopW ks (.exit 0) s' R) :
    EXEC (callW tbl) loopW (.loop c_plan_asking_step_l0) ks s R := by
  have hc := isl_cell hcv
  have hln := IsL.len hcv
  refine EXEC_range st.cols.length (fun j s => ∃ (B1 : Nat), okCols n w true B (st.cols.take j) = some B1 ∧ s.heap = H.set b (askBlk g n B1) ∧ s.dfr = [] ∧ s.tm.get 0 = .ptr b g 0 0 ∧ s.tm.get 4 = .fptr false (st.encW cv).cells 0 ∧ s.tm.get 103 = cv ∧ s.tm.get 104 = i64 st.cols.length ∧ s.tm.get 105 = i64 j)
    0 (by omega) ⟨B, by simp [okCols], by simp [e1, set_same hb], by simp [e2], by simp [e3], by simp [e4], by simp [e5], by simp [e6], by simp [e7]⟩ (by omega) (by simp; grind) ?_ ?_
  · rintro j s' Q hj ⟨B1, h1, h2, h3, h4, h5, h6, h7, h8⟩ hn' hx
    simp only [AV.cells] at h5
    have hg : st.cols[j]? = some st.cols[j] := by simp [hj]
    obtain ⟨fl', lv, rfl, hidx⟩ := IsL.idx hcv hg
    simp only [show Enc.sz Col = 5 from rfl] at hidx
    have htk : st.cols.take (j + 1) = st.cols.take j ++ [st.cols[j]] := by rw [List.take_add_one, hg]; rfl
    obtain ⟨B2, hB2⟩ := okCols_take h (j + 1)
    rw [htk, okCols_snoc, h1, Option.bind_some] at hB2
    have hb1 : s'.heap[b]? = some (askBlk g n B1) := by rw [h2]; simp [lt_of hb]
    have hcol := askcol_ok g b n B1 B2 s'.heap st.cols[j] w true hb1 hn (okCols_lt hn hB h1) hB2
    simp only [Col.enc] at hcol
    simp [h4, h5, h6, h8, hln, hidx, AV.rowok, hc, hw, hcol]
    refine hn' _ _ (.inl rfl) (by simp [h8]) ⟨B2, by rw [htk, okCols_snoc, h1, Option.bind_some]; exact hB2, by simp [h2], h3, by simp [h4], by simp [h5], by simp [h6], by simp [h7], by simp⟩
  · rintro s' ⟨B1, h1, h2, h3, h4, h5, h6, h7, h8⟩
    rw [List.take_of_length_le (by omega)] at h1
    have : B1 = B' := by rw [h1] at h; simpa using h
    subst this
    exact hexit _ h2 h3

theorem askstep_ok (g b n B B' : Nat) (H : Heap) (first : Bool) (s : Step) (sv : AV) (hs : Is sv s) (hb : H[b]? = some (askBlk g n B)) (hn : n ≤ 64) (hB : B < 2 ^ 64) (h : okStep n B first s = some B') :
    callW tbl (.func f_plan_asking_step [] []) [.ptr b g 0 0, sv, .bool first] H = some (.bool true, H.set b (askBlk g n B')) := by
  obtain ⟨cv, hcv, rfl⟩ := hs
  have hc := isl_cell hcv
  have hln := IsL.len hcv
  refine callB a_plan_asking_step rfl rfl rfl (fun F hF => ?_)
  unfold okStep at h
  by_cases h3 : s.op = 3
  · rw [if_pos h3] at h
    split at h
    · rename_i hh
      obtain ⟨hp, hcs, ho, hlo, hhi⟩ := hh
      split at h
      · rename_i B1 hB1
        have e1 := okCol_same hB1
        subst e1
        have e2 := okCol_same h
        subst e2
        have t1 := askcol_ok g b n B' B' H s.a false false hb hn hB hB1
        have t2 := askcol_ok g b n B' B' H s.b false false hb hn hB h
        rw [set_same hb] at t1 t2
        simp only [Col.enc] at t1 t2
        rw [hcs] at hln
        simp only [List.length_nil] at hln
        have hop : opOk s.cmp := by unfold opOk; omega
        obtain ⟨hb0, hh⟩ := holds0_call s.cmp H
        simp only [Val.enc, zeroVal] at hh
        simp [a_plan_asking_step, c_plan_asking_step, AV.rowok, hc, h3, hp, ho, hln, hlo, hhi, t1, t2, buildA_nil, hh, hop]
        refine hF _ _ ?_
        rw [show (a_plan_asking_step.frz) = false from rfl, close_same rfl, set_same hb]
      · simp at h
    · simp at h
  · rw [if_neg h3] at h
    split at h
    · rename_i hh
      obtain ⟨hop, hcmp, ha, hb0, h8⟩ := hh
      have h8' : ¬ (8 : Int) < s.cols.length := by omega
      have hexit : ∀ s' : St, s'.heap = H.set b (askBlk g n B') → s'.dfr = [] → KONT (callW tbl) loopW ([KF.block 0, KF.seq ((ACode.region [{ dst := some 6, keep := true, op := AOp.move (AOperand.const (AV.bool true)), guard := none }]).seq ACode.ret)]) (.exit 0) s' (FINQ [AResult.tmp 6] F) := by
        intro s' g1 g2
        simp [g1, g2]
        refine hF _ _ ?_
        rw [show (a_plan_asking_step.frz) = false from rfl, close_same (by simp)]
      rcases hop with hop | hop | ⟨hop, hf, ho⟩
      · simp [a_plan_asking_step, c_plan_asking_step, AV.rowok, hc, hop, hcmp, ha, hb0, hln, h8', buildA_nil, zeroCol, zeroVal]
        refine askstep_loop g b n B B' H s cv (decide (s.op ≠ 2)) hcv hb hn hB h8 (by simp [hop]) h _ _ _ rfl rfl (by simp) (by simp [hop, hcmp, ha, hb0, zeroCol, zeroVal]) (by simp) (by simp) (by simp) (fun s' g1 g2 => hexit s' g1 g2)
      · simp [a_plan_asking_step, c_plan_asking_step, AV.rowok, hc, hop, hcmp, ha, hb0, hln, h8', buildA_nil, zeroCol, zeroVal]
        refine askstep_loop g b n B B' H s cv (decide (s.op ≠ 2)) hcv hb hn hB h8 (by simp [hop]) h _ _ _ rfl rfl (by simp) (by simp [hop, hcmp, ha, hb0, zeroCol, zeroVal]) (by simp) (by simp) (by simp) (fun s' g1 g2 => hexit s' g1 g2)
      · simp [a_plan_asking_step, c_plan_asking_step, AV.rowok, hc, hop, hf, ho, hcmp, ha, hb0, hln, h8', buildA_nil, zeroCol, zeroVal]
        refine askstep_loop g b n B B' H s cv (decide (s.op ≠ 2)) hcv hb hn hB h8 (by simp [hop]) h _ _ _ rfl rfl (by simp) (by simp [hop, ho, hcmp, ha, hb0, zeroCol, zeroVal]) (by simp) (by simp) (by simp) (fun s' g1 g2 => hexit s' g1 g2)
    · simp at h
end Go.Abs.Plan

set_option linter.unusedSimpArgs false
set_option linter.unusedVariables false
namespace Go.Abs.Plan
open Enc (Is)

def okSteps (n : Nat) : Bool → Nat → List Step → Option Nat
  | _, B, [] => some B
  | f, B, s :: ss => match okStep n B f s with
    | some B' => okSteps n false B' ss
    | none => none
theorem okSteps_snoc {n : Nat} : ∀ {ss : List Step} {f : Bool} {B : Nat} {s : Step}, okSteps n f B (ss ++ [s]) = (okSteps n f B ss).bind fun B' => okStep n B' (f && ss.isEmpty) s
  | [], f, B, s => by simp [okSteps]; cases okStep n B f s <;> rfl
  | x :: ss, f, B, s => by
    simp only [List.cons_append, okSteps]
    cases okStep n B f x with
    | none => rfl
    | some B' => simp [okSteps_snoc]
theorem okSteps_take {n : Nat} {ss : List Step} {f : Bool} {B B' : Nat} (h : okSteps n f B ss = some B') : ∀ j, ∃ B1, okSteps n f B (ss.take j) = some B1 := by
  intro j
  induction ss generalizing f B j with
  | nil => exact ⟨B, by simp [okSteps]⟩
  | cons c cs ih =>
    simp only [okSteps] at h
    split at h
    · rename_i B2 h2
      cases j with
      | zero => exact ⟨B, rfl⟩
      | succ j =>
        obtain ⟨B1, h1⟩ := ih h j
        exact ⟨B1, by simp only [List.take_succ_cons, okSteps, h2]; exact h1⟩
    · simp at h
theorem okStep_lt {n B B' : Nat} {f : Bool} {s : Step} (hn : n ≤ 64) (hB : B < 2 ^ 64) (h : okStep n B f s = some B') : B' < 2 ^ 64 := by
  unfold okStep at h
  split at h
  · split at h
    · split at h
      · rename_i B1 h1; exact okCol_lt hn (okCol_lt hn hB h1) h
      · simp at h
    · simp at h
  · split at h
    · exact okCols_lt hn hB h
    · simp at h
theorem okSteps_lt {n : Nat} (hn : n ≤ 64) : ∀ {ss : List Step} {f : Bool} {B B' : Nat}, B < 2 ^ 64 → okSteps n f B ss = some B' → B' < 2 ^ 64
  | [], f, B, B', hB, h => by simp [okSteps] at h; omega
  | c :: cs, f, B, B', hB, h => by
    simp only [okSteps] at h
    split at h
    · rename_i B2 h2; exact okSteps_lt hn (okStep_lt hn hB h2) h
    · simp at h
/-- A plan that is right. -/
structure OkPlan (p : Plan) : Prop where
  vars : p.vars.length ≤ 64
  head : p.head.length ≤ 8
  len : p.steps.length < 2 ^ 40
  ok : ∃ B B', okSteps p.vars.length true 0 p.steps = some B ∧ okCols p.vars.length false false B p.head = some B'

end Go.Abs.Plan

set_option linter.unusedSimpArgs false
set_option linter.unusedVariables false
namespace Go.Abs.Plan
open Enc (Is)

theorem bitsOf_zero (n : Nat) : bitsOf n 0 = List.replicate n (.bool false) := by
  apply List.ext_getElem
  · simp [bitsOf]
  · intro i h1 h2; simp [bitsOf]

end Go.Abs.Plan

set_option linter.unusedSimpArgs false
set_option linter.unusedVariables false
namespace Go.Abs.Plan
open Enc (Is)

end Go.Abs.Plan

set_option linter.unusedSimpArgs false
set_option linter.unusedVariables false
namespace Go.Abs.Plan
open Enc (Is)

def bound (ns : List ByteArray) (B : Nat) (t : Term) : Prop := t.kind = 1 → B.testBit (plN ns t.name) = true
/-! ### What is picked -/
end Go.Abs.Plan

set_option linter.unusedSimpArgs false
set_option linter.unusedVariables false
namespace Go.Abs.Plan
open Enc (Is)

end Go.Abs.Plan

set_option linter.unusedSimpArgs false
set_option linter.unusedVariables false
namespace Go.Abs
instance encInt : Enc Int where
  Is v x := v = i64 x
  lend := by rintro v x rfl; rfl
  plain := by rintro v x rfl; rfl
  sz := 1
  row := by rintro v x rfl; rfl
end Go.Abs
namespace Go.Abs.Plan
open Enc (Is)

end Go.Abs.Plan

set_option linter.unusedSimpArgs false
set_option linter.unusedVariables false
namespace Go.Abs.Plan
open Enc (Is)

end Go.Abs.Plan

set_option linter.unusedSimpArgs false
set_option linter.unusedVariables false
namespace Go.Abs.Plan
open Enc (Is)

end Go.Abs.Plan

set_option linter.unusedSimpArgs false
set_option linter.unusedVariables false
namespace Go.Abs.Plan
open Enc (Is)

end Go.Abs.Plan
namespace Go.Abs.Plan
open Enc (Is)

end Go.Abs.Plan

set_option linter.unusedSimpArgs false
set_option linter.unusedVariables false
namespace Go.Abs.Plan
open Enc (Is)

end Go.Abs.Plan

set_option linter.unusedSimpArgs false
set_option linter.unusedVariables false
namespace Go.Abs.Plan
open Enc (Is)

end Go.Abs.Plan

set_option linter.unusedSimpArgs false
set_option linter.unusedVariables false
namespace Go.Abs.Plan
open Enc (Is)

theorem okStep_cols {n B B' : Nat} {f : Bool} {s : Step} (h : okStep n B f s = some B') : s.cols.length ≤ 8 := by
  unfold okStep at h
  split at h
  · split at h
    · rename_i hh; rw [hh.2.1]; simp
    · simp at h
  · split at h
    · rename_i hh; exact hh.2.2.2.2
    · simp at h
end Go.Abs.Plan

