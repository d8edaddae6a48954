/- Plan: needs, in which order they stand; the sort at them. -/
import Derived.Test.YtnbilkoabogllaaKx
import Derived.Test.YtnbilkoabogllaaUx
set_option linter.unusedSimpArgs false
set_option linter.unusedVariables false
namespace Go.Abs
structure Need where
  pred : ByteArray
  cols : Nat
abbrev Need.enc (n : Need) : AV := .agg [.str n.pred, .int .u64 (n.cols : Int)]
instance : Enc Need where
  Is v x := v = x.enc
  lend := by rintro v x rfl; rfl
  plain := by rintro v x rfl; rfl
  sz := 2
  row := by rintro v x rfl; rfl
instance : Inhabited Need := ⟨⟨⟨#[]⟩, 0⟩⟩
end Go.Abs
namespace Go.Abs.Plan
open Enc (Is)
open Go.Sort (SWO)

theorem bytesLess_dec : ∀ (x y : List UInt8), Op.bytesLess x y = decide (x < y)
  | [], [] => by simp [Op.bytesLess]
  | _ :: _, [] => by simp [Op.bytesLess]
  | [], _ :: _ => by simp [Op.bytesLess]
  | a :: x, b :: y => by
    rw [Op.bytesLess, bytesLess_dec x y]
    simp only [List.cons_lt_cons_iff]
    by_cases h1 : a < b <;> by_cases h2 : a = b <;> by_cases h3 : x < y <;> simp [h1, h2, h3]
theorem binS_lss {e : EqKind} {x y : ByteArray} : binA .lss e (.str x) (.str y) = some (.bool (decide (x.toList < y.toList))) := by
  show some (AV.bool (Op.bytesLess x.toList y.toList)) = _
  rw [bytesLess_dec]
theorem binS_gtr {e : EqKind} {x y : ByteArray} : binA .gtr e (.str x) (.str y) = some (.bool (decide (y.toList < x.toList))) := by
  show some (AV.bool !(Op.bytesLess x.toList y.toList || x.toList == y.toList)) = _
  rw [bytesLess_dec]
  congr 2
  by_cases h1 : x.toList < y.toList
  · have : ¬ y.toList < x.toList := fun h => List.lt_irrefl _ (List.lt_trans h1 h)
    simp [h1, this]
  · by_cases h2 : x.toList = y.toList
    · simp [h2]
    · have h3 : y.toList < x.toList := by
        by_cases h : y.toList < x.toList
        · exact h
        · exact absurd (List.le_antisymm (List.not_lt.1 h) (List.not_lt.1 h1)) h2
      simp [h1, h2, h3]

def cmpS (x y : ByteArray) : Int := if x.toList < y.toList then -1 else if y.toList < x.toList then 1 else 0
def cmpU (x y : Nat) : Int := if x < y then -1 else if y < x then 1 else 0
def ncmp (a b : Need) : Int := if cmpS a.pred b.pred ≠ 0 then cmpS a.pred b.pred else cmpU a.cols b.cols

theorem isNaNS_call (x : ByteArray) (H : Heap) : callW tbl (.func f_cmp_isNaN_string [] []) [.str x] H = some (.bool false, H) := by
  obtain ⟨r, h1, rfl⟩ : ∃ r, runPure (callW tbl) loopW a_cmp_isNaN_string [.str x] = some r ∧ r = .bool false := by
    refine pureK a_cmp_isNaN_string rfl (fun F hF => ?_)
    simp [a_cmp_isNaN_string, c_cmp_isNaN_string]
    exact hF _ _ _ (reify_plain rfl) rfl
  exact Go.Abs.Sort.pureA (f := f_cmp_isNaN_string) (af := a_cmp_isNaN_string) rfl rfl rfl rfl h1 H
theorem isNaNU_call (x : Int) (H : Heap) : callW tbl (.func f_cmp_isNaN_uint64 [] []) [.int .u64 x] H = some (.bool false, H) := by
  obtain ⟨r, h1, rfl⟩ : ∃ r, runPure (callW tbl) loopW a_cmp_isNaN_uint64 [.int .u64 x] = some r ∧ r = .bool false := by
    refine pureK a_cmp_isNaN_uint64 rfl (fun F hF => ?_)
    simp [a_cmp_isNaN_uint64, c_cmp_isNaN_uint64]
    exact hF _ _ _ (reify_plain rfl) rfl
  exact Go.Abs.Sort.pureA (f := f_cmp_isNaN_uint64) (af := a_cmp_isNaN_uint64) rfl rfl rfl rfl h1 H
theorem cmpS_call (x y : ByteArray) (H : Heap) : callW tbl (.func f_cmp_Compare_string [] []) [.str x, .str y] H = some (i64 (cmpS x y), H) := by
  obtain ⟨r, h1, rfl⟩ : ∃ r, runPure (callW tbl) loopW a_cmp_Compare_string [.str x, .str y] = some r ∧ r = i64 (cmpS x y) := by
    refine pureK a_cmp_Compare_string rfl (fun F hF => ?_)
    have n1 := isNaNS_call x []
    have n2 := isNaNS_call y []
    unfold cmpS at hF
    by_cases k1 : x.toList < y.toList
    · rw [if_pos k1] at hF
      simp [a_cmp_Compare_string, c_cmp_Compare_string, n1, n2, binS_lss, binS_gtr, k1]
      exact hF _ _ _ (reify_plain rfl) rfl
    · rw [if_neg k1] at hF
      by_cases k2 : y.toList < x.toList
      · rw [if_pos k2] at hF
        simp [a_cmp_Compare_string, c_cmp_Compare_string, n1, n2, binS_lss, binS_gtr, k1, k2]
        exact hF _ _ _ (reify_plain rfl) rfl
      · rw [if_neg k2] at hF
        simp [a_cmp_Compare_string, c_cmp_Compare_string, n1, n2, binS_lss, binS_gtr, k1, k2]
        exact hF _ _ _ (reify_plain rfl) rfl
  exact Go.Abs.Sort.pureA (f := f_cmp_Compare_string) (af := a_cmp_Compare_string) rfl rfl rfl rfl h1 H
theorem cmpU_call (x y : Nat) (H : Heap) : callW tbl (.func f_cmp_Compare_uint64 [] []) [.int .u64 (x : Int), .int .u64 (y : Int)] H = some (i64 (cmpU x y), H) := by
  obtain ⟨r, h1, rfl⟩ : ∃ r, runPure (callW tbl) loopW a_cmp_Compare_uint64 [.int .u64 (x : Int), .int .u64 (y : Int)] = some r ∧ r = i64 (cmpU x y) := by
    refine pureK a_cmp_Compare_uint64 rfl (fun F hF => ?_)
    have n1 := isNaNU_call x []
    have n2 := isNaNU_call y []
    unfold cmpU at hF
    by_cases k1 : x < y
    · rw [if_pos k1] at hF
      have k1i : (x : Int) < (y : Int) := by omega
      simp [a_cmp_Compare_uint64, c_cmp_Compare_uint64, n1, n2, k1i]
      exact hF _ _ _ (reify_plain rfl) rfl
    · rw [if_neg k1] at hF
      have k1i : ¬ (x : Int) < (y : Int) := by omega
      by_cases k2 : y < x
      · rw [if_pos k2] at hF
        have k2i : (y : Int) < (x : Int) := by omega
        simp [a_cmp_Compare_uint64, c_cmp_Compare_uint64, n1, n2, k1i, k2i]
        exact hF _ _ _ (reify_plain rfl) rfl
      · rw [if_neg k2] at hF
        have k2i : ¬ (y : Int) < (x : Int) := by omega
        simp [a_cmp_Compare_uint64, c_cmp_Compare_uint64, n1, n2, k1i, k2i]
        exact hF _ _ _ (reify_plain rfl) rfl
  exact Go.Abs.Sort.pureA (f := f_cmp_Compare_uint64) (af := a_cmp_Compare_uint64) rfl rfl rfl rfl h1 H

theorem or_run (v : AV) (a b : Int) (h : Is v [a, b]) : ∃ w, runPure (callW tbl) loopW a_cmp_Or_int [v] = some w ∧ w = i64 (if a ≠ 0 then a else b) ∧ w.unlent = true := by
  have hln := IsL.len h
  have hc := isl_cell h
  have g0 : [a, b][0]? = some a := rfl
  have g1 : [a, b][1]? = some b := rfl
  obtain ⟨f0, r0, rfl, i0⟩ := IsL.idx h g0
  obtain ⟨f1, r1, rfl, i1⟩ := IsL.idx h g1
  simp only [show Enc.sz Int = 1 from rfl] at i0 i1
  have e0 : idxA 1 v (.int .i64 0) = _ := i0
  have e1 : idxA 1 v (.int .i64 1) = _ := i1
  refine pureK a_cmp_Or_int rfl (fun F hF => ?_)
  have hln2 : lenA v = .val (.int .i64 2) := hln
  have w1 : IntKind.i64.wrap (0 + 1) = 1 := by decide
  have w2 : IntKind.i64.wrap (1 + 1) = 2 := by decide
  simp [a_cmp_Or_int, c_cmp_Or_int, hln2]
  refine EXEC_loop_inv (fun k s => ∃ j : Nat, j + k = 2 ∧ (0 < j → a = 0) ∧ (1 < j → b = 0) ∧ s.heap = [] ∧ s.dfr = [] ∧ s.tm.get 3 = .int .i64 0 ∧ s.tm.get 6 = v ∧ s.tm.get 7 = .int .i64 2 ∧ s.tm.get 8 = .int .i64 (j : Int)) 2 ⟨0, rfl, by omega, by omega, rfl, rfl, by simp, by simp, by simp, by simp⟩ ?_
  rintro k s Q ⟨j, h0, ha, hb, q1, q2, f3, f6, f7, f8⟩ hgo hx
  match j, h0, ha, hb, f8 with
  | 0, h0, ha, hb, f8 =>
    have f8 : s.tm.get 8 = .int .i64 0 := f8
    by_cases k : a = 0
    · simp [c_cmp_Or_int_l0, q1, f3, f6, f7, f8, e0, k, AV.rowok, w1]
      exact hgo _ 1 (by omega) ⟨1, rfl, fun _ => k, by omega, rfl, by simp [q2], by simp [f3], by simp [f6], by simp [f7], by simp [show IntKind.i64.wrap 1 = 1 by decide]⟩
    · simp [c_cmp_Or_int_l0, q1, f3, f6, f7, f8, e0, k, AV.rowok]
      refine hx _ _ (by simp) ?_
      simp [q2]
      exact hF _ _ _ (reify_plain rfl) ⟨by simp [k], rfl⟩
  | 1, h0, ha, hb, f8 =>
    have f8 : s.tm.get 8 = .int .i64 1 := f8
    have ha0 := ha (by omega)
    by_cases k : b = 0
    · simp [c_cmp_Or_int_l0, q1, f3, f6, f7, f8, e1, k, AV.rowok, w2]
      exact hgo _ 0 (by omega) ⟨2, rfl, fun _ => ha0, fun _ => k, rfl, by simp [q2], by simp [f3], by simp [f6], by simp [f7], by simp [show IntKind.i64.wrap 2 = 2 by decide]⟩
    · simp [c_cmp_Or_int_l0, q1, f3, f6, f7, f8, e1, k, AV.rowok]
      refine hx _ _ (by simp) ?_
      simp [q2]
      exact hF _ _ _ (reify_plain rfl) ⟨by simp [ha0], rfl⟩
  | j + 2, h0, ha, hb, f8 =>
    have hj : j = 0 := by omega
    subst hj
    have f8 : s.tm.get 8 = .int .i64 2 := f8
    simp [c_cmp_Or_int_l0, q1, f3, f7, f8]
    refine hx _ _ (by simp) ?_
    simp [q2, f3]
    exact hF _ _ _ (reify_plain rfl) ⟨by simp [ha (by omega), hb (by omega)], rfl⟩


theorem needs1_run (a b : Need) : ∃ w, runPure (callW tbl) loopW a_plan_Needs_1 [a.enc, b.enc] = some w ∧ w = i64 (ncmp a b) := by
  refine pureK a_plan_Needs_1 rfl (fun F hF => ?_)
  have h1 := cmpS_call a.pred b.pred
  have h2 := cmpU_call a.cols b.cols
  have h3 : ∀ (H : Heap) (b0 g : Nat) (x y : Int), H[b0]? = some (.arr g 1 [i64 x, i64 y]) → callW tbl (.func f_cmp_Or_int [] []) [.sl b0 g 0 2] H = some (i64 (if x ≠ 0 then x else y), H) := by
    intro H b0 g x y hb
    have his : All2 Is [i64 x, i64 y] [x, y] := .cons rfl (.cons rfl .nil)
    have hre : reify H reifyDepth (.sl b0 g 0 2) = some (.fsl false [i64 x, i64 y]) := reify_rows hb (by simp) rfl his
    obtain ⟨r, h2, rfl⟩ := callP1L (f := f_cmp_Or_int) (af := a_cmp_Or_int) (S := fun w => w = i64 (if x ≠ 0 then x else y)) rfl rfl [x, y]
      (fun v h => by
        obtain ⟨w, g1, g2, g3⟩ := or_run v x y h
        exact ⟨w, g1, g2, g3⟩) _ _ H hre (IsL.fsl his)
    exact h2
  have h4 := h3 [.arr 1 1 [i64 (cmpS a.pred b.pred), i64 (cmpU a.cols b.cols)]] 0 1 _ _ rfl
  have hn : (if cmpS a.pred b.pred ≠ 0 then cmpS a.pred b.pred else cmpU a.cols b.cols) = ncmp a b := rfl
  rw [hn] at h4
  simp [a_plan_Needs_1, c_plan_Needs_1, AV.rowok, h1, h2, buildRows, h4]
  exact hF _ _ _ (reify_plain rfl) rfl
theorem needs1_call (a b : Need) (H : Heap) : callW tbl (.func f_plan_Needs_1 [] []) [a.enc, b.enc] H = some (i64 (ncmp a b), H) := by
  obtain ⟨r, h1, rfl⟩ := needs1_run a b
  exact Go.Abs.Sort.pureA (f := f_plan_Needs_1) (af := a_plan_Needs_1) rfl rfl rfl rfl h1 H

def sortIds : Go.Abs.Sort.Ids where
  brk := f_slices_breakPatternsCmpFunc_Need
  heap := f_slices_heapSortCmpFunc_Need
  ins := f_slices_insertionSortCmpFunc_Need
  len := f_math_bits_Len
  len32 := f_math_bits_Len32
  len64 := f_math_bits_Len64
  madj := f_slices_medianAdjacentCmpFunc_Need
  med := f_slices_medianCmpFunc_Need
  next := f_slices_xorshift_Next
  npow := f_slices_nextPowerOfTwo
  ord := f_slices_order2CmpFunc_Need
  part := f_slices_partitionCmpFunc_Need
  pdq := f_slices_pdqsortCmpFunc_Need
  peq := f_slices_partitionEqualCmpFunc_Need
  pins := f_slices_partialInsertionSortCmpFunc_Need
  piv := f_slices_choosePivotCmpFunc_Need
  rev := f_slices_reverseRangeCmpFunc_Need
  sift := f_slices_siftDownCmpFunc_Need
theorem sortLaid : Go.Abs.Sort.Laid tbl sortIds true 2 := ⟨rfl, rfl, rfl, rfl, rfl, rfl, rfl, rfl, rfl, rfl, rfl, rfl, rfl, rfl, rfl, rfl, rfl, rfl⟩
def sortEnv : Go.Abs.Sort.Env tbl Need where
  I := sortIds
  ag := true
  sz := 2
  row := Need.enc
  fv := .func f_plan_Needs_1 [] []
  cmp := ncmp
  laid := sortLaid
  rowok := fun _ => rfl
  part := fun _ => rfl
  plain := fun _ => rfl
  call := needs1_call

theorem cmpS_spec (x y : ByteArray) : (cmpS x y < 0 ↔ x.toList < y.toList) ∧ (cmpS x y = 0 ↔ x = y) ∧ (0 < cmpS x y ↔ y.toList < x.toList) := by
  unfold cmpS
  by_cases k1 : x.toList < y.toList
  · have k2 : ¬ y.toList < x.toList := fun h => List.lt_irrefl _ (List.lt_trans k1 h)
    have k3 : x ≠ y := by rintro rfl; exact List.lt_irrefl _ k1
    simp [k1, k2, k3]
  · by_cases k2 : y.toList < x.toList
    · have k3 : x ≠ y := by rintro rfl; exact List.lt_irrefl _ k2
      simp [k1, k2, k3]
    · have k3 : x = y := toList_inj (List.le_antisymm (List.not_lt.1 k2) (List.not_lt.1 k1))
      subst k3
      simp [List.lt_irrefl]
theorem cmpU_spec (x y : Nat) : (cmpU x y < 0 ↔ x < y) ∧ (cmpU x y = 0 ↔ x = y) := by
  unfold cmpU
  by_cases k1 : x < y
  · simp [k1]; omega
  · by_cases k2 : y < x
    · simp [k1, k2]; omega
    · have : x = y := by omega
      simp [k1, k2, this]
/-- The order of needs. -/
def NLt (a b : Need) : Prop := a.pred.toList < b.pred.toList ∨ (a.pred = b.pred ∧ a.cols < b.cols)
theorem ncmp_lt (a b : Need) : ncmp a b < 0 ↔ NLt a b := by
  unfold ncmp NLt
  obtain ⟨s1, s2, s3⟩ := cmpS_spec a.pred b.pred
  obtain ⟨u1, u2⟩ := cmpU_spec a.cols b.cols
  by_cases k : cmpS a.pred b.pred = 0
  · have he := s2.1 k
    have hn : ¬ a.pred.toList < b.pred.toList := by rw [he]; exact List.lt_irrefl _
    rw [if_neg (by simp [k]), u1]
    constructor
    · intro h; exact .inr ⟨he, h⟩
    · rintro (h | ⟨_, h⟩)
      · exact absurd h hn
      · exact h
  · have hne : ¬ a.pred = b.pred := fun e => k (s2.2 e)
    simp [k, hne, s1]
theorem NLt.irrefl (a : Need) : ¬ NLt a a := by rintro (h | ⟨_, h⟩); exact List.lt_irrefl _ h; omega
theorem NLt.trans {a b c : Need} (h1 : NLt a b) (h2 : NLt b c) : NLt a c := by
  rcases h1 with h1 | ⟨e1, h1⟩ <;> rcases h2 with h2 | ⟨e2, h2⟩
  · exact .inl (List.lt_trans h1 h2)
  · exact .inl (by rw [← e2]; exact h1)
  · exact .inl (by rw [e1]; exact h2)
  · exact .inr ⟨e1.trans e2, by omega⟩
theorem NLt.tri (a b : Need) : NLt a b ∨ a = b ∨ NLt b a := by
  by_cases k1 : a.pred.toList < b.pred.toList
  · exact .inl (.inl k1)
  · by_cases k2 : b.pred.toList < a.pred.toList
    · exact .inr (.inr (.inl k2))
    · have k3 : a.pred = b.pred := toList_inj (List.le_antisymm (List.not_lt.1 k2) (List.not_lt.1 k1))
      by_cases k4 : a.cols < b.cols
      · exact .inl (.inr ⟨k3, k4⟩)
      · by_cases k5 : b.cols < a.cols
        · exact .inr (.inr (.inr ⟨k3.symm, k5⟩))
        · refine .inr (.inl ?_)
          obtain ⟨p, x⟩ := a
          obtain ⟨q, y⟩ := b
          simp only at k3 k4 k5
          subst k3
          have : x = y := by omega
          rw [this]
theorem sortLt (a b : Need) : sortEnv.lt a b = true ↔ NLt a b := by
  show decide (ncmp a b < 0) = true ↔ _
  rw [decide_eq_true_eq, ncmp_lt]
theorem sortSWO : SWO sortEnv.lt where
  irrefl x := by
    cases h : sortEnv.lt x x with
    | false => rfl
    | true => exact absurd ((sortLt _ _).1 h) (NLt.irrefl x)
  trans x y z h1 h2 := (sortLt _ _).2 (NLt.trans ((sortLt _ _).1 h1) ((sortLt _ _).1 h2))
  ntrans x y z h1 h2 := by
    cases h : sortEnv.lt x z with
    | false => rfl
    | true =>
      have h3 := (sortLt _ _).1 h
      have n1 : ¬ NLt x y := fun k => by rw [(sortLt _ _).2 k] at h1; cases h1
      have n2 : ¬ NLt y z := fun k => by rw [(sortLt _ _).2 k] at h2; cases h2
      rcases NLt.tri x y with k | k | k
      · exact absurd k n1
      · subst k; exact absurd h3 n2
      · exact absurd (NLt.trans k h3) n2
end Go.Abs.Plan

/- Plan: what a plan needs: the model; the map that counts. -/
set_option linter.unusedSimpArgs false
set_option linter.unusedVariables false
namespace Go.Abs.Plan
open Enc (Is)

instance : DecidableEq Need := fun a b => by
  obtain ⟨p, x⟩ := a
  obtain ⟨q, y⟩ := b
  by_cases h1 : p = q
  · by_cases h2 : x = y
    · exact isTrue (by rw [h1, h2])
    · exact isFalse (by intro e; cases e; exact h2 rfl)
  · exact isFalse (by intro e; cases e; exact h1 rfl)

/-! ### The model -/
def hits (B : Nat) (c : Col) : Bool := c.use == 1 || (c.use == 4 && B.testBit c.var.toNat)
def maskN (B : Nat) (cs : List Col) : Nat → Nat
  | 0 => 0
  | j + 1 => match cs[j]? with
    | some c => if hits B c = true then maskN B cs j ||| 2 ^ j else maskN B cs j
    | none => maskN B cs j
def bndN (B : Nat) (cs : List Col) : Nat → Nat
  | 0 => B
  | j + 1 => match cs[j]? with
    | some c => if c.use = 3 then bndN B cs j ||| 2 ^ c.var.toNat else bndN B cs j
    | none => bndN B cs j
def BN (ss : List Step) : Nat → Nat
  | 0 => 0
  | j + 1 => match ss[j]? with
    | some s => bndN (BN ss j) s.cols s.cols.length
    | none => BN ss j
def needOf (B : Nat) (s : Step) : Need := ⟨s.pred, maskN B s.cols s.cols.length⟩
def asks (s : Step) : Prop := s.op = 1 ∨ s.op = 2
instance (s : Step) : Decidable (asks s) := by unfold asks; exact inferInstance
def outN (ss : List Step) : Nat → List Need
  | 0 => []
  | j + 1 => match ss[j]? with
    | some s => if asks s ∧ needOf (BN ss j) s ∉ outN ss j then outN ss j ++ [needOf (BN ss j) s] else outN ss j
    | none => outN ss j
theorem maskN_lt (B : Nat) (cs : List Col) : ∀ j, j ≤ 64 → maskN B cs j < 2 ^ 64
  | 0, _ => by simp [maskN]
  | j + 1, h => by
    have ih := maskN_lt B cs j (by omega)
    have hp : 2 ^ j < 2 ^ 64 := Nat.pow_lt_pow_right (by decide) (by omega)
    simp only [maskN]
    split
    · split
      · exact Nat.or_lt_two_pow ih hp
      · exact ih
    · exact ih
/-- Columns whose numbers of variables are in range. -/
def ColsR (cs : List Col) : Prop := ∀ c ∈ cs, (c.use = 3 ∨ c.use = 4) → 0 ≤ c.var ∧ c.var.toNat < 64
theorem bndN_lt {B : Nat} {cs : List Col} (hB : B < 2 ^ 64) (hc : ColsR cs) : ∀ j, bndN B cs j < 2 ^ 64
  | 0 => hB
  | j + 1 => by
    have ih := bndN_lt hB hc j
    simp only [bndN]
    split
    · rename_i c hcj
      split
      · rename_i h3
        have := hc c (List.mem_of_getElem? hcj) (.inl h3)
        exact Nat.or_lt_two_pow ih (Nat.pow_lt_pow_right (by decide) this.2)
      · exact ih
    · exact ih
theorem BN_lt {ss : List Step} (h : ∀ s ∈ ss, ColsR s.cols) : ∀ j, BN ss j < 2 ^ 64
  | 0 => by simp [BN]
  | j + 1 => by
    have ih := BN_lt h j
    simp only [BN]
    split
    · rename_i s hs
      exact bndN_lt ih (h s (List.mem_of_getElem? hs)) _
    · exact ih
theorem okCol_rng {n B B' : Nat} {w sk : Bool} {c : Col} (h : okCol n B w sk c = some B') (hu : c.use = 3 ∨ c.use = 4) : 0 ≤ c.var ∧ c.var.toNat < n := by
  unfold okCol at h
  rcases hu with h3 | h4
  · rw [if_neg (by omega), if_neg (by omega), if_pos h3] at h
    split at h
    · rename_i hh; exact ⟨hh.2.1, hh.2.2.1⟩
    · simp at h
  · rw [if_neg (by omega), if_neg (by omega), if_neg (by omega), if_pos h4] at h
    split at h
    · rename_i hh; exact ⟨hh.2.1, hh.2.2.1⟩
    · simp at h
theorem okCols_rng {n : Nat} {w sk : Bool} : ∀ {cs : List Col} {B B' : Nat}, okCols n w sk B cs = some B' → ∀ c ∈ cs, (c.use = 3 ∨ c.use = 4) → 0 ≤ c.var ∧ c.var.toNat < n
  | [], B, B', h, c, hc => by cases hc
  | a :: cs, B, B', h, c, hc => by
    simp only [okCols] at h
    split at h
    · rename_i B2 h2
      rcases List.mem_cons.1 hc with rfl | hc
      · exact okCol_rng h2
      · exact okCols_rng h c hc
    · simp at h
theorem okSteps_rng {n : Nat} : ∀ {ss : List Step} {f : Bool} {B B' : Nat}, okSteps n f B ss = some B' → ∀ s ∈ ss, s.cols.length ≤ 8 ∧ ∀ c ∈ s.cols, (c.use = 3 ∨ c.use = 4) → 0 ≤ c.var ∧ c.var.toNat < n
  | [], f, B, B', h, s, hs => by cases hs
  | a :: ss, f, B, B', h, s, hs => by
    simp only [okSteps] at h
    split at h
    · rename_i B2 h2
      rcases List.mem_cons.1 hs with rfl | hs
      · refine ⟨okStep_cols h2, ?_⟩
        unfold okStep at h2
        split at h2
        · split at h2
          · rename_i hh; intro c hc; rw [hh.2.1] at hc; cases hc
          · simp at h2
        · split at h2
          · exact okCols_rng h2
          · simp at h2
      · exact okSteps_rng h s hs
    · simp at h

/-! ### The map -/
def entsFrom : Nat → List (Need × Nat) → List MEnt
  | _, [] => []
  | k, x :: L => ⟨x.1.enc, i64 (x.2 : Int), k⟩ :: entsFrom (k + 1) L
abbrev KN : List CK := [.str, .int]
theorem keyEqN (a b : Need) : keyEq true KN a.enc b.enc = some (decide (a = b)) := by
  by_cases h : a = b
  · subst h; simp [keyEq, AV.isAgg, AV.cells]
  · have : ¬ (a.pred = b.pred ∧ a.cols = b.cols) := by
      rintro ⟨h1, h2⟩
      obtain ⟨p, x⟩ := a
      obtain ⟨q, y⟩ := b
      simp only at h1 h2
      exact h (by rw [h1, h2])
    simp [keyEq, AV.isAgg, AV.cells, h]
    intro e1 e2
    exact this ⟨e1, by omega⟩
theorem findE_no (n : Need) : ∀ (L : List (Need × Nat)) (k i : Nat), (∀ x ∈ L, x.1 ≠ n) → findE true KN n.enc (entsFrom k L) i = some none
  | [], k, i, _ => rfl
  | x :: L, k, i, h => by
    have h1 : ¬ n = x.1 := fun e => h x (by simp) e.symm
    simp only [entsFrom, findE, keyEqN, h1, decide_false]
    exact findE_no n L (k + 1) (i + 1) (fun y hy => h y (by simp [hy]))
theorem findE_yes (n : Need) (c : Nat) (L2 : List (Need × Nat)) : ∀ (L1 : List (Need × Nat)) (k i : Nat), (∀ x ∈ L1, x.1 ≠ n) → findE true KN n.enc (entsFrom k (L1 ++ (n, c) :: L2)) i = some (some (i + L1.length, ⟨n.enc, i64 (c : Int), k + L1.length⟩))
  | [], k, i, _ => by simp [entsFrom, findE, keyEqN]
  | x :: L, k, i, h => by
    have h1 : ¬ n = x.1 := fun e => h x (by simp) e.symm
    simp only [List.cons_append, entsFrom, findE, keyEqN, h1, decide_false]
    rw [findE_yes n c L2 L (k + 1) (i + 1) (fun y hy => h y (by simp [hy]))]
    simp
    omega
theorem entsFrom_len : ∀ (L : List (Need × Nat)) (k : Nat), (entsFrom k L).length = L.length
  | [], k => rfl
  | x :: L, k => by simp [entsFrom, entsFrom_len L]
theorem entsFrom_app : ∀ (L L' : List (Need × Nat)) (k : Nat), entsFrom k (L ++ L') = entsFrom k L ++ entsFrom (k + L.length) L'
  | [], L', k => by simp [entsFrom]
  | x :: L, L', k => by simp [entsFrom, entsFrom_app L L' (k + 1)]; congr 1; omega
theorem born_at : ∀ (L : List (Need × Nat)) (k j : Nat), j < L.length → (entsFrom k L).findIdx? (fun e => (e.born : Int) == ((k + j : Nat) : Int)) = some j
  | x :: L, k, j, h => by
    simp only [entsFrom, List.findIdx?_cons]
    cases j with
    | zero => simp
    | succ j =>
      have h1 : ((k : Int) == ((k + (j + 1) : Nat) : Int)) = false := by simp; omega
      rw [h1]
      have := born_at L (k + 1) j (by simpa using h)
      rw [show k + (j + 1) = k + 1 + j by omega]
      simp only [Bool.false_eq_true, if_false]
      rw [this]; rfl
theorem modify_at (n : Need) (c c' : Nat) (L2 : List (Need × Nat)) : ∀ (L1 : List (Need × Nat)) (k : Nat), (entsFrom k (L1 ++ (n, c) :: L2)).modify L1.length (fun e => { e with val := i64 (c' : Int) }) = entsFrom k (L1 ++ (n, c') :: L2)
  | [], k => by simp [entsFrom]
  | x :: L, k => by
    simp only [List.cons_append, entsFrom, List.length_cons, List.modify_succ_cons]
    rw [modify_at n c c' L2 L (k + 1)]
end Go.Abs.Plan

/- Plan: Needs: a step's columns. -/
set_option linter.unusedSimpArgs false
set_option linter.unusedVariables false
namespace Go.Abs.Plan
open Enc (Is)
open Go.Abs.Sort (Fr Fr_cons Fr_nil)

abbrev nblk (p : ByteArray) (m : Nat) : Blk := .arr 0 2 [.agg [.str p, .int .u64 (m : Int)]]

set_option maxHeartbeats 2000000 in
theorem needs_loop0 (st : Step) (cv : AV) (hcv : Is cv st.cols) (h8 : st.cols.length ≤ 8) (hr : ColsR st.cols) (B : Nat) (hB : B < 2 ^ 64) (H : Heap) (nb : Nat) (hnb : nb < H.length) (x1 x3 x4 x7 x17 x18 x19 : AV) (s : St) (ks : List KF) (R : AExit → St → Prop)
    (e1 : s.heap = H.set nb (nblk st.pred 0)) (e2 : s.dfr = []) (f : Fr s [(1, x1), (3, x3), (4, x4), (7, x7), (17, x17), (18, x18), (19, x19), (5, .int .u64 (B : Int)), (8, .ptr nb 0 0 0), (9, .int .u64 (B : Int)), (28, cv), (29, i64 st.cols.length), (30, .int .i64 0)])
    (hexit : ∀ s' : St, s'.heap = H.set nb (nblk st.pred (maskN B st.cols st.cols.length)) → s'.dfr = [] → Fr s' [(1, x1), (3, x3), (4, x4), (7, x7), (17, x17), (18, x18), (19, x19), (5, .int .u64 (bndN B st.cols st.cols.length : Nat)), (8, .ptr nb 0 0 0)] → KONT (callW tbl) loopW ks (.exit 2) s' R) :
    EXEC (callW tbl) loopW (.loop c_plan_Needs_l0) ks s R := by
  have hc := isl_cell hcv
  have hln := IsL.len hcv
  refine EXEC_loop_inv (fun k s => ∃ j : Nat, j + k = st.cols.length ∧ s.heap = H.set nb (nblk st.pred (maskN B st.cols j)) ∧ s.dfr = [] ∧ Fr s [(1, x1), (3, x3), (4, x4), (7, x7), (17, x17), (18, x18), (19, x19), (5, .int .u64 (bndN B st.cols j : Nat)), (8, .ptr nb 0 0 0), (9, .int .u64 (B : Int)), (28, cv), (29, i64 st.cols.length), (30, i64 j)]) st.cols.length ⟨0, by simp, e1, e2, f⟩ ?_
  rintro k s Q ⟨j, h0, e1, e2, f⟩ hgo hx
  simp only [Fr_cons, Fr_nil, and_true] at f
  by_cases hj : j < st.cols.length
  · have hji : (j : Int) < (st.cols.length : Int) := by omega
    have hg : st.cols[j]? = some st.cols[j] := by simp [hj]
    obtain ⟨_, sv, rfl, hidx⟩ := IsL.idx hcv hg
    simp only [show Enc.sz Col = 5 from rfl] at hidx
    have hm1 : maskN B st.cols (j + 1) = if hits B st.cols[j] = true then maskN B st.cols j ||| 2 ^ j else maskN B st.cols j := by simp only [maskN, hg]
    have hb1 : bndN B st.cols (j + 1) = if st.cols[j].use = 3 then bndN B st.cols j ||| 2 ^ st.cols[j].var.toNat else bndN B st.cols j := by simp only [bndN, hg]
    have hml := maskN_lt B st.cols j (by omega)
    have hbl := bndN_lt hB hr j
    have hrc := hr _ (List.getElem_mem hj)
    generalize hcc : st.cols[j] = c at *
    have hwr : IntKind.i64.wrap ((j : Int) + 1) = ((j + 1 : Nat) : Int) := by rw [wrap_i64 (by omega) (by omega)]; push_cast; rfl
    have hpow : 2 ^ j < 2 ^ 64 := Nat.pow_lt_pow_right (by decide) (by omega)
    have hsl := shl_u64 (j := j) (by omega) .no
    have ho := or_u64 hml hpow .no
    generalize maskN B st.cols j = m at *
    generalize bndN B st.cols j = bd at *
    have fin : ∀ (m' bd' : Nat) (s' : St), m' = maskN B st.cols (j + 1) → bd' = bndN B st.cols (j + 1) → s'.heap = H.set nb (nblk st.pred m') → s'.dfr = [] → Fr s' [(1, x1), (3, x3), (4, x4), (7, x7), (17, x17), (18, x18), (19, x19), (5, .int .u64 (bd' : Nat)), (8, .ptr nb 0 0 0), (9, .int .u64 (B : Int)), (28, cv), (29, i64 st.cols.length), (30, i64 ((j + 1 : Nat) : Int))] → Q .normal s' := by
      intro m' bd' s' q1 q2 q3 q4 q5
      subst q1; subst q2
      exact hgo s' (k - 1) (by omega) ⟨j + 1, by omega, q3, q4, q5⟩
    by_cases u1 : c.use = 1
    · have hh : hits B c = true := by simp [hits, u1]
      rw [if_pos hh] at hm1
      rw [if_neg (by omega)] at hb1
      generalize hq : 2 ^ j = qq at hsl ho hm1
      generalize hr' : m ||| qq = r at ho hm1
      simp [c_plan_Needs_l0, e1, e2, f, hji, hidx, hnb, u1, hsl, ho, AV.rowok, putCells, splice]
      rw [hwr]
      exact fin r bd _ hm1.symm hb1.symm rfl rfl (by simp [Fr, f])
    · by_cases u4 : c.use = 4
      · rw [if_neg (by omega)] at hb1
        obtain ⟨v0, v64⟩ := hrc (.inr u4)
        obtain ⟨vj, hvj⟩ : ∃ x : Nat, c.var = (x : Int) := ⟨c.var.toNat, by omega⟩
        have hv64 : vj < 64 := by omega
        have hs := shr_u64 (B := B) (j := vj) hv64 .no
        have ha := and1_u64 (n := B >>> vj) (by rw [Nat.shiftRight_eq_div_pow]; exact Nat.lt_of_le_of_lt (Nat.div_le_self ..) hB) .no
        have ht := bit_eq B vj
        generalize (B >>> vj) % 2 = q at ha ht
        generalize B >>> vj = p at hs ha
        by_cases hbit : B.testBit vj = true
        · have hh : hits B c = true := by simp [hits, u4, hvj, hbit]
          rw [if_pos hh] at hm1
          have he : binA .eql .no (.int .u64 (q : Int)) (.int .u64 1) = some (.bool true) := by
            have : (q : Int) = 1 := by simp [hbit] at ht; omega
            simp [this]
          generalize hq : 2 ^ j = qq at hsl ho hm1
          generalize hr' : m ||| qq = r at ho hm1
          simp [c_plan_Needs_l0, e1, e2, f, hji, hidx, hnb, u4, hvj, hs, ha, he, hsl, ho, AV.rowok, putCells, splice]
          rw [hwr]
          exact fin r bd _ hm1.symm hb1.symm rfl rfl (by simp [Fr, f])
        · have hh : ¬ hits B c = true := by simp [hits, u1, u4, hvj, hbit]
          rw [if_neg hh] at hm1
          have he : binA .eql .no (.int .u64 (q : Int)) (.int .u64 1) = some (.bool false) := by
            have : ¬ (q : Int) = 1 := by simp [hbit] at ht; omega
            simp [this]
          simp [c_plan_Needs_l0, e1, e2, f, hji, hidx, hnb, u4, hvj, hs, ha, he, AV.rowok]
          rw [hwr]
          exact fin m bd _ hm1.symm hb1.symm rfl rfl (by simp [Fr, f])
      · have hh : ¬ hits B c = true := by simp [hits, u1, u4]
        rw [if_neg hh] at hm1
        by_cases u3 : c.use = 3
        · rw [if_pos u3] at hb1
          obtain ⟨v0, v64⟩ := hrc (.inl u3)
          obtain ⟨vj, hvj⟩ : ∃ x : Nat, c.var = (x : Int) := ⟨c.var.toNat, by omega⟩
          have hv64 : vj < 64 := by omega
          rw [hvj, Int.toNat_natCast] at hb1
          have hpow2 : 2 ^ vj < 2 ^ 64 := Nat.pow_lt_pow_right (by decide) hv64
          have hsl2 := shl_u64 (j := vj) hv64 .no
          have ho2 := or_u64 hbl hpow2 .no
          generalize hq : 2 ^ vj = qq at hsl2 ho2 hb1
          generalize hr' : bd ||| qq = r at ho2 hb1
          simp [c_plan_Needs_l0, e1, e2, f, hji, hidx, hnb, u3, hvj, hsl2, ho2, AV.rowok]
          rw [hwr]
          exact fin m r _ hm1.symm hb1.symm rfl rfl (by simp [Fr, f])
        · rw [if_neg u3] at hb1
          simp [c_plan_Needs_l0, e1, e2, f, hji, hidx, hnb, u1, u3, u4, AV.rowok]
          rw [hwr]
          exact fin m bd _ hm1.symm hb1.symm rfl rfl (by simp [Fr, f])
  · have hji : ¬ (j : Int) < (st.cols.length : Int) := by omega
    have hje : j = st.cols.length := by omega
    subst hje
    simp [c_plan_Needs_l0, e1, e2, f, hji]
    exact hx _ _ (by simp) (hexit _ rfl rfl (by simp [Fr, f]))
end Go.Abs.Plan

/- Plan: Needs: the steps. -/
set_option linter.unusedSimpArgs false
set_option linter.unusedVariables false
namespace Go.Abs.Plan
open Enc (Is)
open Go.Abs.Sort (Fr Fr_cons Fr_nil)

theorem keyOkN (n : Need) : keyOk true KN n.enc = true := by simp [keyOk, AV.isAgg, AV.cells]
def nRows (l : List Need) : List AV := l.map Need.enc
/-- The out slice. -/
def OutAt (H : Heap) (v : AV) (l : List Need) : Prop := (l = [] ∧ v = .nilsl) ∨ ∃ id g, 0 < id ∧ v = .sl id g 0 l.length ∧ H[id]? = some (.arr g 2 (nRows l))

/-- A need counted: what the map holds then, and how often it has been seen. -/
structure Counts (L L' : List (Need × Nat)) (n : Need) (c0 : Nat) (b : Nat) (es1 : List MEnt) (c1 : Nat) : Prop where
  look : lookupR true KN (.int .i64 0) n.enc false (entsFrom 0 L) = some (.int .i64 (c0 : Int))
  look1 : lookupR true KN (.int .i64 0) n.enc false es1 = some (.int .i64 (c0 : Int))
  entry : (findE true KN n.enc (entsFrom 0 L) 0 = some none ∧ c0 = 0 ∧ b = L.length ∧ es1 = entsFrom 0 L ++ [{ key := n.enc, val := .int .i64 0, born := L.length }] ∧ c1 = L.length + 1) ∨
    (∃ i e, findE true KN n.enc (entsFrom 0 L) 0 = some (some (i, e)) ∧ e.val = .int .i64 (c0 : Int) ∧ e.born = b ∧ es1 = entsFrom 0 L ∧ c1 = L.length)
  born : es1.findIdx? (fun e => (e.born : Int) == ((b : Nat) : Int)) = some b
  store : es1.modify b (fun e => { e with val := .int .i64 ((c0 + 1 : Nat) : Int) }) = entsFrom 0 L'
  clock : c1 = L'.length
  look2 : lookupR true KN (.int .i64 0) n.enc false (entsFrom 0 L') = some (.int .i64 ((c0 + 1 : Nat) : Int))

theorem counts_no {L : List (Need × Nat)} {n : Need} (h : ∀ x ∈ L, x.1 ≠ n) : Counts L (L ++ [(n, 1)]) n 0 L.length (entsFrom 0 (L ++ [(n, 0)])) (L.length + 1) := by
  have hf := findE_no n L 0 0 h
  have hf0 := findE_yes n 0 [] L 0 0 h
  have hf1 := findE_yes n 1 [] L 0 0 h
  have he : entsFrom 0 (L ++ [(n, 0)]) = entsFrom 0 L ++ [{ key := n.enc, val := .int .i64 0, born := L.length }] := by rw [entsFrom_app]; simp [entsFrom]
  refine ⟨by simp [lookupR, hf], by simp [lookupR, hf0], by exact .inl ⟨hf, rfl, rfl, he, rfl⟩, ?_, ?_, by simp, by simp [lookupR, hf1]⟩
  · have := born_at (L ++ [(n, 0)]) 0 L.length (by simp)
    simpa using this
  · exact modify_at n 0 1 [] L 0
theorem counts_yes {L1 L2 : List (Need × Nat)} {n : Need} {c : Nat} (h : ∀ x ∈ L1, x.1 ≠ n) : Counts (L1 ++ (n, c) :: L2) (L1 ++ (n, c + 1) :: L2) n c L1.length (entsFrom 0 (L1 ++ (n, c) :: L2)) (L1 ++ (n, c) :: L2).length := by
  have hf := findE_yes n c L2 L1 0 0 h
  have hf1 := findE_yes n (c + 1) L2 L1 0 0 h
  refine ⟨by simp [lookupR, hf], by simp [lookupR, hf], by exact .inr ⟨_, _, hf, rfl, by simp, rfl, rfl⟩, ?_, ?_, by simp, by simp [lookupR, hf1]⟩
  · have := born_at (L1 ++ (n, c) :: L2) 0 L1.length (by simp)
    simpa using this
  · exact modify_at n c (c + 1) L2 L1 0

theorem first_split {L : List (Need × Nat)} {n : Need} (h : ∃ x ∈ L, x.1 = n) : ∃ L1 c L2, L = L1 ++ (n, c) :: L2 ∧ ∀ x ∈ L1, x.1 ≠ n := by
  induction L with
  | nil => obtain ⟨x, hx, _⟩ := h; cases hx
  | cons a L ih =>
    by_cases ha : a.1 = n
    · exact ⟨[], a.2, L, by simp [← ha], by simp⟩
    · obtain ⟨x, hx, hxn⟩ := h
      rcases List.mem_cons.1 hx with rfl | hx
      · exact absurd hxn ha
      · obtain ⟨L1, c, L2, h1, h2⟩ := ih ⟨x, hx, hxn⟩
        exact ⟨a :: L1, c, L2, by rw [h1]; rfl, by
          intro y hy
          rcases List.mem_cons.1 hy with rfl | hy
          · exact ha
          · exact h2 y hy⟩

/-- The counting of one need. -/
theorem count_walk (L L' : List (Need × Nat)) (n : Need) (c0 b c1 : Nat) (es1 : List MEnt) (hC : Counts L L' n c0 b es1 c1) (hc0 : c0 < 2 ^ 40) (H : Heap) (nb : Nat) (hnb : H[nb]? = some (nblk n.pred n.cols)) (hmap : H[0]? = some (.map 0 (entsFrom 0 L) L.length)) (s : St) (ks : List KF) (R : AExit → St → Prop)
    (e1 : s.heap = H) (f3 : s.tm.get 3 = .map 0 0) (f8 : s.tm.get 8 = .ptr nb 0 0 0)
    (hk : KONT (callW tbl) loopW ks .normal { s with heap := H.set 0 (.map 0 (entsFrom 0 L') L'.length) } R) :
    EXEC (callW tbl) loopW (.draw [⟨some 74, false, .move (.tmp 3), none⟩, ⟨some 75, false, .load true 2 (.tmp 8), none⟩, ⟨some 76, false, .lookup true [.str, .int] (.int .i64 0) (.tmp 74) (.tmp 75) false, none⟩, ⟨some 77, false, .bin .add .no (.tmp 76) (.const (.int .i64 1)), none⟩, ⟨some 78, false, .mapEntry true [.str, .int] (.int .i64 0) (.tmp 74) (.tmp 75), none⟩, ⟨some 79, false, .extract (.tmp 78) 1, none⟩, ⟨none, true, .entryStore (.tmp 74) (.tmp 79) (.tmp 77), none⟩] [(2, 4)]) ks s R := by
  have h0 := hat_of hmap
  have l0 := lt_of hmap
  have hn := hat_of hnb
  have hko := keyOkN n
  obtain ⟨h1, h1', h2, h3, h4, h5, h6⟩ := hC
  obtain ⟨z, hz⟩ : ∃ z : Int, z = ((c0 + 1 : Nat) : Int) := ⟨_, rfl⟩
  rw [← hz] at h4
  rcases h2 with ⟨hf, rfl, rfl, he, rfl⟩ | ⟨i, e, hf, hv, hb, he, rfl⟩
  · have hw : IntKind.i64.wrap 1 = z := by rw [hz]; decide
    have he' := he.symm
    simp only [Int.natCast_zero] at h1 h1'
    simp [e1, f3, f8, h0, hn, l0, hko, h1, hf, he', h3, hw, h4, sameRead, optBeq, AV.beq, h1']
    rw [h5]
    exact hk
  · have hw : IntKind.i64.wrap ((c0 : Int) + 1) = z := by rw [hz, wrap_i64 (by omega) (by omega)]; push_cast; rfl
    subst he
    simp [e1, f3, f8, h0, hn, l0, hko, h1, hf, hv, hb, h3, hw, h4, sameRead, optBeq, AV.beq]
    rw [h5]
    exact hk
end Go.Abs.Plan

/- Plan: Needs, walked. -/
set_option linter.unusedSimpArgs false
set_option linter.unusedVariables false
namespace Go.Abs.Plan
open Enc (Is)
open Go.Abs.Sort (Fr Fr_cons Fr_nil)

theorem nRows_is (l : List Need) : All2 Is (nRows l) l := by
  unfold nRows
  induction l with
  | nil => exact .nil
  | cons a l ih => exact .cons rfl ih
theorem sortFunc_call (H : Heap) (hok : HOK H) (id g : Nat) (l : List Need) (hb : H[id]? = some (.arr g 2 (nRows l))) (hl : l.length < 2 ^ 40) :
    ∃ l', callW tbl (.func f_slices_SortFunc_Need_Need [] []) [.sl id g 0 l.length, .func f_plan_Needs_1 [] []] H = some (.tuple [], H.set id (.arr g 2 (nRows l'))) ∧ l'.Perm l ∧ l'.Pairwise fun a b => ¬ NLt b a := by
  have hlt := lt_of hb
  have hsz : l.toArray.size = l.length := by simp
  have hbl : Go.Sort.bitsLen l.length ≤ 60 := (Go.Sort.bitsLen_le_iff _ 60).2 (by omega)
  obtain ⟨D, hc, hP, hS⟩ := Go.Abs.Sort.pdq_call sortEnv sortSWO id g H hok hlt l.toArray (by omega) (Go.Sort.bitsLen l.length) (by omega)
  have hset : H.set id (sortEnv.blk g l.toArray) = H := set_same hb
  rw [hset, hsz] at hc
  have hDs : D.size = l.length := by rw [hP.1]; simp
  refine ⟨D.toList, ?_, ?_, ?_⟩
  · have hlen := Go.Abs.Sort.len_call sortLaid l.length (by omega)
    have w1 : IntKind.u64.wrap (l.length : Int) = (l.length : Int) := Go.Abs.Sort.wrapU rfl (by omega)
    refine callB a_slices_SortFunc_Need_Need rfl rfl rfl (fun F hF => ?_)
    have hlen' : callW tbl (.func f_math_bits_Len [] []) [.int .u64 (l.length : Int)] H = some (.int .i64 ((Go.Sort.bitsLen l.length : Nat) : Int), H) := hlen H
    have hc' : callW tbl (.func f_slices_pdqsortCmpFunc_Need [] []) [.sl id g 0 l.length, .int .i64 0, .int .i64 (l.length : Int), .int .i64 ((Go.Sort.bitsLen l.length : Nat) : Int), .func f_plan_Needs_1 [] []] H = some (.tuple [], H.set id (sortEnv.blk g D)) := hc
    simp [a_slices_SortFunc_Need_Need, c_slices_SortFunc_Need_Need, w1, hlen', hc']
    exact hF _ _ (close_same (by simp))
  · obtain ⟨_, _, hperm⟩ := hP
    have e1 : D.extract 0 l.toArray.size = D := by rw [hsz, ← hDs]; exact Array.extract_size
    rw [e1, Array.extract_size] at hperm
    exact hperm
  · rw [List.pairwise_iff_getElem]
    intro i j hi hj hij h
    have hi' : i < D.size := by simpa using hi
    have hj' : j < D.size := by simpa using hj
    have := hS i j (Nat.zero_le _) hij (by rw [hsz, ← hDs]; exact hj')
    rw [getElem!_pos D j hj', getElem!_pos D i hi'] at this
    have h2 := (sortLt _ _).2 h
    simp only [Array.getElem_toList] at h2
    rw [this] at h2
    cases h2
theorem sortFunc_nil (H : Heap) : callW tbl (.func f_slices_SortFunc_Need_Need [] []) [.nilsl, .func f_plan_Needs_1 [] []] H = some (.tuple [], H) := by
  refine callB a_slices_SortFunc_Need_Need rfl rfl rfl (fun F hF => ?_)
  have hlen : callW tbl (.func f_math_bits_Len [] []) [.int .u64 0] H = some (.int .i64 0, H) := Go.Abs.Sort.len_call sortLaid 0 (by omega) H
  have hp : callW tbl (.func f_slices_pdqsortCmpFunc_Need [] []) [.nilsl, .int .i64 0, .int .i64 0, .int .i64 0, .func f_plan_Needs_1 [] []] H = some (.tuple [], H) := Go.Abs.Sort.pdq_nil sortLaid _ 0 H
  have w1 : IntKind.u64.wrap 0 = 0 := by decide
  simp [a_slices_SortFunc_Need_Need, c_slices_SortFunc_Need_Need, w1, hlen, hp]
  exact hF _ _ (close_same rfl)

/-- The state ahead of step j: what has been counted, what goes out, what is bound. -/
structure NSt (ss : List Step) (j : Nat) (H : Heap) (v : AV) (L : List (Need × Nat)) : Prop where
  ok : HOK H
  map : H[0]? = some (.map 0 (entsFrom 0 L) L.length)
  out : OutAt H v (outN ss j)
  fst : L.map Prod.fst = outN ss j
  cnt : ∀ x ∈ L, 1 ≤ x.2 ∧ x.2 ≤ j

theorem outN_len (ss : List Step) : ∀ j, (outN ss j).length ≤ j
  | 0 => by simp [outN]
  | j + 1 => by
    have := outN_len ss j
    simp only [outN]
    split
    · split
      · simp; omega
      · omega
    · omega
theorem HOK_nblk {H : Heap} (h : HOK H) (p : ByteArray) (m : Nat) : HOK (H ++ [nblk p m]) := h.push rfl
theorem ents_under (n : Nat) : ∀ (L : List (Need × Nat)) (k : Nat), (entsFrom k L).all (fun e => e.key.under n && e.val.under n) = true
  | [], k => rfl
  | x :: L, k => by
    simp only [entsFrom, List.all_cons, ents_under n L (k + 1), Bool.and_true]
    rfl
theorem OutAt.app {H T : Heap} {v : AV} {l : List Need} (h : OutAt H v l) : OutAt (H ++ T) v l := by
  rcases h with h | ⟨id, g, h0, h1, h2⟩
  · exact .inl h
  · exact .inr ⟨id, g, h0, h1, by rw [List.getElem?_append_left (lt_of h2)]; exact h2⟩
theorem OutAt.set0 {H : Heap} {v : AV} {l : List Need} (h : OutAt H v l) (X : Blk) : OutAt (H.set 0 X) v l := by
  rcases h with h | ⟨id, g, h0, h1, h2⟩
  · exact .inl h
  · exact .inr ⟨id, g, h0, h1, by rw [List.getElem?_set_ne (by omega)]; exact h2⟩
theorem OutAt.cell {H : Heap} {v : AV} {l : List Need} (h : OutAt H v l) : v.isCell = true ∧ v.cells = [v] := by
  rcases h with ⟨_, rfl⟩ | ⟨id, g, _, rfl, _⟩ <;> exact ⟨rfl, rfl⟩
end Go.Abs.Plan

/- Plan: Needs, its steps' loop. The parts of the code are printed by a small program. -/
set_option linter.unusedSimpArgs false
set_option linter.unusedVariables false
namespace Go.Abs.Plan
open Enc (Is)
open Go.Abs.Sort (Fr Fr_cons Fr_nil)

def kN_rest : ACode := (.seq (.region [⟨some 80, false, .move (.tmp 3), none⟩, ⟨some 81, false, .load true 2 (.tmp 8), none⟩, ⟨some 82, false, .lookup true [.str, .int] (.int .i64 0) (.tmp 80) (.tmp 81) false, none⟩, ⟨some 83, true, .bin .eql .no (.tmp 82) (.const (.int .i64 1)), none⟩])
 (.cond (.tmp 83) (.region [⟨some 84, false, .move (.tmp 4), none⟩, ⟨some 85, false, .load true 2 (.tmp 8), none⟩, ⟨some 86, false, .buildSliceF (.agg [(.str ⟨#[]⟩), (.int .u64 0)]) 1 [(0, (.tmp 85))], none⟩, ⟨some 87, false, .append 2 24 (.tmp 84) (.tmp 86), none⟩, ⟨some 4, true, .move (.tmp 87), none⟩]) .skip))
def kN_tail : ACode := (.seq (.draw [⟨some 74, false, .move (.tmp 3), none⟩, ⟨some 75, false, .load true 2 (.tmp 8), none⟩, ⟨some 76, false, .lookup true [.str, .int] (.int .i64 0) (.tmp 74) (.tmp 75) false, none⟩, ⟨some 77, false, .bin .add .no (.tmp 76) (.const (.int .i64 1)), none⟩, ⟨some 78, false, .mapEntry true [.str, .int] (.int .i64 0) (.tmp 74) (.tmp 75), none⟩, ⟨some 79, false, .extract (.tmp 78) 1, none⟩, ⟨none, true, .entryStore (.tmp 74) (.tmp 79) (.tmp 77), none⟩] [(2, 4)])
 kN_rest)
theorem c_plan_Needs_l1_eq : c_plan_Needs_l1 = (.seq (.region [⟨some 20, true, .bin .lss .no (.tmp 19) (.tmp 18), none⟩])
 (.seq (.cond (.tmp 20) .skip (.exit 0))
 (.seq (.block 1 (.seq (.region [⟨some 21, false, .indexAddr 16 (.tmp 17) (.tmp 19), none⟩, ⟨some 22, false, .load true 16 (.tmp 21), none⟩, ⟨some 7, true, .boxF 16 (.tmp 22), none⟩])
 (.seq (.region [⟨some 23, false, .fieldAddr 2 (.tmp 7), none⟩, ⟨some 24, false, .load false 1 (.tmp 23), none⟩, ⟨some 25, false, .build [(.str ⟨#[]⟩), (.int .u64 0)] [(0, 1, (.tmp 24))], none⟩, ⟨some 8, true, .alloc (.agg [(.str ⟨#[]⟩), (.int .u64 0)]), none⟩, ⟨none, true, .store 2 (.tmp 8) (.tmp 25), none⟩])
 (.seq (.region [⟨some 26, false, .move (.tmp 5), none⟩, ⟨some 9, true, .move (.tmp 26), none⟩])
 (.seq (.seq (.region [⟨some 27, false, .fieldAddr 4 (.tmp 7), none⟩, ⟨some 28, true, .load false 1 (.tmp 27), none⟩, ⟨some 29, true, .len .slice (.tmp 28), none⟩, ⟨some 30, true, .move (.const (.int .i64 0)), none⟩])
 (.block 2 (.loop c_plan_Needs_l0)))
 (.seq (.seq (.region [⟨some 66, false, .fieldAddr 0 (.tmp 7), none⟩, ⟨some 67, false, .load false 1 (.tmp 66), none⟩, ⟨some 68, false, .bin .neq .no (.tmp 67) (.const (.int .i64 1)), none⟩, ⟨some 69, false, .move (.tmp 68), none⟩, ⟨some 70, false, .fieldAddr 0 (.tmp 7), some (69, true)⟩, ⟨some 71, false, .load false 1 (.tmp 70), some (69, true)⟩, ⟨some 72, false, .bin .neq .no (.tmp 71) (.const (.int .i64 2)), some (69, true)⟩, ⟨some 73, true, .pick (.tmp 69) (.tmp 72) (.const (.bool false)), none⟩])
 (.cond (.tmp 73) (.exit 1) .skip))
 kN_tail))))))
 (.region [⟨some 88, false, .bin .add .no (.tmp 19) (.const (.int .i64 1)), none⟩, ⟨some 19, true, .move (.tmp 88), none⟩])))) := rfl

abbrev NFr (p : Plan) (va vb vc v : AV) (B : Nat) (j : Nat) : List (Nat × AV) := [(1, .fptr false [va, vb, .str p.pred, vc] 0), (3, .map 0 0), (4, v), (17, vb), (18, i64 p.steps.length), (19, i64 (j : Int)), (5, .int .u64 (B : Int))]

/-- What comes behind the counting. -/
theorem needs_rest (p : Plan) (va vb vc v : AV) (B j : Nat) (L' : List (Need × Nat)) (n : Need) (c : Nat) (hl2 : lookupR true KN (.int .i64 0) n.enc false (entsFrom 0 L') = some (.int .i64 (c : Int))) (H : Heap) (nb : Nat) (hnb : H[nb]? = some (nblk n.pred n.cols)) (hok : HOK H) (hmap : H[0]? = some (.map 0 (entsFrom 0 L') L'.length)) (l : List Need) (hout : OutAt H v l) (hl : l.length < 2 ^ 20) (s : St) (ks : List KF) (R : AExit → St → Prop)
    (e1 : s.heap = H) (e2 : s.dfr = []) (f : Fr s ((8, .ptr nb 0 0 0) :: NFr p va vb vc v B j))
    (hk : ∀ (H' : Heap) (v' : AV) (s' : St), HOK H' → H'[0]? = some (.map 0 (entsFrom 0 L') L'.length) → OutAt H' v' (if c = 1 then l ++ [n] else l) → s'.heap = H' → s'.dfr = [] → Fr s' (NFr p va vb vc v' B j) → KONT (callW tbl) loopW ks .normal s' R) :
    EXEC (callW tbl) loopW kN_rest ks s R := by
  simp only [Fr_cons, Fr_nil, and_true] at f
  have h0 := hat_of hmap
  have l0 := lt_of hmap
  have hn := hat_of hnb
  have hko := keyOkN n
  by_cases h1 : c = 1
  · have c1 : (c : Int) = 1 := by omega
    rw [h1] at hl2
    rw [if_pos h1] at hk
    have hl2' : lookupR true KN (.int .i64 0) n.enc false (entsFrom 0 L') = some (.int .i64 1) := hl2
    rcases hout with ⟨rfl, rfl⟩ | ⟨id, g, hid, rfl, hb⟩
    · simp [kN_rest, e1, f, h0, hn, hko, hl2', buildRows, AV.rowok, appendA, appendTo_nil, slRows, room]
      refine hk (H ++ [.arr 0 2 [n.enc]]) (.sl H.length 0 0 1) _ (hok.push rfl) (by rw [List.getElem?_append_left l0]; exact hmap) (.inr ⟨H.length, 0, by omega, rfl, by simp [nRows]⟩) rfl e2 (by simp [Fr, f])
    · have hlt := lt_of hb
      have kb := hat_of hb
      have hrl : (nRows l).length = l.length := by simp [nRows]
      have hno : ¬ (l.length + 1 ≤ l.length) := by omega
      have hr : (l.length + 1) * 24 ≤ 140737488355328 := by omega
      have happ : nRows l ++ [n.enc] = nRows (l ++ [n]) := by simp [nRows]
      have htk : List.take l.length (nRows l) = nRows l := List.take_of_length_le (by omega)
      simp [kN_rest, e1, f, h0, hn, hko, hl2', buildRows, AV.rowok, appendA, appendTo_sl, slRows, room, kb, hlt, hrl, hno, hr, htk]
      refine hk (H.set id (.arr (g + 1) 2 (nRows l ++ [n.enc]))) (.sl id (g + 1) 0 (l.length + 1)) _ (hok.set ?_) (by rw [List.getElem?_set_ne (by omega)]; exact hmap) (.inr ⟨id, g + 1, hid, by simp, by rw [happ]; simp [hlt]⟩) rfl e2 (by simp [Fr, f])
      rw [happ]
      exact plains_unders _ (rows_plain (nRows_is _))
  · have c1 : ¬ (c : Int) = 1 := by omega
    rw [if_neg h1] at hk
    simp [kN_rest, e1, f, h0, hn, hko, hl2, c1]
    exact hk H v _ hok hmap hout rfl e2 (by simp [Fr, f])
end Go.Abs.Plan

/- Plan: Needs, whole. -/
set_option linter.unusedSimpArgs false
set_option linter.unusedVariables false
namespace Go.Abs.Plan
open Enc (Is)
open Go.Abs.Sort (Fr Fr_cons Fr_nil)

set_option maxHeartbeats 2000000 in
theorem needs_loop1 (p : Plan) (va vb vc : AV) (h2 : Is vb p.steps) (c1 : va.isCell = true ∧ va.cells = [va]) (c3 : vc.isCell = true ∧ vc.cells = [vc]) (hn : p.steps.length < 2 ^ 16) (hcols : ∀ s ∈ p.steps, s.cols.length ≤ 8 ∧ ColsR s.cols) (s : St) (ks : List KF) (R : AExit → St → Prop)
    (v0 : AV) (L0 : List (Need × Nat)) (hN : NSt p.steps 0 s.heap v0 L0) (e2 : s.dfr = []) (f : Fr s (NFr p va vb vc v0 0 0))
    (hexit : ∀ (H' : Heap) (v' : AV) (s' : St), HOK H' → OutAt H' v' (outN p.steps p.steps.length) → s'.heap = H' → s'.dfr = [] → s'.tm.get 4 = v' → KONT (callW tbl) loopW ks (.exit 0) s' R) :
    EXEC (callW tbl) loopW (.loop c_plan_Needs_l1) ks s R := by
  have hc2 := isl_cell h2
  have l2 := IsL.len h2
  have hBlt := BN_lt (ss := p.steps) (fun s hs => (hcols s hs).2)
  refine EXEC_loop_inv (fun k s => ∃ (j : Nat) (v : AV) (L : List (Need × Nat)), j + k = p.steps.length ∧ NSt p.steps j s.heap v L ∧ s.dfr = [] ∧ Fr s (NFr p va vb vc v (BN p.steps j) j)) p.steps.length ⟨0, v0, L0, by simp, hN, e2, f⟩ ?_
  rintro k s Q ⟨j, v, L, h0, hN, e2, f⟩ hgo hx
  simp only [Fr_cons, Fr_nil, and_true] at f
  have hvc := hN.out.cell
  by_cases hj : j < p.steps.length
  · have hji : (j : Int) < (p.steps.length : Int) := by omega
    have hg : p.steps[j]? = some p.steps[j] := by simp [hj]
    obtain ⟨_, sv, ⟨cv, hcv, rfl⟩, hidx⟩ := IsL.idx h2 hg
    simp only [show Enc.sz Step = 16 from rfl] at hidx
    have hcc := isl_cell hcv
    have hln := IsL.len hcv
    obtain ⟨h8, hcr⟩ := hcols _ (List.getElem_mem hj)
    have hB1 : BN p.steps (j + 1) = bndN (BN p.steps j) p.steps[j].cols p.steps[j].cols.length := by simp only [BN, hg]
    have hO1 : outN p.steps (j + 1) = if asks p.steps[j] ∧ needOf (BN p.steps j) p.steps[j] ∉ outN p.steps j then outN p.steps j ++ [needOf (BN p.steps j) p.steps[j]] else outN p.steps j := by simp only [outN, hg]
    have hBj := hBlt j
    have holen := outN_len p.steps j
    obtain ⟨hok, hmap, hout, hfst, hcnt⟩ := hN
    generalize hst : p.steps[j] = st at *
    generalize hHs : s.heap = Hs at *
    have hwr : IntKind.i64.wrap ((j : Int) + 1) = ((j + 1 : Nat) : Int) := by rw [wrap_i64 (by omega) (by omega)]; push_cast; rfl
    simp [c_plan_Needs_l1_eq, hHs, f, hji, hidx, hcc, hln, AV.rowok, splice, putCells, buildA_cons, buildA_nil]
    refine needs_loop0 st cv hcv h8 hcr (BN p.steps j) hBj (Hs ++ [nblk st.pred 0]) Hs.length (by simp) (.fptr false [va, vb, .str p.pred, vc] 0) (.map 0 0) v (.fptr false (st.encW cv).cells 0) vb (i64 p.steps.length) (i64 (j : Int)) _ _ _ (by simp) (by simp [e2]) (by simp [Fr, f]) ?_
    intro s1 e1 e2 f
    simp only [Fr_cons, Fr_nil, and_true] at f
    have hneed : nblk st.pred (maskN (BN p.steps j) st.cols st.cols.length) = nblk (needOf (BN p.steps j) st).pred (needOf (BN p.steps j) st).cols := rfl
    rw [← hB1] at f
    rw [hneed] at e1
    simp only [set_app_len, List.set_cons_zero] at e1
    generalize needOf (BN p.steps j) st = nd at *
    have hok1 := HOK_nblk hok nd.pred nd.cols
    have hmap1 : (Hs ++ [nblk nd.pred nd.cols])[0]? = some (.map 0 (entsFrom 0 L) L.length) := by rw [List.getElem?_append_left (lt_of hmap)]; exact hmap
    have hout1 : OutAt (Hs ++ [nblk nd.pred nd.cols]) v (outN p.steps j) := hout.app
    have hnb1 : (Hs ++ [nblk nd.pred nd.cols])[Hs.length]? = some (nblk nd.pred nd.cols) := by simp
    have hpos : 0 < Hs.length := lt_of hmap
    generalize hH1 : Hs ++ [nblk nd.pred nd.cols] = H1 at *
    -- a step that does not ask
    have skip : ¬ asks st → ∀ s' : St, s'.heap = H1 → s'.dfr = [] → Fr s' (NFr p va vb vc v (BN p.steps (j + 1)) (j + 1)) → Q .normal s' := by
      intro ha s' q1 q2 q3
      refine hgo s' (k - 1) (by omega) ⟨j + 1, v, L, by omega, ?_, q2, q3⟩
      rw [q1]
      rw [if_neg (fun h => ha h.1)] at hO1
      exact ⟨hok1, hmap1, by rw [hO1]; exact hout1, by rw [hO1]; exact hfst, fun x hx => by have := hcnt x hx; omega⟩
    -- a step that asks
    have ask : asks st → ∀ (s' : St), s'.heap = H1 → s'.dfr = [] → Fr s' ((8, .ptr Hs.length 0 0 0) :: NFr p va vb vc v (BN p.steps (j + 1)) j) →
        EXEC (callW tbl) loopW kN_tail [.block 1, .seq (.region [⟨some 88, false, .bin .add .no (.tmp 19) (.const (.int .i64 1)), none⟩, ⟨some 19, true, .move (.tmp 88), none⟩])] s' Q := by
      intro ha s' q1 q2 q3
      have q3' := q3
      simp only [Fr_cons, Fr_nil, and_true] at q3'
      unfold kN_tail
      rw [EXEC_seq]
      have go : ∀ (L' : List (Need × Nat)) (c0 b c1 : Nat) (es1 : List MEnt), Counts L L' nd c0 b es1 c1 → c0 < 2 ^ 40 → L'.map Prod.fst = outN p.steps (j + 1) → (∀ x ∈ L', 1 ≤ x.2 ∧ x.2 ≤ j + 1) → (if c0 + 1 = 1 then outN p.steps j ++ [nd] else outN p.steps j) = outN p.steps (j + 1) →
          EXEC (callW tbl) loopW (.draw [⟨some 74, false, .move (.tmp 3), none⟩, ⟨some 75, false, .load true 2 (.tmp 8), none⟩, ⟨some 76, false, .lookup true [.str, .int] (.int .i64 0) (.tmp 74) (.tmp 75) false, none⟩, ⟨some 77, false, .bin .add .no (.tmp 76) (.const (.int .i64 1)), none⟩, ⟨some 78, false, .mapEntry true [.str, .int] (.int .i64 0) (.tmp 74) (.tmp 75), none⟩, ⟨some 79, false, .extract (.tmp 78) 1, none⟩, ⟨none, true, .entryStore (.tmp 74) (.tmp 79) (.tmp 77), none⟩] [(2, 4)])
            (.seq kN_rest :: [.block 1, .seq (.region [⟨some 88, false, .bin .add .no (.tmp 19) (.const (.int .i64 1)), none⟩, ⟨some 19, true, .move (.tmp 88), none⟩])]) s' Q := by
        intro L' c0 b c1 es1 hC hc0 hf' hc' ho'
        refine count_walk L L' nd c0 b c1 es1 hC hc0 H1 Hs.length hnb1 hmap1 s' _ _ q1 q3'.2.2.1 q3'.1 ?_
        rw [KONT_seqN]
        refine needs_rest p va vb vc v (BN p.steps (j + 1)) j L' nd (c0 + 1) hC.look2 _ Hs.length (by rw [List.getElem?_set_ne (by omega)]; exact hnb1) (hok1.set (B := .map 0 (entsFrom 0 L') L'.length) (ents_under _ _ _)) (by rw [List.getElem?_set_self (lt_of hmap1)]) (outN p.steps j) (hout1.set0 _) (by omega) _ _ _ rfl q2 q3 ?_
        intro H' v' s2 g1 g2 g3 g4 g5 g6
        simp only [Fr_cons, Fr_nil, and_true] at g6
        rw [ho'] at g3
        simp [g6]
        rw [hwr]
        exact hgo _ (k - 1) (by omega) ⟨j + 1, v', L', by omega, ⟨by rw [g4]; exact g1, by rw [g4]; exact g2, by rw [g4]; exact g3, hf', hc'⟩, g5, by simp [Fr, g6]⟩
      by_cases hin : ∃ x ∈ L, x.1 = nd
      · obtain ⟨L1, c, L2, hL, hL1⟩ := first_split hin
        have hmem : nd ∈ outN p.steps j := by
          rw [← hfst]
          obtain ⟨x, hx, hxn⟩ := hin
          exact List.mem_map.2 ⟨x, hx, hxn⟩
        rw [if_neg (fun h => h.2 hmem)] at hO1
        subst hL
        have hcc := hcnt (nd, c) (by simp)
        refine go _ c L1.length _ _ (counts_yes hL1) (by simp only at hcc; omega) (by rw [hO1, ← hfst]; simp) ?_ (by rw [if_neg (by simp only at hcc; omega), hO1])
        intro x hx
        simp only [List.mem_append, List.mem_cons] at hx
        rcases hx with hx | rfl | hx
        · have := hcnt x (by simp [hx]); omega
        · simp only at hcc ⊢; omega
        · have := hcnt x (by simp [hx]); omega
      · have hL1 : ∀ x ∈ L, x.1 ≠ nd := fun x hx e => hin ⟨x, hx, e⟩
        have hmem : nd ∉ outN p.steps j := by
          rw [← hfst]
          intro h
          obtain ⟨x, hx, hxn⟩ := List.mem_map.1 h
          exact hL1 x hx hxn
        rw [if_pos ⟨ha, hmem⟩] at hO1
        refine go _ 0 L.length _ _ (counts_no hL1) (by omega) (by rw [hO1, ← hfst]; simp) ?_ (by rw [if_pos rfl, hO1])
        intro x hx
        rcases List.mem_append.1 hx with hx | hx
        · have := hcnt x hx; omega
        · simp at hx; subst hx; simp
    by_cases o1 : st.op = 1
    · simp [e1, f, o1, hcc, AV.rowok]
      exact ask (.inl o1) _ rfl (by simp [e2]) (by simp [Fr, f])
    · by_cases o2 : st.op = 2
      · simp [e1, f, o2, hcc, AV.rowok]
        exact ask (.inr o2) _ rfl (by simp [e2]) (by simp [Fr, f])
      · simp [e1, f, o1, o2, hcc, AV.rowok]
        rw [hwr]
        exact skip (by rintro (h | h); exact o1 h; exact o2 h) _ rfl (by simp [e2]) (by simp [Fr, f])
  · have hji : ¬ (j : Int) < (p.steps.length : Int) := by omega
    have hje : j = p.steps.length := by omega
    subst hje
    simp [c_plan_Needs_l1_eq, f, hji]
    exact hx _ _ (by simp) (hexit _ v _ hN.ok hN.out rfl (by simp [e2]) (by simp [f]))
end Go.Abs.Plan
