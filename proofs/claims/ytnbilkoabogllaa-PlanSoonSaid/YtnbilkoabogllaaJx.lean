/- Plan: small functions, walked. -/
import Derived.Test.YtnbilkoabogllaaGx
import Derived.Test.YtnbilkoabogllaaFx
import Derived.Test.YtnbilkoabogllaaA36x
import Derived.KernelRfl
set_option linter.unusedSimpArgs false
set_option linter.unusedVariables false
namespace Go.Abs.Plan
open Enc (Is)

def badKind (any : Bool) (t : Term) : Bool := t.kind != 1 && t.kind != 2 && !(any && t.kind == 3)

theorem kinds1_call (b any : Bool) (H : Heap) (t : Term) :
    callW tbl (.func f_plan_kinds_1 [] [.fptr b [.bool any] 0]) [t.enc] H = some (.bool (badKind any t), H) := by
  refine callB a_plan_kinds_1 rfl rfl rfl (fun F hF => ?_)
  by_cases h1 : t.kind = 1
  · simp [a_plan_kinds_1, c_plan_kinds_1, AV.rowok, h1]
    exact hF _ _ (by simp [closeCall, a_plan_kinds_1, trunc, badKind, h1])
  · by_cases h2 : t.kind = 2
    · simp [a_plan_kinds_1, c_plan_kinds_1, AV.rowok, h2]
      exact hF _ _ (by simp [closeCall, a_plan_kinds_1, trunc, badKind, h2])
    · cases any <;> simp [a_plan_kinds_1, c_plan_kinds_1, AV.rowok, h1, h2] <;> exact hF _ _ (by simp [closeCall, a_plan_kinds_1, trunc, badKind, h1, h2] <;> rfl)

theorem few_run (v : AV) (ts : List Term) (h : Is v ts) (hl : ts.length < 2 ^ 63) : ∃ r, runPure (callW tbl) loopW a_law18_few [v] = some r ∧ Is r (ts.take 12) := by
  rcases h.cases with ⟨rfl, rfl⟩ | ⟨fl, rows, rfl, hr⟩
  · refine pureK a_law18_few rfl (fun F hF => ?_)
    simp [a_law18_few, c_law18_few]
    exact hF _ _ _ (reify_plain rfl) IsL.nil
  · have hlen := hr.length
    refine pureK a_law18_few rfl (fun F hF => ?_)
    by_cases h12 : 12 < rows.length
    · have e1 : (12 : Int) < rows.length := by omega
      have hs : sliceA 5 none (some (i64 12)) (.fsl fl rows) = some (.fsl fl (rows.take 12)) := by rw [slice_rows (sz := 5) (l := 0) (h := 12) hr rfl (by decide) (by simp [bound]; omega) rfl]; simp
      have hp := rows_plain (hr.take 12)
      simp [a_law18_few, c_law18_few, e1, hs]
      exact hF _ _ _ (reify_plain (by simpa using hp)) (IsL.fsl (hr.take 12))
    · have e1 : ¬ (12 : Int) < rows.length := by omega
      simp [a_law18_few, c_law18_few, e1]
      exact hF _ _ _ (reify_plain (by simpa using rows_plain hr)) (by rw [List.take_of_length_le (by omega)]; exact IsL.fsl hr)

def idxOf {α : Type} (p : α → Bool) (l : List α) : Int := match l.findIdx? p with | some j => j | none => -1
theorem idxOf_any {α : Type} (p : α → Bool) (l : List α) : decide (0 ≤ idxOf p l) = l.any p := by
  unfold idxOf
  cases hf : l.findIdx? p with
  | none => rw [List.findIdx?_eq_none_iff] at hf; simp; intro x hx; simpa using hf x hx
  | some j =>
    have := List.findIdx?_eq_some_iff_findIdx_eq.1 hf
    simp
    obtain ⟨h1, h2⟩ := this
    exact ⟨l[j], List.getElem_mem h1, by subst h2; exact List.findIdx_getElem⟩

/-- IndexFunc, of a function that looks at values alone. -/
theorem indexFunc_call (v : AV) (rows : List AV) (ts : List Term) (hr : All2 Is rows ts) (H : Heap) (hv : View H 5 v rows) (fv : AV) (p : Term → Bool) (hc : ∀ t ∈ ts, callW tbl fv [t.enc] H = some (.bool (p t), H)) (hl : ts.length < 2 ^ 62) :
    callW tbl (.func f_slices_IndexFunc_Term_Term [] []) [v, fv] H = some (i64 (idxOf p ts), H) := by
  have hlen := hr.length
  refine callB a_slices_IndexFunc_Term_Term rfl rfl rfl (fun F hF => ?_)
  simp [a_slices_IndexFunc_Term_Term, c_slices_IndexFunc_Term_Term, c_slices_IndexFunc_Term_Term_l0, hv.len]
  refine EXEC_range ts.length (fun j s => s.heap = H ∧ s.dfr = [] ∧ s.tm.get 0 = v ∧ s.tm.get 1 = fv ∧ s.tm.get 7 = i64 ts.length ∧ s.tm.get 8 = i64 j ∧ ts.findIdx? p = ((ts.drop j).findIdx? p).map (· + j)) 0 (by omega) (by simp [hlen]) (by omega) (by simp; grind) ?_ ?_
  · rintro j s B hj ⟨h1, h2, h3, h4, h5, h6, h7⟩ hn hx
    have hd := List.drop_eq_getElem_cons hj
    have hg : ts[j]? = some ts[j] := by simp [hj]
    obtain ⟨r, hrj, rfl⟩ := hr.get hg
    obtain ⟨q, hq1, hq2⟩ := hv.idx (call := callW tbl) (lp := loopW) hrj
    have hq2 := fun dst keep os loc s ks R hs => hq2 true 5 ts[j].enc dst keep os loc s ks R hs rfl
    have hcc := hc ts[j] (List.getElem_mem hj)
    rw [hd, List.findIdx?_cons] at h7
    cases hp : p ts[j] with
    | true =>
      simp [h1, h2, h3, h4, h6, hcc, hp, hq1, hq2]
      refine hx _ _ (by simp) (by simp) ?_
      simp [hp] at h7
      simp
      exact hF _ _ (by simp [closeCall, a_slices_IndexFunc_Term_Term, trunc, h7, idxOf])
    | false =>
      simp [h1, h2, h3, h4, h6, hcc, hp, hq1, hq2]
      refine hn _ _ (.inl rfl) (by simp [h6]) ⟨rfl, rfl, by simp [h3], by simp [h4], by simp [h5], by simp, ?_⟩
      simp [hp] at h7
      rw [h7]; cases (ts.drop (j + 1)).findIdx? p <;> simp; omega
  · rintro s ⟨h1, h2, h3, h4, h5, h6, h7⟩
    simp [h1, h2]
    rw [List.drop_eq_nil_of_le (Nat.le_refl _)] at h7
    simp only [List.findIdx?_nil, Option.map_none] at h7
    exact hF _ _ (by simp only [closeCall, a_slices_IndexFunc_Term_Term, trunc, h7, idxOf]; simp)

theorem containsFunc_call (v : AV) (rows : List AV) (ts : List Term) (hr : All2 Is rows ts) (H : Heap) (hv : View H 5 v rows) (fv : AV) (p : Term → Bool) (hc : ∀ t ∈ ts, callW tbl fv [t.enc] H = some (.bool (p t), H)) (hl : ts.length < 2 ^ 62) :
    callW tbl (.func f_slices_ContainsFunc_Term_Term [] []) [v, fv] H = some (.bool (ts.any p), H) := by
  have hi := indexFunc_call v rows ts hr H hv fv p hc hl
  refine callB a_slices_ContainsFunc_Term_Term rfl rfl rfl (fun F hF => ?_)
  have := idxOf_any p ts
  simp [a_slices_ContainsFunc_Term_Term, c_slices_ContainsFunc_Term_Term, hi, this]
  exact hF _ _ (by simp [closeCall, a_slices_ContainsFunc_Term_Term, trunc])

theorem kinds_run (v : AV) (ts : List Term) (any : Bool) (h : Is v ts) (hl : ts.length < 2 ^ 62) : ∃ r, runPure (callW tbl) loopW a_plan_kinds [v, .bool any] = some r ∧ r = .bool (!ts.any (badKind any)) := by
  refine pureK a_plan_kinds rfl (fun F hF => ?_)
  obtain ⟨rows, hr, hv⟩ := IsL.view h []
  have := containsFunc_call v rows ts hr [] hv (.func f_plan_kinds_1 [] [.fptr false [.bool any] 0]) (badKind any) (fun t _ => kinds1_call _ _ _ t) hl
  simp [a_plan_kinds, c_plan_kinds, AV.rowok, this]
  exact hF _ _ _ (reify_plain rfl) rfl

/-- Calls of pure functions of one value. -/
theorem callP1 {α : Type} [Enc α] {f : FuncId} {af : AFunc} (ht : tbl f = some (.code af)) (hp : af.pure = true) {S : AV → Prop} (x : α) (hS : ∀ r, S r → S r.lend)
    (hrun : ∀ v : AV, Is v x → ∃ r, runPure (callW tbl) loopW af [v] = some r ∧ S r) (v : AV) (hv : Is v x) (H : Heap) : ∃ r, callW tbl (.func f [] []) [v] H = some (r, H) ∧ S r :=
  callP_of ht hp (R := fun a => ∃ v, a = [v] ∧ Is v x) (by rintro a ⟨v, rfl, h⟩; simp [Enc.plain h]) (by rintro a ⟨v, rfl, h⟩; exact ⟨v.lend, rfl, Enc.lend h⟩) hS (by rintro a ⟨v, rfl, h⟩; exact hrun v h) [v] H ⟨v, rfl, hv⟩

theorem few_call (v : AV) (ts : List Term) (h : Is v ts) (hl : ts.length < 2 ^ 63) (H : Heap) : ∃ r, callW tbl (.func f_law18_few [] []) [v] H = some (r, H) ∧ Is r (ts.take 12) :=
  callP1 (S := fun r => Is r (ts.take 12)) rfl rfl ts (fun r h => Enc.lend h) (fun v h => few_run v ts h hl) v h H

theorem kinds_call (v : AV) (ts : List Term) (any : Bool) (h : Is v ts) (hl : ts.length < 2 ^ 62) (H : Heap) : callW tbl (.func f_plan_kinds [] []) [v, .bool any] H = some (.bool (!ts.any (badKind any)), H) := by
  obtain ⟨r, h1, rfl⟩ := callP_of (tbl := tbl) (f := f_plan_kinds) (af := a_plan_kinds) rfl rfl (R := fun a => ∃ v, a = [v, .bool any] ∧ Is v ts) (S := fun r => r = .bool (!ts.any (badKind any))) (by rintro a ⟨v, rfl, h⟩; simp [Enc.plain h])
    (by rintro a ⟨v, rfl, h⟩; exact ⟨v.lend, rfl, Enc.lend h⟩) (by rintro r rfl; rfl) (by rintro a ⟨v, rfl, h⟩; exact kinds_run v ts any h hl) [v, .bool any] H ⟨v, rfl, h⟩
  exact h1

end Go.Abs.Plan

/- Plan: names, places, bits; the columns of terms. -/
set_option linter.unusedSimpArgs false
set_option linter.unusedVariables false
namespace Go.Abs.Plan
open Enc (Is)

/-! ### Bits -/
theorem wrap_u64 {n : Int} (h1 : 0 ≤ n) (h2 : n < 2 ^ 64) : IntKind.u64.wrap n = n := by
  simp [IntKind.wrap, IntKind.bits, IntKind.signed]
  omega
theorem ofInt_nat (n : Nat) : BitVec.ofInt 64 (n : Int) = BitVec.ofNat 64 n := by simp
theorem fdiv_pow (B j : Nat) : ((B : Int).fdiv (2 ^ j)) = ((B >>> j : Nat) : Int) := by
  rw [Int.fdiv_eq_ediv_of_nonneg _ (Int.pow_nonneg (by decide)), Nat.shiftRight_eq_div_pow]; simp
theorem shr_u64 {B j : Nat} (hj : j < 64) (eq : EqKind) : binA .shr eq (.int .u64 (B : Int)) (i64 (j : Int)) = some (.int .u64 ((B >>> j : Nat) : Int)) := by
  have : ¬ ((j : Int) < 0) := by omega
  have e : min j 64 = j := by omega
  simp only [binA, this, if_false, Int.toNat_natCast, IntKind.bits, e, fdiv_pow]
theorem and1_bv (n : Nat) : (BitVec.ofNat 64 n &&& BitVec.ofNat 64 1).toNat = n % 2 := by simp [BitVec.toNat_and, Nat.and_one_is_mod]
theorem and1_u64 {n : Nat} (hn : n < 2 ^ 64) (eq : EqKind) : binA .and eq (.int .u64 (n : Int)) (.int .u64 1) = some (.int .u64 ((n % 2 : Nat) : Int)) := by
  have h : IntKind.u64.wrap (((BitVec.ofNat 64 n &&& BitVec.ofNat 64 1).toNat : Nat) : Int) = ((n % 2 : Nat) : Int) := by rw [and1_bv, wrap_u64 (by omega) (by omega)]
  have h2 : BitVec.ofInt (IntKind.u64).bits (n : Int) = BitVec.ofNat 64 n := ofInt_nat n
  show some (AV.int .u64 (IntKind.u64.wrap (((BitVec.ofInt 64 (n : Int) &&& BitVec.ofInt 64 1).toNat : Nat) : Int))) = _
  rw [show BitVec.ofInt 64 (n : Int) = BitVec.ofNat 64 n from ofInt_nat n]
  exact congrArg (fun x => some (AV.int .u64 x)) h
theorem bit_eq (B j : Nat) : (((B >>> j) % 2 : Nat) : Int) = 1 ↔ B.testBit j = true := by
  rw [Nat.testBit_eq_decide_div_mod_eq, Nat.shiftRight_eq_div_pow]; simp only [decide_eq_true_eq]; omega
theorem shl_u64 {j : Nat} (hj : j < 64) (eq : EqKind) : binA .shl eq (.int .u64 1) (i64 (j : Int)) = some (.int .u64 ((2 ^ j : Nat) : Int)) := by
  have h0 : ¬ ((j : Int) < 0) := by omega
  have e : min j 64 = j := by omega
  have hp : 2 ^ j < 2 ^ 64 := Nat.pow_lt_pow_right (by decide) hj
  simp only [binA, h0, if_false, Int.toNat_natCast, IntKind.bits, e, Int.one_mul]
  have : ((2 : Int) ^ j) = ((2 ^ j : Nat) : Int) := by simp
  have hc : ((2 ^ j : Nat) : Int) < 2 ^ 64 := by exact_mod_cast hp
  rw [this, wrap_u64 (Int.natCast_nonneg _) hc]
theorem or_bv {x y : Nat} (hx : x < 2 ^ 64) (hy : y < 2 ^ 64) : (BitVec.ofNat 64 x ||| BitVec.ofNat 64 y).toNat = x ||| y := by
  simp only [BitVec.toNat_or, BitVec.toNat_ofNat]
  rw [Nat.mod_eq_of_lt hx, Nat.mod_eq_of_lt hy]
theorem or_u64 {x y : Nat} (hx : x < 2 ^ 64) (hy : y < 2 ^ 64) (eq : EqKind) : binA .or eq (.int .u64 (x : Int)) (.int .u64 (y : Int)) = some (.int .u64 ((x ||| y : Nat) : Int)) := by
  have hlt := Nat.or_lt_two_pow hx hy
  have h : IntKind.u64.wrap (((BitVec.ofNat 64 x ||| BitVec.ofNat 64 y).toNat : Nat) : Int) = ((x ||| y : Nat) : Int) := by
    rw [or_bv hx hy, wrap_u64 (Int.natCast_nonneg _) (by exact_mod_cast hlt)]
  show some (AV.int .u64 (IntKind.u64.wrap (((BitVec.ofInt 64 (x : Int) ||| BitVec.ofInt 64 (y : Int)).toNat : Nat) : Int))) = _
  rw [show BitVec.ofInt 64 (x : Int) = BitVec.ofNat 64 x from ofInt_nat x, show BitVec.ofInt 64 (y : Int) = BitVec.ofNat 64 y from ofInt_nat y]
  exact congrArg (fun x => some (AV.int .u64 x)) h

/-! ### Names -/
theorem index_run (v : AV) (ns : List ByteArray) (nm : ByteArray) (h : Is v ns) (hl : ns.length < 2 ^ 62) : ∃ r, runPure (callW tbl) loopW a_slices_Index_string_string [v, .str nm] = some r ∧ r = i64 (idxOf (fun m => decide (nm = m)) ns) := by
  rcases h.cases with ⟨rfl, rfl⟩ | ⟨fl, rows, rfl, hr⟩
  · refine pureK a_slices_Index_string_string rfl (fun F hF => ?_)
    simp [a_slices_Index_string_string, c_slices_Index_string_string, c_slices_Index_string_string_l0]
    refine EXEC_range 0 (fun j s => s.heap = [] ∧ s.dfr = [] ∧ s.tm.get 7 = i64 0 ∧ s.tm.get 8 = i64 j) 0 (by omega) (by simp) (by omega) (by simp; grind) (fun j s B hj => by omega) ?_
    rintro s ⟨h1, h2, _⟩
    simp [h1, h2]
    exact hF _ _ _ (reify_plain rfl) rfl
  · have hlen := hr.length
    refine pureK a_slices_Index_string_string rfl (fun F hF => ?_)
    simp [a_slices_Index_string_string, c_slices_Index_string_string, c_slices_Index_string_string_l0]
    refine EXEC_range ns.length (fun j s => s.heap = [] ∧ s.dfr = [] ∧ s.tm.get 0 = .fsl fl rows ∧ s.tm.get 1 = .str nm ∧ s.tm.get 7 = i64 ns.length ∧ s.tm.get 8 = i64 j ∧ ns.findIdx? (fun m => decide (nm = m)) = ((ns.drop j).findIdx? (fun m => decide (nm = m))).map (· + j)) 0 (by omega) (by simp [hlen]) (by omega) (by simp; grind) ?_ ?_
    · rintro j s B hj ⟨h1, h2, h3, h4, h5, h6, h7⟩ hn hx
      have hd := List.drop_eq_getElem_cons hj
      have hg : ns[j]? = some ns[j] := by simp [hj]
      obtain ⟨r, hrj, rfl⟩ := hr.get hg
      rw [hd, List.findIdx?_cons] at h7
      by_cases hp : nm = ns[j]
      · simp [h1, h2, h3, h4, h6, hrj, hp]
        refine hx _ _ (by simp) (by simp) ?_
        simp [hp] at h7
        simp
        exact hF _ _ _ (reify_plain rfl) (by simp [idxOf, hp, h7])
      · simp [h1, h2, h3, h4, h6, hrj, hp]
        refine hn _ _ (.inl rfl) (by simp [h6]) ⟨rfl, rfl, by simp [h3], by simp [h4], by simp [h5], by simp, ?_⟩
        simp [hp] at h7
        rw [h7]; cases (ns.drop (j + 1)).findIdx? (fun m => decide (nm = m)) <;> simp; omega
    · rintro s ⟨h1, h2, h3, h4, h5, h6, h7⟩
      simp [h1, h2]
      rw [List.drop_eq_nil_of_le (Nat.le_refl _)] at h7
      simp only [List.findIdx?_nil, Option.map_none] at h7
      exact hF _ _ _ (reify_plain rfl) (by simp only [idxOf, h7])

theorem index_call (v : AV) (ns : List ByteArray) (nm : ByteArray) (h : Is v ns) (hl : ns.length < 2 ^ 62) (H : Heap) : callW tbl (.func f_slices_Index_string_string [] []) [v, .str nm] H = some (i64 (idxOf (fun m => decide (nm = m)) ns), H) := by
  obtain ⟨r, h1, rfl⟩ := callP_of (tbl := tbl) (f := f_slices_Index_string_string) (af := a_slices_Index_string_string) rfl rfl (R := fun a => ∃ v, a = [v, .str nm] ∧ Is v ns) (S := fun r => r = i64 (idxOf (fun m => decide (nm = m)) ns)) (by rintro a ⟨v, rfl, h⟩; simp [Enc.plain h])
    (by rintro a ⟨v, rfl, h⟩; exact ⟨v.lend, rfl, Enc.lend h⟩) (by rintro r rfl; rfl) (by rintro a ⟨v, rfl, h⟩; exact index_run v ns nm h hl) [v, .str nm] H ⟨v, rfl, h⟩
  exact h1

/-! ### What is being made -/
structure Mk where
  r0 : AV
  r1 : AV
  r2 : AV
  vars : AV
  steps : AV
  pred : AV
  head : AV
  B : Nat
  left : AV
  delta : Int
def Mk.blk (m : Mk) (g : Nat) : Blk := .arr g 10 [.agg [m.r0, m.r1, m.r2, m.vars, m.steps, m.pred, m.head, .int .u64 m.B, m.left, i64 m.delta]]

def placeOf (ns : List ByteArray) (nm : ByteArray) : Int := idxOf (fun m => decide (nm = m)) ns

theorem getD_some {H : Heap} {b : Nat} {B : Blk} (h : H[b]? = some B) : H[b]?.getD (.dead 0) = B := by rw [h]; rfl

theorem place_call (g b : Nat) (H : Heap) (m : Mk) (ns : List ByteArray) (nm : ByteArray) (h : Is m.vars ns) (hl : ns.length < 2 ^ 62) (hb : H[b]? = some (m.blk g)) :
    callW tbl (.func f_plan_making_place [] []) [.ptr b g 0 0, .str nm] H = some (i64 (placeOf ns nm), H) := by
  have hc := index_call m.vars ns nm h hl H
  refine callB a_plan_making_place rfl rfl rfl (fun F hF => ?_)
  simp [a_plan_making_place, c_plan_making_place, hat_of hb, Mk.blk, hc]
  exact hF _ _ (by simp [closeCall, a_plan_making_place, trunc]; rfl)

theorem has_call (g b : Nat) (H : Heap) (m : Mk) (ns : List ByteArray) (nm : ByteArray) (h : Is m.vars ns) (hl : ns.length ≤ 64) (hb : H[b]? = some (m.blk g)) (hB : m.B < 2 ^ 64) {j : Nat} (hj : placeOf ns nm = j) (hjl : j < 64) :
    callW tbl (.func f_plan_making_has [] []) [.ptr b g 0 0, .str nm] H = some (.bool (m.B.testBit j), H) := by
  have hc := place_call g b H m ns nm h (by omega) hb
  rw [hj] at hc
  have hs := shr_u64 (B := m.B) hjl .no
  have ha := and1_u64 (n := m.B >>> j) (by rw [Nat.shiftRight_eq_div_pow]; exact Nat.lt_of_le_of_lt (Nat.div_le_self ..) hB) .no
  have ht := bit_eq m.B j
  generalize (m.B >>> j) % 2 = q at ha ht
  generalize m.B >>> j = p at hs ha
  have hq : decide ((q : Int) = 1) = m.B.testBit j := by
    cases h : m.B.testBit j <;> simp [h] at ht ⊢ <;> exact ht
  have he : binA .eql .no (.int .u64 (q : Int)) (.int .u64 1) = some (.bool (m.B.testBit j)) := by rw [← hq]; simp; rfl
  refine callB a_plan_making_has rfl rfl rfl (fun F hF => ?_)
  simp [a_plan_making_has, c_plan_making_has, runRecs, stepRec, slotsOf, makesOf, AOp.makes, wantedA, runAct, RSt.put, hat_of hb, Mk.blk, hc, pairsOk, Rec.indep, recOf, optBeq, AV.beq, hs, ha, he]
  exact hF _ _ (by simp [closeCall, a_plan_making_has, trunc])
end Go.Abs.Plan

/- Plan: columns. -/
set_option linter.unusedSimpArgs false
set_option linter.unusedVariables false
namespace Go.Abs.Plan
open Enc (Is)

def plN (ns : List ByteArray) (nm : ByteArray) : Nat := ns.findIdx (fun m => decide (nm = m))
theorem plN_lt {ns : List ByteArray} {nm : ByteArray} (h : nm ∈ ns) : plN ns nm < ns.length := List.findIdx_lt_length_of_exists ⟨nm, h, by simp⟩
theorem placeOf_mem {ns : List ByteArray} {nm : ByteArray} (h : nm ∈ ns) : placeOf ns nm = (plN ns nm : Int) := by
  have h1 := plN_lt h
  unfold placeOf idxOf
  have : ns.findIdx? (fun m => decide (nm = m)) = some (plN ns nm) := by
    rw [List.findIdx?_eq_some_iff_findIdx_eq]
    exact ⟨h1, rfl⟩
  rw [this]

def goodTerm (ns : List ByteArray) (t : Term) : Prop := t.kind = 2 ∨ t.kind = 3 ∨ t.name ∈ ns
def colOf (ns : List ByteArray) (B : Nat) (t : Term) : Col :=
  if t.kind = 2 then ⟨1, 0, t.v⟩ else if t.kind = 3 then ⟨2, 0, zeroVal⟩ else if B.testBit (plN ns t.name) then ⟨4, plN ns t.name, zeroVal⟩ else ⟨3, plN ns t.name, zeroVal⟩
def colB (ns : List ByteArray) (B : Nat) (t : Term) : Nat := if t.kind = 2 then B else if t.kind = 3 then B else B ||| 2 ^ plN ns t.name

theorem colB_lt {ns : List ByteArray} {B : Nat} {t : Term} (hl : ns.length ≤ 64) (hB : B < 2 ^ 64) (ht : goodTerm ns t) : colB ns B t < 2 ^ 64 := by
  unfold colB
  split
  · exact hB
  · split
    · exact hB
    · rename_i h2 h3
      rcases ht with h | h | h
      · exact absurd h h2
      · exact absurd h h3
      · have := plN_lt h
        exact Nat.or_lt_two_pow hB (Nat.pow_lt_pow_right (by decide) (by omega))

theorem testBit_or {B j : Nat} (h : B.testBit j = true) : B ||| 2 ^ j = B := by
  apply Nat.eq_of_testBit_eq
  intro i
  rw [Nat.testBit_or, Nat.testBit_two_pow]
  by_cases e : j = i
  · subst e; simp [h]
  · simp [e]

theorem col_call (g b : Nat) (H : Heap) (m : Mk) (ns : List ByteArray) (t : Term) (h : Is m.vars ns) (hl : ns.length ≤ 64) (hb : H[b]? = some (m.blk g)) (hB : m.B < 2 ^ 64) (hH : HOK H) (ht : goodTerm ns t) :
    callW tbl (.func f_plan_making_col [] []) [.ptr b g 0 0, t.enc] H = some ((colOf ns m.B t).enc, H.set b ({ m with B := colB ns m.B t }.blk g)) := by
  have hlt := (List.getElem?_eq_some_iff.1 hb).1
  refine callB a_plan_making_col rfl rfl rfl (fun F hF => ?_)
  by_cases h2 : t.kind = 2
  · simp [a_plan_making_col, c_plan_making_col, AV.rowok, h2, buildA, splice, putCells]
    refine hF _ _ ?_
    rw [show (a_plan_making_col.frz) = false from rfl, close_back hH rfl (plain_under _ (by simp))]
    simp [colOf, colB, h2, set_same hb]
  · by_cases h3 : t.kind = 3
    · simp [a_plan_making_col, c_plan_making_col, AV.rowok, h2, h3, buildA, splice, putCells]
      refine hF _ _ ?_
      rw [show (a_plan_making_col.frz) = false from rfl, close_back hH rfl (plain_under _ (by simp))]
      simp [colOf, colB, h2, h3, set_same hb, zeroVal]
    · have hm : t.name ∈ ns := by rcases ht with h | h | h <;> first | exact h | contradiction
      have hp := placeOf_mem hm
      have hj := plN_lt hm
      have hpc := fun H' (hb' : H'[b]? = some (m.blk g)) => place_call g b H' m ns t.name h (by omega) hb'
      have hhc := fun H' (hb' : H'[b]? = some (m.blk g)) => has_call g b H' m ns t.name h hl hb' hB hp (by omega)
      have hb' : ∀ C, (H ++ [C])[b]? = some (m.blk g) := fun C => by rw [List.getElem?_append_left hlt]; exact hb
      simp only [hp] at hpc
      by_cases hbit : m.B.testBit (plN ns t.name) = true
      · rw [hbit] at hhc
        simp [a_plan_making_col, c_plan_making_col, AV.rowok, h2, h3, buildA, splice, putCells, hpc _ (hb' _), hhc _ (hb' _)]
        refine hF _ _ ?_
        rw [show (a_plan_making_col.frz) = false from rfl, close_back hH rfl (plain_under _ (by simp))]
        simp [colOf, colB, h2, h3, hbit, testBit_or hbit, set_same hb, zeroVal]
      · have hbit' : m.B.testBit (plN ns t.name) = false := by simpa using hbit
        rw [hbit'] at hhc
        have hpow : 2 ^ plN ns t.name < 2 ^ 64 := Nat.pow_lt_pow_right (by decide) (by omega)
        have hs := shl_u64 (j := plN ns t.name) (by omega) .no
        have ho := or_u64 hB hpow .no
        have hlt1 : b < H.length + 1 := by omega
        generalize hq : 2 ^ plN ns t.name = q at hs ho
        generalize ho' : m.B ||| q = r at ho
        simp [a_plan_making_col, c_plan_making_col, AV.rowok, h2, h3, buildA, splice, putCells, hpc _ (hb' _), hhc _ (hb' _), runRecs, stepRec, slotsOf, makesOf, AOp.makes, wantedA, runAct, RSt.put, hat_of hb, Mk.blk, pairsOk, Rec.indep, recOf, optBeq, AV.beq, hs, ho, hlt, hlt1]
        refine hF _ _ ?_
        have hu : ({ m with B := r }.blk g).under H.length = true := by
          have := hH.get hb
          simpa [Mk.blk, Blk.under, AV.unders, AV.under] using this
        have hset := hH.set (b := b) hu
        rw [show (a_plan_making_col.frz) = false from rfl]
        have := close_back (T := [Blk.arr 0 5 [Col.enc ⟨3, plN ns t.name, zeroVal⟩]]) (r := Col.enc ⟨3, plN ns t.name, zeroVal⟩) (n := H.length) hset (by simp) (plain_under _ (by simp))
        rw [show colOf ns m.B t = ⟨3, plN ns t.name, zeroVal⟩ by simp [colOf, h2, h3, hbit']]
        rw [show colB ns m.B t = r by rw [colB, if_neg h2, if_neg h3, hq, ho']]
        exact this

def colsOf (ns : List ByteArray) : Nat → List Term → List Col
  | _, [] => []
  | B, t :: ts => colOf ns B t :: colsOf ns (colB ns B t) ts
def colsB (ns : List ByteArray) (B : Nat) (ts : List Term) : Nat := ts.foldl (colB ns) B

theorem colsB_lt {ns : List ByteArray} (hl : ns.length ≤ 64) : ∀ {ts : List Term} {B : Nat}, B < 2 ^ 64 → (∀ t ∈ ts, goodTerm ns t) → colsB ns B ts < 2 ^ 64
  | [], B, hB, _ => hB
  | t :: ts, B, hB, h => by
    show colsB ns (colB ns B t) ts < _
    exact colsB_lt hl (colB_lt hl hB (h t (by simp))) (fun x hx => h x (by simp [hx]))
theorem colsB_snoc (ns : List ByteArray) (B : Nat) (ts : List Term) (t : Term) : colsB ns B (ts ++ [t]) = colB ns (colsB ns B ts) t := by simp [colsB]
theorem colsOf_snoc (ns : List ByteArray) : ∀ (ts : List Term) (B : Nat) (t : Term), colsOf ns B (ts ++ [t]) = colsOf ns B ts ++ [colOf ns (colsB ns B ts) t]
  | [], B, t => rfl
  | x :: ts, B, t => by simp [colsOf, colsOf_snoc ns ts, colsB]
theorem colsOf_length (ns : List ByteArray) : ∀ (ts : List Term) (B : Nat), (colsOf ns B ts).length = ts.length
  | [], B => rfl
  | x :: ts, B => by simp [colsOf, colsOf_length ns ts]

def colRows (l : List Col) : List AV := l.map Col.enc
theorem colRows_is (l : List Col) : All2 Is (colRows l) l := by
  induction l with
  | nil => exact .nil
  | cons c l ih => exact .cons rfl ih

theorem cols_call (g b : Nat) (H : Heap) (m : Mk) (ns : List ByteArray) (v : AV) (ts : List Term) (h : Is m.vars ns) (hl : ns.length ≤ 64) (hb : H[b]? = some (m.blk g)) (hB : m.B < 2 ^ 64) (hH : HOK H) (hv : Is v ts) (ht : ∀ t ∈ ts, goodTerm ns t) (hts : ts.length < 2 ^ 40) :
    ∃ r, callW tbl (.func f_plan_making_cols [] []) [.ptr b g 0 0, v] H = some (r, H.set b ({ m with B := colsB ns m.B ts }.blk g)) ∧ Is r (colsOf ns m.B ts) := by
  have hlt := lt_of hb
  have hu : ∀ B', ({ m with B := B' }.blk g).under H.length = true := fun B' => by
    have := hH.get hb
    simpa [Mk.blk, Blk.under, AV.unders, AV.under] using this
  obtain ⟨vv, Hs, hacc, hcall⟩ := callE (tbl := tbl) (f := f_plan_making_cols) (first := []) (captured := []) (args := [.ptr b g 0 0, v]) (H := H)
    (fun vv Hs => Acc (H.set b ({ m with B := colsB ns m.B ts }.blk g)) 5 vv Hs (colRows (colsOf ns m.B ts))) a_plan_making_cols rfl rfl rfl (fun F hF => by
    rcases hv.cases with ⟨rfl, rfl⟩ | ⟨fl, rows, rfl, hr⟩
    · simp [a_plan_making_cols, c_plan_making_cols, c_plan_making_cols_l0]
      refine EXEC_range 0 (fun j s => s.heap = H ∧ s.dfr = [] ∧ s.tm.get 9 = i64 0 ∧ s.tm.get 10 = i64 j ∧ s.tm.get 5 = .nilsl) 0 (by omega) (by simp) (by omega) (by simp; grind) (fun j s B hj => by omega) ?_
      rintro s ⟨h1, h2, h3, h4, h5⟩
      simp [h1, h2, h5]
      exact hF _ _ (by simpa [colsB, colsOf, colRows, set_same hb] using Acc.nil)
    · have hlen := hr.length
      simp [a_plan_making_cols, c_plan_making_cols, c_plan_making_cols_l0]
      refine EXEC_range ts.length (fun j s => Acc (H.set b ({ m with B := colsB ns m.B (ts.take j) }.blk g)) 5 (s.tm.get 5) s.heap (colRows (colsOf ns m.B (ts.take j))) ∧ s.dfr = [] ∧ s.tm.get 0 = .ptr b g 0 0 ∧ s.tm.get 8 = .fsl fl rows ∧ s.tm.get 9 = i64 ts.length ∧ s.tm.get 10 = i64 j)
        0 (by omega) (by simpa [hlen, colsB, colsOf, colRows, set_same hb] using Acc.nil) (by omega) (by simp; grind) ?_ ?_
      · rintro j s B hj ⟨h1, h2, h3, h4, h5, h6⟩ hn hx
        have hg : ts[j]? = some ts[j] := by simp [hj]
        obtain ⟨r, hrj, rfl⟩ := hr.get hg
        have htk : ts.take (j + 1) = ts.take j ++ [ts[j]] := by rw [List.take_add_one, hg]; rfl
        have hsj : H.set b ({ m with B := colsB ns m.B (ts.take j) }.blk g) = H.set b ({ m with B := colsB ns m.B (ts.take j) }.blk g) := rfl
        -- the column
        have hHj : HOK (H.set b ({ m with B := colsB ns m.B (ts.take j) }.blk g)) := hH.set (hu _)
        have hgj : s.heap[b]? = some ({ m with B := colsB ns m.B (ts.take j) }.blk g) := by rw [h1.get (by simpa using hlt)]; simp [hlt]
        have hcol := col_call g b s.heap { m with B := colsB ns m.B (ts.take j) } ns ts[j] h hl hgj (colsB_lt hl hB (fun t ht' => ht t (List.mem_of_mem_take ht'))) (h1.hok hHj (rows_plain (colRows_is _))) (ht _ (List.getElem_mem hj))
        -- the row
        have h1' := h1.set (b := b) (by simpa using hlt) ({ m with B := colB ns (colsB ns m.B (ts.take j)) ts[j] }.blk g)
        obtain ⟨v', Hs', hacc', happ⟩ := h1'.one (call := callW tbl) (lp := loopW) (bytes := 48) (fl := false) (r := (colOf ns (colsB ns m.B (ts.take j)) ts[j]).enc) (by simp [AV.rowok]) (by simp [colRows, colsOf_length]; omega)
        simp [h3, h4, h6, hrj, AV.rowok, hcol, buildRows]
        rw [happ _ _ _ _ _ _ _ (by simp)]
        simp
        refine hn _ _ (.inl rfl) (by simp [h6]) ⟨?_, by simp [h2], by simp [h3], by simp [h4], by simp [h5], by simp⟩
        simp only [htk, colsB_snoc, colsOf_snoc]
        simpa [colRows] using hacc'
      · rintro s ⟨h1, h2, h3, h4, h5, h6⟩
        rw [List.take_of_length_le (Nat.le_refl _)] at h1
        simp [h2]
        exact hF _ _ h1)
  obtain ⟨r, h1, h2⟩ := hacc.frz (n := H.length) (hH.set (hu _)) (by simp) (colRows_is _)
  exact ⟨r, by rw [hcall]; exact congrArg some h1, h2⟩
end Go.Abs.Plan

/- Plan: the variables among terms; a literal's terms. -/
set_option linter.unusedSimpArgs false
set_option linter.unusedVariables false
namespace Go.Abs.Plan
open Enc (Is)

theorem vars1_call (b : Bool) (H : Heap) (t o : Term) : callW tbl (.func f_plan_vars_1 [] [.fptr b t.enc.cells 0]) [o.enc] H = some (.bool (decide (o.name = t.name)), H) := by
  refine callB a_plan_vars_1 rfl rfl rfl (fun F hF => ?_)
  simp [a_plan_vars_1, c_plan_vars_1, AV.rowok]
  exact hF _ _ (by simp [closeCall, a_plan_vars_1, trunc])

def addVar (out : List Term) (t : Term) : List Term := if t.kind = 1 ∧ out.any (fun o => decide (o.name = t.name)) = false then out ++ [t] else out
def varsOf (ts : List Term) : List Term := ts.foldl addVar []
theorem varsOf_snoc (ts : List Term) (t : Term) : varsOf (ts ++ [t]) = addVar (varsOf ts) t := by simp [varsOf]
theorem addVar_len (out : List Term) (t : Term) : (addVar out t).length ≤ out.length + 1 := by unfold addVar; split <;> simp
theorem varsOf_len (ts : List Term) : (varsOf ts).length ≤ ts.length := by
  unfold varsOf
  suffices ∀ out : List Term, (ts.foldl addVar out).length ≤ out.length + ts.length by simpa using this []
  induction ts with
  | nil => simp
  | cons t ts ih => intro out; have h1 := addVar_len out t; have h2 := ih (addVar out t); simp; omega

def termRows (l : List Term) : List AV := l.map Term.enc
theorem termRows_is (l : List Term) : All2 Is (termRows l) l := by
  induction l with
  | nil => exact .nil
  | cons c l ih => exact .cons rfl ih

theorem vars_run (v : AV) (ts : List Term) (h : Is v ts) (hl : ts.length < 2 ^ 40) : ∃ r, runPure (callW tbl) loopW a_plan_vars [v] = some r ∧ Is r (varsOf ts) := by
  refine pureK a_plan_vars rfl (fun F hF => ?_)
  simp [a_plan_vars, c_plan_vars, c_plan_vars_l0, IsL.len h]
  refine EXEC_range ts.length (fun j s => Acc [] 5 (s.tm.get 3) s.heap (termRows (varsOf (ts.take j))) ∧ s.dfr = [] ∧ s.tm.get 7 = v ∧ s.tm.get 8 = i64 ts.length ∧ s.tm.get 9 = i64 j)
    0 (by omega) (by simpa [varsOf, termRows] using Acc.nil) (by omega) (by simp; grind) ?_ ?_
  · rintro j s B hj ⟨h1, h2, h3, h4, h5⟩ hn hx
    have hg : ts[j]? = some ts[j] := by simp [hj]
    obtain ⟨fl, r, rfl, hidx⟩ := IsL.idx h hg
    simp only [show Enc.sz Term = 5 from rfl] at hidx
    have htk : ts.take (j + 1) = ts.take j ++ [ts[j]] := by rw [List.take_add_one, hg]; rfl
    have hlen := varsOf_len (ts.take j)
    rw [List.length_take] at hlen
    have hcon := containsFunc_call (s.tm.get 3) _ _ (termRows_is (varsOf (ts.take j))) s.heap (h1.view (rows_sz (termRows_is _))) (.func f_plan_vars_1 [] [.fptr false ts[j].enc.cells 0]) (fun o => decide (o.name = ts[j].name)) (fun o _ => vars1_call false s.heap ts[j] o) (by omega)
    simp only [cells_agg] at hcon
    by_cases hk : ts[j].kind = 1
    · have hk1 : (ts[j].kind == 1) = true := by simp [hk]
      cases hany : (varsOf (ts.take j)).any (fun o => decide (o.name = ts[j].name)) with
      | true =>
        rw [hany] at hcon
        simp [h3, h5, hidx, AV.rowok, hk1, hcon]
        refine hn _ _ (.inl rfl) (by simp [h5]) ⟨?_, by simp [h2], by simp [h3], by simp [h4], by simp⟩
        rw [htk, varsOf_snoc, addVar, if_neg (by simp [hany])]
        simpa using h1
      | false =>
        rw [hany] at hcon
        obtain ⟨v', Hs', hacc', happ⟩ := h1.one (call := callW tbl) (lp := loopW) (bytes := 56) (fl := false) (r := ts[j].enc) (by simp [AV.rowok]) (by simp [termRows]; omega)
        simp [h3, h5, hidx, AV.rowok, hk1, hcon, buildRows]
        rw [happ _ _ _ _ _ _ _ (by simp)]
        simp
        refine hn _ _ (.inl rfl) (by simp [h5]) ⟨?_, by simp [h2], by simp [h3], by simp [h4], by simp⟩
        rw [htk, varsOf_snoc, addVar, if_pos ⟨hk, hany⟩]
        simpa [termRows] using hacc'
    · simp [h3, h5, hidx, AV.rowok, hk]
      refine hn _ _ (.inl rfl) (by simp [h5]) ⟨?_, by simp [h2], by simp [h3], by simp [h4], by simp⟩
      rw [htk, varsOf_snoc, addVar, if_neg (by simp [hk])]
      simpa using h1
  · rintro s ⟨h1, h2, h3, h4, h5⟩
    rw [List.take_of_length_le (Nat.le_refl _)] at h1
    simp [h2]
    obtain ⟨r, g1, g2, _⟩ := h1.reify (termRows_is _)
    exact hF _ _ r g1 g2

theorem vars_call (v : AV) (ts : List Term) (h : Is v ts) (hl : ts.length < 2 ^ 40) (H : Heap) : ∃ r, callW tbl (.func f_plan_vars [] []) [v] H = some (r, H) ∧ Is r (varsOf ts) :=
  callP1 (S := fun r => Is r (varsOf ts)) rfl rfl ts (fun r h => Enc.lend h) (fun v h => vars_run v ts h hl) v h H

def termsOf (l : Lit) : List Term := if l.kind = 3 then [l.a, l.b] else l.atom.args
theorem terms_run (v : AV) (l : Lit) (h : Is v l) : ∃ r, runPure (callW tbl) loopW a_plan_terms [v] = some r ∧ Is r (termsOf l) := by
  obtain ⟨a, ha, rfl⟩ := h
  have hc := (isl_cell ha).1
  refine pureK a_plan_terms rfl (fun F hF => ?_)
  by_cases h3 : l.kind = 3
  · simp [a_plan_terms, c_plan_terms, AV.rowok, h3, hc, buildRows]
    refine hF _ _ (.fsl false (termRows [l.a, l.b])) (reify_rows (sz := 5) (R := termRows [l.a, l.b]) (xs := [l.a, l.b]) (by simp [termRows]) (by simp [termRows]) (by simp [termRows]) (termRows_is _)) ?_
    simp only [termsOf, h3, if_true]
    exact IsL.fsl (termRows_is _)
  · simp [a_plan_terms, c_plan_terms, AV.rowok, h3, hc]
    exact hF _ _ a (reify_plain (Enc.plain ha)) (by simpa [termsOf, h3] using ha)
theorem terms_call (v : AV) (l : Lit) (h : Is v l) (H : Heap) : ∃ r, callW tbl (.func f_plan_terms [] []) [v] H = some (r, H) ∧ Is r (termsOf l) :=
  callP1 (S := fun r => Is r (termsOf l)) rfl rfl l (fun r h => Enc.lend h) (fun v h => terms_run v l h) v h H
end Go.Abs.Plan

/- Plan: the terms of a rule, one by one; its variables. -/
set_option linter.unusedSimpArgs false
set_option linter.unusedVariables false
namespace Go.Abs.Plan
open Enc (Is)

def litTerms (l : Lit) : List Term := l.atom.args ++ [l.a, l.b]
def ruleTerms (r : Rule) : List Term := r.head.args ++ r.body.flatMap litTerms
def items (ts : List Term) : List (List AV) := ts.map fun t => [t.enc]
theorem items_append (a b : List Term) : items (a ++ b) = items a ++ items b := by simp [items]

theorem checkTerms_iter (fl : Bool) (r : Rule) (va vb : AV) (ha : Is va r.head.args) (hb : Is vb r.body) (h1 : r.head.args.length < 2 ^ 40) (h2 : r.body.length < 2 ^ 40) (h3 : ∀ l ∈ r.body, l.atom.args.length < 2 ^ 40) :
    Iter tbl (.func f_check_terms_1 [] [.fptr fl [.str r.head.pred, va, vb] 0]) (items (ruleTerms r)) := by
  intro y J E _ hstep H hJ
  obtain ⟨v, H', ⟨rfl, hP⟩, hcall⟩ := callE (tbl := tbl) (f := f_check_terms_1) (first := []) (captured := [.fptr fl [.str r.head.pred, va, vb] 0]) (args := [y]) (H := H) (fun v H' => v = .tuple [] ∧ (J [] H' ∨ E H')) a_check_terms_1 rfl rfl rfl (fun F hF => by
    simp [a_check_terms_1, c_check_terms_1, c_check_terms_1_l0, c_check_terms_1_l1, c_check_terms_1_l2, IsL.len ha]
    refine EXEC_range r.head.args.length (fun j s => J (items (r.head.args.drop j ++ r.body.flatMap litTerms)) s.heap ∧ s.dfr = [] ∧ s.tm.get 0 = y ∧ s.tm.get 1 = .fptr fl [.str r.head.pred, va, vb] 0 ∧ s.tm.get 11 = va ∧ s.tm.get 12 = i64 r.head.args.length ∧ s.tm.get 13 = i64 j)
      0 (by omega) (by simpa [ruleTerms] using hJ) (by omega) (by simp; grind) ?_ ?_
    · rintro j s B hj ⟨g1, g2, g3, g4, g5, g6, g7⟩ hn hx
      have hg : r.head.args[j]? = some r.head.args[j] := by simp [hj]
      obtain ⟨fl', t, rfl, hidx⟩ := IsL.idx ha hg
      simp only [show Enc.sz Term = 5 from rfl] at hidx
      rw [List.drop_eq_getElem_cons hj] at g1
      obtain ⟨H1, hor⟩ := hstep _ _ _ g1
      rcases hor with ⟨hc, hJ'⟩ | ⟨hc, hE'⟩
      · simp [g3, g5, g7, hidx, AV.rowok, hc]
        exact hn _ _ (.inl rfl) (by simp [g7]) ⟨hJ', by simp [g2], by simp [g3], by simp [g4], by simp [g5], by simp [g6], by simp⟩
      · simp [g3, g5, g7, hidx, AV.rowok, hc]
        refine hx _ _ (by simp) (by simp) ?_
        simp [g2]
        exact hF _ _ ⟨rfl, .inr hE'⟩
    · rintro s ⟨g1, g2, g3, g4, g5, g6, g7⟩
      rw [List.drop_eq_nil_of_le (Nat.le_refl _), List.nil_append] at g1
      simp [g3, g4, IsL.len hb]
      refine EXEC_range r.body.length (fun j s => J (items ((r.body.drop j).flatMap litTerms)) s.heap ∧ s.dfr = [] ∧ s.tm.get 0 = y ∧ s.tm.get 23 = vb ∧ s.tm.get 24 = i64 r.body.length ∧ s.tm.get 25 = i64 j)
        0 (by omega) (by simpa [g2, g3] using g1) (by omega) (by simp; grind) ?_ ?_
      · rintro j s B hj ⟨g1, g2, g3, g4, g5, g6⟩ hn hx
        have hg : r.body[j]? = some r.body[j] := by simp [hj]
        obtain ⟨fl', lv, ⟨la, hla, rfl⟩, hidx⟩ := IsL.idx hb hg
        simp only [show Enc.sz Lit = 14 from rfl] at hidx
        have hc := (isl_cell hla).1
        rw [List.drop_eq_getElem_cons hj, List.flatMap_cons] at g1
        generalize hrest : (r.body.drop (j + 1)).flatMap litTerms = rest at *
        simp [g3, g4, g6, hidx, AV.rowok, hc, IsL.len hla]
        refine EXEC_range r.body[j].atom.args.length (fun k s => J (items (r.body[j].atom.args.drop k ++ [r.body[j].a, r.body[j].b] ++ rest)) s.heap ∧ s.dfr = [] ∧ s.tm.get 0 = y ∧ s.tm.get 6 = .fptr false (r.body[j].encW la).cells 0 ∧ s.tm.get 23 = vb ∧ s.tm.get 24 = i64 r.body.length ∧ s.tm.get 25 = i64 j ∧ s.tm.get 31 = la ∧ s.tm.get 32 = i64 r.body[j].atom.args.length ∧ s.tm.get 33 = i64 k)
          0 (by omega) (by simpa [g2, g3, g4, g5, g6, litTerms] using g1) (by have := h3 r.body[j] (List.getElem_mem hj); omega) (by simp; grind) ?_ ?_
        · rintro k s' B' hk ⟨q1, q2, q3, q4, q5, q6, q7, q8, q9, q10⟩ hn' hx'
          have hg' : r.body[j].atom.args[k]? = some r.body[j].atom.args[k] := by simp [hk]
          obtain ⟨fl'', t, rfl, hidx'⟩ := IsL.idx hla hg'
          simp only [show Enc.sz Term = 5 from rfl] at hidx'
          rw [List.drop_eq_getElem_cons hk] at q1
          obtain ⟨H1, hor⟩ := hstep _ _ _ q1
          rcases hor with ⟨hc', hJ'⟩ | ⟨hc', hE'⟩
          · simp [q3, q8, q10, hidx', AV.rowok, hc']
            exact hn' _ _ (.inl rfl) (by simp [q10]) ⟨hJ', by simp [q2], by simp [q3], by simpa using q4, by simp [q5], by simp [q6], by simp [q7], by simp [q8], by simp [q9], by simp⟩
          · simp [q3, q8, q10, hidx', AV.rowok, hc']
            refine hx' _ _ (by simp) (by simp) ?_
            simp
            refine hx _ _ (by simp) (by simp) ?_
            simp [q2]
            exact hF _ _ ⟨rfl, .inr hE'⟩
        · rintro s' ⟨q1, q2, q3, q4, q5, q6, q7, q8, q9, q10⟩
          rw [List.drop_eq_nil_of_le (Nat.le_refl _), List.nil_append] at q1
          obtain ⟨H1, hor⟩ := hstep _ _ _ q1
          rcases hor with ⟨hc', hJ'⟩ | ⟨hc', hE'⟩
          · obtain ⟨H2, hor2⟩ := hstep _ _ _ hJ'
            rcases hor2 with ⟨hc2, hJ2⟩ | ⟨hc2, hE2⟩
            · simp [q3, q4, hc', hc2]
              exact hn _ _ (.inl rfl) (by simp [q7]) ⟨hJ2, by simp [q2], by simp [q3], by simp [q5], by simp [q6], by simp⟩
            · simp [q3, q4, hc', hc2]
              refine hx _ _ (by simp) (by simp) ?_
              simp [q2]
              exact hF _ _ ⟨rfl, .inr hE2⟩
          · simp [q3, q4, hc']
            refine hx _ _ (by simp) (by simp) ?_
            simp [q2]
            exact hF _ _ ⟨rfl, .inr hE'⟩
      · rintro s ⟨g1, g2, g3, g4, g5, g6⟩
        rw [List.drop_eq_nil_of_le (Nat.le_refl _)] at g1
        simp [g2]
        exact hF _ _ ⟨rfl, .inl g1⟩)
  exact ⟨H', hcall, hP⟩
end Go.Abs.Plan

/- Plan: the variables of a rule. -/
set_option linter.unusedSimpArgs false
set_option linter.unusedVariables false
namespace Go.Abs.Plan
open Enc (Is)

def addName (out : List ByteArray) (t : Term) : List ByteArray := if t.kind = 1 ∧ out.any (fun m => decide (t.name = m)) = false then out ++ [t.name] else out
def namesOf (ts : List Term) : List ByteArray := ts.foldl addName []
theorem namesOf_len (ts : List Term) : (namesOf ts).length ≤ ts.length := by
  unfold namesOf
  suffices ∀ out : List ByteArray, (ts.foldl addName out).length ≤ out.length + ts.length by simpa using this []
  induction ts with
  | nil => simp
  | cons t ts ih => intro out; have h1 : (addName out t).length ≤ out.length + 1 := by unfold addName; split <;> simp
                    have h2 := ih (addName out t); simp; omega
def ruleVars (r : Rule) : List ByteArray := namesOf (ruleTerms r)

def strRows (l : List ByteArray) : List AV := l.map AV.str
theorem strRows_is (l : List ByteArray) : All2 Is (strRows l) l := by
  induction l with
  | nil => exact .nil
  | cons c l ih => exact .cons rfl ih

theorem strRows_unlent (l : List ByteArray) : AV.unlents (strRows l) = true := by
  induction l with
  | nil => rfl
  | cons c l ih => simpa [strRows, AV.unlents, AV.unlent] using ih

/-- The entries of a map of names. -/
def nameEnts (ns : List ByteArray) (i : Nat) : List MEnt := match ns with
  | [] => []
  | n :: ns => { key := .str n, val := .bool true, born := i } :: nameEnts ns (i + 1)
theorem nameEnts_find (nm : ByteArray) : ∀ (ns : List ByteArray) (i k : Nat), findE false [.str] (.str nm) (nameEnts ns i) k = some ((ns.findIdx? (fun m => decide (nm = m))).map fun j => (j + k, { key := .str nm, val := .bool true, born := j + i }))
  | [], i, k => rfl
  | n :: ns, i, k => by
    simp only [nameEnts, findE, keyEq, AV.isAgg, beq_self_eq_true, if_true, cells_str, cells_strE, cells_nilE, Option.map_some, Bool.and_true]
    by_cases h : nm = n
    · subst h; simp [List.findIdx?_cons]
    · simp only [h, decide_false, nameEnts_find nm ns (i + 1) (k + 1), List.findIdx?_cons]
      cases ns.findIdx? (fun m => decide (nm = m)) <;> simp <;> omega
theorem nameEnts_snoc (nm : ByteArray) : ∀ (ns : List ByteArray) (i : Nat), nameEnts (ns ++ [nm]) i = nameEnts ns i ++ [{ key := .str nm, val := .bool true, born := i + ns.length }]
  | [], i => rfl
  | n :: ns, i => by simp [nameEnts, nameEnts_snoc nm ns (i + 1)]; omega
theorem findIdx_mem {ns : List ByteArray} {nm : ByteArray} : ns.findIdx? (fun m => decide (nm = m)) = none ↔ nm ∉ ns := by
  rw [List.findIdx?_eq_none_iff]
  simp
  constructor
  · intro h hm; exact h nm hm rfl
  · rintro h x hx rfl; exact h hx
@[simp] theorem keyOk_str (nm : ByteArray) : keyOk false [.str] (.str nm) = true := by simp [keyOk, AV.isAgg]

theorem Vars_run (v : AV) (r : Rule) (h : Is v r) (h1 : r.head.args.length < 2 ^ 40) (h2 : r.body.length < 2 ^ 40) (h3 : ∀ l ∈ r.body, l.atom.args.length < 2 ^ 40) (h4 : (ruleTerms r).length < 2 ^ 40) :
    ∃ w, runPure (callW tbl) loopW a_check_Vars [v] = some w ∧ Is w (ruleVars r) ∧ w.unlent = true := by
  obtain ⟨va, vb, ha, hb, rfl⟩ := h
  have hca := (isl_cell ha).1
  have hcb := (isl_cell hb).1
  have hterm : ∀ H, callW tbl (.func f_check_terms [] []) [.agg [.str r.head.pred, va, vb]] H = some (.func f_check_terms_1 [] [.fptr false [.str r.head.pred, va, vb] 0], H) := fun H => by
    refine callB a_check_terms rfl rfl rfl (fun F hF => ?_)
    simp [a_check_terms, c_check_terms, AV.rowok, hca, hcb]
    exact hF _ _ (close_same rfl)
  refine pureK a_check_Vars rfl (fun F hF => ?_)
  simp [a_check_Vars, c_check_Vars, AV.rowok, hca, hcb, hterm]
  refine EXEC_rangeL rfl (.func f_check_terms_1 [] [.fptr false [.str r.head.pred, va, vb] 0]) (by simp) rfl (items (ruleTerms r)) (checkTerms_iter false r va vb ha hb h1 h2 h3) (by simp [items]) (fun L Lb Ld hR => ?_)
  refine ⟨fun rest H => ∃ ts us w, ruleTerms r = ts ++ us ∧ rest = items us ∧ Acc [.arr 0 1 [w], .map 0 (nameEnts (namesOf ts) 0) (namesOf ts).length, .defr 0, L] 1 w H (strRows (namesOf ts)), fun _ _ => False, fun _ _ _ => trivial, ?_, ?_, ?_, ?_, fun e H H3 h => h.elim⟩
  · exact ⟨[], ruleTerms r, .nilsl, rfl, rfl, Acc.nil⟩
  · rintro rest H ⟨ts, us, w, _, _, hacc⟩
    have h3 := hacc.get (b := 3) (by simp)
    exact ⟨lt_of h3, hat_of h3⟩
  · rintro it rest H G hmem ⟨ts, us, w, e1, e2, hacc⟩ hT _
    obtain ⟨t, us, rfl⟩ : ∃ t us', us = t :: us' := by cases us with
      | nil => simp [items] at e2
      | cons t us => exact ⟨t, us, rfl⟩
    simp only [items, List.map_cons, List.cons.injEq] at e2
    obtain ⟨rfl, rfl⟩ := e2
    have l0 := hacc.get (b := 0) (by simp)
    have l1 := hacc.get (b := 1) (by simp)
    have l3 := hacc.get (b := 3) (by simp)
    have k0 := hat_of l0
    have k1 := hat_of l1
    have k3 := hat_of l3
    have n0 := lt_of l0
    have n1 := lt_of l1
    have n3 := lt_of l3
    have hsn : namesOf (ts ++ [t]) = addName (namesOf ts) t := by simp [namesOf]
    simp only [Tm.puts]
    by_cases hk : t.kind = 1
    · have hk1 : (t.kind == 1) = true := by simp [hk]
      cases hany : (namesOf ts).any (fun m => decide (t.name = m)) with
      | false =>
        have hnone : (namesOf ts).findIdx? (fun m => decide (t.name = m)) = none := by
          rw [List.findIdx?_eq_none_iff]; intro x hx; simpa using (List.any_eq_false.1 hany) x hx
        obtain ⟨wc1, wc2, wc3⟩ := hacc.cell
        have hnl := namesOf_len ts
        have a1 := (hacc.set (b := 3) (by simp) Lb).set (b := 1) (by simp) (.map 0 (nameEnts (namesOf ts) 0 ++ [{ key := .str t.name, val := .bool true, born := (namesOf ts).length }]) ((namesOf ts).length + 1))
        obtain ⟨v', Hs', hacc', happ⟩ := a1.one (call := callW tbl) (lp := loopW) (bytes := 16) (fl := false) (r := .str t.name) rfl (by simp [strRows]; have := congrArg List.length e1; simp at this; omega)
        obtain ⟨vc1, vc2, vc3⟩ := hacc'.cell
        have b0 := hat_of (hacc'.get (b := 0) (by simp))
        have b3 := hat_of (hacc'.get (b := 3) (by simp))
        have m0 := lt_of (hacc'.get (b := 0) (by simp))
        have m3 := lt_of (hacc'.get (b := 3) (by simp))
        simp [AV.rowok, n0, n1, n3, k0, k1, k3, hR.r1, hR.r2, c_check_Vars_l0, hk1, lookupR, nameEnts_find, hnone, wc2, buildRows]
        rw [happ _ _ _ _ _ _ _ (by simp)]
        simp [b0, b3, m0, m3, hR.r1, hR.r2, vc1, vc2, wc2, putCells, AV.rowok]
        refine hT _ ?_
        have a2 := (hacc'.set (b := 0) (by simp) (.arr 0 1 [v'])).set (b := 3) (by simp) L
        simp at a2
        rw [trunc_acc (i := 0) hacc a2 (by simp) rfl (by simp) (B := .arr 0 1 [v']) (by rw [a2.get (by simp)]; rfl) (fun n h => by simp [Blk.under, AV.unders, h]) (fun _ => by simp)]
        refine ⟨ts ++ [t], us, v', by simp [e1], rfl, ?_⟩
        rw [hsn, addName, if_pos ⟨hk, hany⟩, nameEnts_snoc]
        simpa [strRows] using a2
      | true =>
        obtain ⟨j, hj⟩ : ∃ j, (namesOf ts).findIdx? (fun m => decide (t.name = m)) = some j := by
          cases h : (namesOf ts).findIdx? (fun m => decide (t.name = m)) with
          | some j => exact ⟨j, rfl⟩
          | none => rw [List.findIdx?_eq_none_iff] at h; exfalso; have : (namesOf ts).any (fun m => decide (t.name = m)) = false := List.any_eq_false.2 (fun x hx => by simp [h x hx]); rw [this] at hany; cases hany
        simp [AV.rowok, n0, n1, n3, k0, k1, k3, hR.r1, hR.r2, c_check_Vars_l0, hk1, lookupR, nameEnts_find, hj]
        refine hT _ ?_
        rw [trunc_len (by simp), set_same (by rw [l3]; rfl)]
        refine ⟨ts ++ [t], us, w, by simp [e1], rfl, ?_⟩
        rw [hsn, addName, if_neg (by simp [hany])]
        exact hacc
    · have hk1 : (t.kind == 1) = false := by simp [hk]
      simp [AV.rowok, n3, k3, hR.r1, hR.r2, c_check_Vars_l0, hk1]
      refine hT _ ?_
      rw [trunc_len (by simp), set_same (by rw [l3]; rfl)]
      refine ⟨ts ++ [t], us, w, by simp [e1], rfl, ?_⟩
      rw [hsn, addName, if_neg (by simp [hk])]
      exact hacc
  · rintro H H3 ⟨ts, us, w, e1, e2, hacc⟩ hH3
    have hus : us = [] := by cases us with
      | nil => rfl
      | cons t us => simp [items] at e2
    subst hus
    rw [List.append_nil] at e1
    have l3 := hacc.get (b := 3) (by simp)
    have hH : H3 = H := by
      rw [hH3]
      exact trunc_acc (i := 0) (H0 := [.arr 0 1 [.nilsl], .map 0 [] 0, .defr 0, L]) (rows := []) (v := .nilsl) Acc.nil hacc (by simp) rfl (by simp) (B := .arr 0 1 [w]) (by rw [hacc.get (by simp)]; rfl) (fun n h => by simp [Blk.under, AV.unders, h]) (fun h => absurd rfl h)
    subst hH
    refine ⟨⟨lt_of l3, hat_of l3⟩, ?_⟩
    obtain ⟨wc1, wc2, wc3⟩ := hacc.cell
    have k0 := hat_of (hacc.get (b := 0) (by simp))
    have l2 := hacc.get (b := 2) (by simp)
    rw [show ([Blk.arr 0 1 [w], .map 0 (nameEnts (namesOf ts) 0) (namesOf ts).length, .defr 0, L] : Heap)[2]? = some (.defr 0) from rfl] at l2
    simp [k0, l2, wc2]
    have a1 := (hacc.set (b := 3) (by simp) (.dead 1)).set (b := 2) (by simp) (.dead 1)
    obtain ⟨w', g1, g2, g3⟩ := a1.reify (strRows_is (namesOf ts))
    exact hF _ _ w' g1 ⟨by rw [ruleVars, e1]; exact g2, g3 (strRows_unlent _)⟩
end Go.Abs.Plan

/- Plan: the bound variables of a rule. -/
set_option linter.unusedSimpArgs false
set_option linter.unusedVariables false
namespace Go.Abs.Plan
open Enc (Is)

/-- Not too long to be gone through. -/
structure RuleFits (r : Rule) : Prop where
  head : r.head.args.length < 2 ^ 40
  body : r.body.length < 2 ^ 40
  args : ∀ l ∈ r.body, l.atom.args.length < 2 ^ 40
  all : (ruleTerms r).length < 2 ^ 40

theorem Vars_call (v : AV) (r : Rule) (h : Is v r) (hr : RuleFits r) (H : Heap) : ∃ w, callW tbl (.func f_check_Vars [] []) [v] H = some (w, H) ∧ Is w (ruleVars r) :=
  callP1 (S := fun w => Is w (ruleVars r)) rfl rfl r (fun w h => Enc.lend h) (fun v h => let ⟨w, h1, h2, _⟩ := Vars_run v r h hr.head hr.body hr.args hr.all; ⟨w, h1, h2⟩) v h H

theorem nameEnts_get : ∀ (ns : List ByteArray) (i j : Nat), (nameEnts ns i)[j]? = ns[j]?.map fun n => { key := .str n, val := .bool true, born := i + j }
  | [], i, j => by simp [nameEnts]
  | n :: ns, i, 0 => by simp [nameEnts]
  | n :: ns, i, j + 1 => by simp only [nameEnts, List.getElem?_cons_succ, nameEnts_get ns (i + 1) j]; cases ns[j]? <;> simp; omega
theorem list_set_same {α : Type} {l : List α} {i : Nat} {x : α} (h : l[i]? = some x) : l.set i x = l := by
  apply List.ext_getElem?
  intro j
  rw [List.getElem?_set]
  split
  · rename_i e; subst e; split
    · exact h.symm
    · rename_i hl; rw [List.getElem?_eq_none (by omega)]
  · rfl
theorem findIdx_get {ns : List ByteArray} {nm : ByteArray} {j : Nat} (h : ns.findIdx? (fun m => decide (nm = m)) = some j) : ns[j]? = some nm := by
  obtain ⟨h1, h2⟩ := List.findIdx?_eq_some_iff_findIdx_eq.1 h
  have := List.findIdx_getElem (xs := ns) (p := fun m => decide (nm = m)) (w := by omega)
  subst h2
  simp at this
  rw [List.getElem?_eq_getElem h1]
  exact congrArg some this.symm
theorem nameEnts_set {ns : List ByteArray} {nm : ByteArray} {j : Nat} (h : ns.findIdx? (fun m => decide (nm = m)) = some j) : (nameEnts ns 0).set j { key := .str nm, val := .bool true, born := j } = nameEnts ns 0 := by
  apply list_set_same
  rw [nameEnts_get, findIdx_get h]
  simp
theorem any_find {ns : List ByteArray} {nm : ByteArray} : (ns.any (fun m => decide (nm = m)) = true) ↔ ∃ j, ns.findIdx? (fun m => decide (nm = m)) = some j := by
  constructor
  · intro hany
    cases h : ns.findIdx? (fun m => decide (nm = m)) with
    | some j => exact ⟨j, rfl⟩
    | none =>
      rw [List.findIdx?_eq_none_iff] at h
      have : ns.any (fun m => decide (nm = m)) = false := List.any_eq_false.2 (fun x hx => by simp [h x hx])
      rw [this] at hany; cases hany
  · rintro ⟨j, h⟩
    have := findIdx_get h
    exact List.any_eq_true.2 ⟨nm, List.mem_of_getElem? this, by simp⟩
theorem any_nofind {ns : List ByteArray} {nm : ByteArray} : (ns.any (fun m => decide (nm = m)) = false) ↔ ns.findIdx? (fun m => decide (nm = m)) = none := by
  cases h : ns.findIdx? (fun m => decide (nm = m)) with
  | none => simp; rw [List.findIdx?_eq_none_iff] at h; exact fun x hx => by simpa using h x hx
  | some j => simp; have := findIdx_get h; exact List.mem_of_getElem? this

/-- A map of names, one more put in. -/
def namesMap (ns : List ByteArray) : Blk := .map 0 (nameEnts ns 0) ns.length

def posTerms (ls : List Lit) : List Term := ls.flatMap fun l => if l.kind = 1 then l.atom.args else []
def ruleBound (r : Rule) : List ByteArray := (ruleVars r).filter fun n => (namesOf (posTerms r.body)).any fun m => decide (n = m)
theorem namesOf_snoc (ts : List Term) (t : Term) : namesOf (ts ++ [t]) = addName (namesOf ts) t := by simp [namesOf]

theorem Bound_run (v : AV) (r : Rule) (h : Is v r) (hf : RuleFits r) : ∃ w, runPure (callW tbl) loopW a_check_Bound [v] = some w ∧ Is w (ruleBound r) ∧ w.unlent = true := by
  obtain ⟨va, vb, ha, hb, hv⟩ := h
  have hca := (isl_cell ha).1
  have hcb := (isl_cell hb).1
  refine pureK a_check_Bound rfl (fun F hF => ?_)
  subst hv
  simp [a_check_Bound, c_check_Bound, AV.rowok, hca, hcb, IsL.len hb, c_check_Bound_l1]
  refine EXEC_range r.body.length (fun j s => s.heap = [namesMap (namesOf (posTerms (r.body.take j)))] ∧ s.dfr = [] ∧ s.tm.get 1 = .fptr false [.str r.head.pred, va, vb] 0 ∧ s.tm.get 3 = .map 0 0 ∧ s.tm.get 13 = vb ∧ s.tm.get 14 = i64 r.body.length ∧ s.tm.get 15 = i64 j)
    0 (by omega) (by simp [namesMap, posTerms, namesOf, nameEnts]) (by have := hf.body; omega) (by simp; grind) ?_ ?_
  · rintro j s B hj ⟨g1, g2, g3, g4, g5, g6, g7⟩ hn hx
    have hg : r.body[j]? = some r.body[j] := by simp [hj]
    obtain ⟨fl', lv, ⟨la, hla, rfl⟩, hidx⟩ := IsL.idx hb hg
    simp only [show Enc.sz Lit = 14 from rfl] at hidx
    have hc := (isl_cell hla).1
    have htk : r.body.take (j + 1) = r.body.take j ++ [r.body[j]] := by rw [List.take_add_one, hg]; rfl
    have hpt : posTerms (r.body.take (j + 1)) = posTerms (r.body.take j) ++ (if r.body[j].kind = 1 then r.body[j].atom.args else []) := by rw [htk]; simp only [posTerms, List.flatMap_append, List.flatMap_cons, List.flatMap_nil, List.append_nil]
    generalize hdone : posTerms (r.body.take j) = done at *
    simp [g1, g3, g4, g5, g7, hidx, AV.rowok, hc, IsL.len hla, c_check_Bound_l0]
    refine EXEC_range r.body[j].atom.args.length (fun k s => s.heap = [namesMap (namesOf (done ++ if r.body[j].kind = 1 then r.body[j].atom.args.take k else []))] ∧ s.dfr = [] ∧ s.tm.get 1 = .fptr false [.str r.head.pred, va, vb] 0 ∧ s.tm.get 3 = .map 0 0 ∧
        s.tm.get 5 = .fptr false (r.body[j].encW la).cells 0 ∧ s.tm.get 13 = vb ∧ s.tm.get 14 = i64 r.body.length ∧ s.tm.get 15 = i64 j ∧ s.tm.get 21 = la ∧ s.tm.get 22 = i64 r.body[j].atom.args.length ∧ s.tm.get 23 = i64 k)
      0 (by omega) ⟨by simp, by simp [g2], by simp [g3], by simp [g4], by simp, by simp [g5], by simp [g6], by simp [g7], by simp, by simp, by simp⟩ (by have := hf.args r.body[j] (List.getElem_mem hj); omega) (by simp; grind) ?_ ?_
    · rintro k s' B' hk ⟨q1, q2, q3, q4, q5, q6, q7, q8, q9, q10, q11⟩ hn' hx'
      have hg' : r.body[j].atom.args[k]? = some r.body[j].atom.args[k] := by simp [hk]
      obtain ⟨fl'', t, rfl, hidx'⟩ := IsL.idx hla hg'
      simp only [show Enc.sz Term = 5 from rfl] at hidx'
      have htk' : r.body[j].atom.args.take (k + 1) = r.body[j].atom.args.take k ++ [r.body[j].atom.args[k]] := by rw [List.take_add_one, hg']; rfl
      by_cases hp : r.body[j].kind = 1
      · have hp1 : (r.body[j].kind == 1) = true := by simp [hp]
        simp only [hp, if_true] at q1
        by_cases ht : r.body[j].atom.args[k].kind = 1
        · have ht1 : (r.body[j].atom.args[k].kind == 1) = true := by simp [ht]
          generalize hns : namesOf (done ++ r.body[j].atom.args.take k) = ns at *
          cases hany : ns.any (fun m => decide (r.body[j].atom.args[k].name = m)) with
          | false =>
            have hnone := any_nofind.1 hany
            simp [q1, q4, q5, q9, q11, hidx', AV.rowok, hp1, ht1, namesMap, nameEnts_find, hnone]
            refine hn' _ _ (.inl rfl) (by simp [q11]) ⟨?_, by simp [q2], by simp [q3], by simp [q4], by simpa using q5, by simp [q6], by simp [q7], by simp [q8], by simp [q9], by simp [q10], by simp⟩
            simp only [hp, if_true, htk', ← List.append_assoc, namesOf_snoc, hns, addName, ht, hany, and_self, nameEnts_snoc]
            simp [namesMap, nameEnts_snoc]
          | true =>
            obtain ⟨i, hi⟩ := any_find.1 hany
            simp [q1, q4, q5, q9, q11, hidx', AV.rowok, hp1, ht1, namesMap, nameEnts_find, hi, nameEnts_set hi]
            refine hn' _ _ (.inl rfl) (by simp [q11]) ⟨?_, by simp [q2], by simp [q3], by simp [q4], by simpa using q5, by simp [q6], by simp [q7], by simp [q8], by simp [q9], by simp [q10], by simp⟩
            simp only [hp, if_true, htk', ← List.append_assoc, namesOf_snoc, hns, addName]
            rw [if_neg (by simp [hany])]
            simp [namesMap]
        · have ht1 : (r.body[j].atom.args[k].kind == 1) = false := by simp [ht]
          simp [q1, q4, q5, q9, q11, hidx', AV.rowok, hp1, ht1]
          refine hn' _ _ (.inl rfl) (by simp [q11]) ⟨?_, by simp [q2], by simp [q3], by simp [q4], by simpa using q5, by simp [q6], by simp [q7], by simp [q8], by simp [q9], by simp [q10], by simp⟩
          simp only [hp, if_true, htk', ← List.append_assoc, namesOf_snoc, addName]
          rw [if_neg (by simp [ht])]
      · have hp1 : (r.body[j].kind == 1) = false := by simp [hp]
        simp only [hp, if_false] at q1
        simp [q1, q4, q5, q9, q11, hidx', AV.rowok, hp1]
        refine hn' _ _ (.inl rfl) (by simp [q11]) ⟨by simp [hp], by simp [q2], by simp [q3], by simp [q4], by simpa using q5, by simp [q6], by simp [q7], by simp [q8], by simp [q9], by simp [q10], by simp⟩
    · rintro s' ⟨q1, q2, q3, q4, q5, q6, q7, q8, q9, q10, q11⟩
      rw [List.take_of_length_le (Nat.le_refl _)] at q1
      simp
      refine hn _ _ (.inl rfl) (by simp [q8]) ⟨?_, by simp [q2], by simp [q3], by simp [q4], by simp [q6], by simp [q7], by simp⟩
      rw [hpt]; exact q1
  · rintro s ⟨g1, g2, g3, g4, g5, g6, g7⟩
    rw [List.take_of_length_le (Nat.le_refl _)] at g1
    obtain ⟨w, hw, hwi⟩ := Vars_call (.agg [.str r.head.pred, va, vb]) r ⟨va, vb, ha, hb, rfl⟩ hf s.heap
    have hvl : (ruleVars r).length < 2 ^ 40 := Nat.lt_of_le_of_lt (namesOf_len _) hf.all
    simp [g3, hw, IsL.len hwi, c_check_Bound_l2]
    generalize hns : namesOf (posTerms r.body) = ns at *
    refine EXEC_range (ruleVars r).length (fun j s => Acc [namesMap ns] 1 (s.tm.get 8) s.heap (strRows (((ruleVars r).take j).filter fun n => ns.any fun m => decide (n = m))) ∧ s.dfr = [] ∧ s.tm.get 3 = .map 0 0 ∧ s.tm.get 41 = w ∧ s.tm.get 42 = i64 (ruleVars r).length ∧ s.tm.get 43 = i64 j)
      0 (by omega) (by simpa [g1, g2, g4, strRows] using Acc.nil) (by omega) (by simp; grind) ?_ ?_
    · rintro j s B hj ⟨q1, q2, q3, q4, q5, q6⟩ hn hx
      have hg : (ruleVars r)[j]? = some (ruleVars r)[j] := by simp [hj]
      obtain ⟨fl', t, rfl, hidx⟩ := IsL.idx hwi hg
      simp only [show Enc.sz ByteArray = 1 from rfl] at hidx
      have htk : (ruleVars r).take (j + 1) = (ruleVars r).take j ++ [(ruleVars r)[j]] := by rw [List.take_add_one, hg]; rfl
      have k0 := hat_of (q1.get (b := 0) (by simp))
      have hlen : (((ruleVars r).take j).filter fun n => ns.any fun m => decide (n = m)).length ≤ j := by
        refine Nat.le_trans (List.length_filter_le ..) ?_
        simp; omega
      cases hany : ns.any (fun m => decide ((ruleVars r)[j] = m)) with
      | false =>
        have hnone := any_nofind.1 hany
        simp [q3, q4, q6, hidx, k0, namesMap, lookupR, nameEnts_find, hnone]
        refine hn _ _ (.inl rfl) (by simp [q6]) ⟨?_, by simp [q2], by simp [q3], by simp [q4], by simp [q5], by simp⟩
        rw [htk, List.filter_append]
        simpa [hany, namesMap] using q1
      | true =>
        obtain ⟨i, hi⟩ := any_find.1 hany
        obtain ⟨v', Hs', hacc', happ⟩ := q1.one (call := callW tbl) (lp := loopW) (bytes := 16) (fl := false) (r := .str (ruleVars r)[j]) rfl (by simp [strRows]; omega)
        simp [q3, q4, q6, hidx, k0, namesMap, lookupR, nameEnts_find, hi, AV.rowok, buildRows]
        rw [happ _ _ _ _ _ _ _ (by simp)]
        simp
        refine hn _ _ (.inl rfl) (by simp [q6]) ⟨?_, by simp [q2], by simp [q3], by simp [q4], by simp [q5], by simp⟩
        rw [htk, List.filter_append]
        simpa [hany, strRows, namesMap] using hacc'
    · rintro s ⟨q1, q2, q3, q4, q5, q6⟩
      rw [List.take_of_length_le (Nat.le_refl _)] at q1
      simp [q2]
      obtain ⟨w', e1, e2, e3⟩ := q1.reify (strRows_is _)
      exact hF _ _ w' e1 ⟨by rw [ruleBound, hns]; exact e2, e3 (strRows_unlent _)⟩

theorem Bound_call (v : AV) (r : Rule) (h : Is v r) (hr : RuleFits r) (H : Heap) : ∃ w, callW tbl (.func f_check_Bound [] []) [v] H = some (w, H) ∧ Is w (ruleBound r) :=
  callP1 (S := fun w => Is w (ruleBound r)) rfl rfl r (fun w h => Enc.lend h) (fun v h => let ⟨w, h1, h2, _⟩ := Bound_run v r h hr; ⟨w, h1, h2⟩) v h H

/-- The same, of a rule that may lie in blocks. -/
theorem Vars_callL (v v' : AV) (r : Rule) (H : Heap) (hre : reify H reifyDepth v = some v') (h : Is v' r) (hr : RuleFits r) : ∃ w, callW tbl (.func f_check_Vars [] []) [v] H = some (w, H) ∧ Is w (ruleVars r) :=
  callP1L (S := fun w => Is w (ruleVars r)) rfl rfl r (fun v h => Vars_run v r h hr.head hr.body hr.args hr.all) v v' H hre h
theorem Bound_callL (v v' : AV) (r : Rule) (H : Heap) (hre : reify H reifyDepth v = some v') (h : Is v' r) (hr : RuleFits r) : ∃ w, callW tbl (.func f_check_Bound [] []) [v] H = some (w, H) ∧ Is w (ruleBound r) :=
  callP1L (S := fun w => Is w (ruleBound r)) rfl rfl r (fun v h => Bound_run v r h hr) v v' H hre h
end Go.Abs.Plan

/- Plan: comparisons of nothing; a rule without what counts for nothing. -/
set_option linter.unusedSimpArgs false
set_option linter.unusedVariables false
namespace Go.Abs.Plan
open Enc (Is)

def opOk (op : Int) : Prop := op = 1 ∨ op = 2 ∨ op = 3 ∨ op = 4 ∨ op = 5 ∨ op = 6
instance (op : Int) : Decidable (opOk op) := by unfold opOk; exact inferInstance

theorem compare0 : runPure (callK tbl 30) (lpK 30) a_value_Compare [zeroVal.enc, zeroVal.enc] = some (i64 0) := by kernel_rfl
theorem compare0_call (H : Heap) : callW tbl (.func f_value_Compare [] []) [zeroVal.enc, zeroVal.enc] H = some (i64 0, H) := callP_closed rfl rfl rfl rfl (runPure_closed compare0) H

set_option maxHeartbeats 1000000 in
theorem holds0_run (op : Int) : ∃ r, runPure (callW tbl) loopW a_value_Holds [i64 op, zeroVal.enc, zeroVal.enc] = some r ∧ ∃ b, r = .tuple [.bool b, i64 (if opOk op then 0 else 1)] := by
  have hc := fun H => compare0_call H
  simp only [Val.enc, zeroVal] at hc
  refine pureK a_value_Holds rfl (fun F hF => ?_)
  by_cases h2 : op = 2
  · subst h2; simp [a_value_Holds, c_value_Holds, AV.rowok, zeroVal, hc]; exact hF _ _ _ (reify_plain rfl) ⟨_, rfl⟩
  by_cases h5 : op = 5
  · subst h5; simp [a_value_Holds, c_value_Holds, AV.rowok, zeroVal, hc]; exact hF _ _ _ (reify_plain rfl) ⟨_, rfl⟩
  by_cases h6 : op = 6
  · subst h6; simp [a_value_Holds, c_value_Holds, AV.rowok, zeroVal, hc]; exact hF _ _ _ (reify_plain rfl) ⟨_, rfl⟩
  by_cases h4 : op = 4
  · subst h4; simp [a_value_Holds, c_value_Holds, AV.rowok, zeroVal, hc]; exact hF _ _ _ (reify_plain rfl) ⟨_, rfl⟩
  by_cases h1 : op = 1
  · subst h1; simp [a_value_Holds, c_value_Holds, AV.rowok, zeroVal, hc]; exact hF _ _ _ (reify_plain rfl) ⟨_, rfl⟩
  by_cases h3 : op = 3
  · subst h3; simp [a_value_Holds, c_value_Holds, AV.rowok, zeroVal, hc]; exact hF _ _ _ (reify_plain rfl) ⟨_, rfl⟩
  · simp [a_value_Holds, c_value_Holds, AV.rowok, zeroVal, hc, h1, h2, h3, h4, h5, h6]
    exact hF _ _ _ (reify_plain rfl) ⟨false, by simp [opOk, h1, h2, h3, h4, h5, h6]⟩

theorem holds0_call (op : Int) (H : Heap) : ∃ b, callW tbl (.func f_value_Holds [] []) [i64 op, zeroVal.enc, zeroVal.enc] H = some (.tuple [.bool b, i64 (if opOk op then 0 else 1)], H) := by
  obtain ⟨r, h, b, rfl⟩ := holds0_run op
  exact ⟨b, callP_closed rfl rfl rfl rfl h H⟩

/-! ### clean -/
def cleanLit (l : Lit) : Lit := if l.kind = 3 then { l with atom := ⟨⟨#[]⟩, []⟩ } else { kind := l.kind, atom := l.atom, op := 0, a := ⟨0, ⟨#[]⟩, zeroVal⟩, b := ⟨0, ⟨#[]⟩, zeroVal⟩ }
def kindsOk (any : Bool) (ts : List Term) : Bool := !ts.any (badKind any)
def litOk (l : Lit) : Bool := if l.kind = 3 then decide (opOk l.op) && kindsOk false [l.a, l.b] else decide (l.atom.args.length ≤ 8) && kindsOk true l.atom.args
def litKind (l : Lit) : Bool := l.kind == 1 || l.kind == 2 || l.kind == 3
def cleanRule (r : Rule) : Rule := { head := r.head, body := r.body.map cleanLit }
def hasPlans (r : Rule) : Bool := decide (r.head.args.length ≤ 8) && kindsOk false r.head.args && r.body.all litKind && r.body.all litOk &&
  decide ((ruleVars (cleanRule r)).length ≤ 64) && decide ((ruleVars (cleanRule r)).length = (ruleBound (cleanRule r)).length)
end Go.Abs.Plan
