/- Exec: comparisons of values and tuples. PRINTED IN PART BY wip/exec/gX4.py. -/
import Derived.Test.YtddpdpjpfgnhmaaGreatG28x
import Derived.Test.YtddpdpjpfgnhmaaGreatG29x
import Derived.Test.YtddpdpjpfgnhmaaGreatG31x
import Derived.Test.YtddpdpjpfgnhmaaGreatG25x
set_option linter.unusedSimpArgs false
set_option linter.unusedVariables false
set_option maxHeartbeats 4000000
namespace Go.Abs
open Enc (Is)
abbrev Tup := List Val
instance : Enc Int where
 Is v x := v = i64 x
 lend := by rintro v x rfl; rfl
 plain := by rintro v x rfl; rfl
 sz := 1
 row := by rintro v x rfl; rfl
structure Counted where
 t : Tup
 n : Int
 deriving DecidableEq, Inhabited
structure RelOf where
 name : ByteArray
 rel : List Tup
 deriving DecidableEq, Inhabited
instance : Enc Counted where
 Is v x := ∃ a, Is a x.t ∧ v = .agg [a, i64 x.n]
 lend := by rintro v x ⟨a, h, rfl⟩; exact ⟨a.lend, Enc.lend h, rfl⟩
 plain := by rintro v x ⟨a, h, rfl⟩; simp [Enc.plain h]
 sz := 2
 row := by rintro v x ⟨a, h, rfl⟩; simp [AV.rowok, (zm h).1]
instance : Enc RelOf where
 Is v x := ∃ a, Is a x.rel ∧ v = .agg [.str x.name, a]
 lend := by rintro v x ⟨a, h, rfl⟩; exact ⟨a.lend, Enc.lend h, rfl⟩
 plain := by rintro v x ⟨a, h, rfl⟩; simp [Enc.plain h]
 sz := 2
 row := by rintro v x ⟨a, h, rfl⟩; simp [AV.rowok, (zm h).1]
end Go.Abs
namespace Go.Abs.Plan
open Enc (Is)
theorem bytesLess_dec : ∀ (x y : List UInt8), Op.bytesLess x y = decide (x < y)
 | [], [] => by simp [Op.bytesLess]
 | _ :: _, [] => by simp [Op.bytesLess]
 | [], _ :: _ => by simp [Op.bytesLess]
 | a :: x, b :: y => by
   rw [Op.bytesLess, bytesLess_dec x y]
   simp only [List.cons_lt_cons_iff]
   by_cases h1 : a < b <;> by_cases h2 : a = b <;> by_cases h3 : x < y <;> simp [h1, h2, h3]
theorem binS_lss {e : EqKind} {x y : ByteArray} : binA .lss e (.str x) (.str y) = some (.bool (decide (x.toList < y.toList))) := by
 show some (AV.bool (Op.bytesLess x.toList y.toList)) = _
 rw [bytesLess_dec]
theorem binS_gtr {e : EqKind} {x y : ByteArray} : binA .gtr e (.str x) (.str y) = some (.bool (decide (y.toList < x.toList))) := by
 show some (AV.bool !(Op.bytesLess x.toList y.toList || x.toList == y.toList)) = _
 rw [bytesLess_dec]
 congr 2
 by_cases h1 : x.toList < y.toList
 ·have : ¬ y.toList < x.toList := fun h => List.lt_irrefl _ (List.lt_trans h1 h)
  simp [h1, this]
 ·by_cases h2 : x.toList = y.toList
  ·simp [h2]
  ·have h3 : y.toList < x.toList := by
    by_cases h : y.toList < x.toList
    ·exact h
    ·exact absurd (List.le_antisymm (List.not_lt.1 h) (List.not_lt.1 h1)) h2
   simp [h1, h2, h3]
def cmpS (x y : ByteArray) : Int := if x.toList < y.toList then -1 else if y.toList < x.toList then 1 else 0
def cmpI (x y : Int) : Int := if x < y then -1 else if y < x then 1 else 0
def vcmp (a b : Val) : Int := if cmpI a.kind b.kind ≠ 0 then cmpI a.kind b.kind else if cmpI a.n b.n ≠ 0 then cmpI a.n b.n else cmpS a.s b.s
theorem isNaN_string_call (x : ByteArray) (H : Heap) : callW tbl (.func f_cmp_isNaN_string [] []) [.str x] H = some (.bool false, H) := by
 obtain ⟨r, h1, rfl⟩ : ∃ r, zu (callW tbl) loopW zw2 [.str x] = some r ∧ r = .bool false := by
  refine pureK zw2 rfl (fun F hF => ?_)
  simp [zw2, c_cmp_isNaN_string]
  exact hF _ _ _ (z7 rfl) rfl
 exact Go.Abs.Sort.pureA (f := f_cmp_isNaN_string) (af := zw2) rfl rfl rfl rfl h1 H
theorem cmp_string_call (x y : ByteArray) (H : Heap) : callW tbl (.func f_cmp_Compare_string [] []) [.str x, .str y] H = some (i64 (cmpS x y), H) := by
 obtain ⟨r, h1, rfl⟩ : ∃ r, zu (callW tbl) loopW zh1 [.str x, .str y] = some r ∧ r = i64 (cmpS x y) := by
  refine pureK zh1 rfl (fun F hF => ?_)
  have n1 := isNaN_string_call x []
  have n2 := isNaN_string_call y []
  unfold cmpS at hF
  by_cases k1 : x.toList < y.toList
  ·rw [if_pos k1] at hF
   simp [zh1, z04, n1, n2, binS_lss, binS_gtr, k1]
   exact hF _ _ _ (z7 rfl) rfl
  ·rw [if_neg k1] at hF
   by_cases k2 : y.toList < x.toList
   ·rw [if_pos k2] at hF
    simp [zh1, z04, n1, n2, binS_lss, binS_gtr, k1, k2]
    exact hF _ _ _ (z7 rfl) rfl
   ·rw [if_neg k2] at hF
    simp [zh1, z04, n1, n2, binS_lss, binS_gtr, k1, k2]
    exact hF _ _ _ (z7 rfl) rfl
 exact Go.Abs.Sort.pureA (f := f_cmp_Compare_string) (af := zh1) rfl rfl rfl rfl h1 H
theorem isNaN_VKind_call (x : Int) (H : Heap) : callW tbl (.func f_cmp_isNaN_VKind [] []) [.int .i64 x] H = some (.bool false, H) := by
 obtain ⟨r, h1, rfl⟩ : ∃ r, zu (callW tbl) loopW za3 [.int .i64 x] = some r ∧ r = .bool false := by
  refine pureK za3 rfl (fun F hF => ?_)
  simp [za3, c_cmp_isNaN_VKind]
  exact hF _ _ _ (z7 rfl) rfl
 exact Go.Abs.Sort.pureA (f := f_cmp_isNaN_VKind) (af := za3) rfl rfl rfl rfl h1 H
theorem cmp_VKind_call (x y : Int) (H : Heap) : callW tbl (.func f_cmp_Compare_VKind [] []) [.int .i64 x, .int .i64 y] H = some (i64 (cmpI x y), H) := by
 obtain ⟨r, h1, rfl⟩ : ∃ r, zu (callW tbl) loopW zo1 [.int .i64 x, .int .i64 y] = some r ∧ r = i64 (cmpI x y) := by
  refine pureK zo1 rfl (fun F hF => ?_)
  have n1 := isNaN_VKind_call x []
  have n2 := isNaN_VKind_call y []
  unfold cmpI at hF
  by_cases k1 : x < y
  ·rw [if_pos k1] at hF
   simp [zo1, c_cmp_Compare_VKind, n1, n2, k1]
   exact hF _ _ _ (z7 rfl) rfl
  ·rw [if_neg k1] at hF
   by_cases k2 : y < x
   ·rw [if_pos k2] at hF
    simp [zo1, c_cmp_Compare_VKind, n1, n2, k1, k2]
    exact hF _ _ _ (z7 rfl) rfl
   ·rw [if_neg k2] at hF
    simp [zo1, c_cmp_Compare_VKind, n1, n2, k1, k2]
    exact hF _ _ _ (z7 rfl) rfl
 exact Go.Abs.Sort.pureA (f := f_cmp_Compare_VKind) (af := zo1) rfl rfl rfl rfl h1 H
theorem isNaN_int64_call (x : Int) (H : Heap) : callW tbl (.func f_cmp_isNaN_int64 [] []) [.int .i64 x] H = some (.bool false, H) := by
 obtain ⟨r, h1, rfl⟩ : ∃ r, zu (callW tbl) loopW zb3 [.int .i64 x] = some r ∧ r = .bool false := by
  refine pureK zb3 rfl (fun F hF => ?_)
  simp [zb3, c_cmp_isNaN_int64]
  exact hF _ _ _ (z7 rfl) rfl
 exact Go.Abs.Sort.pureA (f := f_cmp_isNaN_int64) (af := zb3) rfl rfl rfl rfl h1 H
theorem cmp_int64_call (x y : Int) (H : Heap) : callW tbl (.func f_cmp_Compare_int64 [] []) [.int .i64 x, .int .i64 y] H = some (i64 (cmpI x y), H) := by
 obtain ⟨r, h1, rfl⟩ : ∃ r, zu (callW tbl) loopW zp1 [.int .i64 x, .int .i64 y] = some r ∧ r = i64 (cmpI x y) := by
  refine pureK zp1 rfl (fun F hF => ?_)
  have n1 := isNaN_int64_call x []
  have n2 := isNaN_int64_call y []
  unfold cmpI at hF
  by_cases k1 : x < y
  ·rw [if_pos k1] at hF
   simp [zp1, c_cmp_Compare_int64, n1, n2, k1]
   exact hF _ _ _ (z7 rfl) rfl
  ·rw [if_neg k1] at hF
   by_cases k2 : y < x
   ·rw [if_pos k2] at hF
    simp [zp1, c_cmp_Compare_int64, n1, n2, k1, k2]
    exact hF _ _ _ (z7 rfl) rfl
   ·rw [if_neg k2] at hF
    simp [zp1, c_cmp_Compare_int64, n1, n2, k1, k2]
    exact hF _ _ _ (z7 rfl) rfl
 exact Go.Abs.Sort.pureA (f := f_cmp_Compare_int64) (af := zp1) rfl rfl rfl rfl h1 H
theorem or_run (v : AV) (l : List Int) (h : Is v l) (hl : l.length < 2 ^ 40) : ∃ w, zu (callW tbl) loopW a_cmp_Or_int [v] = some w ∧ w = i64 ((l.find? (· ≠ 0)).getD 0) ∧ w.unlent = true := by
 have hln := IsL.len h
 have hc := zm h
 refine pureK a_cmp_Or_int rfl (fun F hF => ?_)
 simp [a_cmp_Or_int, c_cmp_Or_int, hln]
 refine zf (fun k s => ∃ j : Nat, j + k = l.length ∧ (∀ i, i < j → l[i]? = some 0) ∧ s.heap = [] ∧ s.dfr = [] ∧ s.tm.get 3 = .int .i64 0 ∧ s.tm.get 6 = v ∧ s.tm.get 7 = .int .i64 (l.length : Int) ∧ s.tm.get 8 = .int .i64 (j : Int)) l.length ⟨0, by omega, by simp, rfl, rfl, by simp, by simp, by simp, by simp⟩ ?_
 rintro k s Q ⟨j, h0, hz, q1, q2, f3, f6, f7, f8⟩ hgo hx
 have hw : IntKind.i64.wrap ((j : Int) + 1) = ((j + 1 : Nat) : Int) := zi1 (by omega) (by omega)
 by_cases hj : j < l.length
 ·have hji : (j : Int) < (l.length : Int) := by omega
  obtain ⟨fl, r, rfl, hidx⟩ := IsL.idx h (List.getElem?_eq_getElem hj)
  simp only [show Enc.sz Int = 1 from rfl] at hidx
  by_cases hk : l[j] = 0
  ·simp [c_cmp_Or_int_l0, q1, f3, f6, f7, f8, hji, hidx, hk, AV.rowok]
   refine hgo _ (k - 1) (by omega) ⟨j + 1, by omega, fun i hi => ?_, rfl, by simp [q2], by simp [f3], by simp [f6], by simp [f7], by simp [hw]⟩
   by_cases hij : i = j
   ·subst hij; rw [List.getElem?_eq_getElem hj, hk]
   ·exact hz i (by omega)
  ·simp [c_cmp_Or_int_l0, q1, f3, f6, f7, f8, hji, hidx, hk, AV.rowok]
   refine hx _ _ (by simp) ?_
   simp [q2]
   refine hF _ _ _ (z7 rfl) ⟨?_, rfl⟩
   have : l.find? (· ≠ 0) = some l[j] := by
    rw [List.find?_eq_some_iff_getElem]
    refine ⟨by simpa using hk, j, hj, rfl, fun i hi => ?_⟩
    have := hz i hi
    rw [List.getElem?_eq_getElem (by omega)] at this
    simp at this; simp [this]
   rw [this]; rfl
 ·have hji : ¬ (j : Int) < (l.length : Int) := by omega
  simp [c_cmp_Or_int_l0, q1, f3, f7, f8, hji]
  refine hx _ _ (by simp) ?_
  simp [q2, f3]
  refine hF _ _ _ (z7 rfl) ⟨?_, rfl⟩
  have : l.find? (· ≠ 0) = none := by
   rw [List.find?_eq_none]
   intro x hxl
   obtain ⟨i, hi⟩ := List.mem_iff_getElem?.1 hxl
   have hil := (List.getElem?_eq_some_iff.1 hi).1
   have := hz i (by omega)
   rw [this] at hi; simp at hi; simp [← hi]
  rw [this]; rfl
theorem or3_call (H : Heap) (b0 g : Nat) (x y z : Int) (hb : H[b0]? = some (.arr g 1 [i64 x, i64 y, i64 z])) : callW tbl (.func f_cmp_Or_int [] []) [.sl b0 g 0 3] H = some (i64 (if x ≠ 0 then x else if y ≠ 0 then y else z), H) := by
 have his : All2 Is [i64 x, i64 y, i64 z] [x, y, z] := .cons rfl (.cons rfl (.cons rfl .nil))
 have hre : reify H zx (.sl b0 g 0 3) = some (.fsl false [i64 x, i64 y, i64 z]) := reify_rows hb (by simp) rfl his
 obtain ⟨r, h2, rfl⟩ := callP1L (f := f_cmp_Or_int) (af := a_cmp_Or_int) (S := fun w => w = i64 (if x ≠ 0 then x else if y ≠ 0 then y else z)) rfl rfl [x, y, z]
  (fun v h => by
   obtain ⟨w, g1, g2, g3⟩ := or_run v [x, y, z] h (by simp)
   refine ⟨w, g1, ?_, g3⟩
   rw [g2]
   by_cases h1 : x = 0 <;> by_cases h2 : y = 0 <;> by_cases h3 : z = 0 <;> simp [h1, h2, h3]) _ _ H hre (IsL.fsl his)
 exact h2
theorem value_Compare_run (a b : Val) : ∃ w, zu (callW tbl) loopW zj3 [a.enc, b.enc] = some w ∧ w = i64 (vcmp a b) := by
 refine pureK zj3 rfl (fun F hF => ?_)
 have h1 := cmp_VKind_call a.kind b.kind
 have h2 := cmp_int64_call a.n b.n
 have h3 := cmp_string_call a.s b.s
 have h4 := or3_call [.arr 1 1 [i64 (cmpI a.kind b.kind), i64 (cmpI a.n b.n), i64 (cmpS a.s b.s)]] 0 1 _ _ _ rfl
 have hn : (if cmpI a.kind b.kind ≠ 0 then cmpI a.kind b.kind else if cmpI a.n b.n ≠ 0 then cmpI a.n b.n else cmpS a.s b.s) = vcmp a b := rfl
 rw [hn] at h4
 simp [zj3, c_value_Compare, AV.rowok, h1, h2, h3, zr, h4]
 exact hF _ _ _ (z7 rfl) rfl
theorem value_Compare_call (a b : Val) (H : Heap) : callW tbl (.func zg3 [] []) [a.enc, b.enc] H = some (i64 (vcmp a b), H) := by
 obtain ⟨r, h1, rfl⟩ := value_Compare_run a b
 exact Go.Abs.Sort.pureA (f := zg3) (af := zj3) rfl rfl rfl rfl h1 H
end Go.Abs.Plan
namespace Go.Abs.Plan
open Enc (Is)
def tcmp : Tup → Tup → Int
 | [], [] => 0
 | [], _ :: _ => -1
 | _ :: _, [] => 1
 | a :: x, b :: y => if vcmp a b ≠ 0 then vcmp a b else tcmp x y
theorem compareFunc_call (t u : Tup) (v w : AV) (hv : Is v t) (hw : Is w u) (ht : t.length < 2 ^ 40) (hu : u.length < 2 ^ 40) (H : Heap) :
 callW tbl (.func z62 [] []) [v, w, .func zg3 [] []] H = some (i64 (tcmp t u), H) := by
 have hlv := IsL.len hv
 have hlw := IsL.len hw
 have hcv := zm hv
 have hcw := zm hw
 refine callB z41 rfl rfl rfl (fun F hF => ?_)
 simp [z41, z72, hlv]
 refine zf (fun k s => ∃ j : Nat, j + k = t.length ∧ j ≤ u.length ∧ tcmp t u = tcmp (t.drop j) (u.drop j) ∧ s.heap = H ∧ s.dfr = [] ∧ s.tm.get 0 = v ∧ s.tm.get 1 = w ∧ s.tm.get 2 = .func zg3 [] [] ∧ s.tm.get 11 = v ∧ s.tm.get 12 = .int .i64 (t.length : Int) ∧ s.tm.get 13 = .int .i64 (j : Int)) t.length ⟨0, by omega, by omega, by simp, rfl, rfl, by simp, by simp, by simp, by simp, by simp, by simp⟩ ?_
 rintro k s Q ⟨j, h0, hju, hz, q1, q2, f0, f1, f2, f11, f12, f13⟩ hgo hx
 have hwj : IntKind.i64.wrap ((j : Int) + 1) = ((j + 1 : Nat) : Int) := zi1 (by omega) (by omega)
 by_cases hj : j < t.length
 ·have hji : (j : Int) < (t.length : Int) := by omega
  obtain ⟨fl, r, rfl, hidx⟩ := IsL.idx hv (List.getElem?_eq_getElem hj)
  simp only [show Enc.sz Val = 3 from rfl] at hidx
  have hdt : t.drop j = t[j] :: t.drop (j + 1) := List.drop_eq_getElem_cons hj
  by_cases hj2 : j < u.length
  ·have hni : ¬ (u.length : Int) ≤ (j : Int) := by omega
   obtain ⟨fl2, r2, rfl, hidx2⟩ := IsL.idx hw (List.getElem?_eq_getElem hj2)
   simp only [show Enc.sz Val = 3 from rfl] at hidx2
   have hdu : u.drop j = u[j] :: u.drop (j + 1) := List.drop_eq_getElem_cons hj2
   have hcall := value_Compare_call t[j] u[j] H
   by_cases hk : vcmp t[j] u[j] = 0
   ·simp [zn, q1, f0, f1, f2, f11, f12, f13, hji, hidx, hidx2, AV.rowok, hlw, hni, hcall, hk]
    refine hgo _ (k - 1) (by omega) ⟨j + 1, by omega, by omega, ?_, rfl, by simp [q2], by simp [f0], by simp [f1], by simp [f2], by simp [f11], by simp [f12], by simp [hwj]⟩
    rw [hz, hdt, hdu]; simp [tcmp, hk]
   ·simp [zn, q1, f0, f1, f2, f11, f12, f13, hji, hidx, hidx2, AV.rowok, hlw, hni, hcall, hk]
    refine hx _ _ (by simp) ?_
    simp [q2]
    have e : tcmp t u = vcmp t[j] u[j] := by rw [hz, hdt, hdu]; simp [tcmp, hk]
    rw [e] at hF
    exact hF _ _ (zo (by simp))
  ·have hni : (u.length : Int) ≤ (j : Int) := by omega
   simp [zn, q1, f0, f1, f2, f11, f12, f13, hji, hidx, AV.rowok, hlw, hni]
   refine hx _ _ (by simp) ?_
   simp [q2]
   have hdu : u.drop j = [] := List.drop_eq_nil_of_le (by omega)
   have e : tcmp t u = 1 := by rw [hz, hdt, hdu]; rfl
   rw [e] at hF
   exact hF _ _ (zo (by simp))
 ·have hji : ¬ (j : Int) < (t.length : Int) := by omega
  have hdt : t.drop j = [] := List.drop_eq_nil_of_le (by omega)
  by_cases hlt : t.length < u.length
  ·have hlti : (t.length : Int) < (u.length : Int) := by omega
   simp [zn, q1, f0, f1, f11, f12, f13, hji]
   refine hx _ _ (by simp) ?_
   simp [q2, f0, f1, hlv, hlw, hlti]
   have hj2 : j < u.length := by omega
   have e : tcmp t u = -1 := by rw [hz, hdt, List.drop_eq_getElem_cons hj2]; rfl
   rw [e] at hF
   exact hF _ _ (zo (by simp))
  ·have hlti : ¬ (t.length : Int) < (u.length : Int) := by omega
   simp [zn, q1, f0, f1, f11, f12, f13, hji]
   refine hx _ _ (by simp) ?_
   simp [q2, f0, f1, hlv, hlw, hlti]
   have hdu : u.drop j = [] := List.drop_eq_nil_of_le (by omega)
   have e : tcmp t u = 0 := by rw [hz, hdt, hdu]; rfl
   rw [e] at hF
   exact hF _ _ (zo (by simp))
theorem tuple_Compare_run (t u : Tup) (v w : AV) (hv : Is v t) (hw : Is w u) (ht : t.length < 2 ^ 40) (hu : u.length < 2 ^ 40) : ∃ r, zu (callW tbl) loopW z74 [v, w] = some r ∧ r = i64 (tcmp t u) := by
 refine pureK z74 rfl (fun F hF => ?_)
 have h1 := compareFunc_call t u v w hv hw ht hu []
 simp [z74, c_tuple_Compare, h1]
 exact hF _ _ _ (z7 rfl) rfl
theorem tuple_Compare_call (t u : Tup) (v w : AV) (hv : Is v t) (hw : Is w u) (ht : t.length < 2 ^ 40) (hu : u.length < 2 ^ 40) (H : Heap) : callW tbl (.func f_tuple_Compare [] []) [v, w] H = some (i64 (tcmp t u), H) := by
 obtain ⟨r, h1, rfl⟩ := callP_of (f := f_tuple_Compare) (af := z74) (tbl := tbl) rfl rfl (R := fun a => ∃ v w, a = [v, w] ∧ Is v t ∧ Is w u) (S := fun r => r = i64 (tcmp t u))
  (by rintro _ ⟨v, w, rfl, h1, h2⟩; simp [Enc.plain h1, Enc.plain h2]) (by rintro _ ⟨v, w, rfl, h1, h2⟩; exact ⟨v.lend, w.lend, rfl, Enc.lend h1, Enc.lend h2⟩) (by rintro _ rfl; rfl)
  (by rintro _ ⟨v, w, rfl, h1, h2⟩; exact tuple_Compare_run t u v w h1 h2 ht hu) [v, w] H ⟨v, w, rfl, hv, hw⟩
 exact h1
end Go.Abs.Plan
namespace Go.Abs
open Enc (Is)
instance : Enc UInt8 where
 Is v x := v = .int .u8 (x.toNat : Int)
 lend := by rintro v x rfl; rfl
 plain := by rintro v x rfl; rfl
 sz := 1
 row := by rintro v x rfl; rfl
end Go.Abs
namespace Go.Abs.Plan
open Enc (Is)
def bcell (b : UInt8) : AV := .int .u8 (b.toNat : Int)
def bcells (l : List UInt8) : List AV := l.map bcell
theorem bcells_is : ∀ l : List UInt8, All2 Is (bcells l) l
 | [] => .nil
 | b :: l => .cons rfl (bcells_is l)
theorem bcells_of : ∀ {rows : List AV} {l : List UInt8}, All2 Is rows l → rows = bcells l
 | _, _, .nil => rfl
 | _, _, .cons h hs => by cases h; rw [bcells_of hs]; rfl
theorem zv3 (l m : List UInt8) : bcells (l ++ m) = bcells l ++ bcells m := List.map_append
theorem zb1 (l : List UInt8) : (bcells l).length = l.length := List.length_map ..
theorem bcells_ok (l : List UInt8) : (bcells l).all (AV.rowok 1) = true := by simp [bcells, bcell, AV.rowok, AV.cells, AV.isCell]
theorem isB {v : AV} {l : List UInt8} (h : Is v l) (hn : l ≠ []) : ∃ fl, v = .fsl fl (bcells l) := by
 rcases h.cases with ⟨rfl, rfl⟩ | ⟨fl, rows, rfl, hr⟩
 ·exact absurd rfl hn
 ·exact ⟨fl, by rw [bcells_of hr]⟩
def numB (x : Nat) : List UInt8 := if h : x < 128 then [UInt8.ofNat x] else UInt8.ofNat (x % 128 + 128) :: numB (x / 128)
theorem numB_lt {x : Nat} (h : x < 128) : numB x = [UInt8.ofNat x] := by rw [numB, dif_pos h]
theorem numB_ge {x : Nat} (h : ¬ x < 128) : numB x = UInt8.ofNat (x % 128 + 128) :: numB (x / 128) := by rw [numB, dif_neg h]
theorem numB_ne (x : Nat) : numB x ≠ [] := by by_cases h : x < 128 <;> simp [numB_lt, numB_ge, h]
theorem numB_len : ∀ (k x : Nat), x < 128 ^ (k + 1) → (numB x).length ≤ k + 1
 | 0, x, h => by rw [numB_lt (by simpa using h)]; simp
 | k + 1, x, h => by
   by_cases hx : x < 128
   ·rw [numB_lt hx]; simp
   ·rw [numB_ge hx]
    have := numB_len k (x / 128) (Nat.div_lt_of_lt_mul (by rw [Nat.pow_succ] at h; omega))
    simp only [List.length_cons]; omega
theorem numB_len64 {x : Nat} (h : x < 2 ^ 64) : (numB x).length ≤ 10 := numB_len 9 x (by omega)
theorem u8_ofNat {n : Nat} (h : n < 256) : ((UInt8.ofNat n).toNat : Int) = (n : Int) := by
 rw [UInt8.toNat_ofNat']; omega
theorem numB_pre : ∀ (x y : Nat) (r r' : List UInt8), numB x ++ r = numB y ++ r' → x = y ∧ r = r' := by
 intro x
 induction x using Nat.strongRecOn with
 | _ x ih =>
   intro y r r' h
   by_cases hx : x < 128 <;> by_cases hy : y < 128
   ·rw [numB_lt hx, numB_lt hy] at h
    simp only [List.cons_append, List.nil_append, List.cons.injEq] at h
    have := congrArg UInt8.toNat h.1
    rw [UInt8.toNat_ofNat', UInt8.toNat_ofNat'] at this
    exact ⟨by omega, h.2⟩
   ·rw [numB_lt hx, numB_ge hy] at h
    simp only [List.cons_append, List.nil_append, List.cons.injEq] at h
    have := congrArg UInt8.toNat h.1
    rw [UInt8.toNat_ofNat', UInt8.toNat_ofNat'] at this
    omega
   ·rw [numB_ge hx, numB_lt hy] at h
    simp only [List.cons_append, List.nil_append, List.cons.injEq] at h
    have := congrArg UInt8.toNat h.1
    rw [UInt8.toNat_ofNat', UInt8.toNat_ofNat'] at this
    omega
   ·rw [numB_ge hx, numB_ge hy] at h
    simp only [List.cons_append, List.cons.injEq] at h
    have := congrArg UInt8.toNat h.1
    rw [UInt8.toNat_ofNat', UInt8.toNat_ofNat'] at this
    obtain ⟨h1, h2⟩ := ih (x / 128) (by omega) (y / 128) r r' h.2
    exact ⟨by omega, h2⟩
theorem shrE {k j : IntKind} {e : EqKind} {a p : Int} {n : Nat} (hp : (2 : Int) ^ (min n k.bits) = p) : binA .shr e (.int k a) (.int j (n : Int)) = some (.int k (a.fdiv p)) := by
 have : ¬ ((n : Int) < 0) := by omega
 simp [binA, this, hp]
theorem shlE {k j : IntKind} {e : EqKind} {a p : Int} {n : Nat} (hp : (2 : Int) ^ (min n k.bits) = p) : binA .shl e (.int k a) (.int j (n : Int)) = some (.int k (k.wrap (a * p))) := by
 have : ¬ ((n : Int) < 0) := by omega
 simp [binA, this, hp]
theorem or128 (y : Nat) (h : y < 256) : (BitVec.ofInt 8 (y : Int) ||| BitVec.ofInt 8 128).toNat = y % 128 + 128 := by
 have : ∀ z : Fin 256, (BitVec.ofInt 8 (z.val : Int) ||| BitVec.ofInt 8 128).toNat = z.val % 128 + 128 := by decide +kernel
 exact this ⟨y, h⟩
theorem pack_Num_call (x : Nat) (hx : x < 2 ^ 64) (H : Heap) : ∃ g, callW tbl (.func f_pack_Num [] []) [.int .u64 (x : Int)] H = some (.sl H.length g 0 (numB x).length, H ++ [.arr g 1 (bcells (numB x))]) := by
 have key : ∃ v H', Acc H 1 v H' (bcells (numB x)) ∧ callW tbl (.func f_pack_Num [] []) [.int .u64 (x : Int)] H = some (zg false H.length v H') := by
  refine callE (fun v H' => Acc H 1 v H' (bcells (numB x))) a_pack_Num rfl rfl rfl (fun F hF => ?_)
  simp [a_pack_Num, c_pack_Num]
  refine zf (fun k s => ∃ (y : Nat) (l : List UInt8) (v : AV), y = k ∧ y < 2 ^ 64 ∧ l ++ numB y = numB x ∧ Acc H 1 v s.heap (bcells l) ∧ s.dfr = [] ∧ s.tm.get 0 = .int .u64 (y : Int) ∧ s.tm.get 3 = v) x ⟨x, [], .nilsl, rfl, hx, rfl, Acc.nil, rfl, by simp, by simp⟩ ?_
  rintro k s Q ⟨y, l, v, rfl, hy, hl, hacc, q2, f0, f3⟩ hgo hx'
  have hlen : (numB x).length ≤ 10 := numB_len64 hx
  have hll : l.length + (numB y).length ≤ 10 := by rw [← hl] at hlen; simpa using hlen
  have hw8 : IntKind.u8.wrap (y : Int) = (y : Int) % 256 := by simp [IntKind.wrap, IntKind.bits, IntKind.signed]
  have hul : ∀ l : List UInt8, AV.unlents (bcells l) = true := fun l => by induction l with
   | nil => rfl
   | cons b l ih => simp only [bcells, List.map_cons, AV.unlents] at ih ⊢; rw [ih]; rfl
  by_cases hk : y < 128
  ·have hki : ¬ (128 : Int) ≤ (y : Int) := by omega
   have hc : AV.int .u8 ((y : Int) % 256) = bcell (UInt8.ofNat y) := by
    unfold bcell
    rw [u8_ofNat (by omega)]; congr 1; omega
   obtain ⟨v', Hs', hacc', happ⟩ := hacc.one (call := callW tbl) (lp := loopW) (bytes := 1) (r := bcell (UInt8.ofNat y)) (fl := false) rfl (by simp [zb1]; rw [numB_lt hk] at hll; simp at hll; omega)
   simp [c_pack_Num_l0, f0, hki]
   refine hx' _ _ (by simp) ?_
   have hrow : (bcell (UInt8.ofNat y)).rowok 1 = true := rfl
   simp [f0, f3, hw8, hc, hrow, zr, AV.cells, AV.isCell]
   rw [happ _ _ _ _ _ _ _ (by simp)]
   simp [q2]
   have hb : bcells l ++ [bcell (UInt8.ofNat y)] = bcells (numB x) := by rw [← hl, numB_lt hk, zv3]; rfl
   rw [hb] at hacc'
   exact hF _ _ hacc'
  ·have hki : (128 : Int) ≤ (y : Int) := by omega
   have hor := or128 (y % 256) (by omega)
   have hc0 : IntKind.u8.wrap ((BitVec.ofInt 8 ((y : Int) % 256) ||| BitVec.ofInt 8 128).toNat : Int) = ((y % 128 + 128 : Nat) : Int) := by
    have e : ((y : Int) % 256) = ((y % 256 : Nat) : Int) := by omega
    rw [e, hor]
    simp only [IntKind.wrap, IntKind.bits, IntKind.signed]
    have : y % 256 % 128 = y % 128 := by omega
    rw [this]
    simp
    omega
   have hc : AV.int .u8 ((y % 128 + 128 : Nat) : Int) = bcell (UInt8.ofNat (y % 128 + 128)) := by
    unfold bcell
    rw [u8_ofNat (by omega)]
   have hsh : (y : Int).fdiv 128 = ((y / 128 : Nat) : Int) := by
    rw [Int.fdiv_eq_ediv_of_nonneg _ (by omega)]
    omega
   have hy2 : numB y = UInt8.ofNat (y % 128 + 128) :: numB (y / 128) := numB_ge hk
   obtain ⟨v', Hs', hacc', happ⟩ := hacc.one (call := callW tbl) (lp := loopW) (bytes := 1) (r := bcell (UInt8.ofNat (y % 128 + 128))) (fl := false) rfl (by simp [zb1]; rw [hy2] at hll; simp at hll; omega)
   have hrow : (bcell (UInt8.ofNat (y % 128 + 128))).rowok 1 = true := rfl
   have hbin : binA .or .no (.int .u8 ((y : Int) % 256)) (.int .u8 128) = some (bcell (UInt8.ofNat (y % 128 + 128))) := by
    rw [← hc, ← hc0]; rfl
   have hshr : binA .shr .no (.int .u64 (y : Int)) (.int .u64 7) = some (.int .u64 ((y / 128 : Nat) : Int)) := by
    rw [← hsh]; exact shrE (n := 7) (by decide)
   generalize UInt8.ofNat (y % 128 + 128) = c at hy2 hacc' happ hrow hbin
   simp [c_pack_Num_l0, f0, f3, hki, hw8, hbin, hrow, zr, AV.cells, AV.isCell]
   rw [happ _ _ _ _ _ _ _ (by simp)]
   simp [f0, hshr, -Int.natCast_ediv]
   refine hgo _ (y / 128) (by omega) ⟨y / 128, l ++ [c], v', rfl, by omega, by rw [← hl, hy2]; simp, ?_, by simp [q2], by simp, by simp⟩
   rw [zv3]; exact hacc'
 obtain ⟨v, H', hacc, hc⟩ := key
 have hne : bcells (numB x) ≠ [] := by simpa [bcells] using numB_ne x
 rcases hacc with ⟨h, _, _⟩ | ⟨g, _, rfl, rfl⟩
 ·exact absurd h hne
 ·refine ⟨g, ?_⟩
  rw [hc]
  have hu : (AV.sl H.length g 0 (bcells (numB x)).length).under H.length = false := by simp [AV.under]
  rw [zb1] at hu ⊢
  simp [zg, trunc, hu]
theorem isBF {r : AV} {l : List UInt8} (h : Is r l) (hn : l ≠ []) (hu : r.unlent = true) : r = .fsl false (bcells l) := by
 obtain ⟨fl, rfl⟩ := isB h hn
 cases fl with
 | false => rfl
 | true => simp [AV.unlent] at hu
theorem bcells_unlent (l : List UInt8) : AV.unlents (bcells l) = true := by
 induction l with
 | nil => rfl
 | cons b l ih => simp only [bcells, List.map_cons, AV.unlents] at ih ⊢; rw [ih]; rfl
theorem bcells_plain (l : List UInt8) : AV.plains (bcells l) = true := by
 induction l with
 | nil => rfl
 | cons b l ih => simp only [bcells, List.map_cons, AV.plains] at ih ⊢; rw [ih]; rfl
def zig (x : Int) : Nat := if 0 ≤ x then (2 * x).toNat else (-2 * x - 1).toNat
theorem zig_inj {x y : Int} (h : zig x = zig y) : x = y := by
 unfold zig at h
 split at h <;> split at h <;> omega
theorem zig_lt {x : Int} (h1 : -2 ^ 63 ≤ x) (h2 : x < 2 ^ 63) : zig x < 2 ^ 64 := by
 unfold zig
 split <;> omega
theorem zig_eq {x : Int} (h1 : -2 ^ 63 ≤ x) (h2 : x < 2 ^ 63) :
 IntKind.u64.wrap ((BitVec.ofInt 64 (IntKind.u64.wrap (IntKind.i64.wrap (x * 2 ^ 1))) ^^^ BitVec.ofInt 64 (IntKind.u64.wrap (x.fdiv (2 ^ 63)))).toNat : Int) = (zig x : Int) := by
 have hd : x.fdiv (2 ^ 63) = if 0 ≤ x then 0 else -1 := by
  rw [Int.fdiv_eq_ediv_of_nonneg _ (by decide)]
  split <;> omega
 have hu : ∀ z : Int, (BitVec.ofInt 64 (IntKind.u64.wrap (IntKind.i64.wrap z))) = BitVec.ofInt 64 z := by
  intro z
  apply BitVec.eq_of_toNat_eq
  simp only [BitVec.toNat_ofInt, IntKind.wrap, IntKind.bits, IntKind.signed]
  simp
  split <;> omega
 have hu2 : ∀ z : Int, (BitVec.ofInt 64 (IntKind.u64.wrap z)) = BitVec.ofInt 64 z := by
  intro z
  apply BitVec.eq_of_toNat_eq
  simp only [BitVec.toNat_ofInt, IntKind.wrap, IntKind.bits, IntKind.signed]
  simp
 rw [hu, hu2, hd]
 by_cases h0 : 0 ≤ x
 ·rw [if_pos h0]
  have : (BitVec.ofInt 64 (x * 2 ^ 1) ^^^ BitVec.ofInt 64 0) = BitVec.ofInt 64 (x * 2 ^ 1) := by simp
  rw [this, BitVec.toNat_ofInt]
  unfold zig
  rw [if_pos h0]
  simp only [IntKind.wrap, IntKind.bits, IntKind.signed]
  simp
  omega
 ·rw [if_neg h0]
  have : (BitVec.ofInt 64 (x * 2 ^ 1) ^^^ BitVec.ofInt 64 (-1)) = ~~~ (BitVec.ofInt 64 (x * 2 ^ 1)) := by
   have : BitVec.ofInt 64 (-1) = BitVec.allOnes 64 := by decide
   rw [this, BitVec.xor_allOnes]
  rw [this, BitVec.toNat_not, BitVec.toNat_ofInt]
  unfold zig
  rw [if_neg h0]
  simp only [IntKind.wrap, IntKind.bits, IntKind.signed]
  simp
  omega
theorem pack_Int_run (x : Int) (h1 : -2 ^ 63 ≤ x) (h2 : x < 2 ^ 63) : ∃ r, zu (callW tbl) loopW a_pack_Int [.int .i64 x] = some r ∧ Is r (numB (zig x)) ∧ r.unlent = true := by
 refine pureK a_pack_Int rfl (fun F hF => ?_)
 obtain ⟨g, hc⟩ := pack_Num_call (zig x) (zig_lt h1 h2) []
 have b1 : binA .shl .no (.int .i64 x) (.int .u64 1) = some (.int .i64 (IntKind.i64.wrap (x * 2 ^ 1))) := shlE (n := 1) (by decide)
 have b2 : binA .shr .no (.int .i64 x) (.int .u64 63) = some (.int .i64 (x.fdiv (2 ^ 63))) := shrE (n := 63) (by decide)
 have b3 : binA .xor .no (.int .u64 (IntKind.u64.wrap (IntKind.i64.wrap (x * 2 ^ 1)))) (.int .u64 (IntKind.u64.wrap (x.fdiv (2 ^ 63)))) = some (.int .u64 (zig x : Int)) := by
  rw [← zig_eq h1 h2]; rfl
 generalize IntKind.i64.wrap (x * 2 ^ 1) = z1 at b1 b3
 generalize x.fdiv (2 ^ 63) = z2 at b2 b3
 simp [a_pack_Int, c_pack_Int, b1, b2, b3, hc]
 exact hF _ _ _ (reify_rows (R := bcells (numB (zig x))) (sz := 1) rfl (by simp [zb1]) (List.take_of_length_le (by simp [zb1])) (bcells_is (numB (zig x)))) ⟨IsL.fsl (bcells_is _), by simp [AV.unlent, bcells_unlent]⟩
theorem pack_Int_call (x : Int) (h1 : -2 ^ 63 ≤ x) (h2 : x < 2 ^ 63) (H : Heap) : callW tbl (.func f_pack_Int [] []) [.int .i64 x] H = some (.fsl false (bcells (numB (zig x))), H) := by
 obtain ⟨r, g1, g2, g3⟩ := pack_Int_run x h1 h2
 rw [isBF g2 (numB_ne _) g3] at g1
 exact Go.Abs.Sort.pureA (f := f_pack_Int) (af := a_pack_Int) rfl rfl rfl rfl g1 H
theorem wrapU64 {n : Nat} (h : n < 2 ^ 64) : IntKind.u64.wrap (n : Int) = (n : Int) := by
 simp only [IntKind.wrap, IntKind.bits, IntKind.signed]; simp; omega
def textB (s : List UInt8) : List UInt8 := numB s.length ++ s
theorem pack_Text_run (s : List UInt8) (v : AV) (hv : Is v s) (hs : s.length < 2 ^ 40) : ∃ r, zu (callW tbl) loopW a_pack_Text [v] = some r ∧ Is r (textB s) ∧ r.unlent = true := by
 have hln := IsL.len hv
 obtain ⟨g, hc⟩ := pack_Num_call s.length (by omega) []
 have hw := wrapU64 (n := s.length) (by omega)
 have hnb := numB_len64 (x := s.length) (by omega)
 have hacc : Acc [] 1 (.sl 0 g 0 (numB s.length).length) [.arr g 1 (bcells (numB s.length))] (bcells (numB s.length)) := .inr ⟨g, by simpa [bcells] using numB_ne s.length, by simp [zb1], rfl⟩
 have hv' : v = .nilsl ∧ s = [] ∨ ∃ fl, v = .fsl fl (bcells s) := by
  rcases hv.cases with ⟨rfl, rfl⟩ | ⟨fl, rows, rfl, hr⟩
  ·exact .inl ⟨rfl, rfl⟩
  ·exact .inr ⟨fl, by rw [bcells_of hr]⟩
 refine pureK a_pack_Text rfl (fun F hF => ?_)
 rcases hv' with ⟨rfl, rfl⟩ | ⟨fl, rfl⟩
 ·obtain ⟨r, g1, g2, g3⟩ := hacc.reify (bcells_is (numB ([] : List UInt8).length))
  simp at hw hc
  simp [a_pack_Text, c_pack_Text, hw, hc, ze1, appendTo_0s]
  exact hF _ _ r g1 ⟨by simpa [textB] using g2, g3 (bcells_unlent _)⟩
 ·obtain ⟨v', Hs', hacc', happ⟩ := hacc.append (call := callW tbl) (lp := loopW) (bytes := 1) (ys := bcells s) (fl := fl) (bcells_ok s) (by simp [zb1]; omega)
  rw [← zv3] at hacc'
  obtain ⟨r, g1, g2, g3⟩ := hacc'.reify (bcells_is (numB s.length ++ s))
  simp [zb1] at hln
  simp [a_pack_Text, c_pack_Text, zb1, hw, hc]
  rw [happ _ _ _ _ _ _ _ (by simp)]
  simp
  exact hF _ _ r g1 ⟨g2, g3 (bcells_unlent _)⟩
theorem pack_Text_call (s : List UInt8) (hs : s.length < 2 ^ 40) (H : Heap) : callW tbl (.func f_pack_Text [] []) [.fsl false (bcells s)] H = some (.fsl false (bcells (textB s)), H) := by
 obtain ⟨r, h1, h2, h3⟩ := pack_Text_run s (.fsl false (bcells s)) (IsL.fsl (bcells_is s)) hs
 rw [isBF h2 (by simp [textB, numB_ne]) h3] at h1
 exact Go.Abs.Sort.pureA (f := f_pack_Text) (af := a_pack_Text) rfl rfl (by simp [AV.plains, AV.plain, bcells_plain]) (by simp [AV.unlents, AV.unlent, bcells_unlent]) h1 H
end Go.Abs.Plan
namespace Go.Abs.Plan
open Enc (Is)
def Grow (H : Heap) (b : AV) (l : List UInt8) : Prop := (b = .nilsl ∧ l = []) ∨ ∃ id g, b = .sl id g 0 l.length ∧ H[id]? = some (.arr g 1 (bcells l))
theorem Grow.close {H' H'' : Heap} {b r : AV} {l : List UInt8} {n : Nat} (h : Grow H' b l) (hc : zg false n b H' = (r, H'')) : r = b ∧ Grow H'' b l := by
 simp only [zg, Bool.false_eq_true, if_false, trunc] at hc
 split at hc
 ·rename_i hu
  simp only [Prod.mk.injEq] at hc
  obtain ⟨rfl, rfl⟩ := hc
  refine ⟨rfl, ?_⟩
  rcases h with h | ⟨id, g, rfl, hB⟩
  ·exact .inl h
  ·simp only [Bool.and_eq_true, AV.under, decide_eq_true_eq] at hu
   exact .inr ⟨id, g, rfl, by rw [List.getElem?_take, if_pos hu.1]; exact hB⟩
 ·simp only [Prod.mk.injEq] at hc
  obtain ⟨rfl, rfl⟩ := hc
  exact ⟨rfl, h⟩
structure ValOk (v : Val) : Prop where
 k1 : -2 ^ 63 ≤ v.kind
 k2 : v.kind < 2 ^ 63
 n1 : -2 ^ 63 ≤ v.n
 n2 : v.n < 2 ^ 63
 s : v.s.data.toList.length ≤ 2 ^ 20
def valB (v : Val) : List UInt8 := numB (zig v.kind) ++ numB (zig v.n) ++ textB v.s.data.toList
theorem valB_len {v : Val} (h : ValOk v) : (valB v).length ≤ 2 ^ 20 + 30 := by
 have h1 := numB_len64 (zig_lt h.k1 h.k2)
 have h2 := numB_len64 (zig_lt h.n1 h.n2)
 have h3 := numB_len64 (x := v.s.data.toList.length) (by have := h.s; omega)
 have := h.s
 simp only [valB, textB, List.length_append]
 omega
theorem bcells_ok2 (l : List UInt8) : (∀ x : AV, x ∈ bcells l → AV.rowok 1 x = true) = True := by
 have := List.all_eq_true.1 (bcells_ok l)
 exact eq_true (fun x hx => this x hx)
theorem take_b (l : List UInt8) : List.take l.length (bcells l) = bcells l := List.take_of_length_le (by simp [zb1])
theorem text_call (v : Val) (hv : ValOk v) (b : AV) (l : List UInt8) (H : Heap) (hb : Grow H b l) (hl : l.length < 2 ^ 45) :
 ∃ r H', callW tbl (.func f_exec_text [] []) [b, v.enc] H = some (r, H') ∧ Grow H' r (l ++ valB v) := by
 have hp1 := pack_Int_call v.kind hv.k1 hv.k2
 have hp2 := pack_Int_call v.n hv.n1 hv.n2
 have hp3 := pack_Text_call v.s.data.toList (by have := hv.s; omega)
 have n1 := numB_len64 (zig_lt hv.k1 hv.k2)
 have n2 := numB_len64 (zig_lt hv.n1 hv.n2)
 have m1 : (numB (zig v.kind)).length ≠ 0 := by have := numB_ne (zig v.kind); simpa using this
 have m2 : (numB (zig v.n)).length ≠ 0 := by have := numB_ne (zig v.n); simpa using this
 have hcells : cellsOf v.s = bcells v.s.data.toList := rfl
 have key : ∃ w H', Grow H' w (l ++ valB v) ∧ callW tbl (.func f_exec_text [] []) [b, v.enc] H = some (zg false H.length w H') := by
  refine callE (fun w H' => Grow H' w (l ++ valB v)) a_exec_text rfl rfl rfl (fun F hF => ?_)
  have hrow : AV.rowok 3 v.enc = true := rfl
  have hcl : v.enc.cells = [i64 v.kind, i64 v.n, .str v.s] := rfl
  have hT : (bcells (textB v.s.data.toList)).length ≠ 0 := by rw [zb1]; simp [textB, numB_ne]
  have hTl : (textB v.s.data.toList).length ≠ 0 := by simp [textB, numB_ne]
  have hTb := valB_len hv
  generalize hA : numB (zig v.kind) = A at *
  generalize hB : numB (zig v.n) = B at *
  generalize hC : textB v.s.data.toList = C at *
  have hval : valB v = A ++ B ++ C := by rw [← hA, ← hB, ← hC]; rfl
  have hvl : (A ++ B ++ C).length ≤ 2 ^ 20 + 30 := by rw [← hval]; exact hTb
  simp only [List.length_append] at hvl
  have r1 : A.length ≤ 140737488355328 := by omega
  have r2 : A.length + B.length ≤ 140737488355328 := by omega
  have r3 : ¬ (A.length + B.length ≤ A.length) := by omega
  have r4 : ¬ (B.length = 0) := m2
  rcases hb with ⟨rfl, rfl⟩ | ⟨id, g, rfl, hBk⟩
  ·have r5 : A.length + B.length + C.length ≤ 140737488355328 := by omega
   have r6 : ¬ (A.length + B.length + C.length ≤ A.length + B.length) := by omega
   simp [a_exec_text, c_exec_text, hrow, hcl, hp1, hp2, hcells, ze1, z73, z81, zb1, m1, m2, room, bcells_ok2, r1, r2, r3, r4, take_b, ← zv3, hp3, hTl, r5, r6]
   refine hF _ _ (.inr ⟨H.length, 3, by rw [hval]; simp [Nat.add_assoc], ?_⟩)
   have t0 : List.take (A.length + B.length) (bcells (A ++ B)) = bcells (A ++ B) := List.take_of_length_le (by simp [zb1])
   rw [t0, hval, ← zv3]; simp
  ·have k0 := zf1 hBk
   have k1 := lt_of hBk
   have s1 : l.length + A.length ≤ 140737488355328 := by omega
   have s2 : l.length + A.length + B.length ≤ 140737488355328 := by omega
   have s5 : id < H.length + 2 := by omega
   have s6 : l.length + A.length + B.length + C.length ≤ 140737488355328 := by omega
   have s7 : ¬ (l.length + A.length + B.length + C.length ≤ l.length + A.length + B.length) := by omega
   have s8 : ¬ (C.length = 0) := hTl
   have t1 : List.take (l.length + A.length) (bcells (l ++ A)) = bcells (l ++ A) := List.take_of_length_le (by simp [zb1])
   have t2 : List.take (l.length + A.length + B.length) (bcells (l ++ (A ++ B))) = bcells (l ++ (A ++ B)) := List.take_of_length_le (by simp [zb1]; omega)
   have s9 : l.length + A.length + B.length ≤ l.length + (A.length + B.length) := by omega
   have s10 : ¬ (l.length + A.length + B.length + C.length ≤ l.length + (A.length + B.length)) := by omega
   have s3 : ¬ (l.length + A.length ≤ l.length) := by omega
   have s4 : ¬ (l.length + A.length + B.length ≤ l.length + A.length) := by omega
   simp [a_exec_text, c_exec_text, hrow, hcl, hp1, hp2, hcells, ze1, z73, z81, zb1, m1, m2, room, bcells_ok2, r1, r2, r3, r4, s1, s2, s3, s4, s5, s6, s7, s8, s9, s10, hTl, hp3, k0, k1, t1, t2, take_b, ← zv3]
   refine hF _ _ (.inr ⟨id, g + 1 + 1 + 1, by rw [hval]; simp [Nat.add_assoc], ?_⟩)
   rw [hval, List.getElem?_append_left (by simp [k1])]; simp [k1]
 obtain ⟨w, H', hP, hc⟩ := key
 have hcl : zg false H.length w H' = ((zg false H.length w H').1, (zg false H.length w H').2) := rfl
 obtain ⟨e, hG⟩ := hP.close hcl
 refine ⟨(zg false H.length w H').1, (zg false H.length w H').2, hc, ?_⟩
 rw [e]; exact hG
theorem bytesOf_b : ∀ l : List UInt8, bytesOf (bcells l) = some l
 | [] => rfl
 | b :: l => by
   show (match bytesOf (bcells l) with | some bs => some (UInt8.ofNat (b.toNat : Int).toNat :: bs) | none => none) = _
   rw [bytesOf_b l]
   simp
theorem textOf_b (l : List UInt8) : textOf (bcells l) = some (.str ⟨⟨l⟩⟩) := by unfold textOf; rw [bytesOf_b]
structure TupOk (t : Tup) : Prop where
 len : t.length ≤ 2 ^ 20
 val : ∀ v ∈ t, ValOk v
def keyB (t : Tup) : List UInt8 := t.flatMap valB
def keyS (t : Tup) : ByteArray := ⟨⟨keyB t⟩⟩
theorem keyB_len : ∀ (t : Tup), (∀ v ∈ t, ValOk v) → (keyB t).length ≤ t.length * (2 ^ 20 + 30)
 | [], _ => by simp [keyB]
 | v :: t, h => by
   have h1 := valB_len (h v (by simp))
   have h2 := keyB_len t (fun w hw => h w (by simp [hw]))
   simp only [keyB, List.flatMap_cons, List.length_append, List.length_cons] at h2 ⊢
   rw [Nat.add_mul]; omega
theorem key_run (t : Tup) (ht : TupOk t) (v : AV) (hv : Is v t) : ∃ r, zu (callW tbl) loopW a_exec_key [v] = some r ∧ r = .str (keyS t) := by
 have hln := IsL.len hv
 have hlt := ht.len
 refine pureK a_exec_key rfl (fun F hF => ?_)
 simp [a_exec_key, c_exec_key, hln]
 refine zf (fun k s => ∃ (j : Nat) (b : AV), j + k = t.length ∧ Grow s.heap b (keyB (t.take j)) ∧ s.dfr = [] ∧ s.tm.get 3 = b ∧ s.tm.get 6 = v ∧ s.tm.get 7 = .int .i64 (t.length : Int) ∧ s.tm.get 8 = .int .i64 (j : Int)) t.length ⟨0, .nilsl, by omega, .inl ⟨rfl, by simp [keyB]⟩, rfl, by simp, by simp, by simp, by simp⟩ ?_
 rintro k s Q ⟨j, b, h0, hG, q2, f3, f6, f7, f8⟩ hgo hx
 have hw : IntKind.i64.wrap ((j : Int) + 1) = ((j + 1 : Nat) : Int) := zi1 (by omega) (by omega)
 by_cases hj : j < t.length
 ·have hji : (j : Int) < (t.length : Int) := by omega
  obtain ⟨fl, r, rfl, hidx⟩ := IsL.idx hv (List.getElem?_eq_getElem hj)
  simp only [show Enc.sz Val = 3 from rfl] at hidx
  have hkl := keyB_len (t.take j) (fun w hw => ht.val w (List.mem_of_mem_take hw))
  have htl : (t.take j).length ≤ 2 ^ 20 := by simp; omega
  have hmul : (t.take j).length * (2 ^ 20 + 30) ≤ 2 ^ 20 * (2 ^ 20 + 30) := Nat.mul_le_mul_right _ htl
  obtain ⟨r', H', hc, hG'⟩ := text_call t[j] (ht.val _ (List.getElem_mem hj)) b _ s.heap hG (by omega)
  have hkey : keyB (t.take j) ++ valB t[j] = keyB (t.take (j + 1)) := by
   unfold keyB
   rw [List.take_succ_eq_append_getElem hj, List.flatMap_append]
   simp only [List.flatMap_cons, List.flatMap_nil, List.append_nil]
  rw [hkey] at hG'
  have hrow : AV.rowok 3 t[j].enc = true := rfl
  simp [c_exec_key_l0, f3, f6, f7, f8, hji, hidx, hrow, hc]
  exact hgo _ (k - 1) (by omega) ⟨j + 1, r', by omega, hG', by simp [q2], by simp, by simp [f6], by simp [f7], by simp [hw]⟩
 ·have hji : ¬ (j : Int) < (t.length : Int) := by omega
  simp [c_exec_key_l0, f7, f8, hji]
  refine hx _ _ (by simp) ?_
  have htj : t.take j = t := List.take_of_length_le (by omega)
  rw [htj] at hG
  rcases hG with ⟨rfl, hk⟩ | ⟨id, g, rfl, hB⟩
  ·simp [q2, f3, ofBytesA]
   exact hF _ _ _ (z7 rfl) (by rw [keyS, hk])
  ·have k0 := zf1 hB
   have hsl : z63 g 0 (keyB t).length (.arr g 1 (bcells (keyB t))) = some (bcells (keyB t)) := by
    simp [z63, zb1, take_b]
   simp [q2, f3, ofBytesA, k0, hsl, textOf_b]
   exact hF _ _ _ (z7 rfl) rfl
theorem key_call (t : Tup) (ht : TupOk t) (v : AV) (hv : Is v t) (H : Heap) : callW tbl (.func f_exec_key [] []) [v] H = some (.str (keyS t), H) := by
 obtain ⟨r, h1, rfl⟩ := callP_of (f := f_exec_key) (af := a_exec_key) (tbl := tbl) rfl rfl (R := fun a => ∃ v, a = [v] ∧ Is v t) (S := fun r => r = .str (keyS t))
  (by rintro _ ⟨v, rfl, h1⟩; simp [Enc.plain h1]) (by rintro _ ⟨v, rfl, h1⟩; exact ⟨v.lend, rfl, Enc.lend h1⟩) (by rintro _ rfl; rfl)
  (by rintro _ ⟨v, rfl, h1⟩; exact key_run t ht v h1) [v] H ⟨_, rfl, hv⟩
 exact h1
theorem valB_pre {a b : Val} {r r' : List UInt8} (h : valB a ++ r = valB b ++ r') : a = b ∧ r = r' := by
 simp only [valB, textB, List.append_assoc] at h
 obtain ⟨h1, h⟩ := numB_pre _ _ _ _ h
 obtain ⟨h2, h⟩ := numB_pre _ _ _ _ h
 obtain ⟨h3, h⟩ := numB_pre _ _ _ _ h
 obtain ⟨h4, h5⟩ := List.append_inj h h3
 refine ⟨?_, h5⟩
 obtain ⟨k1, n1, ⟨⟨s1⟩⟩⟩ := a
 obtain ⟨k2, n2, ⟨⟨s2⟩⟩⟩ := b
 simp only [Val.mk.injEq]
 refine ⟨zig_inj h1, zig_inj h2, ?_⟩
 simp at h4
 rw [h4]
theorem valB_ne (a : Val) : valB a ≠ [] := by simp [valB, numB_ne]
theorem keyB_inj : ∀ {t u : Tup}, keyB t = keyB u → t = u
 | [], [], _ => rfl
 | [], b :: u, h => by
   simp only [keyB, List.flatMap_nil, List.flatMap_cons] at h
   have := List.append_eq_nil_iff.1 h.symm
   exact absurd this.1 (valB_ne b)
 | a :: t, [], h => by
   simp only [keyB, List.flatMap_nil, List.flatMap_cons] at h
   have := List.append_eq_nil_iff.1 h
   exact absurd this.1 (valB_ne a)
 | a :: t, b :: u, h => by
   simp only [keyB, List.flatMap_cons] at h
   obtain ⟨rfl, h2⟩ := valB_pre h
   rw [keyB_inj (t := t) (u := u) h2]
theorem keyS_inj {t u : Tup} (h : keyS t = keyS u) : t = u := by
 simp only [keyS, ByteArray.mk.injEq, Array.mk.injEq] at h
 exact keyB_inj h
end Go.Abs.Plan
namespace Go.Abs.Plan
open Enc (Is)
theorem callP1 {α : Type} [Enc α] {f : FuncId} {af : AFunc} (ht : tbl f = some (.code af)) (hp : af.pure = true) {S : AV → Prop} (x : α) (hS : ∀ r, S r → S r.lend)
 (hrun : ∀ v : AV, Is v x → ∃ r, zu (callW tbl) loopW af [v] = some r ∧ S r) (v : AV) (hv : Is v x) (H : Heap) : ∃ r, callW tbl (.func f [] []) [v] H = some (r, H) ∧ S r :=
 callP_of ht hp (R := fun a => ∃ v, a = [v] ∧ Is v x) (by rintro a ⟨v, rfl, h⟩; simp [Enc.plain h]) (by rintro a ⟨v, rfl, h⟩; exact ⟨v.lend, rfl, Enc.lend h⟩) hS (by rintro a ⟨v, rfl, h⟩; exact hrun v h) [v] H ⟨v, rfl, hv⟩
end Go.Abs.Plan
namespace Go.Abs.Plan
open Enc (Is)
theorem wrap_u64 {n : Int} (h1 : 0 ≤ n) (h2 : n < 2 ^ 64) : IntKind.u64.wrap n = n := by
 simp [IntKind.wrap, IntKind.bits, IntKind.signed]
 omega
theorem ofInt_nat (n : Nat) : BitVec.ofInt 64 (n : Int) = BitVec.ofNat 64 n := by simp
theorem fdiv_pow (B j : Nat) : ((B : Int).fdiv (2 ^ j)) = ((B >>> j : Nat) : Int) := by
 rw [Int.fdiv_eq_ediv_of_nonneg _ (Int.pow_nonneg (by decide)), Nat.shiftRight_eq_div_pow]; simp
theorem shr_u64 {B j : Nat} (hj : j < 64) (eq : EqKind) : binA .shr eq (.int .u64 (B : Int)) (i64 (j : Int)) = some (.int .u64 ((B >>> j : Nat) : Int)) := by
 have : ¬ ((j : Int) < 0) := by omega
 have e : min j 64 = j := by omega
 simp only [binA, this, if_false, Int.toNat_natCast, IntKind.bits, e, fdiv_pow]
theorem and1_bv (n : Nat) : (BitVec.ofNat 64 n &&& BitVec.ofNat 64 1).toNat = n % 2 := by simp [BitVec.toNat_and, Nat.and_one_is_mod]
theorem and1_u64 {n : Nat} (hn : n < 2 ^ 64) (eq : EqKind) : binA .and eq (.int .u64 (n : Int)) (.int .u64 1) = some (.int .u64 ((n % 2 : Nat) : Int)) := by
 have h : IntKind.u64.wrap (((BitVec.ofNat 64 n &&& BitVec.ofNat 64 1).toNat : Nat) : Int) = ((n % 2 : Nat) : Int) := by rw [and1_bv, wrap_u64 (by omega) (by omega)]
 have h2 : BitVec.ofInt (IntKind.u64).bits (n : Int) = BitVec.ofNat 64 n := ofInt_nat n
 show some (AV.int .u64 (IntKind.u64.wrap (((BitVec.ofInt 64 (n : Int) &&& BitVec.ofInt 64 1).toNat : Nat) : Int))) = _
 rw [show BitVec.ofInt 64 (n : Int) = BitVec.ofNat 64 n from ofInt_nat n]
 exact congrArg (fun x => some (AV.int .u64 x)) h
theorem bit_eq (B j : Nat) : (((B >>> j) % 2 : Nat) : Int) = 1 ↔ B.testBit j = true := by
 rw [Nat.testBit_eq_decide_div_mod_eq, Nat.shiftRight_eq_div_pow]; simp only [decide_eq_true_eq]; omega
theorem shl_u64 {j : Nat} (hj : j < 64) (eq : EqKind) : binA .shl eq (.int .u64 1) (i64 (j : Int)) = some (.int .u64 ((2 ^ j : Nat) : Int)) := by
 have h0 : ¬ ((j : Int) < 0) := by omega
 have e : min j 64 = j := by omega
 have hp : 2 ^ j < 2 ^ 64 := Nat.pow_lt_pow_right (by decide) hj
 simp only [binA, h0, if_false, Int.toNat_natCast, IntKind.bits, e, Int.one_mul]
 have : ((2 : Int) ^ j) = ((2 ^ j : Nat) : Int) := by simp
 have hc : ((2 ^ j : Nat) : Int) < 2 ^ 64 := by exact_mod_cast hp
 rw [this, wrap_u64 (Int.natCast_nonneg _) hc]
theorem or_bv {x y : Nat} (hx : x < 2 ^ 64) (hy : y < 2 ^ 64) : (BitVec.ofNat 64 x ||| BitVec.ofNat 64 y).toNat = x ||| y := by
 simp only [BitVec.toNat_or, BitVec.toNat_ofNat]
 rw [Nat.mod_eq_of_lt hx, Nat.mod_eq_of_lt hy]
theorem or_u64 {x y : Nat} (hx : x < 2 ^ 64) (hy : y < 2 ^ 64) (eq : EqKind) : binA .or eq (.int .u64 (x : Int)) (.int .u64 (y : Int)) = some (.int .u64 ((x ||| y : Nat) : Int)) := by
 have hlt := Nat.or_lt_two_pow hx hy
 have h : IntKind.u64.wrap (((BitVec.ofNat 64 x ||| BitVec.ofNat 64 y).toNat : Nat) : Int) = ((x ||| y : Nat) : Int) := by
  rw [or_bv hx hy, wrap_u64 (Int.natCast_nonneg _) (by exact_mod_cast hlt)]
 show some (AV.int .u64 (IntKind.u64.wrap (((BitVec.ofInt 64 (x : Int) ||| BitVec.ofInt 64 (y : Int)).toNat : Nat) : Int))) = _
 rw [show BitVec.ofInt 64 (x : Int) = BitVec.ofNat 64 x from ofInt_nat x, show BitVec.ofInt 64 (y : Int) = BitVec.ofNat 64 y from ofInt_nat y]
 exact congrArg (fun x => some (AV.int .u64 x)) h
end Go.Abs.Plan
namespace Go.Abs.Plan
open Enc (Is)
def plN (ns : List ByteArray) (nm : ByteArray) : Nat := ns.findIdx (fun m => decide (nm = m))
end Go.Abs.Plan
namespace Go.Abs.Plan
open Enc (Is)
@[simp] theorem keyOk_str (nm : ByteArray) : keyOk false [.str] (.str nm) = true := by simp [keyOk, AV.isAgg]
end Go.Abs.Plan
namespace Go.Abs.Plan
open Enc (Is)
def tupA (t : Tup) : AV := .fsl false (t.map Val.enc)
theorem encs_is {α : Type} [Enc α] {f : α → AV} (hf : ∀ x, Is (f x) x) : ∀ l : List α, All2 Is (l.map f) l
 | [] => .nil
 | x :: l => .cons (hf x) (encs_is hf l)
theorem tupA_is (t : Tup) : Is (tupA t) t := IsL.fsl (encs_is (fun _ => rfl) t)
theorem neqVal (a b : Val) : binA .neq (.cells [.int, .int, .str]) a.enc b.enc = some (.bool (decide (a ≠ b))) := by
 show (some (AV.bool !((a.kind == b.kind) && ((a.n == b.n) && ((a.s.toList == b.s.toList) && true)))) : Option AV) = _
 congr 2
 obtain ⟨k1, n1, s1⟩ := a
 obtain ⟨k2, n2, s2⟩ := b
 have hs : (s1.toList = s2.toList) ↔ s1 = s2 := ⟨toList_inj, fun h => by rw [h]⟩
 by_cases h1 : k1 = k2 <;> by_cases h2 : n1 = n2 <;> by_cases h3 : s1 = s2 <;> simp [h1, h2, h3, hs]
def bstep (st : List ByteArray × Tup) (x : Term) (y : Val) : Option (List ByteArray × Tup) :=
 if x.kind = 3 then some st
 else if x.kind = 2 then (if x.v = y then some st else none)
 else if x.kind = 1 then (match st.1.findIdx? (fun m => decide (x.name = m)) with
  | none => some (st.1 ++ [x.name], st.2 ++ [y])
  | some k => if st.2[k]? = some y then some st else none)
 else none
def zi2 : List Term → Tup → List ByteArray × Tup → Option Tup
 | [], _, st => some st.2
 | x :: xs, y :: ys, st => match bstep st x y with
   | some st' => zi2 xs ys st'
   | none => none
 | _ :: _, [], _ => none
def zq1 (l : List Term) (t : Tup) : Option Tup := if l.length = t.length then zi2 l t ([], []) else none
def bindsA : Option Tup → AV
 | some u => .tuple [tupA u, .bool true]
 | none => .tuple [.nilsl, .bool false]
def sEnts : List (ByteArray × AV) → Nat → List MEnt
 | [], _ => []
 | (n, v) :: l, i => { key := .str n, val := v, born := i } :: sEnts l (i + 1)
theorem sEnts_find (nm : ByteArray) : ∀ (l : List (ByteArray × AV)) (i k : Nat), findE false [.str] (.str nm) (sEnts l i) k =
 some ((l.findIdx? (fun m => decide (nm = m.1))).map fun j => (j + k, { key := .str nm, val := (l.getD j default).2, born := j + i }))
 | [], i, k => rfl
 | (n, v) :: l, i, k => by
   simp only [sEnts, findE, keyEq, AV.isAgg, beq_self_eq_true, if_true, cells_str, cells_strE, cells_nilE, Option.map_some, Bool.and_true]
   by_cases h : nm = n
   ·subst h; simp [List.findIdx?_cons]
   ·simp only [h, decide_false, sEnts_find nm l (i + 1) (k + 1), List.findIdx?_cons]
    cases l.findIdx? (fun m => decide (nm = m.1)) <;> simp <;> omega
theorem sEnts_snoc (nm : ByteArray) (v : AV) : ∀ (l : List (ByteArray × AV)) (i : Nat), sEnts (l ++ [(nm, v)]) i = sEnts l i ++ [{ key := .str nm, val := v, born := i + l.length }]
 | [], i => rfl
 | (n, w) :: l, i => by simp [sEnts, sEnts_snoc nm v l (i + 1)]; omega
def nsL (ns : List ByteArray) : List (ByteArray × AV) := ns.zipIdx.map fun p => (p.1, i64 (p.2 : Int))
theorem nsL_snoc (ns : List ByteArray) (x : ByteArray) : nsL (ns ++ [x]) = nsL ns ++ [(x, i64 (ns.length : Int))] := by simp [nsL, List.zipIdx_append]
theorem nsL_len (ns : List ByteArray) : (nsL ns).length = ns.length := by simp [nsL]
theorem nsL_find (ns : List ByteArray) (x : ByteArray) : (nsL ns).findIdx? (fun m => decide (x = m.1)) = ns.findIdx? (fun m => decide (x = m)) := by
 have : ∀ (l : List ByteArray) (k : Nat), ((l.zipIdx k).map fun p => (p.1, i64 (p.2 : Int))).findIdx? (fun m => decide (x = m.1)) = l.findIdx? (fun m => decide (x = m)) := by
  intro l
  induction l with
  | nil => intro k; rfl
  | cons a l ih => intro k; simp only [List.zipIdx_cons, List.map_cons, List.findIdx?_cons, ih]
 exact this ns 0
theorem nsL_get (ns : List ByteArray) {j : Nat} (hj : j < ns.length) : ((nsL ns).getD j default).2 = i64 (j : Int) := by
 simp [nsL, hj]
theorem room32 {n : Nat} (h : n ≤ 2 ^ 30) : room (n + 1) 32 = true := by simp [room]; omega
theorem bindsFrom_len {l : List Term} : ∀ {t : Tup} {st : List ByteArray × Tup} {u : Tup}, zi2 l t st = some u → u.length ≤ st.2.length + l.length := by
 induction l with
 | nil => intro t st u h; simp [zi2] at h; subst h; simp
 | cons x l ih =>
   intro t st u h
   cases t with
   | nil => simp [zi2] at h
   | cons y t =>
     simp only [zi2] at h
     split at h
     ·rename_i st' hst
      have h1 := ih h
      have h2 : st'.2.length ≤ st.2.length + 1 := by
       unfold bstep at hst
       split at hst
       ·simp at hst; subst hst; omega
       ·split at hst
        ·split at hst
         ·simp at hst; subst hst; omega
         ·simp at hst
        ·split at hst
         ·split at hst
          ·simp at hst; subst hst; simp
          ·split at hst
           ·simp at hst; subst hst; omega
           ·simp at hst
         ·simp at hst
      simp only [List.length_cons]; omega
     ·simp at h
theorem reify_tuple2 {H : Heap} {a b a' b' : AV} (hp : (AV.tuple [a, b]).plain = false) (ha : reify H 11 a = some a') (hb : reify H 11 b = some b') : reify H zx (.tuple [a, b]) = some (.tuple [a', b']) := by
 unfold zx
 rw [reify, if_neg (by rw [hp]; simp)]
 simp only [zc4, ha, hb]
theorem take_all {α : Type} (l : List α) : List.take l.length l = l := List.take_of_length_le (Nat.le_refl _)
theorem binds_run (l : List Term) (t : Tup) (v w : AV) (hv : Is v l) (hw : Is w t) (hl : l.length ≤ 2 ^ 30) (ht : t.length ≤ 2 ^ 30) : ∃ r, zu (callW tbl) loopW a_exec_binds [v, w] = some r ∧ r = bindsA (zq1 l t) := by
 have hlv := IsL.len hv
 have hlw := IsL.len hw
 refine pureK a_exec_binds rfl (fun F hF => ?_)
 have hnone : zq1 l t = none → ∀ H, F (.tuple [.nilsl, .bool false]) H := fun h H => hF _ _ _ (z7 rfl) (by rw [h]; rfl)
 by_cases hlen : l.length = t.length
 ·have hleni : (l.length : Int) = (t.length : Int) := by omega
  simp [a_exec_binds, c_exec_binds, hlv, hlw, hleni, zr]
  have hb0 : zq1 l t = zi2 l t ([], []) := by unfold zq1; rw [if_pos hlen]
  refine zf (fun k s => ∃ (j : Nat) (ns : List ByteArray) (u : Tup) (g : Nat), j + k = l.length ∧ zq1 l t = zi2 (l.drop j) (t.drop j) (ns, u) ∧ ns.length = u.length ∧ u.length ≤ j ∧
   s.heap = [.map 0 (sEnts (nsL ns) 0) ns.length, .arr g 3 (u.map Val.enc)] ∧ s.dfr = [] ∧ s.tm.get 1 = w ∧ s.tm.get 6 = .map 0 0 ∧ s.tm.get 7 = .sl 1 g 0 u.length ∧ s.tm.get 19 = v ∧ s.tm.get 20 = .int .i64 (l.length : Int) ∧ s.tm.get 21 = .int .i64 (j : Int)) l.length
   ⟨0, [], [], 0, by omega, by simpa using hb0, rfl, by simp, rfl, rfl, by simp, by simp, by simp, by simp, by simp [hleni], by simp⟩ ?_
  rintro k s Q ⟨j, ns, u, g, h0, hz, hnu, huj, q1, q2, f1, f6, f7, f19, f20, f21⟩ hgo hx
  have hwj : IntKind.i64.wrap ((j : Int) + 1) = ((j + 1 : Nat) : Int) := zi1 (by omega) (by omega)
  by_cases hj : j < l.length
  ·have hji : (j : Int) < (l.length : Int) := by omega
   have hjt : j < t.length := by omega
   obtain ⟨fl, r, rfl, hidx⟩ := IsL.idx hv (List.getElem?_eq_getElem hj)
   simp only [show Enc.sz Term = 5 from rfl] at hidx
   obtain ⟨fl2, r2, rfl, hidx2⟩ := IsL.idx hw (List.getElem?_eq_getElem hjt)
   simp only [show Enc.sz Val = 3 from rfl] at hidx2
   have hdl : l.drop j = l[j] :: l.drop (j + 1) := List.drop_eq_getElem_cons hj
   have hdt : t.drop j = t[j] :: t.drop (j + 1) := List.drop_eq_getElem_cons hjt
   have hz' : zq1 l t = match bstep (ns, u) l[j] t[j] with
    | some st' => zi2 (l.drop (j + 1)) (t.drop (j + 1)) st'
    | none => none := by rw [hz, hdl, hdt]; rfl
   generalize l[j] = x at *
   generalize t[j] = y at *
   have hrow : AV.rowok 5 x.enc = true := rfl
   have out : bstep (ns, u) x y = none → ∀ s' : St, s'.dfr = [] → s'.tm.get 4 = .nilsl → s'.tm.get 5 = .bool false → Q .ret s' := by
    intro hb s' g1 g2 g3
    refine hx _ _ (by simp) ?_
    simp [g1, g2, g3]
    exact hnone (by rw [hz', hb]) _
   by_cases h3 : x.kind = 3
   ·have hb : bstep (ns, u) x y = some (ns, u) := by simp [bstep, h3]
    rw [hb] at hz'
    simp [zd2, q1, f1, f6, f7, f19, f20, f21, hji, hidx, AV.rowok, h3]
    exact hgo _ (k - 1) (by omega) ⟨j + 1, ns, u, g, by omega, hz', hnu, by omega, rfl, by simp [q2], by simp [f1], by simp [f6], by simp [f7], by simp [f19], by simp [f20], by simp [hwj]⟩
   by_cases h2 : x.kind = 2
   ·have hn := neqVal x.v y
    by_cases he : x.v = y
    ·have hb : bstep (ns, u) x y = some (ns, u) := by simp [bstep, h2, he]
     rw [hb] at hz'
     have hn2 : binA .neq (.cells [.int, .int, .str]) x.v.enc y.enc = some (.bool false) := by rw [hn]; simp [he]
     simp [zd2, q1, f1, f6, f7, f19, f20, f21, hji, hidx, hidx2, AV.rowok, h3, h2, hn2]
     exact hgo _ (k - 1) (by omega) ⟨j + 1, ns, u, g, by omega, hz', hnu, by omega, rfl, by simp [q2], by simp [f1], by simp [f6], by simp [f7], by simp [f19], by simp [f20], by simp [hwj]⟩
    ·have hb : bstep (ns, u) x y = none := by simp [bstep, h2, he]
     have hn2 : binA .neq (.cells [.int, .int, .str]) x.v.enc y.enc = some (.bool true) := by rw [hn]; simp [he]
     simp [zd2, q1, f1, f6, f7, f19, f20, f21, hji, hidx, hidx2, AV.rowok, h3, h2, hn2]
     exact out hb _ (by simp [q2]) (by simp) (by simp)
   by_cases h1 : x.kind = 1
   ·cases hfi : ns.findIdx? (fun m => decide (x.name = m)) with
    | none =>
      have hb : bstep (ns, u) x y = some (ns ++ [x.name], u ++ [y]) := by simp [bstep, h1, hfi]
      rw [hb] at hz'
      have hfe : ∀ k, findE false [.str] (.str x.name) (sEnts (nsL ns) 0) k = some none := fun k => by rw [sEnts_find, nsL_find, hfi]; rfl
      have hlk : lookupR false [.str] (.int .i64 0) (.str x.name) true (sEnts (nsL ns) 0) = some (.tuple [.int .i64 0, .bool false]) := by simp [lookupR, hfe]
      have hro := room32 (n := u.length) (by omega)
      have hsn := nsL_snoc ns x.name
      have hnr : ¬ (u.length + 1 ≤ u.length) := by omega
      have htk : List.take u.length (u.map Val.enc) = u.map Val.enc := List.take_of_length_le (by simp)
      have hs2 : sEnts (nsL ns) 0 ++ [{ key := AV.str x.name, val := i64 (u.length : Int), born := ns.length }] = sEnts (nsL (ns ++ [x.name])) 0 := by
       rw [hsn, sEnts_snoc, nsL_len, hnu]; simp
      simp [zd2, q1, f1, f6, f7, f19, f20, f21, hji, hidx, hidx2, AV.rowok, h3, h2, h1, hlk, hfe, zr, ze1, z81, hro, take_all, hs2, hnr, htk]
      exact hgo _ (k - 1) (by omega) ⟨j + 1, ns ++ [x.name], u ++ [y], g + 1, by omega, hz', by simp [hnu], by simp; omega, by simp [hs2], by simp [q2], by simp [f1], by simp [f6], by simp, by simp [f19], by simp [f20], by simp [hwj]⟩
    | some i =>
      have hil : i < ns.length := (List.findIdx?_eq_some_iff_getElem.1 hfi).1
      have hiu : i < u.length := by omega
      have hfe : findE false [.str] (.str x.name) (sEnts (nsL ns) 0) 0 = some (some (i, { key := .str x.name, val := i64 (i : Int), born := i })) := by
       rw [sEnts_find, nsL_find, hfi]; simp only [Option.map_some, nsL_get ns hil, Nat.add_zero]
      have hlk : lookupR false [.str] (.int .i64 0) (.str x.name) true (sEnts (nsL ns) 0) = some (.tuple [i64 (i : Int), .bool true]) := by simp [lookupR, hfe]
      have hrow2 : (u.map Val.enc)[i]? = some u[i].enc := by simp [hiu]
      have hn := neqVal u[i] y
      by_cases he : u[i] = y
      ·have hb : bstep (ns, u) x y = some (ns, u) := by simp [bstep, h1, hfi, hiu, he]
       rw [hb] at hz'
       have hn2 : binA .neq (.cells [.int, .int, .str]) u[i].enc y.enc = some (.bool false) := by rw [hn]; simp [he]
       simp [zd2, q1, f1, f6, f7, f19, f20, f21, hji, hidx, hidx2, AV.rowok, h3, h2, h1, hlk, hiu, hrow2, hn2]
       exact hgo _ (k - 1) (by omega) ⟨j + 1, ns, u, g, by omega, hz', hnu, by omega, rfl, by simp [q2], by simp [f1], by simp [f6], by simp [f7], by simp [f19], by simp [f20], by simp [hwj]⟩
      ·have hb : bstep (ns, u) x y = none := by simp [bstep, h1, hfi, hiu, he]
       have hn2 : binA .neq (.cells [.int, .int, .str]) u[i].enc y.enc = some (.bool true) := by rw [hn]; simp [he]
       simp [zd2, q1, f1, f6, f7, f19, f20, f21, hji, hidx, hidx2, AV.rowok, h3, h2, h1, hlk, hiu, hrow2, hn2]
       exact out hb _ (by simp [q2]) (by simp) (by simp)
   ·have hb : bstep (ns, u) x y = none := by simp [bstep, h1, h2, h3]
    simp [zd2, q1, f1, f6, f7, f19, f20, f21, hji, hidx, AV.rowok, h3, h2, h1]
    exact out hb _ (by simp [q2]) (by simp) (by simp)
  ·have hji : ¬ (j : Int) < (l.length : Int) := by omega
   have hdl : l.drop j = [] := List.drop_eq_nil_of_le (by omega)
   have hbu : zq1 l t = some u := by rw [hz, hdl]; rfl
   simp [zd2, q1, f20, f21, hji]
   refine hx _ _ (by simp) ?_
   simp [q2, f7]
   refine hF _ _ (.tuple [tupA u, .bool true]) ?_ (by rw [hbu]; rfl)
   have h2 := reify_rowsK (Hb := [.map 0 (sEnts (nsL ns) 0) ns.length, .arr g 3 (u.map Val.enc)]) (id := 1) (g := g) (sz := 3) (off := 0) (len := u.length) (k := 9) (R := u.map Val.enc) (rows := u.map Val.enc) (xs := u) rfl (by simp) (List.take_of_length_le (by simp)) (encs_is (fun _ => rfl) u)
   exact reify_tuple2 (by simp [AV.plain]) h2 (reify_plain' rfl)
 ·have hleni : ¬ (l.length : Int) = (t.length : Int) := by omega
  simp [a_exec_binds, c_exec_binds, hlv, hlw, hleni]
  exact hnone (by unfold zq1; rw [if_neg hlen]) _
end Go.Abs.Plan
namespace Go.Abs.Plan
open Enc (Is)
theorem callP_un {f : FuncId} {af : AFunc} (ht : tbl f = some (.code af)) (hp : af.pure = true) {R : List AV → Prop} {S : AV → Prop} (hpl : ∀ a, R a → AV.plains a = true) (hle : ∀ a, R a → R (AV.lends a))
 (hrun : ∀ a, R a → ∃ r, zu (callW tbl) loopW af a = some r ∧ S r ∧ r.unlent = true) (a : List AV) (H : Heap) (ha : R a) : ∃ r, callW tbl (.func f [] []) a H = some (r, H) ∧ S r := by
 by_cases hu : AV.unlents a = true
 ·obtain ⟨r, h1, h2, h3⟩ := hrun a ha
  have := callW_pure (tbl := tbl) (first := []) (captured := []) (args := a) (H := H) (r := r) ht hp (by simpa using hpl a ha) (by simpa [hu] using h1)
  exact ⟨r, by rw [this]; simp [hu], h2⟩
 ·obtain ⟨r, h1, h2, h3⟩ := hrun _ (hle a ha)
  have := callW_pure (tbl := tbl) (first := []) (captured := []) (args := a) (H := H) (r := r) ht hp (by simpa using hpl a ha) (by simpa [hu] using h1)
  exact ⟨r, by rw [this]; simp [h3], h2⟩
theorem encs_unlent (t : Tup) : AV.unlents (t.map Val.enc) = true := by
 induction t with
 | nil => rfl
 | cons x t ih => simpa [AV.unlents, AV.unlent] using ih
theorem bindsA_unlent : ∀ o, (bindsA o).unlent = true
 | some u => by simp [bindsA, tupA, AV.unlent, AV.unlents, encs_unlent]
 | none => rfl
theorem binds_call (l : List Term) (t : Tup) (v w : AV) (hv : Is v l) (hw : Is w t) (hl : l.length ≤ 2 ^ 30) (ht : t.length ≤ 2 ^ 30) (H : Heap) : callW tbl (.func f_exec_binds [] []) [v, w] H = some (bindsA (zq1 l t), H) := by
 obtain ⟨r, h1, rfl⟩ := callP_un (f := f_exec_binds) (af := a_exec_binds) rfl rfl (R := fun a => ∃ v w, a = [v, w] ∧ Is v l ∧ Is w t) (S := fun r => r = bindsA (zq1 l t))
  (by rintro _ ⟨v, w, rfl, h1, h2⟩; simp [Enc.plain h1, Enc.plain h2]) (by rintro _ ⟨v, w, rfl, h1, h2⟩; exact ⟨v.lend, w.lend, rfl, Enc.lend h1, Enc.lend h2⟩)
  (by rintro _ ⟨v, w, rfl, h1, h2⟩; obtain ⟨r, g1, rfl⟩ := binds_run l t v w h1 h2 hl ht; exact ⟨_, g1, rfl, bindsA_unlent _⟩) [v, w] H ⟨v, w, rfl, hv, hw⟩
 exact h1
def addT (L : List Tup) (u : Tup) : List Tup := if u ∈ L then L else L ++ [u]
def seenStep (l : List Term) (L : List Tup) (t : Tup) : List Tup := match zq1 l t with
 | some u => addT L u
 | none => L
def seenL (l : List Term) (rel : List Tup) : List Tup := rel.foldl (seenStep l) []
def tupL (L : List Tup) : List (ByteArray × AV) := L.map fun u => (keyS u, tupA u)
def tEnts (L : List Tup) : List MEnt := sEnts (tupL L) 0
theorem sEnts_get : ∀ (l : List (ByteArray × AV)) (i j : Nat) (p : ByteArray × AV), l[j]? = some p → (sEnts l i)[j]? = some { key := .str p.1, val := p.2, born := i + j }
 | [], i, j, p, h => by simp at h
 | (n, v) :: l, i, 0, p, h => by simp at h; subst h; rfl
 | (n, v) :: l, i, j + 1, p, h => by
   have := sEnts_get l (i + 1) j p (by simpa using h)
   simp only [sEnts, List.getElem?_cons_succ, this]
   congr 2; omega
theorem tEnts_find (u : Tup) (L : List Tup) : findE false [.str] (.str (keyS u)) (tEnts L) 0 = some ((L.findIdx? (fun m => decide (u = m))).map fun j => (j, { key := .str (keyS u), val := tupA u, born := j })) := by
 unfold tEnts
 rw [sEnts_find]
 have : (tupL L).findIdx? (fun m => decide (keyS u = m.1)) = L.findIdx? (fun m => decide (u = m)) := by
  unfold tupL
  rw [List.findIdx?_map]
  congr 1
  funext m
  simp only [Function.comp]
  by_cases h : u = m
  ·subst h; simp
  ·have : keyS u ≠ keyS m := fun e => h (keyS_inj e)
   simp [h, this]
 rw [this]
 cases hf : L.findIdx? (fun m => decide (u = m)) with
 | none => rfl
 | some j =>
   obtain ⟨hj, hu, _⟩ := List.findIdx?_eq_some_iff_getElem.1 hf
   have hu' : u = L[j] := by simpa using hu
   simp [tupL, hj, ← hu']
theorem findIdx_none {L : List Tup} {u : Tup} : L.findIdx? (fun m => decide (u = m)) = none ↔ u ∉ L := by
 rw [List.findIdx?_eq_none_iff]
 simp
 constructor
 ·intro h hm; exact h u hm rfl
 ·rintro h x hx rfl; exact h hx
theorem tEnts_put (u : Tup) (L : List Tup) : (findE false [.str] (.str (keyS u)) (tEnts L) 0 = some none ∧ tEnts L ++ [{ key := .str (keyS u), val := tupA u, born := L.length }] = tEnts (addT L u) ∧ L.length + 1 = (addT L u).length) ∨
 ∃ i : Nat, findE false [.str] (.str (keyS u)) (tEnts L) 0 = some (some (i, { key := .str (keyS u), val := tupA u, born := i })) ∧ (tEnts L).set i { key := .str (keyS u), val := tupA u, born := i } = tEnts (addT L u) ∧ L.length = (addT L u).length := by
 rw [tEnts_find]
 cases hf : L.findIdx? (fun m => decide (u = m)) with
 | none =>
   have hn := findIdx_none.1 hf
   have h1 : addT L u = L ++ [u] := by unfold addT; rw [if_neg hn]
   have h2 : tEnts (L ++ [u]) = tEnts L ++ [{ key := .str (keyS u), val := tupA u, born := L.length }] := by
    unfold tEnts
    have : tupL (L ++ [u]) = tupL L ++ [(keyS u, tupA u)] := by simp [tupL]
    rw [this, sEnts_snoc]; simp [tupL]
   exact .inl ⟨rfl, by rw [h1, h2], by rw [h1]; simp⟩
 | some j =>
   obtain ⟨hj, hu, _⟩ := List.findIdx?_eq_some_iff_getElem.1 hf
   have hu' : u = L[j] := by simpa using hu
   have h1 : addT L u = L := by unfold addT; rw [if_pos (by rw [hu']; exact List.getElem_mem hj)]
   have h2 : (tEnts L)[j]? = some { key := .str (keyS u), val := tupA u, born := j } := by
    have := sEnts_get (tupL L) 0 j (keyS u, tupA u) (by simp [tupL, hj, ← hu'])
    rw [Nat.zero_add] at this
    exact this
   have h3 : (tEnts L).set j { key := .str (keyS u), val := tupA u, born := j } = tEnts L := by
    apply List.ext_getElem?
    intro i
    rw [List.getElem?_set]
    split
    ·rename_i e
     subst e
     have := (List.getElem?_eq_some_iff.1 h2).1
     rw [if_pos this, h2]
    ·rfl
   exact .inr ⟨j, rfl, by rw [h1, h3], by rw [h1]⟩
theorem bindsOf_ok {l : List Term} {t u : Tup} (h : zq1 l t = some u) (ht : TupOk t) (hl : l.length ≤ 2 ^ 20) : TupOk u := by
 unfold zq1 at h
 split at h
 ·have h1 := bindsFrom_len h
  refine ⟨by simp at h1; omega, ?_⟩
  have key : ∀ (l : List Term) (t : Tup) (st : List ByteArray × Tup) (u : Tup), zi2 l t st = some u → (∀ v ∈ t, ValOk v) → (∀ v ∈ st.2, ValOk v) → ∀ v ∈ u, ValOk v := by
   intro l
   induction l with
   | nil => intro t st u h ht hs; simp [zi2] at h; subst h; exact hs
   | cons x l ih =>
     intro t st u h ht hs
     cases t with
     | nil => simp [zi2] at h
     | cons y t =>
       simp only [zi2] at h
       split at h
       ·rename_i st' hst
        refine ih t st' u h (fun v hv => ht v (by simp [hv])) ?_
        unfold bstep at hst
        split at hst
        ·simp at hst; subst hst; exact hs
        ·split at hst
         ·split at hst
          ·simp at hst; subst hst; exact hs
          ·simp at hst
         ·split at hst
          ·split at hst
           ·simp at hst; subst hst
            intro v hv
            simp only [List.mem_append, List.mem_singleton] at hv
            rcases hv with hv | rfl
            ·exact hs v hv
            ·exact ht v (by simp)
           ·split at hst
            ·simp at hst; subst hst; exact hs
            ·simp at hst
          ·simp at hst
       ·simp at h
  exact key l t _ u h ht.val (by simp)
 ·simp at h
theorem seen_call (l : List Term) (rel : List Tup) (v w : AV) (hv : Is v l) (hw : Is w rel) (hl : l.length ≤ 2 ^ 20) (hr : rel.length ≤ 2 ^ 20) (ht : ∀ t ∈ rel, TupOk t) (H : Heap) :
 callW tbl (.func f_exec_seen [] []) [v, w] H = some (.map H.length 0, H ++ [.map 0 (tEnts (seenL l rel)) (seenL l rel).length]) := by
 have hlw := IsL.len hw
 refine callB a_exec_seen rfl rfl rfl (fun F hF => ?_)
 simp [a_exec_seen, c_exec_seen, hlw]
 refine zf (fun k s => ∃ (j : Nat), j + k = rel.length ∧ s.heap = H ++ [.map 0 (tEnts (seenL l (rel.take j))) (seenL l (rel.take j)).length] ∧ s.dfr = [] ∧ s.tm.get 0 = v ∧ s.tm.get 5 = .map H.length 0 ∧ s.tm.get 11 = w ∧ s.tm.get 12 = .int .i64 (rel.length : Int) ∧ s.tm.get 13 = .int .i64 (j : Int)) rel.length
  ⟨0, by omega, rfl, rfl, by simp, by simp, by simp, by simp, by simp⟩ ?_
 rintro k s Q ⟨j, h0, q1, q2, f0, f5, f11, f12, f13⟩ hgo hx
 have hwj : IntKind.i64.wrap ((j : Int) + 1) = ((j + 1 : Nat) : Int) := zi1 (by omega) (by omega)
 by_cases hj : j < rel.length
 ·have hji : (j : Int) < (rel.length : Int) := by omega
  obtain ⟨fl, r, hrr, hidx⟩ := IsL.idx hw (List.getElem?_eq_getElem hj)
  simp only [show Enc.sz Tup = 1 from rfl] at hidx
  have hc := zm hrr
  have hto := ht _ (List.getElem_mem hj)
  have hb := binds_call l rel[j] v r hv hrr (by omega) (by have := hto.len; omega)
  have hsn : seenL l (rel.take (j + 1)) = seenStep l (seenL l (rel.take j)) rel[j] := by
   unfold seenL
   rw [List.take_succ_eq_append_getElem hj, List.foldl_append]; rfl
  cases hbo : zq1 l rel[j] with
  | none =>
    rw [hbo] at hb
    have hs : seenL l (rel.take (j + 1)) = seenL l (rel.take j) := by rw [hsn]; simp [seenStep, hbo]
    rw [← hs] at q1
    simp [c_exec_seen_l0, q1, f0, f5, f11, f12, f13, hji, hidx, hc, hb, bindsA]
    exact hgo _ (k - 1) (by omega) ⟨j + 1, by omega, rfl, by simp [q2], by simp [f0], by simp [f5], by simp [f11], by simp [f12], by simp [hwj]⟩
  | some u =>
    rw [hbo] at hb
    have hs : seenL l (rel.take (j + 1)) = addT (seenL l (rel.take j)) u := by rw [hsn]; simp [seenStep, hbo]
    have huo := bindsOf_ok hbo hto hl
    have hk := key_call u huo (tupA u) (tupA_is u)
    rcases tEnts_put u (seenL l (rel.take j)) with ⟨p1, p2, p3⟩ | ⟨i, p1, p2, p3⟩
    ·rw [← hs] at p2 p3
     simp [c_exec_seen_l0, q1, f0, f5, f11, f12, f13, hji, hidx, hc, hb, bindsA, hk, p1, p2, p3]
     exact hgo _ (k - 1) (by omega) ⟨j + 1, by omega, rfl, by simp [q2], by simp [f0], by simp [f5], by simp [f11], by simp [f12], by simp [hwj]⟩
    ·rw [← hs] at p2 p3
     simp [c_exec_seen_l0, q1, f0, f5, f11, f12, f13, hji, hidx, hc, hb, bindsA, hk, p1, p2, p3]
     exact hgo _ (k - 1) (by omega) ⟨j + 1, by omega, rfl, by simp [q2], by simp [f0], by simp [f5], by simp [f11], by simp [f12], by simp [hwj]⟩
 ·have hji : ¬ (j : Int) < (rel.length : Int) := by omega
  have htj : rel.take j = rel := List.take_of_length_le (by omega)
  rw [htj] at q1
  simp [c_exec_seen_l0, q1, f12, f13, hji]
  refine hx _ _ (by simp) ?_
  simp [q2, f5]
  refine hF _ _ ?_
  have hu : (AV.map H.length 0).under H.length = false := by simp [AV.under]
  have hf : a_exec_seen.frz = false := rfl
  simp [zg, trunc, hu, hf]
end Go.Abs.Plan
