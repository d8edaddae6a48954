/- Plan: columns that pass both checks. -/
import Derived.Test.YtnbilkoabogllaaLx
import Derived.Test.YtnbilkoabogllaaIx
set_option linter.unusedSimpArgs false
set_option linter.unusedVariables false
namespace Go.Abs.Plan
open Enc (Is)

/-- A column that is right where B is bound; what is bound behind it. 'w': may it bind? 'sk': may it stand for anything? -/
def okCol (n B : Nat) (w sk : Bool) (c : Col) : Option Nat :=
  if c.use = 1 then (if c.var = 0 then some B else none)
  else if c.use = 2 then (if sk = true ∧ c.var = 0 ∧ c.v = zeroVal then some B else none)
  else if c.use = 3 then (if c.v = zeroVal ∧ 0 ≤ c.var ∧ c.var.toNat < n ∧ w = true ∧ B.testBit c.var.toNat = false then some (B ||| 2 ^ c.var.toNat) else none)
  else if c.use = 4 then (if c.v = zeroVal ∧ 0 ≤ c.var ∧ c.var.toNat < n ∧ B.testBit c.var.toNat = true then some B else none)
  else none

def bitsOf (n B : Nat) : List AV := (List.range n).map fun i => .bool (B.testBit i)
theorem bitsOf_len (n B : Nat) : (bitsOf n B).length = n := by simp [bitsOf]
theorem bitsOf_get {n B j : Nat} (h : j < n) : (bitsOf n B)[j]? = some (.bool (B.testBit j)) := by simp [bitsOf, h]
theorem bitsOf_set {n B j : Nat} (h : j < n) : (bitsOf n B).set j (.bool true) = bitsOf n (B ||| 2 ^ j) := by
  apply List.ext_getElem
  · simp [bitsOf]
  · intro i h1 h2
    simp only [bitsOf, List.getElem_set, List.getElem_map, List.getElem_range, Nat.testBit_or, Nat.testBit_two_pow]
    by_cases e : j = i
    · subst e; simp
    · simp [e]
def toldBlk (g n B : Nat) : Blk := .arr g 1 (bitsOf n B)
def askBlk (g n B : Nat) : Blk := .arr g 2 [.agg [i64 n, .int .u64 B]]

theorem refcol_ok (g b n B B' : Nat) (H : Heap) (c : Col) (w : Bool) (hb : H[b]? = some (toldBlk g n B)) (hn : n ≤ 64) (h : okCol n B w true c = some B') :
    callW tbl (.func f_ref18_col [] []) [c.enc, .sl b g 0 n, .bool w] H = some (.bool true, H.set b (toldBlk g n B')) := by
  have hlt := lt_of hb
  have hh := hat_of hb
  refine callB a_ref18_col rfl rfl rfl (fun F hF => ?_)
  obtain ⟨use, var, val⟩ := c
  unfold okCol at h
  simp only at h
  by_cases h1 : use = 1
  · subst h1
    simp at h
    obtain ⟨rfl, rfl⟩ := h
    simp [a_ref18_col, c_ref18_col, AV.rowok, buildA_nil]
    refine hF _ _ ?_
    rw [show (a_ref18_col.frz) = false from rfl, close_same rfl, set_same hb]
  by_cases h2 : use = 2
  · subst h2
    simp at h
    obtain ⟨⟨rfl, rfl⟩, rfl⟩ := h
    simp [a_ref18_col, c_ref18_col, AV.rowok, buildA_nil, zeroVal]
    refine hF _ _ ?_
    rw [show (a_ref18_col.frz) = false from rfl, close_same rfl, set_same hb]
  by_cases h3 : use = 3
  · subst h3
    simp at h
    obtain ⟨⟨rfl, hv0, hvn, rfl, hbit⟩, rfl⟩ := h
    obtain ⟨j, rfl⟩ : ∃ j : Nat, var = (j : Int) := ⟨var.toNat, by omega⟩
    simp only [Int.toNat_natCast] at hvn hbit
    have hneg : ¬ (j : Int) < 0 := by omega
    have hge : ¬ (n : Int) ≤ (j : Int) := by omega
    have hbs := bitsOf_set (B := B) hvn
    have hbl := bitsOf_len n B
    have hbg : (bitsOf n B)[j] = .bool (B.testBit j) := by simp [bitsOf]
    simp [a_ref18_col, c_ref18_col, AV.rowok, buildA_nil, zeroVal, hh, toldBlk, hneg, hge, hvn, hlt, hbl, hbg, hbit, putCells]
    refine hF _ _ ?_
    rw [show (a_ref18_col.frz) = false from rfl, close_same (by simp), hbs]; rfl
  by_cases h4 : use = 4
  · subst h4
    simp at h
    obtain ⟨⟨rfl, hv0, hvn, hbit⟩, rfl⟩ := h
    obtain ⟨j, rfl⟩ : ∃ j : Nat, var = (j : Int) := ⟨var.toNat, by omega⟩
    simp only [Int.toNat_natCast] at hvn hbit
    have hlt' : (j : Int) < n := by omega
    have hbl := bitsOf_len n B
    have hbg : (bitsOf n B)[j]'(by omega) = .bool (B.testBit j) := by simp [bitsOf]
    simp [a_ref18_col, c_ref18_col, AV.rowok, buildA_nil, zeroVal, hh, toldBlk, hlt', hvn, hlt, hbl, hbg, hbit, putCells]
    refine hF _ _ ?_
    rw [show (a_ref18_col.frz) = false from rfl, close_same rfl, set_same hb]
  · simp [h1, h2, h3, h4] at h

theorem askcol_ok (g b n B B' : Nat) (H : Heap) (c : Col) (w sk : Bool) (hb : H[b]? = some (askBlk g n B)) (hn : n ≤ 64) (hB : B < 2 ^ 64) (h : okCol n B w sk c = some B') :
    callW tbl (.func f_plan_asking_col [] []) [.ptr b g 0 0, c.enc, .bool w, .bool sk] H = some (.bool true, H.set b (askBlk g n B')) := by
  have hlt := lt_of hb
  have hh := hat_of hb
  refine callB a_plan_asking_col rfl rfl rfl (fun F hF => ?_)
  obtain ⟨use, var, val⟩ := c
  unfold okCol at h
  simp only at h
  by_cases h1 : use = 1
  · subst h1
    simp at h
    obtain ⟨rfl, rfl⟩ := h
    simp [a_plan_asking_col, c_plan_asking_col, AV.rowok, buildA_nil]
    refine hF _ _ ?_
    rw [show (a_plan_asking_col.frz) = false from rfl, close_same rfl, set_same hb]
  by_cases h2 : use = 2
  · subst h2
    simp at h
    obtain ⟨⟨rfl, rfl, rfl⟩, rfl⟩ := h
    simp [a_plan_asking_col, c_plan_asking_col, AV.rowok, buildA_nil, zeroVal]
    refine hF _ _ ?_
    rw [show (a_plan_asking_col.frz) = false from rfl, close_same rfl, set_same hb]
  by_cases h3 : use = 3
  · subst h3
    simp at h
    obtain ⟨⟨rfl, hv0, hvn, rfl, hbit⟩, rfl⟩ := h
    obtain ⟨j, rfl⟩ : ∃ j : Nat, var = (j : Int) := ⟨var.toNat, by omega⟩
    simp only [Int.toNat_natCast] at hvn hbit ⊢
    have hneg : ¬ (j : Int) < 0 := by omega
    have hge : ¬ (n : Int) ≤ (j : Int) := by omega
    have hs := shr_u64 (B := B) (j := j) (by omega) .no
    have ha := and1_u64 (n := B >>> j) (by rw [Nat.shiftRight_eq_div_pow]; exact Nat.lt_of_le_of_lt (Nat.div_le_self ..) hB) .no
    have ht := bit_eq B j
    have hpow : 2 ^ j < 2 ^ 64 := Nat.pow_lt_pow_right (by decide) (by omega)
    have hsl := shl_u64 (j := j) (by omega) .no
    have ho := or_u64 hB hpow .no
    generalize (B >>> j) % 2 = q at ha ht
    generalize B >>> j = p at hs ha
    have he : binA .eql .no (.int .u64 (q : Int)) (.int .u64 1) = some (.bool false) := by
      have : ¬ (q : Int) = 1 := by simp [hbit] at ht; omega
      simp [this]
    generalize hq : 2 ^ j = qq at hsl ho
    generalize ho' : B ||| qq = r at ho
    simp [a_plan_asking_col, c_plan_asking_col, AV.rowok, buildA_nil, zeroVal, hh, askBlk, hneg, hge, hlt, hs, ha, he, hsl, ho, splice, putCells]
    refine hF _ _ ?_
    rw [show (a_plan_asking_col.frz) = false from rfl, close_same (by simp), ← ho', ← hq]; rfl
  by_cases h4 : use = 4
  · subst h4
    simp at h
    obtain ⟨⟨rfl, hv0, hvn, hbit⟩, rfl⟩ := h
    obtain ⟨j, rfl⟩ : ∃ j : Nat, var = (j : Int) := ⟨var.toNat, by omega⟩
    simp only [Int.toNat_natCast] at hvn hbit
    have hneg : ¬ (j : Int) < 0 := by omega
    have hge : ¬ (n : Int) ≤ (j : Int) := by omega
    have hs := shr_u64 (B := B) (j := j) (by omega) .no
    have ha := and1_u64 (n := B >>> j) (by rw [Nat.shiftRight_eq_div_pow]; exact Nat.lt_of_le_of_lt (Nat.div_le_self ..) hB) .no
    have ht := bit_eq B j
    generalize (B >>> j) % 2 = q at ha ht
    generalize B >>> j = p at hs ha
    have he : binA .eql .no (.int .u64 (q : Int)) (.int .u64 1) = some (.bool true) := by
      have : (q : Int) = 1 := by simp [hbit] at ht; omega
      simp [this]
    simp [a_plan_asking_col, c_plan_asking_col, AV.rowok, buildA_nil, zeroVal, hh, askBlk, hneg, hge, hlt, hs, ha, he, splice, putCells]
    refine hF _ _ ?_
    rw [show (a_plan_asking_col.frz) = false from rfl, close_same rfl]
    exact congrArg (Prod.mk _) (set_same hb).symm
  · simp [h1, h2, h3, h4] at h

def okCols (n : Nat) (w sk : Bool) : Nat → List Col → Option Nat
  | B, [] => some B
  | B, c :: cs => match okCol n B w sk c with
    | some B' => okCols n w sk B' cs
    | none => none
theorem okCol_lt {n B B' : Nat} {w sk : Bool} {c : Col} (hn : n ≤ 64) (hB : B < 2 ^ 64) (h : okCol n B w sk c = some B') : B' < 2 ^ 64 := by
  unfold okCol at h
  repeat' split at h
  all_goals first
    | (simp only [Option.some.injEq] at h; subst h; exact hB)
    | (simp only [Option.some.injEq] at h; subst h; rename_i hc; exact Nat.or_lt_two_pow hB (Nat.pow_lt_pow_right (by decide) (by omega)))
    | simp at h
theorem okCols_snoc {n : Nat} {w sk : Bool} : ∀ {cs : List Col} {B : Nat} {c : Col}, okCols n w sk B (cs ++ [c]) = (okCols n w sk B cs).bind fun B' => okCol n B' w sk c
  | [], B, c => by simp [okCols]; cases okCol n B w sk c <;> rfl
  | x :: cs, B, c => by
    simp only [List.cons_append, okCols]
    cases okCol n B w sk x with
    | none => rfl
    | some B' => exact okCols_snoc
theorem okCols_take {n : Nat} {w sk : Bool} {cs : List Col} {B B' : Nat} (h : okCols n w sk B cs = some B') : ∀ j, ∃ B1, okCols n w sk B (cs.take j) = some B1 := by
  intro j
  induction cs generalizing B j with
  | nil => exact ⟨B, by simp [okCols]⟩
  | cons c cs ih =>
    simp only [okCols] at h
    split at h
    · rename_i B2 h2
      cases j with
      | zero => exact ⟨B, rfl⟩
      | succ j =>
        obtain ⟨B1, h1⟩ := ih h j
        exact ⟨B1, by simp only [List.take_succ_cons, okCols, h2]; exact h1⟩
    · simp at h
theorem okCols_lt {n : Nat} {w sk : Bool} (hn : n ≤ 64) : ∀ {cs : List Col} {B B' : Nat}, B < 2 ^ 64 → okCols n w sk B cs = some B' → B' < 2 ^ 64
  | [], B, B', hB, h => by simp [okCols] at h; omega
  | c :: cs, B, B', hB, h => by
    simp only [okCols] at h
    split at h
    · rename_i B2 h2; exact okCols_lt hn (okCol_lt hn hB h2) h
    · simp at h

/-- A step that is right where B is bound. -/
def okStep (n B : Nat) (first : Bool) (s : Step) : Option Nat :=
  if s.op = 3 then (if s.pred = ⟨#[]⟩ ∧ s.cols = [] ∧ s.old = false ∧ 1 ≤ s.cmp ∧ s.cmp ≤ 6 then (match okCol n B false false s.a with
    | some B1 => okCol n B1 false false s.b
    | none => none) else none)
  else if (s.op = 1 ∨ s.op = 2 ∨ (s.op = 4 ∧ first = true ∧ s.old = false)) ∧ s.cmp = 0 ∧ s.a = zeroCol ∧ s.b = zeroCol ∧ s.cols.length ≤ 8 then okCols n (decide (s.op ≠ 2)) true B s.cols
  else none
end Go.Abs.Plan

/- Plan: steps that pass the reference's check. -/
set_option linter.unusedSimpArgs false
set_option linter.unusedVariables false
namespace Go.Abs.Plan
open Enc (Is)

theorem okCol_sk {n B B' : Nat} {w : Bool} {c : Col} (h : okCol n B w false c = some B') : okCol n B w true c = some B' ∧ c.use ≠ 2 := by
  unfold okCol at h ⊢
  by_cases h2 : c.use = 2
  · simp [h2] at h
  · simp only [h2, if_false] at h ⊢; exact ⟨h, h2⟩
theorem okCol_same {n B B' : Nat} {sk : Bool} {c : Col} (h : okCol n B false sk c = some B') : B' = B := by
  unfold okCol at h
  repeat' split at h
  all_goals first
    | (simp only [Option.some.injEq] at h; exact h.symm)
    | (simp at h; done)
    | (rename_i hc; simp at hc)

theorem told_ok (g b n B B' : Nat) (H : Heap) (c : Col) (hb : H[b]? = some (toldBlk g n B)) (hn : n ≤ 64) (h : okCol n B false false c = some B') :
    callW tbl (.func f_ref18_told [] []) [c.enc, .sl b g 0 n] H = some (.bool true, H) := by
  have hs := okCol_same h
  subst hs
  obtain ⟨h1, h2⟩ := okCol_sk h
  have hcol := refcol_ok g b n B' B' H c false hb hn h1
  rw [set_same hb] at hcol
  have c2 : (c.use != 2) = true := by simpa using h2
  refine callB a_ref18_told rfl rfl rfl (fun F hF => ?_)
  simp only [Col.enc] at hcol
  simp [a_ref18_told, c_ref18_told, AV.rowok, c2, hcol]
  refine hF _ _ ?_
  rw [show (a_ref18_told.frz) = false from rfl, close_same rfl]

theorem refstep_loop (g b n B B' : Nat) (H : Heap) (st : Step) (cv : AV) (w : Bool) (hcv : Is cv st.cols) (hb : H[b]? = some (toldBlk g n B)) (hn : n ≤ 64) (hl : st.cols.length ≤ 8) (hw : (st.op != 2) = w) (h : okCols n w true B st.cols = some B') (s : St) (ks : List KF) (R : AExit → St → Prop)
    (e1 : s.heap = H) (e2 : s.dfr = []) (e3 : s.tm.get 2 = .sl b g 0 n) (e4 : s.tm.get 3 = .fptr false (st.encW cv).cells 0) (e5 : s.tm.get 8 = i64 0)
    (hexit : ∀ s' : St, s'.heap = H.set b (toldBlk g n B') → s'.dfr = [] → KONT (callW tbl) loopW ks (.exit 1) s' R) :
    EXEC (callW tbl) loopW (.loop c_ref18_step_l0) ks s R := by
  have hc := isl_cell hcv
  have hln := IsL.len hcv
  refine EXEC_loop_inv (fun k s => ∃ (j B1 : Nat), j + k = st.cols.length ∧ okCols n w true B (st.cols.take j) = some B1 ∧ s.heap = H.set b (toldBlk g n B1) ∧ s.dfr = [] ∧ s.tm.get 2 = .sl b g 0 n ∧ s.tm.get 3 = .fptr false (st.encW cv).cells 0 ∧ s.tm.get 8 = i64 j) st.cols.length
    ⟨0, B, by simp, by simp [okCols], by rw [e1, set_same hb], e2, e3, e4, e5⟩ ?_
  rintro k s Q ⟨j, B1, h0, h1, h2, h3, h4, h5, h6⟩ hn' hx
  simp only [AV.cells] at h5
  by_cases hj : j < st.cols.length
  · have hj' : (j : Int) < st.cols.length := by omega
    have hg : st.cols[j]? = some st.cols[j] := by simp [hj]
    obtain ⟨fl', lv, rfl, hidx⟩ := IsL.idx hcv hg
    simp only [show Enc.sz Col = 5 from rfl] at hidx
    have htk : st.cols.take (j + 1) = st.cols.take j ++ [st.cols[j]] := by rw [List.take_add_one, hg]; rfl
    obtain ⟨B2, hB2⟩ := okCols_take h (j + 1)
    rw [htk, okCols_snoc, h1, Option.bind_some] at hB2
    have hb1 : s.heap[b]? = some (toldBlk g n B1) := by rw [h2]; simp [lt_of hb]
    have hcol := refcol_ok g b n B1 B2 s.heap st.cols[j] w hb1 hn hB2
    simp only [Col.enc] at hcol
    simp [c_ref18_step_l0, h4, h5, h6, hln, hj', hidx, AV.rowok, hc, hw, hcol]
    have hwr : IntKind.i64.wrap ((j : Int) + 1) = ((j + 1 : Nat) : Int) := by rw [wrap_i64 (by omega) (by omega)]; push_cast; rfl
    rw [hwr]
    refine hn' _ (k - 1) (by omega) ⟨j + 1, B2, by omega, by rw [htk, okCols_snoc, h1, Option.bind_some]; exact hB2, by simp [h2], h3, by simp [h4], by simp [h5], by simp⟩
  · have hj' : ¬ (j : Int) < st.cols.length := by omega
    simp [c_ref18_step_l0, h4, h5, h6, hln, hj', AV.rowok, hc]
    rw [List.take_of_length_le (by omega)] at h1
    have : B1 = B' := by rw [h1] at h; simpa using h
    subst this
    exact hx _ _ (by simp) (hexit _ h2 h3)

theorem refstep_ok (g b n B B' : Nat) (H : Heap) (first : Bool) (s : Step) (sv : AV) (hs : Is sv s) (hb : H[b]? = some (toldBlk g n B)) (hn : n ≤ 64) (h : okStep n B first s = some B') :
    callW tbl (.func f_ref18_step [] []) [sv, .bool first, .sl b g 0 n] H = some (.bool true, H.set b (toldBlk g n B')) := by
  obtain ⟨cv, hcv, rfl⟩ := hs
  have hc := isl_cell hcv
  have hln := IsL.len hcv
  refine callB a_ref18_step rfl rfl rfl (fun F hF => ?_)
  unfold okStep at h
  by_cases h3 : s.op = 3
  · rw [if_pos h3] at h
    split at h
    · rename_i hh
      obtain ⟨hp, hcs, ho, hlo, hhi⟩ := hh
      split at h
      · rename_i B1 hB1
        have e1 := okCol_same hB1
        subst e1
        have e2 := okCol_same h
        subst e2
        have t1 := told_ok g b n B' B' H s.a hb hn hB1
        have t2 := told_ok g b n B' B' H s.b hb hn h
        simp only [Col.enc] at t1 t2
        rw [hcs] at hln
        simp only [List.length_nil] at hln
        simp [a_ref18_step, c_ref18_step, AV.rowok, hc, h3, hp, ho, hln, hlo, hhi, t1, t2, buildA_nil]
        refine hF _ _ ?_
        rw [show (a_ref18_step.frz) = false from rfl, close_same rfl, set_same hb]
      · simp at h
    · simp at h
  · rw [if_neg h3] at h
    split at h
    · rename_i hh
      obtain ⟨hop, hcmp, ha, hb0, h8⟩ := hh
      have h8' : ¬ (8 : Int) < s.cols.length := by omega
      have c3 : (s.op == 3) = false := by simp [h3]
      have hexit : ∀ s' : St, s'.heap = H.set b (toldBlk g n B') → s'.dfr = [] → ∀ ks, KONT (callW tbl) loopW ([KF.block 1, KF.seq ((ACode.region [{ dst := some 6, keep := true, op := AOp.move (AOperand.const (AV.bool true)), guard := none }]).seq ACode.ret), KF.block 0, KF.seq ks]) (.exit 1) s' (FINQ [AResult.tmp 6] F) := by
        intro s' g1 g2 ks
        simp [g1, g2]
        refine hF _ _ ?_
        rw [show (a_ref18_step.frz) = false from rfl, close_same (by simp)]
      rcases hop with hop | hop | ⟨hop, hf, ho⟩
      · simp [a_ref18_step, c_ref18_step, AV.rowok, hc, hop, hcmp, ha, hb0, hln, h8', buildA_nil, zeroCol, zeroVal]
        refine refstep_loop g b n B B' H s cv (decide (s.op ≠ 2)) hcv hb hn h8 (by simp [hop]) h _ _ _ rfl rfl (by simp) (by simp [hop, hcmp, ha, hb0, zeroCol, zeroVal]) (by simp) (fun s' g1 g2 => hexit s' g1 g2 _)
      · simp [a_ref18_step, c_ref18_step, AV.rowok, hc, hop, hcmp, ha, hb0, hln, h8', buildA_nil, zeroCol, zeroVal]
        refine refstep_loop g b n B B' H s cv (decide (s.op ≠ 2)) hcv hb hn h8 (by simp [hop]) h _ _ _ rfl rfl (by simp) (by simp [hop, hcmp, ha, hb0, zeroCol, zeroVal]) (by simp) (fun s' g1 g2 => hexit s' g1 g2 _)
      · simp [a_ref18_step, c_ref18_step, AV.rowok, hc, hop, hf, ho, hcmp, ha, hb0, hln, h8', buildA_nil, zeroCol, zeroVal]
        refine refstep_loop g b n B B' H s cv (decide (s.op ≠ 2)) hcv hb hn h8 (by simp [hop]) h _ _ _ rfl rfl (by simp) (by simp [hop, ho, hcmp, ha, hb0, zeroCol, zeroVal]) (by simp) (fun s' g1 g2 => hexit s' g1 g2 _)
    · simp at h
end Go.Abs.Plan

/- Plan: steps that pass the plan's own check. -/
set_option linter.unusedSimpArgs false
set_option linter.unusedVariables false
namespace Go.Abs.Plan
open Enc (Is)

theorem askstep_loop (g b n B B' : Nat) (H : Heap) (st : Step) (cv : AV) (w : Bool) (hcv : Is cv st.cols) (hb : H[b]? = some (askBlk g n B)) (hn : n ≤ 64) (hB : B < 2 ^ 64) (hl : st.cols.length ≤ 8) (hw : (st.op != 2) = w) (h : okCols n w true B st.cols = some B') (s : St) (ks : List KF) (R : AExit → St → Prop)
    (e1 : s.heap = H) (e2 : s.dfr = []) (e3 : s.tm.get 0 = .ptr b g 0 0) (e4 : s.tm.get 4 = .fptr false (st.encW cv).cells 0) (e5 : s.tm.get 103 = cv) (e6 : s.tm.get 104 = i64 st.cols.length) (e7 : s.tm.get 105 = i64 0)
    (hexit : ∀ s' : St, s'.heap = H.set b (askBlk g n B') → s'.dfr = [] → KONT (callW tbl) loopW ks (.exit 0) s' R) :
    EXEC (callW tbl) loopW (.loop c_plan_asking_step_l0) ks s R := by
  have hc := isl_cell hcv
  have hln := IsL.len hcv
  refine EXEC_range st.cols.length (fun j s => ∃ (B1 : Nat), okCols n w true B (st.cols.take j) = some B1 ∧ s.heap = H.set b (askBlk g n B1) ∧ s.dfr = [] ∧ s.tm.get 0 = .ptr b g 0 0 ∧ s.tm.get 4 = .fptr false (st.encW cv).cells 0 ∧ s.tm.get 103 = cv ∧ s.tm.get 104 = i64 st.cols.length ∧ s.tm.get 105 = i64 j)
    0 (by omega) ⟨B, by simp [okCols], by simp [e1, set_same hb], by simp [e2], by simp [e3], by simp [e4], by simp [e5], by simp [e6], by simp [e7]⟩ (by omega) (by simp; grind) ?_ ?_
  · rintro j s' Q hj ⟨B1, h1, h2, h3, h4, h5, h6, h7, h8⟩ hn' hx
    simp only [AV.cells] at h5
    have hg : st.cols[j]? = some st.cols[j] := by simp [hj]
    obtain ⟨fl', lv, rfl, hidx⟩ := IsL.idx hcv hg
    simp only [show Enc.sz Col = 5 from rfl] at hidx
    have htk : st.cols.take (j + 1) = st.cols.take j ++ [st.cols[j]] := by rw [List.take_add_one, hg]; rfl
    obtain ⟨B2, hB2⟩ := okCols_take h (j + 1)
    rw [htk, okCols_snoc, h1, Option.bind_some] at hB2
    have hb1 : s'.heap[b]? = some (askBlk g n B1) := by rw [h2]; simp [lt_of hb]
    have hcol := askcol_ok g b n B1 B2 s'.heap st.cols[j] w true hb1 hn (okCols_lt hn hB h1) hB2
    simp only [Col.enc] at hcol
    simp [h4, h5, h6, h8, hln, hidx, AV.rowok, hc, hw, hcol]
    refine hn' _ _ (.inl rfl) (by simp [h8]) ⟨B2, by rw [htk, okCols_snoc, h1, Option.bind_some]; exact hB2, by simp [h2], h3, by simp [h4], by simp [h5], by simp [h6], by simp [h7], by simp⟩
  · rintro s' ⟨B1, h1, h2, h3, h4, h5, h6, h7, h8⟩
    rw [List.take_of_length_le (by omega)] at h1
    have : B1 = B' := by rw [h1] at h; simpa using h
    subst this
    exact hexit _ h2 h3

theorem askstep_ok (g b n B B' : Nat) (H : Heap) (first : Bool) (s : Step) (sv : AV) (hs : Is sv s) (hb : H[b]? = some (askBlk g n B)) (hn : n ≤ 64) (hB : B < 2 ^ 64) (h : okStep n B first s = some B') :
    callW tbl (.func f_plan_asking_step [] []) [.ptr b g 0 0, sv, .bool first] H = some (.bool true, H.set b (askBlk g n B')) := by
  obtain ⟨cv, hcv, rfl⟩ := hs
  have hc := isl_cell hcv
  have hln := IsL.len hcv
  refine callB a_plan_asking_step rfl rfl rfl (fun F hF => ?_)
  unfold okStep at h
  by_cases h3 : s.op = 3
  · rw [if_pos h3] at h
    split at h
    · rename_i hh
      obtain ⟨hp, hcs, ho, hlo, hhi⟩ := hh
      split at h
      · rename_i B1 hB1
        have e1 := okCol_same hB1
        subst e1
        have e2 := okCol_same h
        subst e2
        have t1 := askcol_ok g b n B' B' H s.a false false hb hn hB hB1
        have t2 := askcol_ok g b n B' B' H s.b false false hb hn hB h
        rw [set_same hb] at t1 t2
        simp only [Col.enc] at t1 t2
        rw [hcs] at hln
        simp only [List.length_nil] at hln
        have hop : opOk s.cmp := by unfold opOk; omega
        obtain ⟨hb0, hh⟩ := holds0_call s.cmp H
        simp only [Val.enc, zeroVal] at hh
        simp [a_plan_asking_step, c_plan_asking_step, AV.rowok, hc, h3, hp, ho, hln, hlo, hhi, t1, t2, buildA_nil, hh, hop]
        refine hF _ _ ?_
        rw [show (a_plan_asking_step.frz) = false from rfl, close_same rfl, set_same hb]
      · simp at h
    · simp at h
  · rw [if_neg h3] at h
    split at h
    · rename_i hh
      obtain ⟨hop, hcmp, ha, hb0, h8⟩ := hh
      have h8' : ¬ (8 : Int) < s.cols.length := by omega
      have hexit : ∀ s' : St, s'.heap = H.set b (askBlk g n B') → s'.dfr = [] → KONT (callW tbl) loopW ([KF.block 0, KF.seq ((ACode.region [{ dst := some 6, keep := true, op := AOp.move (AOperand.const (AV.bool true)), guard := none }]).seq ACode.ret)]) (.exit 0) s' (FINQ [AResult.tmp 6] F) := by
        intro s' g1 g2
        simp [g1, g2]
        refine hF _ _ ?_
        rw [show (a_plan_asking_step.frz) = false from rfl, close_same (by simp)]
      rcases hop with hop | hop | ⟨hop, hf, ho⟩
      · simp [a_plan_asking_step, c_plan_asking_step, AV.rowok, hc, hop, hcmp, ha, hb0, hln, h8', buildA_nil, zeroCol, zeroVal]
        refine askstep_loop g b n B B' H s cv (decide (s.op ≠ 2)) hcv hb hn hB h8 (by simp [hop]) h _ _ _ rfl rfl (by simp) (by simp [hop, hcmp, ha, hb0, zeroCol, zeroVal]) (by simp) (by simp) (by simp) (fun s' g1 g2 => hexit s' g1 g2)
      · simp [a_plan_asking_step, c_plan_asking_step, AV.rowok, hc, hop, hcmp, ha, hb0, hln, h8', buildA_nil, zeroCol, zeroVal]
        refine askstep_loop g b n B B' H s cv (decide (s.op ≠ 2)) hcv hb hn hB h8 (by simp [hop]) h _ _ _ rfl rfl (by simp) (by simp [hop, hcmp, ha, hb0, zeroCol, zeroVal]) (by simp) (by simp) (by simp) (fun s' g1 g2 => hexit s' g1 g2)
      · simp [a_plan_asking_step, c_plan_asking_step, AV.rowok, hc, hop, hf, ho, hcmp, ha, hb0, hln, h8', buildA_nil, zeroCol, zeroVal]
        refine askstep_loop g b n B B' H s cv (decide (s.op ≠ 2)) hcv hb hn hB h8 (by simp [hop]) h _ _ _ rfl rfl (by simp) (by simp [hop, ho, hcmp, ha, hb0, zeroCol, zeroVal]) (by simp) (by simp) (by simp) (fun s' g1 g2 => hexit s' g1 g2)
    · simp at h
end Go.Abs.Plan

/- Plan: plans that pass both checks. -/
set_option linter.unusedSimpArgs false
set_option linter.unusedVariables false
namespace Go.Abs.Plan
open Enc (Is)

def okSteps (n : Nat) : Bool → Nat → List Step → Option Nat
  | _, B, [] => some B
  | f, B, s :: ss => match okStep n B f s with
    | some B' => okSteps n false B' ss
    | none => none
theorem okSteps_snoc {n : Nat} : ∀ {ss : List Step} {f : Bool} {B : Nat} {s : Step}, okSteps n f B (ss ++ [s]) = (okSteps n f B ss).bind fun B' => okStep n B' (f && ss.isEmpty) s
  | [], f, B, s => by simp [okSteps]; cases okStep n B f s <;> rfl
  | x :: ss, f, B, s => by
    simp only [List.cons_append, okSteps]
    cases okStep n B f x with
    | none => rfl
    | some B' => simp [okSteps_snoc]
theorem okSteps_take {n : Nat} {ss : List Step} {f : Bool} {B B' : Nat} (h : okSteps n f B ss = some B') : ∀ j, ∃ B1, okSteps n f B (ss.take j) = some B1 := by
  intro j
  induction ss generalizing f B j with
  | nil => exact ⟨B, by simp [okSteps]⟩
  | cons c cs ih =>
    simp only [okSteps] at h
    split at h
    · rename_i B2 h2
      cases j with
      | zero => exact ⟨B, rfl⟩
      | succ j =>
        obtain ⟨B1, h1⟩ := ih h j
        exact ⟨B1, by simp only [List.take_succ_cons, okSteps, h2]; exact h1⟩
    · simp at h
theorem okStep_lt {n B B' : Nat} {f : Bool} {s : Step} (hn : n ≤ 64) (hB : B < 2 ^ 64) (h : okStep n B f s = some B') : B' < 2 ^ 64 := by
  unfold okStep at h
  split at h
  · split at h
    · split at h
      · rename_i B1 h1; exact okCol_lt hn (okCol_lt hn hB h1) h
      · simp at h
    · simp at h
  · split at h
    · exact okCols_lt hn hB h
    · simp at h
theorem okSteps_lt {n : Nat} (hn : n ≤ 64) : ∀ {ss : List Step} {f : Bool} {B B' : Nat}, B < 2 ^ 64 → okSteps n f B ss = some B' → B' < 2 ^ 64
  | [], f, B, B', hB, h => by simp [okSteps] at h; omega
  | c :: cs, f, B, B', hB, h => by
    simp only [okSteps] at h
    split at h
    · rename_i B2 h2; exact okSteps_lt hn (okStep_lt hn hB h2) h
    · simp at h
/-- A plan that is right. -/
structure OkPlan (p : Plan) : Prop where
  vars : p.vars.length ≤ 64
  head : p.head.length ≤ 8
  len : p.steps.length < 2 ^ 40
  ok : ∃ B B', okSteps p.vars.length true 0 p.steps = some B ∧ okCols p.vars.length false false B p.head = some B'

theorem okCols_same {n : Nat} {sk : Bool} : ∀ {cs : List Col} {B B' : Nat}, okCols n false sk B cs = some B' → B' = B
  | [], B, B', h => by simp [okCols] at h; exact h.symm
  | c :: cs, B, B', h => by
    simp only [okCols] at h
    split at h
    · rename_i B2 h2; have := okCol_same h2; subst this; exact okCols_same h
    · simp at h

set_option maxHeartbeats 1000000 in
theorem planCheck_run (v : AV) (p : Plan) (h : Is v p) (hp : OkPlan p) : ∃ w, runPure (callW tbl) loopW a_plan_Check [v] = some w ∧ w = i64 0 := by
  obtain ⟨vv, vs, vh, h1, h2, h3, rfl⟩ := h
  have hc1 := isl_cell h1
  have hc2 := isl_cell h2
  have hc3 := isl_cell h3
  have l1 := IsL.len h1
  have l2 := IsL.len h2
  have l3 := IsL.len h3
  obtain ⟨B, B', ok1, ok2⟩ := hp.ok
  have e1 := okCols_same ok2
  subst e1
  have q1 : ¬ (64 : Int) < p.vars.length := by have := hp.vars; omega
  have q2 : ¬ (8 : Int) < p.head.length := by have := hp.head; omega
  have hn := hp.vars
  refine pureK a_plan_Check rfl (fun F hF => ?_)
  simp [a_plan_Check, c_plan_Check, AV.rowok, hc1, hc2, hc3, l1, l2, l3, q1, q2, buildA_nil, buildA_cons, splice]
  refine EXEC_range p.steps.length (fun j s => ∃ (B1 : Nat), okSteps p.vars.length true 0 (p.steps.take j) = some B1 ∧ s.heap = [askBlk 0 p.vars.length B1] ∧ s.dfr = [] ∧ s.tm.get 3 = .ptr 0 0 0 0 ∧ s.tm.get 1 = .fptr false [vv, vs, .str p.pred, vh] 0 ∧ s.tm.get 24 = vs ∧ s.tm.get 25 = i64 p.steps.length ∧ s.tm.get 26 = i64 j)
    0 (by omega) ⟨0, by simp [okSteps], rfl, rfl, by simp, by simp, by simp, by simp, by simp⟩ (by have := hp.len; omega) (by simp; grind) ?_ ?_
  · rintro j s' Q hj ⟨B1, g1, g2, g3, g4, g5, g6, g7, g8⟩ hn' hx
    have hg : p.steps[j]? = some p.steps[j] := by simp [hj]
    obtain ⟨fl', sv, hsv, hidx⟩ := IsL.idx h2 hg
    simp only [show Enc.sz Step = 16 from rfl] at hidx
    have htk : p.steps.take (j + 1) = p.steps.take j ++ [p.steps[j]] := by rw [List.take_add_one, hg]; rfl
    obtain ⟨B2, hB2⟩ := okSteps_take ok1 (j + 1)
    have hj0 : (true && (p.steps.take j).isEmpty) = ((j : Int) == 0) := by
      cases j with
      | zero => simp
      | succ j => cases hpp : p.steps with
        | nil => simp [hpp] at hj
        | cons a l => simp; omega
    rw [htk, okSteps_snoc, g1, Option.bind_some, hj0] at hB2
    have hst := askstep_ok 0 0 p.vars.length B1 B2 s'.heap ((j : Int) == 0) p.steps[j] sv hsv (by rw [g2]; rfl) hn (okSteps_lt hn (by decide) g1) hB2
    obtain ⟨cv, hcv, hsve⟩ := hsv
    have hcc := isl_cell hcv
    subst hsve
    simp [g4, g5, g6, g8, hidx, AV.rowok, hcc, hst]
    refine hn' _ _ (.inl rfl) (by simp [g8]) ⟨B2, by rw [htk, okSteps_snoc, g1, Option.bind_some, hj0]; exact hB2, by simp [g2], g3, by simp [g4], by simp [g5], by simp [g6], by simp [g7], by simp⟩
  · rintro s' ⟨B1, g1, g2, g3, g4, g5, g6, g7, g8⟩
    rw [List.take_of_length_le (by omega)] at g1
    have : B1 = B' := by rw [ok1] at g1; simpa using g1.symm
    subst this
    have hB := okSteps_lt hn (by decide) ok1
    simp [g5, l3]
    refine EXEC_range p.head.length (fun j s => s.heap = [askBlk 0 p.vars.length B1] ∧ s.dfr = [] ∧ s.tm.get 3 = .ptr 0 0 0 0 ∧ s.tm.get 39 = vh ∧ s.tm.get 40 = i64 p.head.length ∧ s.tm.get 41 = i64 j)
      0 (by omega) ⟨g2, g3, by simp [g4], by simp, by simp, by simp⟩ (by have := hp.head; omega) (by simp; grind) ?_ ?_
    · rintro j s2 Q hj ⟨f1, f2, f3, f4, f5, f6⟩ hn' hx
      have hg : p.head[j]? = some p.head[j] := by simp [hj]
      obtain ⟨fl', sv, rfl, hidx⟩ := IsL.idx h3 hg
      simp only [show Enc.sz Col = 5 from rfl] at hidx
      have htk : p.head.take (j + 1) = p.head.take j ++ [p.head[j]] := by rw [List.take_add_one, hg]; rfl
      obtain ⟨B3, hB3⟩ := okCols_take ok2 j
      have e3 := okCols_same hB3
      subst e3
      obtain ⟨B2, hB2⟩ := okCols_take ok2 (j + 1)
      rw [htk, okCols_snoc, hB3, Option.bind_some] at hB2
      have hst := askcol_ok 0 0 p.vars.length B3 B2 s2.heap p.head[j] false false (by rw [f1]; rfl) hn hB hB2
      have e4 := okCol_same hB2
      subst e4
      simp only [Col.enc] at hst
      simp [f3, f4, f6, hidx, AV.rowok, hst]
      refine hn' _ _ (.inl rfl) (by simp [f6]) ⟨by simp [f1], f2, by simp [f3], by simp [f4], by simp [f5], by simp⟩
    · rintro s2 ⟨f1, f2, f3, f4, f5, f6⟩
      simp [f1, f2]
      exact hF _ _ _ (reify_plain rfl) rfl
end Go.Abs.Plan

/- Plan: plans that pass the reference's check. -/
set_option linter.unusedSimpArgs false
set_option linter.unusedVariables false
namespace Go.Abs.Plan
open Enc (Is)

theorem bitsOf_zero (n : Nat) : bitsOf n 0 = List.replicate n (.bool false) := by
  apply List.ext_getElem
  · simp [bitsOf]
  · intro i h1 h2; simp [bitsOf]

set_option maxHeartbeats 1000000 in
theorem refCheck_run (v : AV) (p : Plan) (h : Is v p) (hp : OkPlan p) : ∃ w, runPure (callW tbl) loopW a_ref18_Check [v] = some w ∧ w = i64 0 := by
  obtain ⟨vv, vs, vh, h1, h2, h3, rfl⟩ := h
  have hc1 := isl_cell h1
  have hc2 := isl_cell h2
  have hc3 := isl_cell h3
  have l1 := IsL.len h1
  have l2 := IsL.len h2
  have l3 := IsL.len h3
  obtain ⟨B, B', ok1, ok2⟩ := hp.ok
  have e1 := okCols_same ok2
  subst e1
  have q1 : ¬ (64 : Int) < p.vars.length := by have := hp.vars; omega
  have q2 : ¬ (8 : Int) < p.head.length := by have := hp.head; omega
  have hn := hp.vars
  have hpl := hp.len
  have hph := hp.head
  have q3 : p.vars.length ≤ 140737488355328 := by omega
  refine pureK a_ref18_Check rfl (fun F hF => ?_)
  simp [a_ref18_Check, c_ref18_Check, AV.rowok, hc1, hc2, hc3, l1, l2, l3, q1, q2, q3, buildA_nil, buildA_cons, splice]
  refine EXEC_loop_inv (fun k s => ∃ (j B1 : Nat), j + k = p.steps.length ∧ okSteps p.vars.length true 0 (p.steps.take j) = some B1 ∧ s.heap = [toldBlk 0 p.vars.length B1] ∧ s.dfr = [] ∧ s.tm.get 3 = .sl 0 0 0 p.vars.length ∧ s.tm.get 1 = .fptr false [vv, vs, .str p.pred, vh] 0 ∧ s.tm.get 4 = i64 j) p.steps.length
    ⟨0, 0, by simp, by simp [okSteps], by simp [toldBlk, bitsOf_zero], rfl, by simp, by simp, by simp⟩ ?_
  rintro k s' Q ⟨j, B1, g0, g1, g2, g3, g4, g5, g6⟩ hn' hx
  by_cases hj : j < p.steps.length
  · have hj' : (j : Int) < p.steps.length := by omega
    have hg : p.steps[j]? = some p.steps[j] := by simp [hj]
    obtain ⟨fl', sv, hsv, hidx⟩ := IsL.idx h2 hg
    simp only [show Enc.sz Step = 16 from rfl] at hidx
    have htk : p.steps.take (j + 1) = p.steps.take j ++ [p.steps[j]] := by rw [List.take_add_one, hg]; rfl
    obtain ⟨B2, hB2⟩ := okSteps_take ok1 (j + 1)
    have hj0 : (true && (p.steps.take j).isEmpty) = ((j : Int) == 0) := by
      cases j with
      | zero => simp
      | succ j => cases hpp : p.steps with
        | nil => simp [hpp] at hj
        | cons a l => simp; omega
    rw [htk, okSteps_snoc, g1, Option.bind_some, hj0] at hB2
    have hst := refstep_ok 0 0 p.vars.length B1 B2 s'.heap ((j : Int) == 0) p.steps[j] sv hsv (by rw [g2]; rfl) hn hB2
    obtain ⟨cv, hcv, hsve⟩ := hsv
    have hcc := isl_cell hcv
    subst hsve
    have hwr : IntKind.i64.wrap ((j : Int) + 1) = ((j + 1 : Nat) : Int) := by rw [wrap_i64 (by omega) (by omega)]; push_cast; rfl
    simp [c_ref18_Check_l0, g4, g5, g6, hc2, l2, hj', hidx, AV.rowok, hcc, hst]
    rw [hwr]
    refine hn' _ (k - 1) (by omega) ⟨j + 1, B2, by omega, by rw [htk, okSteps_snoc, g1, Option.bind_some, hj0]; exact hB2, by simp [g2], g3, by simp [g4], by simp [g5], by simp⟩
  · have hj' : ¬ (j : Int) < p.steps.length := by omega
    simp [c_ref18_Check_l0, g5, g6, hc2, l2, hj', AV.rowok]
    refine hx _ _ (by simp) ?_
    rw [List.take_of_length_le (by omega)] at g1
    have : B1 = B' := by rw [ok1] at g1; simpa using g1.symm
    subst this
    simp
    refine EXEC_loop_inv (fun k s => ∃ (j : Nat), j + k = p.head.length ∧ s.heap = [toldBlk 0 p.vars.length B1] ∧ s.dfr = [] ∧ s.tm.get 3 = .sl 0 0 0 p.vars.length ∧ s.tm.get 1 = .fptr false [vv, vs, .str p.pred, vh] 0 ∧ s.tm.get 5 = i64 j) p.head.length
      ⟨0, by simp, g2, g3, by simp [g4], by simp [g5], by simp⟩ ?_
    rintro k s2 Q ⟨j, f0, f1, f2, f3, f4, f5⟩ hn' hx
    by_cases hj : j < p.head.length
    · have hj' : (j : Int) < p.head.length := by omega
      have hg : p.head[j]? = some p.head[j] := by simp [hj]
      obtain ⟨fl', sv, rfl, hidx⟩ := IsL.idx h3 hg
      simp only [show Enc.sz Col = 5 from rfl] at hidx
      have htk : p.head.take (j + 1) = p.head.take j ++ [p.head[j]] := by rw [List.take_add_one, hg]; rfl
      obtain ⟨B3, hB3⟩ := okCols_take ok2 j
      have e3 := okCols_same hB3
      subst e3
      obtain ⟨B2, hB2⟩ := okCols_take ok2 (j + 1)
      rw [htk, okCols_snoc, hB3, Option.bind_some] at hB2
      have hst := told_ok 0 0 p.vars.length B3 B2 s2.heap p.head[j] (by rw [f1]; rfl) hn hB2
      simp only [Col.enc] at hst
      have hwr : IntKind.i64.wrap ((j : Int) + 1) = ((j + 1 : Nat) : Int) := by rw [wrap_i64 (by omega) (by omega)]; push_cast; rfl
      simp [c_ref18_Check_l1, f3, f4, f5, hc3, l3, hj', hidx, AV.rowok, hst]
      rw [hwr]
      refine hn' _ (k - 1) (by omega) ⟨j + 1, by omega, f1, f2, by simp [f3], by simp [f4], by simp⟩
    · have hj' : ¬ (j : Int) < p.head.length := by omega
      simp [c_ref18_Check_l1, f4, f5, hc3, l3, hj', AV.rowok]
      refine hx _ _ (by simp) ?_
      simp [f1, f2]
      exact hF _ _ _ (reify_plain rfl) rfl

theorem refCheck_call (v : AV) (p : Plan) (h : Is v p) (hp : OkPlan p) (H : Heap) : callW tbl (.func f_ref18_Check [] []) [v] H = some (i64 0, H) := by
  obtain ⟨r, h1, rfl⟩ := callP1 (f := f_ref18_Check) (af := a_ref18_Check) (S := fun w => w = i64 0) rfl rfl p (by rintro w rfl; rfl) (fun v h => refCheck_run v p h hp) v h H
  exact h1
theorem planCheck_call (v : AV) (p : Plan) (h : Is v p) (hp : OkPlan p) (H : Heap) : callW tbl (.func f_plan_Check [] []) [v] H = some (i64 0, H) := by
  obtain ⟨r, h1, rfl⟩ := callP1 (f := f_plan_Check) (af := a_plan_Check) (S := fun w => w = i64 0) rfl rfl p (by rintro w rfl; rfl) (fun v h => planCheck_run v p h hp) v h H
  exact h1
end Go.Abs.Plan

/- Plan: PlanMay's body. -/
set_option linter.unusedSimpArgs false
set_option linter.unusedVariables false
namespace Go.Abs.Plan
open Enc (Is)

theorem Make_call (v : AV) (r : Rule) (delta : Int) (h : Is v r) (hf : Fits r) (hd : IntKind.i64.wrap delta = delta) (H : Heap) :
    ∃ w, callW tbl (.func f_plan_Make [] []) [v, i64 delta] H = some (w, H) ∧ ∃ pv, w = .tuple [pv, i64 (makeErr r delta)] ∧ Is pv (makeOf r delta) :=
  callP_of (tbl := tbl) (f := f_plan_Make) (af := a_plan_Make) rfl rfl (R := fun a => ∃ v, a = [v, i64 delta] ∧ Is v r) (S := fun w => ∃ pv, w = .tuple [pv, i64 (makeErr r delta)] ∧ Is pv (makeOf r delta))
    (by rintro a ⟨v, rfl, h⟩; simp [Enc.plain h]) (by rintro a ⟨v, rfl, h⟩; exact ⟨v.lend, rfl, Enc.lend h⟩) (by rintro w ⟨pv, rfl, h⟩; exact ⟨pv.lend, rfl, Enc.lend h⟩)
    (by rintro a ⟨v, rfl, h⟩; exact Make_run v r delta h hf hd) [v, i64 delta] H ⟨v, rfl, h⟩


/-- What PlanMay asks of what is made. -/
structure MadeOk (p : Plan) (delta : Int) : Prop where
  ok : OkPlan p
  front : 0 ≤ delta → ∃ s rest, p.steps = s :: rest ∧ s.op = 4 ∧ s.lit = delta

theorem PlanMay_run (v : AV) (r : Rule) (delta : Int) (h : Is v r) (hbl : r.body.length < 2 ^ 63) (hal : r.head.args.length < 2 ^ 63) (hargs : ∀ l ∈ r.body, l.atom.args.length < 2 ^ 63) (hd : IntKind.i64.wrap delta = delta)
    (hmade : makeErr (ruleOf r) delta = 0 → MadeOk (makeOf (ruleOf r) delta) delta) :
    ∃ w, runPure (callW tbl) loopW a_law18_PlanMay [v, i64 delta] = some w ∧ w = .bool true := by
  refine pureK a_law18_PlanMay rfl (fun F hF => ?_)
  have haw := awake_call []
  obtain ⟨va, vb, ha, hb, rfl⟩ := h
  have hca := isl_cell ha
  have hcb := isl_cell hb
  simp [a_law18_PlanMay, c_law18_PlanMay, AV.rowok, hca, hcb, haw]
  refine CALLK_ex (Rule_call (.agg [.str r.head.pred, va, vb]) r ⟨va, vb, ha, hb, rfl⟩ hbl hal hargs _) (fun rv hrv => ?_)
  simp
  refine CALLK_ex (Make_call rv (ruleOf r) delta hrv (ruleOf_fits r) hd _) ?_
  rintro w ⟨pv, rfl, hpv⟩
  have hpv0 := hpv
  obtain ⟨pa, pb, pc, h1, h2, h3, hpe⟩ := hpv
  have hc1 := isl_cell h1
  have hc2 := isl_cell h2
  have hc3 := isl_cell h3
  have l2 := IsL.len h2
  by_cases he : makeErr (ruleOf r) delta = 0
  · have hm := hmade he
    have k1 := refCheck_call pv _ hpv0 hm.ok
    have k2 := planCheck_call pv _ hpv0 hm.ok
    subst hpe
    by_cases hdl : delta < 0
    · simp [he, AV.rowok, hc1, hc2, hc3, k1, k2, hdl]
      exact hF _ _ _ (reify_plain rfl) rfl
    · obtain ⟨st, rest, hst, hop, hlit⟩ := hm.front (by omega)
      have hg : (makeOf (ruleOf r) delta).steps[0]? = some st := by rw [hst]; rfl
      obtain ⟨fl', sv, ⟨cv, hcv, rfl⟩, hidx⟩ := IsL.idx h2 hg
      simp only [show Enc.sz Step = 16 from rfl] at hidx
      have hcc := isl_cell hcv
      rw [hst] at l2
      have hpos : (0 : Int) < ((st :: rest).length : Nat) := by simp
      simp at hidx
      simp [he, AV.rowok, hc1, hc2, hc3, k1, k2, hdl, l2, hpos, hidx, hop, hlit, hcc]
      exact hF _ _ _ (reify_plain rfl) rfl
  · have hz : makeOf (ruleOf r) delta = zeroPlan := by unfold makeOf; rw [if_neg he]
    rw [hz] at l2
    subst hpe
    simp [he, AV.rowok, hc1, hc2, hc3, l2]
    exact hF _ _ _ (reify_plain rfl) rfl
end Go.Abs.Plan

/- Plan: the plain law: what is made passes both checks. -/
set_option linter.unusedSimpArgs false
set_option linter.unusedVariables false
namespace Go.Abs.Plan
open Enc (Is)

def bound (ns : List ByteArray) (B : Nat) (t : Term) : Prop := t.kind = 1 → B.testBit (plN ns t.name) = true
def kind123 (t : Term) : Prop := t.kind = 1 ∨ t.kind = 2 ∨ t.kind = 3

theorem colB_mono {ns : List ByteArray} {B : Nat} {t : Term} {j : Nat} (h : B.testBit j = true) : (colB ns B t).testBit j = true := by
  unfold colB; split
  · exact h
  · split
    · exact h
    · rw [Nat.testBit_or, h]; rfl
theorem colsB_mono {ns : List ByteArray} : ∀ {ts : List Term} {B j : Nat}, B.testBit j = true → (colsB ns B ts).testBit j = true
  | [], B, j, h => h
  | t :: ts, B, j, h => by
    show (colsB ns (colB ns B t) ts).testBit j = true
    exact colsB_mono (colB_mono h)
theorem stepB_mono {ns : List ByteArray} {B j : Nat} {l : Lit} (h : B.testBit j = true) : (stepB ns B l).testBit j = true := by
  unfold stepB; split
  · exact colB_mono (colB_mono h)
  · exact colsB_mono h
theorem colB_bound {ns : List ByteArray} {B : Nat} {t : Term} : bound ns (colB ns B t) t := by
  intro h
  unfold colB
  rw [if_neg (by omega), if_neg (by omega), Nat.testBit_or, Nat.testBit_two_pow_self]; simp
theorem colsB_bound {ns : List ByteArray} : ∀ {ts : List Term} {B : Nat} {t : Term}, t ∈ ts → bound ns (colsB ns B ts) t
  | u :: ts, B, t, h => by
    show bound ns (colsB ns (colB ns B u) ts) t
    rcases List.mem_cons.1 h with rfl | h
    · exact fun h1 => colsB_mono (colB_bound h1)
    · exact colsB_bound h

theorem okCol_colOf {ns : List ByteArray} {B : Nat} {t : Term} {w sk : Bool} (hg : goodTerm ns t) (hk : kind123 t) (hw : w = true ∨ bound ns B t) (hs : sk = true ∨ t.kind ≠ 3) : okCol ns.length B w sk (colOf ns B t) = some (colB ns B t) := by
  unfold colOf colB
  by_cases h2 : t.kind = 2
  · simp [h2, okCol]
  · by_cases h3 : t.kind = 3
    · have : sk = true := by rcases hs with h | h; exact h; exact absurd h3 h
      simp [h2, h3, okCol, this]
    · have h1 : t.kind = 1 := by rcases hk with h | h | h <;> first | exact h | contradiction
      have hm : t.name ∈ ns := by rcases hg with h | h | h <;> first | exact h | contradiction
      have hlt := plN_lt hm
      by_cases hb : B.testBit (plN ns t.name) = true
      · simp [h1, hb, okCol, hlt, testBit_or hb]
      · have : w = true := by rcases hw with h | h; exact h; exact absurd (h h1) hb
        simp [h1, hb, okCol, hlt, this]
theorem okCols_colsOf {ns : List ByteArray} {w sk : Bool} : ∀ {ts : List Term} {B : Nat}, (∀ t ∈ ts, goodTerm ns t) → (∀ t ∈ ts, kind123 t) → (w = true ∨ ∀ t ∈ ts, bound ns B t) → (sk = true ∨ ∀ t ∈ ts, t.kind ≠ 3) → okCols ns.length w sk B (colsOf ns B ts) = some (colsB ns B ts)
  | [], B, _, _, _, _ => rfl
  | t :: ts, B, hg, hk, hw, hs => by
    simp only [colsOf, okCols]
    rw [okCol_colOf (hg t (by simp)) (hk t (by simp)) (hw.imp_right fun h => h t (by simp)) (hs.imp_right fun h => h t (by simp))]
    simp only
    rw [okCols_colsOf (fun x hx => hg x (by simp [hx])) (fun x hx => hk x (by simp [hx])) (hw.imp_right fun h x hx h1 => colB_mono (h x (by simp [hx]) h1)) (hs.imp_right fun h x hx => h x (by simp [hx]))]
    rfl

theorem varsOf_cover {ts : List Term} {t : Term} (h : t ∈ ts) (h1 : t.kind = 1) : ∃ u ∈ varsOf ts, u.kind = 1 ∧ u.name = t.name := by
  have keep : ∀ (ts : List Term) (out : List Term), (∃ u ∈ out, u.kind = 1 ∧ u.name = t.name) → ∃ u ∈ ts.foldl addVar out, u.kind = 1 ∧ u.name = t.name := by
    intro ts
    induction ts with
    | nil => intro out h; exact h
    | cons a ts ih =>
      rintro out ⟨u, hu, hk⟩
      refine ih _ ⟨u, ?_, hk⟩
      unfold addVar; split <;> simp [hu]
  have vars1 : ∀ (ts : List Term) (out : List Term), (∀ u ∈ out, u.kind = 1) → t ∈ ts → ∃ u ∈ ts.foldl addVar out, u.kind = 1 ∧ u.name = t.name := by
    intro ts
    induction ts with
    | nil => intro out _ h; cases h
    | cons a ts ih =>
      intro out ho h
      have ho' : ∀ u ∈ addVar out a, u.kind = 1 := by
        intro u hu
        unfold addVar at hu
        split at hu
        · rename_i hc
          rcases List.mem_append.1 hu with hu | hu
          · exact ho u hu
          · simp at hu; subst hu; exact hc.1
        · exact ho u hu
      rcases List.mem_cons.1 h with rfl | h
      · refine keep ts _ ?_
        by_cases hc : out.any (fun o => decide (o.name = t.name)) = false
        · exact ⟨t, by unfold addVar; rw [if_pos ⟨h1, hc⟩]; simp, h1, rfl⟩
        · have hc' : out.any (fun o => decide (o.name = t.name)) = true := by simpa using hc
          simp only [List.any_eq_true, decide_eq_true_eq] at hc'
          obtain ⟨o, h2, h3⟩ := hc'
          exact ⟨o, by unfold addVar; split <;> simp [h2], ho o h2, h3⟩
      · exact ih _ ho' h
  exact vars1 ts [] (by simp) h

/-! ### What is picked -/
theorem nextScan_spec (ns : List ByteArray) (B : Nat) : ∀ (xs : List (Nat × Lit)) (best most : Int), nextScan ns B xs best most = best ∨ ∃ x ∈ xs, nextScan ns B xs best most = (x.1 : Int) ∧ (x.2.kind = 1 ∨ free ns B (termsOf x.2) = false)
  | [], best, most => .inl rfl
  | (i, l) :: rest, best, most => by
    simp only [nextScan]
    split
    · rename_i h; exact .inr ⟨(i, l), by simp, rfl, .inr h.2⟩
    · split
      · rename_i h1
        rcases nextScan_spec ns B rest (i : Int) (cnt ns B (termsOf l) : Int) with h | ⟨x, hx, h, h'⟩
        · exact .inr ⟨(i, l), by simp, h, .inl h1.1⟩
        · exact .inr ⟨x, by simp [hx], h, h'⟩
      · rcases nextScan_spec ns B rest best most with h | ⟨x, hx, h, h'⟩
        · exact .inl h
        · exact .inr ⟨x, by simp [hx], h, h'⟩
theorem nextScan_pos (ns : List ByteArray) (B : Nat) : ∀ (xs : List (Nat × Lit)) (best most : Int), 0 ≤ best → 0 ≤ nextScan ns B xs best most
  | [], best, most, h => h
  | (i, l) :: rest, best, most, h => by
    simp only [nextScan]
    split
    · omega
    · split
      · exact nextScan_pos ns B rest _ _ (by omega)
      · exact nextScan_pos ns B rest _ _ h
theorem nextScan_neg (ns : List ByteArray) (B : Nat) : ∀ (xs : List (Nat × Lit)) (best : Int), nextScan ns B xs best (-1) < 0 → ∀ x ∈ xs, x.2.kind ≠ 1
  | [], best, h, x, hx => by cases hx
  | (i, l) :: rest, best, h, x, hx => by
    simp only [nextScan] at h
    split at h
    · omega
    · split at h
      · have := nextScan_pos ns B rest (i : Int) (cnt ns B (termsOf l) : Int) (by omega); omega
      · rename_i h1
        rcases List.mem_cons.1 hx with rfl | hx
        · intro hk; exact h1 ⟨hk, by omega⟩
        · exact nextScan_neg ns B rest best h x hx
theorem nextOf_free {ns : List ByteArray} {B : Nat} {left : List Bool} {ls : List Lit} (h : 0 ≤ nextOf ns B left ls) : ∃ (i : Nat) (l : Lit), nextOf ns B left ls = (i : Int) ∧ ls[i]? = some l ∧ left[i]? = some true ∧ (l.kind = 1 ∨ free ns B (termsOf l) = false) := by
  rcases nextScan_spec ns B (openLits left ls) (-1) (-1) with h' | ⟨x, hx, h', hf⟩
  · unfold nextOf at h; omega
  · obtain ⟨h1, h2⟩ := openLits_mem hx
    exact ⟨x.1, x.2, h', h1, h2, hf⟩
theorem nextOf_end {ns : List ByteArray} {B : Nat} {left : List Bool} {ls : List Lit} (h : nextOf ns B left ls < 0) {i : Nat} {l : Lit} (hi : ls[i]? = some l) (hl : left[i]? = some true) : l.kind ≠ 1 := by
  refine nextScan_neg ns B (openLits left ls) (-1) h (i, l) ?_
  simp only [openLits, List.mem_map, List.mem_filter]
  refine ⟨(l, i), ⟨List.mem_zipIdx_iff_getElem?.2 hi, ?_⟩, rfl⟩
  simp [List.getD_eq_getElem?_getD, hl]
end Go.Abs.Plan

/- Plan: the plain law: what is made passes both checks. -/
set_option linter.unusedSimpArgs false
set_option linter.unusedVariables false
namespace Go.Abs.Plan
open Enc (Is)

/-- What a literal of a rule that has plans is. -/
structure LitFacts (ns : List ByteArray) (l : Lit) : Prop where
  good : goodLit ns l
  kinds : ∀ t ∈ termsOf l, kind123 t
  kind : l.kind = 1 ∨ l.kind = 2 ∨ l.kind = 3
  cmp : l.kind = 3 → opOk l.op ∧ ∀ t ∈ termsOf l, t.kind ≠ 3
  few : l.kind ≠ 3 → l.atom.args.length ≤ 8

theorem termsOf_args {l : Lit} (h : l.kind ≠ 3) : termsOf l = l.atom.args := by unfold termsOf; rw [if_neg h]

theorem Plans.facts {r : Rule} (h : Plans r) : ∀ l ∈ (cleanRule r).body, LitFacts (ruleVars (cleanRule r)) l := by
  intro l hl
  have hg := h.good l hl
  have hk := h.kinds l hl
  simp only [cleanRule, List.mem_map] at hl
  obtain ⟨l0, h0, rfl⟩ := hl
  have ho := h.ok l0 h0
  refine ⟨hg, fun t ht => ?_, hk, fun h3 => ⟨?_, fun t ht => ?_⟩, fun h3 => ?_⟩
  · rw [termsOf_clean] at ht
    rcases litOk_terms ho ht with a | a | ⟨_, a⟩
    · exact .inl a
    · exact .inr (.inl a)
    · exact .inr (.inr a)
  · rw [cleanLit_kind] at h3
    unfold litOk at ho
    rw [if_pos h3] at ho
    simp only [Bool.and_eq_true, decide_eq_true_eq] at ho
    unfold cleanLit; rw [if_pos h3]; exact ho.1
  · rw [cleanLit_kind] at h3
    rw [termsOf_clean] at ht
    rcases litOk_terms ho ht with a | a | ⟨a, _⟩
    · omega
    · omega
    · exact absurd h3 a
  · rw [cleanLit_kind] at h3
    unfold litOk at ho
    rw [if_neg h3] at ho
    simp only [Bool.and_eq_true, decide_eq_true_eq] at ho
    unfold cleanLit; rw [if_neg h3]; exact ho.1

theorem free_bound {ns : List ByteArray} {B : Nat} {ts : List Term} (h : free ns B ts = false) : ∀ t ∈ ts, bound ns B t := by
  intro t ht h1
  simp only [free, List.any_eq_false] at h
  have := h t ht
  simpa [freeT, h1] using this

theorem okStep_stepOf {ns : List ByteArray} {B : Nat} {delta : Int} {i : Nat} {l : Lit} {f : Bool} (hl : LitFacts ns l) (hf : l.kind = 1 ∨ free ns B (termsOf l) = false) : okStep ns.length B f (stepOf ns B delta i l) = some (stepB ns B l) := by
  unfold okStep stepOf stepB
  by_cases h3 : l.kind = 3
  · have hb := free_bound (by rcases hf with h | h; omega; exact h)
    have ht : termsOf l = [l.a, l.b] := by unfold termsOf; rw [if_pos h3]
    rw [ht] at hb
    obtain ⟨hop, hn3⟩ := hl.cmp h3
    rw [ht] at hn3
    have hkk := hl.kinds
    rw [ht] at hkk
    have hgg := hl.good
    unfold goodLit at hgg
    rw [ht] at hgg
    have c1 : 1 ≤ l.op := by unfold opOk at hop; omega
    have c2 : l.op ≤ 6 := by unfold opOk at hop; omega
    simp only [h3, if_true, c1, c2, and_self]
    rw [okCol_colOf (hgg l.a (by simp)) (hkk l.a (by simp)) (.inr (hb l.a (by simp))) (.inr (hn3 l.a (by simp)))]
    simp only
    rw [okCol_colOf (hgg l.b (by simp)) (hkk l.b (by simp)) (.inr fun h1 => colB_mono (hb l.b (by simp) h1)) (.inr (hn3 l.b (by simp)))]
  · have ht := termsOf_args h3
    have hgg := hl.good
    unfold goodLit at hgg
    rw [ht] at hgg
    have hkk := hl.kinds
    rw [ht] at hkk
    have h8 := hl.few h3
    by_cases h2 : l.kind = 2
    · have hb := free_bound (by rcases hf with h | h; omega; exact h)
      rw [ht] at hb
      simp [h2, colsOf_length, h8]
      exact okCols_colsOf hgg hkk (.inr hb) (.inl rfl)
    · simp [h3, h2, colsOf_length, h8]
      exact okCols_colsOf hgg hkk (.inl rfl) (.inl rfl)

/-- What lies behind is bound. -/
def DoneOk (ns : List ByteArray) (ls : List Lit) (left : List Bool) (B : Nat) : Prop := ∀ (i : Nat) (l : Lit), ls[i]? = some l → left[i]? = some false → l.kind = 1 → ∀ t ∈ l.atom.args, bound ns B t

theorem makeLoop_ok {ns : List ByteArray} {ls : List Lit} {delta : Int} (hls : ∀ l ∈ ls, LitFacts ns l) : ∀ (k : Nat) (left : List Bool) (B : Nat) (f : Bool), countTrue left ≤ k → left.length = ls.length → DoneOk ns ls left B →
    okSteps ns.length f B (makeLoop ns ls delta k left B).1 = some (makeLoop ns ls delta k left B).2 ∧ (makeLoop ns ls delta k left B).1.length ≤ k ∧
    (∀ l ∈ ls, l.kind = 1 → ∀ t ∈ l.atom.args, bound ns (makeLoop ns ls delta k left B).2 t) := by
  have hend : ∀ (left : List Bool) (B : Nat), left.length = ls.length → DoneOk ns ls left B → nextOf ns B left ls < 0 → ∀ l ∈ ls, l.kind = 1 → ∀ t ∈ l.atom.args, bound ns B t := by
    intro left B hlen hd hn l hl h1 t ht
    obtain ⟨i, hi, rfl⟩ := List.getElem_of_mem hl
    have hi' : ls[i]? = some ls[i] := by simp [hi]
    have hil : i < left.length := by omega
    cases hb : left[i] with
    | false => exact hd i _ hi' (by simp [hil, hb]) h1 t ht
    | true => exact absurd h1 (nextOf_end hn hi' (by simp [hil, hb]))
  intro k
  induction k with
  | zero =>
    intro left B f hc hlen hd
    refine ⟨rfl, by simp [makeLoop], ?_⟩
    refine hend left B hlen hd ?_
    by_cases hn : 0 ≤ nextOf ns B left ls
    · obtain ⟨i, l, _, _, hle, _⟩ := nextOf_free hn
      have := countTrue_set hle
      omega
    · omega
  | succ k ih =>
    intro left B f hc hlen hd
    by_cases hn : 0 ≤ nextOf ns B left ls
    · obtain ⟨i, l, hi, hli, hle, hfr⟩ := nextOf_free hn
      have hct := countTrue_set hle
      have hlf := hls l (List.mem_of_getElem? hli)
      have hneg : ¬ (i : Int) < 0 := by omega
      have hil := (List.getElem?_eq_some_iff.1 hle).1
      have hd' : DoneOk ns ls (left.set i false) (stepB ns B l) := by
        intro j l' hj hlj h1 t ht
        by_cases e : i = j
        · subst e
          rw [hli] at hj
          simp only [Option.some.injEq] at hj
          subst hj
          unfold stepB
          rw [if_neg (by omega)]
          exact colsB_bound ht
        · rw [List.getElem?_set_ne e] at hlj
          exact fun hk => stepB_mono (hd j l' hj hlj h1 t ht hk)
      obtain ⟨g1, g2, g3⟩ := ih (left.set i false) (stepB ns B l) false (by omega) (by simpa using hlen) hd'
      have hmk : makeLoop ns ls delta (k + 1) left B = (stepOf ns B delta i l :: (makeLoop ns ls delta k (left.set i false) (stepB ns B l)).1, (makeLoop ns ls delta k (left.set i false) (stepB ns B l)).2) := by
        simp [makeLoop, hi, hneg, hli]
      rw [hmk]
      refine ⟨?_, by simp; omega, g3⟩
      simp only [okSteps, okStep_stepOf hlf hfr]
      exact g1
    · have hmk : makeLoop ns ls delta (k + 1) left B = ([], B) := by simp [makeLoop, show nextOf ns B left ls < 0 by omega]
      rw [hmk]
      exact ⟨rfl, by simp, hend left B hlen hd (by omega)⟩

theorem left0_get {delta : Int} {n i : Nat} (h : i < n) : (left0 delta n)[i]? = some (decide ((i : Int) ≠ delta)) := by simp [left0, h]
theorem countTrue_le (l : List Bool) : countTrue l ≤ l.length := List.length_filter_le _ _

theorem mem_namesOf {ts : List Term} {n : ByteArray} (h : n ∈ namesOf ts) : ∃ t ∈ ts, t.kind = 1 ∧ t.name = n := by
  unfold namesOf at h
  have : ∀ (ts : List Term) (out : List ByteArray), n ∈ ts.foldl addName out → n ∈ out ∨ ∃ t ∈ ts, t.kind = 1 ∧ t.name = n := by
    intro ts
    induction ts with
    | nil => intro out h; exact .inl h
    | cons a ts ih =>
      intro out h
      rcases ih _ h with h | ⟨t, h1, h2⟩
      · unfold addName at h
        split at h
        · rename_i hc
          rcases List.mem_append.1 h with h | h
          · exact .inl h
          · simp at h; exact .inr ⟨a, by simp, hc.1, h.symm⟩
        · exact .inl h
      · exact .inr ⟨t, by simp [h1], h2⟩
  rcases this ts [] h with h | h
  · cases h
  · exact h

/-- Every variable stands in a literal that must hold. -/
theorem Plans.all_bound {r : Rule} (h : Plans r) {n : ByteArray} (hn : n ∈ ruleVars (cleanRule r)) : ∃ l ∈ (cleanRule r).body, l.kind = 1 ∧ ∃ t ∈ l.atom.args, t.kind = 1 ∧ t.name = n := by
  have hb := h.bound
  unfold ruleBound at hb
  have hf := List.length_filter_eq_length_iff.1 hb.symm n hn
  simp only [List.any_eq_true, decide_eq_true_eq] at hf
  obtain ⟨m, hm, rfl⟩ := hf
  obtain ⟨t, ht, h1, h2⟩ := mem_namesOf hm
  simp only [posTerms, List.mem_flatMap] at ht
  obtain ⟨l, hl, ht⟩ := ht
  split at ht
  · rename_i hk; exact ⟨l, hl, hk, t, ht, h1, h2⟩
  · cases ht

theorem made_ok (r : Rule) (delta : Int) (hf : Fits r) (he : makeErr r delta = 0) : MadeOk (makeOf r delta) delta := by
  have hp : hasPlans r = true := by
    cases h : hasPlans r with
    | true => rfl
    | false => simp [makeErr, h] at he
  have hP := plans_of hp
  have hrange : ¬ (delta < -1 ∨ (r.body.length : Int) ≤ delta) := by intro h; simp [makeErr, hp, h] at he
  have hcmp : compares r delta = false := by
    cases h : compares r delta with
    | false => rfl
    | true => rw [makeErr] at he; simp [hp, hrange, h] at he
  unfold makeOf
  rw [if_pos he]
  have hfacts := hP.facts
  have hlb : (cleanRule r).body.length = r.body.length := by simp [cleanRule]
  have hl0 : (left0 delta r.body.length).length = (cleanRule r).body.length := by simp [left0, hlb]
  have hct : countTrue (left0 delta r.body.length) ≤ (cleanRule r).body.length := by rw [← hl0]; exact countTrue_le _
  have hbody := hf.body
  -- the steps
  have hsteps : ∃ B, okSteps (ruleVars (cleanRule r)).length true 0 (planSteps (ruleVars (cleanRule r)) (cleanRule r).body delta (left0 delta r.body.length)).1 = some B ∧ B = (planSteps (ruleVars (cleanRule r)) (cleanRule r).body delta (left0 delta r.body.length)).2 ∧
      (planSteps (ruleVars (cleanRule r)) (cleanRule r).body delta (left0 delta r.body.length)).1.length ≤ r.body.length + 1 ∧
      (∀ l ∈ (cleanRule r).body, l.kind = 1 → ∀ t ∈ l.atom.args, bound (ruleVars (cleanRule r)) B t) ∧
      (0 ≤ delta → ∃ s rest, (planSteps (ruleVars (cleanRule r)) (cleanRule r).body delta (left0 delta r.body.length)).1 = s :: rest ∧ s.op = 4 ∧ s.lit = delta) := by
    by_cases hd : 0 ≤ delta
    · obtain ⟨i, rfl⟩ : ∃ i : Nat, delta = (i : Int) := ⟨delta.toNat, by omega⟩
      have hil : i < (cleanRule r).body.length := by omega
      have hli : (cleanRule r).body[i]? = some (cleanRule r).body[i] := by simp [hil]
      have hps : planSteps (ruleVars (cleanRule r)) (cleanRule r).body (i : Int) (left0 (i : Int) r.body.length) = (deltaStep (ruleVars (cleanRule r)) (i : Int) (cleanRule r).body[i] :: (makeLoop (ruleVars (cleanRule r)) (cleanRule r).body (i : Int) (cleanRule r).body.length (left0 (i : Int) r.body.length) (colsB (ruleVars (cleanRule r)) 0 (varsOf (cleanRule r).body[i].atom.args))).1,
          (makeLoop (ruleVars (cleanRule r)) (cleanRule r).body (i : Int) (cleanRule r).body.length (left0 (i : Int) r.body.length) (colsB (ruleVars (cleanRule r)) 0 (varsOf (cleanRule r).body[i].atom.args))).2) := by
        unfold planSteps; rw [if_pos hd]; simp [hli]
      have hlf := hfacts _ (List.getElem_mem hil)
      have hk3 : (cleanRule r).body[i].kind ≠ 3 := by
        intro h3
        have h0 : i < r.body.length := by omega
        simp only [cleanRule, List.getElem_map, cleanLit_kind] at h3
        simp [compares, h0, h3] at hcmp
      generalize hl : (cleanRule r).body[i] = l at *
      have ht := termsOf_args hk3
      have hgv : ∀ t ∈ varsOf l.atom.args, goodTerm (ruleVars (cleanRule r)) t := fun t h => hlf.good t (by rw [ht]; exact varsOf_mem h)
      have hkv : ∀ t ∈ varsOf l.atom.args, kind123 t := fun t h => hlf.kinds t (by rw [ht]; exact varsOf_mem h)
      have hds : okStep (ruleVars (cleanRule r)).length 0 true (deltaStep (ruleVars (cleanRule r)) (i : Int) l) = some (colsB (ruleVars (cleanRule r)) 0 (varsOf l.atom.args)) := by
        unfold okStep deltaStep
        have h8 := hlf.few hk3
        have h9 := varsOf_len l.atom.args
        have h10 : (varsOf l.atom.args).length ≤ 8 := by omega
        simp [colsOf_length, h10]
        exact okCols_colsOf hgv hkv (.inl rfl) (.inl rfl)
      have hd0 : DoneOk (ruleVars (cleanRule r)) (cleanRule r).body (left0 (i : Int) r.body.length) (colsB (ruleVars (cleanRule r)) 0 (varsOf l.atom.args)) := by
        intro j l' hj hlj h1 t htt hk1
        have hjl := (List.getElem?_eq_some_iff.1 hj).1
        rw [left0_get (by omega)] at hlj
        simp at hlj
        have : j = i := by omega
        subst this
        rw [hli] at hj
        simp only [Option.some.injEq] at hj
        subst hj
        obtain ⟨u, hu, hu1, hun⟩ := varsOf_cover htt hk1
        have := colsB_bound (ns := ruleVars (cleanRule r)) (B := 0) hu hu1
        rw [hun] at this; exact this
      obtain ⟨g1, g2, g3⟩ := makeLoop_ok (delta := (i : Int)) hfacts (cleanRule r).body.length _ _ false hct hl0 hd0
      rw [hps]
      exact ⟨_, by simp only [okSteps, hds]; exact g1, rfl, by simp; omega, g3, fun _ => ⟨_, _, rfl, rfl, rfl⟩⟩
    · have hps : planSteps (ruleVars (cleanRule r)) (cleanRule r).body delta (left0 delta r.body.length) = makeLoop (ruleVars (cleanRule r)) (cleanRule r).body delta (cleanRule r).body.length (left0 delta r.body.length) 0 := by unfold planSteps; rw [if_neg hd]
      have hd0 : DoneOk (ruleVars (cleanRule r)) (cleanRule r).body (left0 delta r.body.length) 0 := by
        intro j l' hj hlj
        have hjl := (List.getElem?_eq_some_iff.1 hj).1
        rw [left0_get (by omega)] at hlj
        simp at hlj
        omega
      obtain ⟨g1, g2, g3⟩ := makeLoop_ok (delta := delta) hfacts (cleanRule r).body.length _ 0 true hct hl0 hd0
      rw [hps]
      exact ⟨_, g1, rfl, by omega, g3, fun h => absurd h hd⟩
  obtain ⟨B, s1, s2, s3, s4, s5⟩ := hsteps
  have hbnd : ∀ t ∈ r.head.args, bound (ruleVars (cleanRule r)) B t := by
    intro t ht h1
    obtain ⟨l, hl, hk, u, hu, hu1, hun⟩ := hP.all_bound (head_in (r := cleanRule r) ht h1)
    have := s4 l hl hk u hu hu1
    rw [hun] at this; exact this
  have hkh : ∀ t ∈ r.head.args, t.kind = 1 ∨ t.kind = 2 := by
    intro t ht
    rcases kindsOk_mem hP.head ht with a | a | ⟨a, _⟩
    · exact .inl a
    · exact .inr a
    · cases a
  have hhead := okCols_colsOf (ns := ruleVars (cleanRule r)) (w := false) (sk := false) (ts := r.head.args) (B := B) hP.headGood (fun t ht => by rcases hkh t ht with h | h <;> simp [kind123, h]) (.inr hbnd) (.inr fun t ht => by have := hkh t ht; omega)
  refine ⟨⟨hP.vars, by simp [planOf, colsOf_length]; exact hP.headLen, by simp only [planOf]; omega, ⟨B, colsB (ruleVars (cleanRule r)) B r.head.args, s1, ?_⟩⟩, s5⟩
  simp only [planOf]
  rw [← s2]
  exact hhead
end Go.Abs.Plan
