/- Plan: columns that pass neither check. PRINTED by a small program. -/
import Derived.Test.YtnbilkoabogllaaJx
set_option linter.unusedSimpArgs false
set_option linter.unusedVariables false
namespace Go.Abs.Plan
open Enc (Is)

theorem nz {v : Val} (h : v ≠ zeroVal) : v.kind ≠ 0 ∨ (v.kind = 0 ∧ v.n ≠ 0) ∨ (v.kind = 0 ∧ v.n = 0 ∧ v.s ≠ ⟨#[]⟩) := by
  by_cases k1 : v.kind = 0
  · by_cases k2 : v.n = 0
    · by_cases k3 : v.s = ⟨#[]⟩
      · exact absurd (by obtain ⟨a, b, c⟩ := v; simp only at k1 k2 k3; subst k1; subst k2; subst k3; rfl) h
      · exact .inr (.inr ⟨k1, k2, k3⟩)
    · exact .inr (.inl ⟨k1, k2⟩)
  · exact .inl k1

set_option maxHeartbeats 1000000 in
theorem refcol_no (g b n B : Nat) (H : Heap) (c : Col) (w : Bool) (hb : H[b]? = some (toldBlk g n B)) (hn : n ≤ 64) (h : okCol n B w true c = none) :
    callW tbl (.func f_ref18_col [] []) [c.enc, .sl b g 0 n, .bool w] H = some (.bool false, H) := by
  have hlt := lt_of hb
  have hh := hat_of hb
  refine callB a_ref18_col rfl rfl rfl (fun F hF => ?_)
  obtain ⟨use, var, val⟩ := c
  unfold okCol at h
  simp only at h
  by_cases h1 : use = 1
  · subst h1
    have hv0 : ¬ var = 0 := by intro e; simp [e] at h
    have hv0b : (var == 0) = false := by simp [hv0]
    simp [a_ref18_col, c_ref18_col, AV.rowok, buildA_nil, hv0, hv0b]
    exact hF _ _ (close_same rfl)
  by_cases h2 : use = 2
  · subst h2
    by_cases hv0 : var = 0
    · have hv : val ≠ zeroVal := by intro e; simp [e, hv0] at h
      rcases nz hv with k1 | ⟨k1, k2⟩ | ⟨k1, k2, k3⟩
      · have k1b : (val.kind == 0) = false := by simp [k1]
        simp [a_ref18_col, c_ref18_col, AV.rowok, buildA_nil, hv0, k1, k1b]
        exact hF _ _ (close_same rfl)
      · have k2b : (val.n == 0) = false := by simp [k2]
        simp [a_ref18_col, c_ref18_col, AV.rowok, buildA_nil, hv0, k1, k2, k2b]
        exact hF _ _ (close_same rfl)
      · simp [a_ref18_col, c_ref18_col, AV.rowok, buildA_nil, hv0, k1, k2, k3]
        exact hF _ _ (close_same rfl)
    · simp [a_ref18_col, c_ref18_col, AV.rowok, buildA_nil, hv0]
      exact hF _ _ (close_same rfl)
  by_cases h3 : use = 3
  · subst h3
    cases w with
    | false =>
      simp [a_ref18_col, c_ref18_col, AV.rowok, buildA_nil]
      exact hF _ _ (close_same rfl)
    | true =>
      by_cases hv : val = zeroVal
      · subst hv
        by_cases hneg : var < 0
        · simp [a_ref18_col, c_ref18_col, AV.rowok, buildA_nil, zeroVal, hneg]
          exact hF _ _ (close_same rfl)
        · obtain ⟨j, rfl⟩ : ∃ j : Nat, var = (j : Int) := ⟨var.toNat, by omega⟩
          by_cases hge : (n : Int) ≤ (j : Int)
          · simp [a_ref18_col, c_ref18_col, AV.rowok, buildA_nil, zeroVal, hneg, hge]
            exact hF _ _ (close_same rfl)
          · have hvn : j < n := by omega
            have hbit : B.testBit j = true := by
              cases hb : B.testBit j with
              | true => rfl
              | false => simp [hvn, hb] at h
            have hbl := bitsOf_len n B
            have hbg : (bitsOf n B)[j] = .bool (B.testBit j) := by simp [bitsOf]
            simp [a_ref18_col, c_ref18_col, AV.rowok, buildA_nil, zeroVal, hh, toldBlk, hneg, hge, hvn, hlt, hbl, hbg, hbit]
            exact hF _ _ (close_same rfl)
      · have hv : val ≠ zeroVal := hv
        rcases nz hv with k1 | ⟨k1, k2⟩ | ⟨k1, k2, k3⟩
        · have k1b : (val.kind == 0) = false := by simp [k1]
          simp [a_ref18_col, c_ref18_col, AV.rowok, buildA_nil, k1, k1b]
          exact hF _ _ (close_same rfl)
        · have k2b : (val.n == 0) = false := by simp [k2]
          simp [a_ref18_col, c_ref18_col, AV.rowok, buildA_nil, k1, k2, k2b]
          exact hF _ _ (close_same rfl)
        · simp [a_ref18_col, c_ref18_col, AV.rowok, buildA_nil, k1, k2, k3]
          exact hF _ _ (close_same rfl)
  by_cases h4 : use = 4
  · subst h4
    by_cases hv : val = zeroVal
    · subst hv
      by_cases hneg : var < 0
      · have hneg' : ¬ 0 ≤ var := by omega
        simp [a_ref18_col, c_ref18_col, AV.rowok, buildA_nil, zeroVal, hneg']
        exact hF _ _ (close_same rfl)
      · obtain ⟨j, rfl⟩ : ∃ j : Nat, var = (j : Int) := ⟨var.toNat, by omega⟩
        by_cases hvn : j < n
        · have hlt' : (j : Int) < n := by omega
          have hbit : B.testBit j = false := by
            cases hb : B.testBit j with
            | false => rfl
            | true => simp [hvn, hb] at h
          have hbl := bitsOf_len n B
          have hbg : (bitsOf n B)[j] = .bool (B.testBit j) := by simp [bitsOf]
          simp [a_ref18_col, c_ref18_col, AV.rowok, buildA_nil, zeroVal, hh, toldBlk, hlt', hvn, hlt, hbl, hbg, hbit]
          exact hF _ _ (close_same rfl)
        · have hlt' : ¬ (j : Int) < n := by omega
          simp [a_ref18_col, c_ref18_col, AV.rowok, buildA_nil, zeroVal, hlt', hvn]
          exact hF _ _ (close_same rfl)
    · have hv : val ≠ zeroVal := hv
      rcases nz hv with k1 | ⟨k1, k2⟩ | ⟨k1, k2, k3⟩
      · have k1b : (val.kind == 0) = false := by simp [k1]
        simp [a_ref18_col, c_ref18_col, AV.rowok, buildA_nil, k1, k1b]
        exact hF _ _ (close_same rfl)
      · have k2b : (val.n == 0) = false := by simp [k2]
        simp [a_ref18_col, c_ref18_col, AV.rowok, buildA_nil, k1, k2, k2b]
        exact hF _ _ (close_same rfl)
      · simp [a_ref18_col, c_ref18_col, AV.rowok, buildA_nil, k1, k2, k3]
        exact hF _ _ (close_same rfl)
  · simp [a_ref18_col, c_ref18_col, AV.rowok, buildA_nil, h1, h2, h3, h4]
    exact hF _ _ (close_same rfl)

theorem told_no (g b n B : Nat) (H : Heap) (c : Col) (hb : H[b]? = some (toldBlk g n B)) (hn : n ≤ 64) (h : okCol n B false false c = none) :
    callW tbl (.func f_ref18_told [] []) [c.enc, .sl b g 0 n] H = some (.bool false, H) := by
  refine callB a_ref18_told rfl rfl rfl (fun F hF => ?_)
  by_cases h2 : c.use = 2
  · simp [a_ref18_told, c_ref18_told, AV.rowok, h2]
    exact hF _ _ (close_same rfl)
  · have h' : okCol n B false true c = none := by unfold okCol at h ⊢; simpa [h2] using h
    have hcol := refcol_no g b n B H c false hb hn h'
    simp only [Col.enc] at hcol
    simp [a_ref18_told, c_ref18_told, AV.rowok, h2, hcol]
    exact hF _ _ (close_same rfl)
end Go.Abs.Plan

/- Plan: columns that pass neither check: the plan's own. PRINTED by a small program. -/
set_option linter.unusedSimpArgs false
set_option linter.unusedVariables false
namespace Go.Abs.Plan
open Enc (Is)

theorem same_call {f : AV} {args : List AV} {H : Heap} {r : AV} (h : ∃ H', callW tbl f args H = some (r, H') ∧ H' = H) : callW tbl f args H = some (r, H) := by
  obtain ⟨H', h1, rfl⟩ := h; exact h1

set_option maxHeartbeats 2000000 in
theorem askcol_no (g b n B : Nat) (H : Heap) (c : Col) (w sk : Bool) (hb : H[b]? = some (askBlk g n B)) (hn : n ≤ 64) (hB : B < 2 ^ 64) (h : okCol n B w sk c = none) :
    ∃ B', callW tbl (.func f_plan_asking_col [] []) [.ptr b g 0 0, c.enc, .bool w, .bool sk] H = some (.bool false, H.set b (askBlk g n B')) := by
  have hlt := lt_of hb
  have hh := hat_of hb
  suffices hq : ∃ v H', (v = .bool false ∧ ∃ B', H' = H.set b (askBlk g n B')) ∧ callW tbl (.func f_plan_asking_col [] []) [.ptr b g 0 0, c.enc, .bool w, .bool sk] H = some (closeCall false H.length v H') by
    obtain ⟨v, H', ⟨rfl, B', rfl⟩, hc⟩ := hq
    rw [close_same (by simp)] at hc
    exact ⟨B', hc⟩
  refine callE (fun v H' => v = .bool false ∧ ∃ B', H' = H.set b (askBlk g n B')) a_plan_asking_col rfl rfl rfl (fun F hF => ?_)
  have hS : F (.bool false) H := hF _ _ ⟨rfl, B, (set_same hb).symm⟩
  obtain ⟨use, var, val⟩ := c
  unfold okCol at h
  simp only at h
  by_cases h1 : use = 1
  · subst h1
    have hv0 : ¬ var = 0 := by intro e; simp [e] at h
    have hv0b : (var == 0) = false := by simp [hv0]
    simp [a_plan_asking_col, c_plan_asking_col, AV.rowok, buildA_nil, splice, putCells, hv0, hv0b]
    exact hS
  by_cases h2 : use = 2
  · subst h2
    cases sk with
    | false =>
      simp [a_plan_asking_col, c_plan_asking_col, AV.rowok, buildA_nil, splice, putCells]
      exact hS
    | true =>
      by_cases hv0 : var = 0
      · have hv : val ≠ zeroVal := by intro e; simp [e, hv0] at h
        rcases nz hv with k1 | ⟨k1, k2⟩ | ⟨k1, k2, k3⟩
        · have k1b : (val.kind == 0) = false := by simp [k1]
          simp [a_plan_asking_col, c_plan_asking_col, AV.rowok, buildA_nil, splice, putCells, hv0, k1, k1b]
          exact hS
        · have k2b : (val.n == 0) = false := by simp [k2]
          simp [a_plan_asking_col, c_plan_asking_col, AV.rowok, buildA_nil, splice, putCells, hv0, k1, k2, k2b]
          exact hS
        · simp [a_plan_asking_col, c_plan_asking_col, AV.rowok, buildA_nil, splice, putCells, hv0, k1, k2, k3]
          exact hS
      · simp [a_plan_asking_col, c_plan_asking_col, AV.rowok, buildA_nil, splice, putCells, hv0]
        exact hS
  by_cases h34 : use = 3 ∨ use = 4
  · have hnv : val ≠ zeroVal → EXEC (callW tbl) loopW a_plan_asking_col.body [] { tm := Tm.ofArgs .leaf 0 ([] ++ [.ptr b g 0 0, (Col.mk use var val).enc, .bool w, .bool sk] ++ []), heap := H, dfr := [], rnd := none } (FINQ a_plan_asking_col.results F) := by
      intro hv
      rcases h34 with rfl | rfl
      · skip
        rcases nz hv with k1 | ⟨k1, k2⟩ | ⟨k1, k2, k3⟩
        · have k1b : (val.kind == 0) = false := by simp [k1]
          simp [a_plan_asking_col, c_plan_asking_col, AV.rowok, buildA_nil, splice, putCells, k1, k1b]
          exact hS
        · have k2b : (val.n == 0) = false := by simp [k2]
          simp [a_plan_asking_col, c_plan_asking_col, AV.rowok, buildA_nil, splice, putCells, k1, k2, k2b]
          exact hS
        · simp [a_plan_asking_col, c_plan_asking_col, AV.rowok, buildA_nil, splice, putCells, k1, k2, k3]
          exact hS
      · skip
        rcases nz hv with k1 | ⟨k1, k2⟩ | ⟨k1, k2, k3⟩
        · have k1b : (val.kind == 0) = false := by simp [k1]
          simp [a_plan_asking_col, c_plan_asking_col, AV.rowok, buildA_nil, splice, putCells, k1, k1b]
          exact hS
        · have k2b : (val.n == 0) = false := by simp [k2]
          simp [a_plan_asking_col, c_plan_asking_col, AV.rowok, buildA_nil, splice, putCells, k1, k2, k2b]
          exact hS
        · simp [a_plan_asking_col, c_plan_asking_col, AV.rowok, buildA_nil, splice, putCells, k1, k2, k3]
          exact hS
    by_cases hv : val = zeroVal
    · subst hv
      clear hnv
      by_cases hneg : var < 0
      · rcases h34 with rfl | rfl
        · simp [a_plan_asking_col, c_plan_asking_col, AV.rowok, buildA_nil, splice, putCells, zeroVal, hneg]
          exact hS
        · simp [a_plan_asking_col, c_plan_asking_col, AV.rowok, buildA_nil, splice, putCells, zeroVal, hneg]
          exact hS
      · obtain ⟨j, rfl⟩ : ∃ j : Nat, var = (j : Int) := ⟨var.toNat, by omega⟩
        by_cases hge : (n : Int) ≤ (j : Int)
        · rcases h34 with rfl | rfl
          · simp [a_plan_asking_col, c_plan_asking_col, AV.rowok, buildA_nil, splice, putCells, zeroVal, hneg, hge, hh, askBlk, hlt]
            exact hS
          · simp [a_plan_asking_col, c_plan_asking_col, AV.rowok, buildA_nil, splice, putCells, zeroVal, hneg, hge, hh, askBlk, hlt]
            exact hS
        · have hvn : j < n := by omega
          have hs := shr_u64 (B := B) (j := j) (by omega) .no
          have ha := and1_u64 (n := B >>> j) (by rw [Nat.shiftRight_eq_div_pow]; exact Nat.lt_of_le_of_lt (Nat.div_le_self ..) hB) .no
          have ht := bit_eq B j
          have hpow : 2 ^ j < 2 ^ 64 := Nat.pow_lt_pow_right (by decide) (by omega)
          have hsl := shl_u64 (j := j) (by omega) .no
          have ho := or_u64 hB hpow .no
          generalize (B >>> j) % 2 = q at ha ht
          generalize B >>> j = p at hs ha
          have he : binA .eql .no (.int .u64 (q : Int)) (.int .u64 1) = some (.bool (B.testBit j)) := by
            cases hb : B.testBit j with
            | true => have : (q : Int) = 1 := by simp [hb] at ht; omega
                      simp [this]
            | false => have : ¬ (q : Int) = 1 := by simp [hb] at ht; omega
                       simp [this]
          rcases h34 with rfl | rfl
          · generalize hq : 2 ^ j = qq at hsl ho
            generalize ho' : B ||| qq = r at ho
            have hwb : (w && !B.testBit j) = false := by
              cases w with
              | false => rfl
              | true =>
                cases hb : B.testBit j with
                | true => rfl
                | false => simp [hvn, hb] at h
            cases w with
            | false =>
              simp [a_plan_asking_col, c_plan_asking_col, AV.rowok, buildA_nil, splice, putCells, zeroVal, hneg, hge, hh, askBlk, hlt, hs, ha, he, hsl, ho]
              exact hF _ _ ⟨rfl, r, rfl⟩
            | true =>
              have hbit : B.testBit j = true := by simpa using hwb
              rw [hbit] at he
              simp [a_plan_asking_col, c_plan_asking_col, AV.rowok, buildA_nil, splice, putCells, zeroVal, hneg, hge, hh, askBlk, hlt, hs, ha, he, hsl, ho]
              exact hF _ _ ⟨rfl, r, rfl⟩
          · have hbit : B.testBit j = false := by
              cases hb : B.testBit j with
              | false => rfl
              | true => simp [hvn, hb] at h
            rw [hbit] at he
            simp [a_plan_asking_col, c_plan_asking_col, AV.rowok, buildA_nil, splice, putCells, zeroVal, hneg, hge, hh, askBlk, hlt, hs, ha, he, hsl, ho]
            exact hS
    · exact hnv hv
  · have h3 : ¬ use = 3 := fun e => h34 (.inl e)
    have h4 : ¬ use = 4 := fun e => h34 (.inr e)
    simp [a_plan_asking_col, c_plan_asking_col, AV.rowok, buildA_nil, splice, putCells, h1, h2, h3, h4]
    exact hS
end Go.Abs.Plan

/- Plan: steps that pass neither check. PRINTED by a small program. -/
set_option linter.unusedSimpArgs false
set_option linter.unusedVariables false
namespace Go.Abs.Plan
open Enc (Is)

theorem zcol_no {c : Col} (h : c ≠ zeroCol) : (c.use == 0 && (c.var == 0 && (c.v.kind == 0 && (c.v.n == 0 && decide (c.v.s = ⟨#[]⟩))))) = false := by
  cases hh : (c.use == 0 && (c.var == 0 && (c.v.kind == 0 && (c.v.n == 0 && decide (c.v.s = ⟨#[]⟩))))) with
  | false => rfl
  | true =>
    simp only [Bool.and_eq_true, beq_iff_eq, decide_eq_true_eq] at hh
    obtain ⟨h1, h2, h3, h4, h5⟩ := hh
    exact absurd (by obtain ⟨a, b, ⟨c, d, e⟩⟩ := c; simp only at h1 h2 h3 h4 h5; subst h1; subst h2; subst h3; subst h4; subst h5; rfl) h

/-- Where columns fail. -/
theorem okCols_at {n : Nat} {w sk : Bool} {cs : List Col} {B : Nat} : ∀ j, j < cs.length → ∀ B1, okCols n w sk B (cs.take j) = some B1 → ∀ c, cs[j]? = some c → okCols n w sk B (cs.take (j + 1)) = okCol n B1 w sk c := by
  intro j hj B1 h1 c hc
  have htk : cs.take (j + 1) = cs.take j ++ [c] := by rw [List.take_add_one, hc]; rfl
  rw [htk, okCols_snoc, h1, Option.bind_some]

theorem refstep_noloop (g b n B : Nat) (H : Heap) (st : Step) (cv : AV) (w : Bool) (hcv : Is cv st.cols) (hb : H[b]? = some (toldBlk g n B)) (hn : n ≤ 64) (hl : st.cols.length ≤ 8) (hw : (st.op != 2) = w) (h : okCols n w true B st.cols = none) (s : St) (ks : List KF) (R : AExit → St → Prop)
    (e1 : s.heap = H) (e2 : s.dfr = []) (e3 : s.tm.get 2 = .sl b g 0 n) (e4 : s.tm.get 3 = .fptr false (st.encW cv).cells 0) (e5 : s.tm.get 8 = i64 0)
    (hret : ∀ (s' : St) (B' : Nat), s'.heap = H.set b (toldBlk g n B') → s'.dfr = [] → s'.tm.get 6 = .bool false → KONT (callW tbl) loopW ks .ret s' R) :
    EXEC (callW tbl) loopW (.loop c_ref18_step_l0) ks s R := by
  have hc := isl_cell hcv
  have hln := IsL.len hcv
  refine EXEC_loop_inv (fun k s => ∃ (j B1 : Nat), j + k = st.cols.length ∧ okCols n w true B (st.cols.take j) = some B1 ∧ s.heap = H.set b (toldBlk g n B1) ∧ s.dfr = [] ∧ s.tm.get 2 = .sl b g 0 n ∧ s.tm.get 3 = .fptr false (st.encW cv).cells 0 ∧ s.tm.get 8 = i64 j) st.cols.length
    ⟨0, B, by simp, by simp [okCols], by rw [e1, set_same hb], e2, e3, e4, e5⟩ ?_
  rintro k s Q ⟨j, B1, h0, h1, h2, h3, h4, h5, h6⟩ hn' hx
  simp only [AV.cells] at h5
  by_cases hj : j < st.cols.length
  · have hj' : (j : Int) < st.cols.length := by omega
    have hg : st.cols[j]? = some st.cols[j] := by simp [hj]
    obtain ⟨fl', lv, rfl, hidx⟩ := IsL.idx hcv hg
    simp only [show Enc.sz Col = 5 from rfl] at hidx
    have hat := okCols_at j hj B1 h1 _ hg
    have hb1 : s.heap[b]? = some (toldBlk g n B1) := by rw [h2]; simp [lt_of hb]
    have hwr : IntKind.i64.wrap ((j : Int) + 1) = ((j + 1 : Nat) : Int) := by rw [wrap_i64 (by omega) (by omega)]; push_cast; rfl
    cases hB2 : okCol n B1 w true st.cols[j] with
    | some B2 =>
      rw [hB2] at hat
      have hcol := refcol_ok g b n B1 B2 s.heap st.cols[j] w hb1 hn hB2
      simp only [Col.enc] at hcol
      simp [c_ref18_step_l0, h4, h5, h6, hln, hj', hidx, AV.rowok, hc, hw, hcol]
      rw [hwr]
      exact hn' _ (k - 1) (by omega) ⟨j + 1, B2, by omega, hat, by simp [h2], h3, by simp [h4], by simp [h5], by simp⟩
    | none =>
      have hcol := refcol_no g b n B1 s.heap st.cols[j] w hb1 hn hB2
      simp only [Col.enc] at hcol
      simp [c_ref18_step_l0, h4, h5, h6, hln, hj', hidx, AV.rowok, hc, hw, hcol]
      exact hx _ _ (by simp) (hret _ B1 h2 h3 (by simp))
  · rw [List.take_of_length_le (by omega), h] at h1
    simp at h1

theorem askstep_noloop (g b n B : Nat) (H : Heap) (st : Step) (cv : AV) (w : Bool) (hcv : Is cv st.cols) (hb : H[b]? = some (askBlk g n B)) (hn : n ≤ 64) (hB : B < 2 ^ 64) (hl : st.cols.length ≤ 8) (hw : (st.op != 2) = w) (h : okCols n w true B st.cols = none) (s : St) (ks : List KF) (R : AExit → St → Prop)
    (e1 : s.heap = H) (e2 : s.dfr = []) (e3 : s.tm.get 0 = .ptr b g 0 0) (e4 : s.tm.get 4 = .fptr false (st.encW cv).cells 0) (e5 : s.tm.get 103 = cv) (e6 : s.tm.get 104 = i64 st.cols.length) (e7 : s.tm.get 105 = i64 0)
    (hret : ∀ (s' : St) (B' : Nat), s'.heap = H.set b (askBlk g n B') → s'.dfr = [] → s'.tm.get 6 = .bool false → KONT (callW tbl) loopW ks .ret s' R) :
    EXEC (callW tbl) loopW (.loop c_plan_asking_step_l0) ks s R := by
  have hc := isl_cell hcv
  have hln := IsL.len hcv
  refine EXEC_range st.cols.length (fun j s => ∃ (B1 : Nat), okCols n w true B (st.cols.take j) = some B1 ∧ s.heap = H.set b (askBlk g n B1) ∧ s.dfr = [] ∧ s.tm.get 0 = .ptr b g 0 0 ∧ s.tm.get 4 = .fptr false (st.encW cv).cells 0 ∧ s.tm.get 103 = cv ∧ s.tm.get 104 = i64 st.cols.length ∧ s.tm.get 105 = i64 j)
    0 (by omega) ⟨B, by simp [okCols], by simp [e1, set_same hb], by simp [e2], by simp [e3], by simp [e4], by simp [e5], by simp [e6], by simp [e7]⟩ (by omega) (by simp; grind) ?_ ?_
  · rintro j s' Q hj ⟨B1, h1, h2, h3, h4, h5, h6, h7, h8⟩ hn' hx
    simp only [AV.cells] at h5
    have hg : st.cols[j]? = some st.cols[j] := by simp [hj]
    obtain ⟨fl', lv, rfl, hidx⟩ := IsL.idx hcv hg
    simp only [show Enc.sz Col = 5 from rfl] at hidx
    have hat := okCols_at j hj B1 h1 _ hg
    have hb1 : s'.heap[b]? = some (askBlk g n B1) := by rw [h2]; simp [lt_of hb]
    cases hB2 : okCol n B1 w true st.cols[j] with
    | some B2 =>
      rw [hB2] at hat
      have hcol := askcol_ok g b n B1 B2 s'.heap st.cols[j] w true hb1 hn (okCols_lt hn hB h1) hB2
      simp only [Col.enc] at hcol
      simp [h4, h5, h6, h8, hln, hidx, AV.rowok, hc, hw, hcol]
      exact hn' _ _ (.inl rfl) (by simp [h8]) ⟨B2, hat, by simp [h2], h3, by simp [h4], by simp [h5], by simp [h6], by simp [h7], by simp⟩
    | none =>
      obtain ⟨B3, hcol⟩ := askcol_no g b n B1 s'.heap st.cols[j] w true hb1 hn (okCols_lt hn hB h1) hB2
      simp only [Col.enc] at hcol
      simp [h4, h5, h6, h8, hln, hidx, AV.rowok, hc, hw, hcol]
      exact hx _ _ (by simp) (by simp) (hret _ B3 (by simp [h2]) h3 (by simp))
  · rintro s' ⟨B1, h1, h2, h3, h4, h5, h6, h7, h8⟩
    rw [List.take_of_length_le (by omega), h] at h1
    simp at h1

set_option maxHeartbeats 4000000 in
theorem refstep_no (g b n B : Nat) (H : Heap) (first : Bool) (s : Step) (sv : AV) (hs : Is sv s) (hb : H[b]? = some (toldBlk g n B)) (hn : n ≤ 64) (h : okStep n B first s = none) :
    ∃ B', callW tbl (.func f_ref18_step [] []) [sv, .bool first, .sl b g 0 n] H = some (.bool false, H.set b (toldBlk g n B')) := by
  obtain ⟨cv, hcv, rfl⟩ := hs
  have hc := isl_cell hcv
  have hln := IsL.len hcv
  suffices hq : ∃ v H', (v = .bool false ∧ ∃ B', H' = H.set b (toldBlk g n B')) ∧ callW tbl (.func f_ref18_step [] []) [s.encW cv, .bool first, .sl b g 0 n] H = some (closeCall false H.length v H') by
    obtain ⟨v, H', ⟨rfl, B', rfl⟩, hc⟩ := hq
    rw [close_same (by simp)] at hc
    exact ⟨B', hc⟩
  refine callE (fun v H' => v = .bool false ∧ ∃ B', H' = H.set b (toldBlk g n B')) a_ref18_step rfl rfl rfl (fun F hF => ?_)
  have hS : F (.bool false) H := hF _ _ ⟨rfl, B, (set_same hb).symm⟩
  unfold okStep at h
  by_cases h3 : s.op = 3
  · rw [if_pos h3] at h
    by_cases hp : s.pred = ⟨#[]⟩
    rotate_left
    · simp [a_ref18_step, c_ref18_step, AV.rowok, hc, hln, buildA_nil, h3, hp]
      exact hS
    by_cases hcs : s.cols.length = 0
    rotate_left
    · simp [a_ref18_step, c_ref18_step, AV.rowok, hc, hln, buildA_nil, h3, hp, hcs]
      exact hS
    by_cases ho : s.old = true
    · simp [a_ref18_step, c_ref18_step, AV.rowok, hc, hln, buildA_nil, h3, hp, hcs, ho]
      exact hS
    have ho : s.old = false := by simpa using ho
    by_cases hlo : 1 ≤ s.cmp
    rotate_left
    · simp [a_ref18_step, c_ref18_step, AV.rowok, hc, hln, buildA_nil, h3, hp, hcs, ho, hlo]
      exact hS
    by_cases hhi : s.cmp ≤ 6
    rotate_left
    · simp [a_ref18_step, c_ref18_step, AV.rowok, hc, hln, buildA_nil, h3, hp, hcs, ho, hlo, hhi]
      exact hS
    have hcl : s.cols = [] := List.length_eq_zero_iff.1 hcs
    rw [if_pos ⟨hp, hcl, ho, hlo, hhi⟩] at h
    cases ha : okCol n B false false s.a with
    | none =>
      have t1 := told_no g b n B H s.a hb hn ha
      simp only [Col.enc] at t1
      simp [a_ref18_step, c_ref18_step, AV.rowok, hc, hln, buildA_nil, h3, hp, hcs, ho, hlo, hhi, t1]
      exact hS
    | some B1 =>
      rw [ha] at h
      simp only at h
      have t1 := told_ok g b n B B1 H s.a hb hn ha
      have e1 := okCol_same ha
      subst e1
      have t2 := told_no g b n B1 H s.b hb hn h
      simp only [Col.enc] at t1 t2
      simp [a_ref18_step, c_ref18_step, AV.rowok, hc, hln, buildA_nil, h3, hp, hcs, ho, hlo, hhi, t1, t2]
      exact hS
  · rw [if_neg h3] at h
    by_cases hop : s.op = 1 ∨ s.op = 2 ∨ (s.op = 4 ∧ first = true ∧ s.old = false)
    rotate_left
    · by_cases h1 : s.op = 1
      · exact absurd (.inl h1) hop
      by_cases h2 : s.op = 2
      · exact absurd (.inr (.inl h2)) hop
      by_cases h4 : s.op = 4
      · cases first with
        | false =>
          simp [a_ref18_step, c_ref18_step, AV.rowok, hc, hln, buildA_nil, h4]
          exact hS
        | true =>
          have ho : s.old = true := by
            cases ho : s.old with
            | true => rfl
            | false => exact absurd (.inr (.inr ⟨h4, rfl, ho⟩)) hop
          simp [a_ref18_step, c_ref18_step, AV.rowok, hc, hln, buildA_nil, h4, ho]
          exact hS
      · simp [a_ref18_step, c_ref18_step, AV.rowok, hc, hln, buildA_nil, h1, h2, h3, h4]
        exact hS
    by_cases hcmp : s.cmp = 0
    rotate_left
    · rcases hop with hop | hop | ⟨hop, hf, ho⟩
      · simp [a_ref18_step, c_ref18_step, AV.rowok, hc, hln, buildA_nil, hop, hcmp]
        exact hS
      · simp [a_ref18_step, c_ref18_step, AV.rowok, hc, hln, buildA_nil, hop, hcmp]
        exact hS
      · simp [a_ref18_step, c_ref18_step, AV.rowok, hc, hln, buildA_nil, hop, hf, ho, hcmp]
        exact hS
    by_cases hza : s.a = zeroCol
    rotate_left
    · have hz := zcol_no hza
      rcases hop with hop | hop | ⟨hop, hf, ho⟩
      · simp [a_ref18_step, c_ref18_step, AV.rowok, hc, hln, buildA_nil, hop, hcmp, hz]
        exact hS
      · simp [a_ref18_step, c_ref18_step, AV.rowok, hc, hln, buildA_nil, hop, hcmp, hz]
        exact hS
      · simp [a_ref18_step, c_ref18_step, AV.rowok, hc, hln, buildA_nil, hop, hf, ho, hcmp, hz]
        exact hS
    by_cases hzb : s.b = zeroCol
    rotate_left
    · have hz := zcol_no hzb
      rcases hop with hop | hop | ⟨hop, hf, ho⟩
      · simp [a_ref18_step, c_ref18_step, AV.rowok, hc, hln, buildA_nil, hop, hcmp, hza, zeroCol, zeroVal, hz]
        exact hS
      · simp [a_ref18_step, c_ref18_step, AV.rowok, hc, hln, buildA_nil, hop, hcmp, hza, zeroCol, zeroVal, hz]
        exact hS
      · simp [a_ref18_step, c_ref18_step, AV.rowok, hc, hln, buildA_nil, hop, hf, ho, hcmp, hza, zeroCol, zeroVal, hz]
        exact hS
    by_cases h8 : s.cols.length ≤ 8
    rotate_left
    · have h8i : (8 : Int) < s.cols.length := by omega
      rcases hop with hop | hop | ⟨hop, hf, ho⟩
      · simp [a_ref18_step, c_ref18_step, AV.rowok, hc, hln, buildA_nil, hop, hcmp, hza, zeroCol, zeroVal, hzb, h8i]
        exact hS
      · simp [a_ref18_step, c_ref18_step, AV.rowok, hc, hln, buildA_nil, hop, hcmp, hza, zeroCol, zeroVal, hzb, h8i]
        exact hS
      · simp [a_ref18_step, c_ref18_step, AV.rowok, hc, hln, buildA_nil, hop, hf, ho, hcmp, hza, zeroCol, zeroVal, hzb, h8i]
        exact hS
    have h8i : ¬ (8 : Int) < s.cols.length := by omega
    rw [if_pos ⟨hop, hcmp, hza, hzb, h8⟩] at h
    rcases hop with hop | hop | ⟨hop, hf, ho⟩
    · simp [a_ref18_step, c_ref18_step, AV.rowok, hc, hln, buildA_nil, hop, hcmp, hza, hzb, h8i, zeroCol, zeroVal]
      refine refstep_noloop g b n B H s cv (decide (s.op ≠ 2)) hcv hb hn h8 (by simp [hop]) h _ _ _ rfl rfl (by simp) (by simp [hop, hcmp, hza, hzb, zeroCol, zeroVal]) (by simp) ?_
      intro s' B' q1 q2 q3
      simp [q1, q2, q3]
      exact hF _ _ ⟨rfl, B', rfl⟩
    · simp [a_ref18_step, c_ref18_step, AV.rowok, hc, hln, buildA_nil, hop, hcmp, hza, hzb, h8i, zeroCol, zeroVal]
      refine refstep_noloop g b n B H s cv (decide (s.op ≠ 2)) hcv hb hn h8 (by simp [hop]) h _ _ _ rfl rfl (by simp) (by simp [hop, hcmp, hza, hzb, zeroCol, zeroVal]) (by simp) ?_
      intro s' B' q1 q2 q3
      simp [q1, q2, q3]
      exact hF _ _ ⟨rfl, B', rfl⟩
    · simp [a_ref18_step, c_ref18_step, AV.rowok, hc, hln, buildA_nil, hop, hf, ho, hcmp, hza, hzb, h8i, zeroCol, zeroVal]
      refine refstep_noloop g b n B H s cv (decide (s.op ≠ 2)) hcv hb hn h8 (by simp [hop]) h _ _ _ rfl rfl (by simp) (by simp [hop, ho, hcmp, hza, hzb, zeroCol, zeroVal]) (by simp) ?_
      intro s' B' q1 q2 q3
      simp [q1, q2, q3]
      exact hF _ _ ⟨rfl, B', rfl⟩

set_option maxHeartbeats 4000000 in
theorem askstep_no (g b n B : Nat) (H : Heap) (first : Bool) (s : Step) (sv : AV) (hs : Is sv s) (hb : H[b]? = some (askBlk g n B)) (hn : n ≤ 64) (hB : B < 2 ^ 64) (h : okStep n B first s = none) :
    ∃ B', callW tbl (.func f_plan_asking_step [] []) [.ptr b g 0 0, sv, .bool first] H = some (.bool false, H.set b (askBlk g n B')) := by
  obtain ⟨cv, hcv, rfl⟩ := hs
  have hc := isl_cell hcv
  have hln := IsL.len hcv
  suffices hq : ∃ v H', (v = .bool false ∧ ∃ B', H' = H.set b (askBlk g n B')) ∧ callW tbl (.func f_plan_asking_step [] []) [.ptr b g 0 0, s.encW cv, .bool first] H = some (closeCall false H.length v H') by
    obtain ⟨v, H', ⟨rfl, B', rfl⟩, hc⟩ := hq
    rw [close_same (by simp)] at hc
    exact ⟨B', hc⟩
  refine callE (fun v H' => v = .bool false ∧ ∃ B', H' = H.set b (askBlk g n B')) a_plan_asking_step rfl rfl rfl (fun F hF => ?_)
  have hS : F (.bool false) H := hF _ _ ⟨rfl, B, (set_same hb).symm⟩
  unfold okStep at h
  by_cases h3 : s.op = 3
  · rw [if_pos h3] at h
    obtain ⟨hb0, hh⟩ := holds0_call s.cmp H
    simp only [Val.enc, zeroVal] at hh
    by_cases hop : opOk s.cmp
    rotate_left
    · simp [a_plan_asking_step, c_plan_asking_step, AV.rowok, hc, hln, buildA_nil, hh, h3, hop]
      exact hS
    by_cases hcs : s.cols.length = 0
    rotate_left
    · simp [a_plan_asking_step, c_plan_asking_step, AV.rowok, hc, hln, buildA_nil, hh, h3, hop, hcs]
      exact hS
    by_cases hp : s.pred = ⟨#[]⟩
    rotate_left
    · simp [a_plan_asking_step, c_plan_asking_step, AV.rowok, hc, hln, buildA_nil, hh, h3, hop, hcs, hp]
      exact hS
    by_cases ho : s.old = true
    · simp [a_plan_asking_step, c_plan_asking_step, AV.rowok, hc, hln, buildA_nil, hh, h3, hop, hcs, hp, ho]
      exact hS
    have ho : s.old = false := by simpa using ho
    have hcl : s.cols = [] := List.length_eq_zero_iff.1 hcs
    have hlo : 1 ≤ s.cmp := by unfold opOk at hop; omega
    have hhi : s.cmp ≤ 6 := by unfold opOk at hop; omega
    rw [if_pos ⟨hp, hcl, ho, hlo, hhi⟩] at h
    cases ha : okCol n B false false s.a with
    | none =>
      obtain ⟨B', t1⟩ := askcol_no g b n B H s.a false false hb hn hB ha
      simp only [Col.enc] at t1
      simp [a_plan_asking_step, c_plan_asking_step, AV.rowok, hc, hln, buildA_nil, hh, h3, hop, hcs, hp, ho, t1]
      exact hF _ _ ⟨rfl, B', rfl⟩
    | some B1 =>
      rw [ha] at h
      simp only at h
      have t1 := askcol_ok g b n B B1 H s.a false false hb hn hB ha
      have e1 := okCol_same ha
      subst e1
      rw [set_same hb] at t1
      obtain ⟨B', t2⟩ := askcol_no g b n B1 H s.b false false hb hn hB h
      simp only [Col.enc] at t1 t2
      simp [a_plan_asking_step, c_plan_asking_step, AV.rowok, hc, hln, buildA_nil, hh, h3, hop, hcs, hp, ho, t1, t2]
      exact hF _ _ ⟨rfl, B', rfl⟩
  · rw [if_neg h3] at h
    by_cases hop : s.op = 1 ∨ s.op = 2 ∨ (s.op = 4 ∧ first = true ∧ s.old = false)
    rotate_left
    · by_cases h1 : s.op = 1
      · exact absurd (.inl h1) hop
      by_cases h2 : s.op = 2
      · exact absurd (.inr (.inl h2)) hop
      by_cases h4 : s.op = 4
      · cases first with
        | false =>
          simp [a_plan_asking_step, c_plan_asking_step, AV.rowok, hc, hln, buildA_nil, h4]
          exact hS
        | true =>
          have ho : s.old = true := by
            cases ho : s.old with
            | true => rfl
            | false => exact absurd (.inr (.inr ⟨h4, rfl, ho⟩)) hop
          simp [a_plan_asking_step, c_plan_asking_step, AV.rowok, hc, hln, buildA_nil, h4, ho]
          exact hS
      · simp [a_plan_asking_step, c_plan_asking_step, AV.rowok, hc, hln, buildA_nil, h1, h2, h3, h4]
        exact hS
    by_cases h8 : s.cols.length ≤ 8
    rotate_left
    · have h8i : (8 : Int) < s.cols.length := by omega
      rcases hop with hop | hop | ⟨hop, hf, ho⟩
      · simp [a_plan_asking_step, c_plan_asking_step, AV.rowok, hc, hln, buildA_nil, hop, h8i]
        exact hS
      · simp [a_plan_asking_step, c_plan_asking_step, AV.rowok, hc, hln, buildA_nil, hop, h8i]
        exact hS
      · simp [a_plan_asking_step, c_plan_asking_step, AV.rowok, hc, hln, buildA_nil, hop, hf, ho, h8i]
        exact hS
    have h8i : ¬ (8 : Int) < s.cols.length := by omega
    by_cases hcmp : s.cmp = 0
    rotate_left
    · rcases hop with hop | hop | ⟨hop, hf, ho⟩
      · simp [a_plan_asking_step, c_plan_asking_step, AV.rowok, hc, hln, buildA_nil, hop, h8i, hcmp]
        exact hS
      · simp [a_plan_asking_step, c_plan_asking_step, AV.rowok, hc, hln, buildA_nil, hop, h8i, hcmp]
        exact hS
      · simp [a_plan_asking_step, c_plan_asking_step, AV.rowok, hc, hln, buildA_nil, hop, hf, ho, h8i, hcmp]
        exact hS
    by_cases hza : s.a = zeroCol
    rotate_left
    · have hz := zcol_no hza
      rcases hop with hop | hop | ⟨hop, hf, ho⟩
      · simp [a_plan_asking_step, c_plan_asking_step, AV.rowok, hc, hln, buildA_nil, hop, h8i, hcmp, hz]
        exact hS
      · simp [a_plan_asking_step, c_plan_asking_step, AV.rowok, hc, hln, buildA_nil, hop, h8i, hcmp, hz]
        exact hS
      · simp [a_plan_asking_step, c_plan_asking_step, AV.rowok, hc, hln, buildA_nil, hop, hf, ho, h8i, hcmp, hz]
        exact hS
    by_cases hzb : s.b = zeroCol
    rotate_left
    · have hz := zcol_no hzb
      rcases hop with hop | hop | ⟨hop, hf, ho⟩
      · simp [a_plan_asking_step, c_plan_asking_step, AV.rowok, hc, hln, buildA_nil, hop, h8i, hcmp, hza, zeroCol, zeroVal, hz]
        exact hS
      · simp [a_plan_asking_step, c_plan_asking_step, AV.rowok, hc, hln, buildA_nil, hop, h8i, hcmp, hza, zeroCol, zeroVal, hz]
        exact hS
      · simp [a_plan_asking_step, c_plan_asking_step, AV.rowok, hc, hln, buildA_nil, hop, hf, ho, h8i, hcmp, hza, zeroCol, zeroVal, hz]
        exact hS
    rw [if_pos ⟨hop, hcmp, hza, hzb, h8⟩] at h
    rcases hop with hop | hop | ⟨hop, hf, ho⟩
    · simp [a_plan_asking_step, c_plan_asking_step, AV.rowok, hc, hln, buildA_nil, hop, hcmp, hza, hzb, h8i, zeroCol, zeroVal]
      refine askstep_noloop g b n B H s cv (decide (s.op ≠ 2)) hcv hb hn hB h8 (by simp [hop]) h _ _ _ rfl rfl (by simp) (by simp [hop, hcmp, hza, hzb, zeroCol, zeroVal]) (by simp) (by simp) (by simp) ?_
      intro s' B' q1 q2 q3
      simp [q1, q2, q3]
      exact hF _ _ ⟨rfl, B', rfl⟩
    · simp [a_plan_asking_step, c_plan_asking_step, AV.rowok, hc, hln, buildA_nil, hop, hcmp, hza, hzb, h8i, zeroCol, zeroVal]
      refine askstep_noloop g b n B H s cv (decide (s.op ≠ 2)) hcv hb hn hB h8 (by simp [hop]) h _ _ _ rfl rfl (by simp) (by simp [hop, hcmp, hza, hzb, zeroCol, zeroVal]) (by simp) (by simp) (by simp) ?_
      intro s' B' q1 q2 q3
      simp [q1, q2, q3]
      exact hF _ _ ⟨rfl, B', rfl⟩
    · simp [a_plan_asking_step, c_plan_asking_step, AV.rowok, hc, hln, buildA_nil, hop, hf, ho, hcmp, hza, hzb, h8i, zeroCol, zeroVal]
      refine askstep_noloop g b n B H s cv (decide (s.op ≠ 2)) hcv hb hn hB h8 (by simp [hop]) h _ _ _ rfl rfl (by simp) (by simp [hop, ho, hcmp, hza, hzb, zeroCol, zeroVal]) (by simp) (by simp) (by simp) ?_
      intro s' B' q1 q2 q3
      simp [q1, q2, q3]
      exact hF _ _ ⟨rfl, B', rfl⟩
end Go.Abs.Plan

/- Plan: both checks, at any plan. -/
set_option linter.unusedSimpArgs false
set_option linter.unusedVariables false
namespace Go.Abs.Plan
open Enc (Is)

/-- What both checks say. -/
def Says (p : Plan) (w : Int) : Prop := (OkPlan p → w = 0) ∧ (¬ OkPlan p → w = 180)

theorem okSteps_at {n : Nat} {ss : List Step} {B : Nat} : ∀ j, j < ss.length → ∀ B1, okSteps n true B (ss.take j) = some B1 → ∀ c, ss[j]? = some c → okSteps n true B (ss.take (j + 1)) = okStep n B1 ((j : Int) == 0) c := by
  intro j hj B1 h1 c hc
  have htk : ss.take (j + 1) = ss.take j ++ [c] := by rw [List.take_add_one, hc]; rfl
  have hj0 : (true && (ss.take j).isEmpty) = ((j : Int) == 0) := by
    cases j with
    | zero => simp
    | succ j => cases hpp : ss with
      | nil => simp [hpp] at hj
      | cons a l => simp; omega
  rw [htk, okSteps_snoc, h1, Option.bind_some, hj0]
theorem okSteps_none {n : Nat} {ss : List Step} {B B' : Nat} (j : Nat) (h : okSteps n true B (ss.take j) = none) : okSteps n true B ss ≠ some B' := by
  intro e
  obtain ⟨B1, h1⟩ := okSteps_take e j
  rw [h] at h1; simp at h1
theorem okCols_none {n : Nat} {w sk : Bool} {cs : List Col} {B B' : Nat} (j : Nat) (h : okCols n w sk B (cs.take j) = none) : okCols n w sk B cs ≠ some B' := by
  intro e
  obtain ⟨B1, h1⟩ := okCols_take e j
  rw [h] at h1; simp at h1

set_option maxHeartbeats 2000000 in
theorem planCheck_all (v : AV) (p : Plan) (h : Is v p) (hpl : p.steps.length < 2 ^ 40) : ∃ w, runPure (callW tbl) loopW a_plan_Check [v] = some w ∧ ∃ z, w = i64 z ∧ Says p z := by
  obtain ⟨vv, vs, vh, h1, h2, h3, rfl⟩ := h
  have hc1 := isl_cell h1
  have hc2 := isl_cell h2
  have hc3 := isl_cell h3
  have l1 := IsL.len h1
  have l2 := IsL.len h2
  have l3 := IsL.len h3
  refine pureK a_plan_Check rfl (fun F hF => ?_)
  have no : ¬ OkPlan p → ∀ H, F (i64 180) H := fun hno H => hF _ _ _ (reify_plain rfl) ⟨180, rfl, fun h => absurd h hno, fun _ => rfl⟩
  have yes : OkPlan p → ∀ H, F (i64 0) H := fun hy H => hF _ _ _ (reify_plain rfl) ⟨0, rfl, fun _ => rfl, fun h => absurd hy h⟩
  by_cases hn : p.vars.length ≤ 64
  rotate_left
  · have q1 : (64 : Int) < p.vars.length := by omega
    simp [a_plan_Check, c_plan_Check, AV.rowok, hc1, hc2, hc3, l1, l2, l3, q1]
    exact no (fun h => hn h.vars) _
  have q1 : ¬ (64 : Int) < p.vars.length := by omega
  by_cases hph : p.head.length ≤ 8
  rotate_left
  · have q2 : (8 : Int) < p.head.length := by omega
    simp [a_plan_Check, c_plan_Check, AV.rowok, hc1, hc2, hc3, l1, l2, l3, q1, q2]
    exact no (fun h => hph h.head) _
  have q2 : ¬ (8 : Int) < p.head.length := by omega
  simp [a_plan_Check, c_plan_Check, AV.rowok, hc1, hc2, hc3, l1, l2, l3, q1, q2, buildA_nil, buildA_cons, splice]
  refine EXEC_range p.steps.length (fun j s => ∃ (B1 : Nat), okSteps p.vars.length true 0 (p.steps.take j) = some B1 ∧ s.heap = [askBlk 0 p.vars.length B1] ∧ s.dfr = [] ∧ s.tm.get 3 = .ptr 0 0 0 0 ∧ s.tm.get 1 = .fptr false [vv, vs, .str p.pred, vh] 0 ∧ s.tm.get 24 = vs ∧ s.tm.get 25 = i64 p.steps.length ∧ s.tm.get 26 = i64 j)
    0 (by omega) ⟨0, by simp [okSteps], rfl, rfl, by simp, by simp, by simp, by simp, by simp⟩ (by omega) (by simp; grind) ?_ ?_
  · rintro j s' Q hj ⟨B1, g1, g2, g3, g4, g5, g6, g7, g8⟩ hn' hx
    have hg : p.steps[j]? = some p.steps[j] := by simp [hj]
    obtain ⟨fl', sv, hsv, hidx⟩ := IsL.idx h2 hg
    simp only [show Enc.sz Step = 16 from rfl] at hidx
    have hat := okSteps_at j hj B1 g1 _ hg
    cases hB2 : okStep p.vars.length B1 ((j : Int) == 0) p.steps[j] with
    | some B2 =>
      rw [hB2] at hat
      have hst := askstep_ok 0 0 p.vars.length B1 B2 s'.heap ((j : Int) == 0) p.steps[j] sv hsv (by rw [g2]; rfl) hn (okSteps_lt hn (by decide) g1) hB2
      obtain ⟨cv, hcv, hsve⟩ := hsv
      have hcc := isl_cell hcv
      subst hsve
      simp [g4, g5, g6, g8, hidx, AV.rowok, hcc, hst]
      refine hn' _ _ (.inl rfl) (by simp [g8]) ⟨B2, hat, by simp [g2], g3, by simp [g4], by simp [g5], by simp [g6], by simp [g7], by simp⟩
    | none =>
      rw [hB2] at hat
      obtain ⟨B3, hst⟩ := askstep_no 0 0 p.vars.length B1 s'.heap ((j : Int) == 0) p.steps[j] sv hsv (by rw [g2]; rfl) hn (okSteps_lt hn (by decide) g1) hB2
      obtain ⟨cv, hcv, hsve⟩ := hsv
      have hcc := isl_cell hcv
      subst hsve
      simp [g4, g5, g6, g8, hidx, AV.rowok, hcc, hst]
      refine hx _ _ (by simp) (by simp) ?_
      simp [g3]
      exact no (fun h => by obtain ⟨B, B', o1, _⟩ := h.ok; exact okSteps_none _ hat o1) _
  · rintro s' ⟨B1, g1, g2, g3, g4, g5, g6, g7, g8⟩
    rw [List.take_of_length_le (by omega)] at g1
    have hB := okSteps_lt hn (by decide) g1
    simp [g5, l3]
    refine EXEC_range p.head.length (fun j s => okCols p.vars.length false false B1 (p.head.take j) = some B1 ∧ s.heap = [askBlk 0 p.vars.length B1] ∧ s.dfr = [] ∧ s.tm.get 3 = .ptr 0 0 0 0 ∧ s.tm.get 39 = vh ∧ s.tm.get 40 = i64 p.head.length ∧ s.tm.get 41 = i64 j)
      0 (by omega) ⟨by simp [okCols], g2, g3, by simp [g4], by simp, by simp, by simp⟩ (by omega) (by simp; grind) ?_ ?_
    · rintro j s2 Q hj ⟨f0, f1, f2, f3, f4, f5, f6⟩ hn' hx
      have hg : p.head[j]? = some p.head[j] := by simp [hj]
      obtain ⟨fl', sv, rfl, hidx⟩ := IsL.idx h3 hg
      simp only [show Enc.sz Col = 5 from rfl] at hidx
      have hat := okCols_at j hj B1 f0 _ hg
      cases hB2 : okCol p.vars.length B1 false false p.head[j] with
      | some B2 =>
        have e4 := okCol_same hB2
        subst e4
        rw [hB2] at hat
        have hst := askcol_ok 0 0 p.vars.length B2 B2 s2.heap p.head[j] false false (by rw [f1]; rfl) hn hB hB2
        simp only [Col.enc] at hst
        simp [f3, f4, f6, hidx, AV.rowok, hst]
        refine hn' _ _ (.inl rfl) (by simp [f6]) ⟨hat, by simp [f1], f2, by simp [f3], by simp [f4], by simp [f5], by simp⟩
      | none =>
        rw [hB2] at hat
        obtain ⟨B3, hst⟩ := askcol_no 0 0 p.vars.length B1 s2.heap p.head[j] false false (by rw [f1]; rfl) hn hB hB2
        simp only [Col.enc] at hst
        simp [f3, f4, f6, hidx, AV.rowok, hst]
        refine hx _ _ (by simp) (by simp) ?_
        simp [f2]
        refine no (fun h => ?_) _
        obtain ⟨B, B', o1, o2⟩ := h.ok
        rw [g1] at o1
        simp only [Option.some.injEq] at o1
        subst o1
        exact okCols_none _ hat o2
    · rintro s2 ⟨f0, f1, f2, f3, f4, f5, f6⟩
      rw [List.take_of_length_le (by omega)] at f0
      simp [f1, f2]
      exact yes ⟨hn, hph, hpl, B1, B1, g1, f0⟩ _

set_option maxHeartbeats 2000000 in
theorem refCheck_all (v : AV) (p : Plan) (h : Is v p) (hpl : p.steps.length < 2 ^ 40) : ∃ w, runPure (callW tbl) loopW a_ref18_Check [v] = some w ∧ ∃ z, w = i64 z ∧ Says p z := by
  obtain ⟨vv, vs, vh, h1, h2, h3, rfl⟩ := h
  have hc1 := isl_cell h1
  have hc2 := isl_cell h2
  have hc3 := isl_cell h3
  have l1 := IsL.len h1
  have l2 := IsL.len h2
  have l3 := IsL.len h3
  refine pureK a_ref18_Check rfl (fun F hF => ?_)
  have no : ¬ OkPlan p → ∀ H, F (i64 180) H := fun hno H => hF _ _ _ (reify_plain rfl) ⟨180, rfl, fun h => absurd h hno, fun _ => rfl⟩
  have yes : OkPlan p → ∀ H, F (i64 0) H := fun hy H => hF _ _ _ (reify_plain rfl) ⟨0, rfl, fun _ => rfl, fun h => absurd hy h⟩
  by_cases hn : p.vars.length ≤ 64
  rotate_left
  · have q1 : (64 : Int) < p.vars.length := by omega
    simp [a_ref18_Check, c_ref18_Check, AV.rowok, hc1, hc2, hc3, l1, l2, l3, q1]
    exact no (fun h => hn h.vars) _
  have q1 : ¬ (64 : Int) < p.vars.length := by omega
  by_cases hph : p.head.length ≤ 8
  rotate_left
  · have q2 : (8 : Int) < p.head.length := by omega
    simp [a_ref18_Check, c_ref18_Check, AV.rowok, hc1, hc2, hc3, l1, l2, l3, q1, q2]
    exact no (fun h => hph h.head) _
  have q2 : ¬ (8 : Int) < p.head.length := by omega
  have q3 : p.vars.length ≤ 140737488355328 := by omega
  simp [a_ref18_Check, c_ref18_Check, AV.rowok, hc1, hc2, hc3, l1, l2, l3, q1, q2, q3, buildA_nil, buildA_cons, splice]
  refine EXEC_loop_inv (fun k s => ∃ (j B1 : Nat), j + k = p.steps.length ∧ okSteps p.vars.length true 0 (p.steps.take j) = some B1 ∧ s.heap = [toldBlk 0 p.vars.length B1] ∧ s.dfr = [] ∧ s.tm.get 3 = .sl 0 0 0 p.vars.length ∧ s.tm.get 1 = .fptr false [vv, vs, .str p.pred, vh] 0 ∧ s.tm.get 4 = i64 j) p.steps.length
    ⟨0, 0, by simp, by simp [okSteps], by simp [toldBlk, bitsOf_zero], rfl, by simp, by simp, by simp⟩ ?_
  rintro k s' Q ⟨j, B1, g0, g1, g2, g3, g4, g5, g6⟩ hn' hx
  by_cases hj : j < p.steps.length
  · have hj' : (j : Int) < p.steps.length := by omega
    have hg : p.steps[j]? = some p.steps[j] := by simp [hj]
    obtain ⟨fl', sv, hsv, hidx⟩ := IsL.idx h2 hg
    simp only [show Enc.sz Step = 16 from rfl] at hidx
    have hat := okSteps_at j hj B1 g1 _ hg
    have hwr : IntKind.i64.wrap ((j : Int) + 1) = ((j + 1 : Nat) : Int) := by rw [wrap_i64 (by omega) (by omega)]; push_cast; rfl
    cases hB2 : okStep p.vars.length B1 ((j : Int) == 0) p.steps[j] with
    | some B2 =>
      rw [hB2] at hat
      have hst := refstep_ok 0 0 p.vars.length B1 B2 s'.heap ((j : Int) == 0) p.steps[j] sv hsv (by rw [g2]; rfl) hn hB2
      obtain ⟨cv, hcv, hsve⟩ := hsv
      have hcc := isl_cell hcv
      subst hsve
      simp [c_ref18_Check_l0, g4, g5, g6, hc2, l2, hj', hidx, AV.rowok, hcc, hst]
      rw [hwr]
      refine hn' _ (k - 1) (by omega) ⟨j + 1, B2, by omega, hat, by simp [g2], g3, by simp [g4], by simp [g5], by simp⟩
    | none =>
      rw [hB2] at hat
      obtain ⟨B3, hst⟩ := refstep_no 0 0 p.vars.length B1 s'.heap ((j : Int) == 0) p.steps[j] sv hsv (by rw [g2]; rfl) hn hB2
      obtain ⟨cv, hcv, hsve⟩ := hsv
      have hcc := isl_cell hcv
      subst hsve
      simp [c_ref18_Check_l0, g4, g5, g6, hc2, l2, hj', hidx, AV.rowok, hcc, hst]
      refine hx _ _ (by simp) ?_
      simp [g3]
      exact no (fun h => by obtain ⟨B, B', o1, _⟩ := h.ok; exact okSteps_none _ hat o1) _
  · have hj' : ¬ (j : Int) < p.steps.length := by omega
    simp [c_ref18_Check_l0, g5, g6, hc2, l2, hj', AV.rowok]
    refine hx _ _ (by simp) ?_
    rw [List.take_of_length_le (by omega)] at g1
    simp
    refine EXEC_loop_inv (fun k s => ∃ (j : Nat), j + k = p.head.length ∧ okCols p.vars.length false false B1 (p.head.take j) = some B1 ∧ s.heap = [toldBlk 0 p.vars.length B1] ∧ s.dfr = [] ∧ s.tm.get 3 = .sl 0 0 0 p.vars.length ∧ s.tm.get 1 = .fptr false [vv, vs, .str p.pred, vh] 0 ∧ s.tm.get 5 = i64 j) p.head.length
      ⟨0, by simp, by simp [okCols], g2, g3, by simp [g4], by simp [g5], by simp⟩ ?_
    rintro k s2 Q ⟨j, f0, f00, f1, f2, f3, f4, f5⟩ hn' hx
    by_cases hj : j < p.head.length
    · have hj' : (j : Int) < p.head.length := by omega
      have hg : p.head[j]? = some p.head[j] := by simp [hj]
      obtain ⟨fl', sv, rfl, hidx⟩ := IsL.idx h3 hg
      simp only [show Enc.sz Col = 5 from rfl] at hidx
      have hat := okCols_at j hj B1 f00 _ hg
      have hwr : IntKind.i64.wrap ((j : Int) + 1) = ((j + 1 : Nat) : Int) := by rw [wrap_i64 (by omega) (by omega)]; push_cast; rfl
      cases hB2 : okCol p.vars.length B1 false false p.head[j] with
      | some B2 =>
        have e4 := okCol_same hB2
        subst e4
        rw [hB2] at hat
        have hst := told_ok 0 0 p.vars.length B2 B2 s2.heap p.head[j] (by rw [f1]; rfl) hn hB2
        simp only [Col.enc] at hst
        simp [c_ref18_Check_l1, f3, f4, f5, hc3, l3, hj', hidx, AV.rowok, hst]
        rw [hwr]
        refine hn' _ (k - 1) (by omega) ⟨j + 1, by omega, hat, f1, f2, by simp [f3], by simp [f4], by simp⟩
      | none =>
        rw [hB2] at hat
        have hst := told_no 0 0 p.vars.length B1 s2.heap p.head[j] (by rw [f1]; rfl) hn hB2
        simp only [Col.enc] at hst
        simp [c_ref18_Check_l1, f3, f4, f5, hc3, l3, hj', hidx, AV.rowok, hst]
        refine hx _ _ (by simp) ?_
        simp [f2]
        refine no (fun h => ?_) _
        obtain ⟨B, B', o1, o2⟩ := h.ok
        rw [g1] at o1
        simp only [Option.some.injEq] at o1
        subst o1
        exact okCols_none _ hat o2
    · have hj' : ¬ (j : Int) < p.head.length := by omega
      rw [List.take_of_length_le (by omega)] at f00
      simp [c_ref18_Check_l1, f4, f5, hc3, l3, hj', AV.rowok]
      refine hx _ _ (by simp) ?_
      simp [f1, f2]
      exact yes ⟨hn, hph, hpl, B1, B1, g1, f00⟩ _

theorem refCheck_callA (v : AV) (p : Plan) (h : Is v p) (hpl : p.steps.length < 2 ^ 40) (H : Heap) : ∃ w, callW tbl (.func f_ref18_Check [] []) [v] H = some (w, H) ∧ ∃ z, w = i64 z ∧ Says p z :=
  callP1 (f := f_ref18_Check) (af := a_ref18_Check) (S := fun w => ∃ z, w = i64 z ∧ Says p z) rfl rfl p (by rintro w ⟨z, rfl, h⟩; exact ⟨z, rfl, h⟩) (fun v h => refCheck_all v p h hpl) v h H
theorem planCheck_callA (v : AV) (p : Plan) (h : Is v p) (hpl : p.steps.length < 2 ^ 40) (H : Heap) : ∃ w, callW tbl (.func f_plan_Check [] []) [v] H = some (w, H) ∧ ∃ z, w = i64 z ∧ Says p z :=
  callP1 (f := f_plan_Check) (af := a_plan_Check) (S := fun w => ∃ z, w = i64 z ∧ Says p z) rfl rfl p (by rintro w ⟨z, rfl, h⟩; exact ⟨z, rfl, h⟩) (fun v h => planCheck_all v p h hpl) v h H
end Go.Abs.Plan

/- Plan: which rows of columns, which rows of names are alike. PRINTED by a small program. -/
set_option linter.unusedSimpArgs false
set_option linter.unusedVariables false
namespace Go.Abs.Plan
open Enc (Is)

theorem col_ne {a b : Col} (h : a ≠ b) : (a.use == b.use && (a.var == b.var && (a.v.kind == b.v.kind && (a.v.n == b.v.n && decide (a.v.s = b.v.s))))) = false := by
  cases hh : (a.use == b.use && (a.var == b.var && (a.v.kind == b.v.kind && (a.v.n == b.v.n && decide (a.v.s = b.v.s))))) with
  | false => rfl
  | true =>
    simp only [Bool.and_eq_true, beq_iff_eq, decide_eq_true_eq] at hh
    obtain ⟨h1, h2, h3, h4, h5⟩ := hh
    exact absurd (by obtain ⟨p1, p2, ⟨p3, p4, p5⟩⟩ := a; obtain ⟨q1, q2, ⟨q3, q4, q5⟩⟩ := b; simp only at h1 h2 h3 h4 h5; subst h1; subst h2; subst h3; subst h4; subst h5; rfl) h

theorem eqCols_run (v w : AV) (xs ys : List Col) (hv : Is v xs) (hw : Is w ys) (hl : xs.length < 2 ^ 63) : ∃ r, runPure (callW tbl) loopW a_slices_Equal_Col_Col [v, w] = some r ∧ ∃ t : Bool, r = .bool t ∧ (t = true ↔ xs = ys) := by
  have l1 := IsL.len hv
  have l2 := IsL.len hw
  have c1 := isl_cell hv
  have c2 := isl_cell hw
  refine pureK a_slices_Equal_Col_Col rfl (fun F hF => ?_)
  have yes : xs = ys → ∀ H, F (.bool true) H := fun h H => hF _ _ _ (reify_plain rfl) ⟨true, rfl, by simp [h]⟩
  have no : xs ≠ ys → ∀ H, F (.bool false) H := fun h H => hF _ _ _ (reify_plain rfl) ⟨false, rfl, by simp [h]⟩
  by_cases hlen : xs.length = ys.length
  rotate_left
  · have hli : ¬ (xs.length : Int) = (ys.length : Int) := by omega
    simp [a_slices_Equal_Col_Col, c_slices_Equal_Col_Col, l1, l2, hli, hlen]
    exact no (fun e => hlen (by rw [e])) _
  have hli : (xs.length : Int) = (ys.length : Int) := by omega
  rw [← hlen] at l2
  simp [a_slices_Equal_Col_Col, c_slices_Equal_Col_Col, l1, l2]
  refine EXEC_loop_inv (fun k s => ∃ (j : Nat), j + k = xs.length ∧ xs.take j = ys.take j ∧ s.heap = [] ∧ s.dfr = [] ∧ s.tm.get 0 = v ∧ s.tm.get 1 = w ∧ s.tm.get 13 = i64 j ∧ s.tm.get 12 = i64 xs.length) xs.length ⟨0, by simp, by simp, rfl, rfl, by simp, by simp, by simp, by simp⟩ ?_
  rintro k s Q ⟨j, h0, ht, e1, e2, f0, f1, fj, fn⟩ hgo hx
  by_cases hj : j < xs.length
  · have hji : (j : Int) < (xs.length : Int) := by omega
    have hj2 : j < ys.length := by omega
    have g1 : xs[j]? = some xs[j] := by simp [hj]
    have g2 : ys[j]? = some ys[j] := by simp [hj2]
    obtain ⟨_, r1, rfl, i1⟩ := IsL.idx hv g1
    obtain ⟨_, r2, rfl, i2⟩ := IsL.idx hw g2
    simp only [show Enc.sz Col = 5 from rfl] at i1 i2
    have hwr : IntKind.i64.wrap ((j : Int) + 1) = ((j + 1 : Nat) : Int) := by rw [wrap_i64 (by omega) (by omega)]; push_cast; rfl
    by_cases hne : xs[j] = ys[j]
    · have ht' : xs.take (j + 1) = ys.take (j + 1) := by rw [List.take_add_one, List.take_add_one, g1, g2, ht, hne]
      simp [c_slices_Equal_Col_Col_l0, e1, f0, f1, fj, fn, l1, l2, hji, i1, i2, hne, AV.rowok]
      rw [hwr]
      exact hgo _ (k - 1) (by omega) ⟨j + 1, by omega, ht', rfl, by simp [e2], by simp [f0], by simp [f1], by simp, by simp [fn]⟩
    · have hcn := col_ne hne
      simp [c_slices_Equal_Col_Col_l0, e1, f0, f1, fj, fn, l1, l2, hji, i1, i2, hcn, AV.rowok]
      refine hx _ _ (by simp) ?_
      simp [e2]
      exact no (fun e => by subst e; exact hne rfl) _
  · have hji : ¬ (j : Int) < (xs.length : Int) := by omega
    rw [List.take_of_length_le (by omega), List.take_of_length_le (by omega)] at ht
    simp [c_slices_Equal_Col_Col_l0, e1, f0, f1, fj, fn, l1, l2, hji]
    refine hx _ _ (by simp) ?_
    simp [e2]
    exact yes ht _
theorem eqCols_call (v w : AV) (xs ys : List Col) (hv : Is v xs) (hw : Is w ys) (hl : xs.length < 2 ^ 63) (H : Heap) : ∃ r, callW tbl (.func f_slices_Equal_Col_Col [] []) [v, w] H = some (r, H) ∧ ∃ t : Bool, r = .bool t ∧ (t = true ↔ xs = ys) :=
  callP_of (tbl := tbl) (f := f_slices_Equal_Col_Col) (af := a_slices_Equal_Col_Col) rfl rfl (R := fun a => ∃ v w, a = [v, w] ∧ Is v xs ∧ Is w ys) (S := fun r => ∃ t : Bool, r = .bool t ∧ (t = true ↔ xs = ys))
    (by rintro a ⟨v, w, rfl, h, h'⟩; simp [Enc.plain h, Enc.plain h']) (by rintro a ⟨v, w, rfl, h, h'⟩; exact ⟨v.lend, w.lend, rfl, Enc.lend h, Enc.lend h'⟩) (by rintro r ⟨t, rfl, h⟩; exact ⟨t, rfl, h⟩)
    (by rintro a ⟨v, w, rfl, h, h'⟩; exact eqCols_run v w xs ys h h' hl) [v, w] H ⟨v, w, rfl, hv, hw⟩

theorem eqNames_run (v w : AV) (xs ys : List ByteArray) (hv : Is v xs) (hw : Is w ys) (hl : xs.length < 2 ^ 63) : ∃ r, runPure (callW tbl) loopW a_slices_Equal_string_string [v, w] = some r ∧ ∃ t : Bool, r = .bool t ∧ (t = true ↔ xs = ys) := by
  have l1 := IsL.len hv
  have l2 := IsL.len hw
  have c1 := isl_cell hv
  have c2 := isl_cell hw
  refine pureK a_slices_Equal_string_string rfl (fun F hF => ?_)
  have yes : xs = ys → ∀ H, F (.bool true) H := fun h H => hF _ _ _ (reify_plain rfl) ⟨true, rfl, by simp [h]⟩
  have no : xs ≠ ys → ∀ H, F (.bool false) H := fun h H => hF _ _ _ (reify_plain rfl) ⟨false, rfl, by simp [h]⟩
  by_cases hlen : xs.length = ys.length
  rotate_left
  · have hli : ¬ (xs.length : Int) = (ys.length : Int) := by omega
    simp [a_slices_Equal_string_string, c_slices_Equal_string_string, l1, l2, hli, hlen]
    exact no (fun e => hlen (by rw [e])) _
  have hli : (xs.length : Int) = (ys.length : Int) := by omega
  rw [← hlen] at l2
  simp [a_slices_Equal_string_string, c_slices_Equal_string_string, l1, l2]
  refine EXEC_loop_inv (fun k s => ∃ (j : Nat), j + k = xs.length ∧ xs.take j = ys.take j ∧ s.heap = [] ∧ s.dfr = [] ∧ s.tm.get 0 = v ∧ s.tm.get 1 = w ∧ s.tm.get 13 = i64 j ∧ s.tm.get 12 = i64 xs.length) xs.length ⟨0, by simp, by simp, rfl, rfl, by simp, by simp, by simp, by simp⟩ ?_
  rintro k s Q ⟨j, h0, ht, e1, e2, f0, f1, fj, fn⟩ hgo hx
  by_cases hj : j < xs.length
  · have hji : (j : Int) < (xs.length : Int) := by omega
    have hj2 : j < ys.length := by omega
    have g1 : xs[j]? = some xs[j] := by simp [hj]
    have g2 : ys[j]? = some ys[j] := by simp [hj2]
    obtain ⟨_, r1, rfl, i1⟩ := IsL.idx hv g1
    obtain ⟨_, r2, rfl, i2⟩ := IsL.idx hw g2
    simp only [show Enc.sz ByteArray = 1 from rfl] at i1 i2
    have hwr : IntKind.i64.wrap ((j : Int) + 1) = ((j + 1 : Nat) : Int) := by rw [wrap_i64 (by omega) (by omega)]; push_cast; rfl
    by_cases hne : xs[j] = ys[j]
    · have ht' : xs.take (j + 1) = ys.take (j + 1) := by rw [List.take_add_one, List.take_add_one, g1, g2, ht, hne]
      simp [c_slices_Equal_string_string_l0, e1, f0, f1, fj, fn, l1, l2, hji, i1, i2, hne, AV.rowok]
      rw [hwr]
      exact hgo _ (k - 1) (by omega) ⟨j + 1, by omega, ht', rfl, by simp [e2], by simp [f0], by simp [f1], by simp, by simp [fn]⟩
    · have hcn : ¬ (xs[j] : ByteArray) = ys[j] := hne
      simp [c_slices_Equal_string_string_l0, e1, f0, f1, fj, fn, l1, l2, hji, i1, i2, hcn, AV.rowok]
      refine hx _ _ (by simp) ?_
      simp [e2]
      exact no (fun e => by subst e; exact hne rfl) _
  · have hji : ¬ (j : Int) < (xs.length : Int) := by omega
    rw [List.take_of_length_le (by omega), List.take_of_length_le (by omega)] at ht
    simp [c_slices_Equal_string_string_l0, e1, f0, f1, fj, fn, l1, l2, hji]
    refine hx _ _ (by simp) ?_
    simp [e2]
    exact yes ht _
theorem eqNames_call (v w : AV) (xs ys : List ByteArray) (hv : Is v xs) (hw : Is w ys) (hl : xs.length < 2 ^ 63) (H : Heap) : ∃ r, callW tbl (.func f_slices_Equal_string_string [] []) [v, w] H = some (r, H) ∧ ∃ t : Bool, r = .bool t ∧ (t = true ↔ xs = ys) :=
  callP_of (tbl := tbl) (f := f_slices_Equal_string_string) (af := a_slices_Equal_string_string) rfl rfl (R := fun a => ∃ v w, a = [v, w] ∧ Is v xs ∧ Is w ys) (S := fun r => ∃ t : Bool, r = .bool t ∧ (t = true ↔ xs = ys))
    (by rintro a ⟨v, w, rfl, h, h'⟩; simp [Enc.plain h, Enc.plain h']) (by rintro a ⟨v, w, rfl, h, h'⟩; exact ⟨v.lend, w.lend, rfl, Enc.lend h, Enc.lend h'⟩) (by rintro r ⟨t, rfl, h⟩; exact ⟨t, rfl, h⟩)
    (by rintro a ⟨v, w, rfl, h, h'⟩; exact eqNames_run v w xs ys h h' hl) [v, w] H ⟨v, w, rfl, hv, hw⟩

theorem sameCols_run (v w : AV) (xs ys : List Col) (hv : Is v xs) (hw : Is w ys) (hl : xs.length < 2 ^ 63) : ∃ r, runPure (callW tbl) loopW a_ref18_SameCols [v, w] = some r ∧ ∃ t : Bool, r = .bool t ∧ (t = true ↔ xs = ys) := by
  have l1 := IsL.len hv
  have l2 := IsL.len hw
  have c1 := isl_cell hv
  have c2 := isl_cell hw
  refine pureK a_ref18_SameCols rfl (fun F hF => ?_)
  have yes : xs = ys → ∀ H, F (.bool true) H := fun h H => hF _ _ _ (reify_plain rfl) ⟨true, rfl, by simp [h]⟩
  have no : xs ≠ ys → ∀ H, F (.bool false) H := fun h H => hF _ _ _ (reify_plain rfl) ⟨false, rfl, by simp [h]⟩
  by_cases hlen : xs.length = ys.length
  rotate_left
  · have hli : ¬ (xs.length : Int) = (ys.length : Int) := by omega
    simp [a_ref18_SameCols, c_ref18_SameCols, l1, l2, hli, hlen]
    exact no (fun e => hlen (by rw [e])) _
  have hli : (xs.length : Int) = (ys.length : Int) := by omega
  rw [← hlen] at l2
  simp [a_ref18_SameCols, c_ref18_SameCols, l1, l2]
  refine EXEC_loop_inv (fun k s => ∃ (j : Nat), j + k = xs.length ∧ xs.take j = ys.take j ∧ s.heap = [] ∧ s.dfr = [] ∧ s.tm.get 0 = v ∧ s.tm.get 1 = w ∧ s.tm.get 5 = i64 j) xs.length ⟨0, by simp, by simp, rfl, rfl, by simp, by simp, by simp⟩ ?_
  rintro k s Q ⟨j, h0, ht, e1, e2, f0, f1, fj⟩ hgo hx
  by_cases hj : j < xs.length
  · have hji : (j : Int) < (xs.length : Int) := by omega
    have hj2 : j < ys.length := by omega
    have g1 : xs[j]? = some xs[j] := by simp [hj]
    have g2 : ys[j]? = some ys[j] := by simp [hj2]
    obtain ⟨_, r1, rfl, i1⟩ := IsL.idx hv g1
    obtain ⟨_, r2, rfl, i2⟩ := IsL.idx hw g2
    simp only [show Enc.sz Col = 5 from rfl] at i1 i2
    have hwr : IntKind.i64.wrap ((j : Int) + 1) = ((j + 1 : Nat) : Int) := by rw [wrap_i64 (by omega) (by omega)]; push_cast; rfl
    by_cases hne : xs[j] = ys[j]
    · have ht' : xs.take (j + 1) = ys.take (j + 1) := by rw [List.take_add_one, List.take_add_one, g1, g2, ht, hne]
      simp [c_ref18_SameCols_l0, e1, f0, f1, fj, l1, l2, hji, i1, i2, hne, AV.rowok]
      rw [hwr]
      exact hgo _ (k - 1) (by omega) ⟨j + 1, by omega, ht', rfl, by simp [e2], by simp [f0], by simp [f1], by simp⟩
    · have hcn := col_ne hne
      simp [c_ref18_SameCols_l0, e1, f0, f1, fj, l1, l2, hji, i1, i2, hcn, AV.rowok]
      refine hx _ _ (by simp) ?_
      simp [e2]
      exact no (fun e => by subst e; exact hne rfl) _
  · have hji : ¬ (j : Int) < (xs.length : Int) := by omega
    rw [List.take_of_length_le (by omega), List.take_of_length_le (by omega)] at ht
    simp [c_ref18_SameCols_l0, e1, f0, f1, fj, l1, l2, hji]
    refine hx _ _ (by simp) ?_
    simp [e2]
    exact yes ht _
theorem sameCols_call (v w : AV) (xs ys : List Col) (hv : Is v xs) (hw : Is w ys) (hl : xs.length < 2 ^ 63) (H : Heap) : ∃ r, callW tbl (.func f_ref18_SameCols [] []) [v, w] H = some (r, H) ∧ ∃ t : Bool, r = .bool t ∧ (t = true ↔ xs = ys) :=
  callP_of (tbl := tbl) (f := f_ref18_SameCols) (af := a_ref18_SameCols) rfl rfl (R := fun a => ∃ v w, a = [v, w] ∧ Is v xs ∧ Is w ys) (S := fun r => ∃ t : Bool, r = .bool t ∧ (t = true ↔ xs = ys))
    (by rintro a ⟨v, w, rfl, h, h'⟩; simp [Enc.plain h, Enc.plain h']) (by rintro a ⟨v, w, rfl, h, h'⟩; exact ⟨v.lend, w.lend, rfl, Enc.lend h, Enc.lend h'⟩) (by rintro r ⟨t, rfl, h⟩; exact ⟨t, rfl, h⟩)
    (by rintro a ⟨v, w, rfl, h, h'⟩; exact sameCols_run v w xs ys h h' hl) [v, w] H ⟨v, w, rfl, hv, hw⟩
end Go.Abs.Plan

/- Plan: which plans are alike. -/
set_option linter.unusedSimpArgs false
set_option linter.unusedVariables false
namespace Go.Abs.Plan
open Enc (Is)

theorem col_eq {a b : Col} (h : a = b) : (a.use == b.use && (a.var == b.var && (a.v.kind == b.v.kind && (a.v.n == b.v.n && decide (a.v.s = b.v.s))))) = true := by subst h; simp

set_option maxHeartbeats 2000000 in
theorem same1_run (v w : AV) (x y : Step) (hv : Is v x) (hw : Is w y) (hl : x.cols.length < 2 ^ 63) : ∃ r, runPure (callW tbl) loopW a_plan_Same_1 [v, w] = some r ∧ ∃ t : Bool, r = .bool t ∧ (t = true ↔ x = y) := by
  obtain ⟨cv, hcv, rfl⟩ := hv
  obtain ⟨cw, hcw, rfl⟩ := hw
  have c1 := isl_cell hcv
  have c2 := isl_cell hcw
  obtain ⟨_, hcall, t, rfl, ht⟩ := eqCols_call cv cw x.cols y.cols hcv hcw hl []
  refine pureK a_plan_Same_1 rfl (fun F hF => ?_)
  have yes : x = y → ∀ H, F (.bool true) H := fun h H => hF _ _ _ (reify_plain rfl) ⟨true, rfl, by simp [h]⟩
  have no : x ≠ y → ∀ H, F (.bool false) H := fun h H => hF _ _ _ (reify_plain rfl) ⟨false, rfl, by simp [h]⟩
  by_cases h1 : x.op = y.op
  rotate_left
  · simp [a_plan_Same_1, c_plan_Same_1, AV.rowok, c1, c2, h1]
    exact no (fun e => h1 (by rw [e])) _
  by_cases h2 : x.lit = y.lit
  rotate_left
  · simp [a_plan_Same_1, c_plan_Same_1, AV.rowok, c1, c2, h1, h2]
    exact no (fun e => h2 (by rw [e])) _
  by_cases h3 : x.pred = y.pred
  rotate_left
  · simp [a_plan_Same_1, c_plan_Same_1, AV.rowok, c1, c2, h1, h2, h3]
    exact no (fun e => h3 (by rw [e])) _
  by_cases h4 : x.old = y.old
  rotate_left
  · have h4b : (x.old == y.old) = false := by simpa using h4
    simp [a_plan_Same_1, c_plan_Same_1, AV.rowok, c1, c2, h1, h2, h3, h4b]
    exact no (fun e => h4 (by rw [e])) _
  cases t with
  | false =>
    simp [a_plan_Same_1, c_plan_Same_1, AV.rowok, c1, c2, h1, h2, h3, h4, hcall]
    exact no (fun e => by have := ht.2 (by rw [e]); cases this) _
  | true =>
    have h5 := ht.1 rfl
    by_cases h6 : x.cmp = y.cmp
    rotate_left
    · simp [a_plan_Same_1, c_plan_Same_1, AV.rowok, c1, c2, h1, h2, h3, h4, hcall, h6]
      exact no (fun e => h6 (by rw [e])) _
    by_cases h7 : x.a = y.a
    rotate_left
    · have h7b := col_ne h7
      simp [a_plan_Same_1, c_plan_Same_1, AV.rowok, c1, c2, h1, h2, h3, h4, hcall, h6, h7b]
      exact no (fun e => h7 (by rw [e])) _
    have h7b := col_eq h7
    by_cases h8 : x.b = y.b
    rotate_left
    · have h8b := col_ne h8
      simp [a_plan_Same_1, c_plan_Same_1, AV.rowok, c1, c2, h1, h2, h3, h4, hcall, h6, h7, h8b]
      exact no (fun e => h8 (by rw [e])) _
    simp [a_plan_Same_1, c_plan_Same_1, AV.rowok, c1, c2, h1, h2, h3, h4, hcall, h6, h7, h8]
    refine yes ?_ _
    obtain ⟨x1, x2, x3, x4, x5, x6, x7, x8⟩ := x
    obtain ⟨y1, y2, y3, y4, y5, y6, y7, y8⟩ := y
    simp only at h1 h2 h3 h4 h5 h6 h7 h8
    subst h1; subst h2; subst h3; subst h4; subst h5; subst h6; subst h7; subst h8; rfl

theorem same1_call (v w : AV) (x y : Step) (hv : Is v x) (hw : Is w y) (hl : x.cols.length < 2 ^ 63) (H : Heap) : ∃ r, callW tbl (.func f_plan_Same_1 [] []) [v, w] H = some (r, H) ∧ ∃ t : Bool, r = .bool t ∧ (t = true ↔ x = y) :=
  callP_of (tbl := tbl) (f := f_plan_Same_1) (af := a_plan_Same_1) rfl rfl (R := fun a => ∃ v w, a = [v, w] ∧ Is v x ∧ Is w y) (S := fun r => ∃ t : Bool, r = .bool t ∧ (t = true ↔ x = y))
    (by rintro a ⟨v, w, rfl, h, h'⟩; simp [Enc.plain h, Enc.plain h']) (by rintro a ⟨v, w, rfl, h, h'⟩; exact ⟨v.lend, w.lend, rfl, Enc.lend h, Enc.lend h'⟩) (by rintro r ⟨t, rfl, h⟩; exact ⟨t, rfl, h⟩)
    (by rintro a ⟨v, w, rfl, h, h'⟩; exact same1_run v w x y h h' hl) [v, w] H ⟨v, w, rfl, hv, hw⟩

theorem eqSteps_call (v w : AV) (xs ys : List Step) (hv : Is v xs) (hw : Is w ys) (hl : xs.length < 2 ^ 62) (hcols : ∀ x ∈ xs, x.cols.length < 2 ^ 63) (H : Heap) :
    ∃ t : Bool, callW tbl (.func f_slices_EqualFunc_PlanStep_PlanStep_PlanStep_PlanStep [] []) [v, w, .func f_plan_Same_1 [] []] H = some (.bool t, H) ∧ (t = true ↔ xs = ys) := by
  have l1 := IsL.len hv
  have l2 := IsL.len hw
  have c1 := isl_cell hv
  have c2 := isl_cell hw
  suffices hq : ∃ r H', (H' = H ∧ ∃ t : Bool, r = .bool t ∧ (t = true ↔ xs = ys)) ∧ callW tbl (.func f_slices_EqualFunc_PlanStep_PlanStep_PlanStep_PlanStep [] []) [v, w, .func f_plan_Same_1 [] []] H = some (closeCall false H.length r H') by
    obtain ⟨r, H', ⟨rfl, t, rfl, ht⟩, hc⟩ := hq
    rw [close_same rfl] at hc
    exact ⟨t, hc, ht⟩
  refine callE (fun r H' => H' = H ∧ ∃ t : Bool, r = .bool t ∧ (t = true ↔ xs = ys)) a_slices_EqualFunc_PlanStep_PlanStep_PlanStep_PlanStep rfl rfl rfl (fun F hF => ?_)
  have yes : xs = ys → F (.bool true) H := fun h => hF _ _ ⟨rfl, true, rfl, by simp [h]⟩
  have no : xs ≠ ys → F (.bool false) H := fun h => hF _ _ ⟨rfl, false, rfl, by simp [h]⟩
  by_cases hlen : xs.length = ys.length
  rotate_left
  · have hli : ¬ (xs.length : Int) = (ys.length : Int) := by omega
    simp [a_slices_EqualFunc_PlanStep_PlanStep_PlanStep_PlanStep, c_slices_EqualFunc_PlanStep_PlanStep_PlanStep_PlanStep, l1, l2, hli, hlen]
    exact no (fun e => hlen (by rw [e]))
  rw [← hlen] at l2
  simp [a_slices_EqualFunc_PlanStep_PlanStep_PlanStep_PlanStep, c_slices_EqualFunc_PlanStep_PlanStep_PlanStep_PlanStep, l1, l2]
  refine EXEC_loop_inv (fun k s => ∃ (j : Nat), j + k = xs.length ∧ xs.take j = ys.take j ∧ s.heap = H ∧ s.dfr = [] ∧ s.tm.get 1 = w ∧ s.tm.get 2 = .func f_plan_Same_1 [] [] ∧ s.tm.get 15 = v ∧ s.tm.get 16 = i64 xs.length ∧ s.tm.get 17 = i64 j) xs.length ⟨0, by simp, by simp, rfl, rfl, by simp, by simp, by simp, by simp, by simp⟩ ?_
  rintro k s Q ⟨j, h0, ht, e1, e2, f1, f2, f15, f16, f17⟩ hgo hx
  by_cases hj : j < xs.length
  · have hji : (j : Int) < (xs.length : Int) := by omega
    have hj2 : j < ys.length := by omega
    have g1 : xs[j]? = some xs[j] := by simp [hj]
    have g2 : ys[j]? = some ys[j] := by simp [hj2]
    obtain ⟨_, r1, hr1, i1⟩ := IsL.idx hv g1
    obtain ⟨_, r2, hr2, i2⟩ := IsL.idx hw g2
    simp only [show Enc.sz Step = 16 from rfl] at i1 i2
    obtain ⟨_, hcall, t, rfl, ht1⟩ := same1_call r1 r2 xs[j] ys[j] hr1 hr2 (hcols _ (List.getElem_mem hj)) H
    obtain ⟨cv, hcv, rfl⟩ := hr1
    obtain ⟨cw, hcw, rfl⟩ := hr2
    have d1 := isl_cell hcv
    have d2 := isl_cell hcw
    have hwr : IntKind.i64.wrap ((j : Int) + 1) = ((j + 1 : Nat) : Int) := by rw [wrap_i64 (by omega) (by omega)]; push_cast; rfl
    cases t with
    | true =>
      have hne := ht1.1 rfl
      have ht' : xs.take (j + 1) = ys.take (j + 1) := by rw [List.take_add_one, List.take_add_one, g1, g2, ht, hne]
      simp [c_slices_EqualFunc_PlanStep_PlanStep_PlanStep_PlanStep_l0, e1, f1, f2, f15, f16, f17, hji, i1, i2, d1, d2, AV.rowok, hcall]
      rw [hwr]
      exact hgo _ (k - 1) (by omega) ⟨j + 1, by omega, ht', rfl, by simp [e2], by simp [f1], by simp [f2], by simp [f15], by simp [f16], by simp⟩
    | false =>
      simp [c_slices_EqualFunc_PlanStep_PlanStep_PlanStep_PlanStep_l0, e1, f1, f2, f15, f16, f17, hji, i1, i2, d1, d2, AV.rowok, hcall]
      refine hx _ _ (by simp) ?_
      simp [e2]
      refine no (fun e => ?_)
      have := ht1.2 (by subst e; rfl)
      cases this
  · have hji : ¬ (j : Int) < (xs.length : Int) := by omega
    rw [List.take_of_length_le (by omega), List.take_of_length_le (by omega)] at ht
    simp [c_slices_EqualFunc_PlanStep_PlanStep_PlanStep_PlanStep_l0, f16, f17, hji]
    refine hx _ _ (by simp) ?_
    simp [e1, e2]
    exact yes ht

/-- A plan whose rows are of lengths that there may be. -/
structure PlanFits (p : Plan) : Prop where
  vars : p.vars.length < 2 ^ 62
  steps : p.steps.length < 2 ^ 40
  head : p.head.length < 2 ^ 63
  cols : ∀ s ∈ p.steps, s.cols.length < 2 ^ 63

theorem planSame_run (v w : AV) (p q : Plan) (hv : Is v p) (hw : Is w q) (hp : PlanFits p) : ∃ r, runPure (callW tbl) loopW a_plan_Same [v, w] = some r ∧ ∃ t : Bool, r = .bool t ∧ (t = true ↔ p = q) := by
  obtain ⟨va, vb, vc, a1, a2, a3, rfl⟩ := hv
  obtain ⟨wa, wb, wc, b1, b2, b3, rfl⟩ := hw
  have c1 := isl_cell a1
  have c2 := isl_cell a2
  have c3 := isl_cell a3
  have d1 := isl_cell b1
  have d2 := isl_cell b2
  have d3 := isl_cell b3
  obtain ⟨_, h1, t1, rfl, q1⟩ := eqNames_call va wa p.vars q.vars a1 b1 (by have := hp.vars; omega) []
  obtain ⟨_, h2, t2, rfl, q2⟩ := eqCols_call vc wc p.head q.head a3 b3 hp.head []
  obtain ⟨t3, h3, q3⟩ := eqSteps_call vb wb p.steps q.steps a2 b2 (by have := hp.steps; omega) hp.cols []
  refine pureK a_plan_Same rfl (fun F hF => ?_)
  have yes : p = q → ∀ H, F (.bool true) H := fun h H => hF _ _ _ (reify_plain rfl) ⟨true, rfl, by simp [h]⟩
  have no : p ≠ q → ∀ H, F (.bool false) H := fun h H => hF _ _ _ (reify_plain rfl) ⟨false, rfl, by simp [h]⟩
  by_cases hpr : p.pred = q.pred
  rotate_left
  · simp [a_plan_Same, c_plan_Same, AV.rowok, c1, c2, c3, d1, d2, d3, hpr]
    exact no (fun e => hpr (by rw [e])) _
  cases t1 with
  | false =>
    simp [a_plan_Same, c_plan_Same, AV.rowok, c1, c2, c3, d1, d2, d3, hpr, h1]
    exact no (fun e => by have := q1.2 (by rw [e]); cases this) _
  | true =>
    cases t2 with
    | false =>
      simp [a_plan_Same, c_plan_Same, AV.rowok, c1, c2, c3, d1, d2, d3, hpr, h1, h2]
      exact no (fun e => by have := q2.2 (by rw [e]); cases this) _
    | true =>
      cases t3 with
      | false =>
        simp [a_plan_Same, c_plan_Same, AV.rowok, c1, c2, c3, d1, d2, d3, hpr, h1, h2, h3]
        exact no (fun e => by have := q3.2 (by rw [e]); cases this) _
      | true =>
        have e1 := q1.1 rfl
        have e2 := q2.1 rfl
        have e3 := q3.1 rfl
        simp [a_plan_Same, c_plan_Same, AV.rowok, c1, c2, c3, d1, d2, d3, hpr, h1, h2, h3]
        refine yes ?_ _
        obtain ⟨x1, x2, x3, x4⟩ := p
        obtain ⟨y1, y2, y3, y4⟩ := q
        simp only at hpr e1 e2 e3
        subst hpr; subst e1; subst e2; subst e3; rfl
theorem planSame_call (v w : AV) (p q : Plan) (hv : Is v p) (hw : Is w q) (hp : PlanFits p) (H : Heap) : ∃ r, callW tbl (.func f_plan_Same [] []) [v, w] H = some (r, H) ∧ ∃ t : Bool, r = .bool t ∧ (t = true ↔ p = q) :=
  callP_of (tbl := tbl) (f := f_plan_Same) (af := a_plan_Same) rfl rfl (R := fun a => ∃ v w, a = [v, w] ∧ Is v p ∧ Is w q) (S := fun r => ∃ t : Bool, r = .bool t ∧ (t = true ↔ p = q))
    (by rintro a ⟨v, w, rfl, h, h'⟩; simp [Enc.plain h, Enc.plain h']) (by rintro a ⟨v, w, rfl, h, h'⟩; exact ⟨v.lend, w.lend, rfl, Enc.lend h, Enc.lend h'⟩) (by rintro r ⟨t, rfl, h⟩; exact ⟨t, rfl, h⟩)
    (by rintro a ⟨v, w, rfl, h, h'⟩; exact planSame_run v w p q h h' hp) [v, w] H ⟨v, w, rfl, hv, hw⟩
end Go.Abs.Plan

/- Plan: which plans are alike: the reference's. -/
set_option linter.unusedSimpArgs false
set_option linter.unusedVariables false
namespace Go.Abs.Plan
open Enc (Is)

theorem refcompare0 : runPure (callK tbl 30) (lpK 30) a_ref01_Compare [zeroVal.enc, zeroVal.enc] = some (i64 0) := by kernel_rfl
theorem refcompare0_call (H : Heap) : callW tbl (.func f_ref01_Compare [] []) [zeroVal.enc, zeroVal.enc] H = some (i64 0, H) := callP_closed rfl rfl rfl rfl (runPure_closed refcompare0) H

set_option maxHeartbeats 4000000 in
theorem refsame_loop1 (p q : Plan) (va vb vc wa wb wc : AV) (a2 : Is vb p.steps) (b2 : Is wb q.steps) (c1 : va.isCell = true ∧ va.cells = [va]) (c3 : vc.isCell = true ∧ vc.cells = [vc]) (d1 : wa.isCell = true ∧ wa.cells = [wa]) (d3 : wc.isCell = true ∧ wc.cells = [wc]) (hp : PlanFits p) (hlen : p.steps.length = q.steps.length) (s : St) (ks : List KF) (R : AExit → St → Prop)
    (e2 : s.dfr = []) (f2 : s.tm.get 2 = .fptr false [va, vb, .str p.pred, vc] 0) (f3 : s.tm.get 3 = .fptr false [wa, wb, .str q.pred, wc] 0) (f6 : s.tm.get 6 = i64 0)
    (hno : p.steps ≠ q.steps → ∀ s' : St, s'.dfr = [] → s'.tm.get 4 = .bool false → KONT (callW tbl) loopW ks .ret s' R)
    (hyes : p.steps = q.steps → ∀ s' : St, s'.dfr = [] → KONT (callW tbl) loopW ks (.exit 2) s' R) :
    EXEC (callW tbl) loopW (.loop c_ref18_Same_l1) ks s R := by
  have l1 := IsL.len a2
  have l2 := IsL.len b2
  have c2 := isl_cell a2
  have d2 := isl_cell b2
  have hst := hp.steps
  refine EXEC_loop_inv (fun k s => ∃ (j : Nat), j + k = p.steps.length ∧ p.steps.take j = q.steps.take j ∧ s.dfr = [] ∧ s.tm.get 2 = .fptr false [va, vb, .str p.pred, vc] 0 ∧ s.tm.get 3 = .fptr false [wa, wb, .str q.pred, wc] 0 ∧ s.tm.get 6 = i64 j) p.steps.length ⟨0, by simp, by simp, e2, f2, f3, f6⟩ ?_
  rintro k s Q ⟨j, h0, ht, e2, f2, f3, f6⟩ hgo hx
  by_cases hj : j < p.steps.length
  · have hji : (j : Int) < (p.steps.length : Int) := by omega
    have hj2 : j < q.steps.length := by omega
    have g1 : p.steps[j]? = some p.steps[j] := by simp [hj]
    have g2 : q.steps[j]? = some q.steps[j] := by simp [hj2]
    obtain ⟨_, r1, ⟨cv, hcv, rfl⟩, i1⟩ := IsL.idx a2 g1
    obtain ⟨_, r2, ⟨cw, hcw, rfl⟩, i2⟩ := IsL.idx b2 g2
    simp only [show Enc.sz Step = 16 from rfl] at i1 i2
    have k1 := isl_cell hcv
    have k2 := isl_cell hcw
    have hwr : IntKind.i64.wrap ((j : Int) + 1) = ((j + 1 : Nat) : Int) := by rw [wrap_i64 (by omega) (by omega)]; push_cast; rfl
    have hcl := hp.cols _ (List.getElem_mem hj)
    have hno' : p.steps[j] ≠ q.steps[j] → p.steps ≠ q.steps := fun h e => h (by simp [e])
    generalize hx1 : p.steps[j] = x at *
    generalize hy1 : q.steps[j] = y at *
    generalize hHs : s.heap = Hs
    obtain ⟨t, hcall, q1⟩ : ∃ t : Bool, (∀ H : Heap, callW tbl (.func f_ref18_SameCols [] []) [cv, cw] H = some (.bool t, H)) ∧ (t = true ↔ x.cols = y.cols) := by
      obtain ⟨_, h1, t, rfl, q1⟩ := sameCols_call cv cw x.cols y.cols hcv hcw hcl []
      obtain ⟨_, h2, t', rfl, q2⟩ := sameCols_call cv cw x.cols y.cols hcv hcw hcl []
      refine ⟨t, fun H => ?_, q1⟩
      obtain ⟨_, h3, t3, rfl, q3⟩ := sameCols_call cv cw x.cols y.cols hcv hcw hcl H
      have : t3 = t := by
        cases t3 <;> cases t <;> simp_all
      rw [← this]; exact h3
    by_cases h1 : x.op = y.op
    rotate_left
    · simp [c_ref18_Same_l1, hHs, f2, f3, f6, c1, c2, c3, d1, d2, d3, l1, hji, i1, i2, k1, k2, AV.rowok, putCells, h1]
      refine hx _ _ (by simp) ?_
      exact hno (hno' (fun e => h1 (by rw [e]))) _ (by simp [e2]) (by simp)
    by_cases h2 : x.lit = y.lit
    rotate_left
    · simp [c_ref18_Same_l1, hHs, f2, f3, f6, c1, c2, c3, d1, d2, d3, l1, hji, i1, i2, k1, k2, AV.rowok, putCells, h1, h2]
      refine hx _ _ (by simp) ?_
      exact hno (hno' (fun e => h2 (by rw [e]))) _ (by simp [e2]) (by simp)
    by_cases h3 : x.pred = y.pred
    rotate_left
    · simp [c_ref18_Same_l1, hHs, f2, f3, f6, c1, c2, c3, d1, d2, d3, l1, hji, i1, i2, k1, k2, AV.rowok, putCells, h1, h2, h3]
      refine hx _ _ (by simp) ?_
      exact hno (hno' (fun e => h3 (by rw [e]))) _ (by simp [e2]) (by simp)
    by_cases h4 : x.old = y.old
    rotate_left
    · have h4b : (x.old == y.old) = false := by simpa using h4
      simp [c_ref18_Same_l1, hHs, f2, f3, f6, c1, c2, c3, d1, d2, d3, l1, hji, i1, i2, k1, k2, AV.rowok, putCells, h1, h2, h3, h4b]
      refine hx _ _ (by simp) ?_
      exact hno (hno' (fun e => h4 (by rw [e]))) _ (by simp [e2]) (by simp)
    cases t with
    | false =>
      simp [c_ref18_Same_l1, hHs, f2, f3, f6, c1, c2, c3, d1, d2, d3, l1, hji, i1, i2, k1, k2, AV.rowok, putCells, h1, h2, h3, h4, hcall]
      refine hx _ _ (by simp) ?_
      exact hno (hno' (fun e => by have := q1.2 (by rw [e]); cases this)) _ (by simp [e2]) (by simp)
    | true =>
      have h5 := q1.1 rfl
      by_cases h6 : x.cmp = y.cmp
      rotate_left
      · simp [c_ref18_Same_l1, hHs, f2, f3, f6, c1, c2, c3, d1, d2, d3, l1, hji, i1, i2, k1, k2, AV.rowok, putCells, h1, h2, h3, h4, hcall, h6]
        refine hx _ _ (by simp) ?_
        exact hno (hno' (fun e => h6 (by rw [e]))) _ (by simp [e2]) (by simp)
      by_cases h7 : x.a = y.a
      rotate_left
      · have h7b := col_ne h7
        simp [c_ref18_Same_l1, hHs, f2, f3, f6, c1, c2, c3, d1, d2, d3, l1, hji, i1, i2, k1, k2, AV.rowok, putCells, h1, h2, h3, h4, hcall, h6, h7b]
        refine hx _ _ (by simp) ?_
        exact hno (hno' (fun e => h7 (by rw [e]))) _ (by simp [e2]) (by simp)
      by_cases h8 : x.b = y.b
      rotate_left
      · have h8b := col_ne h8
        simp [c_ref18_Same_l1, hHs, f2, f3, f6, c1, c2, c3, d1, d2, d3, l1, hji, i1, i2, k1, k2, AV.rowok, putCells, h1, h2, h3, h4, hcall, h6, h7, h8b]
        refine hx _ _ (by simp) ?_
        exact hno (hno' (fun e => h8 (by rw [e]))) _ (by simp [e2]) (by simp)
      have hxy : x = y := by
        clear hno' hcl hcall q1 i1 i2 g1 g2 hx1 hy1
        obtain ⟨x1, x2, x3, x4, x5, x6, x7, x8⟩ := x
        obtain ⟨y1, y2, y3, y4, y5, y6, y7, y8⟩ := y
        simp only at h1 h2 h3 h4 h5 h6 h7 h8
        subst h1; subst h2; subst h3; subst h4; subst h5; subst h6; subst h7; subst h8; rfl
      have ht' : p.steps.take (j + 1) = q.steps.take (j + 1) := by rw [List.take_add_one, List.take_add_one, g1, g2, ht, hxy]
      simp [c_ref18_Same_l1, hHs, f2, f3, f6, c1, c2, c3, d1, d2, d3, l1, hji, i1, i2, k1, k2, AV.rowok, putCells, h1, h2, h3, h4, hcall, h6, h7, h8]
      rw [hwr]
      exact hgo _ (k - 1) (by omega) ⟨j + 1, by omega, ht', by simp [e2], by simp [f2], by simp [f3], by simp⟩
  · have hji : ¬ (j : Int) < (p.steps.length : Int) := by omega
    rw [List.take_of_length_le (by omega), List.take_of_length_le (by omega)] at ht
    simp [c_ref18_Same_l1, f2, f6, c2, l1, hji, AV.rowok]
    exact hx _ _ (by simp) (hyes ht _ e2)
end Go.Abs.Plan

/- Plan: which plans are alike: the reference's, whole. -/
set_option linter.unusedSimpArgs false
set_option linter.unusedVariables false
namespace Go.Abs.Plan
open Enc (Is)

theorem refsame_loop0 (p q : Plan) (va vb vc wa wb wc : AV) (a1 : Is va p.vars) (b1 : Is wa q.vars) (c2 : vb.isCell = true ∧ vb.cells = [vb]) (c3 : vc.isCell = true ∧ vc.cells = [vc]) (d2 : wb.isCell = true ∧ wb.cells = [wb]) (d3 : wc.isCell = true ∧ wc.cells = [wc]) (hp : PlanFits p) (hlen : p.vars.length = q.vars.length) (s : St) (ks : List KF) (R : AExit → St → Prop)
    (e1 : s.heap = []) (e2 : s.dfr = []) (f2 : s.tm.get 2 = .fptr false [va, vb, .str p.pred, vc] 0) (f3 : s.tm.get 3 = .fptr false [wa, wb, .str q.pred, wc] 0) (f5 : s.tm.get 5 = i64 0)
    (hno : p.vars ≠ q.vars → ∀ s' : St, s'.dfr = [] → s'.tm.get 4 = .bool false → KONT (callW tbl) loopW ks .ret s' R)
    (hyes : p.vars = q.vars → ∀ s' : St, s'.dfr = [] → s'.tm.get 2 = .fptr false [va, vb, .str p.pred, vc] 0 → s'.tm.get 3 = .fptr false [wa, wb, .str q.pred, wc] 0 → KONT (callW tbl) loopW ks (.exit 0) s' R) :
    EXEC (callW tbl) loopW (.loop c_ref18_Same_l0) ks s R := by
  have l1 := IsL.len a1
  have l2 := IsL.len b1
  have c1 := isl_cell a1
  have d1 := isl_cell b1
  have hst := hp.vars
  refine EXEC_loop_inv (fun k s => ∃ (j : Nat), j + k = p.vars.length ∧ p.vars.take j = q.vars.take j ∧ s.heap = [] ∧ s.dfr = [] ∧ s.tm.get 2 = .fptr false [va, vb, .str p.pred, vc] 0 ∧ s.tm.get 3 = .fptr false [wa, wb, .str q.pred, wc] 0 ∧ s.tm.get 5 = i64 j) p.vars.length ⟨0, by simp, by simp, e1, e2, f2, f3, f5⟩ ?_
  rintro k s Q ⟨j, h0, ht, e1, e2, f2, f3, f5⟩ hgo hx
  by_cases hj : j < p.vars.length
  · have hji : (j : Int) < (p.vars.length : Int) := by omega
    have hj2 : j < q.vars.length := by omega
    have g1 : p.vars[j]? = some p.vars[j] := by simp [hj]
    have g2 : q.vars[j]? = some q.vars[j] := by simp [hj2]
    obtain ⟨_, r1, rfl, i1⟩ := IsL.idx a1 g1
    obtain ⟨_, r2, rfl, i2⟩ := IsL.idx b1 g2
    simp only [show Enc.sz ByteArray = 1 from rfl] at i1 i2
    have hwr : IntKind.i64.wrap ((j : Int) + 1) = ((j + 1 : Nat) : Int) := by rw [wrap_i64 (by omega) (by omega)]; push_cast; rfl
    by_cases hne : p.vars[j] = q.vars[j]
    · have ht' : p.vars.take (j + 1) = q.vars.take (j + 1) := by rw [List.take_add_one, List.take_add_one, g1, g2, ht, hne]
      simp [c_ref18_Same_l0, e1, f2, f3, f5, c1, d1, l1, hji, i1, i2, hne, AV.rowok]
      rw [hwr]
      exact hgo _ (k - 1) (by omega) ⟨j + 1, by omega, ht', rfl, by simp [e2], by simp [f2], by simp [f3], by simp⟩
    · simp [c_ref18_Same_l0, e1, f2, f3, f5, c1, d1, l1, hji, i1, i2, hne, AV.rowok]
      refine hx _ _ (by simp) ?_
      exact hno (fun e => hne (by simp [e])) _ (by simp [e2]) (by simp)
  · have hji : ¬ (j : Int) < (p.vars.length : Int) := by omega
    rw [List.take_of_length_le (by omega), List.take_of_length_le (by omega)] at ht
    simp [c_ref18_Same_l0, f2, f5, c1, l1, hji, AV.rowok]
    exact hx _ _ (by simp) (hyes ht _ e2 (by simp [f2]) (by simp [f3]))

set_option maxHeartbeats 1000000 in
theorem refSame_run (v w : AV) (p q : Plan) (hv : Is v p) (hw : Is w q) (hp : PlanFits p) : ∃ r, runPure (callW tbl) loopW a_ref18_Same [v, w] = some r ∧ ∃ t : Bool, r = .bool t ∧ (t = true ↔ p = q) := by
  obtain ⟨va, vb, vc, a1, a2, a3, rfl⟩ := hv
  obtain ⟨wa, wb, wc, b1, b2, b3, rfl⟩ := hw
  have c1 := isl_cell a1
  have c2 := isl_cell a2
  have c3 := isl_cell a3
  have d1 := isl_cell b1
  have d2 := isl_cell b2
  have d3 := isl_cell b3
  have l1 := IsL.len a1
  have l2 := IsL.len a2
  have m1 := IsL.len b1
  have m2 := IsL.len b2
  obtain ⟨_, h2, t2, rfl, q2⟩ := sameCols_call vc wc p.head q.head a3 b3 hp.head []
  refine pureK a_ref18_Same rfl (fun F hF => ?_)
  have yes : p = q → ∀ H, F (.bool true) H := fun h H => hF _ _ _ (reify_plain rfl) ⟨true, rfl, by simp [h]⟩
  have no : p ≠ q → ∀ H, F (.bool false) H := fun h H => hF _ _ _ (reify_plain rfl) ⟨false, rfl, by simp [h]⟩
  by_cases k1 : p.vars.length = q.vars.length
  rotate_left
  · have k1i : ¬ (p.vars.length : Int) = (q.vars.length : Int) := by omega
    simp [a_ref18_Same, c_ref18_Same, AV.rowok, c1, c2, c3, d1, d2, d3, l1, l2, m1, m2, k1i, k1]
    exact no (fun e => k1 (by rw [e])) _
  by_cases k2 : p.steps.length = q.steps.length
  rotate_left
  · have k2i : ¬ (p.steps.length : Int) = (q.steps.length : Int) := by omega
    simp [a_ref18_Same, c_ref18_Same, AV.rowok, c1, c2, c3, d1, d2, d3, l1, l2, m1, m2, k1, k2i, k2]
    exact no (fun e => k2 (by rw [e])) _
  by_cases hpr : p.pred = q.pred
  rotate_left
  · simp [a_ref18_Same, c_ref18_Same, AV.rowok, c1, c2, c3, d1, d2, d3, l1, l2, m1, m2, k1, k2, hpr]
    exact no (fun e => hpr (by rw [e])) _
  cases t2 with
  | false =>
    simp [a_ref18_Same, c_ref18_Same, AV.rowok, c1, c2, c3, d1, d2, d3, l1, l2, m1, m2, k1, k2, hpr, h2]
    exact no (fun e => by have := q2.2 (by rw [e]); cases this) _
  | true =>
    have e2 := q2.1 rfl
    simp [a_ref18_Same, c_ref18_Same, AV.rowok, c1, c2, c3, d1, d2, d3, l1, l2, m1, m2, k1, k2, hpr, h2]
    refine refsame_loop0 p q va vb vc wa wb wc a1 b1 c2 c3 d2 d3 hp k1 _ _ _ rfl rfl (by simp [hpr]) (by simp) (by simp) ?_ ?_
    · intro hne s' g1 g2
      simp [g1, g2]
      exact no (fun e => hne (by rw [e])) _
    · intro ev s' g1 g2 g3
      simp
      refine refsame_loop1 p q va vb vc wa wb wc a2 b2 c1 c3 d1 d3 hp k2 _ _ _ (by simp [g1]) (by simp [g2]) (by simp [g3]) (by simp) ?_ ?_
      · intro hne s2 j1 j2
        simp [j1, j2]
        exact no (fun e => hne (by rw [e])) _
      · intro es s2 j1
        have hcmp := refcompare0_call s2.heap
        simp only [Val.enc, zeroVal] at hcmp
        simp [j1, hcmp, AV.rowok, buildA_nil]
        refine yes ?_ _
        obtain ⟨x1, x2, x3, x4⟩ := p
        obtain ⟨y1, y2, y3, y4⟩ := q
        simp only at hpr e2 ev es
        subst hpr; subst e2; subst ev; subst es; rfl
theorem refSame_call (v w : AV) (p q : Plan) (hv : Is v p) (hw : Is w q) (hp : PlanFits p) (H : Heap) : ∃ r, callW tbl (.func f_ref18_Same [] []) [v, w] H = some (r, H) ∧ ∃ t : Bool, r = .bool t ∧ (t = true ↔ p = q) :=
  callP_of (tbl := tbl) (f := f_ref18_Same) (af := a_ref18_Same) rfl rfl (R := fun a => ∃ v w, a = [v, w] ∧ Is v p ∧ Is w q) (S := fun r => ∃ t : Bool, r = .bool t ∧ (t = true ↔ p = q))
    (by rintro a ⟨v, w, rfl, h, h'⟩; simp [Enc.plain h, Enc.plain h']) (by rintro a ⟨v, w, rfl, h, h'⟩; exact ⟨v.lend, w.lend, rfl, Enc.lend h, Enc.lend h'⟩) (by rintro r ⟨t, rfl, h⟩; exact ⟨t, rfl, h⟩)
    (by rintro a ⟨v, w, rfl, h, h'⟩; exact refSame_run v w p q h h' hp) [v, w] H ⟨v, w, rfl, hv, hw⟩
end Go.Abs.Plan
