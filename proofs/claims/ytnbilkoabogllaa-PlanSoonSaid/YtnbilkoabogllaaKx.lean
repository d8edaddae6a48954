/- Plan: clean, walked. -/
import Derived.Test.YtnbilkoabogllaaJx
set_option linter.unusedSimpArgs false
set_option linter.unusedVariables false
namespace Go.Abs.Plan
open Enc (Is)

def zeroTerm : Term := ⟨0, ⟨#[]⟩, zeroVal⟩
abbrev zRule : AV := .agg [.str ⟨#[]⟩, .nilsl, .nilsl]

/-- Short lists of terms, as every body has. -/
structure Fits (r : Rule) : Prop where
  head : r.head.args.length < 2 ^ 20
  body : r.body.length < 2 ^ 10
  args : ∀ l ∈ r.body, l.atom.args.length < 2 ^ 20

theorem cleanLit_args (l : Lit) : (cleanLit l).atom.args.length ≤ l.atom.args.length := by unfold cleanLit; split <;> simp
theorem sum_le {ls : List Lit} {n : Nat} (h : ∀ l ∈ ls, l.atom.args.length ≤ n) : (ls.flatMap litTerms).length ≤ ls.length * (n + 2) := by
  induction ls with
  | nil => simp
  | cons l ls ih =>
    have h1 := h l (by simp)
    have h2 := ih (fun x hx => h x (by simp [hx]))
    simp only [List.flatMap_cons, List.length_append, litTerms, List.length_cons, List.length_nil, Nat.add_mul]
    omega
theorem Fits.rule {r : Rule} (h : Fits r) : RuleFits r := by
  refine ⟨by have := h.head; omega, by have := h.body; omega, fun l hl => by have := h.args l hl; omega, ?_⟩
  have h1 := sum_le (n := 2 ^ 20) (fun l hl => Nat.le_of_lt (h.args l hl))
  have h2 := h.head
  have h3 := h.body
  simp only [ruleTerms, List.length_append]
  have : r.body.length * (2 ^ 20 + 2) ≤ 2 ^ 10 * (2 ^ 20 + 2) := Nat.mul_le_mul_right _ (Nat.le_of_lt h3)
  omega
theorem Fits.clean {r : Rule} (h : Fits r) : Fits (cleanRule r) := by
  refine ⟨h.head, by simpa [cleanRule] using h.body, fun l hl => ?_⟩
  simp only [cleanRule, List.mem_map] at hl
  obtain ⟨x, hx, rfl⟩ := hl
  exact Nat.lt_of_le_of_lt (cleanLit_args x) (h.args x hx)

theorem buildA_nil {cs : List AV} : buildA cs [] = some (.agg cs) := rfl
theorem buildA_cons {cs : List AV} {off sz : Nat} {v : AV} {r : List (Nat × Nat × AV)} : buildA cs ((off, sz, v) :: r) = if v.rowok sz = true ∧ off + sz ≤ cs.length then buildA (splice cs off v.cells) r else none := rfl

theorem intCast_beq (a b : Nat) : ((a : Int) == (b : Int)) = decide (a = b) := by by_cases h : a = b <;> simp [h]; omega

abbrev rowCell (p : ByteArray) (va bv : AV) : Blk := .arr 0 3 [.agg [.str p, va, bv]]
abbrev zCell : Blk := .arr 0 3 [zRule]

set_option maxHeartbeats 4000000 in
theorem clean_loop (r : Rule) (va vb : AV) (ha : Is va r.head.args) (hb : Is vb r.body) (hf : Fits r) (ok0 : Bool) (s : St) (ks : List KF) (R : AExit → St → Prop)
    (e1 : s.heap = [zCell, rowCell r.head.pred va .nilsl]) (e2 : s.dfr = []) (e3 : s.tm.get 2 = .ptr 0 0 0 0) (e4 : s.tm.get 4 = .ptr 1 0 0 0) (e5 : s.tm.get 5 = .bool ok0) (e6 : s.tm.get 26 = vb) (e7 : s.tm.get 27 = i64 r.body.length) (e8 : s.tm.get 28 = i64 0)
    (hexit : ∀ (s' : St) (bv : AV) (rows : List AV), Acc [zCell, rowCell r.head.pred va bv] 14 bv s'.heap rows → All2 Is rows (r.body.map cleanLit) → s'.dfr = [] → s'.tm.get 2 = .ptr 0 0 0 0 → s'.tm.get 4 = .ptr 1 0 0 0 → s'.tm.get 5 = .bool (ok0 && r.body.all litOk) →
      r.body.all litKind = true → KONT (callW tbl) loopW ks (.exit 0) s' R)
    (hret : ∀ (s' : St) (bv : AV) (rows : List AV) (ls : List Lit), Acc [rowCell r.head.pred va bv, rowCell r.head.pred va bv] 14 bv s'.heap rows → All2 Is rows ls → s'.dfr = [] → s'.tm.get 2 = .ptr 0 0 0 0 → s'.tm.get 3 = .bool false →
      r.body.all litKind = false → KONT (callW tbl) loopW ks .ret s' R) :
    EXEC (callW tbl) loopW (.loop c_plan_clean_l0) ks s R := by
  unfold c_plan_clean_l0
  refine EXEC_range r.body.length (fun j s => (∃ bv rows, Acc [zCell, rowCell r.head.pred va bv] 14 bv s.heap rows ∧ All2 Is rows ((r.body.take j).map cleanLit)) ∧ s.dfr = [] ∧ s.tm.get 2 = .ptr 0 0 0 0 ∧ s.tm.get 4 = .ptr 1 0 0 0 ∧ s.tm.get 5 = .bool (ok0 && (r.body.take j).all litOk) ∧
      s.tm.get 26 = vb ∧ s.tm.get 27 = i64 r.body.length ∧ s.tm.get 28 = i64 j ∧ (r.body.take j).all litKind = true)
    0 (by omega) ⟨⟨.nilsl, [], by rw [e1]; exact Acc.nil, by simp; exact .nil⟩, by simp [e2], by simp [e3], by simp [e4], by simp [e5], by simp [e6], by simp [e7], by simp [e8], by simp⟩ (by have := hf.body; omega) (by simp; grind) ?_ ?_
  · rintro j s B hj ⟨⟨bv, rows, g1, g1'⟩, g2, g3, g4, g5, g6, g7, g8, g9⟩ hn hx
    have hg : r.body[j]? = some r.body[j] := by simp [hj]
    obtain ⟨fl', lv, ⟨la, hla, rfl⟩, hidx⟩ := IsL.idx hb hg
    simp only [show Enc.sz Lit = 14 from rfl] at hidx
    have hc := (isl_cell hla).1
    have htk : r.body.take (j + 1) = r.body.take j ++ [r.body[j]] := by rw [List.take_add_one, hg]; rfl
    have hargs := hf.args r.body[j] (List.getElem_mem hj)
    have hbl := hf.body
    have hrl : rows.length = j := by rw [g1'.length]; simp; omega
    have k0 := hat_of (g1.get (b := 0) (by simp))
    have k1 := hat_of (g1.get (b := 1) (by simp))
    have n0 := lt_of (g1.get (b := 0) (by simp))
    have n1 := lt_of (g1.get (b := 1) (by simp))
    obtain ⟨wc1, wc2, wc3⟩ := g1.cell
    have hka := kinds_call la r.body[j].atom.args true hla (by omega) s.heap
    generalize hl : r.body[j] = l at *
    generalize hok : (ok0 && (r.body.take j).all litOk) = ok at *
    have hokS : (ok0 && (r.body.take (j + 1)).all litOk) = (ok && litOk l) := by rw [htk]; simp [List.all_append, ← hok, Bool.and_assoc]
    -- what follows a literal that may be
    have step : ∀ (row : AV) (q : Bool), Is row (cleanLit l) → litKind l = true → q = (ok && litOk l) → ∃ v' Hs', Acc [zCell, rowCell r.head.pred va v'] 14 v' (Hs'.set 1 (rowCell r.head.pred va v')) (rows ++ [row]) ∧ v'.cells = [v'] ∧ v'.isCell = true ∧ hat Hs' 1 = rowCell r.head.pred va bv ∧ 1 < Hs'.length ∧
        (∀ (dst : Option Nat) (keep : Bool) (os : List AOper) (loc : List (Nat × AV)) (s2 : St) (ks : List KF) (R : AExit → St → Prop), s2.heap = s.heap →
          ACTK (callW tbl) loopW (appendA 14 168 bv (.fsl false [row])) dst keep os loc s2 ks R = ACTK (callW tbl) loopW (.val v') dst keep os loc { s2 with heap := Hs' } ks R) ∧
        (∀ (e : AExit) (s2 : St), (e = .normal ∨ e = .exit 1) → s2.heap = Hs'.set 1 (rowCell r.head.pred va v') → s2.dfr = [] → s2.tm.get 2 = .ptr 0 0 0 0 → s2.tm.get 4 = .ptr 1 0 0 0 → s2.tm.get 5 = .bool q → s2.tm.get 26 = vb → s2.tm.get 27 = i64 r.body.length → s2.tm.get 28 = i64 j → B e s2) := by
      rintro row q hrow hk rfl
      obtain ⟨v', Hs', hacc', happ⟩ := g1.one (call := callW tbl) (lp := loopW) (bytes := 168) (fl := false) (r := row) (Enc.row hrow) (by omega)
      have a2 := hacc'.set (b := 1) (by simp) (rowCell r.head.pred va v')
      refine ⟨v', Hs', by simpa using a2, hacc'.cell.2.1, hacc'.cell.1, hat_of (hacc'.get (b := 1) (by simp)), lt_of (hacc'.get (b := 1) (by simp)), happ, fun e s2 he q1 q2 q3 q4 q5 q6 q7 q8 => ?_⟩
      refine hn e s2 he q8 ⟨⟨v', rows ++ [row], by rw [q1]; simpa using a2, ?_⟩, q2, by simp [q3], by simp [q4], by simp [q5, hokS], by simp [q6], by simp [q7], by simp, ?_⟩
      · rw [htk, List.map_append]
        exact g1'.append (.cons hrow .nil)
      · rw [htk, List.all_append, g9]; simp [hk]
    by_cases hk3 : l.kind = 3
    · have c1 : (l.kind == 1) = false := by simp [hk3]
      have c2 : (l.kind == 2) = false := by simp [hk3]
      have c3 : (l.kind == 3) = true := by simp [hk3]
      obtain ⟨hb0, hh⟩ := holds0_call l.op s.heap
      simp only [Val.enc, zeroVal] at hh
      have hke := kinds_call (.fsl false (termRows [l.a, l.b])) [l.a, l.b] false (IsL.fsl (termRows_is _)) (by simp) s.heap
      simp only [termRows, List.map_cons, List.map_nil] at hke
      have hrow : Is (.agg [i64 l.kind, .str ⟨#[]⟩, .nilsl, i64 l.op, i64 l.a.kind, .str l.a.name, i64 l.a.v.kind, i64 l.a.v.n, .str l.a.v.s, i64 l.b.kind, .str l.b.name, i64 l.b.v.kind, i64 l.b.v.n, .str l.b.v.s]) (cleanLit l) := by
        unfold cleanLit; rw [if_pos hk3]; exact ⟨.nilsl, IsL.nil, rfl⟩
      have hlk : litKind l = true := by simp [litKind, hk3]
      have hlo : litOk l = (decide (opOk l.op) && kindsOk false [l.a, l.b]) := by unfold litOk; rw [if_pos hk3]
      obtain ⟨v', Hs', a1, a2, a3, a4, a5, a6, a7⟩ := step _ _ hrow hlk rfl
      rw [hlo] at a7
      cases ok with
      | false =>
        simp [g4, g5, g6, g8, hidx, AV.rowok, hc, c1, c2, c3, k1, n1, wc1, wc2, buildA_nil, buildA_cons, splice, buildRows, hh]
        rw [a6 _ _ _ _ _ _ _ (by simp)]
        simp [g4, a2, a3, a4, a5, AV.rowok, wc2, putCells]
        exact a7 _ _ (.inl rfl) (by simp [splice]) (by simp [g2]) (by simp [g3]) (by simp [g4]) (by simp) (by simp [g6]) (by simp [g7]) (by simp [g8])
      | true =>
        by_cases ho : opOk l.op
        · simp [g4, g5, g6, g8, hidx, AV.rowok, hc, c1, c2, c3, k1, n1, wc1, wc2, buildA_nil, buildA_cons, splice, buildRows, hh, ho, hke]
          rw [a6 _ _ _ _ _ _ _ (by simp)]
          simp [g4, a2, a3, a4, a5, AV.rowok, wc2, putCells]
          exact a7 _ _ (.inl rfl) (by simp [splice]) (by simp [g2]) (by simp [g3]) (by simp [g4]) (by simp [ho, kindsOk]) (by simp [g6]) (by simp [g7]) (by simp [g8])
        · simp [g4, g5, g6, g8, hidx, AV.rowok, hc, c1, c2, c3, k1, n1, wc1, wc2, buildA_nil, buildA_cons, splice, buildRows, hh, ho]
          rw [a6 _ _ _ _ _ _ _ (by simp)]
          simp [g4, a2, a3, a4, a5, AV.rowok, wc2, putCells]
          exact a7 _ _ (.inl rfl) (by simp [splice]) (by simp [g2]) (by simp [g3]) (by simp [g4]) (by simp [ho]) (by simp [g6]) (by simp [g7]) (by simp [g8])
    · by_cases hk12 : l.kind = 1 ∨ l.kind = 2
      · have hrow : Is (.agg [i64 l.kind, .str l.atom.pred, la, i64 0, i64 0, .str ⟨#[]⟩, i64 0, i64 0, .str ⟨#[]⟩, i64 0, .str ⟨#[]⟩, i64 0, i64 0, .str ⟨#[]⟩]) (cleanLit l) := by
          unfold cleanLit; rw [if_neg hk3]; exact ⟨la, hla, rfl⟩
        have hlk : litKind l = true := by rcases hk12 with h | h <;> simp [litKind, h]
        have hlo : litOk l = (decide (l.atom.args.length ≤ 8) && kindsOk true l.atom.args) := by unfold litOk; rw [if_neg hk3]
        obtain ⟨v', Hs', a1, a2, a3, a4, a5, a6, a7⟩ := step _ _ hrow hlk rfl
        rw [hlo] at a7
        have hlen := IsL.len hla
        obtain ⟨p, q, c1, c2, hpq⟩ : ∃ p q, (l.kind == 1) = p ∧ (l.kind == 2) = q ∧ (p = true ∧ q = false ∨ p = false ∧ q = true) := by
          rcases hk12 with h | h
          · exact ⟨true, false, by simp [h], by simp [h], .inl ⟨rfl, rfl⟩⟩
          · exact ⟨false, true, by simp [h], by simp [h], .inr ⟨rfl, rfl⟩⟩
        rcases hpq with ⟨rfl, rfl⟩ | ⟨rfl, rfl⟩ <;> (cases ok with
          | false =>
            simp [g4, g5, g6, g8, hidx, AV.rowok, hc, c1, c2, k1, n1, wc1, wc2, buildA_nil, buildA_cons, splice, buildRows]
            rw [a6 _ _ _ _ _ _ _ (by simp)]
            simp [g4, a2, a3, a4, a5, AV.rowok, wc2, putCells]
            exact a7 _ _ (.inl rfl) (by simp [splice]) (by simp [g2]) (by simp [g3]) (by simp [g4]) (by simp) (by simp [g6]) (by simp [g7]) (by simp [g8])
          | true =>
            by_cases h8 : l.atom.args.length ≤ 8
            · have h8' : (l.atom.args.length : Int) ≤ 8 := by omega
              simp [g4, g5, g6, g8, hidx, AV.rowok, hc, c1, c2, k1, n1, wc1, wc2, buildA_nil, buildA_cons, splice, buildRows, hlen, h8', hka]
              rw [a6 _ _ _ _ _ _ _ (by simp)]
              simp [g4, a2, a3, a4, a5, AV.rowok, wc2, putCells]
              exact a7 _ _ (.inl rfl) (by simp [splice]) (by simp [g2]) (by simp [g3]) (by simp [g4]) (by simp [h8, kindsOk]) (by simp [g6]) (by simp [g7]) (by simp [g8])
            · have h8' : ¬ (l.atom.args.length : Int) ≤ 8 := by omega
              simp [g4, g5, g6, g8, hidx, AV.rowok, hc, c1, c2, k1, n1, wc1, wc2, buildA_nil, buildA_cons, splice, buildRows, hlen, h8']
              rw [a6 _ _ _ _ _ _ _ (by simp)]
              simp [g4, a2, a3, a4, a5, AV.rowok, wc2, putCells]
              exact a7 _ _ (.inl rfl) (by simp [splice]) (by simp [g2]) (by simp [g3]) (by simp [g4]) (by simp [h8]) (by simp [g6]) (by simp [g7]) (by simp [g8]))
      · have c1 : (l.kind == 1) = false := by simp; omega
        have c2 : (l.kind == 2) = false := by simp; omega
        have c3 : (l.kind == 3) = false := by simp [hk3]
        have hca := (isl_cell ha).1
        simp [g3, g4, g5, g6, g8, hidx, AV.rowok, hc, c1, c2, c3, k0, k1, n0, n1, wc1, wc2, hca, putCells]
        refine hx _ _ (by simp) (by simp) ?_
        refine hret _ bv rows _ (by simpa using g1.set (b := 0) (by simp) (rowCell r.head.pred va bv)) g1' (by simp [g2]) (by simp [g3]) (by simp) ?_
        exact List.all_eq_false.2 ⟨l, by rw [← hl]; exact List.getElem_mem hj, by simp [litKind, c1, c2, c3]⟩
  · rintro s ⟨⟨bv, rows, g1, g1'⟩, g2, g3, g4, g5, g6, g7, g8, g9⟩
    rw [List.take_of_length_le (Nat.le_refl _)] at g1' g5 g9
    exact hexit _ bv rows g1 g1' g2 (by simp [g3]) (by simp [g4]) (by simp [g5]) g9

set_option maxHeartbeats 4000000 in
theorem clean_run (v : AV) (r : Rule) (h : Is v r) (hf : Fits r) :
    ∃ w, runPure (callW tbl) loopW a_plan_clean [v] = some w ∧ ∃ xv x', w = .tuple [xv, .bool (hasPlans r)] ∧ Is xv x' ∧ (hasPlans r = true → x' = cleanRule r) := by
  obtain ⟨va, vb, ha, hb, hv⟩ := h
  have hca := (isl_cell ha).1
  have hcb := (isl_cell hb).1
  subst hv
  refine pureK a_plan_clean rfl (fun F hF => ?_)
  -- the end: what is made is handed over
  have hfin : ∀ (bv : AV) (Hs : Heap) (rows : List AV) (ls : List Lit) (H0 : Heap) (g : Bool), Acc H0 14 bv Hs rows → All2 Is rows ls → g = hasPlans r → (g = true → ls = (cleanRule r).body) →
      F (.tuple [.agg [.str r.head.pred, va, bv], .bool g]) Hs := by
    rintro bv Hs rows ls H0 g hacc hrows rfl hls
    obtain ⟨bv', g1, g2, _⟩ := hacc.reifyK hrows
    refine hF _ _ (.tuple [.agg [.str r.head.pred, va, bv'], .bool (hasPlans r)]) (reify_tuple (k := 10) ?_) ⟨_, ⟨r.head, ls⟩, rfl, ⟨va, bv', ha, g2, rfl⟩, fun hh => by rw [hls hh]; rfl⟩
    have : reify Hs 11 (.agg [.str r.head.pred, va, bv]) = some (.agg [.str r.head.pred, va, bv']) := reify_agg (k := 9) (by simp [optMap, reify_plain' (Hb := Hs) (k := 9) (Enc.plain ha), reify_plain' (Hb := Hs) (k := 9) (v := .str r.head.pred) rfl, g1 8])
    simp [optMap, this, reify_plain' (Hb := Hs) (k := 10) (v := .bool (hasPlans r)) rfl]
  have hkh := kinds_call va r.head.args false ha (by have := hf.head; omega)
  -- behind the loop
  have main : ∀ (ok0 : Bool) (s : St), ok0 = (decide (r.head.args.length ≤ 8) && kindsOk false r.head.args) → s.heap = [zCell, rowCell r.head.pred va .nilsl] → s.dfr = [] → s.tm.get 2 = .ptr 0 0 0 0 → s.tm.get 4 = .ptr 1 0 0 0 → s.tm.get 5 = .bool ok0 → s.tm.get 26 = vb → s.tm.get 27 = i64 r.body.length → s.tm.get 28 = i64 0 →
      ∀ ks, ks = [KF.block 0, KF.seq (ACode.seq (.region [⟨some 100, false, .load true 3 (.tmp 4), none⟩, ⟨some 101, false, .call (.func f_check_Vars) [(.tmp 100)], none⟩, ⟨some 102, false, .len .slice (.tmp 101), none⟩, ⟨some 10, true, .move (.tmp 102), none⟩])
        (.seq (.draw [⟨some 103, false, .load true 3 (.tmp 4), none⟩, ⟨some 104, false, .move (.tmp 5), none⟩, ⟨some 105, false, .move (.tmp 104), none⟩, ⟨some 106, false, .move (.tmp 10), some (105, true)⟩, ⟨some 107, false, .bin .leq .no (.tmp 106) (.const (.int .i64 64)), some (105, true)⟩, ⟨some 108, false, .pick (.tmp 105) (.tmp 107) (.const (.bool false)), none⟩, ⟨some 109, false, .move (.tmp 108), none⟩, ⟨some 110, false, .move (.tmp 10), some (109, true)⟩, ⟨some 111, false, .load true 3 (.tmp 4), some (109, true)⟩, ⟨some 112, false, .call (.func f_check_Bound) [(.tmp 111)], some (109, true)⟩, ⟨some 113, false, .len .slice (.tmp 112), some (109, true)⟩, ⟨some 114, false, .bin .eql .no (.tmp 110) (.tmp 113), some (109, true)⟩, ⟨some 115, false, .pick (.tmp 109) (.tmp 114) (.const (.bool false)), none⟩, ⟨none, true, .store 3 (.tmp 2) (.tmp 103), none⟩, ⟨some 3, true, .move (.tmp 115), none⟩] [(0, 9), (10, 13)])
        .ret))] → EXEC (callW tbl) loopW (.loop c_plan_clean_l0) ks s (FINQ [.cell 2 true 3, .tmp 3] F) := by
    rintro ok0 s hok e1 e2 e3 e4 e5 e6 e7 e8 ks rfl
    refine clean_loop r va vb ha hb hf ok0 s _ _ e1 e2 e3 e4 e5 e6 e7 e8 ?_ ?_
    · rintro s' bv rows q1 q2 q3 q4 q5 q6 q7
      obtain ⟨bv', g1, g2, _⟩ := q1.reifyK q2
      have hre : reify s'.heap reifyDepth (.agg [.str r.head.pred, va, bv]) = some (.agg [.str r.head.pred, va, bv']) := reify_agg (k := 10) (by simp [optMap, reify_plain' (Hb := s'.heap) (k := 10) (Enc.plain ha), reify_plain' (Hb := s'.heap) (k := 10) (v := .str r.head.pred) rfl, g1 9])
      have his : Is (.agg [.str r.head.pred, va, bv']) (cleanRule r) := ⟨va, bv', ha, g2, rfl⟩
      obtain ⟨w1, hw1, hi1⟩ := Vars_callL _ _ (cleanRule r) s'.heap hre his hf.clean.rule
      obtain ⟨w2, hw2, hi2⟩ := Bound_callL _ _ (cleanRule r) s'.heap hre his hf.clean.rule
      have k0 := hat_of (q1.get (b := 0) (by simp))
      have k1 := hat_of (q1.get (b := 1) (by simp))
      have n0 := lt_of (q1.get (b := 0) (by simp))
      have n1 := lt_of (q1.get (b := 1) (by simp))
      obtain ⟨wc1, wc2, wc3⟩ := q1.cell
      have hb2 : hasPlans r = (ok0 && r.body.all litOk && decide ((ruleVars (cleanRule r)).length ≤ 64) && decide ((ruleVars (cleanRule r)).length = (ruleBound (cleanRule r)).length)) := by
        rw [hasPlans, ← hok, q7, Bool.and_true]
      generalize (ok0 && r.body.all litOk) = ok at *
      have hcb' := (isl_cell ha).1
      have hlv1 := IsL.len hi1
      have hlv2 := IsL.len hi2
      -- the end, whatever came out
      have fin : ∀ (g : Bool) (s2 : St), g = hasPlans r → s2.heap = s'.heap.set 0 (rowCell r.head.pred va bv) → s2.dfr = [] → s2.tm.get 2 = .ptr 0 0 0 0 → s2.tm.get 3 = .bool g → CLOSEK (closeDfr s2.heap s2.dfr) [.cell 2 true 3, .tmp 3] s2 F := by
        rintro g s2 hg r1 r2 r3 r4
        have a2 := q1.set (b := 0) (by simp) (rowCell r.head.pred va bv)
        have m0 := a2.get (b := 0) (by simp)
        simp at m0
        simp [r1, r2, r3, r4, m0]
        exact hfin bv _ rows _ _ g a2 q2 hg (fun _ => rfl)
      cases ok with
      | false =>
        simp [q4, q5, q6, k1, n1, hw1, hlv1, runRecs, stepRec, slotsOf, makesOf, AOp.makes, wantedA, runAct, RSt.put, pairsOk, Rec.indep, recOf, optBeq, AV.beq, k0, n0, AV.rowok, wc1, wc2, hcb', putCells]
        exact fin false { s' with tm := _, heap := _ } (by simp [hb2]) rfl (by simp [q3]) (by simp [q4]) (by simp)
      | true =>
        by_cases h64 : (ruleVars (cleanRule r)).length ≤ 64
        · have h64' : ((ruleVars (cleanRule r)).length : Int) ≤ 64 := by omega
          simp [q4, q5, q6, k1, n1, hw1, hlv1, runRecs, stepRec, slotsOf, makesOf, AOp.makes, wantedA, runAct, RSt.put, pairsOk, Rec.indep, recOf, optBeq, AV.beq, k0, n0, AV.rowok, wc1, wc2, hcb', putCells, h64', hw2, hlv2]
          exact fin (decide ((ruleVars (cleanRule r)).length = (ruleBound (cleanRule r)).length)) { s' with tm := _, heap := _ } (by simp [hb2, h64]) rfl (by simp [q3]) (by simp [q4]) (by simp; exact intCast_beq _ _)
        · have h64' : ¬ ((ruleVars (cleanRule r)).length : Int) ≤ 64 := by omega
          simp [q4, q5, q6, k1, n1, hw1, hlv1, runRecs, stepRec, slotsOf, makesOf, AOp.makes, wantedA, runAct, RSt.put, pairsOk, Rec.indep, recOf, optBeq, AV.beq, k0, n0, AV.rowok, wc1, wc2, hcb', putCells, h64']
          exact fin false { s' with tm := _, heap := _ } (by simp [hb2, h64]) rfl (by simp [q3]) (by simp [q4]) (by simp)
    · rintro s' bv rows ls q1 q2 q3 q4 q5 q6
      have k0 := q1.get (b := 0) (by simp)
      simp at k0
      simp [q3, q4, q5, k0]
      exact hfin bv _ rows ls _ false q1 q2 (by simp [hasPlans, q6]) (by simp)
  by_cases h8 : r.head.args.length ≤ 8
  · have h8' : (r.head.args.length : Int) ≤ 8 := by omega
    simp [a_plan_clean, c_plan_clean, AV.rowok, hca, hcb, IsL.len ha, IsL.len hb, buildA_nil, buildA_cons, splice, putCells, hkh, h8']
    exact main (kindsOk false r.head.args) _ (by simp [h8]) rfl rfl (by simp) (by simp) (by simp [kindsOk]) (by simp) (by simp) (by simp) _ rfl
  · have h8' : ¬ (r.head.args.length : Int) ≤ 8 := by omega
    simp [a_plan_clean, c_plan_clean, AV.rowok, hca, hcb, IsL.len ha, IsL.len hb, buildA_nil, buildA_cons, splice, putCells, hkh, h8']
    exact main false _ (by simp [h8]) rfl rfl (by simp) (by simp) (by simp) (by simp) (by simp) (by simp) _ rfl
end Go.Abs.Plan

/- Plan: the literal that comes next. -/
set_option linter.unusedSimpArgs false
set_option linter.unusedVariables false
namespace Go.Abs.Plan
open Enc (Is)

def openItems (left : List Bool) (rows : List AV) : List (List AV) := (rows.zipIdx.filter fun x => left.getD x.2 false).map fun x => [i64 (x.2 : Int), x.1]

theorem open_iter (fl : Bool) (g b lid lg : Nat) (m : Mk) (left : List Bool) (rows : List AV) (ls : List Lit) (hr2 : RowsOf m.r2 14 rows) (hrows : All2 Is rows ls) (hleft : m.left = .sl lid lg 0 left.length) (hll : left.length = ls.length) (hl : ls.length < 2 ^ 40) :
    Iter tbl (.func f_plan_making_open_1 [] [.fptr fl [.ptr b g 0 0] 0]) (openItems left rows) (fun H => H[b]? = some (m.blk g) ∧ H[lid]? = some (.arr lg 1 (left.map AV.bool))) := by
  intro y J E hInv hstep H hJ
  have hrl := hrows.length
  obtain ⟨v, H', ⟨rfl, hP⟩, hcall⟩ := callE (tbl := tbl) (f := f_plan_making_open_1) (first := []) (captured := [.fptr fl [.ptr b g 0 0] 0]) (args := [y]) (H := H) (fun v H' => v = .tuple [] ∧ (J [] H' ∨ E H')) a_plan_making_open_1 rfl rfl rfl (fun F hF => by
    have hb := hat_of (hInv _ _ hJ).1
    simp [a_plan_making_open_1, c_plan_making_open_1, c_plan_making_open_1_l0, hb, Mk.blk, hr2.1]
    refine EXEC_range rows.length (fun j s => J (((rows.zipIdx.drop j).filter fun x => left.getD x.2 false).map fun x => [i64 (x.2 : Int), x.1]) s.heap ∧ s.dfr = [] ∧ s.tm.get 0 = y ∧ s.tm.get 1 = .fptr fl [.ptr b g 0 0] 0 ∧ s.tm.get 9 = m.r2 ∧ s.tm.get 10 = i64 rows.length ∧ s.tm.get 11 = i64 j)
      0 (by omega) (by simpa [openItems] using hJ) (by omega) (by simp; grind) ?_ ?_
    · rintro j s B hj ⟨g1, g2, g3, g4, g5, g6, g7⟩ hn hx
      have hg : rows[j]? = some rows[j] := by simp [hj]
      obtain ⟨fl3, hidx⟩ := hr2.2 j _ hg
      have hro := rowok_len (sz := 14) (Enc.row (α := Lit) ((hrows.left rows[j] (List.getElem_mem hj)).choose_spec.2))
      have hrk : rows[j].rowok 14 = true := Enc.row (α := Lit) ((hrows.left rows[j] (List.getElem_mem hj)).choose_spec.2)
      have hagg : AV.agg rows[j].cells = rows[j] := by
        obtain ⟨x, _, a, _, hx⟩ := hrows.left rows[j] (List.getElem_mem hj)
        rw [hx]; rfl
      have hb := hat_of (hInv _ _ g1).1
      have hlf := hat_of (hInv _ _ g1).2
      have hjl : j < left.length := by omega
      have hlj : (left.map AV.bool)[j]? = some (.bool left[j]) := by simp [hjl]
      have htake : List.take 14 rows[j].cells = rows[j].cells := List.take_of_length_le (by omega)
      rw [List.drop_eq_getElem_cons (by simpa using hj), List.getElem_zipIdx] at g1
      simp only [Nat.zero_add, List.filter_cons] at g1
      cases hlv : left[j] with
      | false =>
        have hgd : left.getD j false = false := by simp [hjl, hlv]
        simp only [hgd, Bool.false_eq_true, if_false] at g1
        simp [g4, g5, g7, hidx, hro, hrk, hb, Mk.blk, hleft, hlf, hjl, hlv, htake, hagg]
        exact hn _ _ (.inl rfl) (by simp [g7]) ⟨g1, by simp [g2], by simp [g3], by simp [g4], by simp [g5], by simp [g6], by simp⟩
      | true =>
        have hgd : left.getD j false = true := by simp [hjl, hlv]
        simp only [hgd, if_true, List.map_cons] at g1
        obtain ⟨H1, hor⟩ := hstep _ _ _ g1
        rcases hor with ⟨hc, hJ'⟩ | ⟨hc, hE'⟩
        · simp [g3, g4, g5, g7, hidx, hro, hrk, hb, Mk.blk, hleft, hlf, hjl, hlv, htake, hagg, hc]
          exact hn _ _ (.inl rfl) (by simp [g7]) ⟨hJ', by simp [g2], by simp [g3], by simp [g4], by simp [g5], by simp [g6], by simp⟩
        · simp [g3, g4, g5, g7, hidx, hro, hrk, hb, Mk.blk, hleft, hlf, hjl, hlv, htake, hagg, hc]
          refine hx _ _ (by simp) (by simp) ?_
          simp [g2]
          exact hF _ _ ⟨rfl, .inr hE'⟩
    · rintro s ⟨g1, g2, g3, g4, g5, g6, g7⟩
      rw [List.drop_eq_nil_of_le (by simp)] at g1
      simp [g2]
      exact hF _ _ ⟨rfl, .inl g1⟩)
  exact ⟨H', hcall, hP⟩
end Go.Abs.Plan

/- Plan: next, walked. -/
set_option linter.unusedSimpArgs false
set_option linter.unusedVariables false
namespace Go.Abs.Plan
open Enc (Is)

def cntT (ns : List ByteArray) (B : Nat) (t : Term) : Bool := t.kind == 2 || (t.kind == 1 && B.testBit (plN ns t.name))
def freeT (ns : List ByteArray) (B : Nat) (t : Term) : Bool := t.kind == 1 && !B.testBit (plN ns t.name)
def cnt (ns : List ByteArray) (B : Nat) (ts : List Term) : Nat := (ts.filter (cntT ns B)).length
def free (ns : List ByteArray) (B : Nat) (ts : List Term) : Bool := ts.any (freeT ns B)
def known (ns : List ByteArray) (ts : List Term) : Prop := ∀ t ∈ ts, t.kind = 1 → t.name ∈ ns

set_option maxHeartbeats 1000000 in
theorem next_loop0 (g b : Nat) (H : Heap) (m : Mk) (ns : List ByteArray) (ts : List Term) (tv : AV) (fl : Bool) (h : Is m.vars ns) (hl : ns.length ≤ 64) (hb : H[b]? = some (m.blk g)) (hB : m.B < 2 ^ 64) (htv : Is tv ts) (hk : known ns ts) (hts : ts.length < 2 ^ 40)
    (s : St) (ks : List KF) (R : AExit → St → Prop) (x2 x3 x4 x5 x6 : AV)
    (e1 : s.heap = H) (e2 : s.dfr = []) (e3 : s.tm.get 1 = .fptr fl [.ptr b g 0 0] 0) (e4 : s.tm.get 16 = tv) (e5 : s.tm.get 17 = i64 ts.length) (e6 : s.tm.get 18 = i64 0) (e7 : s.tm.get 7 = i64 0) (e8 : s.tm.get 8 = .bool false)
    (f2 : s.tm.get 2 = x2) (f3 : s.tm.get 3 = x3) (f4 : s.tm.get 4 = x4) (f5 : s.tm.get 5 = x5) (f6 : s.tm.get 6 = x6)
    (hexit : ∀ s' : St, s'.heap = H → s'.dfr = [] → s'.rnd = s.rnd → s'.tm.get 7 = i64 (cnt ns m.B ts : Nat) → s'.tm.get 8 = .bool (free ns m.B ts) → s'.tm.get 2 = x2 → s'.tm.get 3 = x3 → s'.tm.get 4 = x4 → s'.tm.get 5 = x5 → s'.tm.get 6 = x6 → KONT (callW tbl) loopW ks (.exit 2) s' R) :
    EXEC (callW tbl) loopW (.loop c_plan_making_next_l0) ks s R := by
  unfold c_plan_making_next_l0
  refine EXEC_range ts.length (fun j s' => s'.heap = H ∧ s'.dfr = [] ∧ s'.rnd = s.rnd ∧ s'.tm.get 1 = .fptr fl [.ptr b g 0 0] 0 ∧ s'.tm.get 16 = tv ∧ s'.tm.get 17 = i64 ts.length ∧ s'.tm.get 18 = i64 j ∧ s'.tm.get 7 = i64 (cnt ns m.B (ts.take j) : Nat) ∧ s'.tm.get 8 = .bool (free ns m.B (ts.take j)) ∧
      s'.tm.get 2 = x2 ∧ s'.tm.get 3 = x3 ∧ s'.tm.get 4 = x4 ∧ s'.tm.get 5 = x5 ∧ s'.tm.get 6 = x6) 0 (by omega) ⟨e1, e2, rfl, e3, e4, e5, e6, by simpa [cnt] using e7, by simpa [free] using e8, f2, f3, f4, f5, f6⟩ (by omega) (by simp; grind) ?_ ?_
  · rintro j s' B hj ⟨g1, g2, g2', g3, g4, g5, g6, g7, g8, g9, g10, g11, g12, g13⟩ hn hx
    have hg : ts[j]? = some ts[j] := by simp [hj]
    obtain ⟨fl', t, rfl, hidx⟩ := IsL.idx htv hg
    simp only [show Enc.sz Term = 5 from rfl] at hidx
    have htk : ts.take (j + 1) = ts.take j ++ [ts[j]] := by rw [List.take_add_one, hg]; rfl
    have hc1 : cnt ns m.B (ts.take (j + 1)) = cnt ns m.B (ts.take j) + (if cntT ns m.B ts[j] then 1 else 0) := by rw [htk, cnt, cnt, List.filter_append]; cases h : cntT ns m.B ts[j] <;> simp [h]
    have hf1 : free ns m.B (ts.take (j + 1)) = (free ns m.B (ts.take j) || freeT ns m.B ts[j]) := by rw [htk, free, free, List.any_append]; simp
    have hcl : cnt ns m.B (ts.take j) ≤ j := by
      unfold cnt
      refine Nat.le_trans (List.length_filter_le ..) ?_
      simp; omega
    have hkn := hk ts[j] (List.getElem_mem hj)
    have hw : IntKind.i64.wrap ((cnt ns m.B (ts.take j) : Nat) + 1) = ((cnt ns m.B (ts.take j) : Nat) : Int) + 1 := wrap_i64 (by omega) (by omega)
    have fin : ∀ (e : AExit) (s2 : St), (e = .normal ∨ e = .exit 3) → s2.heap = H → s2.dfr = [] → s2.rnd = s.rnd → s2.tm.get 1 = .fptr fl [.ptr b g 0 0] 0 → s2.tm.get 16 = tv → s2.tm.get 17 = i64 ts.length → s2.tm.get 18 = i64 j → s2.tm.get 7 = i64 (cnt ns m.B (ts.take (j + 1)) : Nat) → s2.tm.get 8 = .bool (free ns m.B (ts.take (j + 1))) →
        s2.tm.get 2 = x2 → s2.tm.get 3 = x3 → s2.tm.get 4 = x4 → s2.tm.get 5 = x5 → s2.tm.get 6 = x6 → B e s2 := by
      intro e s2 he r1 r2 r2' r3 r4 r5 r6 r7 r8 r9 r10 r11 r12 r13
      exact hn e s2 he r6 ⟨r1, r2, r2', by simp [r3], by simp [r4], by simp [r5], by simp, by simp [r7], by simp [r8], by simp [r9], by simp [r10], by simp [r11], by simp [r12], by simp [r13]⟩
    generalize ht : ts[j] = t at *
    by_cases hk2 : t.kind = 2
    · have c2 : (t.kind == 2) = true := by simp [hk2]
      simp [g1, g3, g4, g6, g7, hidx, AV.rowok, c2, hw]
      exact fin _ _ (.inl rfl) rfl (by simp [g2]) (by simp [g2']) (by simp [g3]) (by simp [g4]) (by simp [g5]) (by simp [g6]) (by simp [hc1, cntT, hk2]) (by simp [g8, hf1, freeT, hk2]) (by simp [g9]) (by simp [g10]) (by simp [g11]) (by simp [g12]) (by simp [g13])
    · have c2 : (t.kind == 2) = false := by simp [hk2]
      by_cases hk1 : t.kind = 1
      · have c1 : (t.kind == 1) = true := by simp [hk1]
        have hm := hkn hk1
        have hhas := has_call g b H m ns t.name h hl hb hB (placeOf_mem hm) (by have := plN_lt hm; omega)
        cases hbit : m.B.testBit (plN ns t.name) with
        | true =>
          rw [hbit] at hhas
          simp [g1, g3, g4, g6, g7, hidx, AV.rowok, c2, c1, hhas, hw]
          exact fin _ _ (.inl rfl) rfl (by simp [g2]) (by simp [g2']) (by simp [g3]) (by simp [g4]) (by simp [g5]) (by simp [g6]) (by simp [hc1, cntT, hk1, hbit]) (by simp [g8, hf1, freeT, hk1, hbit]) (by simp [g9]) (by simp [g10]) (by simp [g11]) (by simp [g12]) (by simp [g13])
        | false =>
          rw [hbit] at hhas
          simp [g1, g3, g4, g6, g7, hidx, AV.rowok, c2, c1, hhas]
          exact fin _ _ (.inl rfl) rfl (by simp [g2]) (by simp [g2']) (by simp [g3]) (by simp [g4]) (by simp [g5]) (by simp [g6]) (by simp [g7, hc1, cntT, hk1, hbit]) (by simp [hf1, freeT, hk1, hbit]) (by simp [g9]) (by simp [g10]) (by simp [g11]) (by simp [g12]) (by simp [g13])
      · have c1 : (t.kind == 1) = false := by simp [hk1]
        simp [g1, g3, g4, g6, g7, hidx, AV.rowok, c2, c1]
        exact fin _ _ (.inl rfl) rfl (by simp [g2]) (by simp [g2']) (by simp [g3]) (by simp [g4]) (by simp [g5]) (by simp [g6]) (by simp [g7, hc1, cntT, hk1, hk2]) (by simp [g8, hf1, freeT, hk1]) (by simp [g9]) (by simp [g10]) (by simp [g11]) (by simp [g12]) (by simp [g13])
  · rintro s' ⟨g1, g2, g2', g3, g4, g5, g6, g7, g8, g9, g10, g11, g12, g13⟩
    rw [List.take_of_length_le (Nat.le_refl _)] at g7 g8
    exact hexit _ g1 g2 g2' (by simp [g7]) (by simp [g8]) (by simp [g9]) (by simp [g10]) (by simp [g11]) (by simp [g12]) (by simp [g13])

/-- Among the literals that are left, with their places: the one that comes next. -/
def nextScan (ns : List ByteArray) (B : Nat) : List (Nat × Lit) → Int → Int → Int
  | [], best, _ => best
  | (i, l) :: rest, best, most =>
    if l.kind ≠ 1 ∧ free ns B (termsOf l) = false then i
    else if l.kind = 1 ∧ most < (cnt ns B (termsOf l) : Int) then nextScan ns B rest i (cnt ns B (termsOf l) : Int)
    else nextScan ns B rest best most
def openLits (left : List Bool) (ls : List Lit) : List (Nat × Lit) := (ls.zipIdx.filter fun x => left.getD x.2 false).map fun x => (x.2, x.1)
def nextOf (ns : List ByteArray) (B : Nat) (left : List Bool) (ls : List Lit) : Int := nextScan ns B (openLits left ls) (-1) (-1)

theorem open_items_rel {left : List Bool} : ∀ {rows : List AV} {ls : List Lit} (k : Nat), All2 Is rows ls →
    All2 (fun (it : List AV) (x : Nat × Lit) => ∃ v, it = [i64 (x.1 : Int), v] ∧ Is v x.2) (((rows.zipIdx k).filter fun x => left.getD x.2 false).map fun x => [i64 (x.2 : Int), x.1]) (((ls.zipIdx k).filter fun x => left.getD x.2 false).map fun x => (x.2, x.1))
  | _, _, k, .nil => .nil
  | _, _, k, .cons h hs => by
    simp only [List.zipIdx_cons, List.filter_cons]
    split
    · exact .cons ⟨_, rfl, h⟩ (open_items_rel (k + 1) hs)
    · exact open_items_rel (k + 1) hs

abbrev icell (n : Int) : Blk := .arr 0 1 [i64 n]

set_option maxHeartbeats 2000000 in
theorem next_call (g b lid lg : Nat) (H : Heap) (m : Mk) (ns : List ByteArray) (left : List Bool) (ls : List Lit) (h : Is m.vars ns) (hl : ns.length ≤ 64) (hb : H[b]? = some (m.blk g)) (hB : m.B < 2 ^ 64) (hH : HOK H)
    (hr2 : Is m.r2 ls) (hleft : m.left = .sl lid lg 0 left.length) (hlid : H[lid]? = some (.arr lg 1 (left.map AV.bool))) (hll : left.length = ls.length) (hls : ls.length < 2 ^ 40) (hk : ∀ l ∈ ls, known ns (termsOf l)) (hts : ∀ l ∈ ls, (termsOf l).length < 2 ^ 40) :
    callW tbl (.func f_plan_making_next [] []) [.ptr b g 0 0] H = some (i64 (nextOf ns m.B left ls), H) := by
  have hlt := lt_of hb
  have hltl := lt_of hlid
  have hopen : ∀ H', callW tbl (.func f_plan_making_open [] []) [.ptr b g 0 0] H' = some (.func f_plan_making_open_1 [] [.fptr false [.ptr b g 0 0] 0], H') := fun H' => by
    refine callB a_plan_making_open rfl rfl rfl (fun F hF => ?_)
    simp [a_plan_making_open, c_plan_making_open, AV.rowok]
    exact hF _ _ (close_same rfl)
  obtain ⟨rows, hrows, hr2'⟩ := IsL.rowsOf hr2
  refine callB a_plan_making_next rfl rfl rfl (fun F hF => ?_)
  simp [a_plan_making_next, c_plan_making_next, AV.rowok, putCells, hopen]
  refine EXEC_rangeL rfl (.func f_plan_making_open_1 [] [.fptr false [.ptr b g 0 0] 0]) (by simp) rfl (openItems left rows) (open_iter false g b lid lg m left rows ls hr2' hrows hleft hll hls) (by simp [openItems]; rintro it r i _ _ rfl; rfl) (fun L Lb Ld hR => ?_)
  have hrel := open_items_rel (left := left) 0 hrows
  have hlen3 : (H ++ [icell 0, icell (-1), icell (-1)]).length = H.length + 3 := by simp
  refine ⟨fun rest Hs => ∃ best most xs, Hs = H ++ [icell 0, icell best, icell most, .defr 0, L] ∧ All2 (fun (it : List AV) (x : Nat × Lit) => ∃ v, it = [i64 (x.1 : Int), v] ∧ Is v x.2) rest xs ∧ (∀ x ∈ xs, x.2 ∈ ls) ∧ nextScan ns m.B xs best most = nextOf ns m.B left ls,
    fun e Hs => e = .ret ∧ ∃ best most, Hs = H ++ [icell (nextOf ns m.B left ls), icell best, icell most, .defr 0, Ld .ret], ?_, ?_, ?_, ?_, ?_, ?_⟩
  · rintro rest Hs ⟨best, most, xs, rfl, _⟩
    exact ⟨by rw [List.getElem?_append_left hlt]; exact hb, by rw [List.getElem?_append_left hltl]; exact hlid⟩
  · exact ⟨-1, -1, openLits left ls, by simp, hrel, fun x hx => by
      simp only [openLits, List.mem_map, List.mem_filter] at hx
      obtain ⟨y, ⟨hy, _⟩, rfl⟩ := hx
      exact List.fst_mem_of_mem_zipIdx hy, rfl⟩
  · rintro rest Hs ⟨best, most, xs, rfl, _⟩
    simp
  · rintro it rest Hs G hmem ⟨best, most, xs, rfl, hx, hxl, hsc⟩ hT hE
    cases hx with
    | cons hx0 hxs =>
    rename_i x xs
    obtain ⟨v, rfl, hv⟩ := hx0
    obtain ⟨i, l⟩ := x
    simp only at hv
    have hlm : l ∈ ls := hxl (i, l) (by simp)
    obtain ⟨la, hla, rfl⟩ := id hv
    have hcl := (isl_cell hla).1
    obtain ⟨tv, htv, hti⟩ := terms_call (l.encW la) l ⟨la, hla, rfl⟩ (H ++ [icell 0, icell best, icell most, .defr 0, Lb])
    have hHb : (H ++ [icell 0, icell best, icell most, .defr 0, Lb])[b]? = some (m.blk g) := by rw [List.getElem?_append_left hlt]; exact hb
    simp [Tm.puts, AV.rowok, hcl, hR.r1, c_plan_making_next_l1, htv, IsL.len hti]
    refine next_loop0 g b _ m ns (termsOf l) tv false h hl hHb hB hti (hk l hlm) (hts l hlm) _ _ _ (.ptr H.length 0 0 0) (.ptr (H.length + 1) 0 0 0) (.ptr (H.length + 2) 0 0 0) (i64 (i : Int)) (.fptr false (l.encW la).cells 0) rfl (by simp) (by simp) (by simp) (by simp) (by simp) (by simp) (by simp) (by simp) (by simp) (by simp) (by simp) (by simp) (fun s' q1 q2 q2' q3 q4 q5 q6 q7 q8 q9 => ?_)
    simp only [nextScan] at hsc
    by_cases hk1 : l.kind = 1
    · have c1 : (l.kind == 1) = true := by simp [hk1]
      have c1' : (l.kind != 1) = false := by simp [hk1]
      rw [if_neg (by simp [hk1])] at hsc
      by_cases hgt : most < (cnt ns m.B (termsOf l) : Int)
      · rw [if_pos ⟨hk1, hgt⟩] at hsc
        simp [q9, q7, q6, q8, q5, q3, c1', c1, q1, hgt, AV.rowok, putCells, hR.r2]
        refine hT _ ?_
        rw [trunc_len (by simp)]
        exact ⟨i, _, xs, rfl, hxs, fun x hx => hxl x (by simp [hx]), hsc⟩
      · rw [if_neg (by simp [hgt])] at hsc
        simp [q9, q7, q3, c1', c1, q1, hgt, hR.r2]
        refine hT _ ?_
        rw [trunc_len (by simp)]
        exact ⟨best, most, xs, rfl, hxs, fun x hx => hxl x (by simp [hx]), hsc⟩
    · have c1 : (l.kind == 1) = false := by simp [hk1]
      have c1' : (l.kind != 1) = true := by simp [hk1]
      cases hfr : free ns m.B (termsOf l) with
      | false =>
        rw [if_pos ⟨hk1, hfr⟩] at hsc
        rw [hfr] at q4
        simp [q9, q8, q4, q5, c1', q1, AV.rowok, putCells, hR.rr]
        refine hE .ret _ ?_
        rw [trunc_len (by simp)]
        exact ⟨rfl, best, most, by rw [← hsc]⟩
      | true =>
        rw [if_neg (by simp [hfr]), if_neg (by simp [hk1])] at hsc
        rw [hfr] at q4
        simp [q9, q4, c1', c1, q1, hR.r2]
        refine hT _ ?_
        rw [trunc_len (by simp)]
        exact ⟨best, most, xs, rfl, hxs, fun x hx => hxl x (by simp [hx]), hsc⟩
  · rintro Hs H3 ⟨best, most, xs, rfl, hx, _, hsc⟩ rfl
    cases hx
    simp only [nextScan] at hsc
    rw [trunc_len (by simp)]
    refine ⟨by simp, ?_⟩
    simp [AV.rowok, putCells]
    refine hF _ _ ?_
    rw [hsc]
    exact close_back hH rfl (plain_under _ rfl)
  · rintro e Hs H3 ⟨rfl, best, most, rfl⟩ rfl
    rw [trunc_len (by simp)]
    refine ⟨by simp, ?_⟩
    simp
    exact hF _ _ (close_back hH rfl (plain_under _ rfl))
end Go.Abs.Plan

/- Plan: one step more, walked. -/
set_option linter.unusedSimpArgs false
set_option linter.unusedVariables false
namespace Go.Abs.Plan
open Enc (Is)

def StepsAt (H : Heap) (v : AV) (rows : List AV) : Prop := (v = .nilsl ∧ rows = []) ∨ ∃ sid sg, 3 ≤ sid ∧ v = .sl sid sg 0 rows.length ∧ H[sid]? = some (.arr sg 16 rows)
structure MkHeap (H : Heap) (rc : Blk) (left : List Bool) (m : Mk) (rows : List AV) : Prop where
  b0 : H[0]? = some rc
  b1 : H[1]? = some (.arr 1 1 (left.map AV.bool))
  b2 : H[2]? = some (m.blk 1)
  ok : HOK H
  st : StepsAt H m.steps rows

def stepOf (ns : List ByteArray) (B : Nat) (delta : Int) (i : Nat) (l : Lit) : Step :=
  if l.kind = 3 then ⟨3, i, ⟨#[]⟩, false, [], l.op, colOf ns B l.a, colOf ns (colB ns B l.a) l.b⟩
  else ⟨if l.kind = 2 then 2 else 1, i, l.atom.pred, decide (0 ≤ delta) && decide (delta < i), colsOf ns B l.atom.args, 0, zeroCol, zeroCol⟩
def stepB (ns : List ByteArray) (B : Nat) (l : Lit) : Nat := if l.kind = 3 then colB ns (colB ns B l.a) l.b else colsB ns B l.atom.args
def goodLit (ns : List ByteArray) (l : Lit) : Prop := ∀ t ∈ termsOf l, goodTerm ns t

theorem StepsAt.mono {H H' : Heap} {v : AV} {rows : List AV} (h : StepsAt H v rows) (hH : ∀ (j : Nat) (B : Blk), 3 ≤ j → H[j]? = some B → H'[j]? = some B) : StepsAt H' v rows := by
  rcases h with h | ⟨sid, sg, h1, h2, h3⟩
  · exact .inl h
  · exact .inr ⟨sid, sg, h1, h2, hH _ _ h1 h3⟩
theorem MkHeap.len {H : Heap} {rc : Blk} {left : List Bool} {m : Mk} {rows : List AV} (h : MkHeap H rc left m rows) : 2 < H.length := lt_of h.b2
theorem MkHeap.setLeft {H : Heap} {rc : Blk} {left : List Bool} {m : Mk} {rows : List AV} (h : MkHeap H rc left m rows) (i : Nat) (x : Bool) : MkHeap (H.set 1 (.arr 1 1 ((left.map AV.bool).set i (.bool x)))) rc (left.set i x) m rows := by
  have := h.len
  refine ⟨by rw [List.getElem?_set_ne (by decide)]; exact h.b0, ?_, by rw [List.getElem?_set_ne (by decide)]; exact h.b2, h.ok.set (plains_unders _ ?_), h.st.mono fun j B h3 hb => by rw [List.getElem?_set_ne (by omega)]; exact hb⟩
  · rw [List.getElem?_set_self (by omega), List.map_set]
  · rw [← List.map_set]
    generalize left.set i x = l
    induction l with
    | nil => rfl
    | cons a l ih => simp [ih]
theorem MkHeap.setM {H : Heap} {rc : Blk} {left : List Bool} {m m' : Mk} {rows : List AV} (h : MkHeap H rc left m rows) (hs : m'.steps = m.steps) (hu : (m'.blk 1).under H.length = true) : MkHeap (H.set 2 (m'.blk 1)) rc left m' rows := by
  have := h.len
  exact ⟨by rw [List.getElem?_set_ne (by decide)]; exact h.b0, by rw [List.getElem?_set_ne (by decide)]; exact h.b1, by rw [List.getElem?_set_self (by omega)], h.ok.set hu, hs ▸ h.st.mono fun j B h3 hb => by rw [List.getElem?_set_ne (by omega)]; exact hb⟩
theorem MkHeap.under {H : Heap} {rc : Blk} {left : List Bool} {m : Mk} {rows : List AV} (h : MkHeap H rc left m rows) (B : Nat) : ({ m with B := B }.blk 1).under H.length = true := by
  have := h.ok.get h.b2
  simpa [Mk.blk, Blk.under, AV.unders, AV.under] using this
theorem MkHeap.setB {H : Heap} {rc : Blk} {left : List Bool} {m : Mk} {rows : List AV} (h : MkHeap H rc left m rows) (B : Nat) : MkHeap (H.set 2 ({ m with B := B }.blk 1)) rc left { m with B := B } rows := h.setM (m' := { m with B := B }) rfl (h.under B)
theorem MkHeap.push {H : Heap} {rc : Blk} {left : List Bool} {m : Mk} {rows : List AV} (h : MkHeap H rc left m rows) (B : Blk) (hu : B.under (H.length + 1) = true) : MkHeap (H ++ [B]) rc left m rows := by
  have := h.len
  refine ⟨by rw [List.getElem?_append_left (by omega)]; exact h.b0, by rw [List.getElem?_append_left (by omega)]; exact h.b1, by rw [List.getElem?_append_left (by omega)]; exact h.b2, h.ok.push hu, h.st.mono fun j B h3 hb => by rw [List.getElem?_append_left (lt_of hb)]; exact hb⟩
theorem MkHeap.setNew {H T : Heap} {rc : Blk} {left : List Bool} {m : Mk} {rows : List AV} (h : MkHeap (H ++ T) rc left m rows) (hH : MkHeap H rc left m rows) {k : Nat} {B : Blk} (hu : B.under (H ++ T).length = true) : MkHeap (H ++ T.set k B) rc left m rows := by
  have h2 := hH.len
  have e : H ++ T.set k B = (H ++ T).set (H.length + k) B := by simp
  have ho : HOK (H ++ T.set k B) := by rw [e]; exact h.ok.set hu
  refine ⟨by rw [List.getElem?_append_left (by omega)]; exact hH.b0, by rw [List.getElem?_append_left (by omega)]; exact hH.b1, by rw [List.getElem?_append_left (by omega)]; exact hH.b2, ho, hH.st.mono fun j B h3 hb => by rw [List.getElem?_append_left (lt_of hb)]; exact hb⟩

theorem MkHeap.trunc {H : Heap} {rc : Blk} {left : List Bool} {m : Mk} {rows : List AV} {n : Nat} (h : MkHeap H rc left m rows) (h2 : 2 < n) (hn : n ≤ H.length) : MkHeap (Go.Abs.trunc n (.tuple []) H).2 rc left m rows := by
  unfold Go.Abs.trunc
  split
  · rename_i hc
    simp only [Bool.and_eq_true, List.all_eq_true] at hc
    have ht : ∀ j, j < n → (H.take n)[j]? = H[j]? := fun j hj => by rw [List.getElem?_take, if_pos hj]
    have hl : (H.take n).length = n := by simp; omega
    refine ⟨by rw [ht 0 (by omega)]; exact h.b0, by rw [ht 1 (by omega)]; exact h.b1, by rw [ht 2 (by omega)]; exact h.b2, fun B hB => by rw [hl]; exact hc.2 B hB, ?_⟩
    rcases h.st with hs | ⟨sid, sg, h3, hs, hb⟩
    · exact .inl hs
    · have hu := hc.2 (m.blk 1) (List.mem_of_getElem? (i := 2) (by rw [ht 2 (by omega)]; exact h.b2))
      rw [Mk.blk, hs] at hu
      simp [Blk.under, AV.unders, AV.under] at hu
      exact .inr ⟨sid, sg, h3, hs, by rw [ht sid (by omega)]; exact hb⟩
  · exact h

theorem unders_append {n : Nat} (a b : List AV) : AV.unders n (a ++ b) = (AV.unders n a && AV.unders n b) := by
  induction a with
  | nil => simp [AV.unders]
  | cons x a ih => simp [AV.unders, ih, Bool.and_assoc]

abbrev zStep (op i : Int) : AV := .agg [i64 op, i64 i, .str ⟨#[]⟩, .bool false, .nilsl, i64 0, i64 0, i64 0, i64 0, i64 0, .str ⟨#[]⟩, i64 0, i64 0, i64 0, i64 0, .str ⟨#[]⟩]

def stepEnd : ACode := (.draw [⟨some 67, false, .move (.tmp 0), none⟩, ⟨some 68, false, .move (.tmp 0), none⟩, ⟨some 69, false, .nilCheck (.tmp 68), none⟩, ⟨some 70, false, .fieldAddr 3 (.tmp 69), none⟩, ⟨some 71, false, .fieldAddr 1 (.tmp 70), none⟩, ⟨some 72, false, .load false 1 (.tmp 71), none⟩, ⟨some 73, false, .load true 16 (.tmp 5), none⟩, ⟨some 74, false, .buildSlice (.agg [(.int .i64 0), (.int .i64 0), (.str ⟨#[]⟩), (.bool false), .nilsl, (.int .i64 0), (.int .i64 0), (.int .i64 0), (.int .i64 0), (.int .i64 0), (.str ⟨#[]⟩), (.int .i64 0), (.int .i64 0), (.int .i64 0), (.int .i64 0), (.str ⟨#[]⟩)]) 1 [(0, (.tmp 73))], none⟩, ⟨some 75, false, .append 16 168 (.tmp 72) (.tmp 74), none⟩, ⟨some 76, false, .nilCheck (.tmp 67), none⟩, ⟨some 77, false, .fieldAddr 3 (.tmp 76), none⟩, ⟨some 78, false, .fieldAddr 1 (.tmp 77), none⟩, ⟨none, true, .store 1 (.tmp 78) (.tmp 75), none⟩] [(5, 7)])

/-- The step put behind the others: the end of 'step'. -/
theorem step_end (H : Heap) (rc : Blk) (left : List Bool) (m : Mk) (rows : List AV) (row : AV) (hM : MkHeap H rc left m rows) {st : Step} (hst : Is row st) (hrl : rows.length < 2 ^ 20) (s : St) (h5 : s.tm.get 5 = .ptr H.length 0 0 0) (h0 : s.tm.get 0 = .ptr 2 1 0 0) (hs : s.heap = H ++ [.arr 0 16 [row]]) (hd : s.dfr = [])
    (F : AV → Heap → Prop) (hF : ∀ H' sv, MkHeap H' rc left { m with steps := sv } (rows ++ [row]) → H.length < H'.length → F (.tuple []) H') :
    EXEC (callW tbl) loopW stepEnd [] s (FINQ [] F) := by
  unfold stepEnd
  have n2 := hM.len
  have k2 := hat_of hM.b2
  have hrow := Enc.row hst
  have hru := Enc.plain hst
  have hlen : row.cells.length = 16 := rowok_len hrow
  have htake : List.take 16 row.cells = row.cells := List.take_of_length_le (by omega)
  have hagg : AV.agg row.cells = row := by obtain ⟨c, _, rfl⟩ := hst; rfl
  have hrow' : row.rowok 16 = true := hrow
  have hz : (AV.agg [i64 0, i64 0, .str ⟨#[]⟩, .bool false, .nilsl, i64 0, i64 0, i64 0, i64 0, i64 0, .str ⟨#[]⟩, i64 0, i64 0, i64 0, i64 0, .str ⟨#[]⟩]).cells.length = 16 := rfl
  rcases hM.st with ⟨hsv, rfl⟩ | ⟨sid, sg, h3, hsv, hsb⟩
  · simp [hs, h5, h0, k2, Mk.blk, hsv, n2, hlen, htake, hagg, hrow', buildRows, appendA_sl, appendTo_nil, slRows, room]
    refine ⟨.inl (by omega), ?_⟩
    simp [hd, putCells, splice]
    refine hF _ (.sl (H.length + 1 + 1) 1 0 1) ?_ (by simp)
    have hu : ({ m with steps := .sl (H.length + 1 + 1) 1 0 1 }.blk 1).under (H.length + 3) = true := by
      have := blkUnder_mono (show H.length ≤ H.length + 3 by omega) (hM.ok.get hM.b2)
      simp [Mk.blk, Blk.under, AV.unders, AV.under] at this ⊢
      simp [this]
    have hur : ∀ n, AV.under n row = true := fun n => plain_under row hru
    refine ⟨?_, ?_, ?_, ?_, .inr ⟨H.length + 2, 1, by omega, by simp, ?_⟩⟩
    · rw [List.getElem?_append_left (by simp; omega), List.getElem?_set_ne (by decide)]; exact hM.b0
    · rw [List.getElem?_append_left (by simp; omega), List.getElem?_set_ne (by decide)]; exact hM.b1
    · rw [List.getElem?_append_left (by simp; omega), List.getElem?_set_self (by omega)]; rfl
    · intro C hC
      simp only [List.length_append, List.length_set, List.length_cons, List.length_nil]
      rcases List.mem_append.1 hC with hC | hC
      · rcases List.mem_or_eq_of_mem_set hC with hC | rfl
        · exact blkUnder_mono (by omega) (hM.ok C hC)
        · exact hu
      · simp at hC; rcases hC with rfl | rfl <;> simp [Blk.under, AV.unders, hur]
    · rw [List.getElem?_append_right (by simp)]; simp
  · have hsl := lt_of hsb
    have ks := hat_of hsb
    have hs2 : sid ≠ 2 := by omega
    have hs2' : 2 ≠ sid := by omega
    have hroom : (rows.length + 1) * 168 ≤ 140737488355328 := by omega
    have hno : ¬ (rows.length + 1 ≤ rows.length) := by omega
    have hlt3 : sid < H.length + 3 := by omega
    simp [hs, h5, h0, k2, ks, Mk.blk, hsv, n2, hsl, hs2, hs2', hlen, htake, hagg, hrow', buildRows, appendA_sl, appendTo_sl, slRows, room, hroom, hno, hlt3]
    refine ⟨.inl (by omega), ?_⟩
    simp [hd, putCells, splice]
    refine hF _ (.sl sid (sg + 1) 0 (rows.length + 1)) ?_ (by simp)
    have hu : ({ m with steps := .sl sid (sg + 1) 0 (rows.length + 1) }.blk 1).under (H.length + 3) = true := by
      have := blkUnder_mono (show H.length ≤ H.length + 3 by omega) (hM.ok.get hM.b2)
      simp [Mk.blk, Blk.under, AV.unders, AV.under] at this ⊢
      simp [this]; omega
    have hur : ∀ n, AV.under n row = true := fun n => plain_under row hru
    have hrs : AV.unders (H.length + 3) (rows ++ [row]) = true := by
      have := blkUnder_mono (show H.length ≤ H.length + 3 by omega) (hM.ok.get hsb)
      simp only [Blk.under] at this
      rw [unders_append, this]; simp [AV.unders, hur]
    refine ⟨?_, ?_, ?_, ?_, .inr ⟨sid, sg + 1, h3, by simp, ?_⟩⟩
    · rw [List.getElem?_append_left (by simp; omega), List.getElem?_set_ne (by decide), List.getElem?_set_ne (by omega)]; exact hM.b0
    · rw [List.getElem?_append_left (by simp; omega), List.getElem?_set_ne (by decide), List.getElem?_set_ne (by omega)]; exact hM.b1
    · rw [List.getElem?_append_left (by simp; omega), List.getElem?_set_self (by simp; omega)]; rfl
    · intro C hC
      simp only [List.length_append, List.length_set, List.length_cons, List.length_nil]
      rcases List.mem_append.1 hC with hC | hC
      · rcases List.mem_or_eq_of_mem_set hC with hC | rfl
        · rcases List.mem_or_eq_of_mem_set hC with hC | rfl
          · exact blkUnder_mono (by omega) (hM.ok C hC)
          · exact hrs
        · exact hu
      · simp at hC; rcases hC with rfl | rfl | rfl <;> simp [Blk.under, AV.unders, hur]
    · rw [List.getElem?_append_left (by simp; omega), List.getElem?_set_ne (by omega), List.getElem?_set_self (by omega)]

set_option maxHeartbeats 2000000 in
theorem step_call (H : Heap) (rc : Blk) (left : List Bool) (m : Mk) (rows : List AV) (ns : List ByteArray) (ls : List Lit) (i : Nat) (l : Lit) (hM : MkHeap H rc left m rows) (h : Is m.vars ns) (hl : ns.length ≤ 64) (hB : m.B < 2 ^ 64)
    (hr2 : Is m.r2 ls) (hleft : m.left = .sl 1 1 0 left.length) (hll : left.length = ls.length) (hi : ls[i]? = some l) (hg : goodLit ns l) (hk : l.kind = 1 ∨ l.kind = 2 ∨ l.kind = 3) (hts : l.atom.args.length < 2 ^ 20) (hrl : rows.length < 2 ^ 20) :
    ∃ H' sv row, callW tbl (.func f_plan_making_step [] []) [.ptr 2 1 0 0, i64 (i : Int)] H = some (.tuple [], H') ∧ MkHeap H' rc (left.set i false) { m with B := stepB ns m.B l, steps := sv } (rows ++ [row]) ∧ Is row (stepOf ns m.B m.delta i l) := by
  have step_code : c_plan_making_step = .seq _ (.seq _ (.seq _ (.seq _ stepEnd))) := rfl
  have n1 : 1 < H.length := lt_of hM.b1
  have n2 := lt_of hM.b2
  have k1 := hat_of hM.b1
  have k2 := hat_of hM.b2
  obtain ⟨fl, lv, ⟨la, hla, rfl⟩, hidx⟩ := IsL.idx hr2 hi
  simp only [show Enc.sz Lit = 14 from rfl] at hidx
  have hc := (isl_cell hla).1
  have hil := (List.getElem?_eq_some_iff.1 hi).1
  have hM1 := hM.setLeft i false
  have hL : (H.set 1 (.arr 1 1 ((left.map AV.bool).set i (.bool false)))).length = H.length := by simp
  obtain ⟨v, H', ⟨rfl, hlen, sv, row, hP, hrow⟩, hcall⟩ := callE (tbl := tbl) (f := f_plan_making_step) (first := []) (captured := []) (args := [.ptr 2 1 0 0, i64 (i : Int)]) (H := H)
    (fun v H' => v = .tuple [] ∧ H.length < H'.length ∧ ∃ sv row, MkHeap H' rc (left.set i false) { m with B := stepB ns m.B l, steps := sv } (rows ++ [row]) ∧ Is row (stepOf ns m.B m.delta i l)) a_plan_making_step rfl rfl rfl (fun F hF => by
    by_cases hk3 : l.kind = 3
    · have c3 : (l.kind == 3) = true := by simp [hk3]
      simp [a_plan_making_step, step_code, k2, Mk.blk, hidx, AV.rowok, hc, hleft, k1, n1, n2, buildA_nil, buildA_cons, splice, putCells, c3, hil, hll]
      generalize hH1 : H.set 1 (.arr 1 1 ((left.map AV.bool).set i (.bool false))) = H1 at *
      have m1 := hM1.len
      have mk2 := hat_of hM1.b2
      have hga : goodTerm ns l.a := hg l.a (by simp [termsOf, hk3])
      have hgb : goodTerm ns l.b := hg l.b (by simp [termsOf, hk3])
      have hM2 := hM1.setB (colB ns m.B l.a)
      have hB2 := colB_lt hl hB hga
      rw [← hL]
      refine CALLK_eq (col_call 1 2 _ m ns l.a h hl (hM1.push (.arr 0 16 [.agg [i64 3, i64 i, .str ⟨#[]⟩, .bool false, .nilsl, i64 l.op, i64 0, i64 0, i64 0, i64 0, .str ⟨#[]⟩, i64 0, i64 0, i64 0, i64 0, .str ⟨#[]⟩]]) rfl).b2 hB (hM1.push (.arr 0 16 [.agg [i64 3, i64 i, .str ⟨#[]⟩, .bool false, .nilsl, i64 l.op, i64 0, i64 0, i64 0, i64 0, .str ⟨#[]⟩, i64 0, i64 0, i64 0, i64 0, .str ⟨#[]⟩]]) rfl).ok hga) ?_
      simp [m1, Mk.blk, AV.rowok, putCells, splice]
      have hcell : (Blk.arr 0 16 [.agg ([i64 3, i64 i, .str ⟨#[]⟩, .bool false, .nilsl, i64 l.op] ++ (colOf ns m.B l.a).enc.cells ++ [i64 0, i64 0, i64 0, i64 0, .str ⟨#[]⟩])]).under ((H1.set 2 ({ m with B := colB ns m.B l.a }.blk 1)).length + 1) = true := rfl
      refine CALLK_eq (col_call 1 2 _ { m with B := colB ns m.B l.a } ns l.b h hl (hM2.push _ hcell).b2 hB2 (hM2.push _ hcell).ok hgb) ?_
      simp [m1, Mk.blk, AV.rowok, putCells, splice, List.set_set]
      have hst : Is (.agg [i64 3, i64 i, .str ⟨#[]⟩, .bool false, .nilsl, i64 l.op, i64 (colOf ns m.B l.a).use, i64 (colOf ns m.B l.a).var, i64 (colOf ns m.B l.a).v.kind, i64 (colOf ns m.B l.a).v.n, .str (colOf ns m.B l.a).v.s,
          i64 (colOf ns (colB ns m.B l.a) l.b).use, i64 (colOf ns (colB ns m.B l.a) l.b).var, i64 (colOf ns (colB ns m.B l.a) l.b).v.kind, i64 (colOf ns (colB ns m.B l.a) l.b).v.n, .str (colOf ns (colB ns m.B l.a) l.b).v.s]) (stepOf ns m.B m.delta i l) := by
        unfold stepOf; rw [if_pos hk3]; exact ⟨.nilsl, IsL.nil, rfl⟩
      have hM3 := hM1.setB (colB ns (colB ns m.B l.a) l.b)
      refine step_end _ rc _ _ rows _ hM3 hst hrl _ (by simp) (by simp) rfl rfl F (fun H' sv q1 q2 => hF _ _ ⟨rfl, by rw [← hL]; simpa using q2, sv, _, ?_, hst⟩)
      rw [show stepB ns m.B l = colB ns (colB ns m.B l.a) l.b by simp [stepB, hk3]]
      exact q1
    · have c3 : (l.kind == 3) = false := by simp [hk3]
      obtain ⟨q, c2, hq⟩ : ∃ q, (l.kind == 2) = q ∧ q = decide (l.kind = 2) := ⟨_, rfl, by cases h : l.kind == 2 <;> simp at h ⊢ <;> simp [h]⟩
      have hts' : termsOf l = l.atom.args := by simp [termsOf, hk3]
      cases q <;> (
        simp [a_plan_making_step, step_code, k2, Mk.blk, hidx, AV.rowok, hc, hleft, k1, n1, n2, buildA_nil, buildA_cons, splice, putCells, c3, c2, hil, hll]
        rw [← hL]
        generalize hH1 : H.set 1 (.arr 1 1 ((left.map AV.bool).set i (.bool false))) = H1 at *
        have m1 := hM1.len
        have hpush : ∀ op : Int, MkHeap (H1 ++ [.arr 0 16 [zStep op i]]) rc (left.set i false) m rows := fun op => hM1.push _ rfl
        refine RCALLK_ex (cols_call 1 2 _ m ns la l.atom.args h hl (hpush _).b2 hB (hpush _).ok hla (fun t ht => hg t (by rw [hts']; exact ht)) (by omega)) (fun cv hcv => ?_)
        have hcc := isl_cell hcv
        have mk2 := hat_of hM1.b2
        have hne : ¬ H1.length = 2 := by omega
        have hM2 := hM1.setB (colsB ns m.B l.atom.args)
        have hsB : stepB ns m.B l = colsB ns m.B l.atom.args := by simp [stepB, hk3]
        have hfin : ∀ (op : Int) (old : Bool) (s2 : St), op = (if l.kind = 2 then 2 else 1) → old = (decide (0 ≤ m.delta) && decide (m.delta < (i : Int))) → s2.heap = H1.set 2 ({ m with B := colsB ns m.B l.atom.args }.blk 1) ++ [.arr 0 16 [.agg [i64 op, i64 i, .str l.atom.pred, .bool old, cv, i64 0, i64 0, i64 0, i64 0, i64 0, .str ⟨#[]⟩, i64 0, i64 0, i64 0, i64 0, .str ⟨#[]⟩]]] → s2.dfr = [] →
            s2.tm.get 5 = .ptr H1.length 0 0 0 → s2.tm.get 0 = .ptr 2 1 0 0 → EXEC (callW tbl) loopW stepEnd [] s2 (FINQ [] F) := by
          rintro op old s2 rfl rfl r1 r2 r3 r4
          have hst : Is (.agg [i64 (if l.kind = 2 then 2 else 1), i64 i, .str l.atom.pred, .bool (decide (0 ≤ m.delta) && decide (m.delta < (i : Int))), cv, i64 0, i64 0, i64 0, i64 0, i64 0, .str ⟨#[]⟩, i64 0, i64 0, i64 0, i64 0, .str ⟨#[]⟩]) (stepOf ns m.B m.delta i l) := by
            unfold stepOf; rw [if_neg hk3]; exact ⟨cv, hcv, rfl⟩
          refine step_end _ rc _ _ rows _ hM2 hst hrl s2 (by simpa using r3) r4 r1 r2 F (fun H' sv q1 q2 => hF _ _ ⟨rfl, by rw [← hL]; simpa using q2, sv, _, ?_, hst⟩)
          rw [hsB]; exact q1
        by_cases hd : 0 ≤ m.delta
        · simp [m1, mk2, Mk.blk, hd, AV.rowok, hcc, putCells, splice, hne]
          exact hfin _ _ _ (by simp at hq; simp [hq]) (by simp [hd]) rfl (by simp) (by simp) (by simp)
        · simp [m1, mk2, Mk.blk, hd, AV.rowok, hcc, putCells, splice, hne]
          exact hfin _ _ _ (by simp at hq; simp [hq]) (by simp [hd]) rfl (by simp) (by simp) (by simp)))
  refine ⟨(trunc H.length (.tuple []) H').2, sv, row, ?_, hP.trunc n2 (Nat.le_of_lt hlen), hrow⟩
  rw [hcall]
  simp only [show a_plan_making_step.frz = false from rfl, closeCall, Bool.false_eq_true, if_false]
  unfold trunc
  split <;> rfl
end Go.Abs.Plan
