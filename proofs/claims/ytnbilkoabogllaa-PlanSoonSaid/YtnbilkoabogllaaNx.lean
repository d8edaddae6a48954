/- Plan: PlanOnce: counters. -/
import Derived.Test.YtnbilkoabogllaaMx
set_option linter.unusedSimpArgs false
set_option linter.unusedVariables false
namespace Go.Abs
instance encInt : Enc Int where
  Is v x := v = i64 x
  lend := by rintro v x rfl; rfl
  plain := by rintro v x rfl; rfl
  sz := 1
  row := by rintro v x rfl; rfl
end Go.Abs
namespace Go.Abs.Plan
open Enc (Is)

theorem ones_run (v : AV) (xs : List Int) (h : Is v xs) (hl : xs.length < 2 ^ 40) (h1 : ∀ x ∈ xs, x = 1) : ∃ w, runPure (callW tbl) loopW a_law18_ones [v] = some w ∧ w = .bool true ∧ w.unlent = true := by
  have hln := IsL.len h
  have hc := isl_cell h
  refine pureK a_law18_ones rfl (fun F hF => ?_)
  simp [a_law18_ones, c_law18_ones]
  refine EXEC_loop_inv (fun k s => ∃ (j : Nat), j + k = xs.length ∧ s.heap = [] ∧ s.dfr = [] ∧ s.tm.get 0 = v ∧ s.tm.get 3 = i64 j) xs.length ⟨0, by simp, rfl, rfl, by simp, by simp⟩ ?_
  rintro k s' Q ⟨j, g0, g2, g3, g4, g5⟩ hn' hx
  by_cases hj : j < xs.length
  · have hj' : (j : Int) < xs.length := by omega
    have hg : xs[j]? = some xs[j] := by simp [hj]
    obtain ⟨fl', sv, rfl, hidx⟩ := IsL.idx h hg
    simp only [show Enc.sz Int = 1 from rfl] at hidx
    rw [h1 _ (List.getElem_mem hj)] at hidx
    have hwr : IntKind.i64.wrap ((j : Int) + 1) = ((j + 1 : Nat) : Int) := by rw [wrap_i64 (by omega) (by omega)]; push_cast; rfl
    simp [c_law18_ones_l0, g4, g5, hln, hj', hidx, AV.rowok]
    rw [hwr]
    refine hn' _ (k - 1) (by omega) ⟨j + 1, by omega, g2, g3, by simp [g4], by simp⟩
  · have hj' : ¬ (j : Int) < xs.length := by omega
    simp [c_law18_ones_l0, g4, g5, hln, hj', AV.rowok]
    refine hx _ _ (by simp) ?_
    simp [g2, g3]
    exact hF _ _ _ (reify_plain rfl) ⟨rfl, rfl⟩
end Go.Abs.Plan

/- Plan: PlanOnce: the plain law: every literal once, every variable bound once. -/
set_option linter.unusedSimpArgs false
set_option linter.unusedVariables false
namespace Go.Abs.Plan
open Enc (Is)

theorem nextScan_test (ns : List ByteArray) (B : Nat) : ∀ (xs : List (Nat × Lit)) (best most : Int), (∃ x ∈ xs, x.2.kind ≠ 1 ∧ free ns B (termsOf x.2) = false) → 0 ≤ nextScan ns B xs best most
  | [], best, most, ⟨x, hx, _⟩ => by cases hx
  | (i, l) :: rest, best, most, ⟨x, hx, h1, h2⟩ => by
    simp only [nextScan]
    split
    · omega
    · rename_i hn
      rcases List.mem_cons.1 hx with rfl | hx
      · exact absurd ⟨h1, h2⟩ hn
      · split
        · exact nextScan_pos ns B rest _ _ (by omega)
        · exact nextScan_test ns B rest _ _ ⟨x, hx, h1, h2⟩
theorem openLits_of {left : List Bool} {ls : List Lit} {i : Nat} {l : Lit} (hi : ls[i]? = some l) (hl : left[i]? = some true) : (i, l) ∈ openLits left ls := by
  simp only [openLits, List.mem_map, List.mem_filter]
  exact ⟨(l, i), ⟨List.mem_zipIdx_iff_getElem?.2 hi, by simp [List.getD_eq_getElem?_getD, hl]⟩, rfl⟩

/-- Once what must hold is done, nothing is free. -/
def Covers (ns : List ByteArray) (ls : List Lit) : Prop := ∀ B, (∀ l ∈ ls, l.kind = 1 → ∀ t ∈ l.atom.args, bound ns B t) → ∀ l ∈ ls, free ns B (termsOf l) = false

theorem next_done {ns : List ByteArray} {ls : List Lit} {left : List Bool} {B : Nat} (hcov : Covers ns ls) (hlen : left.length = ls.length) (hd : DoneOk ns ls left B) (hn : nextOf ns B left ls < 0) : ∀ i : Nat, left[i]? ≠ some true := by
  intro i hi
  have hil := (List.getElem?_eq_some_iff.1 hi).1
  have hli : ls[i]? = some (ls[i]'(by omega)) := by simp
  have hk := nextOf_end hn hli hi
  have hall : ∀ l ∈ ls, l.kind = 1 → ∀ t ∈ l.atom.args, bound ns B t := by
    intro l hl h1 t ht
    obtain ⟨j, hj, rfl⟩ := List.getElem_of_mem hl
    have hj' : ls[j]? = some ls[j] := by simp [hj]
    have hjl : j < left.length := by omega
    cases hb : left[j] with
    | false => exact hd j _ hj' (by simp [hjl, hb]) h1 t ht
    | true => exact absurd h1 (nextOf_end hn hj' (by simp [hjl, hb]))
  have hf := hcov B hall _ (List.mem_of_getElem? hli)
  have := nextScan_test ns B (openLits left ls) (-1) (-1) ⟨_, openLits_of hli hi, hk, hf⟩
  unfold nextOf at hn
  omega

def litCnt (ss : List Step) (i : Nat) : Nat := ss.countP fun s => decide (s.lit = (i : Int))
theorem stepOf_lit (ns : List ByteArray) (B : Nat) (delta : Int) (i : Nat) (l : Lit) : (stepOf ns B delta i l).lit = (i : Int) := by unfold stepOf; split <;> rfl

theorem countTrue_zero {left : List Bool} (h : ∀ i : Nat, left[i]? ≠ some true) : countTrue left = 0 := by
  unfold countTrue
  rw [List.length_eq_zero_iff, List.filter_eq_nil_iff]
  intro b hb
  obtain ⟨i, hi, rfl⟩ := List.getElem_of_mem hb
  have := h i
  simp [hi] at this
  simp [this]

theorem makeLoop_once {ns : List ByteArray} {ls : List Lit} {delta : Int} (hcov : Covers ns ls) : ∀ (k : Nat) (left : List Bool) (B : Nat), countTrue left ≤ k → left.length = ls.length → DoneOk ns ls left B →
    (makeLoop ns ls delta k left B).1.length = countTrue left ∧ (∀ i : Nat, litCnt (makeLoop ns ls delta k left B).1 i = if left[i]? = some true then 1 else 0) ∧ ∀ s ∈ (makeLoop ns ls delta k left B).1, ∃ i : Nat, s.lit = (i : Int) ∧ i < ls.length := by
  intro k
  induction k with
  | zero =>
    intro left B hc hlen hd
    have h0 : ∀ i : Nat, left[i]? ≠ some true := by
      intro i hi
      have := countTrue_set hi
      omega
    exact ⟨by simp [makeLoop]; omega, fun i => by rw [if_neg (h0 i)]; rfl, fun s hs => by cases hs⟩
  | succ k ih =>
    intro left B hc hlen hd
    by_cases hn : 0 ≤ nextOf ns B left ls
    · obtain ⟨i, l, hi, hli, hle, hfr⟩ := nextOf_free hn
      have hct := countTrue_set hle
      have hneg : ¬ (i : Int) < 0 := by omega
      have hil := (List.getElem?_eq_some_iff.1 hle).1
      have hd' : DoneOk ns ls (left.set i false) (stepB ns B l) := by
        intro j l' hj hlj h1 t ht
        by_cases e : i = j
        · subst e
          rw [hli] at hj
          simp only [Option.some.injEq] at hj
          subst hj
          unfold stepB
          rw [if_neg (by omega)]
          exact colsB_bound ht
        · rw [List.getElem?_set_ne e] at hlj
          exact fun hk => stepB_mono (hd j l' hj hlj h1 t ht hk)
      obtain ⟨g1, g2, g3⟩ := ih (left.set i false) (stepB ns B l) (by omega) (by simpa using hlen) hd'
      have hmk : makeLoop ns ls delta (k + 1) left B = (stepOf ns B delta i l :: (makeLoop ns ls delta k (left.set i false) (stepB ns B l)).1, (makeLoop ns ls delta k (left.set i false) (stepB ns B l)).2) := by
        simp [makeLoop, hi, hneg, hli]
      rw [hmk]
      refine ⟨by simp [g1]; omega, fun j => ?_, fun s hs => ?_⟩
      · have := g2 j
        simp only [litCnt, List.countP_cons, stepOf_lit] at this ⊢
        rw [this]
        by_cases e : i = j
        · subst e; simp [hil]; simpa [hil] using hle
        · have e' : ¬ (i : Int) = (j : Int) := by omega
          simp [e, e']
      · rcases List.mem_cons.1 hs with rfl | hs
        · exact ⟨i, stepOf_lit .., by omega⟩
        · exact g3 s hs
    · have hmk : makeLoop ns ls delta (k + 1) left B = ([], B) := by simp [makeLoop, show nextOf ns B left ls < 0 by omega]
      rw [hmk]
      have h0 := next_done hcov hlen hd (by omega)
      exact ⟨by rw [countTrue_zero h0]; rfl, fun i => by rw [if_neg (h0 i)]; rfl, fun s hs => by cases hs⟩
end Go.Abs.Plan

/- Plan: PlanOnce: every variable bound once. -/
set_option linter.unusedSimpArgs false
set_option linter.unusedVariables false
namespace Go.Abs.Plan
open Enc (Is)

def binds (cs : List Col) (j : Nat) : Nat := cs.countP fun c => decide (c.use = 3 ∧ c.var = (j : Int))
def bitN (B j : Nat) : Nat := if B.testBit j = true then 1 else 0

theorem colOf_bind {ns : List ByteArray} {B : Nat} {t : Term} (hk : kind123 t) (j : Nat) : binds [colOf ns B t] j + bitN B j = bitN (colB ns B t) j := by
  unfold colOf colB binds bitN
  by_cases h2 : t.kind = 2
  · simp [h2]
  · by_cases h3 : t.kind = 3
    · simp [h3]
    · by_cases hb : B.testBit (plN ns t.name) = true
      · simp [h2, h3, hb, testBit_or hb]
      · by_cases e : plN ns t.name = j
        · subst e
          simp [h2, h3, hb, Nat.testBit_or, Nat.testBit_two_pow_self]
        · have e' : ¬ ((plN ns t.name : Nat) : Int) = (j : Int) := by omega
          have : (2 ^ plN ns t.name).testBit j = false := by rw [Nat.testBit_two_pow]; simpa using e
          simp [h2, h3, hb, e', Nat.testBit_or, this, e]
theorem colsOf_bind {ns : List ByteArray} : ∀ {ts : List Term} {B : Nat}, (∀ t ∈ ts, kind123 t) → ∀ j, binds (colsOf ns B ts) j + bitN B j = bitN (colsB ns B ts) j
  | [], B, _, j => by simp [colsOf, binds, colsB]
  | t :: ts, B, hk, j => by
    have h1 := colOf_bind (ns := ns) (B := B) (hk t (by simp)) j
    have h2 := colsOf_bind (ns := ns) (ts := ts) (B := colB ns B t) (fun x hx => hk x (by simp [hx])) j
    have h3 : colsB ns B (t :: ts) = colsB ns (colB ns B t) ts := rfl
    rw [h3, ← h2]
    simp only [colsOf, binds, List.countP_cons, List.countP_nil] at h1 h2 ⊢
    omega
theorem colB_same {ns : List ByteArray} {B : Nat} {t : Term} (hk : kind123 t) (h : bound ns B t) : colB ns B t = B := by
  unfold colB
  rcases hk with h1 | h2 | h3
  · rw [if_neg (by omega), if_neg (by omega), testBit_or (h h1)]
  · rw [if_pos h2]
  · rw [if_neg (by omega), if_pos h3]
theorem stepOf_bind {ns : List ByteArray} {B : Nat} {delta : Int} {i : Nat} {l : Lit} (hl : LitFacts ns l) (hf : l.kind = 1 ∨ free ns B (termsOf l) = false) (j : Nat) : binds (stepOf ns B delta i l).cols j + bitN B j = bitN (stepB ns B l) j := by
  unfold stepOf stepB
  by_cases h3 : l.kind = 3
  · have hb := free_bound (by rcases hf with h | h; omega; exact h)
    have ht : termsOf l = [l.a, l.b] := by unfold termsOf; rw [if_pos h3]
    have hk := hl.kinds
    rw [ht] at hb hk
    have e1 := colB_same (hk l.a (by simp)) (hb l.a (by simp))
    have e2 := colB_same (hk l.b (by simp)) (hb l.b (by simp))
    simp only [h3, if_true, e1, e2]
    simp [binds]
  · have hk := hl.kinds
    rw [termsOf_args h3] at hk
    simp only [h3, if_false]
    exact colsOf_bind hk j

def bindsAll (ss : List Step) (j : Nat) : Nat := (ss.map fun s => binds s.cols j).sum
theorem makeLoop_bind {ns : List ByteArray} {ls : List Lit} {delta : Int} (hls : ∀ l ∈ ls, LitFacts ns l) (j : Nat) : ∀ (k : Nat) (left : List Bool) (B : Nat), bindsAll (makeLoop ns ls delta k left B).1 j + bitN B j = bitN (makeLoop ns ls delta k left B).2 j := by
  intro k
  induction k with
  | zero => intro left B; simp [makeLoop, bindsAll]
  | succ k ih =>
    intro left B
    by_cases hn : 0 ≤ nextOf ns B left ls
    · obtain ⟨i, l, hi, hli, hle, hfr⟩ := nextOf_free hn
      have hneg : ¬ (i : Int) < 0 := by omega
      have hmk : makeLoop ns ls delta (k + 1) left B = (stepOf ns B delta i l :: (makeLoop ns ls delta k (left.set i false) (stepB ns B l)).1, (makeLoop ns ls delta k (left.set i false) (stepB ns B l)).2) := by
        simp [makeLoop, hi, hneg, hli]
      have h1 := stepOf_bind (delta := delta) (i := i) (hls l (List.mem_of_getElem? hli)) hfr j
      have h2 := ih (left.set i false) (stepB ns B l)
      rw [hmk]
      simp only [bindsAll, List.map_cons, List.sum_cons] at h2 ⊢
      omega
    · have hmk : makeLoop ns ls delta (k + 1) left B = ([], B) := by simp [makeLoop, show nextOf ns B left ls < 0 by omega]
      rw [hmk]; simp [bindsAll]
end Go.Abs.Plan

/- Plan: PlanOnce: the plain law, whole. -/
set_option linter.unusedSimpArgs false
set_option linter.unusedVariables false
namespace Go.Abs.Plan
open Enc (Is)

theorem okCols_range {n : Nat} {w sk : Bool} : ∀ {cs : List Col} {B B' : Nat}, okCols n w sk B cs = some B' → ∀ c ∈ cs, c.use = 3 → 0 ≤ c.var ∧ c.var.toNat < n
  | [], B, B', h, c, hc => by cases hc
  | a :: cs, B, B', h, c, hc => by
    simp only [okCols] at h
    split at h
    · rename_i B2 h2
      rcases List.mem_cons.1 hc with rfl | hc
      · intro h3
        unfold okCol at h2
        rw [if_neg (by omega), if_neg (by omega), if_pos h3] at h2
        split at h2
        · rename_i hh; exact ⟨hh.2.1, hh.2.2.1⟩
        · simp at h2
      · exact okCols_range h c hc
    · simp at h
theorem okStep_range {n B B' : Nat} {f : Bool} {s : Step} (h : okStep n B f s = some B') : ∀ c ∈ s.cols, c.use = 3 → 0 ≤ c.var ∧ c.var.toNat < n := by
  unfold okStep at h
  split at h
  · split at h
    · rename_i hh; intro c hc; rw [hh.2.1] at hc; cases hc
    · simp at h
  · split at h
    · exact okCols_range h
    · simp at h
theorem okSteps_range {n : Nat} : ∀ {ss : List Step} {f : Bool} {B B' : Nat}, okSteps n f B ss = some B' → ∀ s ∈ ss, ∀ c ∈ s.cols, c.use = 3 → 0 ≤ c.var ∧ c.var.toNat < n
  | [], f, B, B', h, s, hs => by cases hs
  | a :: ss, f, B, B', h, s, hs => by
    simp only [okSteps] at h
    split at h
    · rename_i B2 h2
      rcases List.mem_cons.1 hs with rfl | hs
      · exact okStep_range h2
      · exact okSteps_range h s hs
    · simp at h

structure OnceOk (p : Plan) (n : Nat) : Prop where
  len : p.steps.length = n
  lits : ∀ i, i < n → litCnt p.steps i = 1
  litR : ∀ s ∈ p.steps, ∃ i : Nat, s.lit = (i : Int) ∧ i < n
  vars : ∀ j, j < p.vars.length → bindsAll p.steps j = 1
  varR : ∀ s ∈ p.steps, ∀ c ∈ s.cols, c.use = 3 → 0 ≤ c.var ∧ c.var.toNat < p.vars.length

theorem Plans.covers {r : Rule} (h : Plans r) : Covers (ruleVars (cleanRule r)) (cleanRule r).body := by
  intro B hB l hl
  simp only [free, List.any_eq_false]
  intro t ht
  by_cases h1 : t.kind = 1
  · obtain ⟨l', hl', hk', u, hu, hu1, hun⟩ := h.all_bound (body_in hl ht h1)
    have := hB l' hl' hk' u hu hu1
    rw [hun] at this
    simp [freeT, this]
  · simp [freeT, h1]

theorem plN_inj {ns : List ByteArray} (hn : ns.Nodup) {j : Nat} (hj : j < ns.length) : plN ns ns[j] = j := by
  unfold plN
  rw [List.findIdx_eq hj]
  refine ⟨by simp, fun i hi => ?_⟩
  simp only [decide_eq_false_iff_not]
  intro e
  have := (List.getElem_inj hn).1 e
  omega
theorem namesOf_nodup (ts : List Term) : (namesOf ts).Nodup := by
  unfold namesOf
  suffices ∀ out : List ByteArray, out.Nodup → (ts.foldl addName out).Nodup from this [] (by simp)
  induction ts with
  | nil => intro out h; exact h
  | cons t ts ih =>
    intro out h
    refine ih _ ?_
    unfold addName
    split
    · rename_i hc
      rw [List.nodup_append]
      refine ⟨h, by simp, fun a ha b hb e => ?_⟩
      simp at hb
      subst hb; subst e
      have h2 := hc.2
      simp only [List.any_eq_false, decide_eq_true_eq] at h2
      exact h2 _ ha rfl
    · exact h
end Go.Abs.Plan
namespace Go.Abs.Plan
open Enc (Is)

theorem countTrue_left0 {n : Nat} {delta : Int} : (delta < 0 → countTrue (left0 delta n) = n) ∧ (∀ i : Nat, delta = (i : Int) → i < n → countTrue (left0 delta n) + 1 = n) := by
  have key : ∀ (m : Nat), countTrue (left0 delta m) + (if 0 ≤ delta ∧ delta < m then 1 else 0) = m := by
    intro m
    induction m with
    | zero => simp [left0, countTrue]
    | succ m ih =>
      have : left0 delta (m + 1) = left0 delta m ++ [decide ((m : Int) ≠ delta)] := by simp [left0, List.range_succ]
      rw [this]
      have h2 : countTrue (left0 delta m ++ [decide ((m : Int) ≠ delta)]) = countTrue (left0 delta m) + (if (m : Int) ≠ delta then 1 else 0) := by
        unfold countTrue
        rw [List.filter_append, List.length_append]
        by_cases e : (m : Int) = delta <;> simp [e]
      rw [h2]
      by_cases e : (m : Int) = delta
      · subst e
        have c1 : ¬ ((0 : Int) ≤ (m : Int) ∧ (m : Int) < (m : Nat)) := by omega
        have c2 : (0 : Int) ≤ (m : Int) ∧ (m : Int) < ((m + 1 : Nat) : Int) := by omega
        rw [if_neg c1] at ih
        rw [if_pos c2, if_neg (by simp)]
        omega
      · simp [e]
        split at ih <;> split <;> omega
  constructor
  · intro hd
    have := key n
    rw [if_neg (by omega)] at this; omega
  · rintro i rfl hi
    have := key n
    rw [if_pos (by omega)] at this; exact this

theorem once_ok (r : Rule) (delta : Int) (hf : Fits r) (he : makeErr r delta = 0) : OnceOk (makeOf r delta) r.body.length := by
  have hp : hasPlans r = true := by
    cases h : hasPlans r with
    | true => rfl
    | false => simp [makeErr, h] at he
  have hP := plans_of hp
  have hrange : ¬ (delta < -1 ∨ (r.body.length : Int) ≤ delta) := by intro h; simp [makeErr, hp, h] at he
  have hcmp : compares r delta = false := by
    cases h : compares r delta with
    | false => rfl
    | true => rw [makeErr] at he; simp [hp, hrange, h] at he
  have hmade := made_ok r delta hf he
  obtain ⟨Bx, By, ho1, ho2⟩ := hmade.ok.ok
  have hrng := okSteps_range ho1
  have hmk : makeOf r delta = planOf r delta := by unfold makeOf; rw [if_pos he]
  rw [hmk] at ho1 ho2 hrng ⊢
  have hfacts := hP.facts
  have hcov := hP.covers
  have hlb : (cleanRule r).body.length = r.body.length := by simp [cleanRule]
  have hl0 : (left0 delta r.body.length).length = (cleanRule r).body.length := by simp [left0, hlb]
  have hct : countTrue (left0 delta r.body.length) ≤ (cleanRule r).body.length := by rw [← hl0]; exact countTrue_le _
  -- bits at the end
  have hend : ∀ (B : Nat), (∀ l ∈ (cleanRule r).body, l.kind = 1 → ∀ t ∈ l.atom.args, bound (ruleVars (cleanRule r)) B t) → ∀ j, j < (ruleVars (cleanRule r)).length → bitN B j = 1 := by
    intro B hB j hj
    obtain ⟨l, hl, hk, u, hu, hu1, hun⟩ := hP.all_bound (List.getElem_mem hj)
    have := hB l hl hk u hu hu1
    rw [hun] at this
    have e := plN_inj (ns := ruleVars (cleanRule r)) (namesOf_nodup _) hj
    rw [e] at this
    simp [bitN, this]
  by_cases hd : 0 ≤ delta
  · obtain ⟨i, rfl⟩ : ∃ i : Nat, delta = (i : Int) := ⟨delta.toNat, by omega⟩
    have hil : i < (cleanRule r).body.length := by omega
    have hli : (cleanRule r).body[i]? = some (cleanRule r).body[i] := by simp [hil]
    have hps : planSteps (ruleVars (cleanRule r)) (cleanRule r).body (i : Int) (left0 (i : Int) r.body.length) = (deltaStep (ruleVars (cleanRule r)) (i : Int) (cleanRule r).body[i] :: (makeLoop (ruleVars (cleanRule r)) (cleanRule r).body (i : Int) (cleanRule r).body.length (left0 (i : Int) r.body.length) (colsB (ruleVars (cleanRule r)) 0 (varsOf (cleanRule r).body[i].atom.args))).1,
        (makeLoop (ruleVars (cleanRule r)) (cleanRule r).body (i : Int) (cleanRule r).body.length (left0 (i : Int) r.body.length) (colsB (ruleVars (cleanRule r)) 0 (varsOf (cleanRule r).body[i].atom.args))).2) := by
      unfold planSteps; rw [if_pos hd]; simp [hli]
    have hlf := hfacts _ (List.getElem_mem hil)
    have hk3 : (cleanRule r).body[i].kind ≠ 3 := by
      intro h3
      have h0 : i < r.body.length := by omega
      simp only [cleanRule, List.getElem_map, cleanLit_kind] at h3
      simp [compares, h0, h3] at hcmp
    generalize hl : (cleanRule r).body[i] = l at *
    have ht := termsOf_args hk3
    have hkv : ∀ t ∈ varsOf l.atom.args, kind123 t := fun t h => hlf.kinds t (by rw [ht]; exact varsOf_mem h)
    have hd0 : DoneOk (ruleVars (cleanRule r)) (cleanRule r).body (left0 (i : Int) r.body.length) (colsB (ruleVars (cleanRule r)) 0 (varsOf l.atom.args)) := by
      intro j l' hj hlj h1 t htt hk1
      have hjl := (List.getElem?_eq_some_iff.1 hj).1
      rw [left0_get (by omega)] at hlj
      simp at hlj
      have : j = i := by omega
      subst this
      rw [hli] at hj
      simp only [Option.some.injEq] at hj
      subst hj
      obtain ⟨u, hu, hu1, hun⟩ := varsOf_cover htt hk1
      have := colsB_bound (ns := ruleVars (cleanRule r)) (B := 0) hu hu1
      rw [hun] at this; exact this
    obtain ⟨_, _, g3⟩ := makeLoop_ok (delta := (i : Int)) hfacts (cleanRule r).body.length _ _ false hct hl0 hd0
    obtain ⟨q1, q2, q3⟩ := makeLoop_once (delta := (i : Int)) hcov (cleanRule r).body.length _ _ hct hl0 hd0
    have hcnt := (countTrue_left0 (n := r.body.length) (delta := (i : Int))).2 i rfl (by omega)
    refine ⟨?_, fun j hj => ?_, fun s hs => ?_, fun j hj => ?_, hrng⟩
    · simp only [planOf, hps, List.length_cons, q1]; exact hcnt
    · simp only [planOf, hps]
      have := q2 j
      rw [left0_get hj] at this
      simp only [litCnt, List.countP_cons] at this ⊢
      rw [this]
      by_cases e : j = i
      · subst e; simp [deltaStep]
      · have e' : ¬ (i : Int) = (j : Int) := by omega
        have e2 : ¬ (j : Int) = (i : Int) := by omega
        simp [deltaStep, e', e2]
    · simp only [planOf, hps] at hs
      rcases List.mem_cons.1 hs with rfl | hs
      · exact ⟨i, rfl, by omega⟩
      · obtain ⟨k, h1, h2⟩ := q3 s hs; exact ⟨k, h1, by omega⟩
    · simp only [planOf, hps] at hj ⊢
      have h1 := makeLoop_bind (delta := (i : Int)) hfacts j (cleanRule r).body.length (left0 (i : Int) r.body.length) (colsB (ruleVars (cleanRule r)) 0 (varsOf l.atom.args))
      have h2 := colsOf_bind (ns := ruleVars (cleanRule r)) (B := 0) hkv j
      have h3 := hend _ g3 j hj
      have h0 : bitN 0 j = 0 := by simp [bitN]
      simp only [bindsAll, List.map_cons, List.sum_cons, deltaStep] at h1 ⊢
      omega
  · have hps : planSteps (ruleVars (cleanRule r)) (cleanRule r).body delta (left0 delta r.body.length) = makeLoop (ruleVars (cleanRule r)) (cleanRule r).body delta (cleanRule r).body.length (left0 delta r.body.length) 0 := by unfold planSteps; rw [if_neg hd]
    have hd0 : DoneOk (ruleVars (cleanRule r)) (cleanRule r).body (left0 delta r.body.length) 0 := by
      intro j l' hj hlj
      have hjl := (List.getElem?_eq_some_iff.1 hj).1
      rw [left0_get (by omega)] at hlj
      simp at hlj
      omega
    obtain ⟨_, _, g3⟩ := makeLoop_ok (delta := delta) hfacts (cleanRule r).body.length _ 0 true hct hl0 hd0
    obtain ⟨q1, q2, q3⟩ := makeLoop_once (delta := delta) hcov (cleanRule r).body.length _ 0 hct hl0 hd0
    have hcnt := (countTrue_left0 (n := r.body.length) (delta := delta)).1 (by omega)
    refine ⟨?_, fun j hj => ?_, fun s hs => ?_, fun j hj => ?_, hrng⟩
    · simp only [planOf, hps, q1]; exact hcnt
    · simp only [planOf, hps]
      have := q2 j
      rw [left0_get hj] at this
      rw [this]
      have e2 : ¬ (j : Int) = delta := by omega
      simp [e2]
    · simp only [planOf, hps] at hs
      obtain ⟨k, h1, h2⟩ := q3 s hs; exact ⟨k, h1, by omega⟩
    · simp only [planOf, hps] at hj ⊢
      have h1 := makeLoop_bind (delta := delta) hfacts j (cleanRule r).body.length (left0 delta r.body.length) 0
      have h3 := hend _ g3 j hj
      have h0 : bitN 0 j = 0 := by simp [bitN]
      omega
end Go.Abs.Plan

/- Plan: PlanOnce's loops. -/
set_option linter.unusedSimpArgs false
set_option linter.unusedVariables false
namespace Go.Abs.Plan
open Enc (Is)

def cntRows (f : Nat → Nat) (n : Nat) : List AV := (List.range n).map fun i => i64 (f i : Nat)
theorem cntRows_len (f : Nat → Nat) (n : Nat) : (cntRows f n).length = n := by simp [cntRows]
theorem cntRows_get {f : Nat → Nat} {n i : Nat} (h : i < n) : (cntRows f n)[i]'(by rw [cntRows_len]; exact h) = i64 (f i : Nat) := by simp [cntRows]
theorem cntRows_set {f g : Nat → Nat} {n i : Nat} (h : i < n) (hg : ∀ k, g k = f k + if k = i then 1 else 0) : (cntRows f n).set i (i64 ((f i + 1 : Nat) : Int)) = cntRows g n := by
  apply List.ext_getElem
  · simp [cntRows]
  · intro k h1 h2
    simp only [cntRows, List.getElem_set, List.getElem_map, List.getElem_range, hg]
    by_cases e : i = k
    · subst e; simp
    · have : ¬ k = i := fun h => e h.symm
      simp [e, this]
theorem cntRows_zero (n : Nat) : cntRows (fun _ => 0) n = List.replicate n (i64 0) := by
  apply List.ext_getElem
  · simp [cntRows]
  · intro i h1 h2; simp [cntRows]
theorem take_snoc {α : Type} {l : List α} {j : Nat} (h : j < l.length) : l.take (j + 1) = l.take j ++ [l[j]] := by
  rw [List.take_add_one, List.getElem?_eq_getElem h]; rfl
theorem binds_take_snoc {cs : List Col} {j v : Nat} (h : j < cs.length) : binds (cs.take (j + 1)) v = binds (cs.take j) v + if cs[j].use = 3 ∧ cs[j].var = (v : Int) then 1 else 0 := by
  rw [take_snoc h]
  simp only [binds, List.countP_append, List.countP_singleton, decide_eq_true_eq]
theorem bindsAll_take {ss : List Step} {j v : Nat} (h : j < ss.length) : bindsAll (ss.take (j + 1)) v = bindsAll (ss.take j) v + binds ss[j].cols v := by
  rw [take_snoc h]
  simp only [bindsAll, List.map_append, List.sum_append, List.map_cons, List.map_nil, List.sum_cons, List.sum_nil]; omega
theorem litCnt_take {ss : List Step} {j i : Nat} (h : j < ss.length) : litCnt (ss.take (j + 1)) i = litCnt (ss.take j) i + if ss[j].lit = (i : Int) then 1 else 0 := by
  rw [take_snoc h]
  simp only [litCnt, List.countP_append, List.countP_singleton, decide_eq_true_eq]
theorem litCnt_le {ss : List Step} {j i : Nat} : litCnt (ss.take j) i ≤ litCnt ss i := (List.take_sublist j ss).countP_le
theorem bindsAll_le {ss : List Step} {j v : Nat} : bindsAll (ss.take j) v ≤ bindsAll ss v := by
  have h := congrArg (fun l => bindsAll l v) (List.take_append_drop j ss)
  simp only [bindsAll, List.map_append, List.sum_append] at h ⊢
  omega
theorem binds_le {cs : List Col} {j v : Nat} : binds (cs.take j) v ≤ binds cs v := (List.take_sublist j cs).countP_le

/-- The columns of a step: each that binds is counted. -/
theorem once_loop0 (st : Step) (cv : AV) (hcv : Is cv st.cols) (n : Nat) (F0 : Nat → Nat) (hcl : st.cols.length < 2 ^ 40) (hr : ∀ c ∈ st.cols, c.use = 3 → 0 ≤ c.var ∧ c.var.toNat < n) (hF0 : ∀ v, v < n → F0 v + binds st.cols v < 2 ^ 40) (b g : Nat) (H : Heap) (hb : H[b]? = some (.arr g 1 (cntRows F0 n)))
    (s : St) (ks : List KF) (R : AExit → St → Prop) (x1 x5 x7 x9 x2 : AV) (fl : Bool)
    (e1 : s.heap = H) (e2 : s.dfr = []) (e3 : s.tm.get 8 = .sl b g 0 n) (e4 : s.tm.get 10 = .fptr fl (st.encW cv).cells 0) (e5 : s.tm.get 11 = i64 0) (y1 : s.tm.get 1 = x1) (y2 : s.tm.get 2 = x2) (y5 : s.tm.get 5 = x5) (y7 : s.tm.get 7 = x7) (y9 : s.tm.get 9 = x9)
    (hexit : ∀ s' : St, s'.heap = H.set b (.arr g 1 (cntRows (fun v => F0 v + binds st.cols v) n)) → s'.dfr = [] → s'.tm.get 8 = .sl b g 0 n → s'.tm.get 1 = x1 → s'.tm.get 2 = x2 → s'.tm.get 5 = x5 → s'.tm.get 7 = x7 → s'.tm.get 9 = x9 → KONT (callW tbl) loopW ks (.exit 2) s' R) :
    EXEC (callW tbl) loopW (.loop c_law18_PlanOnce_l0) ks s R := by
  have hc := isl_cell hcv
  have hln := IsL.len hcv
  have hlt := lt_of hb
  refine EXEC_loop_inv (fun k s => ∃ (j : Nat), j + k = st.cols.length ∧ s.heap = H.set b (.arr g 1 (cntRows (fun v => F0 v + binds (st.cols.take j) v) n)) ∧ s.dfr = [] ∧ s.tm.get 8 = .sl b g 0 n ∧ s.tm.get 10 = .fptr fl (st.encW cv).cells 0 ∧ s.tm.get 11 = i64 j ∧ s.tm.get 1 = x1 ∧ s.tm.get 2 = x2 ∧ s.tm.get 5 = x5 ∧ s.tm.get 7 = x7 ∧ s.tm.get 9 = x9) st.cols.length
    ⟨0, by simp, by rw [e1]; simp [binds, set_same hb], e2, e3, e4, e5, y1, y2, y5, y7, y9⟩ ?_
  rintro k s' Q ⟨j, g0, g1, g2, g3, g4, g5, z1, z2, z5, z7, z9⟩ hn' hx
  simp only [AV.cells] at g4
  by_cases hj : j < st.cols.length
  · have hj' : (j : Int) < st.cols.length := by omega
    have hg : st.cols[j]? = some st.cols[j] := by simp [hj]
    obtain ⟨fl', lv, rfl, hidx⟩ := IsL.idx hcv hg
    simp only [show Enc.sz Col = 5 from rfl] at hidx
    have hwr : IntKind.i64.wrap ((j : Int) + 1) = ((j + 1 : Nat) : Int) := by rw [wrap_i64 (by omega) (by omega)]; push_cast; rfl
    have hcm := List.getElem_mem hj
    by_cases h3 : st.cols[j].use = 3
    · obtain ⟨hv0, hvn⟩ := hr _ hcm h3
      obtain ⟨v, hv⟩ : ∃ v : Nat, st.cols[j].var = (v : Int) := ⟨st.cols[j].var.toNat, by omega⟩
      rw [hv, Int.toNat_natCast] at hvn
      have hneg : ¬ (v : Int) < 0 := by omega
      have hge : ¬ (n : Int) ≤ (v : Int) := by omega
      have hbd := hF0 v hvn
      have hbl := binds_le (cs := st.cols) (j := j) (v := v)
      obtain ⟨rows, q, r1, r2, r3, r4, r5⟩ : ∃ (rows : List AV) (q : Nat), s'.heap = H.set b (.arr g 1 rows) ∧ rows.length = n ∧ (∀ h : v < rows.length, rows[v] = i64 (q : Nat)) ∧ rows.set v (i64 ((q + 1 : Nat) : Int)) = cntRows (fun v => F0 v + binds (st.cols.take (j + 1)) v) n ∧ q < 2 ^ 40 :=
        ⟨_, F0 v + binds (st.cols.take j) v, g1, cntRows_len _ _, fun h => cntRows_get (f := fun v => F0 v + binds (st.cols.take j) v) hvn, cntRows_set (f := fun v => F0 v + binds (st.cols.take j) v) (g := fun v => F0 v + binds (st.cols.take (j + 1)) v) hvn (fun k => by
          rw [binds_take_snoc hj]
          by_cases e : k = v
          · subst e; simp [h3, hv]; omega
          · have : ¬ ((v : Nat) : Int) = (k : Int) := by omega
            simp [h3, hv, e, this]), by omega⟩
      have hh : hat s'.heap b = .arr g 1 rows := by rw [r1]; simp [hlt]
      have hlt' : b < s'.heap.length := by rw [r1]; simpa using hlt
      have hvr : v < rows.length := by omega
      have r3' := r3 hvr
      have hw2 : IntKind.i64.wrap ((q : Int) + 1) = ((q + 1 : Nat) : Int) := by rw [wrap_i64 (by omega) (by omega)]; push_cast; rfl
      simp [c_law18_PlanOnce_l0, g3, g4, g5, hln, hc, hj', hidx, AV.rowok, h3, hv, hneg, hge, hh, hlt', r2, hvn, hvr, r3', putCells]
      rw [hwr, hw2, r4]
      refine hn' _ (k - 1) (by omega) ⟨j + 1, by omega, by simp [r1], g2, by simp [g3], by simp [g4], by simp, by simp [z1], by simp [z2], by simp [z5], by simp [z7], by simp [z9]⟩
    · have c3 : (st.cols[j].use != 3) = true := by simpa using h3
      simp [c_law18_PlanOnce_l0, g3, g4, g5, hln, hc, hj', hidx, AV.rowok, c3]
      rw [hwr]
      refine hn' _ (k - 1) (by omega) ⟨j + 1, by omega, ?_, g2, by simp [g3], by simp [g4], by simp, by simp [z1], by simp [z2], by simp [z5], by simp [z7], by simp [z9]⟩
      have : (fun v => F0 v + binds (st.cols.take (j + 1)) v) = fun v => F0 v + binds (st.cols.take j) v := by funext v; rw [binds_take_snoc hj]; simp [h3]
      rw [this]; exact g1
  · have hj' : ¬ (j : Int) < st.cols.length := by omega
    simp [c_law18_PlanOnce_l0, g3, g4, g5, hln, hc, hj', AV.rowok]
    rw [List.take_of_length_le (by omega)] at g1
    exact hx _ _ (by simp) (hexit _ g1 g2 (by simp [g3]) (by simp [z1]) (by simp [z2]) (by simp [z5]) (by simp [z7]) (by simp [z9]))
end Go.Abs.Plan

/- Plan: PlanOnce's outer loop. -/
set_option linter.unusedSimpArgs false
set_option linter.unusedVariables false
namespace Go.Abs.Plan
open Enc (Is)

theorem once_loop1 (p : Plan) (n : Nat) (vv vs vh : AV) (rb : Blk) (h1 : Is vv p.vars) (h2 : Is vs p.steps) (h3 : Is vh p.head) (hv64 : p.vars.length ≤ 64) (ho : OnceOk p n) (hn : n < 2 ^ 40) (hcols : ∀ s ∈ p.steps, s.cols.length < 2 ^ 40) (s : St) (ks : List KF) (R : AExit → St → Prop)
    (e1 : s.heap = [rb, .arr 0 1 (cntRows (fun _ => 0) n), .arr 0 1 (cntRows (fun _ => 0) p.vars.length)]) (e2 : s.dfr = []) (e5 : s.tm.get 5 = .fptr false [vv, vs, .str p.pred, vh] 0) (e7 : s.tm.get 7 = .sl 1 0 0 n) (e8 : s.tm.get 8 = .sl 2 0 0 p.vars.length) (e9 : s.tm.get 9 = i64 0)
    (hexit : ∀ s' : St, s'.heap = [rb, .arr 0 1 (cntRows (litCnt p.steps) n), .arr 0 1 (cntRows (bindsAll p.steps) p.vars.length)] → s'.dfr = [] → s'.tm.get 7 = .sl 1 0 0 n → s'.tm.get 8 = .sl 2 0 0 p.vars.length → KONT (callW tbl) loopW ks (.exit 0) s' R) :
    EXEC (callW tbl) loopW (.loop c_law18_PlanOnce_l1) ks s R := by
  have hc1 := isl_cell h1
  have hc2 := isl_cell h2
  have hc3 := isl_cell h3
  have l2 := IsL.len h2
  have hlen := ho.len
  refine EXEC_loop_inv (fun k s => ∃ (j : Nat), j + k = p.steps.length ∧ s.heap = [rb, .arr 0 1 (cntRows (litCnt (p.steps.take j)) n), .arr 0 1 (cntRows (bindsAll (p.steps.take j)) p.vars.length)] ∧ s.dfr = [] ∧ s.tm.get 5 = .fptr false [vv, vs, .str p.pred, vh] 0 ∧ s.tm.get 7 = .sl 1 0 0 n ∧ s.tm.get 8 = .sl 2 0 0 p.vars.length ∧ s.tm.get 9 = i64 j) p.steps.length
    ⟨0, by simp, by rw [e1]; rfl, e2, e5, e7, e8, e9⟩ ?_
  rintro k s' Q ⟨j, g0, g1, g2, g5, g7, g8, g9⟩ hn' hx
  by_cases hj : j < p.steps.length
  · have hj' : (j : Int) < p.steps.length := by omega
    have hg : p.steps[j]? = some p.steps[j] := by simp [hj]
    obtain ⟨fl', sv, ⟨cv, hcv, rfl⟩, hidx⟩ := IsL.idx h2 hg
    simp only [show Enc.sz Step = 16 from rfl] at hidx
    have hcc := isl_cell hcv
    have hsm := List.getElem_mem hj
    obtain ⟨i, hli, hin⟩ := ho.litR _ hsm
    have hneg : ¬ (i : Int) < 0 := by omega
    have hge : ¬ (n : Int) ≤ (i : Int) := by omega
    have hcl := cntRows_len (litCnt (p.steps.take j)) n
    have hlc : litCnt (p.steps.take j) i ≤ 1 := by rw [← ho.lits i hin]; exact litCnt_le
    have hcg := cntRows_get (f := litCnt (p.steps.take j)) hin
    have hw2 : IntKind.i64.wrap (((litCnt (p.steps.take j) i : Nat) : Int) + 1) = ((litCnt (p.steps.take j) i + 1 : Nat) : Int) := by rw [wrap_i64 (by omega) (by omega)]; push_cast; rfl
    have hset := cntRows_set (f := litCnt (p.steps.take j)) (g := litCnt (p.steps.take (j + 1))) hin (fun k => by
      rw [litCnt_take hj, hli]
      by_cases e : k = i
      · subst e; simp
      · have : ¬ ((i : Nat) : Int) = (k : Int) := by omega
        simp [e, this])
    have hwr : IntKind.i64.wrap ((j : Int) + 1) = ((j + 1 : Nat) : Int) := by rw [wrap_i64 (by omega) (by omega)]; push_cast; rfl
    simp [c_law18_PlanOnce_l1, g1, g5, g7, g8, g9, hc2, l2, hj', hidx, AV.rowok, hcc, hli, hneg, hge, hin, hcl, hcg, putCells, hw2, hset]
    have hset' : (cntRows (litCnt (p.steps.take j)) n).set i (.int .i64 ((litCnt (p.steps.take j) i : Int) + 1)) = cntRows (litCnt (p.steps.take (j + 1))) n := by rw [← hset]; congr 2
    rw [hset']
    refine once_loop0 p.steps[j] cv hcv p.vars.length (bindsAll (p.steps.take j)) (hcols _ hsm) (ho.varR _ hsm) (fun v hv => ?_) 2 0 _ rfl _ _ _ (s'.tm.get 1) (.fptr false [vv, vs, .str p.pred, vh] 0) (.sl 1 0 0 n) (i64 j) (s'.tm.get 2) false rfl g2 (by simp [g8]) (by simp [hli]) (by simp) (by simp) (by simp) (by simp [g5]) (by simp [g7]) (by simp [g9]) ?_
    · have := bindsAll_le (ss := p.steps) (j := j + 1) (v := v)
      rw [bindsAll_take hj, ho.vars v hv] at this
      omega
    · intro s2 q1 q2 q8 _ _ q5 q7 q9
      simp [q9]
      rw [hwr]
      refine hn' _ (k - 1) (by omega) ⟨j + 1, by omega, ?_, q2, by simp [q5], by simp [q7], by simp [q8], by simp⟩
      rw [q1]
      have : (fun v => bindsAll (p.steps.take j) v + binds p.steps[j].cols v) = bindsAll (p.steps.take (j + 1)) := by funext v; rw [bindsAll_take hj]
      rw [this]; rfl
  · have hj' : ¬ (j : Int) < p.steps.length := by omega
    simp [c_law18_PlanOnce_l1, g5, g9, hc2, l2, hj', AV.rowok]
    rw [List.take_of_length_le (by omega)] at g1
    exact hx _ _ (by simp) (hexit _ g1 g2 (by simp [g7]) (by simp [g8]))
end Go.Abs.Plan

/- Plan: PlanOnce's body. -/
set_option linter.unusedSimpArgs false
set_option linter.unusedVariables false
namespace Go.Abs.Plan
open Enc (Is)

theorem okStep_cols {n B B' : Nat} {f : Bool} {s : Step} (h : okStep n B f s = some B') : s.cols.length ≤ 8 := by
  unfold okStep at h
  split at h
  · split at h
    · rename_i hh; rw [hh.2.1]; simp
    · simp at h
  · split at h
    · rename_i hh; exact hh.2.2.2.2
    · simp at h
theorem okSteps_cols {n : Nat} : ∀ {ss : List Step} {f : Bool} {B B' : Nat}, okSteps n f B ss = some B' → ∀ s ∈ ss, s.cols.length ≤ 8
  | [], f, B, B', h, s, hs => by cases hs
  | a :: ss, f, B, B', h, s, hs => by
    simp only [okSteps] at h
    split at h
    · rename_i B2 h2
      rcases List.mem_cons.1 hs with rfl | hs
      · exact okStep_cols h2
      · exact okSteps_cols h s hs
    · simp at h
theorem cnt_is (f : Nat → Nat) (n : Nat) : All2 Is (cntRows f n) ((List.range n).map fun i => ((f i : Nat) : Int)) := by
  unfold cntRows
  induction (List.range n) with
  | nil => exact .nil
  | cons a l ih => exact .cons rfl ih
theorem ones_call (H : Heap) (b g n : Nat) (f : Nat → Nat) (hb : H[b]? = some (.arr g 1 (cntRows f n))) (hn : n < 2 ^ 40) (h1 : ∀ i, i < n → f i = 1) : callW tbl (.func f_law18_ones [] []) [.sl b g 0 n] H = some (.bool true, H) := by
  have hre : reify H reifyDepth (.sl b g 0 n) = some (.fsl false (cntRows f n)) := reify_rows hb (by rw [cntRows_len]; omega) (by rw [List.drop_zero]; exact List.take_of_length_le (by rw [cntRows_len]; exact Nat.le_refl _)) (cnt_is f n)
  obtain ⟨r, h2, rfl⟩ := callP1L (f := f_law18_ones) (af := a_law18_ones) (S := fun w => w = .bool true) rfl rfl ((List.range n).map fun i => ((f i : Nat) : Int))
    (fun v h => by
      obtain ⟨w, g1, g2, g3⟩ := ones_run v _ h (by simpa using hn) (by
        intro x hx
        simp only [List.mem_map, List.mem_range] at hx
        obtain ⟨i, hi, rfl⟩ := hx
        rw [h1 i hi]; rfl)
      exact ⟨w, g1, g2, g3⟩) _ _ H hre (IsL.fsl (cnt_is f n))
  exact h2

set_option maxHeartbeats 1000000 in
theorem PlanOnce_run (v : AV) (r : Rule) (delta : Int) (h : Is v r) (hbl : r.body.length < 2 ^ 63) (hal : r.head.args.length < 2 ^ 63) (hargs : ∀ l ∈ r.body, l.atom.args.length < 2 ^ 63) (hd : IntKind.i64.wrap delta = delta) :
    ∃ w, runPure (callW tbl) loopW a_law18_PlanOnce [v, i64 delta] = some w ∧ w = .bool true := by
  refine pureK a_law18_PlanOnce rfl (fun F hF => ?_)
  have haw := awake_call
  obtain ⟨va, vb, ha, hb, rfl⟩ := h
  have hca := isl_cell ha
  have hcb := isl_cell hb
  simp [a_law18_PlanOnce, c_law18_PlanOnce, AV.rowok, hca, hcb, haw]
  refine CALLK_ex (Rule_call (.agg [.str r.head.pred, va, vb]) r ⟨va, vb, ha, hb, rfl⟩ hbl hal hargs _) (fun rv hrv => ?_)
  have hrv0 := hrv
  obtain ⟨ra, rb, hra, hrb, hre⟩ := hrv
  have hcra := isl_cell hra
  have hcrb := isl_cell hrb
  have lrb := IsL.len hrb
  subst hre
  simp [AV.rowok, hcra, hcrb, putCells]
  refine CALLK_ex (Make_call _ (ruleOf r) delta hrv0 (ruleOf_fits r) hd _) ?_
  rintro w ⟨pv, rfl, hpv⟩
  obtain ⟨pa, pb, pc, h1, h2, h3, rfl⟩ := hpv
  have hc1 := isl_cell h1
  have hc2 := isl_cell h2
  have hc3 := isl_cell h3
  have l1 := IsL.len h1
  have l2 := IsL.len h2
  by_cases he : makeErr (ruleOf r) delta = 0
  · have hm := (made_ok (ruleOf r) delta (ruleOf_fits r) he).ok
    have ho := once_ok (ruleOf r) delta (ruleOf_fits r) he
    have hfb := (ruleOf_fits r).body
    have hlen := ho.len
    rw [hlen] at l2
    have q1 : (ruleOf r).body.length * 8 ≤ 140737488355328 := by omega
    have q1' : (ruleOf r).body.length ≤ 140737488355328 := by omega
    have hv64 := hm.vars
    have q2 : (makeOf (ruleOf r) delta).vars.length * 8 ≤ 140737488355328 := by omega
    have q2' : (makeOf (ruleOf r) delta).vars.length ≤ 140737488355328 := by omega
    obtain ⟨Bx, By, ho1, ho2⟩ := hm.ok
    simp [he, AV.rowok, hc1, hc2, hc3, l1, l2, lrb, hcrb, q1, q2, q1', q2']
    refine once_loop1 (makeOf (ruleOf r) delta) (ruleOf r).body.length pa pb pc _ h1 h2 h3 hm.vars ho (by omega) (fun s hs => ?_) _ _ _ (by rw [cntRows_zero, cntRows_zero]) rfl (by simp) (by simp) (by simp) (by simp) ?_
    · have := okSteps_cols ho1 s hs; omega
    · intro s' g1 g2 g3 g4
      have c1 := ones_call s'.heap 1 0 (ruleOf r).body.length (litCnt (makeOf (ruleOf r) delta).steps) (by rw [g1]; rfl) (by omega) (fun i hi => ho.lits i hi)
      have c2 := ones_call s'.heap 2 0 (makeOf (ruleOf r) delta).vars.length (bindsAll (makeOf (ruleOf r) delta).steps) (by rw [g1]; rfl) (by omega) (fun i hi => ho.vars i hi)
      simp [g2, g3, g4, c1, c2]
      exact hF _ _ _ (reify_plain rfl) rfl
  · simp [he, AV.rowok, hc1, hc2, hc3]
    exact hF _ _ _ (reify_plain rfl) rfl
end Go.Abs.Plan

/- Plan: PlanSoon: the plain law: a test behind a step that must hold uses a variable that the step binds. -/
set_option linter.unusedSimpArgs false
set_option linter.unusedVariables false
namespace Go.Abs.Plan
open Enc (Is)

def usesB (s by_ : Step) : Bool := (s.cols ++ [s.a, s.b]).any fun x => by_.cols.any fun c => decide (x.use = 4) && decide (c.use = 3) && decide (x.var = c.var)
def isTest (s : Step) : Prop := s.op = 3 ∨ s.op = 2
def Soon : Option Step → List Step → Prop
  | _, [] => True
  | last, s :: ss => (s.op = 3 ∨ s.op = 2 → (∀ b, last = some b → b.op = 1 → usesB s b = true) ∧ Soon last ss) ∧ (¬ (s.op = 3 ∨ s.op = 2) → Soon (some s) ss)

theorem nextScan_soon (ns : List ByteArray) (B : Nat) : ∀ (xs : List (Nat × Lit)) (best most : Int), (∃ x ∈ xs, x.2.kind ≠ 1 ∧ free ns B (termsOf x.2) = false) → ∃ x ∈ xs, nextScan ns B xs best most = (x.1 : Int) ∧ x.2.kind ≠ 1
  | [], _, _, ⟨x, hx, _⟩ => by cases hx
  | (i, l) :: rest, best, most, ⟨x, hx, h1, h2⟩ => by
    simp only [nextScan]
    split
    · rename_i h; exact ⟨(i, l), by simp, rfl, h.1⟩
    · rename_i hn
      have hr : ∃ x ∈ rest, x.2.kind ≠ 1 ∧ free ns B (termsOf x.2) = false := by
        rcases List.mem_cons.1 hx with rfl | hx
        · exact absurd ⟨h1, h2⟩ hn
        · exact ⟨x, hx, h1, h2⟩
      split
      · obtain ⟨y, hy, h3⟩ := nextScan_soon ns B rest (i : Int) (cnt ns B (termsOf l) : Int) hr
        exact ⟨y, by simp [hy], h3⟩
      · obtain ⟨y, hy, h3⟩ := nextScan_soon ns B rest best most hr
        exact ⟨y, by simp [hy], h3⟩

theorem nextOf_pos {ns : List ByteArray} {B : Nat} {left : List Bool} {ls : List Lit} {i : Nat} {l : Lit} (h : nextOf ns B left ls = (i : Int)) (hl : ls[i]? = some l) (hk : l.kind = 1) :
    ∀ (j : Nat) (l' : Lit), ls[j]? = some l' → left[j]? = some true → l'.kind ≠ 1 → free ns B (termsOf l') = true := by
  intro j l' hj hlj hk'
  by_cases hf : free ns B (termsOf l') = true
  · exact hf
  · obtain ⟨x, hx, h1, h2⟩ := nextScan_soon ns B (openLits left ls) (-1) (-1) ⟨(j, l'), by
      simp only [openLits, List.mem_map, List.mem_filter]
      exact ⟨(l', j), ⟨List.mem_zipIdx_iff_getElem?.2 hj, by simp [List.getD_eq_getElem?_getD, hlj]⟩, rfl⟩, hk', by simpa using hf⟩
    have h3 : nextScan ns B (openLits left ls) (-1) (-1) = (i : Int) := h
    rw [h3] at h1
    have h4 := (openLits_mem hx).1
    have : i = x.1 := by omega
    rw [← this, hl] at h4
    simp only [Option.some.injEq] at h4
    rw [← h4] at h2
    exact absurd hk h2

theorem colsOf_mem {ns : List ByteArray} : ∀ {ts : List Term} {B : Nat} {t : Term}, t ∈ ts → (∀ u ∈ ts, kind123 u) → (∀ u ∈ ts, bound ns B u) → colOf ns B t ∈ colsOf ns B ts
  | u :: ts, B, t, h, hk, hb => by
    simp only [colsOf]
    rcases List.mem_cons.1 h with rfl | h
    · simp
    · rw [colB_same (hk u (by simp)) (hb u (by simp))]
      exact List.mem_cons_of_mem _ (colsOf_mem h (fun x hx => hk x (by simp [hx])) (fun x hx => hb x (by simp [hx])))

/-- A test's step tests each of its variables. -/
theorem test_col {ns : List ByteArray} {B : Nat} {delta : Int} {i : Nat} {l : Lit} (hl : LitFacts ns l) (hk : l.kind ≠ 1) (hf : free ns B (termsOf l) = false) {t : Term} (ht : t ∈ termsOf l) (h1 : t.kind = 1) :
    ∃ x ∈ (stepOf ns B delta i l).cols ++ [(stepOf ns B delta i l).a, (stepOf ns B delta i l).b], x.use = 4 ∧ x.var = (plN ns t.name : Nat) := by
  have hb := free_bound hf
  have hcol : colOf ns B t = ⟨4, (plN ns t.name : Nat), zeroVal⟩ := by
    unfold colOf
    rw [if_neg (by omega), if_neg (by omega), if_pos (hb t ht h1)]
  unfold stepOf
  by_cases h3 : l.kind = 3
  · have hts : termsOf l = [l.a, l.b] := by unfold termsOf; rw [if_pos h3]
    have hkk := hl.kinds
    rw [hts] at ht hb hkk
    rw [if_pos h3]
    have e1 := colB_same (hkk l.a (by simp)) (hb l.a (by simp))
    refine ⟨colOf ns B t, ?_, by rw [hcol], by rw [hcol]⟩
    simp only [e1]
    simp only [List.mem_cons, List.not_mem_nil, or_false] at ht
    rcases ht with rfl | rfl <;> simp
  · rw [if_neg h3]
    have hts := termsOf_args h3
    have hkk := hl.kinds
    rw [hts] at ht hb hkk
    refine ⟨colOf ns B t, ?_, by rw [hcol], by rw [hcol]⟩
    simp only [List.mem_append]
    exact .inl (colsOf_mem ht hkk hb)

theorem binds_pos {cs : List Col} {j : Nat} (h : 0 < binds cs j) : ∃ c ∈ cs, c.use = 3 ∧ c.var = (j : Int) := by
  unfold binds at h
  obtain ⟨c, hc, h⟩ := List.countP_pos_iff.1 h
  simp only [decide_eq_true_eq] at h
  exact ⟨c, hc, h⟩
theorem stepB_test {ns : List ByteArray} {B : Nat} {l : Lit} (hl : LitFacts ns l) (hf : free ns B (termsOf l) = false) : stepB ns B l = B := by
  have hb := free_bound hf
  unfold stepB
  by_cases h3 : l.kind = 3
  · have hts : termsOf l = [l.a, l.b] := by unfold termsOf; rw [if_pos h3]
    have hkk := hl.kinds
    rw [hts] at hb hkk
    rw [if_pos h3, colB_same (hkk l.a (by simp)) (hb l.a (by simp)), colB_same (hkk l.b (by simp)) (hb l.b (by simp))]
  · rw [if_neg h3]
    have hts := termsOf_args h3
    have hkk := hl.kinds
    rw [hts] at hb hkk
    clear hts hf h3
    generalize l.atom.args = ts at hb hkk
    induction ts with
    | nil => rfl
    | cons u ts ih =>
      show colsB ns (colB ns B u) ts = B
      rw [colB_same (hkk u (by simp)) (hb u (by simp))]
      exact ih (fun x hx => hb x (by simp [hx])) (fun x hx => hkk x (by simp [hx]))

/-- What is known of the last step that is no test. -/
def LastOk (ns : List ByteArray) (ls : List Lit) (left : List Bool) (B : Nat) (last : Option Step) : Prop :=
  ∀ b, last = some b → b.op = 1 → ∃ B0, (∀ j, binds b.cols j + bitN B0 j = bitN B j) ∧ ∀ (j : Nat) (l : Lit), ls[j]? = some l → left[j]? = some true → l.kind ≠ 1 → free ns B0 (termsOf l) = true

theorem makeLoop_soon {ns : List ByteArray} {ls : List Lit} {delta : Int} (hls : ∀ l ∈ ls, LitFacts ns l) : ∀ (k : Nat) (left : List Bool) (B : Nat) (last : Option Step), LastOk ns ls left B last → Soon last (makeLoop ns ls delta k left B).1 := by
  intro k
  induction k with
  | zero => intro left B last h; exact trivial
  | succ k ih =>
    intro left B last h
    by_cases hn : 0 ≤ nextOf ns B left ls
    · obtain ⟨i, l, hi, hli, hle, hfr⟩ := nextOf_free hn
      have hlf := hls l (List.mem_of_getElem? hli)
      have hneg : ¬ (i : Int) < 0 := by omega
      have hmk : makeLoop ns ls delta (k + 1) left B = (stepOf ns B delta i l :: (makeLoop ns ls delta k (left.set i false) (stepB ns B l)).1, (makeLoop ns ls delta k (left.set i false) (stepB ns B l)).2) := by
        simp [makeLoop, hi, hneg, hli]
      rw [hmk]
      have hset : ∀ j : Nat, (left.set i false)[j]? = some true → left[j]? = some true := by
        intro j hj
        by_cases e : i = j
        · subst e
          rw [List.getElem?_set_self (List.getElem?_eq_some_iff.1 hle).1] at hj
          simp at hj
        · rwa [List.getElem?_set_ne e] at hj
      by_cases hk : l.kind = 1
      · have hop : (stepOf ns B delta i l).op = 1 := by unfold stepOf; rw [if_neg (by omega)]; simp [hk]
        refine ⟨fun ht => by omega, fun _ => ih _ _ _ ?_⟩
        rintro b hb -
        simp only [Option.some.injEq] at hb
        subst hb
        refine ⟨B, stepOf_bind hlf (.inl hk), fun j l' hj hlj hk' => nextOf_pos hi hli hk j l' hj (hset j hlj) hk'⟩
      · have hff : free ns B (termsOf l) = false := by rcases hfr with h | h; exact absurd h hk; exact h
        have hop : (stepOf ns B delta i l).op = 3 ∨ (stepOf ns B delta i l).op = 2 := by
          unfold stepOf
          rcases hlf.kind with h | h | h
          · exact absurd h hk
          · right; rw [if_neg (by omega)]; simp [h]
          · left; rw [if_pos h]
        have hB := stepB_test hlf hff
        refine ⟨fun _ => ⟨?_, ih _ _ _ ?_⟩, fun ht => absurd hop ht⟩
        · intro b hb h1
          obtain ⟨B0, hbits, hopen⟩ := h b hb h1
          have hf0 := hopen i l hli hle hk
          simp only [free, List.any_eq_true] at hf0
          obtain ⟨t, ht, hft⟩ := hf0
          simp only [freeT, Bool.and_eq_true, beq_iff_eq, Bool.not_eq_true'] at hft
          have hbt := free_bound hff t ht hft.1
          have hb2 := hbits (plN ns t.name)
          have e0 : bitN B0 (plN ns t.name) = 0 := by simp [bitN, hft.2]
          have e1 : bitN B (plN ns t.name) = 1 := by simp [bitN, hbt]
          obtain ⟨c, hc, hc3, hcv⟩ := binds_pos (cs := b.cols) (j := plN ns t.name) (by omega)
          obtain ⟨x, hx, hx4, hxv⟩ := test_col (delta := delta) (i := i) hlf hk hff ht hft.1
          unfold usesB
          simp only [List.any_eq_true]
          refine ⟨x, hx, c, hc, ?_⟩
          simp [hx4, hc3, hxv, hcv]
        · rw [hB]
          intro b hb h1
          obtain ⟨B0, hbits, hopen⟩ := h b hb h1
          exact ⟨B0, hbits, fun j l' hj hlj hk' => hopen j l' hj (hset j hlj) hk'⟩
    · have hmk : makeLoop ns ls delta (k + 1) left B = ([], B) := by simp [makeLoop, show nextOf ns B left ls < 0 by omega]
      rw [hmk]; exact trivial

theorem soon_ok (r : Rule) (delta : Int) (he : makeErr r delta = 0) : Soon none (makeOf r delta).steps := by
  have hp : hasPlans r = true := by
    cases h : hasPlans r with
    | true => rfl
    | false => simp [makeErr, h] at he
  have hP := plans_of hp
  have hrange : ¬ (delta < -1 ∨ (r.body.length : Int) ≤ delta) := by intro h; simp [makeErr, hp, h] at he
  have hmk : makeOf r delta = planOf r delta := by unfold makeOf; rw [if_pos he]
  have hlb : (cleanRule r).body.length = r.body.length := by simp [cleanRule]
  rw [hmk]
  simp only [planOf]
  unfold planSteps
  by_cases hd : 0 ≤ delta
  · have hil : delta.toNat < (cleanRule r).body.length := by omega
    rw [if_pos hd]
    simp only [List.getElem?_eq_getElem hil]
    refine ⟨fun h => by simp [deltaStep] at h, fun _ => makeLoop_soon hP.facts _ _ _ _ ?_⟩
    rintro b hb h1
    simp only [Option.some.injEq] at hb
    subst hb
    simp [deltaStep] at h1
  · rw [if_neg hd]
    refine makeLoop_soon hP.facts _ _ _ _ ?_
    rintro b hb
    simp at hb
end Go.Abs.Plan

/- Plan: uses, walked. -/
set_option linter.unusedSimpArgs false
set_option linter.unusedVariables false
namespace Go.Abs.Plan
open Enc (Is)

def meets (x c : Col) : Bool := decide (x.use = 4) && decide (c.use = 3) && decide (x.var = c.var)
def colEncs (cs : List Col) : List AV := cs.map Col.enc
theorem colEncs_is {rows : List AV} {cs : List Col} (h : All2 Is rows cs) : rows = colEncs cs := by
  induction h with
  | nil => rfl
  | cons h _ ih => rw [ih, show _ = Col.enc _ from h]; rfl
theorem colEncs_get {cs : List Col} {j : Nat} (h : j < cs.length) : (colEncs cs)[j]? = some (cs[j].enc) := by simp [colEncs, h]
theorem colEncs_get' {cs : List Col} {j : Nat} (h : j < (colEncs cs).length) : (colEncs cs)[j] = (cs[j]'(by simpa [colEncs] using h)).enc := by simp [colEncs]
theorem colEncs_len (cs : List Col) : (colEncs cs).length = cs.length := by simp [colEncs]

theorem uses_loop0 (L : List Col) (b : Step) (cv : AV) (i : Nat) (hcv : Is cv b.cols) (hi : i < L.length) (hb : b.cols.length < 2 ^ 40) (id g : Nat) (H : Heap) (hH : H[id]? = some (.arr g 5 (colEncs L))) (s : St) (ks : List KF) (R : AExit → St → Prop)
    (e1 : s.heap = H) (e2 : s.dfr = []) (e3 : s.tm.get 3 = .fptr false (b.encW cv).cells 0) (e5 : s.tm.get 5 = .sl id g 0 L.length) (e6 : s.tm.get 6 = i64 i) (e7 : s.tm.get 7 = i64 0)
    (hret : b.cols.any (meets L[i]) = true → ∀ s' : St, s'.heap = H → s'.dfr = [] → s'.tm.get 4 = .bool true → KONT (callW tbl) loopW ks .ret s' R)
    (hexit : b.cols.any (meets L[i]) = false → ∀ s' : St, s'.heap = H → s'.dfr = [] → s'.tm.get 3 = .fptr false (b.encW cv).cells 0 → s'.tm.get 5 = .sl id g 0 L.length → s'.tm.get 6 = i64 i → KONT (callW tbl) loopW ks (.exit 2) s' R) :
    EXEC (callW tbl) loopW (.loop c_law18_uses_l0) ks s R := by
  have hc := isl_cell hcv
  have ln := IsL.len hcv
  have hlt := lt_of hH
  have kh := hat_of hH
  have hLl := colEncs_len L
  refine EXEC_loop_inv (fun k s => ∃ (j : Nat), j + k = b.cols.length ∧ b.cols.any (meets L[i]) = (b.cols.drop j).any (meets L[i]) ∧ s.heap = H ∧ s.dfr = [] ∧ s.tm.get 3 = .fptr false (b.encW cv).cells 0 ∧ s.tm.get 5 = .sl id g 0 L.length ∧ s.tm.get 6 = i64 i ∧ s.tm.get 7 = i64 j) b.cols.length
    ⟨0, by simp, by simp, e1, e2, e3, e5, e6, e7⟩ ?_
  rintro k s' Q ⟨j, g0, gm, g1, g2, g3, g5, g6, g7⟩ hn hx
  by_cases hj : j < b.cols.length
  · have hj' : (j : Int) < b.cols.length := by omega
    have hg : b.cols[j]? = some b.cols[j] := by simp [hj]
    obtain ⟨fl', sv, rfl, hidx⟩ := IsL.idx hcv hg
    simp only [show Enc.sz Col = 5 from rfl] at hidx
    have hwr : IntKind.i64.wrap ((j : Int) + 1) = ((j + 1 : Nat) : Int) := by rw [wrap_i64 (by omega) (by omega)]; push_cast; rfl
    have hd := List.drop_eq_getElem_cons hj
    rw [hd, List.any_cons] at gm
    by_cases hm : meets L[i] b.cols[j] = true
    · rw [hm, Bool.true_or] at gm
      simp only [meets, Bool.and_eq_true, decide_eq_true_eq] at hm
      obtain ⟨⟨m1, m2⟩, m3⟩ := hm
      simp [c_law18_uses_l0, g1, g3, g5, g6, g7, hc, ln, hj', hidx, kh, hlt, hi, hLl, colEncs_get', AV.rowok, m1, m2, m3]
      refine hx _ _ (by simp) ?_
      exact hret gm _ (by simp [g1]) (by simp [g2]) (by simp)
    · have hm' : meets L[i] b.cols[j] = false := by simpa using hm
      rw [hm', Bool.false_or] at gm
      have fin : ∀ (s2 : St), s2.heap = H → s2.dfr = [] → s2.tm.get 3 = .fptr false (b.encW cv).cells 0 → s2.tm.get 5 = .sl id g 0 L.length → s2.tm.get 6 = i64 i → s2.tm.get 7 = i64 ((j + 1 : Nat) : Int) → Q .normal s2 := fun s2 q1 q2 q3 q5 q6 q7 => hn _ (k - 1) (by omega) ⟨j + 1, by omega, gm, q1, q2, q3, q5, q6, q7⟩
      by_cases m1 : L[i].use = 4
      · by_cases m2 : b.cols[j].use = 3
        · have m3 : ¬ L[i].var = b.cols[j].var := by intro e; simp [meets, m1, m2, e] at hm
          simp [c_law18_uses_l0, g1, g3, g5, g6, g7, hc, ln, hj', hidx, kh, hlt, hi, hLl, colEncs_get', AV.rowok, m1, m2, m3, hwr]
          exact fin _ (by simp [g1]) (by simp [g2]) (by simp [g3]) (by simp [g5]) (by simp [g6]) (by simp)
        · simp [c_law18_uses_l0, g1, g3, g5, g6, g7, hc, ln, hj', hidx, kh, hlt, hi, hLl, colEncs_get', AV.rowok, m1, m2, hwr]
          exact fin _ (by simp [g1]) (by simp [g2]) (by simp [g3]) (by simp [g5]) (by simp [g6]) (by simp)
      · simp [c_law18_uses_l0, g1, g3, g5, g6, g7, hc, ln, hj', hidx, kh, hlt, hi, hLl, colEncs_get', AV.rowok, m1, hwr]
        exact fin _ (by simp [g1]) (by simp [g2]) (by simp [g3]) (by simp [g5]) (by simp [g6]) (by simp)
  · have hj' : ¬ (j : Int) < b.cols.length := by omega
    rw [List.drop_of_length_le (by omega)] at gm
    simp [c_law18_uses_l0, g3, g7, hc, ln, hj', AV.rowok]
    exact hx _ _ (by simp) (hexit gm _ (by simp [g1]) (by simp [g2]) (by simp [g3]) (by simp [g5]) (by simp [g6]))

theorem usesB_any (s b : Step) : usesB s b = (s.cols ++ [s.a, s.b]).any fun x => b.cols.any (meets x) := rfl

set_option maxHeartbeats 1000000 in
theorem uses_run (v w : AV) (s b : Step) (hs : Is v s) (hb : Is w b) (h1 : s.cols.length < 2 ^ 20) (h2 : b.cols.length < 2 ^ 20) : ∃ r, runPure (callW tbl) loopW a_law18_uses [v, w] = some r ∧ r = .bool (usesB s b) := by
  obtain ⟨cs, hcs, rfl⟩ := hs
  obtain ⟨cb, hcb, rfl⟩ := hb
  have c1 := isl_cell hcs
  have c2 := isl_cell hcb
  refine pureK a_law18_uses rfl (fun F hF => ?_)
  have rest : ∀ (id g : Nat) (H : Heap) (st : St) (hH : H[id]? = some (.arr g 5 (colEncs (s.cols ++ [s.a, s.b])))), st.heap = H → st.dfr = [] → st.tm.get 3 = .fptr false (b.encW cb).cells 0 → st.tm.get 5 = .sl id g 0 (s.cols ++ [s.a, s.b]).length →
      st.tm.get 6 = i64 0 → EXEC (callW tbl) loopW (.loop c_law18_uses_l1) [.block 0, .seq (.seq (.region [⟨some 4, true, .move (.const (.bool false)), none⟩]) .ret)] st (FINQ [.tmp 4] F) := by
    intro id g H st hH e1 e2 e3 e5 e6
    generalize hL : s.cols ++ [s.a, s.b] = L at *
    have hLl : L.length < 2 ^ 21 := by rw [← hL]; simp; omega
    have hu : usesB s b = L.any fun x => b.cols.any (meets x) := by rw [usesB_any, hL]
    refine EXEC_loop_inv (fun k s => ∃ (j : Nat), j + k = L.length ∧ (L.any fun x => b.cols.any (meets x)) = ((L.drop j).any fun x => b.cols.any (meets x)) ∧ s.heap = H ∧ s.dfr = [] ∧ s.tm.get 3 = .fptr false (b.encW cb).cells 0 ∧ s.tm.get 5 = .sl id g 0 L.length ∧ s.tm.get 6 = i64 j) L.length
      ⟨0, by simp, by simp, e1, e2, e3, e5, e6⟩ ?_
    rintro k s' Q ⟨j, g0, gm, g1, g2, g3, g5, g6⟩ hn hx
    by_cases hj : j < L.length
    · have hj' : (j : Int) < L.length := by omega
      have hwr : IntKind.i64.wrap ((j : Int) + 1) = ((j + 1 : Nat) : Int) := by rw [wrap_i64 (by omega) (by omega)]; push_cast; rfl
      have hd := List.drop_eq_getElem_cons hj
      rw [hd, List.any_cons] at gm
      simp [c_law18_uses_l1, g1, g3, g5, g6, hj']
      refine uses_loop0 L b cb j hcb hj (by omega) id g H hH _ _ _ (by simp [g1]) (by simp [g2]) (by simp [g3]) (by simp [g5]) (by simp [g6]) (by simp) ?_ ?_
      · intro hm s2 q1 q2 q4
        rw [hm, Bool.true_or] at gm
        simp
        refine hx _ _ (by simp) ?_
        simp [q2, q4]
        exact hF _ _ _ (reify_plain rfl) (by rw [hu, gm])
      · intro hm s2 q1 q2 q3 q5 q6
        rw [hm, Bool.false_or] at gm
        simp [q6, hwr]
        exact hn _ (k - 1) (by omega) ⟨j + 1, by omega, gm, q1, q2, by simp [q3], by simp [q5], by simp⟩
    · have hj' : ¬ (j : Int) < L.length := by omega
      rw [List.drop_of_length_le (by omega)] at gm
      simp [c_law18_uses_l1, g5, g6, hj']
      refine hx _ _ (by simp) ?_
      simp [g2]
      exact hF _ _ _ (reify_plain rfl) (by rw [hu, gm]; rfl)
  have hz : colEncs [s.a, s.b] = [s.a.enc, s.b.enc] := rfl
  rcases hcs.cases with ⟨rfl, hn⟩ | ⟨fl, rows, rfl, hr⟩
  · simp [a_law18_uses, c_law18_uses, AV.rowok, c1, c2, buildRows, appendA, appendTo_0s, appendA_sl, appendTo_sl, slRows, room]
    exact rest 0 2 _ _ (by rw [hn]; rfl) rfl rfl (by simp) (by rw [hn]; simp) (by simp)
  · have hrr := colEncs_is hr
    have hlr := hr.length
    by_cases h0 : s.cols = []
    · have : rows = [] := by rw [hrr, h0]; rfl
      subst this
      simp [a_law18_uses, c_law18_uses, AV.rowok, c1, c2, buildRows, appendA, appendTo_0s, appendA_sl, appendTo_sl, slRows, room]
      exact rest 0 2 _ _ (by rw [h0]; rfl) rfl rfl (by simp) (by rw [h0]; simp) (by simp)
    · have hne : rows.length ≠ 0 := by rw [hlr]; simpa using h0
      have hne' : rows ≠ [] := by intro e; rw [e] at hne; exact hne rfl
      have hrow : ∀ x ∈ rows, x.cells.length = 5 ∧ ∀ c ∈ x.cells, c.isCell = true := by
        intro x hx
        rw [hrr] at hx
        simp only [colEncs, List.mem_map] at hx
        obtain ⟨c, _, rfl⟩ := hx
        refine ⟨rfl, fun y hy => ?_⟩
        simp at hy
        rcases hy with rfl | rfl | rfl | rfl | rfl <;> rfl
      have hr1 : rows.length * 48 ≤ 140737488355328 := by omega
      have hr2 : (rows.length + 2) * 48 ≤ 140737488355328 := by omega
      have hl2 : ¬ (rows.length + 2 ≤ rows.length) := by omega
      simp [a_law18_uses, c_law18_uses, AV.rowok, c1, c2, buildRows, appendA, appendTo_0s, appendA_sl, appendTo_sl hne, hne, hne', appendTo_sl, slRows, room, hr1, hr2, hl2]
      rw [if_pos hrow]
      simp [AV.rowok, c1, c2, buildRows, appendA, appendTo_0s, appendA_sl, appendTo_sl hne, hne, hne', appendTo_sl, slRows, room, hr1, hr2, hl2]
      have he : rows ++ [s.a.enc, s.b.enc] = colEncs (s.cols ++ [s.a, s.b]) := by rw [hrr]; simp [colEncs]
      exact rest 0 3 _ _ (by rw [← he]; rfl) rfl rfl (by simp) (by simp [hlr]) (by simp)
end Go.Abs.Plan

/- Plan: PlanSoon's loops and body. -/
set_option linter.unusedSimpArgs false
set_option linter.unusedVariables false
namespace Go.Abs.Plan
open Enc (Is)

theorem uses_call (v w : AV) (s b : Step) (hs : Is v s) (hb : Is w b) (h1 : s.cols.length < 2 ^ 20) (h2 : b.cols.length < 2 ^ 20) (H : Heap) : callW tbl (.func f_law18_uses [] []) [v, w] H = some (.bool (usesB s b), H) := by
  obtain ⟨r, hr, rfl⟩ := callP_of (tbl := tbl) (f := f_law18_uses) (af := a_law18_uses) rfl rfl (R := fun a => ∃ v w, a = [v, w] ∧ Is v s ∧ Is w b) (S := fun r => r = .bool (usesB s b))
    (by rintro a ⟨v, w, rfl, h, h'⟩; simp [Enc.plain h, Enc.plain h']) (by rintro a ⟨v, w, rfl, h, h'⟩; exact ⟨v.lend, w.lend, rfl, Enc.lend h, Enc.lend h'⟩) (by rintro r rfl; rfl)
    (by rintro a ⟨v, w, rfl, h, h'⟩; exact uses_run v w s b h h' h1 h2) [v, w] H ⟨v, w, rfl, hs, hb⟩
  exact hr

def testB (s : Step) : Bool := s.op == 3 || s.op == 2
theorem testB_iff {s : Step} : testB s = true ↔ (s.op = 3 ∨ s.op = 2) := by simp [testB]
def back (ss : List Step) : Nat → Int
  | 0 => -1
  | n + 1 => match ss[n]? with
    | some s => if testB s then back ss n else (n : Int)
    | none => (n : Int)
def lastAt (ss : List Step) (n : Nat) : Option Step := if back ss n < 0 then none else ss[(back ss n).toNat]?
theorem back_lt (ss : List Step) : ∀ n, back ss n < n ∧ -1 ≤ back ss n
  | 0 => by simp [back]
  | n + 1 => by
    have := back_lt ss n
    simp only [back]
    split
    · split <;> omega
    · omega
theorem soon_at {ss : List Step} (h : Soon none ss) : ∀ j, j ≤ ss.length → Soon (lastAt ss j) (ss.drop j)
  | 0, _ => by simpa [lastAt, back] using h
  | j + 1, hj => by
    have ih := soon_at h j (by omega)
    rw [List.drop_eq_getElem_cons (show j < ss.length by omega)] at ih
    have hg : ss[j]? = some ss[j] := by simp
    by_cases ht : testB ss[j] = true
    · have : lastAt ss (j + 1) = lastAt ss j := by simp only [lastAt, back, hg, ht, if_true]
      rw [this]
      exact (ih.1 (testB_iff.1 ht)).2
    · have hb : back ss (j + 1) = (j : Int) := by simp only [back, hg, ht, if_false]; simp
      have : lastAt ss (j + 1) = some ss[j] := by
        simp only [lastAt, hb]
        rw [if_neg (by omega)]
        simp
      rw [this]
      exact ih.2 (fun h => ht (testB_iff.2 h))
theorem soon_uses {ss : List Step} (h : Soon none ss) {i k : Nat} (hi : i < ss.length) (ht : testB ss[i] = true) (hk : back ss i = (k : Int)) (hkl : k < ss.length) (h1 : ss[k].op = 1) : usesB ss[i] ss[k] = true := by
  have := soon_at h i (by omega)
  rw [List.drop_eq_getElem_cons hi] at this
  refine (this.1 (testB_iff.1 ht)).1 _ ?_ h1
  simp only [lastAt, hk]
  rw [if_neg (by omega)]
  simp [hkl]

theorem soon_loop0 (p : Plan) (vv vs vh : AV) (h1 : Is vv p.vars) (h2 : Is vs p.steps) (h3 : Is vh p.head) (i : Nat) (hi : i < p.steps.length) (hl : p.steps.length < 2 ^ 40) (s : St) (ks : List KF) (R : AExit → St → Prop)
    (e1 : s.heap = []) (e2 : s.dfr = []) (e5 : s.tm.get 5 = .fptr false [vv, vs, .str p.pred, vh] 0) (e7 : s.tm.get 7 = i64 i) (e8 : s.tm.get 8 = i64 ((i : Int) - 1))
    (hexit : ∀ s' : St, s'.heap = [] → s'.dfr = [] → s'.tm.get 5 = .fptr false [vv, vs, .str p.pred, vh] 0 → s'.tm.get 7 = i64 i → s'.tm.get 8 = i64 (back p.steps i) → KONT (callW tbl) loopW ks (.exit 2) s' R) :
    EXEC (callW tbl) loopW (.loop c_law18_PlanSoon_l0) ks s R := by
  have hc1 := isl_cell h1
  have hc2 := isl_cell h2
  have hc3 := isl_cell h3
  have l2 := IsL.len h2
  refine EXEC_loop_inv (fun n s => n ≤ i ∧ back p.steps i = back p.steps n ∧ s.heap = [] ∧ s.dfr = [] ∧ s.tm.get 5 = .fptr false [vv, vs, .str p.pred, vh] 0 ∧ s.tm.get 7 = i64 i ∧ s.tm.get 8 = i64 ((n : Int) - 1)) i ⟨by omega, rfl, e1, e2, e5, e7, e8⟩ ?_
  rintro n s' Q ⟨g0, gb, g1, g2, g5, g7, g8⟩ hn hx
  cases n with
  | zero =>
    have g8' : s'.tm.get 8 = i64 (-1) := g8
    simp [c_law18_PlanSoon_l0, g5, g8', hc2, AV.rowok]
    refine hx _ _ (by simp) (hexit _ (by simp [g1]) (by simp [g2]) (by simp [g5]) (by simp [g7]) (by rw [gb]; simpa [back] using g8'))
  | succ n =>
    have g8' : s'.tm.get 8 = i64 (n : Int) := by rw [g8]; congr 1; omega
    have hj : n < p.steps.length := by omega
    have hj0 : (0 : Int) ≤ n := by omega
    have hg : p.steps[n]? = some p.steps[n] := by simp [hj]
    obtain ⟨fl', sv, ⟨cv, hcv, rfl⟩, hidx⟩ := IsL.idx h2 hg
    simp only [show Enc.sz Step = 16 from rfl] at hidx
    have hcc := isl_cell hcv
    have hwr : IntKind.i64.wrap ((n : Int) - 1) = ((n : Int) - 1) := wrap_i64 (by omega) (by omega)
    by_cases c3 : p.steps[n].op = 3
    · have hb : back p.steps (n + 1) = back p.steps n := by simp [back, hg, testB, c3]
      simp [c_law18_PlanSoon_l0, g5, g8', hj0, hc2, hidx, hcc, AV.rowok, c3, hwr]
      exact hn _ n (by omega) ⟨by omega, by rw [gb, hb], by simp [g1], by simp [g2], by simp [g5], by simp [g7], by simp⟩
    · by_cases c2 : p.steps[n].op = 2
      · have hb : back p.steps (n + 1) = back p.steps n := by simp [back, hg, testB, c2]
        simp [c_law18_PlanSoon_l0, g5, g8', hj0, hc2, hidx, hcc, AV.rowok, c2, hwr]
        exact hn _ n (by omega) ⟨by omega, by rw [gb, hb], by simp [g1], by simp [g2], by simp [g5], by simp [g7], by simp⟩
      · have hb : back p.steps (n + 1) = (n : Int) := by simp [back, hg, testB, c2, c3]
        simp [c_law18_PlanSoon_l0, g5, g8', hj0, hc2, hidx, hcc, AV.rowok, c2, c3]
        refine hx _ _ (by simp) (hexit _ (by simp [g1]) (by simp [g2]) (by simp [g5]) (by simp [g7]) (by rw [gb, hb]; simp [g8']))

theorem soon_loop1 (p : Plan) (vv vs vh : AV) (h1 : Is vv p.vars) (h2 : Is vs p.steps) (h3 : Is vh p.head) (hs : Soon none p.steps) (hl : p.steps.length < 2 ^ 40) (hcols : ∀ s ∈ p.steps, s.cols.length < 2 ^ 20) (s : St) (ks : List KF) (R : AExit → St → Prop)
    (e1 : s.heap = []) (e2 : s.dfr = []) (e5 : s.tm.get 5 = .fptr false [vv, vs, .str p.pred, vh] 0) (e7 : s.tm.get 7 = i64 0)
    (hexit : ∀ s' : St, s'.heap = [] → s'.dfr = [] → KONT (callW tbl) loopW ks (.exit 0) s' R) :
    EXEC (callW tbl) loopW (.loop c_law18_PlanSoon_l1) ks s R := by
  have hc1 := isl_cell h1
  have hc2 := isl_cell h2
  have hc3 := isl_cell h3
  have l2 := IsL.len h2
  refine EXEC_loop_inv (fun k s => ∃ (j : Nat), j + k = p.steps.length ∧ s.heap = [] ∧ s.dfr = [] ∧ s.tm.get 5 = .fptr false [vv, vs, .str p.pred, vh] 0 ∧ s.tm.get 7 = i64 j) p.steps.length
    ⟨0, by simp, e1, e2, e5, e7⟩ ?_
  rintro k s' Q ⟨j, g0, g1, g2, g5, g7⟩ hn hx
  by_cases hj : j < p.steps.length
  · have hj' : (j : Int) < p.steps.length := by omega
    have hg : p.steps[j]? = some p.steps[j] := by simp [hj]
    obtain ⟨fl', sv, hsv, hidx⟩ := IsL.idx h2 hg
    simp only [show Enc.sz Step = 16 from rfl] at hidx
    have hsv0 := hsv
    obtain ⟨cv, hcv, rfl⟩ := hsv
    have hcc := isl_cell hcv
    have hwr : IntKind.i64.wrap ((j : Int) + 1) = ((j + 1 : Nat) : Int) := by rw [wrap_i64 (by omega) (by omega)]; push_cast; rfl
    have hwm : IntKind.i64.wrap ((j : Int) - 1) = ((j : Int) - 1) := wrap_i64 (by omega) (by omega)
    have fin : ∀ (s2 : St), s2.heap = [] → s2.dfr = [] → s2.tm.get 5 = .fptr false [vv, vs, .str p.pred, vh] 0 → s2.tm.get 7 = i64 ((j + 1 : Nat) : Int) → Q .normal s2 := fun s2 q1 q2 q5 q7 => hn _ (k - 1) (by omega) ⟨j + 1, by omega, q1, q2, q5, q7⟩
    by_cases c3 : p.steps[j].op = 3
    · simp [c_law18_PlanSoon_l1, g1, g5, g7, hc2, l2, hj', hidx, hcc, AV.rowok, c3, hwm]
      refine soon_loop0 p vv vs vh h1 h2 h3 j hj hl _ _ _ (by simp [g1]) (by simp [g2]) (by simp [g5]) (by simp [g7]) (by simp) ?_
      intro s2 q1 q2 q5 q7 q8
      have hbk := back_lt p.steps j
      by_cases hneg : back p.steps j = -1
      · rw [hneg] at q8
        simp [q5, q7, q8, hc2, hwr]
        exact fin _ (by simp [q1]) (by simp [q2]) (by simp [q5]) (by simp)
      · obtain ⟨m, hm⟩ : ∃ m : Nat, back p.steps j = (m : Int) := ⟨(back p.steps j).toNat, by omega⟩
        rw [hm] at q8
        have hmj : m < p.steps.length := by omega
        have hm0 : (0 : Int) ≤ m := by omega
        have hgm : p.steps[m]? = some p.steps[m] := by simp [hmj]
        obtain ⟨fl2, sw, hsw, hidm⟩ := IsL.idx h2 hgm
        simp only [show Enc.sz Step = 16 from rfl] at hidm
        have hsw0 := hsw
        obtain ⟨cw, hcw, rfl⟩ := hsw
        have hccw := isl_cell hcw
        by_cases o1 : p.steps[m].op = 1
        · have hu := soon_uses hs hj (by simp [testB, c3]) hm hmj o1
          have hcall := uses_call _ _ p.steps[j] p.steps[m] hsv0 hsw0 (hcols _ (List.getElem_mem hj)) (hcols _ (List.getElem_mem hmj)) []
          rw [hu] at hcall
          simp [Step.encW, o1, c3] at hcall
          simp [q1, q2, q5, q7, q8, hm0, hc2, hidx, hidm, hcc, hccw, AV.rowok, c3, o1, hcall, hwr]
          exact fin _ (by simp [q1]) (by simp [q2]) (by simp [q5]) (by simp)
        · simp [q1, q2, q5, q7, q8, hm0, hc2, hidx, hidm, hcc, hccw, AV.rowok, o1, hwr]
          exact fin _ (by simp [q1]) (by simp [q2]) (by simp [q5]) (by simp)
    · by_cases c2 : p.steps[j].op = 2
      · simp [c_law18_PlanSoon_l1, g1, g5, g7, hc2, l2, hj', hidx, hcc, AV.rowok, c2, hwm]
        refine soon_loop0 p vv vs vh h1 h2 h3 j hj hl _ _ _ (by simp [g1]) (by simp [g2]) (by simp [g5]) (by simp [g7]) (by simp) ?_
        intro s2 q1 q2 q5 q7 q8
        have hbk := back_lt p.steps j
        by_cases hneg : back p.steps j = -1
        · rw [hneg] at q8
          simp [q5, q7, q8, hc2, hwr]
          exact fin _ (by simp [q1]) (by simp [q2]) (by simp [q5]) (by simp)
        · obtain ⟨m, hm⟩ : ∃ m : Nat, back p.steps j = (m : Int) := ⟨(back p.steps j).toNat, by omega⟩
          rw [hm] at q8
          have hmj : m < p.steps.length := by omega
          have hm0 : (0 : Int) ≤ m := by omega
          have hgm : p.steps[m]? = some p.steps[m] := by simp [hmj]
          obtain ⟨fl2, sw, hsw, hidm⟩ := IsL.idx h2 hgm
          simp only [show Enc.sz Step = 16 from rfl] at hidm
          have hsw0 := hsw
          obtain ⟨cw, hcw, rfl⟩ := hsw
          have hccw := isl_cell hcw
          by_cases o1 : p.steps[m].op = 1
          · have hu := soon_uses hs hj (by simp [testB, c2]) hm hmj o1
            have hcall := uses_call _ _ p.steps[j] p.steps[m] hsv0 hsw0 (hcols _ (List.getElem_mem hj)) (hcols _ (List.getElem_mem hmj)) []
            rw [hu] at hcall
            simp [Step.encW, o1, c2] at hcall
            simp [q1, q2, q5, q7, q8, hm0, hc2, hidx, hidm, hcc, hccw, AV.rowok, c2, o1, hcall, hwr]
            exact fin _ (by simp [q1]) (by simp [q2]) (by simp [q5]) (by simp)
          · simp [q1, q2, q5, q7, q8, hm0, hc2, hidx, hidm, hcc, hccw, AV.rowok, o1, hwr]
            exact fin _ (by simp [q1]) (by simp [q2]) (by simp [q5]) (by simp)
      · simp [c_law18_PlanSoon_l1, g1, g5, g7, hc2, l2, hj', hidx, hcc, AV.rowok, c3, c2, hwr]
        exact fin _ (by simp [g1]) (by simp [g2]) (by simp [g5]) (by simp)
  · have hj' : ¬ (j : Int) < p.steps.length := by omega
    simp [c_law18_PlanSoon_l1, g5, g7, hc2, l2, hj', AV.rowok]
    exact hx _ _ (by simp) (hexit _ (by simp [g1]) (by simp [g2]))
end Go.Abs.Plan

/- Plan: PlanSoon's body. -/
set_option linter.unusedSimpArgs false
set_option linter.unusedVariables false
namespace Go.Abs.Plan
open Enc (Is)

set_option maxHeartbeats 1000000 in
theorem PlanSoon_run (v : AV) (r : Rule) (delta : Int) (h : Is v r) (hbl : r.body.length < 2 ^ 63) (hal : r.head.args.length < 2 ^ 63) (hargs : ∀ l ∈ r.body, l.atom.args.length < 2 ^ 63) (hd : IntKind.i64.wrap delta = delta) :
    ∃ w, runPure (callW tbl) loopW a_law18_PlanSoon [v, i64 delta] = some w ∧ w = .bool true := by
  refine pureK a_law18_PlanSoon rfl (fun F hF => ?_)
  have haw := awake_call
  obtain ⟨va, vb, ha, hb, rfl⟩ := h
  have hca := isl_cell ha
  have hcb := isl_cell hb
  simp [a_law18_PlanSoon, c_law18_PlanSoon, AV.rowok, hca, hcb, haw]
  refine CALLK_ex (Rule_call (.agg [.str r.head.pred, va, vb]) r ⟨va, vb, ha, hb, rfl⟩ hbl hal hargs _) (fun rv hrv => ?_)
  have hrv0 := hrv
  obtain ⟨ra, rb, hra, hrb, hre⟩ := hrv
  have hcra := isl_cell hra
  have hcrb := isl_cell hrb
  subst hre
  simp [AV.rowok, hcra, hcrb, putCells]
  refine CALLK_ex (Make_call _ (ruleOf r) delta hrv0 (ruleOf_fits r) hd _) ?_
  rintro w ⟨pv, rfl, hpv⟩
  obtain ⟨pa, pb, pc, h1, h2, h3, rfl⟩ := hpv
  have hc1 := isl_cell h1
  have hc2 := isl_cell h2
  have hc3 := isl_cell h3
  by_cases he : makeErr (ruleOf r) delta = 0
  · have hm := (made_ok (ruleOf r) delta (ruleOf_fits r) he).ok
    have ho := once_ok (ruleOf r) delta (ruleOf_fits r) he
    have hs := soon_ok (ruleOf r) delta he
    have hfb := (ruleOf_fits r).body
    have hlen := ho.len
    obtain ⟨Bx, By, ho1, ho2⟩ := hm.ok
    simp [he, AV.rowok, hc1, hc2, hc3]
    refine soon_loop1 (makeOf (ruleOf r) delta) pa pb pc h1 h2 h3 hs (by omega) (fun s hs => ?_) _ _ _ rfl rfl (by simp) (by simp) ?_
    · have := okSteps_cols ho1 s hs; omega
    · intro s' g1 g2
      simp [g2]
      exact hF _ _ _ (reify_plain rfl) rfl
  · simp [he, AV.rowok, hc1, hc2, hc3]
    exact hF _ _ _ (reify_plain rfl) rfl
end Go.Abs.Plan
