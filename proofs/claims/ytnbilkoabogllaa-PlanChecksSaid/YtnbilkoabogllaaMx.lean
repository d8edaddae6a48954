/- Plan: Needs, a call. -/
import Derived.Test.YtnbilkoabogllaaLx
import Derived.Test.YtnbilkoabogllaaFx
set_option linter.unusedSimpArgs false
set_option linter.unusedVariables false
namespace Go.Abs.Plan
open Enc (Is)
open Go.Abs.Sort (Fr Fr_cons Fr_nil)

/-- What a plan needs: in order, each once. -/
def NeedsAre (p : Plan) (l : List Need) : Prop := (OkPlan p → l.Perm (outN p.steps p.steps.length) ∧ l.Pairwise fun a b => ¬ NLt b a) ∧ (¬ OkPlan p → l = [])
theorem OkPlan.cols {p : Plan} (h : OkPlan p) : ∀ s ∈ p.steps, s.cols.length ≤ 8 ∧ ColsR s.cols := by
  intro s hs
  obtain ⟨B, B', o1, o2⟩ := h.ok
  obtain ⟨h8, hr⟩ := okSteps_rng o1 s hs
  exact ⟨h8, fun c hc hu => by have := hr c hc hu; have := h.vars; omega⟩

theorem reify_OutAt {H : Heap} {v : AV} {l : List Need} (h : OutAt H v l) (hl : l.length < 2 ^ 40) : ∃ r, reify H reifyDepth v = some r ∧ Is r l := by
  rcases h with ⟨rfl, rfl⟩ | ⟨id, g, h0, rfl, hb⟩
  · exact ⟨.nilsl, reify_plain rfl, IsL.nil⟩
  · exact ⟨.fsl false (nRows l), reify_rows hb (by simp [nRows]) (by rw [List.drop_zero]; exact List.take_of_length_le (by simp [nRows])) (nRows_is l), IsL.fsl (nRows_is l)⟩

set_option maxHeartbeats 1000000 in
theorem planNeeds_run (v : AV) (p : Plan) (h : Is v p) (hn : p.steps.length < 2 ^ 16) : ∃ w, runPure (callW tbl) loopW a_plan_Needs [v] = some w ∧ ∃ l, Is w l ∧ NeedsAre p l := by
  have hv := h
  obtain ⟨va, vb, vc, h1, h2, h3, rfl⟩ := h
  have c1 := isl_cell h1
  have c2 := isl_cell h2
  have c3 := isl_cell h3
  have l2 := IsL.len h2
  refine pureK a_plan_Needs rfl (fun F hF => ?_)
  obtain ⟨_, hcall, z, rfl, hz⟩ := planCheck_callA _ p hv (by omega) []
  by_cases hok : OkPlan p
  · have hz0 := hz.1 hok
    subst hz0
    simp [a_plan_Needs, c_plan_Needs, AV.rowok, c1, c2, c3, l2, hcall]
    refine needs_loop1 p va vb vc h2 c1 c3 hn hok.cols _ _ _ .nilsl [] ⟨?_, rfl, .inl ⟨rfl, rfl⟩, rfl, by simp⟩ rfl (by simp [Fr]) ?_
    · intro B hB
      simp at hB
      subst hB
      rfl
    · intro H' v' s' q1 q2 q3 q4 q5
      have holen := outN_len p.steps p.steps.length
      rcases q2 with ⟨hl, rfl⟩ | ⟨id, g, hid, rfl, hb⟩
      · have hs := sortFunc_nil H'
        simp [q3, q4, q5, hs]
        exact hF _ _ _ (reify_plain rfl) ⟨[], IsL.nil, fun _ => ⟨by rw [hl], .nil⟩, fun h => absurd hok h⟩
      · obtain ⟨l', hs, hp, hpw⟩ := sortFunc_call H' q1 id g _ hb (by omega)
        simp [q3, q4, q5, hs]
        have hll : (outN p.steps p.steps.length).length = l'.length := hp.length_eq.symm
        rw [hll]
        obtain ⟨r, hr, hri⟩ := reify_OutAt (H := H'.set id (.arr g 2 (nRows l'))) (v := .sl id g 0 l'.length) (l := l') (.inr ⟨id, g, hid, rfl, by simp [lt_of hb]⟩) (by omega)
        exact hF _ _ _ hr ⟨l', hri, fun _ => ⟨hp, hpw⟩, fun h => absurd hok h⟩
  · have hz0 := hz.2 hok
    subst hz0
    simp [a_plan_Needs, c_plan_Needs, AV.rowok, c1, c2, c3, l2, hcall]
    exact hF _ _ _ (reify_plain rfl) ⟨[], IsL.nil, fun h => absurd h hok, fun _ => rfl⟩
theorem planNeeds_call (v : AV) (p : Plan) (h : Is v p) (hn : p.steps.length < 2 ^ 16) (H : Heap) : ∃ w, callW tbl (.func f_plan_Needs [] []) [v] H = some (w, H) ∧ ∃ l, Is w l ∧ NeedsAre p l :=
  callP1 (f := f_plan_Needs) (af := a_plan_Needs) (S := fun w => ∃ l, Is w l ∧ NeedsAre p l) rfl rfl p (by rintro w ⟨l, h1, h2⟩; exact ⟨l, Enc.lend h1, h2⟩) (fun v h => planNeeds_run v p h hn) v h H
end Go.Abs.Plan

/- Plan: the reference's Needs: its loops over columns. -/
set_option linter.unusedSimpArgs false
set_option linter.unusedVariables false
namespace Go.Abs.Plan
open Enc (Is)
open Go.Abs.Sort (Fr Fr_cons Fr_nil)

/-- Columns whose numbers of variables are below n. -/
def ColsRn (n : Nat) (cs : List Col) : Prop := ∀ c ∈ cs, (c.use = 3 ∨ c.use = 4) → 0 ≤ c.var ∧ c.var.toNat < n
theorem shlU64 {j : Nat} (hj : j < 64) (eq : EqKind) : binA .shl eq (.int .u64 1) (.int .u64 (j : Int)) = some (.int .u64 ((2 ^ j : Nat) : Int)) := shl_u64 hj eq

set_option maxHeartbeats 2000000 in
theorem rneeds_loop0 (st : Step) (cv : AV) (hcv : Is cv st.cols) (h8 : st.cols.length ≤ 8) (n : Nat) (hn : n ≤ 64) (hr : ColsRn n st.cols) (B : Nat) (H : Heap) (nb : Nat) (hnb : nb < H.length) (hnb0 : 0 < nb) (hB : H[0]? = some (toldBlk 0 n B)) (x1 x3 x5 : AV) (s : St) (ks : List KF) (R : AExit → St → Prop)
    (e1 : s.heap = H.set nb (nblk st.pred 0)) (e2 : s.dfr = []) (f : Fr s [(1, x1), (3, x3), (5, x5), (4, .sl 0 0 0 n), (6, .fptr false (st.encW cv).cells 0), (7, .ptr nb 0 0 0), (8, .int .i64 0)])
    (hexit : ∀ s' : St, s'.heap = H.set nb (nblk st.pred (maskN B st.cols st.cols.length)) → s'.dfr = [] → Fr s' [(1, x1), (3, x3), (5, x5), (4, .sl 0 0 0 n), (6, .fptr false (st.encW cv).cells 0), (7, .ptr nb 0 0 0)] → KONT (callW tbl) loopW ks (.exit 2) s' R) :
    EXEC (callW tbl) loopW (.loop c_ref18_Needs_l0) ks s R := by
  have hc := isl_cell hcv
  have hln := IsL.len hcv
  have l0 : 0 < H.length := lt_of hB
  have hne : ¬ nb = 0 := by omega
  have hbl := bitsOf_len n B
  refine EXEC_loop_inv (fun k s => ∃ j : Nat, j + k = st.cols.length ∧ s.heap = H.set nb (nblk st.pred (maskN B st.cols j)) ∧ s.dfr = [] ∧ Fr s [(1, x1), (3, x3), (5, x5), (4, .sl 0 0 0 n), (6, .fptr false (st.encW cv).cells 0), (7, .ptr nb 0 0 0), (8, i64 j)]) st.cols.length ⟨0, by simp, e1, e2, f⟩ ?_
  rintro k s Q ⟨j, h0, e1, e2, f⟩ hgo hx
  simp only [Fr_cons, Fr_nil, and_true] at f
  by_cases hj : j < st.cols.length
  · have hji : (j : Int) < (st.cols.length : Int) := by omega
    have hg : st.cols[j]? = some st.cols[j] := by simp [hj]
    obtain ⟨_, sv, rfl, hidx⟩ := IsL.idx hcv hg
    simp only [show Enc.sz Col = 5 from rfl] at hidx
    have hm1 : maskN B st.cols (j + 1) = if hits B st.cols[j] = true then maskN B st.cols j ||| 2 ^ j else maskN B st.cols j := by simp only [maskN, hg]
    have hml := maskN_lt B st.cols j (by omega)
    have hrc := hr _ (List.getElem_mem hj)
    generalize hcc : st.cols[j] = c at *
    have hwr : IntKind.i64.wrap ((j : Int) + 1) = ((j + 1 : Nat) : Int) := by rw [wrap_i64 (by omega) (by omega)]; push_cast; rfl
    have hwu : IntKind.u64.wrap (j : Int) = (j : Int) := Go.Abs.Sort.wrapU rfl (by omega)
    have hpow : 2 ^ j < 2 ^ 64 := Nat.pow_lt_pow_right (by decide) (by omega)
    have hsl := shlU64 (j := j) (by omega) .no
    have ho := or_u64 hml hpow .no
    have hat0 : hat (H.set nb (nblk st.pred (maskN B st.cols j))) 0 = toldBlk 0 n B := by rw [hat_set_ne hne]; exact hat_of hB
    generalize maskN B st.cols j = m at *
    have fin : ∀ (m' : Nat) (s' : St), m' = maskN B st.cols (j + 1) → s'.heap = H.set nb (nblk st.pred m') → s'.dfr = [] → Fr s' [(1, x1), (3, x3), (5, x5), (4, .sl 0 0 0 n), (6, .fptr false (st.encW cv).cells 0), (7, .ptr nb 0 0 0), (8, i64 ((j + 1 : Nat) : Int))] → Q .normal s' := by
      intro m' s' q1 q3 q4 q5
      subst q1
      exact hgo s' (k - 1) (by omega) ⟨j + 1, by omega, q3, q4, q5⟩
    by_cases u1 : c.use = 1
    · have hh : hits B c = true := by simp [hits, u1]
      rw [if_pos hh] at hm1
      generalize hq : 2 ^ j = qq at hsl ho hm1
      generalize hr' : m ||| qq = r at ho hm1
      simp [c_ref18_Needs_l0, e1, e2, f, hc, hln, hji, hidx, hnb, u1, hwu, hsl, ho, AV.rowok, putCells, splice]
      rw [hwr]
      exact fin r _ hm1.symm rfl rfl (by simp [Fr, f])
    · by_cases u4 : c.use = 4
      · obtain ⟨v0, v64⟩ := hrc (.inr u4)
        obtain ⟨vj, hvj⟩ : ∃ x : Nat, c.var = (x : Int) := ⟨c.var.toNat, by omega⟩
        have hvn : vj < n := by omega
        have hbg : (bitsOf n B)[vj]'(by omega) = .bool (B.testBit vj) := by simp [bitsOf]
        by_cases hbit : B.testBit vj = true
        · have hh : hits B c = true := by simp [hits, u4, hvj, hbit]
          rw [if_pos hh] at hm1
          generalize hq : 2 ^ j = qq at hsl ho hm1
          generalize hr' : m ||| qq = r at ho hm1
          simp [c_ref18_Needs_l0, e1, e2, f, hc, hln, hji, hidx, hnb, l0, hat0, toldBlk, hbl, hvn, hbg, hbit, u4, hvj, hwu, hsl, ho, AV.rowok, putCells, splice]
          rw [hwr]
          exact fin r _ hm1.symm rfl rfl (by simp [Fr, f])
        · have hh : ¬ hits B c = true := by simp [hits, u1, u4, hvj, hbit]
          rw [if_neg hh] at hm1
          simp [c_ref18_Needs_l0, e1, e2, f, hc, hln, hji, hidx, hnb, l0, hat0, toldBlk, hbl, hvn, hbg, hbit, u4, hvj, AV.rowok]
          rw [hwr]
          exact fin m _ hm1.symm rfl rfl (by simp [Fr, f])
      · have hh : ¬ hits B c = true := by simp [hits, u1, u4]
        rw [if_neg hh] at hm1
        simp [c_ref18_Needs_l0, e1, e2, f, hc, hln, hji, hidx, hnb, u1, u4, AV.rowok]
        rw [hwr]
        exact fin m _ hm1.symm rfl rfl (by simp [Fr, f])
  · have hji : ¬ (j : Int) < (st.cols.length : Int) := by omega
    have hje : j = st.cols.length := by omega
    subst hje
    simp [c_ref18_Needs_l0, e1, e2, f, hc, hln, hji, AV.rowok]
    exact hx _ _ (by simp) (hexit _ rfl rfl (by simp [Fr, f]))

theorem rneeds_loop1 (st : Step) (cv : AV) (hcv : Is cv st.cols) (h8 : st.cols.length ≤ 8) (n : Nat) (hn : n ≤ 64) (hr : ColsRn n st.cols) (B : Nat) (H : Heap) (h0 : 0 < H.length) (x1 x3 x5 x7 : AV) (s : St) (ks : List KF) (R : AExit → St → Prop)
    (e1 : s.heap = H.set 0 (toldBlk 0 n B)) (e2 : s.dfr = []) (f : Fr s [(1, x1), (3, x3), (5, x5), (4, .sl 0 0 0 n), (6, .fptr false (st.encW cv).cells 0), (7, x7), (9, .int .i64 0)])
    (hexit : ∀ s' : St, s'.heap = H.set 0 (toldBlk 0 n (bndN B st.cols st.cols.length)) → s'.dfr = [] → Fr s' [(1, x1), (3, x3), (5, x5), (4, .sl 0 0 0 n), (6, .fptr false (st.encW cv).cells 0), (7, x7)] → KONT (callW tbl) loopW ks (.exit 4) s' R) :
    EXEC (callW tbl) loopW (.loop c_ref18_Needs_l1) ks s R := by
  have hc := isl_cell hcv
  have hln := IsL.len hcv
  refine EXEC_loop_inv (fun k s => ∃ j : Nat, j + k = st.cols.length ∧ s.heap = H.set 0 (toldBlk 0 n (bndN B st.cols j)) ∧ s.dfr = [] ∧ Fr s [(1, x1), (3, x3), (5, x5), (4, .sl 0 0 0 n), (6, .fptr false (st.encW cv).cells 0), (7, x7), (9, i64 j)]) st.cols.length ⟨0, by simp, e1, e2, f⟩ ?_
  rintro k s Q ⟨j, hjk, e1, e2, f⟩ hgo hx
  simp only [Fr_cons, Fr_nil, and_true] at f
  by_cases hj : j < st.cols.length
  · have hji : (j : Int) < (st.cols.length : Int) := by omega
    have hg : st.cols[j]? = some st.cols[j] := by simp [hj]
    obtain ⟨_, sv, rfl, hidx⟩ := IsL.idx hcv hg
    simp only [show Enc.sz Col = 5 from rfl] at hidx
    have hb1 : bndN B st.cols (j + 1) = if st.cols[j].use = 3 then bndN B st.cols j ||| 2 ^ st.cols[j].var.toNat else bndN B st.cols j := by simp only [bndN, hg]
    have hrc := hr _ (List.getElem_mem hj)
    generalize hcc : st.cols[j] = c at *
    have hwr : IntKind.i64.wrap ((j : Int) + 1) = ((j + 1 : Nat) : Int) := by rw [wrap_i64 (by omega) (by omega)]; push_cast; rfl
    have fin : ∀ (m' : Nat) (s' : St), m' = bndN B st.cols (j + 1) → s'.heap = H.set 0 (toldBlk 0 n m') → s'.dfr = [] → Fr s' [(1, x1), (3, x3), (5, x5), (4, .sl 0 0 0 n), (6, .fptr false (st.encW cv).cells 0), (7, x7), (9, i64 ((j + 1 : Nat) : Int))] → Q .normal s' := by
      intro m' s' q1 q3 q4 q5
      subst q1
      exact hgo s' (k - 1) (by omega) ⟨j + 1, by omega, q3, q4, q5⟩
    generalize bndN B st.cols j = bd at *
    by_cases u3 : c.use = 3
    · rw [if_pos u3] at hb1
      obtain ⟨v0, v64⟩ := hrc (.inl u3)
      obtain ⟨vj, hvj⟩ : ∃ x : Nat, c.var = (x : Int) := ⟨c.var.toNat, by omega⟩
      rw [hvj, Int.toNat_natCast] at hb1
      have hvn : vj < n := by omega
      have hbl := bitsOf_len n bd
      have hbs := bitsOf_set (B := bd) hvn
      have hbg : (bitsOf n bd)[vj]'(by omega) = .bool (bd.testBit vj) := by simp [bitsOf]
      simp [c_ref18_Needs_l1, e1, e2, f, hc, hln, hji, hidx, h0, toldBlk, hbl, hvn, hbg, hbs, u3, hvj, AV.rowok, putCells]
      rw [hwr]
      exact fin (bd ||| 2 ^ vj) _ hb1.symm rfl rfl (by simp [Fr, f])
    · rw [if_neg u3] at hb1
      simp [c_ref18_Needs_l1, e1, e2, f, hc, hln, hji, hidx, u3, AV.rowok]
      rw [hwr]
      exact fin bd _ hb1.symm rfl rfl (by simp [Fr, f])
  · have hji : ¬ (j : Int) < (st.cols.length : Int) := by omega
    have hje : j = st.cols.length := by omega
    subst hje
    simp [c_ref18_Needs_l1, e1, e2, f, hc, hln, hji, AV.rowok]
    exact hx _ _ (by simp) (hexit _ rfl rfl (by simp [Fr, f]))
end Go.Abs.Plan

/- Plan: the reference's Needs: where a need goes. -/
set_option linter.unusedSimpArgs false
set_option linter.unusedVariables false
namespace Go.Abs.Plan
open Enc (Is)
open Go.Abs.Sort (Fr Fr_cons Fr_nil)

instance (a b : Need) : Decidable (NLt a b) := by unfold NLt; exact inferInstance
theorem less_call (a b : Need) (H : Heap) : callW tbl (.func f_ref18_less [] []) [a.enc, b.enc] H = some (.bool (decide (NLt a b)), H) := by
  obtain ⟨r, h1, rfl⟩ : ∃ r, runPure (callW tbl) loopW a_ref18_less [a.enc, b.enc] = some r ∧ r = .bool (decide (NLt a b)) := by
    refine pureK a_ref18_less rfl (fun F hF => ?_)
    have hF' : ∀ t : Bool, (t = true ↔ NLt a b) → ∀ H, F (.bool t) H := fun t ht H => hF _ _ _ (reify_plain rfl) (by
      congr 1
      cases t with
      | true => simp [ht.1 rfl]
      | false => have : ¬ NLt a b := fun h => by have := ht.2 h; cases this
                 simp [this])
    by_cases k1 : a.pred.toList < b.pred.toList
    · simp [a_ref18_less, c_ref18_less, AV.rowok, binS_lss, k1]
      exact hF' true (by simp [NLt, k1]) _
    · by_cases k2 : a.pred = b.pred
      · have k1' : ¬ b.pred.toList < b.pred.toList := List.lt_irrefl _
        by_cases k3 : a.cols < b.cols
        · have k3i : (a.cols : Int) < (b.cols : Int) := by omega
          simp [a_ref18_less, c_ref18_less, AV.rowok, binS_lss, k1', k2, k3i, k3]
          exact hF' true (by simp [NLt, k2, k3]) _
        · have k3i : ¬ (a.cols : Int) < (b.cols : Int) := by omega
          simp [a_ref18_less, c_ref18_less, AV.rowok, binS_lss, k1', k2, k3i, k3]
          exact hF' false (by simp [NLt, k2, k3, List.lt_irrefl]) _
      · simp [a_ref18_less, c_ref18_less, AV.rowok, binS_lss, k1, k2]
        exact hF' false (by simp [NLt, k1, k2]) _
  exact Go.Abs.Sort.pureA (f := f_ref18_less) (af := a_ref18_less) rfl rfl rfl rfl h1 H

def posN (n : Need) (l : List Need) : Nat := (l.takeWhile fun a => decide (NLt a n)).length
def insN (n : Need) (l : List Need) : List Need := if posN n l = l.length ∨ l[posN n l]? ≠ some n then l.take (posN n l) ++ n :: l.drop (posN n l) else l
theorem posN_le (n : Need) (l : List Need) : posN n l ≤ l.length := by
  unfold posN
  induction l with
  | nil => simp
  | cons a l ih =>
    simp only [List.takeWhile_cons]
    split <;> simp <;> omega
theorem posN_cons (n a : Need) (l : List Need) : posN n (a :: l) = if NLt a n then posN n l + 1 else 0 := by
  unfold posN
  by_cases h : NLt a n <;> simp [h]

theorem nRows_len (l : List Need) : (nRows l).length = l.length := by simp [nRows]
theorem nRows_get {l : List Need} {j : Nat} (h : j < (nRows l).length) : (nRows l)[j] = (l[j]'(by simpa [nRows] using h)).enc := by simp [nRows]

theorem rneeds_loop2 (n : Need) (l : List Need) (hl : l.length < 2 ^ 20) (v : AV) (H : Heap) (nb : Nat) (hnb : H[nb]? = some (nblk n.pred n.cols)) (hout : OutAt H v l) (x1 x4 x5 x6 : AV) (s : St) (ks : List KF) (R : AExit → St → Prop)
    (e1 : s.heap = H) (e2 : s.dfr = []) (f : Fr s [(1, x1), (3, v), (4, x4), (5, x5), (6, x6), (7, .ptr nb 0 0 0), (10, .int .i64 0)])
    (hexit : ∀ s' : St, s'.heap = H → s'.dfr = [] → Fr s' [(1, x1), (3, v), (4, x4), (5, x5), (6, x6), (7, .ptr nb 0 0 0), (10, i64 (posN n l : Nat))] → KONT (callW tbl) loopW ks (.exit 6) s' R) :
    EXEC (callW tbl) loopW (.loop c_ref18_Needs_l2) ks s R := by
  have hn := hat_of hnb
  refine EXEC_loop_inv (fun k s => ∃ j : Nat, j + k = l.length ∧ posN n l = j + posN n (l.drop j) ∧ s.heap = H ∧ s.dfr = [] ∧ Fr s [(1, x1), (3, v), (4, x4), (5, x5), (6, x6), (7, .ptr nb 0 0 0), (10, i64 j)]) l.length ⟨0, by simp, by simp, e1, e2, f⟩ ?_
  rintro k s Q ⟨j, hjk, hp, e1, e2, f⟩ hgo hx
  simp only [Fr_cons, Fr_nil, and_true] at f
  by_cases hj : j < l.length
  · have hji : (j : Int) < (l.length : Int) := by omega
    have hd := List.drop_eq_getElem_cons hj
    rw [hd, posN_cons] at hp
    have hless := less_call l[j] n H
    have hwr : IntKind.i64.wrap ((j : Int) + 1) = ((j + 1 : Nat) : Int) := by rw [wrap_i64 (by omega) (by omega)]; push_cast; rfl
    rcases hout with ⟨rfl, _⟩ | ⟨id, g, hid, rfl, hb⟩
    · simp at hj
    · have hlt := lt_of hb
      have kb := hat_of hb
      have hg := nRows_get (l := l) (j := j) (by rw [nRows_len]; exact hj)
      generalize hlj : l[j] = a at *
      by_cases hL : NLt a n
      · rw [if_pos hL] at hp
        simp [c_ref18_Needs_l2, e1, e2, f, hji, hj, hn, kb, hlt, nRows_len, hg, hless, hL]
        rw [hwr]
        exact hgo _ (k - 1) (by omega) ⟨j + 1, by omega, by omega, rfl, rfl, by simp [Fr, f]⟩
      · rw [if_neg hL] at hp
        simp [c_ref18_Needs_l2, e1, e2, f, hji, hj, hn, kb, hlt, nRows_len, hg, hless, hL]
        exact hx _ _ (by simp) (hexit _ rfl rfl (by simp [Fr, f, hp]))
  · have hji : ¬ (j : Int) < (l.length : Int) := by omega
    have hjl : j = l.length := by omega
    have hlv : lenA v = .val (i64 l.length) := by
      rcases hout with ⟨rfl, rfl⟩ | ⟨id, g, hid, rfl, hb⟩ <;> rfl
    rw [List.drop_of_length_le (by omega)] at hp
    simp [posN] at hp
    simp [c_ref18_Needs_l2, e1, e2, f, hji, hlv]
    exact hx _ _ (by simp) (hexit _ rfl rfl (by simp [Fr, f, posN, hp]))
end Go.Abs.Plan

/- Plan: the reference's Needs: a need put in its place. The part of the code is printed by a small program. -/
set_option linter.unusedSimpArgs false
set_option linter.unusedVariables false
namespace Go.Abs.Plan
open Enc (Is)
open Go.Abs.Sort (Fr Fr_cons Fr_nil)

def kR_ins : ACode := (.seq (.draw [⟨some 118, false, .move (.tmp 10), none⟩, ⟨some 119, false, .move (.tmp 3), none⟩, ⟨some 120, false, .len .slice (.tmp 119), none⟩, ⟨some 121, false, .bin .eql .no (.tmp 118) (.tmp 120), none⟩, ⟨some 122, false, .move (.tmp 121), none⟩, ⟨some 123, false, .move (.tmp 3), some (122, false)⟩, ⟨some 124, false, .move (.tmp 10), some (122, false)⟩, ⟨some 125, false, .indexAddr 2 (.tmp 123) (.tmp 124), some (122, false)⟩, ⟨some 126, false, .load true 2 (.tmp 125), some (122, false)⟩, ⟨some 127, false, .load true 2 (.tmp 7), some (122, false)⟩, ⟨some 128, false, .bin .neq (.cells [.str, .int]) (.tmp 126) (.tmp 127), some (122, false)⟩, ⟨some 129, true, .pick (.tmp 122) (.const (.bool true)) (.tmp 128), none⟩] [])
 (.cond (.tmp 129) (.draw [⟨some 130, false, .buildSlice (.agg [(.str ⟨#[]⟩), (.int .u64 0)]) 0 [], none⟩, ⟨some 131, false, .move (.tmp 3), none⟩, ⟨some 132, false, .move (.tmp 10), none⟩, ⟨some 133, false, .slice 2 (.tmp 131) none (some (.tmp 132)), none⟩, ⟨some 134, false, .append 2 24 (.tmp 130) (.tmp 133), none⟩, ⟨some 135, false, .load true 2 (.tmp 7), none⟩, ⟨some 136, false, .buildSlice (.agg [(.str ⟨#[]⟩), (.int .u64 0)]) 1 [(0, (.tmp 135))], none⟩, ⟨some 137, false, .append 2 24 (.tmp 134) (.tmp 136), none⟩, ⟨some 138, false, .move (.tmp 3), none⟩, ⟨some 139, false, .move (.tmp 10), none⟩, ⟨some 140, false, .slice 2 (.tmp 138) (some (.tmp 139)) none, none⟩, ⟨some 141, false, .append 2 24 (.tmp 137) (.tmp 140), none⟩, ⟨some 3, true, .move (.tmp 141), none⟩] [(0, 3), (0, 5), (4, 5), (0, 6), (3, 6), (4, 6), (0, 10), (4, 10), (6, 10), (7, 10)]) .skip))
theorem c_ref18_Needs_l3_eq : c_ref18_Needs_l3 = (.seq (.seq (.region [⟨some 18, false, .move (.tmp 5), none⟩, ⟨some 19, false, .fieldAddr 1 (.tmp 1), none⟩, ⟨some 20, false, .load false 1 (.tmp 19), none⟩, ⟨some 21, false, .len .slice (.tmp 20), none⟩, ⟨some 22, true, .bin .lss .no (.tmp 18) (.tmp 21), none⟩])
 (.cond (.tmp 22) .skip (.exit 0)))
 (.seq (.block 1 (.seq (.region [⟨some 25, false, .fieldAddr 1 (.tmp 1), none⟩, ⟨some 26, false, .load false 1 (.tmp 25), none⟩, ⟨some 27, false, .move (.tmp 5), none⟩, ⟨some 28, false, .indexAddr 16 (.tmp 26) (.tmp 27), none⟩, ⟨some 29, false, .load true 16 (.tmp 28), none⟩, ⟨some 6, true, .boxF 16 (.tmp 29), none⟩])
 (.seq (.region [⟨some 30, false, .fieldAddr 2 (.tmp 6), none⟩, ⟨some 31, false, .load false 1 (.tmp 30), none⟩, ⟨some 32, false, .build [(.str ⟨#[]⟩), (.int .u64 0)] [(0, 1, (.tmp 31))], none⟩, ⟨some 7, true, .alloc (.agg [(.str ⟨#[]⟩), (.int .u64 0)]), none⟩, ⟨none, true, .store 2 (.tmp 7) (.tmp 32), none⟩])
 (.seq (.seq (.region [⟨some 8, true, .move (.const (.int .i64 0)), none⟩])
 (.block 2 (.loop c_ref18_Needs_l0)))
 (.seq (.seq (.region [⟨some 9, true, .move (.const (.int .i64 0)), none⟩])
 (.block 4 (.loop c_ref18_Needs_l1)))
 (.seq (.seq (.region [⟨some 96, false, .fieldAddr 0 (.tmp 6), none⟩, ⟨some 97, false, .load false 1 (.tmp 96), none⟩, ⟨some 98, false, .bin .neq .no (.tmp 97) (.const (.int .i64 1)), none⟩, ⟨some 99, false, .move (.tmp 98), none⟩, ⟨some 100, false, .fieldAddr 0 (.tmp 6), some (99, true)⟩, ⟨some 101, false, .load false 1 (.tmp 100), some (99, true)⟩, ⟨some 102, false, .bin .neq .no (.tmp 101) (.const (.int .i64 2)), some (99, true)⟩, ⟨some 103, true, .pick (.tmp 99) (.tmp 102) (.const (.bool false)), none⟩])
 (.cond (.tmp 103) (.exit 1) .skip))
 (.seq (.region [⟨some 10, true, .move (.const (.int .i64 0)), none⟩])
 (.seq (.block 6 (.loop c_ref18_Needs_l2))
 kR_ins))))))))
 (.region [⟨some 23, false, .move (.tmp 5), none⟩, ⟨some 24, false, .bin .add .no (.tmp 23) (.const (.int .i64 1)), none⟩, ⟨some 5, true, .move (.tmp 24), none⟩]))) := rfl

theorem need_ne {a b : Need} (h : a ≠ b) : (decide (a.pred = b.pred) && ((a.cols : Int) == (b.cols : Int))) = false := by
  cases hh : (decide (a.pred = b.pred) && ((a.cols : Int) == (b.cols : Int))) with
  | false => rfl
  | true =>
    simp only [Bool.and_eq_true, beq_iff_eq, decide_eq_true_eq] at hh
    obtain ⟨h1, h2⟩ := hh
    obtain ⟨p, x⟩ := a
    obtain ⟨q, y⟩ := b
    simp only at h1 h2
    exact absurd (by rw [h1, show x = y by omega]) h

theorem hok_app {H T : Heap} (h : HOK H) (hT : ∀ B ∈ T, B.under (H ++ T).length = true) : HOK (H ++ T) := fun B hB => by
  rcases List.mem_append.1 hB with hB | hB
  · exact blkUnder_mono (by simp) (h B hB)
  · exact hT B hB
theorem bound_at {len a : Nat} (d : Nat) (h : a ≤ len) : Go.Abs.bound d len (some (.int .i64 (a : Int))) = some a := by
  have : (0 : Int) ≤ (a : Int) ∧ (a : Int) ≤ (len : Int) := by omega
  simp only [Go.Abs.bound, this]
  simp
set_option maxHeartbeats 4000000 in
theorem rneeds_ins (n : Need) (l : List Need) (hl : l.length < 2 ^ 20) (v : AV) (H : Heap) (nb : Nat) (hok : HOK H) (hnb : H[nb]? = some (nblk n.pred n.cols)) (h0 : 0 < H.length) (hout : OutAt H v l) (x1 x4 x5 x6 : AV) (s : St) (ks : List KF) (R : AExit → St → Prop)
    (e1 : s.heap = H) (e2 : s.dfr = []) (f : Fr s [(1, x1), (3, v), (4, x4), (5, x5), (6, x6), (7, .ptr nb 0 0 0), (10, i64 (posN n l : Nat))])
    (hexit : ∀ (T : Heap) (v' : AV) (s' : St), HOK (H ++ T) → OutAt (H ++ T) v' (insN n l) → s'.heap = H ++ T → s'.dfr = [] → Fr s' [(1, x1), (3, v'), (4, x4), (5, x5), (6, x6)] → KONT (callW tbl) loopW ks .normal s' R) :
    EXEC (callW tbl) loopW kR_ins ks s R := by
  simp only [Fr_cons, Fr_nil, and_true] at f
  have hn := hat_of hnb
  have hple := posN_le n l
  have hnlt := lt_of hnb
  unfold insN at hexit
  rcases hout with ⟨rfl, rfl⟩ | ⟨id, g, hid, rfl, hb⟩
  · have hp0 : posN n [] = 0 := rfl
    rw [hp0] at f
    have f10 : s.tm.get 10 = .int .i64 0 := f.2.2.2.2.2.2
    have s1 : sliceA 2 none (some (.int .i64 0)) .nilsl = some .nilsl := rfl
    have s2 : sliceA 2 (some (.int .i64 0)) none .nilsl = some .nilsl := rfl
    simp [kR_ins, e1, e2, f.1, f.2.1, f.2.2.1, f.2.2.2.1, f.2.2.2.2.1, f.2.2.2.2.2.1, f10, hn, hnlt, s1, s2, buildRows, AV.rowok, appendA, appendTo_0s, appendTo_sl, slRows, room]
    refine ⟨⟨.inl (by omega), by omega⟩, ?_⟩
    refine hexit _ (.sl H.length 2 0 1) _ (hok_app hok ?_) (.inr ⟨H.length, 2, h0, by simp [hp0], by simp [hp0, nRows]⟩) rfl rfl (by simp [Fr, f])
    intro B hB
    simp only [List.mem_cons, List.not_mem_nil, or_false] at hB
    rcases hB with rfl | rfl | rfl | rfl | rfl <;> rfl
  · have hlt := lt_of hb
    have kb := hat_of hb
    by_cases hc : posN n l = l.length ∨ l[posN n l]? ≠ some n
    · rw [if_pos hc] at hexit
      have cond : (posN n l = l.length) ∨ (∃ h : posN n l < l.length, l[posN n l] ≠ n) := by
        rcases hc with h | h
        · exact .inl h
        · by_cases h' : posN n l < l.length
          · exact .inr ⟨h', fun e => h (by rw [List.getElem?_eq_getElem h', e])⟩
          · exact .inl (by omega)
      have b1 := bound_at (len := l.length) (a := posN n l) l.length hple
      have b2 := bound_at (len := l.length) (a := posN n l) 0 hple
      have b3 : Go.Abs.bound 0 (posN n l) none = some 0 := rfl
      have b4 : Go.Abs.bound l.length l.length none = some l.length := rfl
      have hg := fun h => nRows_get (l := l) (j := posN n l) h
      generalize posN n l = q at *
      have hro : ∀ l' : List Need, (∀ x : AV, x ∈ nRows l' → x.cells.length = 2 ∧ ∀ c : AV, c ∈ x.cells → c.isCell = true) = True := by
        intro l'
        refine eq_true fun x hx => ?_
        simp only [nRows, List.mem_map] at hx
        obtain ⟨a, _, rfl⟩ := hx
        refine ⟨rfl, fun c hc => ?_⟩
        simp at hc
        rcases hc with rfl | rfl <;> rfl
      have hun : ∀ (k : Nat) (l' : List Need), AV.unders k (nRows l') = true := fun k l' => plains_unders _ (rows_plain (nRows_is l'))
      have hs1 : slRows g 0 q (.arr g 2 (nRows l)) = some (nRows (l.take q)) := by simp [slRows, nRows, hple]
      have hs2 : slRows g q (l.length - q) (.arr g 2 (nRows l)) = some (nRows (l.drop q)) := by
        have : q + (l.length - q) ≤ l.length := by omega
        simp [slRows, nRows, this]
        exact List.take_of_length_le (by simp)
      obtain ⟨A, hA⟩ : ∃ A, A = l.take q := ⟨_, rfl⟩
      obtain ⟨D, hD⟩ : ∃ D, D = l.drop q := ⟨_, rfl⟩
      have hAl : A.length = q := by rw [hA]; simp [hple]
      have hDl : D.length = l.length - q := by rw [hD]; simp
      rw [← hA] at hs1 hexit
      rw [← hD] at hs2 hexit
      have htA : List.take q (nRows A) = nRows A := List.take_of_length_le (by rw [nRows_len, hAl]; exact Nat.le_refl _)
      have htA2 : List.take (q + 1) (nRows A ++ [AV.agg [.str n.pred, .int .u64 (n.cols : Int)]]) = nRows A ++ [n.enc] := List.take_of_length_le (by simp [nRows_len, hAl])
      have hs3 : slRows 1 0 1 (.arr 1 2 [n.enc]) = some [n.enc] := rfl
      have hne1 : ¬ id = H.length := by omega
      have hne2 : ¬ H.length = id := by omega
      have hne3 : ¬ nb = H.length := by omega
      have hne4 : ¬ H.length = nb := by omega
      have r1 : q * 24 ≤ 140737488355328 := by omega
      have r2 : (q + 1) * 24 ≤ 140737488355328 := by omega
      have r3 : (q + 1 + (l.length - q)) * 24 ≤ 140737488355328 := by omega
      by_cases hq0 : q = 0
      · subst hq0
        have hAn : A = [] := List.length_eq_zero_iff.1 hAl
        have b1' : Go.Abs.bound l.length l.length (some (.int .i64 0)) = some 0 := b1
        have b2' : Go.Abs.bound 0 l.length (some (.int .i64 0)) = some 0 := b2
        have htA3 : List.take 1 [AV.agg [.str n.pred, .int .u64 (n.cols : Int)]] = [n.enc] := rfl
        have f10 : s.tm.get 10 = .int .i64 0 := f.2.2.2.2.2.2
        rcases cond with hq | ⟨hq, hne⟩
        · have hl0 : l = [] := List.length_eq_zero_iff.1 hq.symm
          have hDn : D = [] := List.length_eq_zero_iff.1 (by omega)
          have hs1' : slRows g 0 0 (.arr g 2 (nRows l)) = some [] := by rw [hs1, hAn]; rfl
          subst hl0
          simp at b1' b2' b4
          simp [kR_ins, e1, e2, f.1, f.2.1, f.2.2.1, f.2.2.2.1, f.2.2.2.2.1, f.2.2.2.2.2.1, f10, hn, hnlt, kb, hlt, nRows_len, b1', b2', b3, b4, buildRows, AV.rowok, appendA, appendTo_0s, appendTo_sl, room, hs3, hne1, hne2, hne3, hne4]
          refine ⟨⟨by omega, .inl (by omega)⟩, ?_⟩
          refine hexit _ (.sl H.length 2 0 (1)) _ (hok_app hok ?_) (.inr ⟨H.length, 2, h0, by simp [hAn, hDn], by simp [nRows, hAn, hDn]⟩) rfl rfl (by simp [Fr, f])
          intro B hB
          simp only [List.mem_cons, List.not_mem_nil, or_false] at hB
          rcases hB with rfl | rfl | rfl | rfl | rfl <;> rfl
        · have hl0 : ¬ l = [] := by rintro rfl; simp at hq
          have hl1 : ¬ l.length = 0 := by omega
          have hl1' : ¬ (0 = l.length) := by omega
          have hl1i : ¬ ((0 : Int) = (l.length : Int)) := by omega
          have hgq := hg (by rw [nRows_len]; exact hq)
          have hnn := need_ne hne
          have n1 : ¬ (1 + l.length ≤ 1) := by omega
          have r4 : (1 + l.length) * 24 ≤ 140737488355328 := by omega
          simp only [Nat.sub_zero] at hs2 hDl
          simp [kR_ins, e1, e2, f.1, f.2.1, f.2.2.1, f.2.2.2.1, f.2.2.2.2.1, f.2.2.2.2.2.1, f10, hn, hnlt, kb, hlt, nRows_len, hDl, htA3, b1', b2', b3, b4, buildRows, AV.rowok, appendA, appendTo_0s, appendTo_sl, room, hq, hl0, hl1, hl1', hl1i, hgq, hnn, n1, r4, hro, hs2, hs3, hne1, hne2, hne3, hne4]
          refine ⟨⟨by omega, .inl (by omega), .inl (by omega)⟩, ?_⟩
          refine hexit _ (.sl H.length 3 0 (1 + l.length)) _ (hok_app hok ?_) (.inr ⟨H.length, 3, h0, by simp [hAn, hDl]; omega, by simp [nRows, hAn]⟩) rfl rfl (by simp [Fr, f])
          intro B hB
          simp only [List.mem_cons, List.not_mem_nil, or_false] at hB
          rcases hB with rfl | rfl | rfl | rfl | rfl <;> first | rfl | exact hun _ (n :: D)
      · rcases cond with hq | ⟨hq, hne⟩
        · subst hq
          have hl0 : ¬ l = [] := fun e => hq0 (by rw [e]; rfl)
          have n1 : ¬ (l.length + 1 ≤ l.length) := by omega
          have hDn : D = [] := List.length_eq_zero_iff.1 (by omega)
          simp [kR_ins, e1, e2, f, hn, hnlt, kb, hlt, nRows_len, hAl, hDl, htA, htA2, b1, b2, b3, b4, buildRows, AV.rowok, appendA, appendTo_0s, appendTo_sl, room, hq0, hl0, n1, r1, r2, hro, hs1, hs3, hne1, hne2, hne3, hne4]
          refine ⟨⟨by omega, .inl (by omega), ⟨by omega, by omega⟩, .inl (by omega)⟩, ?_⟩
          refine hexit _ (.sl H.length 3 0 (l.length + 1)) _ (hok_app hok ?_) (.inr ⟨H.length, 3, h0, by simp [hAl, hDn], by simp [nRows, hDn]⟩) rfl rfl (by simp [Fr, f])
          intro B hB
          simp only [List.mem_cons, List.not_mem_nil, or_false] at hB
          rcases hB with rfl | rfl | rfl | rfl | rfl <;> first | rfl | (show AV.unders _ (nRows A ++ [n.enc]) = true; rw [unders_append, hun]; rfl)
        · have hqi : ¬ (q : Int) = (l.length : Int) := by omega
          have hql : ¬ q = l.length := by omega
          have hgq := hg (by rw [nRows_len]; exact hq)
          have hnn := need_ne hne
          have hd0 : ¬ l.length - q = 0 := by omega
          have n1 : ¬ (q + 1 ≤ q) := by omega
          have n2 : ¬ (q + 1 + (l.length - q) ≤ q + 1) := by omega
          simp [kR_ins, e1, e2, f, hn, hnlt, kb, hlt, nRows_len, hAl, hDl, htA, htA2, b1, b2, b3, b4, buildRows, AV.rowok, appendA, appendTo_0s, appendTo_sl, room, hqi, hql, hq, hgq, hnn, hq0, hd0, n1, n2, r1, r2, r3, hro, hs1, hs2, hs3, hne1, hne2, hne3, hne4]
          refine ⟨⟨by omega, .inl (by omega), ⟨by omega, by omega⟩, .inl (by omega)⟩, ?_⟩
          refine hexit _ (.sl H.length 4 0 (q + 1 + (l.length - q))) _ (hok_app hok ?_) (.inr ⟨H.length, 4, h0, by simp [hAl, hDl]; omega, by simp [nRows]⟩) rfl rfl (by simp [Fr, f])
          intro B hB
          simp only [List.mem_cons, List.not_mem_nil, or_false] at hB
          rcases hB with rfl | rfl | rfl | rfl | rfl <;> first | rfl | (show AV.unders _ (nRows A ++ n.enc :: nRows D) = true; rw [unders_append, hun]; exact hun _ (n :: D))
    · rw [if_neg hc] at hexit
      have hc1 : ¬ posN n l = l.length := fun h => hc (.inl h)
      have hlt2 : posN n l < l.length := by omega
      have hc2 : l[posN n l]? = some n := by
        by_cases h : l[posN n l]? = some n
        · exact h
        · exact absurd (.inr h) hc
      have hg := nRows_get (l := l) (j := posN n l) (by rw [nRows_len]; exact hlt2)
      have hgn : l[posN n l] = n := by rw [List.getElem?_eq_getElem hlt2] at hc2; simpa using hc2
      have hc1i : ¬ ((posN n l : Nat) : Int) = (l.length : Int) := by omega
      rw [hgn] at hg
      generalize posN n l = q at *
      simp [kR_ins, e1, e2, f, hn, hnlt, kb, hlt, hc1, hc1i, hlt2, nRows_len, hg]
      have := hexit [] (.sl id g 0 l.length) { tm := s.tm.put 129 (.bool false), heap := H, dfr := [], rnd := s.rnd } (by simpa using hok) (.inr ⟨id, g, hid, rfl, by simpa using hb⟩) (by simp) rfl (by simp [Fr, f])
      exact this
end Go.Abs.Plan

/- Plan: the reference's Needs, whole. -/
set_option linter.unusedSimpArgs false
set_option linter.unusedVariables false
namespace Go.Abs.Plan
open Enc (Is)
open Go.Abs.Sort (Fr Fr_cons Fr_nil)

def outR (ss : List Step) : Nat → List Need
  | 0 => []
  | j + 1 => match ss[j]? with
    | some s => if asks s then insN (needOf (BN ss j) s) (outR ss j) else outR ss j
    | none => outR ss j
theorem insN_len (n : Need) (l : List Need) : (insN n l).length ≤ l.length + 1 := by
  unfold insN
  have := posN_le n l
  split
  · simp; omega
  · omega
theorem outR_len (ss : List Step) : ∀ j, (outR ss j).length ≤ j
  | 0 => by simp [outR]
  | j + 1 => by
    have := outR_len ss j
    simp only [outR]
    split
    · split
      · have := insN_len (needOf (BN ss j) ‹_›) (outR ss j); omega
      · omega
    · omega
theorem bits_under (k n B : Nat) : AV.unders k (bitsOf n B) = true := by
  unfold bitsOf
  induction List.range n with
  | nil => rfl
  | cons a l ih => exact ih

set_option maxHeartbeats 2000000 in
theorem rneeds_loop3 (p : Plan) (va vb vc : AV) (h2 : Is vb p.steps) (c1 : va.isCell = true ∧ va.cells = [va]) (c3 : vc.isCell = true ∧ vc.cells = [vc]) (hn : p.steps.length < 2 ^ 16) (n : Nat) (hn64 : n ≤ 64) (hcols : ∀ s ∈ p.steps, s.cols.length ≤ 8 ∧ ColsRn n s.cols) (s : St) (ks : List KF) (R : AExit → St → Prop)
    (v0 : AV) (hok0 : HOK s.heap) (hb0 : s.heap[0]? = some (toldBlk 0 n 0)) (ho0 : OutAt s.heap v0 []) (e2 : s.dfr = []) (f : Fr s [(1, .fptr false [va, vb, .str p.pred, vc] 0), (3, v0), (4, .sl 0 0 0 n), (5, .int .i64 0)])
    (hexit : ∀ (H' : Heap) (v' : AV) (s' : St), OutAt H' v' (outR p.steps p.steps.length) → s'.heap = H' → s'.dfr = [] → s'.tm.get 3 = v' → KONT (callW tbl) loopW ks (.exit 0) s' R) :
    EXEC (callW tbl) loopW (.loop c_ref18_Needs_l3) ks s R := by
  have hc2 := isl_cell h2
  have l2 := IsL.len h2
  refine EXEC_loop_inv (fun k s => ∃ (j : Nat) (v : AV), j + k = p.steps.length ∧ HOK s.heap ∧ s.heap[0]? = some (toldBlk 0 n (BN p.steps j)) ∧ OutAt s.heap v (outR p.steps j) ∧ s.dfr = [] ∧ Fr s [(1, .fptr false [va, vb, .str p.pred, vc] 0), (3, v), (4, .sl 0 0 0 n), (5, i64 (j : Int))]) p.steps.length ⟨0, v0, by simp, hok0, hb0, ho0, e2, f⟩ ?_
  rintro k s Q ⟨j, v, h0, hok, hb, hout, e2, f⟩ hgo hx
  simp only [Fr_cons, Fr_nil, and_true] at f
  have hvc := hout.cell
  by_cases hj : j < p.steps.length
  · have hji : (j : Int) < (p.steps.length : Int) := by omega
    have hg : p.steps[j]? = some p.steps[j] := by simp [hj]
    obtain ⟨_, sv, ⟨cv, hcv, rfl⟩, hidx⟩ := IsL.idx h2 hg
    simp only [show Enc.sz Step = 16 from rfl] at hidx
    have hcc := isl_cell hcv
    have hln := IsL.len hcv
    obtain ⟨h8, hcr⟩ := hcols _ (List.getElem_mem hj)
    have hB1 : BN p.steps (j + 1) = bndN (BN p.steps j) p.steps[j].cols p.steps[j].cols.length := by simp only [BN, hg]
    have hO1 : outR p.steps (j + 1) = if asks p.steps[j] then insN (needOf (BN p.steps j) p.steps[j]) (outR p.steps j) else outR p.steps j := by simp only [outR, hg]
    have holen := outR_len p.steps j
    generalize hst : p.steps[j] = st at *
    generalize hHs : s.heap = Hs at *
    have hpos := lt_of hb
    have hwr : IntKind.i64.wrap ((j : Int) + 1) = ((j + 1 : Nat) : Int) := by rw [wrap_i64 (by omega) (by omega)]; push_cast; rfl
    simp [c_ref18_Needs_l3_eq, hHs, f, hc2, l2, hji, hidx, hcc, hln, AV.rowok, splice, putCells, buildA_cons, buildA_nil]
    refine rneeds_loop0 st cv hcv h8 n hn64 hcr (BN p.steps j) (Hs ++ [nblk st.pred 0]) Hs.length (by simp) hpos (by rw [List.getElem?_append_left hpos]; exact hb) (.fptr false [va, vb, .str p.pred, vc] 0) v (i64 (j : Int)) _ _ _ (by simp) (by simp [e2]) (by simp [Fr, f]) ?_
    intro s1 e1 e2 f
    simp only [Fr_cons, Fr_nil, and_true] at f
    have hneed : nblk st.pred (maskN (BN p.steps j) st.cols st.cols.length) = nblk (needOf (BN p.steps j) st).pred (needOf (BN p.steps j) st).cols := rfl
    rw [hneed] at e1
    simp only [set_app_len, List.set_cons_zero] at e1
    generalize hnd : needOf (BN p.steps j) st = nd at *
    have hok1 := HOK_nblk hok nd.pred nd.cols
    have hb1 : (Hs ++ [nblk nd.pred nd.cols])[0]? = some (toldBlk 0 n (BN p.steps j)) := by rw [List.getElem?_append_left hpos]; exact hb
    have hout1 : OutAt (Hs ++ [nblk nd.pred nd.cols]) v (outR p.steps j) := hout.app
    have hnb1 : (Hs ++ [nblk nd.pred nd.cols])[Hs.length]? = some (nblk nd.pred nd.cols) := by simp
    have hl1 : 0 < (Hs ++ [nblk nd.pred nd.cols]).length := by simp
    generalize hH1 : Hs ++ [nblk nd.pred nd.cols] = H1 at *
    simp [e1]
    refine rneeds_loop1 st cv hcv h8 n hn64 hcr (BN p.steps j) H1 hl1 (.fptr false [va, vb, .str p.pred, vc] 0) v (i64 (j : Int)) (.ptr Hs.length 0 0 0) _ _ _ (by rw [set_same hb1]) (by simp [e2]) (by simp [Fr, f]) ?_
    intro s2 e1 e2 f
    simp only [Fr_cons, Fr_nil, and_true] at f
    rw [← hB1] at e1
    have hok2 : HOK (H1.set 0 (toldBlk 0 n (BN p.steps (j + 1)))) := hok1.set (bits_under _ _ _)
    have hb2 : (H1.set 0 (toldBlk 0 n (BN p.steps (j + 1))))[0]? = some (toldBlk 0 n (BN p.steps (j + 1))) := by rw [List.getElem?_set_self hl1]
    have hout2 := hout1.set0 (toldBlk 0 n (BN p.steps (j + 1)))
    have hnb2 : (H1.set 0 (toldBlk 0 n (BN p.steps (j + 1))))[Hs.length]? = some (nblk nd.pred nd.cols) := by rw [List.getElem?_set_ne (by omega)]; exact hnb1
    have hl2 : 0 < (H1.set 0 (toldBlk 0 n (BN p.steps (j + 1)))).length := by simpa using hl1
    generalize H1.set 0 (toldBlk 0 n (BN p.steps (j + 1))) = H2 at *
    have skip : ¬ asks st → ∀ s' : St, s'.heap = H2 → s'.dfr = [] → Fr s' [(1, .fptr false [va, vb, .str p.pred, vc] 0), (3, v), (4, .sl 0 0 0 n), (5, i64 ((j + 1 : Nat) : Int))] → Q .normal s' := by
      intro ha s' q1 q2 q3
      rw [if_neg ha] at hO1
      exact hgo s' (k - 1) (by omega) ⟨j + 1, v, by omega, by rw [q1]; exact hok2, by rw [q1]; exact hb2, by rw [q1, hO1]; exact hout2, q2, q3⟩
    have ask : asks st → ∀ s' : St, s'.heap = H2 → s'.dfr = [] → Fr s' [(1, .fptr false [va, vb, .str p.pred, vc] 0), (3, v), (4, .sl 0 0 0 n), (5, i64 (j : Int)), (6, .fptr false (st.encW cv).cells 0), (7, .ptr Hs.length 0 0 0), (10, .int .i64 0)] →
        EXEC (callW tbl) loopW (.loop c_ref18_Needs_l2) [.block 6, .seq kR_ins, .block 1, .seq (.region [⟨some 23, false, .move (.tmp 5), none⟩, ⟨some 24, false, .bin .add .no (.tmp 23) (.const (.int .i64 1)), none⟩, ⟨some 5, true, .move (.tmp 24), none⟩])] s' Q := by
      intro ha s' q1 q2 q3
      simp only [Fr_cons, Fr_nil, and_true] at q3
      rw [if_pos ha] at hO1
      refine rneeds_loop2 nd (outR p.steps j) (by omega) v H2 Hs.length hnb2 hout2 (.fptr false [va, vb, .str p.pred, vc] 0) (.sl 0 0 0 n) (i64 (j : Int)) (.fptr false (st.encW cv).cells 0) _ _ _ q1 q2 (by simp [Fr, q3]) ?_
      intro s3 g1 g2 g3
      simp only [KONT_blockE, if_true, KONT_seqN]
      refine rneeds_ins nd (outR p.steps j) (by omega) v H2 Hs.length hok2 hnb2 hl2 hout2 (.fptr false [va, vb, .str p.pred, vc] 0) (.sl 0 0 0 n) (i64 (j : Int)) (.fptr false (st.encW cv).cells 0) _ _ _ g1 g2 g3 ?_
      intro T v' s4 k1 k2 k3 k4 k5
      simp only [Fr_cons, Fr_nil, and_true] at k5
      simp [k5]
      rw [hwr]
      exact hgo _ (k - 1) (by omega) ⟨j + 1, v', by omega, by rw [k3]; exact k1, by rw [k3, List.getElem?_append_left hl2]; exact hb2, by rw [k3, hO1]; exact k2, k4, by simp [Fr, k5]⟩
    by_cases o1 : st.op = 1
    · simp [e1, f, o1, hcc, AV.rowok]
      exact ask (.inl o1) _ rfl (by simp [e2]) (by simp [Fr, f])
    · by_cases o2 : st.op = 2
      · simp [e1, f, o2, hcc, AV.rowok]
        exact ask (.inr o2) _ rfl (by simp [e2]) (by simp [Fr, f])
      · simp [e1, f, o1, o2, hcc, AV.rowok]
        rw [hwr]
        exact skip (by rintro (h | h); exact o1 h; exact o2 h) _ rfl (by simp [e2]) (by simp [Fr, f])
  · have hji : ¬ (j : Int) < (p.steps.length : Int) := by omega
    have hje : j = p.steps.length := by omega
    subst hje
    simp [c_ref18_Needs_l3_eq, f, hc2, l2, hji, AV.rowok]
    exact hx _ _ (by simp) (hexit _ v _ hout rfl (by simp [e2]) (by simp [f]))

def RNeedsAre (p : Plan) (l : List Need) : Prop := (OkPlan p → l = outR p.steps p.steps.length) ∧ (¬ OkPlan p → l = [])
theorem OkPlan.colsN {p : Plan} (h : OkPlan p) : ∀ s ∈ p.steps, s.cols.length ≤ 8 ∧ ColsRn p.vars.length s.cols := by
  intro s hs
  obtain ⟨B, B', o1, o2⟩ := h.ok
  obtain ⟨h8, hr⟩ := okSteps_rng o1 s hs
  exact ⟨h8, fun c hc hu => hr c hc hu⟩
set_option maxHeartbeats 1000000 in
theorem refNeeds_run (v : AV) (p : Plan) (h : Is v p) (hn : p.steps.length < 2 ^ 16) : ∃ w, runPure (callW tbl) loopW a_ref18_Needs [v] = some w ∧ ∃ l, Is w l ∧ RNeedsAre p l := by
  have hv := h
  obtain ⟨va, vb, vc, h1, h2, h3, rfl⟩ := h
  have c1 := isl_cell h1
  have c2 := isl_cell h2
  have c3 := isl_cell h3
  have l1 := IsL.len h1
  have l2 := IsL.len h2
  refine pureK a_ref18_Needs rfl (fun F hF => ?_)
  obtain ⟨_, hcall, z, rfl, hz⟩ := refCheck_callA _ p hv (by omega) []
  by_cases hok : OkPlan p
  · have hz0 := hz.1 hok
    subst hz0
    have hv64 := hok.vars
    have q3 : p.vars.length ≤ 140737488355328 := by omega
    simp [a_ref18_Needs, c_ref18_Needs, AV.rowok, c1, c2, c3, l1, l2, q3, hcall]
    refine rneeds_loop3 p va vb vc h2 c1 c3 hn p.vars.length hv64 hok.colsN _ _ _ .nilsl ?_ (by simp [toldBlk, bitsOf_zero]) (.inl ⟨rfl, rfl⟩) rfl (by simp [Fr]) ?_
    · intro B hB
      simp at hB
      subst hB
      have := bits_under 1 p.vars.length 0
      rw [bitsOf_zero] at this
      exact this
    · intro H' v' s' q1 q2 q3 q4
      simp [q2, q3, q4]
      have holen := outR_len p.steps p.steps.length
      obtain ⟨r, hr, hri⟩ := reify_OutAt q1 (by omega)
      exact hF _ _ _ hr ⟨_, hri, fun _ => rfl, fun h => absurd hok h⟩
  · have hz0 := hz.2 hok
    subst hz0
    simp [a_ref18_Needs, c_ref18_Needs, AV.rowok, c1, c2, c3, l2, hcall]
    exact hF _ _ _ (reify_plain rfl) ⟨[], IsL.nil, fun h => absurd h hok, fun _ => rfl⟩
theorem refNeeds_call (v : AV) (p : Plan) (h : Is v p) (hn : p.steps.length < 2 ^ 16) (H : Heap) : ∃ w, callW tbl (.func f_ref18_Needs [] []) [v] H = some (w, H) ∧ ∃ l, Is w l ∧ RNeedsAre p l :=
  callP1 (f := f_ref18_Needs) (af := a_ref18_Needs) (S := fun w => ∃ l, Is w l ∧ RNeedsAre p l) rfl rfl p (by rintro w ⟨l, h1, h2⟩; exact ⟨l, Enc.lend h1, h2⟩) (fun v h => refNeeds_run v p h hn) v h H
end Go.Abs.Plan

/- Plan: both make the same needs. -/
set_option linter.unusedSimpArgs false
set_option linter.unusedVariables false
namespace Go.Abs.Plan
open Enc (Is)

theorem insN_nil (n : Need) : insN n [] = [n] := rfl
theorem insN_cons (n a : Need) (l : List Need) : insN n (a :: l) = if NLt a n then a :: insN n l else if a = n then a :: l else n :: a :: l := by
  unfold insN
  rw [posN_cons]
  by_cases h : NLt a n
  · simp only [h, if_true, List.length_cons, List.getElem?_cons_succ, List.take_succ_cons, List.drop_succ_cons, Nat.add_right_cancel_iff]
    split <;> simp
  · simp only [h, if_false, List.getElem?_cons_zero, List.take_zero, List.drop_zero, List.nil_append, List.length_cons]
    by_cases e : a = n
    · simp [e]
    · simp [e]
theorem insN_mem (n : Need) : ∀ {l : List Need}, l.Pairwise NLt → ∀ x, x ∈ insN n l ↔ x = n ∨ x ∈ l
  | [], _, x => by simp [insN_nil]
  | a :: l, h, x => by
    rw [insN_cons]
    have ih := insN_mem n (List.pairwise_cons.1 h).2 x
    split
    · simp only [List.mem_cons, ih]; constructor
      · rintro (h | h | h) <;> simp [h]
      · rintro (h | h | h) <;> simp [h]
    · split
      · rename_i e; subst e
        simp only [List.mem_cons]
        constructor
        · rintro (h | h) <;> simp [h]
        · rintro (h | h | h) <;> simp [h]
      · simp only [List.mem_cons]
theorem insN_sorted (n : Need) : ∀ {l : List Need}, l.Pairwise NLt → (insN n l).Pairwise NLt
  | [], _ => by simp [insN_nil]
  | a :: l, h => by
    rw [insN_cons]
    obtain ⟨h1, h2⟩ := List.pairwise_cons.1 h
    split
    · rename_i hlt
      refine List.pairwise_cons.2 ⟨fun x hx => ?_, insN_sorted n h2⟩
      rcases (insN_mem n h2 x).1 hx with rfl | hx
      · exact hlt
      · exact h1 x hx
    · rename_i hlt
      split
      · exact h
      · rename_i hne
        have hna : NLt n a := by
          rcases NLt.tri a n with k | k | k
          · exact absurd k hlt
          · exact absurd k hne
          · exact k
        refine List.pairwise_cons.2 ⟨fun x hx => ?_, h⟩
        rcases List.mem_cons.1 hx with rfl | hx
        · exact hna
        · exact hna.trans (h1 x hx)
theorem insN_in (n : Need) : ∀ {l : List Need}, l.Pairwise NLt → n ∈ l → insN n l = l
  | a :: l, h, hn => by
    rw [insN_cons]
    obtain ⟨h1, h2⟩ := List.pairwise_cons.1 h
    rcases List.mem_cons.1 hn with rfl | hn
    · simp [NLt.irrefl]
    · rw [if_pos (h1 n hn), insN_in n h2 hn]
theorem insN_perm (n : Need) : ∀ {l : List Need}, n ∉ l → (insN n l).Perm (n :: l)
  | [], _ => by rw [insN_nil]
  | a :: l, h => by
    rw [insN_cons]
    split
    · exact ((insN_perm n (fun hh => h (by simp [hh]))).cons a).trans (List.Perm.swap n a l)
    · rw [if_neg (fun e => h (by simp [e]))]
theorem outR_ok (ss : List Step) : ∀ j, (outR ss j).Pairwise NLt ∧ (outR ss j).Perm (outN ss j)
  | 0 => ⟨.nil, .nil⟩
  | j + 1 => by
    obtain ⟨h1, h2⟩ := outR_ok ss j
    simp only [outR, outN]
    cases hs : ss[j]? with
    | some s =>
      simp only
      by_cases ha : asks s
      · rw [if_pos ha]
        refine ⟨insN_sorted _ h1, ?_⟩
        by_cases hm : needOf (BN ss j) s ∈ outN ss j
        · rw [if_neg (fun h => h.2 hm), insN_in _ h1 (h2.mem_iff.2 hm)]
          exact h2
        · rw [if_pos ⟨ha, hm⟩]
          refine (insN_perm _ (fun hh => hm (h2.mem_iff.1 hh))).trans ?_
          exact (h2.cons _).trans (List.perm_append_singleton _ _).symm
      · rw [if_neg ha, if_neg (fun h => ha h.1)]
        exact ⟨h1, h2⟩
    | none => exact ⟨h1, h2⟩
theorem needs_same {p : Plan} {l l' : List Need} (h : NeedsAre p l) (h' : RNeedsAre p l') : l = l' := by
  by_cases hok : OkPlan p
  · obtain ⟨h1, h2⟩ := h.1 hok
    have h3 := h'.1 hok
    obtain ⟨h4, h5⟩ := outR_ok p.steps p.steps.length
    rw [← h3] at h4 h5
    refine List.Perm.eq_of_pairwise (le := fun a b => ¬ NLt b a) ?_ h2 ?_ (h1.trans h5.symm)
    · intro a b _ _ k1 k2
      rcases NLt.tri a b with k | k | k
      · exact absurd k k2
      · exact k
      · exact absurd k k1
    · exact h4.imp (S := fun a b => ¬ NLt b a) fun {a b} k => fun k' => NLt.irrefl _ (NLt.trans k k')
  · rw [h.2 hok, h'.2 hok]
end Go.Abs.Plan

/- Plan: PlanChecks' body. -/
set_option linter.unusedSimpArgs false
set_option linter.unusedVariables false
namespace Go.Abs.Plan
open Enc (Is)

def smallOf (p : Plan) : Plan := ⟨p.vars.take 70, p.steps.take 20, p.pred, p.head⟩
theorem cut_is {α : Type} [Enc α] {v : AV} {xs : List α} (h : Is v xs) (k : Nat) (hk : k < xs.length) (hsz : 0 < Enc.sz α) : ∃ w, sliceA (Enc.sz α) none (some (.int .i64 (k : Int))) v = some w ∧ Is w (xs.take k) ∧ (∀ a b c d, v ≠ .sl a b c d) := by
  rcases h.cases with ⟨rfl, rfl⟩ | ⟨fl, rows, rfl, hr⟩
  · simp at hk
  · have hlen := hr.length
    refine ⟨.fsl fl (rows.take k), ?_, IsL.fsl (hr.take k), fun _ _ _ _ h => by cases h⟩
    rw [slice_rows (sz := Enc.sz α) (l := 0) (h := k) hr rfl (by omega) (by simp [Go.Abs.bound]; omega) rfl]
    simp

set_option maxHeartbeats 1000000 in
theorem small_run (v : AV) (p : Plan) (h : Is v p) (hb : PlanBig p) : ∃ w, runPure (callW tbl) loopW a_law18_small [v] = some w ∧ Is w (smallOf p) := by
  obtain ⟨va, vb, vc, h1, h2, h3, rfl⟩ := h
  have c1 := isl_cell h1
  have c2 := isl_cell h2
  have c3 := isl_cell h3
  have l1 := IsL.len h1
  have l2 := IsL.len h2
  refine pureK a_law18_small rfl (fun F hF => ?_)
  have fin : ∀ (va' vb' : AV) (H : Heap), Is va' (p.vars.take 70) → Is vb' (p.steps.take 20) → F (.agg [va', vb', .str p.pred, vc]) H := fun va' vb' H q1 q2 =>
    hF _ _ _ (reify_plain (by simp [Enc.plain q1, Enc.plain q2, Enc.plain h3])) ⟨va', vb', vc, q1, q2, h3, rfl⟩
  have hA : p.vars.length ≤ 70 → p.vars.take 70 = p.vars := fun h => List.take_of_length_le h
  have hB : p.steps.length ≤ 20 → p.steps.take 20 = p.steps := fun h => List.take_of_length_le h
  by_cases k1 : 70 < p.vars.length
  · have k1i : (70 : Int) < (p.vars.length : Int) := by omega
    obtain ⟨wa, s1, i1, n1⟩ := cut_is h1 70 k1 (by decide)
    have s1' : sliceA 1 none (some (.int .i64 70)) va = some wa := s1
    have d1 := isl_cell i1
    by_cases k2 : 20 < p.steps.length
    · have k2i : (20 : Int) < (p.steps.length : Int) := by omega
      obtain ⟨wb, s2, i2, n2⟩ := cut_is h2 20 k2 (by decide)
      have s2' : sliceA 16 none (some (.int .i64 20)) vb = some wb := s2
      have d2 := isl_cell i2
      simp [a_law18_small, c_law18_small, AV.rowok, c1, c2, c3, d1, d2, l1, l2, k1i, k2i, s1', s2', putCells, splice]
      exact fin wa wb _ i1 i2
    · have k2i : ¬ (20 : Int) < (p.steps.length : Int) := by omega
      simp [a_law18_small, c_law18_small, AV.rowok, c1, c2, c3, d1, l1, l2, k1i, k2i, s1', putCells, splice]
      exact fin wa vb _ i1 (by rw [hB (by omega)]; exact h2)
  · have k1i : ¬ (70 : Int) < (p.vars.length : Int) := by omega
    by_cases k2 : 20 < p.steps.length
    · have k2i : (20 : Int) < (p.steps.length : Int) := by omega
      obtain ⟨wb, s2, i2, n2⟩ := cut_is h2 20 k2 (by decide)
      have s2' : sliceA 16 none (some (.int .i64 20)) vb = some wb := s2
      have d2 := isl_cell i2
      simp [a_law18_small, c_law18_small, AV.rowok, c1, c2, c3, d2, l1, l2, k1i, k2i, s2', putCells, splice]
      exact fin va wb _ (by rw [hA (by omega)]; exact h1) i2
    · have k2i : ¬ (20 : Int) < (p.steps.length : Int) := by omega
      simp [a_law18_small, c_law18_small, AV.rowok, c1, c2, c3, l1, l2, k1i, k2i, putCells, splice]
      exact fin va vb _ (by rw [hA (by omega)]; exact h1) (by rw [hB (by omega)]; exact h2)
theorem small_call (v : AV) (p : Plan) (h : Is v p) (hb : PlanBig p) (H : Heap) : ∃ w, callW tbl (.func f_law18_small [] []) [v] H = some (w, H) ∧ Is w (smallOf p) :=
  callP1 (f := f_law18_small) (af := a_law18_small) (S := fun w => Is w (smallOf p)) rfl rfl p (fun r h => Enc.lend h) (fun v h => small_run v p h hb) v h H
theorem small_fits {p : Plan} (hb : PlanBig p) : PlanFits (smallOf p) :=
  ⟨by have := List.length_take_le 70 p.vars; show (p.vars.take 70).length < _; omega, by have := List.length_take_le 20 p.steps; show (p.steps.take 20).length < _; omega, hb.head, fun s hs => hb.cols s (List.mem_of_mem_take hs)⟩
theorem small_steps (p : Plan) : (smallOf p).steps.length ≤ 20 := List.length_take_le 20 p.steps

theorem planChecks_loop (v w : AV) (l : List Need) (hv : Is v l) (hw : Is w l) (hl : l.length < 2 ^ 40) (x2 x3 : AV) (s : St) (ks : List KF) (R : AExit → St → Prop) (H : Heap)
    (e1 : s.heap = H) (e2 : s.dfr = []) (f2 : s.tm.get 2 = x2) (f3 : s.tm.get 3 = x3) (f5 : s.tm.get 5 = v) (f6 : s.tm.get 6 = w) (f7 : s.tm.get 7 = .int .i64 0)
    (hexit : ∀ s' : St, s'.heap = H → s'.dfr = [] → s'.tm.get 2 = x2 → s'.tm.get 3 = x3 → KONT (callW tbl) loopW ks (.exit 0) s' R) :
    EXEC (callW tbl) loopW (.loop c_law18_PlanChecks_l0) ks s R := by
  have lv := IsL.len hv
  refine EXEC_loop_inv (fun k s => ∃ j : Nat, j + k = l.length ∧ s.heap = H ∧ s.dfr = [] ∧ s.tm.get 2 = x2 ∧ s.tm.get 3 = x3 ∧ s.tm.get 5 = v ∧ s.tm.get 6 = w ∧ s.tm.get 7 = i64 (j : Int)) l.length ⟨0, by simp, e1, e2, f2, f3, f5, f6, f7⟩ ?_
  rintro k s Q ⟨j, h0, e1, e2, f2, f3, f5, f6, f7⟩ hgo hx
  by_cases hj : j < l.length
  · have hji : (j : Int) < (l.length : Int) := by omega
    have hg : l[j]? = some l[j] := by simp [hj]
    obtain ⟨_, r1, rfl, i1⟩ := IsL.idx hv hg
    obtain ⟨_, r2, rfl, i2⟩ := IsL.idx hw hg
    simp only [show Enc.sz Need = 2 from rfl] at i1 i2
    have hwr : IntKind.i64.wrap ((j : Int) + 1) = ((j + 1 : Nat) : Int) := by rw [wrap_i64 (by omega) (by omega)]; push_cast; rfl
    simp [c_law18_PlanChecks_l0, e1, f5, f6, f7, lv, hji, i1, i2, AV.rowok]
    rw [hwr]
    exact hgo _ (k - 1) (by omega) ⟨j + 1, by omega, rfl, by simp [e2], by simp [f2], by simp [f3], by simp [f5], by simp [f6], by simp⟩
  · have hji : ¬ (j : Int) < (l.length : Int) := by omega
    simp [c_law18_PlanChecks_l0, f5, f7, lv, hji]
    exact hx _ _ (by simp) (hexit _ (by simp [e1]) (by simp [e2]) (by simp [f2]) (by simp [f3]))

set_option maxHeartbeats 2000000 in
theorem PlanChecks_run (v w : AV) (p q : Plan) (hv : Is v p) (hw : Is w q) (hp : PlanBig p) (hq : PlanBig q) : ∃ r, runPure (callW tbl) loopW a_law18_PlanChecks [v, w] = some r ∧ r = .bool true := by
  obtain ⟨va, vb, vc, a1, a2, a3, rfl⟩ := hv
  obtain ⟨wa, wb, wc, b1, b2, b3, rfl⟩ := hw
  have c1 := isl_cell a1
  have c2 := isl_cell a2
  have c3 := isl_cell a3
  have d1 := isl_cell b1
  have d2 := isl_cell b2
  have d3 := isl_cell b3
  refine pureK a_law18_PlanChecks rfl (fun F hF => ?_)
  simp [a_law18_PlanChecks, c_law18_PlanChecks, AV.rowok, c1, c2, c3, d1, d2, d3]
  refine RCALLK_ex (small_call _ p ⟨va, vb, vc, a1, a2, a3, rfl⟩ hp _) (fun r1 hr1 => ?_)
  simp [AV.rowok, c1, c2, c3, d1, d2, d3]
  refine RCALLK_ex (small_call _ q ⟨wa, wb, wc, b1, b2, b3, rfl⟩ hq _) (fun r2 hr2 => ?_)
  have hf := small_fits hp
  have hs20 := small_steps p
  generalize smallOf p = P at *
  generalize smallOf q = Qq at *
  have hr1' := hr1
  have hr2' := hr2
  obtain ⟨va, vb, vc, a1, a2, a3, rfl⟩ := hr1
  obtain ⟨wa, wb, wc, b1, b2, b3, rfl⟩ := hr2
  have c1 := isl_cell a1
  have c2 := isl_cell a2
  have c3 := isl_cell a3
  have d1 := isl_cell b1
  have d2 := isl_cell b2
  have d3 := isl_cell b3
  simp [AV.rowok, c1, c2, c3, d1, d2, d3, putCells]
  refine RCALLK_ex (planNeeds_call _ P hr1' (by omega) _) (fun n1 hn1 => ?_)
  simp [AV.rowok, c1, c2, c3, d1, d2, d3]
  refine RCALLK_ex (refNeeds_call _ P hr1' (by omega) _) (fun n2 hn2 => ?_)
  obtain ⟨l, hl1, hna⟩ := hn1
  obtain ⟨l', hl2, hnb⟩ := hn2
  have hll := needs_same hna hnb
  subst hll
  have ln1 := IsL.len hl1
  have ln2 := IsL.len hl2
  have hlen : l.length < 2 ^ 40 := by
    by_cases hok : OkPlan P
    · have h1 := hnb.1 hok
      have h2 := outR_len P.steps P.steps.length
      rw [h1]; omega
    · rw [hna.2 hok]; simp
  simp [ln1, ln2, optBeq, AV.beq]
  refine planChecks_loop n1 n2 l hl1 hl2 hlen (.ptr 0 0 0 0) (.ptr 1 0 0 0) _ _ _ _ rfl rfl (by simp) (by simp) (by simp) (by simp) (by simp) ?_
  intro s' e1 e2 f2 f3
  obtain ⟨_, k1, z1, rfl, hz1⟩ := planCheck_callA _ P hr1' (by omega) [Blk.arr 0 4 [AV.agg [va, vb, AV.str P.pred, vc]], Blk.arr 0 4 [AV.agg [wa, wb, AV.str Qq.pred, wc]]]
  obtain ⟨_, k2, z2, rfl, hz2⟩ := refCheck_callA _ P hr1' (by omega) [Blk.arr 0 4 [AV.agg [va, vb, AV.str P.pred, vc]], Blk.arr 0 4 [AV.agg [wa, wb, AV.str Qq.pred, wc]]]
  obtain ⟨_, k3, t3, rfl, ht3⟩ := planSame_call _ _ P Qq hr1' hr2' hf [Blk.arr 0 4 [AV.agg [va, vb, AV.str P.pred, vc]], Blk.arr 0 4 [AV.agg [wa, wb, AV.str Qq.pred, wc]]]
  obtain ⟨_, k4, t4, rfl, ht4⟩ := refSame_call _ _ P Qq hr1' hr2' hf [Blk.arr 0 4 [AV.agg [va, vb, AV.str P.pred, vc]], Blk.arr 0 4 [AV.agg [wa, wb, AV.str Qq.pred, wc]]]
  obtain ⟨_, k5, t5, rfl, ht5⟩ := planSame_call _ _ P P hr1' hr1' hf [Blk.arr 0 4 [AV.agg [va, vb, AV.str P.pred, vc]], Blk.arr 0 4 [AV.agg [wa, wb, AV.str Qq.pred, wc]]]
  have haw := awake_call [Blk.arr 0 4 [AV.agg [va, vb, AV.str P.pred, vc]], Blk.arr 0 4 [AV.agg [wa, wb, AV.str Qq.pred, wc]]]
  have hz : z1 = z2 := by
    by_cases hok : OkPlan P
    · rw [hz1.1 hok, hz2.1 hok]
    · rw [hz1.2 hok, hz2.2 hok]
  have ht : t3 = t4 := by
    cases t3 <;> cases t4 <;> simp_all
  have ht5' : t5 = true := ht5.2 rfl
  subst hz; subst ht; subst ht5'
  simp [e1, e2, f2, f3, AV.rowok, c1, c2, c3, d1, d2, d3, k1, k2, k3, k4, k5, haw, optBeq, AV.beq]
  exact hF _ _ _ (reify_plain rfl) rfl
end Go.Abs.Plan
