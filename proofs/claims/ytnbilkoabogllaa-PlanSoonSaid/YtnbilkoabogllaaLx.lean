/- Plan: the steps, one behind the other. -/
import Derived.Test.YtnbilkoabogllaaKx
set_option linter.unusedSimpArgs false
set_option linter.unusedVariables false
namespace Go.Abs.Plan
open Enc (Is)

def countTrue (l : List Bool) : Nat := (l.filter id).length
theorem countTrue_set {l : List Bool} : ∀ {i : Nat}, l[i]? = some true → countTrue (l.set i false) + 1 = countTrue l := by
  induction l with
  | nil => intro i h; simp at h
  | cons a l ih =>
    intro i h
    cases i with
    | zero => simp at h; subst h; simp [countTrue]
    | succ i =>
      have := ih (i := i) (by simpa using h)
      simp only [countTrue, List.set_cons_succ, List.filter_cons] at this ⊢
      cases a <;> simp [← this]

/-- The scan yields what it has, or one of what it goes through. -/
theorem nextScan_mem (ns : List ByteArray) (B : Nat) : ∀ (xs : List (Nat × Lit)) (best most : Int), nextScan ns B xs best most = best ∨ ∃ x ∈ xs, nextScan ns B xs best most = (x.1 : Int)
  | [], best, most => .inl rfl
  | (i, l) :: rest, best, most => by
    simp only [nextScan]
    split
    · exact .inr ⟨(i, l), by simp, rfl⟩
    · split
      · rcases nextScan_mem ns B rest (i : Int) (cnt ns B (termsOf l) : Int) with h | ⟨x, hx, h⟩
        · exact .inr ⟨(i, l), by simp, h⟩
        · exact .inr ⟨x, by simp [hx], h⟩
      · rcases nextScan_mem ns B rest best most with h | ⟨x, hx, h⟩
        · exact .inl h
        · exact .inr ⟨x, by simp [hx], h⟩
theorem openLits_mem {left : List Bool} {ls : List Lit} {x : Nat × Lit} (h : x ∈ openLits left ls) : ls[x.1]? = some x.2 ∧ left[x.1]? = some true := by
  simp only [openLits, List.mem_map, List.mem_filter] at h
  obtain ⟨y, ⟨hy, hl⟩, rfl⟩ := h
  have := List.mem_zipIdx_iff_getElem?.1 hy
  refine ⟨this, ?_⟩
  simp only [List.getD_eq_getElem?_getD] at hl
  cases h : left[y.2]? with
  | none => rw [h] at hl; simp at hl
  | some b => rw [h] at hl; simp at hl; subst hl; rfl
theorem nextOf_spec (ns : List ByteArray) (B : Nat) (left : List Bool) (ls : List Lit) : nextOf ns B left ls = -1 ∨ ∃ (i : Nat) (l : Lit), nextOf ns B left ls = (i : Int) ∧ ls[i]? = some l ∧ left[i]? = some true := by
  rcases nextScan_mem ns B (openLits left ls) (-1) (-1) with h | ⟨x, hx, h⟩
  · exact .inl h
  · obtain ⟨h1, h2⟩ := openLits_mem hx
    exact .inr ⟨x.1, x.2, h, h1, h2⟩

def makeLoop (ns : List ByteArray) (ls : List Lit) (delta : Int) : Nat → List Bool → Nat → List Step × Nat
  | 0, _, B => ([], B)
  | k + 1, left, B => if nextOf ns B left ls < 0 then ([], B) else match ls[(nextOf ns B left ls).toNat]? with
    | none => ([], B)
    | some l => (stepOf ns B delta (nextOf ns B left ls).toNat l :: (makeLoop ns ls delta k (left.set (nextOf ns B left ls).toNat false) (stepB ns B l)).1,
        (makeLoop ns ls delta k (left.set (nextOf ns B left ls).toNat false) (stepB ns B l)).2)

theorem stepB_lt {ns : List ByteArray} {B : Nat} {l : Lit} (hl : ns.length ≤ 64) (hB : B < 2 ^ 64) (hg : goodLit ns l) : stepB ns B l < 2 ^ 64 := by
  unfold stepB
  split
  · rename_i h3
    exact colB_lt hl (colB_lt hl hB (hg _ (by simp [termsOf, h3]))) (hg _ (by simp [termsOf, h3]))
  · rename_i h3
    exact colsB_lt hl hB (fun t ht => hg t (by simpa [termsOf, h3] using ht))

/-- What does not change while a plan is made. -/
structure MkOk (m : Mk) (ns : List ByteArray) (ls : List Lit) : Prop where
  vars : Is m.vars ns
  len : ns.length ≤ 64
  r2 : Is m.r2 ls
  ll : ls.length < 2 ^ 10
  good : ∀ l ∈ ls, goodLit ns l
  known : ∀ l ∈ ls, known ns (termsOf l)
  kind : ∀ l ∈ ls, l.kind = 1 ∨ l.kind = 2 ∨ l.kind = 3
  args : ∀ l ∈ ls, l.atom.args.length < 2 ^ 20

theorem termsOf_len {l : Lit} (h : l.atom.args.length < 2 ^ 20) : (termsOf l).length < 2 ^ 40 := by unfold termsOf; split <;> simp; omega

theorem make_loop (m : Mk) (ns : List ByteArray) (ls : List Lit) (rc : Blk) (hm : MkOk m ns ls) (all : List Step) (Bend : Nat) (x1 x4 x6 : AV) (ks : List KF) (R : AExit → St → Prop)
    (hexit : ∀ (s : St) (left : List Bool) (sv : AV) (rows : List AV), MkHeap s.heap rc left { m with B := Bend, steps := sv } rows → All2 Is rows all → s.dfr = [] → s.tm.get 8 = .ptr 2 1 0 0 → s.tm.get 1 = x1 → s.tm.get 4 = x4 → s.tm.get 6 = x6 → KONT (callW tbl) loopW ks (.exit 3) s R) :
    ∀ (k : Nat) (s : St) (left : List Bool) (B : Nat) (sv : AV) (rows : List AV) (steps : List Step), countTrue left ≤ k → left.length = ls.length → m.left = .sl 1 1 0 left.length → MkHeap s.heap rc left { m with B := B, steps := sv } rows → All2 Is rows steps → steps ++ (makeLoop ns ls m.delta k left B).1 = all → (makeLoop ns ls m.delta k left B).2 = Bend → B < 2 ^ 64 →
      rows.length + k < 2 ^ 20 → s.dfr = [] → s.tm.get 8 = .ptr 2 1 0 0 → s.tm.get 11 = i64 (nextOf ns B left ls) → s.tm.get 1 = x1 → s.tm.get 4 = x4 → s.tm.get 6 = x6 →
      EXEC (callW tbl) loopW (.loop c_plan_Make_l1) ks s R := by
  intro k s left B sv rows steps h1 h2 h3 h4 h5 h6 h7 h8 h9 h10 h11 h12 h13 h14 h15
  refine EXEC_loop_inv (fun k s => ∃ left B sv rows steps, countTrue left ≤ k ∧ left.length = ls.length ∧ m.left = .sl 1 1 0 left.length ∧ MkHeap s.heap rc left { m with B := B, steps := sv } rows ∧ All2 Is rows steps ∧ steps ++ (makeLoop ns ls m.delta k left B).1 = all ∧ (makeLoop ns ls m.delta k left B).2 = Bend ∧ B < 2 ^ 64 ∧
      rows.length + k < 2 ^ 20 ∧ s.dfr = [] ∧ s.tm.get 8 = .ptr 2 1 0 0 ∧ s.tm.get 11 = i64 (nextOf ns B left ls) ∧ s.tm.get 1 = x1 ∧ s.tm.get 4 = x4 ∧ s.tm.get 6 = x6) k ⟨left, B, sv, rows, steps, h1, h2, h3, h4, h5, h6, h7, h8, h9, h10, h11, h12, h13, h14, h15⟩ ?_
  rintro k s Q ⟨left, B, sv, rows, steps, h1, h2, h3, h4, h5, h6, h7, h8, h9, h10, h11, h12, h13, h14, h15⟩ hn hx
  rcases nextOf_spec ns B left ls with hi | ⟨i, l, hi, hli, hle⟩
  · have hneg : ¬ (0 : Int) ≤ -1 := by decide
    rw [hi] at h12
    simp [c_plan_Make_l1, h12]
    refine hx _ _ (by simp) ?_
    have hend : makeLoop ns ls m.delta k left B = ([], B) := by
      cases k with
      | zero => rfl
      | succ k => simp [makeLoop, hi]
    rw [hend] at h6 h7
    simp only [List.append_nil] at h6 h7
    subst h6; subst h7
    exact hexit _ left sv rows h4 h5 h10 (by simp [h11]) (by simp [h13]) (by simp [h14]) (by simp [h15])
  · have hpos : (0 : Int) ≤ (i : Int) := by omega
    have hneg : ¬ (i : Int) < 0 := by omega
    rw [hi] at h12
    have hil := (List.getElem?_eq_some_iff.1 hli).1
    have hlm := List.mem_of_getElem? hli
    have hct := countTrue_set hle
    obtain ⟨k, rfl⟩ : ∃ k', k = k' + 1 := by cases k with
      | zero => omega
      | succ k => exact ⟨k, rfl⟩
    obtain ⟨H', sv', row, hcall, hM', hrow⟩ := step_call s.heap rc left { m with B := B, steps := sv } rows ns ls i l h4 hm.vars hm.len h8 hm.r2 h3 h2 hli (hm.good l hlm) (hm.kind l hlm) (hm.args l hlm) (by omega)
    have hB' := stepB_lt hm.len h8 (hm.good l hlm)
    have hnext := next_call 1 2 1 1 H' { m with B := stepB ns B l, steps := sv' } ns (left.set i false) ls hm.vars hm.len hM'.b2 hB' hM'.ok hm.r2 (by simpa using h3) hM'.b1 (by simpa using h2) (by have := hm.ll; omega) hm.known (fun l hl => termsOf_len (hm.args l hl))
    simp [c_plan_Make_l1, h12, h11, hcall, hnext]
    refine hn _ k (by omega) ⟨left.set i false, stepB ns B l, sv', rows ++ [row], steps ++ [stepOf ns B m.delta i l], by omega, by simpa using h2, by simpa using h3, hM', h5.append (.cons hrow .nil), ?_, ?_, hB', by simp; omega, h10, by simp [h11], by simp, by simp [h13], by simp [h14], by simp [h15]⟩
    · rw [← h6]
      simp [makeLoop, hi, hli, hneg]
    · rw [← h7]
      simp [makeLoop, hi, hli, hneg]
end Go.Abs.Plan

/- Plan: Make, walked. (The parts of its code: printed by wip/dev/parts.py.) -/
set_option linter.unusedSimpArgs false
set_option linter.unusedVariables false
namespace Go.Abs.Plan
open Enc (Is)

def k_plan_Make_10 : ACode := .ret
def k_plan_Make_9 : ACode := (.seq (.region [⟨some 130, false, .move (.tmp 8), none⟩, ⟨some 131, false, .nilCheck (.tmp 130), none⟩, ⟨some 132, false, .fieldAddr 3 (.tmp 131), none⟩, ⟨some 133, false, .load true 4 (.tmp 132), none⟩, ⟨none, true, .store 4 (.tmp 4) (.tmp 133), none⟩, ⟨some 5, true, .move (.const (.int .i64 0)), none⟩]) k_plan_Make_10)
def k_plan_Make_8 : ACode := (.seq (.draw [⟨some 114, false, .move (.tmp 8), none⟩, ⟨some 115, false, .move (.tmp 8), none⟩, ⟨some 116, false, .fieldAddr 0 (.tmp 6), none⟩, ⟨some 117, false, .fieldAddr 0 (.tmp 116), none⟩, ⟨some 118, false, .load false 1 (.tmp 117), none⟩, ⟨some 119, false, .move (.tmp 8), none⟩, ⟨some 120, false, .fieldAddr 0 (.tmp 6), none⟩, ⟨some 121, false, .fieldAddr 1 (.tmp 120), none⟩, ⟨some 122, false, .load false 1 (.tmp 121), none⟩, ⟨some 123, false, .call (.func f_plan_making_cols) [(.tmp 119), (.tmp 122)], none⟩, ⟨some 124, false, .nilCheck (.tmp 114), none⟩, ⟨some 125, false, .fieldAddr 3 (.tmp 124), none⟩, ⟨some 126, false, .fieldAddr 2 (.tmp 125), none⟩, ⟨none, true, .store 1 (.tmp 126) (.tmp 118), none⟩, ⟨some 127, false, .nilCheck (.tmp 115), none⟩, ⟨some 128, false, .fieldAddr 3 (.tmp 127), none⟩, ⟨some 129, false, .fieldAddr 3 (.tmp 128), none⟩, ⟨none, true, .store 1 (.tmp 129) (.tmp 123), none⟩] [(4, 9)]) k_plan_Make_9)
def k_plan_Make_7 : ACode := (.seq (.seq (.region [⟨some 105, false, .move (.tmp 8), none⟩, ⟨some 106, false, .call (.func f_plan_making_next) [(.tmp 105)], none⟩, ⟨some 11, true, .move (.tmp 106), none⟩])
 (.block 3 (.loop c_plan_Make_l1))) k_plan_Make_8)
def k_plan_Make_6 : ACode := (.seq (.seq (.region [⟨some 77, false, .move (.tmp 1), none⟩, ⟨some 78, true, .bin .geq .no (.tmp 77) (.const (.int .i64 0)), none⟩])
 (.cond (.tmp 78) (.seq (.region [⟨some 79, false, .fieldAddr 2 (.tmp 6), none⟩, ⟨some 80, false, .load false 1 (.tmp 79), none⟩, ⟨some 81, false, .move (.tmp 1), none⟩, ⟨some 82, false, .indexAddr 14 (.tmp 80) (.tmp 81), none⟩, ⟨some 83, false, .fieldAddr 1 (.tmp 82), none⟩, ⟨some 84, false, .load true 2 (.tmp 83), none⟩, ⟨some 10, true, .boxF 2 (.tmp 84), none⟩])
 (.draw [⟨some 85, false, .move (.tmp 8), none⟩, ⟨some 86, false, .move (.tmp 8), none⟩, ⟨some 87, false, .nilCheck (.tmp 86), none⟩, ⟨some 88, false, .fieldAddr 3 (.tmp 87), none⟩, ⟨some 89, false, .fieldAddr 1 (.tmp 88), none⟩, ⟨some 90, false, .load false 1 (.tmp 89), none⟩, ⟨some 91, false, .move (.tmp 1), none⟩, ⟨some 92, false, .fieldAddr 0 (.tmp 10), none⟩, ⟨some 93, false, .load false 1 (.tmp 92), none⟩, ⟨some 94, false, .move (.tmp 8), none⟩, ⟨some 95, false, .fieldAddr 1 (.tmp 10), none⟩, ⟨some 96, false, .load false 1 (.tmp 95), none⟩, ⟨some 97, false, .call (.func f_plan_vars) [(.tmp 96)], none⟩, ⟨some 98, false, .call (.func f_plan_making_cols) [(.tmp 94), (.tmp 97)], none⟩, ⟨some 99, false, .build [(.int .i64 0), (.int .i64 0), (.str ⟨#[]⟩), (.bool false), .nilsl, (.int .i64 0), (.int .i64 0), (.int .i64 0), (.int .i64 0), (.int .i64 0), (.str ⟨#[]⟩), (.int .i64 0), (.int .i64 0), (.int .i64 0), (.int .i64 0), (.str ⟨#[]⟩)] [(0, 1, (.const (.int .i64 4))), (1, 1, (.tmp 91)), (2, 1, (.tmp 93)), (4, 1, (.tmp 98))], none⟩, ⟨some 100, false, .buildSlice (.agg [(.int .i64 0), (.int .i64 0), (.str ⟨#[]⟩), (.bool false), .nilsl, (.int .i64 0), (.int .i64 0), (.int .i64 0), (.int .i64 0), (.int .i64 0), (.str ⟨#[]⟩), (.int .i64 0), (.int .i64 0), (.int .i64 0), (.int .i64 0), (.str ⟨#[]⟩)]) 1 [(0, (.tmp 99))], none⟩, ⟨some 101, false, .append 16 168 (.tmp 90) (.tmp 100), none⟩, ⟨some 102, false, .nilCheck (.tmp 85), none⟩, ⟨some 103, false, .fieldAddr 3 (.tmp 102), none⟩, ⟨some 104, false, .fieldAddr 1 (.tmp 103), none⟩, ⟨none, true, .store 1 (.tmp 104) (.tmp 101), none⟩] [(5, 12), (8, 12), (5, 13), (8, 13), (5, 15)])) .skip)) k_plan_Make_7)
def k_plan_Make_5 : ACode := (.seq (.seq (.region [⟨some 59, false, .move (.tmp 8), none⟩, ⟨some 60, false, .nilCheck (.tmp 59), none⟩, ⟨some 61, false, .fieldAddr 8 (.tmp 60), none⟩, ⟨some 62, false, .load false 1 (.tmp 61), none⟩, ⟨some 63, true, .len .slice (.tmp 62), none⟩, ⟨some 64, true, .move (.const (.int .i64 0)), none⟩])
 (.block 1 (.loop c_plan_Make_l0))) k_plan_Make_6)
def k_plan_Make_4 : ACode := (.seq (.region [⟨some 53, false, .move (.tmp 8), none⟩, ⟨some 54, false, .load true 3 (.tmp 6), none⟩, ⟨some 55, false, .call (.func f_check_Vars) [(.tmp 54)], none⟩, ⟨some 56, false, .nilCheck (.tmp 53), none⟩, ⟨some 57, false, .fieldAddr 3 (.tmp 56), none⟩, ⟨some 58, false, .fieldAddr 0 (.tmp 57), none⟩, ⟨none, true, .store 1 (.tmp 58) (.tmp 55), none⟩]) k_plan_Make_5)
def k_plan_Make_3 : ACode := (.seq (.draw [⟨some 45, false, .load true 3 (.tmp 6), none⟩, ⟨some 46, false, .move (.tmp 1), none⟩, ⟨some 47, false, .fieldAddr 2 (.tmp 6), none⟩, ⟨some 48, false, .load false 1 (.tmp 47), none⟩, ⟨some 49, false, .len .slice (.tmp 48), none⟩, ⟨some 50, false, .makeSlice (.bool false) 1 (.tmp 49) (.tmp 49), none⟩, ⟨some 51, false, .build [(.str ⟨#[]⟩), .nilsl, .nilsl, .nilsl, .nilsl, (.str ⟨#[]⟩), .nilsl, (.int .u64 0), .nilsl, (.int .i64 0)] [(0, 3, (.tmp 45)), (9, 1, (.tmp 46)), (8, 1, (.tmp 50))], none⟩, ⟨some 52, false, .box 10 (.tmp 51), none⟩, ⟨some 8, true, .move (.tmp 52), none⟩] [(0, 5)]) k_plan_Make_4)
def k_plan_Make_2 : ACode := (.seq (.block 0 (.seq (.region [⟨some 18, false, .move (.tmp 7), none⟩, ⟨some 19, false, .un .not (.tmp 18), none⟩, ⟨some 17, true, .move (.tmp 19), none⟩])
 (.cond (.tmp 17) (.seq (.region [⟨some 20, false, .build [.nilsl, .nilsl, (.str ⟨#[]⟩), .nilsl] [], none⟩, ⟨none, true, .store 4 (.tmp 4) (.tmp 20), none⟩, ⟨some 5, true, .move (.const (.int .i64 180)), none⟩])
 .ret) (.seq (.region [⟨some 22, false, .move (.tmp 1), none⟩, ⟨some 23, false, .bin .lss .no (.tmp 22) (.const (.int .i64 (-1))), none⟩, ⟨some 24, false, .move (.tmp 23), none⟩, ⟨some 25, false, .move (.tmp 1), some (24, false)⟩, ⟨some 26, false, .fieldAddr 2 (.tmp 2), some (24, false)⟩, ⟨some 27, false, .load false 1 (.tmp 26), some (24, false)⟩, ⟨some 28, false, .len .slice (.tmp 27), some (24, false)⟩, ⟨some 29, false, .bin .geq .no (.tmp 25) (.tmp 28), some (24, false)⟩, ⟨some 30, false, .pick (.tmp 24) (.const (.bool true)) (.tmp 29), none⟩, ⟨some 21, true, .move (.tmp 30), none⟩])
 (.cond (.tmp 21) (.seq (.region [⟨some 31, false, .build [.nilsl, .nilsl, (.str ⟨#[]⟩), .nilsl] [], none⟩, ⟨none, true, .store 4 (.tmp 4) (.tmp 31), none⟩, ⟨some 5, true, .move (.const (.int .i64 5)), none⟩])
 .ret) (.seq (.region [⟨some 33, false, .move (.tmp 1), none⟩, ⟨some 34, false, .bin .geq .no (.tmp 33) (.const (.int .i64 0)), none⟩, ⟨some 35, false, .move (.tmp 34), none⟩, ⟨some 36, false, .fieldAddr 2 (.tmp 6), some (35, true)⟩, ⟨some 37, false, .load false 1 (.tmp 36), some (35, true)⟩, ⟨some 38, false, .move (.tmp 1), some (35, true)⟩, ⟨some 39, false, .indexAddr 14 (.tmp 37) (.tmp 38), some (35, true)⟩, ⟨some 40, false, .fieldAddr 0 (.tmp 39), some (35, true)⟩, ⟨some 41, false, .load false 1 (.tmp 40), some (35, true)⟩, ⟨some 42, false, .bin .eql .no (.tmp 41) (.const (.int .i64 3)), some (35, true)⟩, ⟨some 43, false, .pick (.tmp 35) (.tmp 42) (.const (.bool false)), none⟩, ⟨some 32, true, .move (.tmp 43), none⟩])
 (.cond (.tmp 32) (.seq (.region [⟨some 44, false, .build [.nilsl, .nilsl, (.str ⟨#[]⟩), .nilsl] [], none⟩, ⟨none, true, .store 4 (.tmp 4) (.tmp 44), none⟩, ⟨some 5, true, .move (.const (.int .i64 1)), none⟩])
 .ret) .skip))))))) k_plan_Make_3)
def k_plan_Make_1 : ACode := (.seq (.region [⟨some 13, false, .load true 3 (.tmp 2), none⟩, ⟨some 14, false, .call (.func f_plan_clean) [(.tmp 13)], none⟩, ⟨some 12, false, .move (.tmp 14), none⟩, ⟨some 15, false, .extract (.tmp 12) 0, none⟩, ⟨some 16, false, .extract (.tmp 12) 1, none⟩, ⟨some 6, true, .boxF 3 (.tmp 15), none⟩, ⟨some 7, true, .move (.tmp 16), none⟩]) k_plan_Make_2)
def k_plan_Make_0 : ACode := (.seq (.region [⟨some 2, true, .boxF 3 (.tmp 0), none⟩, ⟨some 4, true, .alloc (.agg [.nilsl, .nilsl, (.str ⟨#[]⟩), .nilsl]), none⟩, ⟨some 5, true, .move (.const (.int .i64 0)), none⟩]) k_plan_Make_1)
theorem k_plan_Make : c_plan_Make = k_plan_Make_0 := rfl

theorem StepsAt.reify {H : Heap} {v : AV} {rows : List AV} (h : StepsAt H v rows) {steps : List Step} (hr : All2 Is rows steps) : ∃ v', (∀ k, Go.Abs.reify H (k + 2) v = some v') ∧ Is v' steps := by
  rcases h with ⟨rfl, rfl⟩ | ⟨sid, sg, h3, rfl, hb⟩
  · cases hr; exact ⟨.nilsl, fun k => reify_plain' rfl, IsL.nil⟩
  · exact ⟨.fsl false rows, fun k => reify_rowsK hb (by omega) (by simp) hr, IsL.fsl hr⟩

theorem makeLoop_lt {m : Mk} {ns : List ByteArray} {ls : List Lit} (hm : MkOk m ns ls) {delta : Int} : ∀ {B : Nat}, B < 2 ^ 64 → ∀ (k : Nat) (left : List Bool), (makeLoop ns ls delta k left B).2 < 2 ^ 64
  | B, hB, 0, left => hB
  | B, hB, k + 1, left => by
    simp only [makeLoop]
    split
    · exact hB
    · split
      · exact hB
      · rename_i l hl
        exact makeLoop_lt hm (stepB_lt hm.len hB (hm.good l (List.mem_of_getElem? hl))) k _

/-- The end of 'Make': the head's columns; what is made is handed over. -/
theorem make_end (r : Rule) (m : Mk) (ns : List ByteArray) (va bv : AV) (left : List Bool) (rows : List AV) (steps : List Step) (s : St) (ha : Is va r.head.args) (hh : r.head.args.length < 2 ^ 20) (hv : Is m.vars ns) (hl : ns.length ≤ 64) (hB : m.B < 2 ^ 64) (hg : ∀ t ∈ r.head.args, goodTerm ns t)
    (hM : MkHeap s.heap (.arr 0 4 [.agg [.nilsl, .nilsl, .str ⟨#[]⟩, .nilsl]]) left m rows) (hr : All2 Is rows steps) (hd : s.dfr = []) (h8 : s.tm.get 8 = .ptr 2 1 0 0) (h4 : s.tm.get 4 = .ptr 0 0 0 0) (h6 : s.tm.get 6 = .fptr false [.str r.head.pred, va, bv] 0)
    (F : AV → Heap → Prop) (hF : ∀ (H' : Heap) (sv hv' sv' : AV), (∀ k, reify H' (k + 2) sv = some sv') → Is sv' steps → Is hv' (colsOf ns m.B r.head.args) → F (.tuple [.agg [m.vars, sv, .str r.head.pred, hv'], i64 0]) H') :
    EXEC (callW tbl) loopW k_plan_Make_8 [] s (FINQ [.cell 4 true 4, .tmp 5] F) := by
  have n0 : 0 < s.heap.length := lt_of hM.b0
  have n2 := hM.len
  have k0 := hat_of hM.b0
  have k2 := hat_of hM.b2
  have hca := isl_cell ha
  have hcv := isl_cell hv
  simp [k_plan_Make_8, k_plan_Make_9, k_plan_Make_10, h8, h6]
  refine RCALLK_ex (cols_call 1 2 _ m ns va r.head.args hv hl hM.b2 hB hM.ok ha hg (by omega)) (fun cv hcc => ?_)
  have hcc' := isl_cell hcc
  have hsc : m.steps.isCell = true := by rcases hM.st with ⟨h, _⟩ | ⟨_, _, _, h, _⟩ <;> rw [h] <;> rfl
  simp [n2, n0, k0, k2, h8, h4, Mk.blk, hcc', hcv, hsc, hd, AV.rowok, putCells, splice]
  refine (fun (hst : StepsAt _ m.steps rows) => ?_) (hM.st.mono (H' := (s.heap.set 2 (.arr 1 10 [.agg [m.r0, m.r1, m.r2, m.vars, m.steps, .str r.head.pred, cv, .int .u64 (colsB ns m.B r.head.args : Nat), m.left, i64 m.delta]])).set 0 (.arr 0 4 [.agg [m.vars, m.steps, .str r.head.pred, cv]])) fun j B h3 hb => by
    rw [List.getElem?_set_ne (by omega), List.getElem?_set_ne (by omega)]; exact hb)
  obtain ⟨sv', e1, e2⟩ := hst.reify hr
  exact hF _ _ _ sv' e1 e2 hcc

/-- One round more of the steps. -/
theorem make_steps (r : Rule) (m : Mk) (ns : List ByteArray) (ls : List Lit) (va bv : AV) (left : List Bool) (rows : List AV) (steps : List Step) (s : St) (hm : MkOk m ns ls) (ha : Is va r.head.args) (hh : r.head.args.length < 2 ^ 20) (hB : m.B < 2 ^ 64) (hg : ∀ t ∈ r.head.args, goodTerm ns t)
    (hll : left.length = ls.length) (hleft : m.left = .sl 1 1 0 left.length)
    (hM : MkHeap s.heap (.arr 0 4 [.agg [.nilsl, .nilsl, .str ⟨#[]⟩, .nilsl]]) left m rows) (hr : All2 Is rows steps) (hrl : rows.length ≤ 1) (hd : s.dfr = []) (h8 : s.tm.get 8 = .ptr 2 1 0 0) (h4 : s.tm.get 4 = .ptr 0 0 0 0) (h6 : s.tm.get 6 = .fptr false [.str r.head.pred, va, bv] 0)
    (F : AV → Heap → Prop) (hF : ∀ (H' : Heap) (sv hv' sv' : AV), (∀ k, reify H' (k + 2) sv = some sv') → Is sv' (steps ++ (makeLoop ns ls m.delta ls.length left m.B).1) → Is hv' (colsOf ns (makeLoop ns ls m.delta ls.length left m.B).2 r.head.args) → F (.tuple [.agg [m.vars, sv, .str r.head.pred, hv'], i64 0]) H') :
    EXEC (callW tbl) loopW k_plan_Make_7 [] s (FINQ [.cell 4 true 4, .tmp 5] F) := by
  have hnext := next_call 1 2 1 1 s.heap m ns left ls hm.vars hm.len hM.b2 hB hM.ok hm.r2 hleft hM.b1 hll (by have := hm.ll; omega) hm.known (fun l hl => termsOf_len (hm.args l hl))
  simp [k_plan_Make_7, h8, hnext]
  have hct : countTrue left ≤ ls.length := by rw [← hll]; exact List.length_filter_le ..
  have hml := hm.ll
  refine make_loop m ns ls _ hm (steps ++ (makeLoop ns ls m.delta ls.length left m.B).1) (makeLoop ns ls m.delta ls.length left m.B).2 (s.tm.get 1) (.ptr 0 0 0 0) (.fptr false [.str r.head.pred, va, bv] 0) _ _ ?_ ls.length _ left m.B m.steps rows steps hct hll hleft hM hr rfl rfl hB (by omega) (by simp [hd]) (by simp [h8]) (by simp) (by simp) (by simp [h4]) (by simp [h6])
  intro s' left' sv rows' q1 q2 q3 q4 q5 q6 q7
  simp
  refine make_end r { m with B := (makeLoop ns ls m.delta ls.length left m.B).2, steps := sv } ns va bv left' rows' _ s' ha hh hm.vars hm.len ?_ hg q1 q2 q3 q4 q6 q7 F (fun H' sv hv' sv' e1 e2 e3 => hF H' sv hv' sv' e1 e2 e3)
  exact makeLoop_lt hm hB _ _

abbrev zPlan : Blk := .arr 0 4 [.agg [.nilsl, .nilsl, .str ⟨#[]⟩, .nilsl]]
def deltaStep (ns : List ByteArray) (delta : Int) (l : Lit) : Step := ⟨4, delta, l.atom.pred, false, colsOf ns 0 (varsOf l.atom.args), 0, zeroCol, zeroCol⟩
/-- The steps of a plan, and what is bound behind them. -/
def planSteps (ns : List ByteArray) (ls : List Lit) (delta : Int) (left : List Bool) : List Step × Nat :=
  if 0 ≤ delta then match ls[delta.toNat]? with
    | some l => (deltaStep ns delta l :: (makeLoop ns ls delta ls.length left (colsB ns 0 (varsOf l.atom.args))).1, (makeLoop ns ls delta ls.length left (colsB ns 0 (varsOf l.atom.args))).2)
    | none => ([], 0)
  else makeLoop ns ls delta ls.length left 0

theorem varsOf_mem {ts : List Term} {t : Term} (h : t ∈ varsOf ts) : t ∈ ts := by
  unfold varsOf at h
  suffices ∀ out : List Term, t ∈ ts.foldl addVar out → t ∈ out ∨ t ∈ ts by simpa using this [] h
  clear h
  induction ts with
  | nil => intro out h; exact .inl h
  | cons x ts ih =>
    intro out h
    rcases ih (addVar out x) h with h | h
    · unfold addVar at h
      split at h
      · rcases List.mem_append.1 h with h | h
        · exact .inl h
        · simp at h; exact .inr (by simp [h])
      · exact .inl h
    · exact .inr (by simp [h])

set_option maxHeartbeats 2000000 in
theorem make_delta (r : Rule) (m : Mk) (ns : List ByteArray) (ls : List Lit) (va bv : AV) (left : List Bool) (s : St) (hm : MkOk m ns ls) (ha : Is va r.head.args) (hh : r.head.args.length < 2 ^ 20) (hB : m.B = 0) (hg : ∀ t ∈ r.head.args, goodTerm ns t)
    (hll : left.length = ls.length) (hleft : m.left = .sl 1 1 0 left.length) (hsv : m.steps = .nilsl) (hbv : m.r2 = bv)
    (hs : s.heap = [zPlan, .arr 1 1 (left.map AV.bool), m.blk 1]) (hM : MkHeap s.heap zPlan left m []) (hd : s.dfr = []) (h8 : s.tm.get 8 = .ptr 2 1 0 0) (h4 : s.tm.get 4 = .ptr 0 0 0 0) (h6 : s.tm.get 6 = .fptr false [.str r.head.pred, va, bv] 0) (h1 : s.tm.get 1 = i64 m.delta)
    (hdl : m.delta < ls.length) (hdk : ∀ l, ls[m.delta.toNat]? = some l → 0 ≤ m.delta → l.kind ≠ 3)
    (F : AV → Heap → Prop) (hF : ∀ (H' : Heap) (sv hv' sv' : AV), (∀ k, reify H' (k + 2) sv = some sv') → Is sv' (planSteps ns ls m.delta left).1 → Is hv' (colsOf ns (planSteps ns ls m.delta left).2 r.head.args) → F (.tuple [.agg [m.vars, sv, .str r.head.pred, hv'], i64 0]) H') :
    EXEC (callW tbl) loopW k_plan_Make_6 [] s (FINQ [.cell 4 true 4, .tmp 5] F) := by
  by_cases hneg : 0 ≤ m.delta
  · obtain ⟨i, hi⟩ : ∃ i : Nat, m.delta = i := ⟨m.delta.toNat, by omega⟩
    have hil : i < ls.length := by omega
    have hli : ls[i]? = some ls[i] := List.getElem?_eq_getElem hil
    obtain ⟨fl, lv, ⟨la, hla, rfl⟩, hidx⟩ := IsL.idx hm.r2 hli
    simp only [show Enc.sz Lit = 14 from rfl] at hidx
    generalize hl : ls[i] = l at *
    have hlm : l ∈ ls := by rw [← hl]; exact List.getElem_mem hil
    have hk3 := hdk l (by rw [hi]; simpa using hli) hneg
    have hc := isl_cell hla
    have hargs := hm.args l hlm
    have hM2 := (hM.push (.dead 0) rfl).push (.dead 0) rfl
    rw [hs] at hM2
    subst hbv
    have hps : planSteps ns ls m.delta left = (deltaStep ns m.delta l :: (makeLoop ns ls m.delta ls.length left (colsB ns 0 (varsOf l.atom.args))).1, (makeLoop ns ls m.delta ls.length left (colsB ns 0 (varsOf l.atom.args))).2) := by
      unfold planSteps; rw [if_pos hneg, hi]; simp [hli]
    simp [k_plan_Make_6, h1, h6, h8, hneg]
    rw [hi]
    simp [hidx, AV.rowok, hc, hs, h8, h1, Mk.blk]
    refine RCALLK_ex (vars_call la l.atom.args hla (by omega) _) (fun vv hvi => ?_)
    simp
    refine RCALLK_ex (cols_call 1 2 _ m ns vv (varsOf l.atom.args) hm.vars hm.len hM2.b2 (by rw [hB]; decide) hM2.ok hvi (fun t ht => ?_) (Nat.lt_of_le_of_lt (varsOf_len _) (by omega))) (fun cv hcv => ?_)
    · exact hm.good l hlm t (by simp [termsOf, hk3]; exact varsOf_mem ht)
    have hcc := isl_cell hcv
    simp [Mk.blk, AV.rowok, hcc, putCells, splice, buildA_nil, buildA_cons, buildRows, hsv, appendA_sl, appendTo_nil, slRows, room]
    have hst : Is (.agg [i64 4, i64 m.delta, .str l.atom.pred, .bool false, cv, i64 0, i64 0, i64 0, i64 0, i64 0, .str ⟨#[]⟩, i64 0, i64 0, i64 0, i64 0, .str ⟨#[]⟩]) (deltaStep ns m.delta l) := ⟨cv, by rw [hB] at hcv; exact hcv, rfl⟩
    have hur : ∀ n, AV.under n (.agg [i64 4, i64 m.delta, .str l.atom.pred, .bool false, cv, i64 0, i64 0, i64 0, i64 0, i64 0, .str ⟨#[]⟩, i64 0, i64 0, i64 0, i64 0, .str ⟨#[]⟩]) = true := fun n => plain_under _ (Enc.plain hst)
    have hm' : MkOk { m with B := colsB ns m.B (varsOf l.atom.args), steps := .sl 4 1 0 1 } ns ls := ⟨hm.vars, hm.len, hm.r2, hm.ll, hm.good, hm.known, hm.kind, hm.args⟩
    refine make_steps r { m with B := colsB ns m.B (varsOf l.atom.args), steps := .sl 4 1 0 1 } ns ls va m.r2 left [.agg [i64 4, i64 m.delta, .str l.atom.pred, .bool false, cv, i64 0, i64 0, i64 0, i64 0, i64 0, .str ⟨#[]⟩, i64 0, i64 0, i64 0, i64 0, .str ⟨#[]⟩]] [deltaStep ns m.delta l] _ hm' ha hh (colsB_lt hm.len (by rw [hB]; decide) (fun t ht => hm.good l hlm t (by simp [termsOf, hk3]; exact varsOf_mem ht))) hg hll hleft ?_ (.cons hst .nil) (by simp) (by simp [hd]) (by simp [h8]) (by simp [h4]) (by simp [h6]) F (fun H' sv hv' sv' e1 e2 e3 => ?_)
    · refine ⟨rfl, rfl, rfl, ?_, .inr ⟨4, 1, by decide, rfl, rfl⟩⟩
      intro C hC
      have hm2 := blkUnder_mono (show s.heap.length ≤ 5 by rw [hs]; simp) (hM.ok.get hM.b2)
      simp at hC ⊢
      rcases hC with rfl | rfl | rfl | rfl | rfl
      · rfl
      · have hb1 := hM.ok.get hM.b1
        exact blkUnder_mono (show s.heap.length ≤ 5 by rw [hs]; simp) hb1
      · simp [Mk.blk, Blk.under, AV.unders, AV.under] at hm2 ⊢
        simp [hm2]
      all_goals simp [Blk.under, AV.unders, hur]
    · rw [hps] at hF
      refine hF H' sv hv' sv' e1 ?_ ?_
      · simpa [hB] using e2
      · simpa [hB] using e3
  · have hps : planSteps ns ls m.delta left = makeLoop ns ls m.delta ls.length left 0 := by unfold planSteps; rw [if_neg hneg]
    rw [hps] at hF
    simp [k_plan_Make_6, h1, hneg]
    refine make_steps r m ns ls va bv left [] [] { s with tm := s.tm.put 78 (.bool false) } hm ha hh (by rw [hB]; decide) hg hll hleft hM .nil (by simp) hd (by simp [h8]) (by simp [h4]) (by simp [h6]) F (fun H' sv hv' sv' e1 e2 e3 => ?_)
    rw [hB] at e2 e3
    exact hF H' sv hv' sv' e1 (by simpa using e2) e3

def leftAt (delta : Int) (n j : Nat) : List Bool := (List.range n).map fun (i : Nat) => decide (i < j) && decide ((i : Int) ≠ delta)
def left0 (delta : Int) (n : Nat) : List Bool := (List.range n).map fun (i : Nat) => decide ((i : Int) ≠ delta)
theorem leftAt_zero (delta : Int) (n : Nat) : leftAt delta n 0 = List.replicate n false := by
  apply List.ext_getElem
  · simp [leftAt]
  · intro i h1 h2; simp [leftAt]
theorem leftAt_set (delta : Int) {n j : Nat} (hj : j < n) : (leftAt delta n j).set j (decide ((j : Int) ≠ delta)) = leftAt delta n (j + 1) := by
  apply List.ext_getElem
  · simp [leftAt]
  · intro i h1 h2
    simp only [leftAt, List.getElem_set, List.getElem_map, List.getElem_range]
    split
    · rename_i e; subst e; simp
    · rename_i e
      have : (i < j) = (i < j + 1) := by apply propext; omega
      simp [this]
theorem leftAt_full (delta : Int) (n : Nat) : leftAt delta n n = left0 delta n := by
  apply List.ext_getElem
  · simp [leftAt, left0]
  · intro i h1 h2
    simp [leftAt] at h1
    simp [leftAt, left0, h1]
theorem leftAt_len (delta : Int) (n j : Nat) : (leftAt delta n j).length = n := by simp [leftAt]

theorem make_left (m : Mk) (n : Nat) (hn : n < 2 ^ 40) (hleft : m.left = .sl 1 1 0 n) (delta : Int) (x4 x6 : AV) (ks : List KF) (R : AExit → St → Prop) (s : St) (hs : s.heap = [zPlan, .arr 1 1 (List.replicate n (.bool false)), m.blk 1]) (hd : s.dfr = []) (h8 : s.tm.get 8 = .ptr 2 1 0 0) (h1 : s.tm.get 1 = i64 delta)
    (h4 : s.tm.get 4 = x4) (h6 : s.tm.get 6 = x6)
    (hR : ∀ s' : St, s'.heap = [zPlan, .arr 1 1 ((left0 delta n).map AV.bool), m.blk 1] → s'.dfr = [] → s'.tm.get 8 = .ptr 2 1 0 0 → s'.tm.get 1 = i64 delta → s'.tm.get 4 = x4 → s'.tm.get 6 = x6 → EXEC (callW tbl) loopW k_plan_Make_6 ks s' R) :
    EXEC (callW tbl) loopW k_plan_Make_5 ks s R := by
  have hs0 : s.heap = [zPlan, .arr 1 1 ((leftAt delta n 0).map AV.bool), m.blk 1] := by rw [hs, leftAt_zero]; simp
  simp [k_plan_Make_5, h8, hs0, Mk.blk, hleft, c_plan_Make_l0]
  refine EXEC_range n (fun j s => s.heap = [zPlan, .arr 1 1 ((leftAt delta n j).map AV.bool), m.blk 1] ∧ s.dfr = [] ∧ s.tm.get 8 = .ptr 2 1 0 0 ∧ s.tm.get 1 = i64 delta ∧ s.tm.get 4 = x4 ∧ s.tm.get 6 = x6 ∧ s.tm.get 63 = i64 n ∧ s.tm.get 64 = i64 j)
    0 (by omega) ⟨by simp [Mk.blk, hleft], hd, by simp [h8], by simp [h1], by simp [h4], by simp [h6], by simp, by simp⟩ (by omega) (by simp; grind) ?_ ?_
  · rintro j s' B hj ⟨g1, g2, g3, g4, g5, g6, g7, g8⟩ hn hx
    have hset : ((leftAt delta n j).map AV.bool).set j (.bool (decide ((j : Int) ≠ delta))) = (leftAt delta n (j + 1)).map AV.bool := by rw [← leftAt_set delta hj, List.map_set]
    have hjl : j < (leftAt delta n j).length := by rw [leftAt_len]; exact hj
    simp [g1, g3, g4, g8, Mk.blk, hleft, hj, hjl]
    have hset' : ((leftAt delta n j).map AV.bool).set j (putCells (AV.bool (leftAt delta n j)[j]) 0 (AV.bool ((j : Int) != delta))) = (leftAt delta n (j + 1)).map AV.bool := by
      rw [← hset]; congr 1
      by_cases e : (j : Int) = delta <;> simp [putCells, e]
    rw [hset']
    refine hn _ _ (.inl rfl) (by simp [g8]) ⟨by simp [Mk.blk, hleft], g2, by simp [g3], by simp [g4], by simp [g5], by simp [g6], by simp [g7], by simp [g8]⟩
  · rintro s' ⟨g1, g2, g3, g4, g5, g6, g7, g8⟩
    rw [leftAt_full] at g1
    simp
    exact hR _ g1 g2 (by simp [g3]) (by simp [g4]) (by simp [g5]) (by simp [g6])
end Go.Abs.Plan

/- Plan: Make, whole. -/
set_option linter.unusedSimpArgs false
set_option linter.unusedVariables false
namespace Go.Abs.Plan
open Enc (Is)

theorem mem_addName {out : List ByteArray} {t : Term} {n : ByteArray} (h : n ∈ out) : n ∈ addName out t := by
  unfold addName; split <;> simp [h]
theorem addName_self {out : List ByteArray} {t : Term} (h : t.kind = 1) : t.name ∈ addName out t := by
  unfold addName
  cases ha : out.any (fun m => decide (t.name = m)) with
  | false => simp [h]
  | true => simp only [List.any_eq_true, decide_eq_true_eq] at ha; obtain ⟨m, h1, h2⟩ := ha; simp [h2, h1]
theorem foldl_addName_mem {ts : List Term} : ∀ {out : List ByteArray} {n : ByteArray}, n ∈ out → n ∈ ts.foldl addName out := by
  induction ts with
  | nil => intro out n h; exact h
  | cons t ts ih => intro out n h; exact ih (mem_addName h)
theorem namesOf_mem {ts : List Term} {t : Term} (h : t ∈ ts) (h1 : t.kind = 1) : t.name ∈ namesOf ts := by
  unfold namesOf
  suffices ∀ out : List ByteArray, t.name ∈ ts.foldl addName out from this []
  induction ts with
  | nil => cases h
  | cons u ts ih =>
    intro out
    rcases List.mem_cons.1 h with rfl | h
    · simp only [List.foldl_cons]; exact foldl_addName_mem (addName_self h1)
    · exact ih h _
theorem kindsOk_mem {any : Bool} {ts : List Term} (h : kindsOk any ts = true) {t : Term} (ht : t ∈ ts) : t.kind = 1 ∨ t.kind = 2 ∨ (any = true ∧ t.kind = 3) := by
  simp only [kindsOk, Bool.not_eq_true', List.any_eq_false] at h
  have := h t ht
  simp only [badKind, Bool.and_eq_true, bne_iff_ne, Bool.not_eq_true', Bool.and_eq_false_imp, ne_eq, not_and] at this
  by_cases a : t.kind = 1
  · exact .inl a
  · by_cases b : t.kind = 2
    · exact .inr (.inl b)
    · right; right
      cases any <;> simp_all
theorem termsOf_clean (l : Lit) : termsOf (cleanLit l) = termsOf l := by
  unfold termsOf cleanLit
  by_cases h : l.kind = 3 <;> simp [h]
theorem termsOf_lit {l : Lit} {t : Term} (h : t ∈ termsOf l) : t ∈ litTerms l := by
  unfold termsOf at h; unfold litTerms
  split at h
  · simp at h ⊢; exact .inr h
  · simp [h]
theorem head_in {r : Rule} {t : Term} (h : t ∈ r.head.args) (h1 : t.kind = 1) : t.name ∈ ruleVars r := namesOf_mem (by simp [ruleTerms, h]) h1
theorem body_in {r : Rule} {l : Lit} (hl : l ∈ r.body) {t : Term} (h : t ∈ termsOf l) (h1 : t.kind = 1) : t.name ∈ ruleVars r :=
  namesOf_mem (by simp only [ruleTerms, List.mem_append, List.mem_flatMap]; exact .inr ⟨l, hl, termsOf_lit h⟩) h1

structure Plans (r : Rule) : Prop where
  headLen : r.head.args.length ≤ 8
  head : kindsOk false r.head.args = true
  kind : ∀ l ∈ r.body, litKind l = true
  ok : ∀ l ∈ r.body, litOk l = true
  vars : (ruleVars (cleanRule r)).length ≤ 64
  bound : (ruleVars (cleanRule r)).length = (ruleBound (cleanRule r)).length
theorem plans_of {r : Rule} (h : hasPlans r = true) : Plans r := by
  simp only [hasPlans, Bool.and_eq_true, decide_eq_true_eq, List.all_eq_true] at h
  obtain ⟨⟨⟨⟨⟨h1, h2⟩, h3⟩, h4⟩, h5⟩, h6⟩ := h
  exact ⟨h1, h2, h3, h4, h5, h6⟩
theorem litKind_of {l : Lit} (h : litKind l = true) : l.kind = 1 ∨ l.kind = 2 ∨ l.kind = 3 := by
  simp only [litKind, Bool.or_eq_true, beq_iff_eq] at h; rcases h with (h | h) | h <;> simp [h]
theorem cleanLit_kind (l : Lit) : (cleanLit l).kind = l.kind := by unfold cleanLit; split <;> rfl
theorem litOk_terms {l : Lit} (h : litOk l = true) {t : Term} (ht : t ∈ termsOf l) : t.kind = 1 ∨ t.kind = 2 ∨ (l.kind ≠ 3 ∧ t.kind = 3) := by
  unfold litOk at h; unfold termsOf at ht
  by_cases h3 : l.kind = 3
  · simp only [h3, if_true, Bool.and_eq_true] at h ht
    rcases kindsOk_mem h.2 ht with a | a | ⟨a, _⟩
    · exact .inl a
    · exact .inr (.inl a)
    · cases a
  · simp only [h3, if_false, Bool.and_eq_true] at h ht
    rcases kindsOk_mem h.2 ht with a | a | ⟨_, a⟩
    · exact .inl a
    · exact .inr (.inl a)
    · exact .inr (.inr ⟨h3, a⟩)
theorem Plans.good {r : Rule} (h : Plans r) : ∀ l ∈ (cleanRule r).body, goodLit (ruleVars (cleanRule r)) l := by
  intro l hl t ht
  have hl' := hl
  simp only [cleanRule, List.mem_map] at hl'
  obtain ⟨l0, h0, rfl⟩ := hl'
  rw [termsOf_clean] at ht
  rcases litOk_terms (h.ok l0 h0) ht with a | a | ⟨_, a⟩
  · exact .inr (.inr (body_in hl (by rw [termsOf_clean]; exact ht) a))
  · exact .inl a
  · exact .inr (.inl a)
theorem Plans.known {r : Rule} (h : Plans r) : ∀ l ∈ (cleanRule r).body, known (ruleVars (cleanRule r)) (termsOf l) := fun l hl t ht h1 => body_in hl ht h1
theorem Plans.kinds {r : Rule} (h : Plans r) : ∀ l ∈ (cleanRule r).body, l.kind = 1 ∨ l.kind = 2 ∨ l.kind = 3 := by
  intro l hl
  simp only [cleanRule, List.mem_map] at hl
  obtain ⟨l0, h0, rfl⟩ := hl
  rw [cleanLit_kind]; exact litKind_of (h.kind l0 h0)
theorem Plans.headGood {r : Rule} (h : Plans r) : ∀ t ∈ r.head.args, goodTerm (ruleVars (cleanRule r)) t := by
  intro t ht
  rcases kindsOk_mem h.head ht with a | a | ⟨a, _⟩
  · exact .inr (.inr (head_in (r := cleanRule r) ht a))
  · exact .inl a
  · cases a
def zeroPlan : Plan := ⟨[], [], ⟨#[]⟩, []⟩
def planOf (r : Rule) (delta : Int) : Plan :=
  ⟨ruleVars (cleanRule r), (planSteps (ruleVars (cleanRule r)) (cleanRule r).body delta (left0 delta r.body.length)).1, r.head.pred,
    colsOf (ruleVars (cleanRule r)) (planSteps (ruleVars (cleanRule r)) (cleanRule r).body delta (left0 delta r.body.length)).2 r.head.args⟩
def compares (r : Rule) (delta : Int) : Bool := decide (0 ≤ delta) && match r.body[delta.toNat]? with | some l => l.kind == 3 | none => false
def makeErr (r : Rule) (delta : Int) : Int := if hasPlans r = false then 180 else if delta < -1 ∨ (r.body.length : Int) ≤ delta then 5 else if compares r delta = true then 1 else 0
def makeOf (r : Rule) (delta : Int) : Plan := if makeErr r delta = 0 then planOf r delta else zeroPlan

theorem clean_call (v : AV) (r : Rule) (h : Is v r) (hf : Fits r) (H : Heap) :
    ∃ w, callW tbl (.func f_plan_clean [] []) [v] H = some (w, H) ∧ ∃ xv x', w = .tuple [xv, .bool (hasPlans r)] ∧ Is xv x' ∧ (hasPlans r = true → x' = cleanRule r) :=
  callP1 (S := fun w => ∃ xv x', w = .tuple [xv, .bool (hasPlans r)] ∧ Is xv x' ∧ (hasPlans r = true → x' = cleanRule r)) rfl rfl r
    (by rintro w ⟨xv, x', rfl, h1, h2⟩; exact ⟨xv.lend, x', rfl, Enc.lend h1, h2⟩) (fun v h => clean_run v r h hf) v h H

theorem unders_bools (n : Nat) : ∀ l : List Bool, AV.unders n (l.map AV.bool) = true
  | [] => rfl
  | b :: l => by simp [AV.unders, AV.under, unders_bools n l]
set_option maxHeartbeats 1000000 in
theorem make_rest (r : Rule) (delta : Int) (va vb : AV) (ha : Is va r.head.args) (hb : Is vb (cleanRule r).body) (hf : Fits r) (hp : Plans r) (hd1 : -1 ≤ delta) (hd2 : delta < r.body.length) (hk : ∀ l, (cleanRule r).body[delta.toNat]? = some l → 0 ≤ delta → l.kind ≠ 3)
    (s : St) (hs : s.heap = [zPlan]) (hd : s.dfr = []) (h1 : s.tm.get 1 = i64 delta) (h4 : s.tm.get 4 = .ptr 0 0 0 0) (h6 : s.tm.get 6 = .fptr false [.str r.head.pred, va, vb] 0)
    (F : AV → Heap → Prop) (hF : ∀ (v : AV) (H' : Heap) (r' : AV), reify H' reifyDepth v = some r' → (∃ pv, r' = .tuple [pv, i64 0] ∧ Is pv (planOf r delta)) → F v H') :
    EXEC (callW tbl) loopW k_plan_Make_3 [] s (FINQ [.cell 4 true 4, .tmp 5] F) := by
  have hca := isl_cell ha
  have hcb := isl_cell hb
  have hln := IsL.len hb
  have hlb : (cleanRule r).body.length = r.body.length := by simp [cleanRule]
  have hbl := hf.body
  have hle : (cleanRule r).body.length ≤ 140737488355328 := by omega
  simp [k_plan_Make_3, hs, h1, h4, h6, hca, hcb, hln, hle, AV.rowok, splice, buildA_cons, buildA_nil]
  simp [k_plan_Make_4, hs, h1, h4, h6, hca, hcb, hln, hle, AV.rowok, splice, buildA_cons, buildA_nil]
  have hir : Is (AV.agg [AV.str r.head.pred, va, vb]) (cleanRule r) := ⟨va, vb, ha, hb, rfl⟩
  refine CALLK_ex (Vars_call _ (cleanRule r) hir hf.clean.rule _) (fun vv hvv => ?_)
  have hcv := isl_cell hvv
  simp [hcv, AV.rowok, splice, putCells]
  let m : Mk := ⟨.str r.head.pred, va, vb, vv, .nilsl, .str ⟨#[]⟩, .nilsl, 0, .sl 1 1 0 (cleanRule r).body.length, delta⟩
  have hm : MkOk m (ruleVars (cleanRule r)) (cleanRule r).body := ⟨hvv, hp.vars, hb, hf.clean.body, hp.good, hp.known, hp.kinds, hf.clean.args⟩
  refine make_left m (cleanRule r).body.length (by omega) rfl delta (.ptr 0 0 0 0) (.fptr false [.str r.head.pred, va, vb] 0) [] _ _ ?_ hd (by simp) (by simp [h1]) (by simp [h4]) (by simp [h6]) ?_
  · simp [m, Mk.blk]
  intro s' e1 e2 e3 e4 e5 e6
  have hl0 : (left0 delta (cleanRule r).body.length).length = (cleanRule r).body.length := by simp [left0]
  refine make_delta r m (ruleVars (cleanRule r)) (cleanRule r).body va vb _ s' hm ha hf.head rfl hp.headGood hl0 (by rw [hl0]) rfl rfl e1 ?_ e2 e3 e5 e6 e4 (by rw [hlb]; exact hd2) hk F ?_
  · rw [e1]
    refine ⟨rfl, rfl, rfl, ?_, .inl ⟨rfl, rfl⟩⟩
    intro C hC
    simp at hC
    rcases hC with rfl | rfl | rfl
    · rfl
    · simp [Blk.under, unders_bools]
    · simp [m, Mk.blk, Blk.under, AV.unders, AV.under, plain_under _ (Enc.plain ha), plain_under _ (Enc.plain hb), plain_under _ (Enc.plain hvv)]
  · intro H' sv hv' sv' g1 g2 g3
    rw [hlb] at g2 g3
    have hre : reify H' reifyDepth (.tuple [.agg [vv, sv, .str r.head.pred, hv'], i64 0]) = some (.tuple [.agg [vv, sv', .str r.head.pred, hv'], i64 0]) := by
      refine reify_tuple (k := 10) ?_
      have : reify H' 11 (.agg [vv, sv, .str r.head.pred, hv']) = some (.agg [vv, sv', .str r.head.pred, hv']) :=
        reify_agg (k := 9) (by simp [optMap, reify_plain' (Hb := H') (k := 9) (Enc.plain hvv), reify_plain' (Hb := H') (k := 9) (Enc.plain g3), reify_plain' (Hb := H') (k := 9) (v := .str r.head.pred) rfl, g1 8])
      simp [optMap, this, reify_plain' (Hb := H') (k := 10) (v := i64 0) rfl]
    exact hF _ _ _ hre ⟨_, rfl, vv, sv', hv', hvv, g2, g3, rfl⟩

theorem Make_run (v : AV) (r : Rule) (delta : Int) (h : Is v r) (hf : Fits r) (hd : IntKind.i64.wrap delta = delta) :
    ∃ w, runPure (callW tbl) loopW a_plan_Make [v, i64 delta] = some w ∧ ∃ pv, w = .tuple [pv, i64 (makeErr r delta)] ∧ Is pv (makeOf r delta) := by
  obtain ⟨w, hcl, xv, x', rfl, ⟨va, vb, ha, hb, rfl⟩, hxe⟩ := clean_call v r h hf [.arr 0 4 [.agg [.nilsl, .nilsl, .str ⟨#[]⟩, .nilsl]]]
  obtain ⟨va0, vb0, ha0, hb0, hv0⟩ := h
  have hca0 := isl_cell ha0
  have hcb0 := isl_cell hb0
  have hca := isl_cell ha
  have hcb := isl_cell hb
  subst hv0
  refine pureK a_plan_Make rfl (fun F hF => ?_)
  simp [a_plan_Make, k_plan_Make, k_plan_Make_0, k_plan_Make_1, hca, hcb, hca0, hcb0, AV.rowok, hcl]
  have hz : ∀ e H', makeErr r delta = e → e ≠ 0 → F (.tuple [.agg [.nilsl, .nilsl, .str ⟨#[]⟩, .nilsl], i64 e]) H' := fun e H' he hn => by
    refine hF _ _ _ (reify_plain rfl) ⟨_, by rw [he], ?_⟩
    unfold makeOf; rw [he, if_neg hn]
    exact ⟨_, _, _, IsL.nil, IsL.nil, IsL.nil, rfl⟩
  cases hp : hasPlans r with
  | false =>
    simp [k_plan_Make_2, AV.rowok, putCells, buildA_nil]
    exact hz _ _ (by simp [makeErr, hp]) (by decide)
  | true =>
    have := hxe hp
    subst this
    have hP := plans_of hp
    have hcs : (cleanRule r).body = r.body.map cleanLit := rfl
    have hln := IsL.len hb0
    by_cases h1 : delta < -1
    · simp [k_plan_Make_2, AV.rowok, putCells, buildA_nil, h1]
      exact hz _ _ (by simp [makeErr, hp, h1]) (by decide)
    by_cases h2 : (r.body.length : Int) ≤ delta
    · simp [k_plan_Make_2, AV.rowok, putCells, buildA_nil, h1, h2, hln]
      exact hz _ _ (by simp [makeErr, hp, h1, h2]) (by decide)
    have hfin : ∀ (s : St), compares r delta = false → s.heap = [zPlan] → s.dfr = [] → s.tm.get 1 = i64 delta → s.tm.get 4 = .ptr 0 0 0 0 → s.tm.get 6 = .fptr false [.str r.head.pred, va, vb] 0 →
        EXEC (callW tbl) loopW k_plan_Make_3 [] s (FINQ [.cell 4 true 4, .tmp 5] F) := by
      intro s hc q1 q2 q3 q4 q5
      have he : makeErr r delta = 0 := by simp [makeErr, hp, h1, h2, hc]
      refine make_rest r delta va vb ha hb hf hP (by omega) (by omega) ?_ s q1 q2 q3 q4 q5 F ?_
      · intro l hl h0 h3
        simp only [hcs, List.getElem?_map, Option.map_eq_some_iff] at hl
        obtain ⟨l0, hl0, rfl⟩ := hl
        rw [cleanLit_kind] at h3
        simp [compares, h0, hl0, h3] at hc
      · intro v H' r' g1 ⟨pv, g2, g3⟩
        exact hF v H' r' g1 ⟨pv, by rw [he]; exact g2, by unfold makeOf; rw [he, if_pos rfl]; exact g3⟩
    by_cases h3 : 0 ≤ delta
    · obtain ⟨i, hi⟩ : ∃ i : Nat, delta = (i : Int) := ⟨delta.toNat, by omega⟩
      have hil : i < r.body.length := by omega
      have hli : (cleanRule r).body[i]? = some (cleanLit r.body[i]) := by rw [hcs]; simp [hil]
      obtain ⟨fl, lv, ⟨la, hla, rfl⟩, hidx⟩ := IsL.idx hb hli
      simp only [show Enc.sz Lit = 14 from rfl] at hidx
      by_cases h4 : r.body[i].kind = 3
      · simp [k_plan_Make_2, AV.rowok, putCells, buildA_nil, h1, h2, h3, hln]
        rw [hi]
        simp [hidx, cleanLit_kind, h4, AV.rowok, putCells, buildA_nil]
        exact hz _ _ (by simp [makeErr, hp, h1, h2, compares, h3, hi, hil, h4]) (by decide)
      · simp [k_plan_Make_2, AV.rowok, putCells, buildA_nil, h1, h2, h3, hln]
        rw [hi]
        simp [hidx, cleanLit_kind, h4, AV.rowok, putCells, buildA_nil]
        exact hfin _ (by simp [compares, h3, hi, hil, h4]) rfl rfl (by simp [hi]) (by simp) (by simp [cleanRule])
    · have hc : compares r delta = false := by simp [compares, h3]
      simp [k_plan_Make_2, AV.rowok, putCells, buildA_nil, h1, h2, h3, hln]
      exact hfin _ hc rfl rfl (by simp) (by simp) (by simp [cleanRule])
end Go.Abs.Plan

/- Plan: Rule, walked. -/
set_option linter.unusedSimpArgs false
set_option linter.unusedVariables false
namespace Go.Abs
open Enc (Is)
variable {call : CallF} {lp : LoopF}
/-- A slice that began as nil and has grown: in some block from 'lo' on. -/
def SlAt (lo sz : Nat) (H : Heap) (v : AV) (rows : List AV) : Prop := (v = .nilsl ∧ rows = []) ∨ ∃ sid sg, lo ≤ sid ∧ v = .sl sid sg 0 rows.length ∧ H[sid]? = some (.arr sg sz rows)
theorem SlAt.nil {lo sz : Nat} {H : Heap} : SlAt lo sz H .nilsl [] := .inl ⟨rfl, rfl⟩
theorem SlAt.mono {lo sz : Nat} {H H' : Heap} {v : AV} {rows : List AV} (h : SlAt lo sz H v rows) (hH : ∀ (j : Nat) (B : Blk), lo ≤ j → H[j]? = some B → H'[j]? = some B) : SlAt lo sz H' v rows := by
  rcases h with h | ⟨sid, sg, h1, h2, h3⟩
  · exact .inl h
  · exact .inr ⟨sid, sg, h1, h2, hH _ _ h1 h3⟩
theorem SlAt.cell {lo sz : Nat} {H : Heap} {v : AV} {rows : List AV} (h : SlAt lo sz H v rows) : v.isCell = true ∧ v.cells = [v] ∧ v.rowok 1 = true := by
  rcases h with ⟨rfl, rfl⟩ | ⟨sid, sg, h1, rfl, h3⟩ <;> exact ⟨rfl, rfl, rfl⟩
theorem SlAt.reify {lo sz : Nat} {H : Heap} {v : AV} {rows : List AV} (h : SlAt lo sz H v rows) {α : Type} [Enc α] {xs : List α} (hr : All2 Is rows xs) : ∃ v', (∀ k, Go.Abs.reify H (k + 2) v = some v') ∧ Is v' xs := by
  rcases h with ⟨rfl, rfl⟩ | ⟨sid, sg, h3, rfl, hb⟩
  · cases hr; exact ⟨.nilsl, fun k => reify_plain' rfl, IsL.nil⟩
  · exact ⟨.fsl false rows, fun k => reify_rowsK hb (by omega) (by simp) hr, IsL.fsl hr⟩
theorem SlAt.one {lo sz bytes : Nat} {H : Heap} {v r : AV} {rows : List AV} {fl : Bool} (h : SlAt lo sz H v rows) (hl : lo ≤ H.length) (hy : r.rowok sz = true) (hb : (rows.length + 1) * bytes ≤ 140737488355328) :
    ∃ v' H', SlAt lo sz H' v' (rows ++ [r]) ∧ H.length ≤ H'.length ∧ (∀ j, j < lo → H'[j]? = H[j]?) ∧ ∀ (dst : Option Nat) (keep : Bool) (os : List AOper) (loc : List (Nat × AV)) (s : St) (ks : List KF) (R : AExit → St → Prop), s.heap = H →
      ACTK call lp (appendA sz bytes v (.fsl fl [r])) dst keep os loc s ks R = ACTK call lp (.val v') dst keep os loc { s with heap := H' } ks R := by
  rcases h with ⟨rfl, rfl⟩ | ⟨sid, sg, h1, rfl, h3⟩
  · refine ⟨.sl H.length 0 0 1, H ++ [.arr 0 sz [r]], .inr ⟨H.length, 0, hl, by simp, by simp⟩, by simp, fun j hj => by rw [List.getElem?_append_left (by omega)], fun dst keep os loc s ks R hs => ?_⟩
    subst hs
    have hb' : bytes ≤ 140737488355328 := by simpa using hb
    simp [appendA, appendTo_nil, room, hb', hy]
  · have hlt := lt_of h3
    have hh := hat_of h3
    refine ⟨.sl sid (sg + 1) 0 (rows.length + 1), H.set sid (.arr (sg + 1) sz (rows ++ [r])), .inr ⟨sid, sg + 1, h1, by simp, by simp [hlt]⟩, by simp, fun j hj => by rw [List.getElem?_set_ne (by omega)], fun dst keep os loc s ks R hs => ?_⟩
    subst hs
    have hfit : ¬ (0 + rows.length + 1 ≤ rows.length) := by omega
    have hb' : (rows.length + 1) * bytes ≤ 140737488355328 := by simpa using hb
    have hnn : ¬ (rows.length + 1 ≤ rows.length) := by omega
    simp [appendA, appendTo_sl, room, hb', hy, hh, hlt, hnn]
end Go.Abs
namespace Go.Abs.Plan
open Enc (Is)

abbrev rowCell1 (p : ByteArray) (va bv : AV) : Blk := .arr 1 3 [.agg [.str p, va, bv]]
def fewLit (l : Lit) : Lit := { l with atom := { l.atom with args := l.atom.args.take 12 } }
def ruleOf (r : Rule) : Rule := ⟨⟨r.head.pred, r.head.args.take 12⟩, (r.body.take 12).map fewLit⟩
theorem ruleOf_fits (r : Rule) : Fits (ruleOf r) := by
  refine ⟨by simp [ruleOf]; omega, by simp [ruleOf]; omega, ?_⟩
  intro l hl
  simp only [ruleOf, List.mem_map] at hl
  obtain ⟨l0, _, rfl⟩ := hl
  simp [fewLit]; omega

set_option maxHeartbeats 4000000 in
theorem rule_loop (r : Rule) (va vb hv : AV) (hh : Is hv (r.head.args.take 12)) (hb : Is vb r.body) (hbl : r.body.length < 2 ^ 63) (hargs : ∀ l ∈ r.body, l.atom.args.length < 2 ^ 63) (s : St) (ks : List KF) (R : AExit → St → Prop)
    (e1 : s.heap = [zCell, rowCell1 r.head.pred hv .nilsl]) (e2 : s.dfr = []) (e3 : s.tm.get 2 = .ptr 0 0 0 0) (e4 : s.tm.get 3 = .ptr 1 1 0 0) (e5 : s.tm.get 1 = .fptr false [.str r.head.pred, va, vb] 0) (e6 : s.tm.get 4 = i64 0)
    (hexit : ∀ (s' : St) (bv : AV) (rows : List AV), s'.heap[0]? = some zCell → s'.heap[1]? = some (rowCell1 r.head.pred hv bv) → SlAt 2 14 s'.heap bv rows → All2 Is rows ((r.body.take 12).map fewLit) → s'.dfr = [] → s'.tm.get 2 = .ptr 0 0 0 0 → s'.tm.get 3 = .ptr 1 1 0 0 → KONT (callW tbl) loopW ks (.exit 0) s' R) :
    EXEC (callW tbl) loopW (.loop c_law18_Rule_l0) ks s R := by
  refine EXEC_loop_inv (fun k s => ∃ (j : Nat) (bv : AV) (rows : List AV), j + k = min r.body.length 12 ∧ s.heap[0]? = some zCell ∧ s.heap[1]? = some (rowCell1 r.head.pred hv bv) ∧ SlAt 2 14 s.heap bv rows ∧ All2 Is rows ((r.body.take j).map fewLit) ∧ s.dfr = [] ∧ s.tm.get 2 = .ptr 0 0 0 0 ∧ s.tm.get 3 = .ptr 1 1 0 0 ∧
      s.tm.get 1 = .fptr false [.str r.head.pred, va, vb] 0 ∧ s.tm.get 4 = i64 j) (min r.body.length 12) ⟨0, .nilsl, [], by simp, by rw [e1]; rfl, by rw [e1]; rfl, .nil, by simp; exact .nil, e2, e3, e4, e5, e6⟩ ?_
  rintro k s B ⟨j, bv, rows, h0, h1, h2, h3, h4, h5, h6, h7, h8, h9⟩ hn hx
  have hlen := IsL.len hb
  have hcb := isl_cell hb
  have k0 := hat_of h1
  have k1 := hat_of h2
  have n0 := lt_of h1
  have n1 := lt_of h2
  by_cases hj : j < r.body.length
  · have hj' : (j : Int) < r.body.length := by omega
    by_cases hj12 : j < 12
    · have hj12' : (j : Int) < 12 := by omega
      have hg : r.body[j]? = some r.body[j] := by simp [hj]
      obtain ⟨fl', lv, ⟨la, hla, rfl⟩, hidx⟩ := IsL.idx hb hg
      simp only [show Enc.sz Lit = 14 from rfl] at hidx
      have hc := isl_cell hla
      have har := hargs r.body[j] (List.getElem_mem hj)
      simp [c_law18_Rule_l0, h8, h9, hlen, hcb, hj', hj12', hidx, AV.rowok, hc, putCells, splice]
      refine CALLK_ex (few_call la r.body[j].atom.args hla (by omega) _) (fun fv hfv => ?_)
      have hcf := isl_cell hfv
      obtain ⟨wc1, wc2, wc3⟩ := h3.cell
      simp [hcf, AV.rowok, putCells, splice]
      generalize hl : r.body[j] = l at *
      have hrow : Is (.agg [i64 l.kind, .str l.atom.pred, fv, i64 l.op, i64 l.a.kind, .str l.a.name, i64 l.a.v.kind, i64 l.a.v.n, .str l.a.v.s, i64 l.b.kind, .str l.b.name, i64 l.b.v.kind, i64 l.b.v.n, .str l.b.v.s]) (fewLit l) := ⟨fv, hfv, rfl⟩
      have htk : r.body.take (j + 1) = r.body.take j ++ [l] := by rw [List.take_add_one, hg]; rfl
      have hrl : rows.length = j := by rw [h4.length]; simp; omega
      generalize hX : (Blk.arr 0 14 [AV.agg [i64 l.kind, .str l.atom.pred, fv, i64 l.op, i64 l.a.kind, .str l.a.name, i64 l.a.v.kind, i64 l.a.v.n, .str l.a.v.s, i64 l.b.kind, .str l.b.name, i64 l.b.v.kind, i64 l.b.v.n, .str l.b.v.s]]) = X
      have h3' : SlAt 2 14 (s.heap ++ [X]) bv rows := h3.mono (fun i C hi hC => by rw [List.getElem?_append_left (List.getElem?_eq_some_iff.1 hC).1]; exact hC)
      obtain ⟨v', H', a1, a2, a3, a4⟩ := h3'.one (call := callW tbl) (lp := loopW) (bytes := 168) (fl := false) (r := _) (by simp; omega) (Enc.row hrow) (by omega)
      have b0 : H'[0]? = some zCell := by rw [a3 0 (by omega), List.getElem?_append_left n0]; exact h1
      have b1 : H'[1]? = some (rowCell1 r.head.pred hv bv) := by rw [a3 1 (by omega), List.getElem?_append_left n1]; exact h2
      have k0' := hat_of b0
      have k1' := hat_of b1
      have n0' := lt_of b0
      have n1' := lt_of b1
      obtain ⟨vc1, vc2, vc3⟩ := a1.cell
      have hch := isl_cell hh
      simp [h7, k1, n1, wc1, wc2, AV.rowok, hcf]
      rw [← hX]
      simp [AV.rowok, hcf, buildRows]
      rw [hX]
      rw [a4 _ _ _ _ _ _ _ (by simp)]
      simp [h7, k1', n1', vc1, vc2, AV.rowok, putCells, splice, hch, h9]
      have hw : IntKind.i64.wrap ((j : Int) + 1) = ((j + 1 : Nat) : Int) := by rw [wrap_i64 (by omega) (by omega)]; push_cast; rfl
      rw [hw]
      refine hn _ (k - 1) (by omega) ⟨j + 1, v', _, by omega, ?_, ?_, a1.mono (fun i C hi hC => by rw [List.getElem?_set_ne (by omega)]; exact hC), ?_, h5, by simp [h6], by simp [h7], by simp [h8], by simp⟩
      · simp [b0]
      · simp [n1']
      · rw [htk, List.map_append]; exact h4.append (.cons hrow .nil)
    · have hj12' : ¬ (j : Int) < 12 := by omega
      simp [c_law18_Rule_l0, h8, h9, hlen, hcb, hj', hj12', AV.rowok]
      have : j = 12 := by omega
      subst this
      exact hx _ _ (by simp) (hexit _ bv rows h1 h2 h3 h4 h5 (by simp [h6]) (by simp [h7]))
  · have hj' : ¬ (j : Int) < r.body.length := by omega
    simp [c_law18_Rule_l0, h8, h9, hlen, hcb, hj', AV.rowok]
    refine hx _ _ (by simp) (hexit _ bv rows h1 h2 h3 ?_ h5 (by simp [h6]) (by simp [h7]))
    rw [List.take_of_length_le (by omega)] at h4 ⊢
    exact h4

theorem Rule_run (v : AV) (r : Rule) (h : Is v r) (hbl : r.body.length < 2 ^ 63) (hal : r.head.args.length < 2 ^ 63) (hargs : ∀ l ∈ r.body, l.atom.args.length < 2 ^ 63) :
    ∃ w, runPure (callW tbl) loopW a_law18_Rule [v] = some w ∧ Is w (ruleOf r) := by
  obtain ⟨va, vb, ha, hb, rfl⟩ := h
  have hca := isl_cell ha
  have hcb := isl_cell hb
  refine pureK a_law18_Rule rfl (fun F hF => ?_)
  simp [a_law18_Rule, c_law18_Rule, hca, hcb, AV.rowok]
  refine RPCALLK_ex (by simp [AV.plain, AV.plains, Enc.plain ha]) (few_call va r.head.args ha (by omega) []) (fun fv hfv => Enc.plain hfv) (fun fv hfv => ?_)
  have hcf := isl_cell hfv
  simp [hcf, AV.rowok, putCells, splice, buildA_nil, buildA_cons]
  refine rule_loop r va vb fv hfv hb hbl hargs _ _ _ rfl rfl (by simp) (by simp) (by simp) (by simp) ?_
  rintro s' bv rows q1 q2 q3 q4 q5 q6 q7
  have k0 := hat_of q1
  have k1 := hat_of q2
  have n0 := lt_of q1
  have n1 := lt_of q2
  obtain ⟨wc1, wc2, wc3⟩ := q3.cell
  simp [q5, q6, q7, k0, k1, n0, n1, AV.rowok, putCells, hcf, wc1, wc2]
  generalize hH : List.set s'.heap 0 (Blk.arr 0 3 [AV.agg [AV.str r.head.pred, fv, bv]]) = H2
  have q3' : SlAt 2 14 H2 bv rows := q3.mono (fun i C hi hC => by rw [← hH, List.getElem?_set_ne (by omega)]; exact hC)
  obtain ⟨bv', g1, g2⟩ := q3'.reify q4
  refine hF _ _ (.agg [.str r.head.pred, fv, bv']) (reify_agg (k := 10) ?_) ⟨fv, bv', hfv, g2, rfl⟩
  simp [optMap, reify_plain' (Hb := H2) (k := 10) (Enc.plain hfv), reify_plain' (Hb := H2) (k := 10) (v := .str r.head.pred) rfl, g1 9]

theorem Rule_call (v : AV) (r : Rule) (h : Is v r) (hbl : r.body.length < 2 ^ 63) (hal : r.head.args.length < 2 ^ 63) (hargs : ∀ l ∈ r.body, l.atom.args.length < 2 ^ 63) (H : Heap) :
    ∃ w, callW tbl (.func f_law18_Rule [] []) [v] H = some (w, H) ∧ Is w (ruleOf r) :=
  callP1 (S := fun w => Is w (ruleOf r)) rfl rfl r (fun w h => Enc.lend h) (fun v h => Rule_run v r h hbl hal hargs) v h H
end Go.Abs.Plan
