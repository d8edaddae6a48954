/- Exec: what arguments of bounded bulk stand for. -/
import Derived.Test.YtddpdpjpfgnhmaaGreatG29x
import Derived.Test.YtddpdpjpfgnhmaaGreatG43x
import Derived.Test.YtddpdpjpfgnhmaaGreatG37x
set_option linter.unusedSimpArgs false
set_option linter.unusedVariables false
set_option maxHeartbeats 4000000
namespace Go.Abs.Plan
open Enc (Is)
def tupTy : Ty := .sl valTy
def relTy : Ty := .sl tupTy
abbrev NB : Nat := 1048576
theorem za4 {N : Nat} : ∀ {a b : List AV}, AV.smalls N (a ++ b) = true → AV.smalls N a = true ∧ AV.smalls N b = true
 | [], b, h => ⟨rfl, h⟩
 | x :: a, b, h => by
   simp only [List.cons_append, AV.smalls, Bool.and_eq_true] at h ⊢
   obtain ⟨h1, h2⟩ := za4 h.2
   exact ⟨⟨h.1, h1⟩, h2⟩
theorem wrap_range {n : Int} (h : IntKind.i64.wrap n = n) : -2 ^ 63 ≤ n ∧ n < 2 ^ 63 := by
 simp [IntKind.wrap, IntKind.bits, IntKind.signed] at h
 omega
theorem sl_ofS {α : Type} [Enc α] {e : Ty} {xs : List AV} {Q : α → Prop} {N : Nat} (ha : e.agg = true) (h : ShapeT (.sl e) xs) (hs : AV.smalls N xs = true) (hd : ∀ cs : List AV, ShapeT e cs → AV.smalls N cs = true → ∃ x : α, Is (.agg cs) x ∧ Q x) : ∃ (v : AV) (ys : List α), xs = [v] ∧ Is v ys ∧ ys.length ≤ N ∧ ∀ y ∈ ys, Q y := by
 obtain ⟨rows, rfl, hl, hr⟩ := h
 simp only [AV.smalls, AV.small, Bool.and_true, Bool.and_eq_true, decide_eq_true_eq] at hs
 obtain ⟨hs1, hs2⟩ := hs
 obtain ⟨ys, h1, h2⟩ := all2_of (α := α) (rows := rows) (Q := Q) (fun r hr' => by
  obtain ⟨g1, g2⟩ := hr r hr'
  have g3 := smalls_all.1 hs2 r hr'
  rw [if_pos ha] at g2
  obtain ⟨cs, rfl⟩ := g2
  exact hd cs g1 (cells_small g3))
 exact ⟨_, ys, rfl, IsL.fsl h1, by have := h1.length; omega, h2⟩
theorem sl_ofC {α : Type} [Enc α] {e : Ty} {xs : List AV} {Q : α → Prop} {N : Nat} (ha : e.agg = false) (h : ShapeT (.sl e) xs) (hs : AV.smalls N xs = true) (hd : ∀ v : AV, ShapeT e [v] → AV.smalls N [v] = true → ∃ x : α, Is v x ∧ Q x) : ∃ (v : AV) (ys : List α), xs = [v] ∧ Is v ys ∧ ys.length ≤ N ∧ ∀ y ∈ ys, Q y := by
 obtain ⟨rows, rfl, hl, hr⟩ := h
 simp only [AV.smalls, AV.small, Bool.and_true, Bool.and_eq_true, decide_eq_true_eq] at hs
 obtain ⟨hs1, hs2⟩ := hs
 obtain ⟨ys, h1, h2⟩ := all2_of (α := α) (rows := rows) (Q := Q) (fun r hr' => by
  obtain ⟨g1, g2⟩ := hr r hr'
  have g3 := smalls_all.1 hs2 r hr'
  rw [if_neg (by simp [ha])] at g2
  have hc : r.cells = [r] := by cases r <;> first | rfl | (simp [AV.isCell] at g2; done)
  rw [hc] at g1
  exact hd r g1 (by simp [AV.smalls, g3]))
 exact ⟨_, ys, rfl, IsL.fsl h1, by have := h1.length; omega, h2⟩
theorem val_cells {cs : List AV} (h : ShapeT valTy cs) (hs : AV.smalls NB cs = true) : ∃ v : Val, cs = [i64 v.kind, i64 v.n, .str v.s] ∧ ValOk v := by
 simp only [valTy, Ty.struct, Ty.ofList, ShapeT, ShapeTs] at h
 obtain ⟨_, c1, rfl, ⟨vk, rfl, w1⟩, _, c2, rfl, ⟨vn, rfl, w2⟩, _, c3, rfl, ⟨vs, rfl⟩, rfl⟩ := h
 simp [AV.smalls, AV.small] at hs
 have r1 := wrap_range w1
 have r2 := wrap_range w2
 refine ⟨⟨vk, vn, vs⟩, rfl, r1.1, r1.2, r2.1, r2.2, ?_⟩
 have e : vs.data.toList.length = vs.size := by rw [Array.length_toList]; rfl
 show vs.data.toList.length ≤ 2 ^ 20
 have hs' : vs.size ≤ 1048576 := hs
 omega
theorem val_isS {cs : List AV} (h : ShapeT valTy cs) (hs : AV.smalls NB cs = true) : ∃ v : Val, Is (.agg cs) v ∧ ValOk v := by
 obtain ⟨v, rfl, hv⟩ := val_cells h hs
 exact ⟨v, rfl, hv⟩
theorem tup_isS {xs : List AV} (h : ShapeT tupTy xs) (hs : AV.smalls NB xs = true) : ∃ (v : AV) (t : Tup), xs = [v] ∧ Is v t ∧ TupOk t := by
 obtain ⟨v, t, rfl, h1, h2, h3⟩ := sl_ofS (α := Val) (Q := ValOk) rfl h hs (fun cs => val_isS)
 exact ⟨v, t, rfl, h1, h2, h3⟩
theorem rel_isS {xs : List AV} (h : ShapeT relTy xs) (hs : AV.smalls NB xs = true) : ∃ (v : AV) (l : List Tup), xs = [v] ∧ Is v l ∧ RowsOk l := by
 obtain ⟨v, l, rfl, h1, h2, h3⟩ := sl_ofC (α := Tup) (Q := TupOk) rfl h hs (fun v h hs => by
  obtain ⟨v', t, e, h1, h2⟩ := tup_isS h hs
  cases e
  exact ⟨t, h1, h2⟩)
 exact ⟨v, l, rfl, h1, h2, h3⟩
theorem cell_of {P : Program} {t : TypeId} {ty : Ty} {v : AV} (ht : tyB P ty t = true) (ha : ty.agg = false) (h : ShapeV P t v) : ShapeT ty [v] := by
 have h2 := h.2
 rw [if_neg (fun hx => by have := (tyB_agg ht).1 hx; simp [ha] at this)] at h2
 have hc : v.cells = [v] := by cases v <;> first | rfl | (simp [AV.isCell] at h2; done)
 have := shape_T _ ht h.1
 rwa [hc] at this
theorem rel_of {P : Program} {t : TypeId} {v : AV} (ht : tyB P relTy t = true) (h : ShapeV P t v) (hs : v.small NB = true) : ∃ l : List Tup, Is v l ∧ RowsOk l := by
 obtain ⟨w, l, e, h1, h2⟩ := rel_isS (cell_of ht rfl h) (by simp [AV.smalls, hs])
 cases e
 exact ⟨l, h1, h2⟩
theorem term_cellsS {cs : List AV} (h : ShapeT termTy cs) (hs : AV.smalls NB cs = true) : ∃ t : Term, cs = [i64 t.kind, .str t.name, i64 t.v.kind, i64 t.v.n, .str t.v.s] ∧ ValOk t.v := by
 simp only [termTy, Ty.struct, Ty.ofList, ShapeTs] at h
 rw [ShapeT] at h
 simp only [ShapeTs] at h
 obtain ⟨_, b1, rfl, h1, _, b2, rfl, h2, _, b3, rfl, h3, rfl⟩ := h
 simp only [ShapeT] at h1 h2
 obtain ⟨k, rfl, _⟩ := h1
 obtain ⟨nm, rfl⟩ := h2
 obtain ⟨_, hs⟩ := za4 hs
 obtain ⟨_, hs⟩ := za4 hs
 obtain ⟨hs, _⟩ := za4 hs
 obtain ⟨v, rfl, hv⟩ := val_cells h3 hs
 exact ⟨⟨k, nm, v⟩, rfl, hv⟩
structure AtomOk (a : Atom) : Prop where
 args : a.args.length ≤ 2 ^ 20
 vals : ∀ t ∈ a.args, ValOk t.v
theorem atom_cellsS {cs : List AV} (h : ShapeT atomTy cs) (hs : AV.smalls NB cs = true) : ∃ (x : Atom) (v : AV), cs = [.str x.pred, v] ∧ Is v x.args ∧ AtomOk x := by
 simp only [atomTy, Ty.struct, Ty.ofList, ShapeTs] at h
 rw [ShapeT] at h
 simp only [ShapeTs] at h
 obtain ⟨_, b1, rfl, h1, _, b2, rfl, h2, rfl⟩ := h
 rw [ShapeT] at h1
 obtain ⟨p, rfl⟩ := h1
 obtain ⟨_, hs⟩ := za4 hs
 obtain ⟨hs, _⟩ := za4 hs
 obtain ⟨v, ts, rfl, g1, g2, g3⟩ := sl_ofS (α := Term) (Q := fun t => ValOk t.v) rfl h2 hs (fun cs h hs => by
  obtain ⟨t, rfl, ht⟩ := term_cellsS h hs
  exact ⟨t, rfl, ht⟩)
 exact ⟨⟨p, ts⟩, v, rfl, g1, g2, g3⟩
structure LitOk (l : Lit) : Prop where
 atom : AtomOk l.atom
 a : ValOk l.a.v
 b : ValOk l.b.v
theorem lit_isS {cs : List AV} (h : ShapeT litTy cs) (hs : AV.smalls NB cs = true) : ∃ l : Lit, Is (.agg cs) l ∧ LitOk l := by
 rw [litTy, Ty.struct, ShapeT] at h
 simp only [Ty.ofList, ShapeTs] at h
 obtain ⟨_, b1, rfl, h1, _, b2, rfl, h2, _, b3, rfl, h3, _, b4, rfl, h4, _, b5, rfl, h5, rfl⟩ := h
 rw [ShapeT] at h1 h3
 obtain ⟨k, rfl, _⟩ := h1
 obtain ⟨op, rfl, _⟩ := h3
 obtain ⟨_, hs⟩ := za4 hs
 obtain ⟨s2, hs⟩ := za4 hs
 obtain ⟨_, hs⟩ := za4 hs
 obtain ⟨s4, hs⟩ := za4 hs
 obtain ⟨s5, _⟩ := za4 hs
 obtain ⟨x, v, rfl, g1, g2⟩ := atom_cellsS h2 s2
 obtain ⟨a, rfl, ha⟩ := term_cellsS h4 s4
 obtain ⟨b, rfl, hb⟩ := term_cellsS h5 s5
 exact ⟨⟨k, x, op, a, b⟩, ⟨v, g1, rfl⟩, g2, ha, hb⟩
theorem agg_of {P : Program} {t : TypeId} {ty : Ty} {v : AV} (ht : tyB P ty t = true) (ha : ty.agg = true) (h : ShapeV P t v) (hs : v.small NB = true) : ∃ cs, v = .agg cs ∧ ShapeT ty cs ∧ AV.smalls NB cs = true := by
 have h2 := h.2
 rw [if_pos ((tyB_agg ht).2 ha)] at h2
 obtain ⟨cs, rfl⟩ := h2
 exact ⟨cs, rfl, shape_T _ ht h.1, hs⟩
theorem lit_of {P : Program} {t : TypeId} {v : AV} (ht : tyB P litTy t = true) (h : ShapeV P t v) (hs : v.small NB = true) : ∃ l : Lit, Is v l ∧ LitOk l := by
 obtain ⟨cs, rfl, h1, h2⟩ := agg_of ht rfl h hs
 exact lit_isS h1 h2
end Go.Abs.Plan
