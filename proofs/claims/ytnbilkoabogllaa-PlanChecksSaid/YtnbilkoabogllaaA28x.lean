/- Abs 28: the arguments of a call, read from the world that it begins in. -/
import Derived.Test.YtnbilkoabogllaaA27x
import Derived.Deep.Slices
import Derived.Carry
import Derived.ChangeOld
import Derived.ChangeArms
set_option linter.unusedSimpArgs false
set_option linter.unusedVariables false
namespace Go.Abs
open Go.RowKit Go.ChangeShapes Go.Deep

/-- Abstract cells of a type. -/
inductive Shape (P : Program) : TypeId → List AV → Prop
  | bool {t : TypeId} (h : P.underlying t = some .bool) (b : Bool) : Shape P t [.bool b]
  | int {t : TypeId} {k : IntKind} (h : P.underlying t = some (.int k)) (n : Int) (hw : (Lit.int k n).wf = true) : Shape P t [.int k n]
  | str {t : TypeId} (h : P.underlying t = some .string) (s : ByteArray) (hs : s.size ≤ maxLen) : Shape P t [.str s]
  | fsl {t e : TypeId} (h : P.underlying t = some (.slice e)) (rows : List AV) (hl : rows.length ≤ maxLen) (hr : ∀ r ∈ rows, Shape P e r.cells)
      (hk : ∀ r ∈ rows, if ((P.underlying e).map TypeDesc.isAgg) = some true then ∃ cs, r = .agg cs else r.isCell = true) : Shape P t [.fsl false rows]
  | struct {t : TypeId} {fs : Array Field} {xs : List AV} (h : P.underlying t = some (.struct fs)) (xss : List (List AV)) (hx : xs = xss.flatten) (hl : xss.length = fs.size)
      (hf : ∀ (i : Nat) (f : Field) (ys : List AV), fs[i]? = some f → xss[i]? = some ys → Shape P f.type ys) : Shape P t xs

/-- Types that hold but numbers, texts, truths, slices and structs. -/
def contig (P : Program) : Nat → List Field → Option Nat
  | o, [] => some o
  | o, f :: fs => if f.offset = o then contig P (o + P.cellsOf f.type) fs else none

def flatB (P : Program) : Nat → TypeId → Bool
  | 0, _ => false
  | k + 1, t => match P.underlying t with
    | some .bool | some (.int _) | some .string => true
    | some (.slice e) => decide (1 ≤ P.cellsOf e) && flatB P k e
    | some (.struct fs) => contig P 0 fs.toList == some (P.cellsOf t) && fs.toList.all (fun f => flatB P k f.type)
    | _ => false

variable {H : Type} {enc : TypeId × Value → H} {P : Program} {w : World}

theorem Shape.cell {t : TypeId} {xs : List AV} (h : Shape P t xs) : ∀ x ∈ xs, x.isCell = true := by
  induction h with
  | bool _ b => intro x hx; simp at hx; subst hx; rfl
  | int _ n _ => intro x hx; simp at hx; subst hx; rfl
  | str _ s _ => intro x hx; simp at hx; subst hx; rfl
  | fsl _ rows _ _ _ => intro x hx; simp at hx; subst hx; rfl
  | struct h xss hx hl hf ih =>
    intro x hm
    subst hx
    obtain ⟨ys, h1, h2⟩ := List.mem_flatten.1 hm
    obtain ⟨i, hi⟩ := List.mem_iff_getElem?.1 h1
    have hlt := (List.getElem?_eq_some_iff.1 hi).1
    exact ih i _ ys (Array.getElem?_eq_getElem (by omega)) hi x h2

abbrev froz (w : World) : Frz := fun _ b => w.heap[b]?

theorem VRs.flatten {φ : Frz} {μ : List Loc} : ∀ {xss : List (List AV)} {vss : List (List Value)}, xss.length = vss.length → (∀ (i : Nat) (xs : List AV) (vs : List Value), xss[i]? = some xs → vss[i]? = some vs → VRs φ μ xs vs) → VRs φ μ xss.flatten vss.flatten
  | [], [], _, _ => VRs.nil
  | xs :: xss, vs :: vss, hl, h => by
    simp only [List.flatten_cons]
    exact VRs.append (h 0 xs vs rfl rfl) (VRs.flatten (by simpa using hl) (fun i xs vs h1 h2 => h (i + 1) xs vs (by simpa using h1) (by simpa using h2)))
  | [], _ :: _, hl, _ => by simp at hl
  | _ :: _, [], hl, _ => by simp at hl

/-- A row of cells is its fields' pieces, one behind the other. -/
theorem contig_cut {α : Type} : ∀ {fs : List Field} {o m : Nat} (cs : List α), contig P o fs = some m → cs.length = m → cs.drop o = (fs.map fun f => (cs.drop f.offset).take (P.cellsOf f.type)).flatten
  | [], o, m, cs, h, hl => by
    simp only [contig, Option.some.injEq] at h
    subst h
    simp only [List.map_nil, List.flatten_nil]
    exact List.drop_eq_nil_of_le (by omega)
  | f :: fs, o, m, cs, h, hl => by
    simp only [contig] at h
    split at h
    · rename_i ho
      subst ho
      have := contig_cut cs h hl
      simp only [List.map_cons, List.flatten_cons]
      rw [← this, ← List.drop_drop, List.take_append_drop]
    · simp at h

theorem exists_list {α : Type} {p : Nat → α → Prop} : ∀ n : Nat, (∀ i, i < n → ∃ x, p i x) → ∃ l : List α, l.length = n ∧ ∀ i x, l[i]? = some x → p i x
  | 0, _ => ⟨[], rfl, fun i x h => by simp at h⟩
  | n + 1, h => by
    obtain ⟨l, h1, h2⟩ := exists_list n (fun i hi => h i (by omega))
    obtain ⟨x, hx⟩ := h n (by omega)
    refine ⟨l ++ [x], by simp [h1], fun i y hy => ?_⟩
    by_cases hi : i < l.length
    · rw [List.getElem?_append_left hi] at hy; exact h2 i y hy
    · rw [List.getElem?_append_right (by omega)] at hy
      have hlt := (List.getElem?_eq_some_iff.1 hy).1
      simp at hlt
      have : i = n := by omega
      subst this
      simp [h1] at hy; subst hy; exact hx

theorem cells_spot {base : Nat} {a : Addr} {m : Nat} {cs : List Value} (h : w.cells? base a m = some cs) : cs.length = m ∧ ∀ j, j < m → w.cell? (a.add j) = cs[j]? := by
  unfold World.cells? at h
  split at h
  · refine ⟨by simpa using mapM_some_length h, fun j hj => ?_⟩
    exact mapM_some_get h j j (by simp [hj])
  · simp at h

theorem cell_froz {a : Addr} {v : Value} (h : w.cell? a = some v) : a.spot = none ∧ fcell (froz w) false a.block a.off = some v := by
  unfold World.cell? at h
  split at h
  · rename_i c t f hb
    split at h
    · simp at h
    · rename_i hs
      refine ⟨by simpa using hs, ?_⟩
      simp only [fcell, hb]; exact h
  · simp at h

/-- WHAT IS READ, ABSTRACTLY. -/
theorem trod_shape : ∀ (k fuel : Nat) (t : TypeId) (cs : List Value) (x : DataW H × List MemPlace), flatB P k t = true → DataW.trod enc P w 0 (fun _ => true) true fuel t cs = some x →
    ∃ xs, Shape P t xs ∧ VRs (froz w) [] xs cs
  | 0, fuel, t, cs, x, hk, h => by simp [flatB] at hk
  | k + 1, fuel, t, cs, x, hk, h => by
    simp only [flatB] at hk
    split at hk
    · rename_i ht
      cases fuel with
      | zero => simp [DataW.trod] at h
      | succ n =>
        unfold DataW.trod at h
        rw [ht] at h
        split at h <;> simp_all
        exact ⟨[.bool _], .bool ht _, VRs.cons (.bool _) .nil⟩
    · rename_i ik ht
      cases fuel with
      | zero => simp [DataW.trod] at h
      | succ n =>
        unfold DataW.trod at h
        rw [ht] at h
        split at h <;> simp_all
        exact ⟨[.int _ _], .int ht _ h.1.2, VRs.cons (.int _ _) .nil⟩
    · rename_i ht
      cases fuel with
      | zero => simp [DataW.trod] at h
      | succ n =>
        unfold DataW.trod at h
        rw [ht] at h
        split at h <;> simp_all
        exact ⟨[.str _], .str ht _ h.1, VRs.cons (.str _) .nil⟩
    · rename_i e ht
      simp only [Bool.and_eq_true, decide_eq_true_eq] at hk
      rcases open_slice ht h with ⟨rfl, _⟩ | ⟨a, len, cap, m, n, D, Pl, rfl, _, hlc, hcm, hm, _, hx⟩
      · exact ⟨[.fsl false []], .fsl ht [] (by simp) (fun r hr => by simp at hr) (fun r hr => by simp at hr), VRs.cons .fslNil .nil⟩
      · simp only [if_true] at hm
        subst hm
        by_cases hc0 : m = 0
        · have : len = 0 := by omega
          subst this; subst hc0
          exact ⟨[.fsl false []], .fsl ht [] (by simp) (fun r hr => by simp at hr) (fun r hr => by simp at hr), VRs.cons .fslNil .nil⟩
        · obtain ⟨cs0, h0, h0'⟩ := hx 0 (by omega)
          have hs : a.spot = none := by
            obtain ⟨g1, g2⟩ := cells_spot h0
            have := g2 0 (by omega)
            rw [List.getElem?_eq_getElem (by omega)] at this
            have := (cell_froz this).1
            simp only [Addr.add] at this
            split at this <;> simp_all
          obtain ⟨b, o, sp⟩ := a
          simp only at hs
          subst hs
          -- the rows
          obtain ⟨rows, hl, hrows⟩ := exists_list (p := fun i r => Shape P e r.cells ∧ (if ((P.underlying e).map TypeDesc.isAgg) = some true then ∃ cs, r = AV.agg cs else r.isCell = true) ∧ ∃ cs', cs'.length = P.cellsOf e ∧ VRs (froz w) [] r.cells cs' ∧ ∀ j, j < P.cellsOf e → fcell (froz w) false b (o + i * P.cellsOf e + j) = cs'[j]?) len (fun i hi => by
            obtain ⟨cs', h1, h2⟩ := hx i (by omega)
            obtain ⟨xs, g1, g2⟩ := trod_shape k n e cs' _ hk.2 h2
            obtain ⟨f1, f2⟩ := cells_spot h1
            have hcell : ∀ j, j < P.cellsOf e → fcell (froz w) false b (o + i * P.cellsOf e + j) = cs'[j]? := by
              intro j hj
              have := f2 j hj
              rw [List.getElem?_eq_getElem (by omega)] at this ⊢
              have := (cell_froz this).2
              have e1 : ((({ block := b, off := o } : Addr).add (i * P.cellsOf e)).add j) = ⟨b, o + i * P.cellsOf e + j, none⟩ := by
                unfold Addr.add
                by_cases hi0 : i * P.cellsOf e = 0 <;> by_cases hj0 : j = 0 <;> simp [hi0, hj0]
              rw [e1] at this
              exact this
            by_cases hagg : ((P.underlying e).map TypeDesc.isAgg) = some true
            · exact ⟨.agg xs, g1, by rw [if_pos hagg]; exact ⟨xs, rfl⟩, cs', f1, g2, hcell⟩
            · -- one cell
              have : ∃ x, xs = [x] := by
                cases g1 with
                | bool _ b => exact ⟨_, rfl⟩
                | int _ n _ => exact ⟨_, rfl⟩
                | str _ s _ => exact ⟨_, rfl⟩
                | fsl _ rows _ _ _ => exact ⟨_, rfl⟩
                | struct h _ _ _ _ => rw [h] at hagg; exact absurd rfl hagg
              obtain ⟨x, rfl⟩ := this
              have hxc := g1.cell x (by simp)
              have hxx : x.cells = [x] := by cases x <;> first | rfl | (simp [AV.isCell] at hxc; done)
              exact ⟨x, by rw [hxx]; exact g1, by rw [if_neg hagg]; exact hxc, cs', f1, by rw [hxx]; exact g2, hcell⟩)
          have hrow : ∀ r ∈ rows, ∃ i, rows[i]? = some r := fun r hr => List.mem_iff_getElem?.1 hr
          refine ⟨[.fsl false rows], .fsl ht rows (by omega) (fun r hr => let ⟨i, hi⟩ := hrow r hr; (hrows i r hi).1) (fun r hr => let ⟨i, hi⟩ := hrow r hr; (hrows i r hi).2.1), VRs.cons ?_ .nil⟩
          refine .fsl (sz := P.cellsOf e) (fun i j => (fcell (froz w) false b (o + i * P.cellsOf e + j)).getD undef) hl (fun r hr => ?_) (fun i r j y h1 h2 => ?_) (fun i r j y h1 h2 => ?_) hlc
          · obtain ⟨i, hi⟩ := hrow r hr
            obtain ⟨g1, _, cs', f1, f2, _⟩ := hrows i r hi
            unfold AV.rowok
            rw [f2.1, f1]
            simp only [beq_self_eq_true, Bool.true_and, List.all_eq_true]
            exact g1.cell
          · obtain ⟨g1, _, cs', f1, f2, f3⟩ := hrows i r h1
            have hj : j < P.cellsOf e := by rw [← f1, ← f2.1]; exact (List.getElem?_eq_some_iff.1 h2).1
            have := f3 j hj
            rw [List.getElem?_eq_getElem (by omega)] at this
            rw [this]; rfl
          · obtain ⟨g1, _, cs', f1, f2, f3⟩ := hrows i r h1
            have hj : j < P.cellsOf e := by rw [← f1, ← f2.1]; exact (List.getElem?_eq_some_iff.1 h2).1
            have := f3 j hj
            rw [List.getElem?_eq_getElem (by omega)] at this
            rw [this]
            exact f2.2 j y _ h2 (List.getElem?_eq_getElem (by omega))
    · rename_i fs ht
      simp only [Bool.and_eq_true, beq_iff_eq, List.all_eq_true] at hk
      obtain ⟨ys, n, rfl, rfl, hlen, hyl, hy⟩ := DataW.trod_struct ht h
      have hcut := contig_cut cs hk.1 hlen
      simp only [List.drop_zero] at hcut
      obtain ⟨xss, h1, h2⟩ := exists_list (p := fun i xs => ∀ f, fs[i]? = some f → Shape P f.type xs ∧ VRs (froz w) [] xs ((cs.drop f.offset).take (P.cellsOf f.type))) fs.size (fun i hi => by
        have hf : fs[i]? = some fs[i] := Array.getElem?_eq_getElem hi
        have := hy i fs[i] hf
        rw [List.getElem?_eq_getElem (by omega)] at this
        obtain ⟨xs, g1, g2⟩ := trod_shape k n _ _ _ (hk.2 fs[i] (by simp)) this
        exact ⟨xs, fun f hf' => by rw [hf] at hf'; cases hf'; exact ⟨g1, g2⟩⟩)
      refine ⟨xss.flatten, .struct ht xss rfl h1 (fun i f ys hf hys => (h2 i ys hys f hf).1), ?_⟩
      rw [hcut]
      refine VRs.flatten (by simp [h1]) (fun i xs vs g1 g2 => ?_)
      simp only [List.getElem?_map, Option.map_eq_some_iff] at g2
      obtain ⟨f, hf, rfl⟩ := g2
      exact (h2 i xs g1 f (by simpa using hf)).2
    · simp at hk

/-- An argument's abstract value. -/
def ShapeV (P : Program) (t : TypeId) (x : AV) : Prop :=
  Shape P t x.cells ∧ (if ((P.underlying t).map TypeDesc.isAgg) = some true then ∃ cs, x = .agg cs else x.isCell = true)

theorem value_shape {k : Nat} {t : TypeId} {v : Value} {d : DataW H} {ps : List MemPlace} {base : Nat} (hk : flatB P k t = true) (hok : Value.okWide P w .any base t v) (h : DataW.Trod enc P w 0 (fun _ => true) true t v d ps) :
    ∃ x, ShapeV P t x ∧ VR (froz w) [] x v := by
  obtain ⟨fuel, h⟩ := h
  obtain ⟨xs, h1, h2⟩ := trod_shape k fuel t _ _ hk h
  by_cases hagg : ((P.underlying t).map TypeDesc.isAgg) = some true
  · have : ∃ cs, v = .agg cs := by
      unfold Value.okWide at hok
      split at hok
      · obtain ⟨cs, h, _⟩ := hok; exact ⟨cs, h⟩
      · obtain ⟨cs, h, _⟩ := hok; exact ⟨cs, h⟩
      · rename_i n1 n2
        cases hu : P.underlying t with
        | none => rw [hu] at hagg; simp at hagg
        | some d => cases d <;> rw [hu] at hagg <;> simp [TypeDesc.isAgg] at hagg <;> first | exact absurd hu (n1 _) | exact absurd hu (n2 _ _)
    obtain ⟨cs, rfl⟩ := this
    refine ⟨.agg xs, ⟨h1, by rw [if_pos hagg]; exact ⟨xs, rfl⟩⟩, ?_⟩
    have := VR.agg (φ := froz w) (μ := []) h2.1 h2.2
    simpa [Value.cells] using this
  · have hx : ∃ x, xs = [x] := by
      cases h1 with
      | bool _ b => exact ⟨_, rfl⟩
      | int _ n _ => exact ⟨_, rfl⟩
      | str _ s _ => exact ⟨_, rfl⟩
      | fsl _ rows _ _ _ => exact ⟨_, rfl⟩
      | struct h _ _ _ _ => rw [h] at hagg; exact absurd rfl hagg
    obtain ⟨x, rfl⟩ := hx
    have hxc := h1.cell x (by simp)
    have hxx : x.cells = [x] := by cases x <;> first | rfl | (simp [AV.isCell] at hxc; done)
    have hv : v.cells.toList = [v] := by
      cases v <;> first | rfl | skip
      exfalso
      rename_i cells
      have hcell : Cell.okWide P w .any base t (.agg cells) := by
        unfold Value.okWide at hok
        split at hok
        · rename_i hu; rw [hu] at hagg; exact absurd rfl hagg
        · rename_i hu; rw [hu] at hagg; exact absurd rfl hagg
        · exact hok
      cases h1 <;> rename_i hu <;> simp_all [Cell.okWide, Cell.ok]
    rw [hv] at h2
    exact ⟨x, ⟨by rw [hxx]; exact h1, by rw [if_neg hagg]; exact hxc⟩, h2.2 0 x v rfl rfl⟩

end Go.Abs

