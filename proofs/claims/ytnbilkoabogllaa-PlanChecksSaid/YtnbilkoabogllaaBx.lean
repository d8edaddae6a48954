/- Abs 10: slices that are made, written, grown. -/
import Derived.Test.YtnbilkoabogllaaAx
import Derived.Laws.Append
import Derived.WideKeyRuns
set_option linter.unusedSimpArgs false
set_option linter.unusedVariables false
namespace Go.Abs
open Go.RowKit

variable {CR : CRel} {P : Program} {W : BaseW} {w : World} {φ : Frz} {μ : List Loc} {H H' : Heap} {look : Nat → AV} {a : Act} {call : CallF} {slot : Option Nat} {r : AV} {o : Oper} {ao : AOp}

theorem madeCells_get {z : Array Value} {n sz i j : Nat} (hz : z.size = sz) (hj : j < sz) (hi : i * sz + j < n) : ∃ h : j < z.size, (madeCells z n)[i * sz + j]? = some z[j] := by
  subst hz
  refine ⟨hj, ?_⟩
  have hm : (i * z.size + j) % z.size = j := by rw [Nat.mul_comm, Nat.mul_add_mod, Nat.mod_eq_of_lt hj]
  simp only [madeCells]
  rw [Array.getElem?_map]
  simp [hi, hm, hj]

theorem mul_lt_of {i n sz j : Nat} (hi : i < n) (hj : j < sz) : i * sz + j < n * sz := by
  calc i * sz + j < i * sz + sz := by omega
    _ = (i + 1) * sz := by rw [Nat.add_mul]; omega
    _ ≤ n * sz := Nat.mul_le_mul_right _ hi

theorem replicate_rel {z : AV} {v : Value} {n m sz : Nat} (hv : VR φ μ z v) (hr : z.rowok sz = true) (hnm : n ≤ m) : ∀ (i : Nat) (r : AV) (j : Nat) (x : AV), (List.replicate n z)[i]? = some r → r.cells[j]? = some x →
    ∃ u, (madeCells v.cells (m * sz))[i * sz + j]? = some u ∧ VR φ μ x u := by
  intro i r j x h1 h2
  have hi := (List.getElem?_eq_some_iff.1 h1).1
  simp at hi
  rw [List.getElem?_replicate, if_pos hi] at h1
  simp at h1; subst h1
  have hj := (List.getElem?_eq_some_iff.1 h2).1
  rw [rowok_len hr] at hj
  obtain ⟨hlt, e⟩ := madeCells_get (z := v.cells) (n := m * sz) (sz := sz) (i := i) (j := j) (size_of_row hv hr) hj (Nat.lt_of_lt_of_le (mul_lt_of hi hj) (Nat.mul_le_mul_right _ hnm))
  have hc := hv.cells (by rw [rowok_len hr]; exact hr)
  exact ⟨_, e, hc.2 j x _ h2 (by simp [hlt])⟩

theorem sim_makeSlice {t : TypeId} {x y : Operand} (ho : o.op = .makeSlice t x y) {e : TypeId} (ht : P.underlying t = some (.slice e)) {z : AV} (hz : zeroOf P e = some z) {i : TypeInfo} (hi : P.info? e = some i)
    {x' y' : AOperand} (hx : convOperand x = some x') (hy : convOperand y = some y') (he : EnvR φ μ look a) (hw : WR CR W φ μ H w)
    (h : runAct call slot H (actOf (evalWith look) (.makeSlice z i.bytes x' y')) = some (r, H')) : SimR CR P W φ μ o a.eval w r H' := by
  simp only [actOf] at h
  have h1 := conv_operand he hx
  have h2 := conv_operand he hy
  split at h
  · rename_i kn n km m hn hm
    rw [hn] at h1; rw [hm] at h2
    generalize hu : a.eval x = u at h1
    generalize hv : a.eval y = v at h2
    cases h1; cases h2
    split at h
    · rename_i hc
      obtain ⟨c0, c1, c2, c3⟩ := hc
      obtain ⟨k, g, b, hp, hf, rfl⟩ := run_nw h
      split at hf
      · simp only [Option.some.injEq, Prod.mk.injEq] at hf
        obtain ⟨rfl, rfl⟩ := hf
        obtain ⟨i', zv, hi', hzv, hvr, hr, hs1⟩ := zeroOf_spec hz
        rw [hi] at hi'; cases hi'
        have hb : (i.bytes : Int) * m ≤ 281474976710656 := by
          have : ((m.toNat * i.bytes : Nat) : Int) ≤ 140737488355328 := by omega
          have e2 : ((m.toNat * i.bytes : Nat) : Int) = m * (i.bytes : Int) := by rw [Int.natCast_mul]; congr 1; omega
          rw [e2, Int.mul_comm] at this
          omega
        have hrun := run_make (P := P) w t e i zv ht hi hzv kn km n m c0 c1 hb (by omega)
        obtain ⟨μ', hw', hm', hl⟩ := hw.newRows (t := e) (rows := List.replicate n.toNat z) (cap := m.toNat) (c := madeCells zv.cells (m.toNat * i.size)) hp hs1
          (fun r hr' => by rw [List.eq_of_mem_replicate hr']; exact hr) (by simp; omega) (by simp [madeCells]) (replicate_rel (hvr φ μ) hr (by omega))
        rw [rowok_len hr]
        refine ⟨_, _, μ', .inl ?_, hw', hm', .sl hl (Nat.le_refl _) (show n.toNat ≤ m.toNat by omega) (fun _ => ⟨fun _ => by simp; rfl, by simp⟩)⟩
        simp only [execOp, ho, hu, hv, Sem.run_bind, hrun, Result.andThen_ok, Sem.run_pure]
        rfl
      · simp at hf
    · simp [runAct] at h
  · simp [runAct] at h

theorem fill_rows {sz n : Nat} (h1 : 1 ≤ sz) : ∀ (parts : List (Nat × Operand)) (ps : List (Nat × AOperand)) (rows : List AV) (cells : Array Value) (res : List AV),
    (∀ (k : Nat) (p : Nat × Operand) (q : Nat × AOperand), parts[k]? = some p → ps[k]? = some q → p.1 = q.1 ∧ VR φ μ (evalWith look q.2) (a.eval p.2)) → parts.length = ps.length →
    rows.length = n → cells.size = n * sz → (∀ r ∈ rows, r.rowok sz = true) → (∀ (i : Nat) (r : AV) (j : Nat) (x : AV), rows[i]? = some r → r.cells[j]? = some x → ∃ v, cells[i * sz + j]? = some v ∧ VR φ μ x v) →
    buildRows sz rows (ps.map fun (i, x) => (i, evalWith look x)) = some res →
    ∃ cells', Instr.fill (fun i => some (i * sz, sz)) cells (parts.map fun (i, x) => (i, a.eval x)) = some cells' ∧ res.length = n ∧ cells'.size = n * sz ∧ (∀ r ∈ res, r.rowok sz = true) ∧
      (∀ (i : Nat) (r : AV) (j : Nat) (x : AV), res[i]? = some r → r.cells[j]? = some x → ∃ v, cells'[i * sz + j]? = some v ∧ VR φ μ x v) := by
  intro parts
  induction parts with
  | nil =>
    intro ps rows cells res hp hl hn hs hok hv hb
    cases ps with
    | cons _ _ => simp at hl
    | nil =>
      simp [buildRows] at hb; subst hb
      exact ⟨cells, rfl, hn, hs, hok, hv⟩
  | cons p parts ih =>
    intro ps rows cells res hp hl hn hs hok hv hb
    cases ps with
    | nil => simp at hl
    | cons q ps =>
      obtain ⟨i, x⟩ := p
      obtain ⟨i', y⟩ := q
      obtain ⟨hii, hxy⟩ := hp 0 _ _ rfl rfl
      simp only at hii hxy
      subst hii
      simp only [List.map_cons, buildRows] at hb
      split at hb
      · rename_i hc
        obtain ⟨hr, hlt⟩ := hc
        have hsz := size_of_row hxy hr
        have hle : i * sz + sz ≤ cells.size := by
          rw [hs]; have := Nat.mul_le_mul_right sz (show i + 1 ≤ n by omega); rw [Nat.add_mul] at this; omega
        obtain ⟨cells', e1, e2, e3⟩ := fill_step (place := fun i => some (i * sz, sz)) (cells := cells) (rest := parts.map fun (i, x) => (i, a.eval x)) (i := i) rfl hsz hle
        have hcc := hxy.cells (by rw [rowok_len hr]; exact hr)
        obtain ⟨cells'', f1, f2⟩ := ih ps _ cells' res (fun k p q h1 h2 => hp (k + 1) p q (by simpa using h1) (by simpa using h2)) (by simpa using hl) (by simp [hn]) (by rw [e1, hs])
          (fun r hrm => by
            rcases List.mem_or_eq_of_mem_set hrm with hm | rfl
            · exact hok r hm
            · exact hr) (fun k r j z h1' h2' => by
            rw [List.getElem?_set] at h1'
            have hj : r.rowok sz = true → j < sz := fun hr' => by have := (List.getElem?_eq_some_iff.1 h2').1; rw [rowok_len hr'] at this; exact this
            split at h1'
            · rename_i hk
              subst hk
              simp only [Option.some.injEq] at h1'; subst h1'
              have hj' := hj hr
              rw [e2]
              rw [if_pos (by omega)]
              have : i * sz + j - i * sz = j := by omega
              rw [this]
              have hjl : j < (a.eval x).cells.size := by rw [hsz]; exact hj'
              exact ⟨(a.eval x).cells[j], by simp [hjl], hcc.2 j z _ h2' (by simp [hjl])⟩
            · rename_i hk
              have hj' := hj (hok r (List.mem_of_getElem? h1'))
              rw [e2, if_neg]
              · exact hv k r j z h1' h2'
              · intro hc
                have : k = i := by
                  have a1 : k * sz + j < (i + 1) * sz := by rw [Nat.add_mul]; omega
                  have a2 : i * sz < (k + 1) * sz := by rw [Nat.add_mul]; omega
                  have b1 := Nat.lt_of_mul_lt_mul_right (a := sz) (show k * sz < (i + 1) * sz by omega)
                  have b2 := Nat.lt_of_mul_lt_mul_right (a := sz) a2
                  omega
                exact hk this.symm) hb
        exact ⟨cells'', by simp only [List.map_cons]; rw [e3]; exact f1, f2⟩
      · simp at hb

theorem sim_buildSlice {t : TypeId} {len : Nat} {parts : Array (Nat × Operand)} (ho : o.op = .buildSlice t len parts) {e : TypeId} (ht : P.underlying t = some (.slice e)) {z : AV} (hz : zeroOf P e = some z)
    {ps : List (Nat × AOperand)} (hps : optAll (fun (p : Nat × Operand) => match convOperand p.2 with | some x => some (p.1, x) | none => none) parts.toList = some ps) (hlen : len * z.cells.length ≤ 2 ^ 24) (he : EnvR φ μ look a) (hw : WR CR W φ μ H w)
    (h : runAct call slot H (actOf (evalWith look) (.buildSlice z len ps)) = some (r, H')) : SimR CR P W φ μ o a.eval w r H' := by
  simp only [actOf] at h
  obtain ⟨k, g, b, hp, hf, rfl⟩ := run_nw h
  split at hf
  · split at hf
    · rename_i rows hrows
      simp only [Option.some.injEq, Prod.mk.injEq] at hf
      obtain ⟨rfl, rfl⟩ := hf
      obtain ⟨i, v, hi, hzv, hvr, hr, h1⟩ := zeroOf_spec hz
      have hzl := rowok_len hr
      rw [hzl] at hrows hlen
      have hsp := optAll_spec hps
      obtain ⟨cells', f1, f2, f3, f4, f5⟩ := fill_rows (a := a) (look := look) (n := len) h1 parts.toList ps (List.replicate len z) (madeCells v.cells (len * i.size)) rows (fun k p q h1 h2 => by
        have := hsp.2 k p q h1 h2
        split at this
        · rename_i x hx; simp at this; subst this; exact ⟨rfl, conv_operand he hx⟩
        · simp at this) hsp.1 (by simp) (by simp [madeCells]) (fun r hr' => by rw [List.eq_of_mem_replicate hr']; exact hr) (replicate_rel (hvr φ μ) hr (Nat.le_refl _)) hrows
      obtain ⟨μ', hw', hm', hl⟩ := hw.newRows (t := e) (rows := rows) (cap := len) (c := cells') hp h1 f4 (by omega) (by omega) f5
      rw [hzl]
      refine ⟨.slice (some ⟨w.heap.size, 0, none⟩) len len, _, μ', .inl ?_, hw', hm', .sl hl (Nat.le_refl _) (Nat.le_refl _) (fun _ => ⟨fun _ => by simp, by simp⟩)⟩
      have e2 : (parts.map fun (i, x) => (i, a.eval x)).toList = parts.toList.map fun (i, x) => (i, a.eval x) := by simp
      have hn : ¬ (len * i.size > 2 ^ 24) := by omega
      have hmk : ∀ h0 : len * i.size = 0, (madeCells v.cells (len * i.size)) = #[] := fun h0 => by simp [madeCells, h0]
      by_cases h0 : len * i.size = 0
      · rw [hmk h0] at f1
        have hr0 : ((Array.range (len * i.size)).map ((#[] : Array Value)[· % (#[] : Array Value).size]!)) = #[] := by simp [h0]
        simp only [execOp, ho, Instr.buildSlice, Sem.run_bind, run_underlying ht, Result.andThen_ok, sizeOf, typeInfo, run_program]
        simp only [hi, Sem.run_pure, Result.andThen_ok, if_neg hn, Sem.run_bind, if_pos h0, e2, hr0, f1, newRow, run_newObj]
      · have f1' : Instr.fill (fun i_1 => some (i_1 * i.size, i.size)) ((Array.range (len * i.size)).map (v.cells[· % v.cells.size]!)) (parts.toList.map fun (i, x) => (i, a.eval x)) = some cells' := f1
        simp only [execOp, ho, Instr.buildSlice, Sem.run_bind, run_underlying ht, Result.andThen_ok, sizeOf, typeInfo, run_program]
        simp only [hi, Sem.run_pure, Result.andThen_ok, if_neg hn, Sem.run_bind, if_neg h0, run_zero hi hzv, e2, f1', newRow, run_newObj]
    · simp at hf
  · simp at hf

end Go.Abs

/- Abs 11: stores and appends. -/
set_option linter.unusedSimpArgs false
set_option linter.unusedVariables false
namespace Go.Abs
open Go.RowKit

variable {CR : CRel} {P : Program} {W : BaseW} {w : World} {φ : Frz} {μ : List Loc} {H H' : Heap} {look : Nat → AV} {a : Act} {call : CallF} {slot : Option Nat} {r : AV} {o : Oper} {ao : AOp}

theorem run_md {ids : List Nat} {id : Nat} {f : List Blk → Option (AV × Blk)} (h : runAct call slot H (.md ids id f) = some (r, H')) :
    ∃ b, id < H.length ∧ f (blks H ids) = some (r, b) ∧ H' = H.set id b := by
  simp only [runAct] at h
  split at h
  · rename_i hlt
    split at h
    · rename_i v b hb
      simp only [Option.some.injEq, Prod.mk.injEq] at h
      obtain ⟨rfl, rfl⟩ := h
      exact ⟨b, hlt, hb, rfl⟩
    · simp at h
  · simp at h

theorem WR.live (hw : WR CR W φ μ H w) {id g sz : Nat} {rows : List AV} (hB : H[id]? = some (.arr g sz rows)) {l : Loc} (hl : μ[id]? = some l) : W.heap.size ≤ l.b ∧ l.b < w.heap.size ∧ ∀ k, φ k l.b = none :=
  hw.own id _ l hB hl rfl

/-- A block of rows gets other rows; where it lies its cells turn. -/
theorem WR.setRows (hw : WR CR W φ μ H w) {id g sz : Nat} {rows rows' : List AV} {l : Loc} (hB : H[id]? = some (.arr g sz rows)) (hl : μ[id]? = some l) {c c' : Array Value} {t : TypeId} (hc : w.heap[l.b]? = some (.cells c t (0, 0)))
    (hsz : c'.size = c.size) (hok : ∀ r ∈ rows', r.rowok l.sz = true) (hcap : rows'.length ≤ l.cap)
    (hv : ∀ (i : Nat) (r : AV) (j : Nat) (x : AV), rows'[i]? = some r → r.cells[j]? = some x → ∃ v, c'[l.o + i * l.sz + j]? = some v ∧ VR φ μ x v) :
    WR CR W φ μ (H.set id (.arr g sz rows')) (w.setRow l.b c') := by
  have hA := hw.arr hB hl
  obtain ⟨c0, t0, hc0, hs0, hv0⟩ := hA.mem
  rw [hc] at hc0
  simp only [Option.some.injEq, Obj.cells.injEq, and_true] at hc0
  obtain ⟨rfl, rfl⟩ := hc0
  have hlive := hw.live hB hl
  have hidl := (List.getElem?_eq_some_iff.1 hB).1
  have hgen := hw.gen id _ l hB hl
  refine hw.change (k := id) (B := .arr g sz rows') (l := l) (fun j hj b hb => by simpa [List.getElem?_set, Ne.symm hj] using hb) (fun j hj l' hl' => hl') (by simp [hidl]) hl (by simp [hw.len]) (MExt.refl μ)
    ⟨rfl, rfl, rfl, by simp, fun k hk => setRow_other w l.b k c' (by omega)⟩ (fun b hb hne => setRow_other w l.b b c' hne) hlive.2.2 hgen ⟨hlive.1, by simpa using hlive.2.1⟩ ?_ (fun j B' l' hj h1 h2 h3 => hw.apart j id B' _ l' l hj h1 hB h2 hl h3 rfl)
  exact .arr (hw.arrSz hB hl) ⟨hA.pos, hok, hcap, c', t, setRow_heap w l.b c c' t _ hc, by omega, hv⟩

theorem putCells_cells {q v : AV} {off : Nat} (hle : off + v.cells.length ≤ q.cells.length) : (putCells q off v).cells = splice q.cells off v.cells := by
  unfold putCells
  split
  · rename_i he
    have : off = 0 := by omega
    subst this
    simp [splice, he]
  · rfl

theorem putCells_ok {sz n : Nat} {q v : AV} {off : Nat} (hq : q.rowok sz = true) (hv : v.rowok n = true) (hle : off + n ≤ q.cells.length) : (putCells q off v).rowok sz = true := by
  have hvl := rowok_len hv
  have e := putCells_cells (q := q) (v := v) (off := off) (by omega)
  simp only [AV.rowok, Bool.and_eq_true, beq_iff_eq] at hq hv ⊢
  rw [e]
  refine ⟨by rw [splice_length (by omega)]; exact hq.1, ?_⟩
  rw [List.all_eq_true] at hq hv ⊢
  intro x hx
  simp only [splice, List.mem_append] at hx
  rcases hx with (hx | hx) | hx
  · exact hq.2 x (List.mem_of_mem_take hx)
  · exact hv.2 x hx
  · exact hq.2 x (List.mem_of_mem_drop hx)

theorem cells_oneCell {x : AV} {v : Value} {n : Nat} (hx : VR φ μ x v) (hr : x.rowok n = true) : ∀ u ∈ v.cells.toList, u.oneCell' = true := by
  intro u hu
  have hc := hx.cells (by rw [rowok_len hr]; exact hr)
  obtain ⟨i, hi⟩ := List.mem_iff_getElem?.1 hu
  have hlt := (List.getElem?_eq_some_iff.1 hi).1
  have hlt' : i < x.cells.length := by rw [hc.1]; exact hlt
  have hg := List.getElem?_eq_getElem hlt'
  have := hc.2 i _ u hg hi
  exact oneCell_of this (List.all_eq_true.1 (rowok_cells hr) _ (List.mem_of_getElem? hg))

theorem splice_toArray_get {c : Array Value} {news : List Value} {p i : Nat} (hle : p + news.length ≤ c.size) :
    ((c.toList.take p ++ news ++ c.toList.drop (p + news.length)).toArray)[i]? = if p ≤ i ∧ i < p + news.length then news[i - p]? else c[i]? := by
  have hl : (c.toList.take p).length = p := by simp; omega
  rw [List.getElem?_toArray]
  by_cases h1 : i < p
  · rw [List.append_assoc, List.getElem?_append_left (by omega), List.getElem?_take, if_pos h1, if_neg (by omega)]; simp
  · by_cases h2 : i < p + news.length
    · rw [if_pos ⟨by omega, h2⟩, List.getElem?_append_left (by rw [List.length_append]; omega), List.getElem?_append_right (by omega), hl]
    · rw [if_neg (by omega), List.getElem?_append_right (by rw [List.length_append]; omega), List.getElem?_drop]
      rw [List.length_append, hl]
      have : p + news.length + (i - (p + news.length)) = i := by omega
      rw [this]; simp

theorem sim_store {t : TypeId} {x y : Operand} (ho : o.op = .store t x y) {g0 : Bool} {n : Nat} (ht : typeOf P t = some (g0, n)) {x' y' : AOperand} (hx : convOperand x = some x') (hy : convOperand y = some y') (he : EnvR φ μ look a) (hw : WR CR W φ μ H w)
    (h : runAct call slot H (actOf (evalWith look) (.store n x' y')) = some (r, H')) : SimR CR P W φ μ o a.eval w r H' := by
  simp only [actOf, storeA] at h
  have hv := conv_operand he hx
  have hvy := conv_operand he hy
  split at h
  · rename_i id gen row off hxa
    obtain ⟨b, hlt, hf, rfl⟩ := run_md h
    rw [hxa] at hv
    generalize hu : a.eval x = u at hv
    cases hv
    rename_i l ad hl hg ha
    rw [blks_one] at hf
    split at hf
    · rename_i g' sz' rows hB
      simp only [List.cons.injEq, and_true] at hB
      have hB := getD_arr hB
      split at hf
      · rename_i e; subst e
        split at hf
        · rename_i q hq
          split at hf
          · rename_i hc
            obtain ⟨hr, hle⟩ := hc
            simp only [Option.some.injEq, Prod.mk.injEq] at hf
            obtain ⟨rfl, rfl⟩ := hf
            have hgl : g' = l.gen := hw.gen id _ l hB hl
            have had := ha hgl.symm
            subst had
            have hA := hw.arr hB hl
            obtain ⟨c, ct, hc, hs, hcv⟩ := hA.mem
            have hqok := hA.ok q (List.mem_of_getElem? hq)
            have hql := rowok_len hqok
            have hrl : row < rows.length := (List.getElem?_eq_some_iff.1 hq).1
            have hvsz := size_of_row hvy hr
            have hsl : (a.eval y).cells.toList.length = n := by simp [hvsz]
            have hfit : l.o + row * l.sz + off + n ≤ c.size := by
              have h1 := Nat.mul_le_mul_right l.sz (show row + 1 ≤ l.cap by have := hA.cap; omega)
              rw [Nat.add_mul] at h1; omega
            have hst := run_storeCells_at P l.b (l.o + row * l.sz + off) ct (a.eval y).cells.toList 0 c w hc (by rw [hsl]; omega) (cells_oneCell hvy hr)
            simp only [Nat.add_zero, hsl] at hst
            have hw' := hw.setRows (rows' := rows.set row (putCells q off (evalWith look y'))) hB hl hc (c' := (c.toList.take (l.o + row * l.sz + off) ++ (a.eval y).cells.toList ++ c.toList.drop (l.o + row * l.sz + off + n)).toArray)
              (by simp [hvsz]; omega) (fun z hz => by
                rcases List.mem_or_eq_of_mem_set hz with hz | rfl
                · exact hA.ok z hz
                · exact putCells_ok hqok hr hle) (by simpa using hA.cap) (fun i z j y1 h1 h2 => by
                have hcel := hvy.cells (by rw [rowok_len hr]; exact hr)
                have hg := splice_toArray_get (c := c) (news := (a.eval y).cells.toList) (p := l.o + row * l.sz + off) (i := l.o + i * l.sz + j) (by rw [hsl]; omega)
                rw [hsl] at hg
                rw [hg]
                rw [List.getElem?_set] at h1
                split at h1
                · rename_i hi; subst hi
                  simp only [hrl, if_true, Option.some.injEq] at h1; subst h1
                  rw [putCells_cells (by rw [rowok_len hr]; exact hle)] at h2
                  rw [splice_get (by rw [rowok_len hr]; exact hle), rowok_len hr] at h2
                  split at h2
                  · rename_i hj
                    rw [if_pos (by omega)]
                    have e1 : l.o + row * l.sz + j - (l.o + row * l.sz + off) = j - off := by omega
                    rw [e1]
                    have hjl : j - off < (a.eval y).cells.toList.length := by rw [hsl]; omega
                    exact ⟨(a.eval y).cells.toList[j - off], List.getElem?_eq_getElem hjl, hcel.2 _ y1 _ h2 (List.getElem?_eq_getElem hjl)⟩
                  · rename_i hj
                    have hjq := (List.getElem?_eq_some_iff.1 h2).1
                    rw [if_neg (by omega)]
                    exact hcv row q j y1 hq h2
                · rename_i hi
                  have hjz := (List.getElem?_eq_some_iff.1 h2).1
                  rw [rowok_len (hA.ok z (List.mem_of_getElem? h1))] at hjz
                  rw [if_neg]
                  · exact hcv i z j y1 h1 h2
                  · intro hcc
                    have a1 : i * l.sz < (row + 1) * l.sz := by rw [Nat.add_mul]; omega
                    have a2 : row * l.sz < (i + 1) * l.sz := by rw [Nat.add_mul]; omega
                    have b1 := Nat.lt_of_mul_lt_mul_right (a := l.sz) a1
                    have b2 := Nat.lt_of_mul_lt_mul_right (a := l.sz) a2
                    omega)
            refine ⟨undef, _, μ, .inr ⟨rfl, ?_⟩, hw', MExt.refl μ, .undef _⟩
            obtain ⟨r1, r2⟩ := run_isAgg ht w
            simp only [execOp, ho, hu, Instr.storeAt, Instr.sureAddr, storeVar, Sem.run_bind, Sem.run_pure, Result.andThen_ok, r2]
            simp only [hvsz, ne_eq, not_true_eq_false, if_false, Sem.run_pure, Result.andThen_ok, Sem.run_bind, hst]
          · simp at hf
        · simp at hf
      · simp at hf
    · simp at hf
  · simp [runAct] at h

end Go.Abs

/- Abs 12: append. -/
set_option linter.unusedSimpArgs false
set_option linter.unusedVariables false
namespace Go.Abs
open Go.RowKit

variable {CR : CRel} {P : Program} {W : BaseW} {w : World} {φ : Frz} {μ : List Loc} {H H' : Heap} {look : Nat → AV} {a : Act} {call : CallF} {slot : Option Nat} {r : AV} {o : Oper} {ao : AOp}

/-- Rows that lie where an address says. -/
def RowsAt (φ : Frz) (μ : List Loc) (w : World) (sz : Nat) (ad : Addr) (ys : List AV) : Prop :=
  ∀ (i : Nat) (r : AV) (j : Nat) (x : AV), ys[i]? = some r → r.cells[j]? = some x → ∃ v, w.cell? (ad.add (i * sz + j)) = some v ∧ VR φ μ x v

/-- Their cells, in line. -/
theorem RowsAt.cells {sz : Nat} {ad : Addr} {ys : List AV} (h : RowsAt φ μ w sz ad ys) (h1 : 1 ≤ sz) (hok : ∀ r ∈ ys, r.rowok sz = true) :
    ∃ news : List Value, news.length = ys.length * sz ∧ (∀ j u, news[j]? = some u → w.cell? (ad.add j) = some u) ∧ (∀ u ∈ news, u.oneCell' = true) ∧
      ∀ (i : Nat) (r : AV) (j : Nat) (x : AV), ys[i]? = some r → r.cells[j]? = some x → ∃ v, news[i * sz + j]? = some v ∧ VR φ μ x v := by
  have key : ∀ k, k < ys.length * sz → ∃ v, w.cell? (ad.add k) = some v ∧ v.oneCell' = true ∧ ∀ r x, ys[k / sz]? = some r → r.cells[k % sz]? = some x → VR φ μ x v := by
    intro k hk
    have hi : k / sz < ys.length := (Nat.div_lt_iff_lt_mul (by omega)).2 hk
    have hj : k % sz < sz := Nat.mod_lt _ (by omega)
    have hr := List.getElem?_eq_getElem hi
    have hrok := hok _ (List.mem_of_getElem? hr)
    have hjl : k % sz < ys[k / sz].cells.length := by rw [rowok_len hrok]; exact hj
    obtain ⟨v, e, hv⟩ := h (k / sz) _ (k % sz) _ hr (List.getElem?_eq_getElem hjl)
    have : k / sz * sz + k % sz = k := by rw [Nat.mul_comm]; exact Nat.div_add_mod k sz
    rw [this] at e
    refine ⟨v, e, oneCell_of hv (List.all_eq_true.1 (rowok_cells hrok) _ (List.getElem_mem hjl)), fun r x hr' hx => ?_⟩
    rw [hr] at hr'; simp only [Option.some.injEq] at hr'; subst hr'
    rw [List.getElem?_eq_getElem hjl] at hx; simp only [Option.some.injEq] at hx; subst hx
    exact hv
  let f : Nat → Value := fun k => if hk : k < ys.length * sz then Classical.choose (key k hk) else undef
  have hf : ∀ k (hk : k < ys.length * sz), w.cell? (ad.add k) = some (f k) ∧ (f k).oneCell' = true ∧ ∀ r x, ys[k / sz]? = some r → r.cells[k % sz]? = some x → VR φ μ x (f k) := by
    intro k hk; simp only [f, hk, dif_pos]; exact Classical.choose_spec (key k hk)
  refine ⟨(List.range (ys.length * sz)).map f, by simp, fun j u hu => ?_, fun u hu => ?_, fun i r j x h1' h2 => ?_⟩
  · have hj := (List.getElem?_eq_some_iff.1 hu).1
    simp at hj
    simp [hj] at hu; subst hu
    exact (hf j hj).1
  · simp only [List.mem_map, List.mem_range] at hu
    obtain ⟨k, hk, rfl⟩ := hu
    exact (hf k hk).2.1
  · have hi := (List.getElem?_eq_some_iff.1 h1').1
    have hj := (List.getElem?_eq_some_iff.1 h2).1
    rw [rowok_len (hok r (List.mem_of_getElem? h1'))] at hj
    have hk := mul_lt_of hi hj
    refine ⟨f (i * sz + j), by simp [hk], (hf _ hk).2.2 r x ?_ ?_⟩
    · rw [Nat.mul_comm, Nat.mul_add_div (by omega), Nat.div_eq_of_lt hj]; simpa using h1'
    · rw [Nat.mul_comm, Nat.mul_add_mod, Nat.mod_eq_of_lt hj]; exact h2

section run
variable (t u ty e : TypeId) (i : TypeInfo) (z : Value) (e' : TypeId) (ht : P.underlying t = some (.slice e)) (hu : P.underlying u = some (.slice e')) (hi : P.info? e = some i) (hz : i.zero = some z)
include ht hu hi

theorem append_none (base : Option Addr) (len cap : Nat) (hlc : len ≤ cap) (ad : Option Addr) (c : Nat) :
    (Builtin.append_ #[t, u] ty #[.slice base len cap, .slice ad 0 c]).run P w = .ok (.slice base len cap) w := by
  cases ad <;> cases base <;> simp [Builtin.append_, run_underlying ht, run_underlying hu, sizeOf, typeInfo, hi, Builtin.lenOf, Builtin.firstCells, loadCells, loadCellsFrom, hlc, storeCells]

include hz in
theorem append_grow (base : Option Addr) (sLen sCap : Nat) (olds : List Value) (hlo : olds.length = sLen * i.size) (hb : sLen = 0 ∧ base = none ∨ ∃ b, base = some b ∧ ∀ j v, olds[j]? = some v → w.cell? (b.add j) = some v)
    (ad : Addr) (n c : Nat) (news : List Value) (hl : news.length = n * i.size) (hnews : ∀ j v, news[j]? = some v → w.cell? (ad.add j) = some v)
    (hg : sCap < sLen + n) (h63 : ((sLen + n : Nat) : Int) ≤ 9223372036854775807) (hfit : Builtin.nextslicecap (sLen + n) sCap * i.bytes ≤ 281474976710656) :
    (Builtin.append_ #[t, u] ty #[.slice base sLen sCap, .slice (some ad) n c]).run P w =
      .ok (.slice (some ⟨w.heap.size, 0, none⟩) (sLen + n) (grownCap w (sLen + n) sCap e))
        (w.drew.alloc (.cells (olds.toArray ++ news.toArray ++ Builtin.zeroCells z.cells (grownCap w (sLen + n) sCap e - (sLen + n))) e)) := by
  have hn : ¬ (sLen + n ≤ sCap) := by omega
  have h63' : ¬ (9223372036854775807 < ((sLen : Int) + (n : Int))) := by omega
  have h48' : ¬ (281474976710656 < Builtin.nextslicecap (sLen + n) sCap * i.bytes) := by omega
  have hf := run_firstCells_some (P := P) w.drew i.size n ad n c news hl (by simpa using hnews)
  rcases hb with ⟨rfl, rfl⟩ | ⟨b, rfl, holds⟩
  · have : olds = [] := List.eq_nil_of_length_eq_zero (by simpa using hlo)
    subst this
    simp only [Nat.zero_add] at *
    have h63'' : ¬ (9223372036854775807 < (n : Int)) := by omega
    have hf' : (loadCells ad (n * i.size)).run P w.drew = .ok news.toArray w.drew := by simpa [Builtin.firstCells] using hf
    simp [Builtin.append_, run_underlying ht, run_underlying hu, sizeOf, typeInfo, zeroValue, hi, hz, Builtin.lenOf, hn, h63'', h48', Question.forced, Builtin.firstCells, hf', newRow, grownCap]
  · have hfo := run_firstCells_some (P := P) w.drew i.size sLen b sLen sCap olds hlo (by simpa using holds)
    simp [Builtin.append_, run_underlying ht, run_underlying hu, sizeOf, typeInfo, zeroValue, hi, hz, Builtin.lenOf, hn, h63', h48', Question.forced, hf, hfo, newRow, grownCap]
    congr 2
    apply Array.ext'
    simp [List.append_assoc]

theorem append_room (g off sLen sCap : Nat) (cur : Array Value) (ct : TypeId) (hg : w.heap[g]? = some (.cells cur ct (0, 0)))
    (ad : Addr) (m c : Nat) (news : List Value) (hl : news.length = m * i.size) (hnews : ∀ j u, news[j]? = some u → w.cell? (ad.add j) = some u) (h1 : ∀ u ∈ news, u.oneCell' = true)
    (hroom : sLen + m ≤ sCap) (hfit : off + sLen * i.size + news.length ≤ cur.size) :
    (Builtin.append_ #[t, u] ty #[.slice (some ⟨g, off, none⟩) sLen sCap, .slice (some ad) m c]).run P w =
      .ok (.slice (some ⟨g, off, none⟩) (sLen + m) sCap) (w.setRow g (cur.toList.take (off + sLen * i.size) ++ news ++ cur.toList.drop (off + sLen * i.size + news.length)).toArray) := by
  have hf := run_firstCells_some (P := P) w i.size m ad m c news hl hnews
  have hst := run_storeCells_at P g (off + sLen * i.size) ct news 0 cur w hg (by simpa using hfit) h1
  simp only [Nat.add_zero] at hst
  simp [Builtin.append_, run_underlying ht, run_underlying hu, sizeOf, typeInfo, hi, Builtin.lenOf, hroom, hf, addr_add, hst]
end run

theorem grownCap_ge' (w : World) (need old : Nat) (e : TypeId) : need ≤ grownCap w need old e := by
  show need ≤ need + _; omega

/-- What is appended: n rows, somewhere. -/
structure SrcR (φ : Frz) (μ : List Loc) (w : World) (sz n : Nat) (u : Value) (ys : List AV) : Prop where
  len : ys.length = n
  at_ : ∃ ad c, u = .slice ad n c ∧ (n ≠ 0 → ∃ b, ad = some b ∧ RowsAt φ μ w sz b ys)

theorem appended_row {olds news : List Value} {rest : Array Value} {sz len : Nat} {xs ys : List AV} (h1 : 1 ≤ sz) (hx : xs.length = len) (hlo : olds.length = len * sz) (hln : news.length = ys.length * sz) (hokx : ∀ r ∈ xs, r.rowok sz = true) (hoky : ∀ r ∈ ys, r.rowok sz = true)
    (ho : ∀ (i : Nat) (r : AV) (j : Nat) (x : AV), xs[i]? = some r → r.cells[j]? = some x → ∃ v, olds[i * sz + j]? = some v ∧ VR φ μ x v)
    (hn : ∀ (i : Nat) (r : AV) (j : Nat) (x : AV), ys[i]? = some r → r.cells[j]? = some x → ∃ v, news[i * sz + j]? = some v ∧ VR φ μ x v) :
    ∀ (i : Nat) (r : AV) (j : Nat) (x : AV), (xs ++ ys)[i]? = some r → r.cells[j]? = some x → ∃ v, (olds.toArray ++ news.toArray ++ rest)[i * sz + j]? = some v ∧ VR φ μ x v := by
  intro i r j x h2 h3
  have hj := (List.getElem?_eq_some_iff.1 h3).1
  have e1 : ∀ k, (olds.toArray ++ news.toArray ++ rest)[k]? = if k < olds.length then olds[k]? else if k < olds.length + news.length then news[k - olds.length]? else rest[k - (olds.length + news.length)]? := by
    intro k
    simp only [Array.getElem?_append, Array.size_append, List.size_toArray, List.getElem?_toArray]
    (repeat' split) <;> first | rfl | omega
  rw [List.getElem?_append] at h2
  split at h2
  · rename_i hi
    rw [rowok_len (hokx r (List.mem_of_getElem? h2))] at hj
    obtain ⟨v, e, hv⟩ := ho i r j x h2 h3
    have := mul_lt_of hi hj
    rw [hx] at this
    exact ⟨v, by rw [e1, if_pos (by omega)]; exact e, hv⟩
  · rename_i hi
    rw [rowok_len (hoky r (List.mem_of_getElem? h2))] at hj
    obtain ⟨v, e, hv⟩ := hn _ r j x h2 h3
    have hlt := (List.getElem?_eq_some_iff.1 h2).1
    have := mul_lt_of hlt hj
    have e2 : i * sz + j - olds.length = (i - xs.length) * sz + j := by
      rw [hlo, hx, Nat.sub_mul]
      have : len * sz ≤ i * sz := Nat.mul_le_mul_right _ (by omega)
      omega
    have : len * sz ≤ i * sz := Nat.mul_le_mul_right _ (by omega)
    exact ⟨v, by rw [e1, if_neg (by omega), if_pos (by omega), e2]; exact e, hv⟩

theorem sim_appendTo {t u ty e e' : TypeId} {i : TypeInfo} {z : Value} (ht : P.underlying t = some (.slice e)) (hu : P.underlying u = some (.slice e')) (hi : P.info? e = some i) (hz : i.zero = some z)
    (h1 : 1 ≤ i.size) (hby : 1 ≤ i.bytes) (hzs : z.cells.size = i.size) {x : AV} {ux uy : Value} {n : Nat} {ids : List Nat} {src : List Blk → Option (List AV)} (hx : VR φ μ x ux)
    (hsrc : ∀ ys, src (blks H ids) = some ys → ys.all (AV.rowok i.size) = true → SrcR φ μ w i.size n uy ys) (hlen0 : n = 0 → ∃ ad c, uy = .slice ad 0 c) (hw : WR CR W φ μ H w)
    (h : runAct call slot H (appendTo i.size i.bytes x n ids src) = some (r, H')) :
    ∃ v w' μ', (Builtin.append_ #[t, u] ty #[ux, uy]).run P w = .ok v w' ∧ WR CR W φ μ' H' w' ∧ MExt μ μ' ∧ VR φ μ' r v := by
  unfold appendTo at h
  split at h
  · rename_i hn0
    obtain ⟨ad, c, rfl⟩ := hlen0 hn0
    have fin : ∀ base len cap, ux = .slice base len cap → len ≤ cap → r = x → H' = H → ∃ v w' μ', (Builtin.append_ #[t, u] ty #[ux, .slice ad 0 c]).run P w = .ok v w' ∧ WR CR W φ μ' H' w' ∧ MExt μ μ' ∧ VR φ μ' r v := by
      intro base len cap e1 e2 e3 e4
      subst e1; subst e3; subst e4
      exact ⟨_, w, μ, append_none t u ty e i e' ht hu hi base len cap e2 ad c, hw, MExt.refl μ, hx⟩
    split at h
    · obtain ⟨rfl, rfl⟩ := run_val h
      cases hx
      exact fin _ _ _ rfl (Nat.le_refl _) rfl rfl
    · obtain ⟨rfl, rfl⟩ := run_val h
      cases hx with
      | sl _ _ hlc _ => exact fin _ _ _ rfl hlc rfl rfl
    · obtain ⟨rfl, rfl⟩ := run_val h
      cases hx with
      | fslNil => exact fin _ _ _ rfl (Nat.le_refl _) rfl rfl
      | fsl _ _ _ _ _ hcap => exact fin _ _ _ rfl hcap rfl rfl
    · simp [runAct] at h
  · rename_i hn0
    split at h
    · split at h
      · rename_i hroom
        obtain ⟨k, g, b, hp, hf, rfl⟩ := run_nw h
        split at hf
        · rename_i ys hys
          split at hf
          · rename_i hall
            simp only [Option.some.injEq, Prod.mk.injEq] at hf
            obtain ⟨rfl, rfl⟩ := hf
            obtain ⟨hyl, ad, c, rfl, hat⟩ := hsrc ys hys hall
            obtain ⟨b, rfl, hrows⟩ := hat hn0
            cases hx
            have hok : ∀ r ∈ ys, r.rowok i.size = true := fun r hr => List.all_eq_true.1 hall r hr
            obtain ⟨news, hl, hnews, hone, hrel⟩ := hrows.cells h1 hok
            simp only [room, decide_eq_true_eq] at hroom
            have hn63 : n ≤ 140737488355328 := Nat.le_trans (Nat.le_mul_of_pos_right n hby) hroom
            have hrun := append_grow (P := P) (w := w) t u ty e i z e' ht hu hi hz none 0 0 [] (by simp) (.inl ⟨rfl, rfl⟩) b n c news (by rw [hl, hyl]) hnews (by omega) (by omega) (growslice_fits (by omega) (by simpa using hroom))
            simp only [Nat.zero_add] at hrun
            have hge := grownCap_ge' w n 0 e
            have hwd : WR CR W φ μ H w.drew := hw.world ⟨rfl, rfl, rfl, Nat.le_refl _, fun _ _ => rfl⟩ rfl
            obtain ⟨μ', hw', hm, hl'⟩ := hwd.newRows (t := e) (rows := ys) (cap := grownCap w n 0 e) (c := ([] : List Value).toArray ++ news.toArray ++ Builtin.zeroCells z.cells (grownCap w n 0 e - n)) hp h1 hok (by omega)
              (by simp only [Array.size_append, List.size_toArray, size_zeroCells, hzs, hl, hyl, List.length_nil]; have := Nat.mul_le_mul_right i.size (show grownCap w n 0 e ≤ n + (grownCap w n 0 e - n) by omega); rw [Nat.add_mul] at this; omega)
              (by
                have := appended_row (φ := φ) (μ := μ) (olds := []) (news := news) (rest := Builtin.zeroCells z.cells (grownCap w n 0 e - n)) (sz := i.size) (len := 0) (xs := []) (ys := ys) h1 rfl (by simp) hl (fun r h => by simp at h) hok (fun i r j x h => by simp at h) hrel
                simpa using this)
            exact ⟨_, _, μ', hrun, hw', hm, .sl hl' (Nat.le_refl _) (by omega) (fun _ => ⟨fun _ => by simp, by simp⟩)⟩
          · simp at hf
        · simp at hf
      · simp [runAct] at h
    · rename_i id gen off len
      split at h
      · rename_i hroom
        obtain ⟨bb, hlt, hf, rfl⟩ := run_md h
        have hbl : blks H (id :: ids) = H.getD id (.dead 0) :: blks H ids := rfl
        rw [hbl] at hf
        simp only at hf
        split at hf
        · rename_i g s rows ys hB hys
          have hB := getD_arr hB
          split at hf
          · rename_i hc
            obtain ⟨rfl, rfl, hle, hall⟩ := hc
            obtain ⟨hyl, ad, c, rfl, hat⟩ := hsrc ys hys hall
            obtain ⟨b, rfl, hrows⟩ := hat hn0
            have hok : ∀ r ∈ ys, r.rowok i.size = true := fun r hr => List.all_eq_true.1 hall r hr
            obtain ⟨news, hl, hnews, hone, hrel⟩ := hrows.cells h1 hok
            simp only [room, decide_eq_true_eq] at hroom
            have hn63 : len + n ≤ 140737488355328 := Nat.le_trans (Nat.le_mul_of_pos_right _ hby) hroom
            cases hx with
            | sl hl' hg hlc ha =>
              rename_i cap l ad'
              have hgl : g = l.gen := hw.gen id _ l hB hl'
              obtain ⟨had, hcap⟩ := ha hgl.symm
              have hA := hw.arr hB hl'
              obtain ⟨cc, ct, hcc, hcs, hcv⟩ := hA.mem
              have hlive := hw.live hB hl'
              have hAcap := hA.cap
              have hidl := (List.getElem?_eq_some_iff.1 hB).1
              have hsz := hw.arrSz hB hl'
              have hadr : cap ≠ 0 → ad' = ⟨l.b, l.o + off * l.sz, none⟩ := had
              have hcapsz : l.cap * l.sz = off * l.sz + cap * l.sz := by rw [← hcap, Nat.add_mul]; omega
              have hnsz : news.length = n * l.sz := by rw [hl, hyl, hsz]
              have hposs : 1 ≤ l.sz := by rw [hsz]; exact h1
              split at hf
              · rename_i hin
                simp only [Option.some.injEq, Prod.mk.injEq] at hf
                obtain ⟨rfl, rfl⟩ := hf
                have hroom' : len + n ≤ cap := by omega
                have hadr' := hadr (by omega)
                subst hadr'
                have hmul : (len + n) * l.sz ≤ cap * l.sz := Nat.mul_le_mul_right _ hroom'
                rw [Nat.add_mul] at hmul
                have hrun := append_room (P := P) (w := w) t u ty e i e' ht hu hi l.b (l.o + off * l.sz) len cap cc ct hcc b n c news (by rw [hl, hyl]) hnews hone hroom' (by rw [← hsz]; omega)
                rw [← hsz] at hrun
                refine ⟨_, _, μ, hrun, ?_, MExt.refl μ, .sl hl' hg (by omega) (fun _ => ⟨fun _ => rfl, hcap⟩)⟩
                refine hw.setRows hB hl' hcc (by simp; omega) (fun q hq => ?_) (by rw [splice_length (by omega)]; exact hAcap) (fun k q j x e1 e2 => ?_)
                · simp only [splice, List.mem_append] at hq
                  rcases hq with (hq | hq) | hq
                  · exact hA.ok q (List.mem_of_mem_take hq)
                  · rw [hsz]; exact hok q hq
                  · exact hA.ok q (List.mem_of_mem_drop hq)
                · rw [splice_toArray_get (by omega)]
                  rw [splice_get (by omega)] at e1
                  have hj := (List.getElem?_eq_some_iff.1 e2).1
                  split at e1
                  · rename_i hk
                    rw [rowok_len (hok q (List.mem_of_getElem? e1))] at hj
                    rw [← hsz] at hj
                    have a1 : (off + len) * l.sz ≤ k * l.sz := Nat.mul_le_mul_right _ hk.1
                    have a2 := mul_lt_of (n := off + len + n) (sz := l.sz) (j := j) (i := k) (by omega) hj
                    rw [Nat.add_mul] at a1
                    rw [Nat.add_mul, Nat.add_mul] at a2
                    rw [if_pos (by omega)]
                    have e3 : l.o + k * l.sz + j - (l.o + off * l.sz + len * l.sz) = (k - (off + len)) * l.sz + j := by rw [Nat.sub_mul, Nat.add_mul]; omega
                    rw [e3, hsz]
                    exact hrel _ q j x e1 e2
                  · rename_i hk
                    rw [rowok_len (hA.ok q (List.mem_of_getElem? e1))] at hj
                    rw [if_neg]
                    · exact hcv k q j x e1 e2
                    · intro hcc'
                      have a1 : (off + len) * l.sz < (k + 1) * l.sz := by rw [Nat.add_mul, Nat.add_mul]; omega
                      have a2 : k * l.sz < (off + len + n) * l.sz := by rw [Nat.add_mul, Nat.add_mul]; omega
                      have b1 := Nat.lt_of_mul_lt_mul_right (a := l.sz) a1
                      have b2 := Nat.lt_of_mul_lt_mul_right (a := l.sz) a2
                      omega
              · rename_i hout
                simp only [Option.some.injEq, Prod.mk.injEq] at hf
                obtain ⟨rfl, rfl⟩ := hf
                have hxl : ((rows.drop off).take len).length = len := by simp; omega
                have hget : ∀ (k : Nat) (q : AV), ((rows.drop off).take len)[k]? = some q → rows[off + k]? = some q ∧ k < len := by
                  intro k q hk
                  rw [List.getElem?_take] at hk
                  split at hk
                  · rename_i hlt'
                    rw [List.getElem?_drop] at hk
                    exact ⟨hk, hlt'⟩
                  · simp at hk
                have hokx : ∀ q ∈ (rows.drop off).take len, q.rowok l.sz = true := fun q hq => hA.ok q (List.mem_of_mem_drop (List.mem_of_mem_take hq))
                have hoky : ∀ q ∈ ys, q.rowok l.sz = true := fun q hq => by rw [hsz]; exact hok q hq
                have hokxy : ∀ q ∈ (rows.drop off).take len ++ ys, q.rowok l.sz = true := fun q hq => by
                  rcases List.mem_append.1 hq with hq | hq
                  · exact hokx q hq
                  · exact hoky q hq
                have hext : ∀ l' : Loc, l'.gen = g + 1 → MExt μ (μ.set id l') := by
                  intro l' hgl'
                  refine ⟨by simp, fun j lj hj => ?_⟩
                  by_cases ej : j = id
                  · subst ej
                    rw [hl'] at hj; simp only [Option.some.injEq] at hj; subst hj
                    exact ⟨l', by simp [(List.getElem?_eq_some_iff.1 hl').1], by omega, fun e => by omega⟩
                  · exact ⟨lj, by simp [Ne.symm ej, hj], Nat.le_refl _, fun _ => rfl⟩
                have hmid : id < μ.length := (List.getElem?_eq_some_iff.1 hl').1
                by_cases hroom' : len + n ≤ cap
                · have hadr' := hadr (by omega)
                  subst hadr'
                  have hmul : (len + n) * l.sz ≤ cap * l.sz := Nat.mul_le_mul_right _ hroom'
                  rw [Nat.add_mul] at hmul
                  have hrun := append_room (P := P) (w := w) t u ty e i e' ht hu hi l.b (l.o + off * l.sz) len cap cc ct hcc b n c news (by rw [hl, hyl]) hnews hone hroom' (by rw [← hsz]; omega)
                  rw [← hsz] at hrun
                  refine ⟨_, _, μ.set id ⟨l.b, l.o + off * l.sz, l.sz, cap, g + 1⟩, hrun, ?_, hext _ rfl, .sl (l := ⟨l.b, l.o + off * l.sz, l.sz, cap, g + 1⟩) (by simp [hmid]) (Nat.le_refl _) (by omega) (fun _ => ⟨fun _ => by simp, by simp⟩)⟩
                  refine hw.change (k := id) (B := .arr (g + 1) i.size ((rows.drop off).take len ++ ys)) (l := ⟨l.b, l.o + off * l.sz, l.sz, cap, g + 1⟩) (fun j hj b hb => by simpa [Ne.symm hj] using hb) (fun j hj l' hl' => by simpa [Ne.symm hj] using hl') (by simp [hidl]) (by simp [hmid]) (by simp [hw.len]) (hext _ rfl)
                    ⟨rfl, rfl, rfl, by simp, fun k hk => setRow_other w l.b k _ (by omega)⟩ (fun b hb hne => setRow_other w l.b b _ hne) hlive.2.2 rfl ⟨hlive.1, by simpa using hlive.2.1⟩ ?_ (fun j B' l' hj h1 h2 h3 => hw.apart j id B' _ l' l hj h1 hB h2 hl' h3 rfl)
                  refine .arr hsz ⟨hposs, hokxy, by simp; omega, _, ct, setRow_heap w l.b cc _ ct _ hcc, by simp; omega, fun k q j x e1 e2 => ?_⟩
                  simp only
                  rw [splice_toArray_get (by omega)]
                  rw [List.getElem?_append] at e1
                  have hj := (List.getElem?_eq_some_iff.1 e2).1
                  split at e1
                  · rename_i hk
                    obtain ⟨e3, hkl⟩ := hget k q e1
                    rw [rowok_len (hA.ok q (List.mem_of_getElem? e3))] at hj
                    have a1 := mul_lt_of hkl hj
                    rw [if_neg (by omega)]
                    obtain ⟨v, e4, hv⟩ := hcv (off + k) q j x e3 e2
                    refine ⟨v, ?_, hv.mono (FExt.refl φ) (hext _ rfl)⟩
                    rw [← e4]; congr 1; rw [Nat.add_mul]; omega
                  · rename_i hk
                    rw [hxl] at hk e1
                    have hkl := (List.getElem?_eq_some_iff.1 e1).1
                    rw [rowok_len (hoky q (List.mem_of_getElem? e1))] at hj
                    have a1 : len * l.sz ≤ k * l.sz := Nat.mul_le_mul_right _ (by omega)
                    have a2 := mul_lt_of (n := len + n) (sz := l.sz) (j := j) (i := k) (by omega) hj
                    rw [Nat.add_mul] at a2
                    rw [if_pos (by omega)]
                    have e3 : l.o + off * l.sz + k * l.sz + j - (l.o + off * l.sz + len * l.sz) = (k - len) * l.sz + j := by rw [Nat.sub_mul]; omega
                    rw [e3, hsz]
                    obtain ⟨v, e4, hv⟩ := hrel _ q j x e1 e2
                    exact ⟨v, e4, hv.mono (FExt.refl φ) (hext _ rfl)⟩
                · have holdrows : RowsAt φ μ w l.sz ad' ((rows.drop off).take len) := by
                    intro k q j x e1 e2
                    obtain ⟨e3, hkl⟩ := hget k q e1
                    have hadr' := hadr (by omega)
                    subst hadr'
                    obtain ⟨v, e4, hv⟩ := hcv (off + k) q j x e3 e2
                    refine ⟨v, ?_, hv⟩
                    rw [addr_add]
                    simp only [World.cell?, hcc, Option.isSome_none, Bool.false_eq_true, if_false]
                    rw [← e4]; congr 1; rw [Nat.add_mul]; omega
                  obtain ⟨olds, ho1, ho2, ho3, ho4⟩ := holdrows.cells hposs hokx
                  rw [hxl] at ho1
                  have hrun := append_grow (P := P) (w := w) t u ty e i z e' ht hu hi hz (some ad') len cap olds (by rw [ho1, hsz]) (.inr ⟨ad', rfl, ho2⟩) b n c news (by rw [hl, hyl]) hnews (by omega) (by omega) (growslice_fits (by omega) hroom)
                  have hge := grownCap_ge' w (len + n) cap e
                  have hwd : WR CR W φ μ H w.drew := hw.world ⟨rfl, rfl, rfl, Nat.le_refl _, fun _ _ => rfl⟩ rfl
                  have hW := hw.below.size
                  refine ⟨_, _, μ.set id ⟨w.heap.size, 0, l.sz, grownCap w (len + n) cap e, g + 1⟩, hrun, ?_, hext _ rfl, .sl (l := ⟨w.heap.size, 0, l.sz, grownCap w (len + n) cap e, g + 1⟩) (by simp [hmid]) (Nat.le_refl _) (by omega) (fun _ => ⟨fun _ => by simp, by simp⟩)⟩
                  refine hwd.change (k := id) (B := .arr (g + 1) i.size ((rows.drop off).take len ++ ys)) (l := ⟨w.heap.size, 0, l.sz, grownCap w (len + n) cap e, g + 1⟩) (fun j hj b hb => by simpa [Ne.symm hj] using hb) (fun j hj l' hl' => by simpa [Ne.symm hj] using hl') (by simp [hidl]) (by simp [hmid]) (by simp [hw.len]) (hext _ rfl)
                    ((Below.refl _ _).alloc (by simpa using hW) _) (fun b hb hne => Below.heap_alloc _ _ _ hb) hwd.fresh rfl ⟨by simpa using hW, by simp⟩ ?_ (fun j B' l' hj h1 h2 h3 => by have := (hw.own j B' l' h1 h2 h3).2.1; simp only; omega)
                  refine .arr hsz ⟨hposs, hokxy, by simp; omega, _, e, heap_alloc_new w.drew _, ?_, fun k q j x e1 e2 => ?_⟩
                  · simp only [Array.size_append, List.size_toArray, size_zeroCells, hzs, ho1, hnsz, ← hsz]
                    have := Nat.mul_le_mul_right l.sz (show grownCap w (len + n) cap e ≤ len + n + (grownCap w (len + n) cap e - (len + n)) by omega)
                    rw [Nat.add_mul, Nat.add_mul] at this
                    omega
                  · obtain ⟨v, e4, hv⟩ := appended_row (φ := φ) (μ := μ) (rest := Builtin.zeroCells z.cells (grownCap w (len + n) cap e - (len + n))) hposs hxl ho1 (by rw [hnsz, hyl]) hokx hoky ho4 (by rw [hsz]; exact hrel) k q j x e1 e2
                    exact ⟨v, by simpa using e4, hv.mono (FExt.refl φ) (hext _ rfl)⟩
          · simp at hf
        · simp at hf
      · simp [runAct] at h
    · simp [runAct] at h

end Go.Abs

/- Abs 13: append as a call; maps. -/
set_option linter.unusedSimpArgs false
set_option linter.unusedVariables false
namespace Go.Abs
open Go.RowKit

variable {CR : CRel} {P : Program} {W : BaseW} {w : World} {φ : Frz} {μ : List Loc} {H H' : Heap} {look : Nat → AV} {a : Act} {call : CallF} {slot : Option Nat} {r : AV} {o : Oper} {ao : AOp}

theorem sim_append {c : Call} {x y : Operand} {t u e e' : TypeId} {i : TypeInfo} (ho : o.op = .call c) (hcal : c.callee = .builtin .append) (hargs : c.args.toList = [x, y]) (hts : c.argTypes.toList = [t, u])
    (ht : P.underlying t = some (.slice e)) (hu : P.underlying u = some (.slice e')) (hi : P.info? e = some i) (h1 : 1 ≤ i.size) (hby : 1 ≤ i.bytes) {z : Value} (hz : i.zero = some z) (hzs : z.cells.size = i.size)
    {x' y' : AOperand} (hx : convOperand x = some x') (hy : convOperand y = some y') (he : EnvR φ μ look a) (hw : WR CR W φ μ H w)
    (h : runAct call slot H (actOf (evalWith look) (.append i.size i.bytes x' y')) = some (r, H')) : SimR CR P W φ μ o a.eval w r H' := by
  have e1 : c.args = #[x, y] := by apply Array.ext'; simpa using hargs
  have e2 : c.argTypes = #[t, u] := by apply Array.ext'; simpa using hts
  have hvx := conv_operand he hx
  have hvy := conv_operand he hy
  have fin : (∃ v w' μ', (Builtin.append_ #[t, u] o.type #[a.eval x, a.eval y]).run P w = .ok v w' ∧ WR CR W φ μ' H' w' ∧ MExt μ μ' ∧ VR φ μ' r v) → SimR CR P W φ μ o a.eval w r H' := by
    rintro ⟨v, w', μ', hr, hw', hm, hv⟩
    refine ⟨v, w', μ', .inl ?_, hw', hm, hv⟩
    simp only [execOp, ho, resolve, hcal, e1, e2, Sem.run_bind, Sem.run_pure, Result.andThen_ok, invoke, builtin]
    simp [hr]
  apply fin
  simp only [actOf] at h
  generalize hq : evalWith look y' = q at h hvy
  generalize huy : a.eval y = uy at hvy ⊢
  unfold appendA at h
  split at h
  · cases hvy
    exact sim_appendTo ht hu hi hz h1 hby hzs hvx (fun ys hys hall => ⟨by simp at hys; subst hys; rfl, none, 0, rfl, fun h => absurd rfl h⟩) (fun _ => ⟨none, 0, rfl⟩) hw h
  · rename_i rows
    cases hvy with
    | fslNil => exact sim_appendTo ht hu hi hz h1 hby hzs hvx (fun ys hys hall => ⟨by simp at hys; subst hys; rfl, _, 0, rfl, fun h => absurd rfl h⟩) (fun _ => ⟨_, 0, rfl⟩) hw h
    | fsl vs hn hr hc hvv hcap =>
      rename_i sz b q n cap
      subst hn
      refine sim_appendTo ht hu hi hz h1 hby hzs hvx (fun ys hys hall => ?_) (fun h0 => ⟨some ⟨b, q, none⟩, cap, by rw [h0]⟩) hw h
      simp at hys; subst hys
      refine ⟨rfl, some ⟨b, q, none⟩, cap, rfl, fun hne => ⟨_, rfl, fun k row j x e1 e2 => ?_⟩⟩
      have hs : sz = i.size := by
        have hm := List.mem_of_getElem? e1
        rw [← rowok_len (hr row hm), rowok_len (List.all_eq_true.1 hall row hm)]
      subst hs
      refine ⟨vs k j, ?_, hvv k row j x e1 e2⟩
      rw [addr_add]
      have := cell_of_fcell hw.frz (hc k row j x e1 e2)
      rw [← this]; congr 2; omega
  · rename_i id gen off len
    cases hvy with
    | sl hl hg hlc ha =>
      rename_i cap l ad
      refine sim_appendTo ht hu hi hz h1 hby hzs hvx (fun ys hys hall => ?_) (fun h0 => ⟨some ad, cap, by rw [h0]⟩) hw h
      rw [blks_one] at hys
      simp only at hys
      unfold slRows at hys
      split at hys
      · rename_i g s rows hB
        have hB := getD_arr hB
        split at hys
        · rename_i hc
          obtain ⟨rfl, hle⟩ := hc
          simp only [Option.some.injEq] at hys; subst hys
          refine ⟨by simp; omega, some ad, cap, rfl, fun hne => ⟨ad, rfl, fun k row j x e1 e2 => ?_⟩⟩
          have hgl : g = l.gen := hw.gen id _ l hB hl
          obtain ⟨had, hcap⟩ := ha hgl.symm
          have had := had (by omega)
          subst had
          rw [List.getElem?_take] at e1
          split at e1
          · rw [List.getElem?_drop] at e1
            have hA := hw.arr hB hl
            have hm := List.mem_of_getElem? e1
            have hs : l.sz = i.size := by
              have hm' : row ∈ List.take len (List.drop off rows) := by
                rw [List.mem_iff_getElem?]
                exact ⟨k, by rw [List.getElem?_take]; simp [*]⟩
              rw [← rowok_len (hA.ok row hm), rowok_len (List.all_eq_true.1 hall row hm')]
            obtain ⟨v, e3, hv⟩ := hw.row hB hl e1 j x e2
            refine ⟨v, ?_, hv⟩
            rw [addr_add, ← e3, ← hs]; congr 2; rw [Nat.add_mul]; omega
          · simp at e1
        · simp at hys
      · simp at hys
  · simp [runAct] at h

end Go.Abs

/- Abs 14: maps. -/
set_option linter.unusedSimpArgs false
set_option linter.unusedVariables false
namespace Go.Abs
open Go.RowKit

variable {CR : CRel} {P : Program} {W : BaseW} {w : World} {φ : Frz} {μ : List Loc} {H H' : Heap} {look : Nat → AV} {a : Act} {call : CallF} {slot : Option Nat} {r : AV} {o : Oper} {ao : AOp}

/-! ### Keys -/
mutual
theorem checkKey_run (em : Bool) : ∀ (d e : Nat) {t : TypeId} {ks : List CK} {x : AV} {u : Value}, kindsOf P d t = some ks → (x.isAgg = (P.underlying t).any TypeDesc.isAgg) →
    cellsEq ks x.cells x.cells = some true → VR φ μ x u → (Instr.checkKey em (e + d) t u).run P w = .ok () w
  | 0, _, t, ks, x, u, hk, _, _, _ => by simp [kindsOf] at hk
  | d + 1, e, t, ks, x, u, hk, gx, hc, hx => by
    rw [show e + (d + 1) = (e + d) + 1 from rfl]
    unfold kindsOf at hk
    split at hk
    · rename_i hu hi; simp [Instr.checkKey, run_underlying hu]
    · rename_i hu hi; simp [Instr.checkKey, run_underlying hu]
    · rename_i hu hi; simp [Instr.checkKey, run_underlying hu]
    · rename_i fs i hu hi
      split at hk
      · split at hk
        · rename_i ks' hf
          split at hk
          · simp at hk; subst hk
            cases hx <;> simp [AV.isAgg, hu, TypeDesc.isAgg] at gx
            rename_i xs us lx hx
            simp only [AV.cells] at hc
            have hl := cellsEq_length hc
            rw [Instr.checkKey]
            simp only [Sem.run_bind, run_underlying hu, Result.andThen_ok]
            rw [← Array.forIn_toList]
            exact (congrArg (fun r => Result.andThen r fun _ w' => Sem.run P (pure ()) w') (checkFields_run em d e (n := 0) hf (by simpa using hc) (by simpa using hl.1) ⟨lx, hx⟩)).trans rfl
          · simp at hk
        · simp at hk
      · simp at hk
    · simp at hk
theorem checkFields_run (em : Bool) : ∀ (d e : Nat) {fs : List Field} {n : Nat} {ks : List CK} {xs : List AV} {us : List Value}, kindsFields P d fs n = some ks →
    cellsEq ks (xs.drop n) (xs.drop n) = some true → xs.length = n + ks.length → VRs φ μ xs us →
    (forIn fs PUnit.unit fun f (_ : PUnit) => if f.name ≠ "_" then do Instr.checkKey em (e + d) f.type (← Go.part f.type us.toArray f.offset); pure (ForInStep.yield PUnit.unit) else pure (ForInStep.yield PUnit.unit) : Sem PUnit).run P w = .ok PUnit.unit w
  | 0, _, fs, n, ks, xs, us, hk, _, _, _ => by simp [kindsFields] at hk
  | d + 1, e, [], n, ks, xs, us, hk, hc, lx, _ => by simp
  | d + 1, e, f :: fs, n, ks, xs, us, hk, hc, lx, hx => by
    unfold kindsFields at hk
    split at hk
    · rename_i ho
      obtain ⟨ho, hn⟩ := ho
      subst ho
      split at hk
      · rename_i k1 k2 h1 h2
        simp only [h1, Option.getD_some] at h2
        simp at hk; subst hk
        obtain ⟨c, c', e1, e2, ecc⟩ := cellsEq_append hc
        have hcc : c = true ∧ c' = true := by cases c <;> cases c' <;> simp at ecc <;> simp
        obtain ⟨rfl, rfl⟩ := hcc
        simp at lx
        obtain ⟨ax, u, pu, vu, gu, cu⟩ := part_kinds (w := w) h1 (cs := xs) (off := f.offset) (by omega) hx e1
        have hck := checkKey_run em d (e + 1) h1 gu (by rw [cu]; exact e1) vu
        have hr := checkFields_run em (d + 1) e (n := f.offset + k1.length) h2 (by simpa [List.drop_drop, Nat.add_comm] using e2) (by omega) hx
        rw [show e + 1 + d = e + (d + 1) by omega] at hck
        simp only [List.forIn_cons, Sem.run_bind, if_pos hn, pu, Result.andThen_ok, hck, Sem.run_pure]
        exact hr
      · simp at hk
    · simp at hk
end

theorem toList_inj {a b : ByteArray} (h : a.toList = b.toList) : a = b := by
  rw [ByteArray.toList_eq, ByteArray.toList_eq] at h
  obtain ⟨⟨x⟩⟩ := a
  obtain ⟨⟨y⟩⟩ := b
  simp at h; subst h; rfl

theorem cellEq_true {k : CK} {x y : AV} {u v : Value} (h : cellEq k x y = some true) (hx : VR φ μ x u) (hy : VR φ μ y v) : u = v ∧ ∀ n, Instr.sameBits n u v = true := by
  cases k <;> cases x <;> (try (simp [cellEq] at h; done)) <;> cases y <;> (try (simp [cellEq] at h; done)) <;> cases hx <;> cases hy <;> simp [cellEq] at h
  · subst h; exact ⟨rfl, fun n => by simp [Instr.sameBits]⟩
  · obtain ⟨rfl, rfl⟩ := h; exact ⟨rfl, fun n => by simp [Instr.sameBits]⟩
  · rename_i a b
    have : a = b := toList_inj (by simpa using h)
    subst this
    exact ⟨rfl, fun n => by simp [Instr.sameBits, beq_toListBytes]⟩

theorem cellsEq_true : ∀ {ks : List CK} {xs ys : List AV} {us vs : List Value}, cellsEq ks xs ys = some true → VRs φ μ xs us → VRs φ μ ys vs →
    us = vs ∧ ∀ n, (us.zip vs).all (fun (p : Value × Value) => Instr.sameBits n p.1 p.2) = true
  | [], [], [], us, vs, _, hx, hy => by
    have h1 : us = [] := List.eq_nil_of_length_eq_zero (by simpa using hx.1.symm)
    have h2 : vs = [] := List.eq_nil_of_length_eq_zero (by simpa using hy.1.symm)
    subst h1; subst h2; simp
  | k :: ks, x :: xs, y :: ys, us, vs, h, hx, hy => by
    simp only [cellsEq] at h
    split at h
    · rename_i p q h1 h2
      simp at h
      obtain ⟨rfl, rfl⟩ := h
      cases us with
      | nil => simp [VRs] at hx
      | cons u us =>
        cases vs with
        | nil => simp [VRs] at hy
        | cons v vs =>
          have hxx : VR φ μ x u := hx.2 0 x u rfl rfl
          have hyy : VR φ μ y v := hy.2 0 y v rfl rfl
          obtain ⟨rfl, hb⟩ := cellEq_true h1 hxx hyy
          obtain ⟨rfl, hbs⟩ := cellsEq_true h2 ⟨by simpa using hx.1, fun i a b h1 h2 => hx.2 (i + 1) a b (by simpa using h1) (by simpa using h2)⟩ ⟨by simpa using hy.1, fun i a b h1 h2 => hy.2 (i + 1) a b (by simpa using h1) (by simpa using h2)⟩
          exact ⟨rfl, fun n => by simp [hb n]; simpa using hbs n⟩
    · simp at h
  | [], [], _ :: _, _, _, h, _, _ => by simp [cellsEq] at h
  | [], _ :: _, _, _, _, h, _, _ => by simp [cellsEq] at h
  | _ :: _, [], _, _, _, h, _, _ => by simp [cellsEq] at h
  | _ :: _, _ :: _, [], _, _, h, _, _ => by simp [cellsEq] at h

theorem keyEq_true {g : Bool} {ks : List CK} {x y : AV} {u v : Value} (h : keyEq g ks x y = some true) (hg : x.isAgg = g) (hx : VR φ μ x u) (hy : VR φ μ y v) : u = v ∧ Instr.sameBits 10000 u v = true := by
  unfold keyEq at h
  split at h
  · rename_i hy'
    simp only [beq_iff_eq] at hy'
    cases g with
    | true =>
      cases x <;> simp [AV.isAgg] at hg
      cases y <;> simp [AV.isAgg] at hy'
      cases hx with | agg l1 h1 =>
      cases hy with | agg l2 h2 =>
      obtain ⟨rfl, hb⟩ := cellsEq_true h ⟨l1, h1⟩ ⟨l2, h2⟩
      refine ⟨rfl, ?_⟩
      show (_ && _) = true
      simp only [List.size_toArray, beq_self_eq_true, Bool.true_and, List.toList_toArray]
      exact hb 9999
    | false =>
      have ex : x.cells = [x] := by cases x <;> first | rfl | (simp [AV.isAgg] at hg)
      have ey : y.cells = [y] := by cases y <;> first | rfl | (simp [AV.isAgg] at hy')
      rw [ex, ey] at h
      cases ks with
      | nil => simp [cellsEq] at h
      | cons k ks =>
        simp only [cellsEq] at h
        split at h
        · rename_i p q h1 h2
          simp at h
          obtain ⟨rfl, rfl⟩ := h
          obtain ⟨e, hb⟩ := cellEq_true h1 hx hy
          exact ⟨e, hb _⟩
        · simp at h
  · simp at h

theorem keyType_spec {t : TypeId} {g : Bool} {ks : List CK} (h : keyType P t = some (g, ks)) : kindsOf P 12 t = some ks ∧ ∃ d, P.underlying t = some d ∧ g = TypeDesc.isAgg d := by
  unfold keyType at h
  simp only [kindsS_eq] at h
  split at h
  · rename_i d ks' hd hk
    simp at h
    obtain ⟨rfl, rfl⟩ := h
    exact ⟨hk, d, hd, rfl⟩
  · simp at h

theorem keyOk_spec {g : Bool} {ks : List CK} {k : AV} (h : keyOk g ks k = true) : k.isAgg = g ∧ cellsEq ks k.cells k.cells = some true := by
  simpa [keyOk] using h

theorem run_checkKey' {t : TypeId} {g : Bool} {ks : List CK} (ht : keyType P t = some (g, ks)) {k : AV} {u : Value} (hk : keyOk g ks k = true) (hv : VR φ μ k u) (em : Bool) : (Instr.checkKey em 10000 t u).run P w = .ok () w := by
  obtain ⟨h1, d, hd, rfl⟩ := keyType_spec ht
  obtain ⟨h2, h3⟩ := keyOk_spec hk
  exact checkKey_run em 12 9988 h1 (by rw [h2, hd]; rfl) h3 hv

/-- What the search found, here and there. -/
def FoundR (φ : Frz) (μ : List Loc) (u : Value) (n : Nat) (es : List MEnt) (fs : List MapEntry) : Option (Nat × MEnt) → Option (Nat × Value) → Prop
  | none, none => True
  | some (i, e), some (j, v) => i = j ∧ n ≤ i ∧ ∃ f, es[i - n]? = some e ∧ fs[i - n]? = some f ∧ v = f.val ∧ EntR φ μ e f ∧ u = f.key ∧ Instr.sameBits 10000 f.key u = true
  | _, _ => False

/-- The machine's search in its own words. -/
theorem findKey_run {t : TypeId} {g : Bool} {ks : List CK} (ht : keyType P t = some (g, ks)) {k : AV} {u : Value} (hk : keyOk g ks k = true) (hv : VR φ μ k u) {es : List MEnt} {fs : List MapEntry} (hes : EntsR φ μ es fs) {res : Option (Nat × MEnt)}
    (h : findE g ks k es 0 = some res) : ∃ res' : Option (Nat × Value), (Instr.findKey t u fs).run P w = .ok res' w ∧
      FoundR φ μ u 0 es fs res res' := by
  obtain ⟨hks, d, hd, rfl⟩ := keyType_spec ht
  obtain ⟨hg, hself⟩ := keyOk_spec hk
  have eqr : ∀ (e : MEnt) (f : MapEntry) (b : Bool), EntR φ μ e f → keyEq (TypeDesc.isAgg d) ks k e.key = some b → (Op.equal t u f.key).run P w = .ok b w := by
    intro e f b hef hb
    unfold keyEq at hb
    split at hb
    · rename_i hga
      simp only [beq_iff_eq] at hga
      exact equalIn_run (P := P) (w := w) 12 9988 hks (by rw [hg, hd]; rfl) (by rw [hga, hd]; rfl) hb hv hef.key
    · simp at hb
  -- the search that asks
  have asking : ∀ (es : List MEnt) (fs : List MapEntry) (n : Nat) (res : Option (Nat × MEnt)), EntsR φ μ es fs → findE (TypeDesc.isAgg d) ks k es n = some res →
      ∃ res' : Option (Nat × Value), (Instr.findAsking t u fs n).run P w = .ok res' w ∧
      FoundR φ μ u n es fs res res' := by
    intro es
    induction es with
    | nil =>
      intro fs n res hes h
      have : fs = [] := List.eq_nil_of_length_eq_zero (by simpa using hes.1.symm)
      subst this
      simp [findE] at h; subst h
      exact ⟨none, by simp [Instr.findAsking], trivial⟩
    | cons e es ih =>
      intro fs n res hes h
      cases fs with
      | nil => simp [EntsR] at hes
      | cons f fs =>
        have hef : EntR φ μ e f := hes.2 0 e f rfl rfl
        have hes' : EntsR φ μ es fs := ⟨by simpa using hes.1, fun i a b h1 h2 => hes.2 (i + 1) a b (by simpa using h1) (by simpa using h2)⟩
        simp only [findE] at h
        split at h
        · rename_i hkq
          simp at h; subst h
          obtain ⟨eu, hb⟩ := keyEq_true hkq hg hv hef.key
          refine ⟨some (n, f.val), by simp [Instr.findAsking, eqr e f true hef hkq], rfl, Nat.le_refl _, f, by simp, by simp, rfl, hef, eu, ?_⟩
          rw [eu] at hb; rw [eu]; exact hb
        · rename_i hkq
          obtain ⟨res', h1, h2⟩ := ih fs (n + 1) res hes' h
          refine ⟨res', by simp [Instr.findAsking, eqr e f false hef hkq, h1], ?_⟩
          cases res with
          | none => cases res' with
            | none => trivial
            | some _ => exact h2.elim
          | some p => cases res' with
            | none => exact h2.elim
            | some q =>
              obtain ⟨i, e'⟩ := p
              obtain ⟨j, v⟩ := q
              obtain ⟨rfl, hle, f', g1, g2, g3⟩ := h2
              refine ⟨rfl, by omega, f', ?_, ?_, g3⟩
              · have : i - n = (i - (n + 1)) + 1 := by omega
                rw [this]; simpa using g1
              · have : i - n = (i - (n + 1)) + 1 := by omega
                rw [this]; simpa using g2
        · simp at h
  -- the search of a plain key's type
  have now : TypeDesc.isAgg d = false → ∀ (es : List MEnt) (fs : List MapEntry) (n : Nat) (res : Option (Nat × MEnt)), EntsR φ μ es fs → findE (TypeDesc.isAgg d) ks k es n = some res →
      ∃ res' : Option (Nat × Value), Instr.findNow d u fs n = some res' ∧
      FoundR φ μ u n es fs res res' := by
    intro hda es
    have same : ∀ (e : MEnt) (f : MapEntry) (b : Bool), EntR φ μ e f → keyEq (TypeDesc.isAgg d) ks k e.key = some b → Instr.sameNow d u f.key = some b := by
      intro e f b hef hb
      unfold keyEq at hb
      split at hb
      · rename_i hga
        simp only [beq_iff_eq, hda] at hga
        rw [hda] at hg
        have ex : k.cells = [k] := by cases k <;> first | rfl | (simp [AV.isAgg] at hg)
        have ey : e.key.cells = [e.key] := by generalize e.key = y at hga; cases y <;> first | rfl | (simp [AV.isAgg] at hga)
        rw [ex, ey] at hb
        have hk1 : (d = .bool ∧ ks = [.bool]) ∨ ((∃ j, d = .int j) ∧ ks = [.int]) ∨ (d = .string ∧ ks = [.str]) := by
          unfold kindsOf at hks
          split at hks
          · rename_i hu _; rw [hd] at hu; simp only [Option.some.injEq] at hu; subst hu; split at hks <;> simp at hks; exact .inl ⟨rfl, hks.symm⟩
          · rename_i hu _; rw [hd] at hu; simp only [Option.some.injEq] at hu; subst hu; split at hks <;> simp at hks; exact .inr (.inl ⟨⟨_, rfl⟩, hks.symm⟩)
          · rename_i hu _; rw [hd] at hu; simp only [Option.some.injEq] at hu; subst hu; split at hks <;> simp at hks; exact .inr (.inr ⟨rfl, hks.symm⟩)
          · rename_i hu _; rw [hd] at hu; simp only [Option.some.injEq] at hu; subst hu; simp [TypeDesc.isAgg] at hda
          · simp at hks
        have hkey := hef.key
        generalize e.key = y at hb hkey
        generalize f.key = v at hkey
        have one : ∀ ck, ks = [ck] → cellEq ck k y = some b := by
          intro ck hck
          subst hck
          simp only [cellsEq] at hb
          split at hb
          · rename_i h1 h2; simp at h2 hb; rw [h1]; simp [← hb, ← h2]
          · simp at hb
        rcases hk1 with ⟨rfl, hkk⟩ | ⟨⟨j, rfl⟩, hkk⟩ | ⟨rfl, hkk⟩
        · have := one _ hkk
          cases k <;> (try (simp [cellEq] at this; done)) <;> cases y <;> (try (simp [cellEq] at this; done)) <;> cases hv <;> cases hkey
          simpa [cellEq, Instr.sameNow] using this
        · have := one _ hkk
          cases k <;> (try (simp [cellEq] at this; done)) <;> cases y <;> (try (simp [cellEq] at this; done)) <;> cases hv <;> cases hkey
          simpa [cellEq, Instr.sameNow] using this
        · have := one _ hkk
          cases k <;> (try (simp [cellEq] at this; done)) <;> cases y <;> (try (simp [cellEq] at this; done)) <;> cases hv <;> cases hkey
          simpa [cellEq, Instr.sameNow, beq_toListBytes] using this
      · simp at hb
    induction es with
    | nil =>
      intro fs n res hes h
      have : fs = [] := List.eq_nil_of_length_eq_zero (by simpa using hes.1.symm)
      subst this
      simp [findE] at h; subst h
      exact ⟨none, by simp [Instr.findNow], trivial⟩
    | cons e es ih =>
      intro fs n res hes h
      cases fs with
      | nil => simp [EntsR] at hes
      | cons f fs =>
        have hef : EntR φ μ e f := hes.2 0 e f rfl rfl
        have hes' : EntsR φ μ es fs := ⟨by simpa using hes.1, fun i a b h1 h2 => hes.2 (i + 1) a b (by simpa using h1) (by simpa using h2)⟩
        simp only [findE] at h
        split at h
        · rename_i hkq
          simp at h; subst h
          obtain ⟨eu, hb⟩ := keyEq_true hkq hg hv hef.key
          refine ⟨some (n, f.val), by simp [Instr.findNow, same e f true hef hkq], rfl, Nat.le_refl _, f, by simp, by simp, rfl, hef, eu, ?_⟩
          rw [eu] at hb; rw [eu]; exact hb
        · rename_i hkq
          obtain ⟨res', h1, h2⟩ := ih fs (n + 1) res hes' h
          refine ⟨res', by simp [Instr.findNow, same e f false hef hkq, h1], ?_⟩
          cases res with
          | none => cases res' with
            | none => trivial
            | some _ => exact h2.elim
          | some p => cases res' with
            | none => exact h2.elim
            | some q =>
              obtain ⟨i, e'⟩ := p
              obtain ⟨j, v⟩ := q
              obtain ⟨rfl, hle, f', g1, g2, g3⟩ := h2
              refine ⟨rfl, by omega, f', ?_, ?_, g3⟩
              · have : i - n = (i - (n + 1)) + 1 := by omega
                rw [this]; simpa using g1
              · have : i - n = (i - (n + 1)) + 1 := by omega
                rw [this]; simpa using g2
        · simp at h
  rcases Bool.eq_false_or_eq_true (TypeDesc.isAgg d) with hda | hda
  · obtain ⟨res', h1, h2⟩ := asking es fs 0 res hes h
    refine ⟨res', ?_, h2⟩
    rw [run_findKey_eq w (by rw [hd]; cases d <;> simp [TypeDesc.isAgg] at hda <;> rfl)]
    exact h1
  · obtain ⟨res', h1, h2⟩ := now hda es fs 0 res hes h
    refine ⟨res', ?_, h2⟩
    simp [Instr.findKey, run_underlying hd, h1]

end Go.Abs

/- Abs 15: operations on maps; every operation. -/
set_option linter.unusedSimpArgs false
set_option linter.unusedVariables false
namespace Go.Abs
open Go.RowKit

variable {CR : CRel} {P : Program} {W : BaseW} {w : World} {φ : Frz} {μ : List Loc} {H H' : Heap} {look : Nat → AV} {a : Act} {call : CallF} {slot : Option Nat} {r : AV} {o : Oper} {ao : AOp}

/-- A map that a value leads to. -/
theorem WR.mapAt (hw : WR CR W φ μ H w) {id gen c : Nat} {es : List MEnt} (hB : H[id]? = some (.map gen es c)) {u : Value} (hu : VR φ μ (.map id gen) u) :
    ∃ l fs, u = .map (some l.b) ∧ μ[id]? = some l ∧ w.heap[l.b]? = some (.map fs c) ∧ EntsR φ μ es fs.toList := by
  cases hu with
  | map hl hg ha =>
    rename_i r l
    have hgl : gen = l.gen := hw.gen id _ l hB hl
    have := ha hgl.symm
    subst this
    cases hw.blk id _ l hB hl with
    | map hm he => exact ⟨l, _, rfl, hl, hm, he⟩

/-- A map turns. -/
theorem WR.setMap (hw : WR CR W φ μ H w) {id gen c c' : Nat} {es es' : List MEnt} {l : Loc} (hB : H[id]? = some (.map gen es c)) (hl : μ[id]? = some l) {fs fs' : Array MapEntry} (hm : w.heap[l.b]? = some (.map fs c)) (he : EntsR φ μ es' fs'.toList) :
    WR CR W φ μ (H.set id (.map gen es' c')) { w with heap := w.heap.setIfInBounds l.b (.map fs' c') } := by
  have hown := hw.own id _ l hB hl rfl
  have hidl := (List.getElem?_eq_some_iff.1 hB).1
  refine hw.change (k := id) (B := .map gen es' c') (l := l) (fun j hj b hb => by simpa [Ne.symm hj] using hb) (fun j hj l' hl' => hl') (by simp [hidl]) hl (by simp [hw.len]) (MExt.refl μ)
    ⟨rfl, rfl, rfl, by simp, fun k hk => ?_⟩ (fun b hb hne => ?_) hown.2.2 (hw.gen id (.map gen es c) l hB hl) ⟨hown.1, by simpa using hown.2.1⟩ (.map (fs := fs') (by simp [hown.2.1]) he) (fun j B' l' hj h1 h2 h3 => hw.apart j id B' _ l' l hj h1 hB h2 hl h3 rfl)
  · have : l.b ≠ k := by omega
    simp [this]
  · simp [Ne.symm hne]

theorem run_setObj_map {b : Nat} {fs : Array MapEntry} {c : Nat} {o : Obj} (h : w.heap[b]? = some (.map fs c)) : (setObj b o).run P w = .ok () { w with heap := w.heap.setIfInBounds b o } := by
  simp [setObj, Sem.run, h]
theorem run_getObj_map {b : Nat} {fs : Array MapEntry} {c : Nat} (h : w.heap[b]? = some (.map fs c)) : (getObj b).run P w = .ok (.map fs c) w := by
  simp [getObj, Sem.run, h]

theorem sim_lookup {t : TypeId} {m k : Operand} {ok : Bool} (ho : o.op = .lookup t m k ok) {kt e : TypeId} (ht : P.underlying t = some (.map kt e)) {g : Bool} {ks : List CK} (hk : keyType P kt = some (g, ks)) {z : AV} (hz : zeroOf P e = some z)
    {m' k' : AOperand} (hm' : convOperand m = some m') (hk' : convOperand k = some k') (he : EnvR φ μ look a) (hw : WR CR W φ μ H w)
    (h : runAct call slot H (actOf (evalWith look) (.lookup g ks z m' k' ok)) = some (r, H')) : SimR CR P W φ μ o a.eval w r H' := by
  simp only [actOf] at h
  have hvm := conv_operand he hm'
  have hvk := conv_operand he hk'
  obtain ⟨i, zv, hi, hzv, hzr, hzo, h1⟩ := zeroOf_spec hz
  have pairR : ∀ (x : AV) (v : Value) (b : Bool), VR φ μ x v → VR φ μ (if ok then .tuple [x, .bool b] else x) (if ok then .tuple #[v, .bool b] else v) := by
    intro x v b hv
    cases ok
    · exact hv
    · have := VRs.cons hv (VRs.cons (VR.bool (φ := φ) (μ := μ) b) VRs.nil)
      exact VR.tuple (vs := [v, .bool b]) this.1 this.2
  split at h
  · rename_i hko
    split at h
    · rename_i hmm
      obtain ⟨rfl, rfl⟩ := run_val h
      rw [hmm] at hvm
      generalize hu : a.eval m = u at hvm
      cases hvm
      refine simVal hw (v := if ok then .tuple #[zv, .bool false] else zv) ?_ (pairR z zv false (hzr φ μ))
      have hfind : (Instr.findKey kt (a.eval k) []).run P w = .ok none w := by
        obtain ⟨_, d, hd, _⟩ := keyType_spec hk
        simp [Instr.findKey, run_underlying hd, Instr.findNow]
      simp only [execOp, ho, Instr.lookup, Sem.run_bind, run_underlying ht, Result.andThen_ok, hu, Sem.run_pure, run_checkKey' hk hko hvk, hfind, run_zero hi hzv]
    · rename_i id gen hmm
      obtain ⟨hf, rfl⟩ := run_rd h
      rw [hmm] at hvm
      rw [blks_one] at hf
      split at hf
      · rename_i g' es c hB
        simp only [List.cons.injEq, and_true] at hB
        have hB := getD_map hB
        split at hf
        · rename_i eg; subst eg
          obtain ⟨l, fs, hu, hl, hmb, hes⟩ := hw.mapAt hB hvm
          unfold lookupR at hf
          split at hf
          · rename_i j e0 hfe
            simp only [Option.some.injEq] at hf; subst hf
            obtain ⟨res', hr, hfound⟩ := findKey_run (P := P) (w := w) hk hko hvk hes hfe
            cases res' with
            | none => exact hfound.elim
            | some q =>
              obtain ⟨j', v⟩ := q
              obtain ⟨rfl, _, f, _, _, rfl, hef, _, _⟩ := hfound
              refine simVal hw (v := if ok then .tuple #[f.val, .bool true] else f.val) ?_ (pairR _ _ true hef.val)
              simp only [execOp, ho, Instr.lookup, Sem.run_bind, run_underlying ht, Result.andThen_ok, hu, Sem.run_pure, run_getObj_map hmb, run_checkKey' hk hko hvk, hr]
          · rename_i hfe
            simp only [Option.some.injEq] at hf; subst hf
            obtain ⟨res', hr, hfound⟩ := findKey_run (P := P) (w := w) hk hko hvk hes hfe
            cases res' with
            | some q => exact hfound.elim
            | none =>
              refine simVal hw (v := if ok then .tuple #[zv, .bool false] else zv) ?_ (pairR z zv false (hzr φ μ))
              simp only [execOp, ho, Instr.lookup, Sem.run_bind, run_underlying ht, Result.andThen_ok, hu, Sem.run_pure, run_getObj_map hmb, run_checkKey' hk hko hvk, hr, run_zero hi hzv]
          · simp at hf
        · simp at hf
      · simp at hf
    · simp [runAct] at h
  · simp [runAct] at h

theorem entsR_set {es : List MEnt} {fs : Array MapEntry} (h : EntsR φ μ es fs.toList) {i : Nat} {e : MEnt} {f : MapEntry} (h1 : EntR φ μ e f) (k : MapEntry → MapEntry) (hf : ∀ g, fs[i]? = some g → k g = f) : EntsR φ μ (es.set i e) (fs.modify i k).toList := by
  have hlen := h.1
  simp only [Array.length_toList] at hlen
  refine ⟨by simp [hlen], fun j e' f' h2 h3 => ?_⟩
  have h3' : (fs.modify i k)[j]? = some f' := by rw [← Array.getElem?_toList]; exact h3
  rw [Array.getElem?_modify] at h3'
  rw [List.getElem?_set] at h2
  split at h2
  · rename_i hij
    subst hij
    split at h2
    · simp only [Option.some.injEq] at h2; subst h2
      simp only [if_true] at h3'
      cases hg : fs[i]? with
      | none => rw [hg] at h3'; simp at h3'
      | some g =>
        rw [hg] at h3'
        simp only [Option.map_some, Option.some.injEq] at h3'
        rw [hf g hg] at h3'; subst h3'; exact h1
    · simp at h2
  · rename_i hij
    rw [if_neg hij] at h3'
    exact h.2 j e' f' h2 (by simpa using h3')

theorem entsR_push {es : List MEnt} {fs : Array MapEntry} (h : EntsR φ μ es fs.toList) {e : MEnt} {f : MapEntry} (h1 : EntR φ μ e f) : EntsR φ μ (es ++ [e]) (fs.push f).toList := by
  have hlen := h.1
  refine ⟨by simpa using hlen, fun j e' f' h2 h3 => ?_⟩
  rw [Array.toList_push] at h3
  rw [List.getElem?_append] at h2 h3
  rw [← hlen] at h3
  split at h2
  · rename_i hj
    rw [if_pos hj] at h3
    exact h.2 j e' f' h2 h3
  · rename_i hj
    rw [if_neg hj] at h3
    have hlt := (List.getElem?_eq_some_iff.1 h2).1
    simp at hlt
    have : j - es.length = 0 := by omega
    rw [this] at h2 h3
    simp at h2 h3; subst h2; subst h3; exact h1

theorem sim_mapUpdate {t : TypeId} {m k v : Operand} (ho : o.op = .mapUpdate t m k v ∨ o.op = .insert t m k v) {kt e : TypeId} (ht : P.underlying t = some (.map kt e)) {g : Bool} {ks : List CK} (hk : keyType P kt = some (g, ks))
    {m' k' v' : AOperand} (hm' : convOperand m = some m') (hk' : convOperand k = some k') (hv' : convOperand v = some v') (he : EnvR φ μ look a) (hw : WR CR W φ μ H w)
    (h : runAct call slot H (actOf (evalWith look) (.mapUpdate g ks m' k' v')) = some (r, H')) : SimR CR P W φ μ o a.eval w r H' := by
  simp only [actOf] at h
  have hvm := conv_operand he hm'
  have hvk := conv_operand he hk'
  have hvv := conv_operand he hv'
  have fin : ∀ w', (Instr.mapUpdate t (a.eval m) (a.eval k) (a.eval v)).run P w = .ok () w' → (execOp a.eval o).run P w = .ok .skip w' := by
    intro w' hr
    rcases ho with ho | ho <;> simp [execOp, ho, hr]
  split at h
  · rename_i hko
    split at h
    · rename_i id gen hmm
      obtain ⟨b, hlt, hf, rfl⟩ := run_md h
      rw [hmm] at hvm
      rw [blks_one] at hf
      split at hf
      · rename_i g' es c hB
        simp only [List.cons.injEq, and_true] at hB
        have hB := getD_map hB
        split at hf
        · rename_i eg; subst eg
          obtain ⟨l, fs, hu, hl, hmb, hes⟩ := hw.mapAt hB hvm
          split at hf
          · rename_i j e0 hfe
            simp only [Option.some.injEq, Prod.mk.injEq] at hf
            obtain ⟨rfl, rfl⟩ := hf
            obtain ⟨res', hr, hfound⟩ := findKey_run (P := P) (w := w) hk hko hvk hes hfe
            cases res' with
            | none => exact hfound.elim
            | some q =>
              obtain ⟨j', v0⟩ := q
              obtain ⟨rfl, _, f, he1, hf1, rfl, hef, hkey, hsame⟩ := hfound
              have hfj : fs[j]? = some f := by simpa using hf1
              refine ⟨undef, _, μ, .inr ⟨rfl, fin _ ?_⟩, hw.setMap hB hl hmb (entsR_set hes (i := j) (e := { e0 with val := evalWith look v' }) (f := { f with key := a.eval k, val := a.eval v }) ⟨by rw [hkey]; exact hef.key, hvv, hef.born⟩ (fun e => { e with key := a.eval k, val := a.eval v }) (fun q hq => by rw [hfj] at hq; simp at hq; subst hq; rfl)), MExt.refl μ, .undef _⟩
              simp only [Instr.mapUpdate, Sem.run_bind, run_underlying ht, Result.andThen_ok, hu, run_getObj_map hmb, run_checkKey' hk hko hvk, hr, hfj, Option.map_some, Option.getD_some, Instr.keyThatStays, hsame, if_true, Sem.run_pure, run_setObj_map hmb]
          · rename_i hfe
            simp only [Option.some.injEq, Prod.mk.injEq] at hf
            obtain ⟨rfl, rfl⟩ := hf
            obtain ⟨res', hr, hfound⟩ := findKey_run (P := P) (w := w) hk hko hvk hes hfe
            cases res' with
            | some q => exact hfound.elim
            | none =>
              refine ⟨undef, _, μ, .inr ⟨rfl, fin _ ?_⟩, hw.setMap hB hl hmb (entsR_push hes (f := { key := a.eval k, val := a.eval v, born := c }) ⟨hvk, hvv, rfl⟩), MExt.refl μ, .undef _⟩
              simp only [Instr.mapUpdate, Sem.run_bind, run_underlying ht, Result.andThen_ok, hu, run_getObj_map hmb, run_checkKey' hk hko hvk, hr, run_setObj_map hmb]
          · simp at hf
        · simp at hf
      · simp at hf
    · simp [runAct] at h
  · simp [runAct] at h

theorem sim_mapEntry {t : TypeId} {m k : Operand} (ho : o.op = .mapEntry t m k) {kt e : TypeId} (ht : P.underlying t = some (.map kt e)) {g : Bool} {ks : List CK} (hk : keyType P kt = some (g, ks)) {z : AV} (hz : zeroOf P e = some z)
    {m' k' : AOperand} (hm' : convOperand m = some m') (hk' : convOperand k = some k') (he : EnvR φ μ look a) (hw : WR CR W φ μ H w)
    (h : runAct call slot H (actOf (evalWith look) (.mapEntry g ks z m' k')) = some (r, H')) : SimR CR P W φ μ o a.eval w r H' := by
  simp only [actOf] at h
  have hvm := conv_operand he hm'
  have hvk := conv_operand he hk'
  obtain ⟨i, zv, hi, hzv, hzr, hzo, h1⟩ := zeroOf_spec hz
  have pairR : ∀ (x : AV) (v : Value) (n : Nat), VR φ μ x v → VR φ μ (.tuple [x, .int .i64 n]) (.tuple #[v, goInt n]) := by
    intro x v b hv
    have := VRs.cons hv (VRs.cons (VR.int (φ := φ) (μ := μ) .i64 b) VRs.nil)
    exact VR.tuple (vs := [v, .int .i64 b]) this.1 this.2
  split at h
  · rename_i hko
    split at h
    · rename_i id gen hmm
      obtain ⟨b, hlt, hf, rfl⟩ := run_md h
      rw [hmm] at hvm
      rw [blks_one] at hf
      split at hf
      · rename_i g' es c hB
        simp only [List.cons.injEq, and_true] at hB
        have hB := getD_map hB
        split at hf
        · rename_i eg; subst eg
          obtain ⟨l, fs, hu, hl, hmb, hes⟩ := hw.mapAt hB hvm
          split at hf
          · rename_i j e0 hfe
            simp only [Option.some.injEq, Prod.mk.injEq] at hf
            obtain ⟨rfl, rfl⟩ := hf
            obtain ⟨res', hr, hfound⟩ := findKey_run (P := P) (w := w) hk hko hvk hes hfe
            cases res' with
            | none => exact hfound.elim
            | some q =>
              obtain ⟨j', v0⟩ := q
              obtain ⟨rfl, _, f, he1, hf1, rfl, hef, hkey, hsame⟩ := hfound
              have hfj : fs[j]? = some f := by simpa using hf1
              have hej : es[j]? = some e0 := by simpa using he1
              have hset : es.set j e0 = es := by
                apply List.ext_getElem?
                intro q
                rw [List.getElem?_set]
                split
                · rename_i hq; subst hq; split
                  · exact hej.symm
                  · rename_i hn; rw [List.getElem?_eq_none (by omega)]
                · rfl
              have hents := entsR_set hes (i := j) (e := e0) (f := { f with key := a.eval k }) ⟨by rw [hkey]; exact hef.key, hef.val, hef.born⟩ (fun e => { e with key := a.eval k }) (fun q hq => by rw [hfj] at hq; simp at hq; subst hq; rfl)
              rw [hset] at hents
              refine ⟨.tuple #[f.val, goInt f.born], _, μ, .inl ?_, hw.setMap hB hl hmb hents, MExt.refl μ, by rw [hef.born]; exact pairR _ _ _ hef.val⟩
              simp only [execOp, ho, Instr.mapEntry, Sem.run_bind, run_underlying ht, Result.andThen_ok, hu, run_getObj_map hmb, run_checkKey' hk hko hvk, hr, hfj, Option.map_some, Option.getD_some, Instr.keyThatStays, hsame, if_true, Sem.run_pure, run_setObj_map hmb]
          · rename_i hfe
            simp only [Option.some.injEq, Prod.mk.injEq] at hf
            obtain ⟨rfl, rfl⟩ := hf
            obtain ⟨res', hr, hfound⟩ := findKey_run (P := P) (w := w) hk hko hvk hes hfe
            cases res' with
            | some q => exact hfound.elim
            | none =>
              refine ⟨.tuple #[zv, goInt c], _, μ, .inl ?_, hw.setMap hB hl hmb (entsR_push hes (f := { key := a.eval k, val := zv, born := c }) ⟨hvk, hzr φ μ, rfl⟩), MExt.refl μ, pairR _ _ _ (hzr φ μ)⟩
              simp only [execOp, ho, Instr.mapEntry, Sem.run_bind, run_underlying ht, Result.andThen_ok, hu, run_getObj_map hmb, run_checkKey' hk hko hvk, hr, run_zero hi hzv, run_setObj_map hmb, Sem.run_pure]
          · simp at hf
        · simp at hf
      · simp at hf
    · simp [runAct] at h
  · simp [runAct] at h

theorem sim_entryStore {t : TypeId} {m s v : Operand} (ho : o.op = .entryStore t m s v) {m' s' v' : AOperand} (hm' : convOperand m = some m') (hs' : convOperand s = some s') (hv' : convOperand v = some v') (he : EnvR φ μ look a) (hw : WR CR W φ μ H w)
    (h : runAct call slot H (actOf (evalWith look) (.entryStore m' s' v')) = some (r, H')) : SimR CR P W φ μ o a.eval w r H' := by
  simp only [actOf] at h
  have hvm := conv_operand he hm'
  have hvs := conv_operand he hs'
  have hvv := conv_operand he hv'
  split at h
  · rename_i id gen kk b hmm hss
    obtain ⟨bb, hlt, hf, rfl⟩ := run_md h
    rw [hmm] at hvm; rw [hss] at hvs
    generalize hus : a.eval s = us at hvs
    cases hvs
    rw [blks_one] at hf
    split at hf
    · rename_i g' es c hB
      simp only [List.cons.injEq, and_true] at hB
      have hB := getD_map hB
      split at hf
      · rename_i eg; subst eg
        obtain ⟨l, fs, hu, hl, hmb, hes⟩ := hw.mapAt hB hvm
        split at hf
        · rename_i i hfi
          simp only [Option.some.injEq, Prod.mk.injEq] at hf
          obtain ⟨rfl, rfl⟩ := hf
          have hidx : ∀ (es : List MEnt) (fs : List MapEntry), EntsR φ μ es fs → es.findIdx? (fun e => (e.born : Int) == b) = fs.findIdx? (fun e => (e.born : Int) == b) := by
            intro es
            induction es with
            | nil =>
              intro fs h
              have : fs = [] := List.eq_nil_of_length_eq_zero (by simpa using h.1.symm)
              subst this; rfl
            | cons e es ih =>
              intro fs h
              cases fs with
              | nil => simp [EntsR] at h
              | cons f fs =>
                have := (h.2 0 e f rfl rfl).born
                rw [List.findIdx?_cons, List.findIdx?_cons, this, ih fs ⟨by simpa using h.1, fun i a b h1 h2 => h.2 (i + 1) a b (by simpa using h1) (by simpa using h2)⟩]
          have hfi' : fs.findIdx? (fun e => (e.born : Int) == b) = some i := by
            have e1 : fs.findIdx? (fun e => (e.born : Int) == b) = fs.toList.findIdx? (fun e => (e.born : Int) == b) := by
              obtain ⟨fl⟩ := fs
              simp
            rw [e1, ← hidx es fs.toList hes]; exact hfi
          have hil : i < es.length := by
            obtain ⟨hlt', _⟩ := List.findIdx?_eq_some_iff_findIdx_eq.1 hfi
            exact hlt'
          obtain ⟨e0, he0⟩ : ∃ e0, es[i]? = some e0 := ⟨es[i], List.getElem?_eq_getElem hil⟩
          have hfl : i < fs.size := by have := hes.1; simp at this; omega
          obtain ⟨f0, hf0⟩ : ∃ f0, fs[i]? = some f0 := ⟨fs[i], by simp [hfl]⟩
          have hef := hes.2 i e0 f0 he0 (by simpa using hf0)
          have hents := entsR_set hes (i := i) (e := { e0 with val := evalWith look v' }) (f := { f0 with val := a.eval v }) ⟨hef.key, hvv, hef.born⟩ (fun e => { e with val := a.eval v }) (fun q hq => by rw [hf0] at hq; simp at hq; subst hq; rfl)
          have hmod : es.modify i (fun e => { e with val := evalWith look v' }) = es.set i { e0 with val := evalWith look v' } := by
            apply List.ext_getElem?
            intro q
            rw [List.getElem?_modify, List.getElem?_set]
            split
            · rename_i hq; subst hq; rw [he0]; simp [hil]
            · simp
          rw [hmod]
          refine ⟨undef, _, μ, .inr ⟨rfl, ?_⟩, hw.setMap hB hl hmb hents, MExt.refl μ, .undef _⟩
          simp only [execOp, ho, Instr.entryStore, Sem.run_bind, hu, run_getObj_map hmb, Result.andThen_ok, hus, asInt, asIntOf, Sem.run_pure, hfi', run_setObj_map hmb]
        · simp at hf
      · simp at hf
    · simp at hf
  · simp [runAct] at h

end Go.Abs

/- Abs 16: every operation that is no call of a function. -/
set_option linter.unusedSimpArgs false
set_option linter.unusedVariables false
namespace Go.Abs
open Go.RowKit

variable {CR : CRel} {P : Program} {W : BaseW} {w : World} {φ : Frz} {μ : List Loc} {H H' : Heap} {look : Nat → AV} {a : Act} {call : CallF} {slot : Option Nat} {r : AV} {o : Oper} {ao : AOp}

theorem entsR_erase {es : List MEnt} {fs : Array MapEntry} (h : EntsR φ μ es fs.toList) (i : Nat) : EntsR φ μ (es.eraseIdx i) (fs.eraseIdxIfInBounds i).toList := by
  have e : (fs.eraseIdxIfInBounds i).toList = fs.toList.eraseIdx i := by
    obtain ⟨l⟩ := fs
    simp
  rw [e]
  refine ⟨by rw [List.length_eraseIdx, List.length_eraseIdx, h.1], fun j e f h1 h2 => ?_⟩
  rw [List.getElem?_eraseIdx] at h1 h2
  split at h1
  · rename_i hj; rw [if_pos hj] at h2; exact h.2 j e f h1 h2
  · rename_i hj; rw [if_neg hj] at h2; exact h.2 _ e f h1 h2

theorem sim_delete {c : Call} {m k : Operand} {t : TypeId} {ts : List TypeId} (ho : o.op = .call c) (hcal : c.callee = .builtin .delete) (hargs : c.args.toList = [m, k]) (hts : c.argTypes.toList = t :: ts)
    {kt e : TypeId} (ht : P.underlying t = some (.map kt e)) {g : Bool} {ks : List CK} (hk : keyType P kt = some (g, ks))
    {m' k' : AOperand} (hm' : convOperand m = some m') (hk' : convOperand k = some k') (he : EnvR φ μ look a) (hw : WR CR W φ μ H w)
    (h : runAct call slot H (actOf (evalWith look) (.delete g ks m' k')) = some (r, H')) : SimR CR P W φ μ o a.eval w r H' := by
  simp only [actOf] at h
  have hvm := conv_operand he hm'
  have hvk := conv_operand he hk'
  have e1 : c.args = #[m, k] := by apply Array.ext'; simpa using hargs
  have e2 : c.argTypes[0]? = some t := by
    rw [← Array.getElem?_toList, hts]; rfl
  have fin : ∀ w', (Builtin.delete_ c.argTypes o.type #[a.eval m, a.eval k]).run P w = .ok (.tuple #[]) w' → (execOp a.eval o).run P w = .ok (.value (.tuple #[])) w' := by
    intro w' hr
    simp only [execOp, ho, resolve, hcal, e1, Sem.run_bind, Sem.run_pure, Result.andThen_ok, invoke, builtin]
    simp [hr]
  have hnil : VR φ μ (.tuple []) (.tuple #[]) := VR.tuple (vs := []) rfl (fun i x v h => by simp at h)
  split at h
  · rename_i hko
    split at h
    · rename_i hmm
      obtain ⟨rfl, rfl⟩ := run_val h
      rw [hmm] at hvm
      generalize hu : a.eval m = u at hvm
      cases hvm
      refine simVal hw (v := .tuple #[]) (fin _ ?_) hnil
      simp only [Builtin.delete_, e2, hu]
      simp [run_underlying ht, run_checkKey' hk hko hvk]
    · rename_i id gen hmm
      obtain ⟨b, hlt, hf, rfl⟩ := run_md h
      rw [hmm] at hvm
      rw [blks_one] at hf
      split at hf
      · rename_i g' es cl hB
        simp only [List.cons.injEq, and_true] at hB
        have hB := getD_map hB
        split at hf
        · rename_i eg; subst eg
          obtain ⟨l, fs, hu, hl, hmb, hes⟩ := hw.mapAt hB hvm
          split at hf
          · rename_i j e0 hfe
            simp only [Option.some.injEq, Prod.mk.injEq] at hf
            obtain ⟨rfl, rfl⟩ := hf
            obtain ⟨res', hr, hfound⟩ := findKey_run (P := P) (w := w) hk hko hvk hes hfe
            cases res' with
            | none => exact hfound.elim
            | some q =>
              obtain ⟨j', v0⟩ := q
              obtain ⟨rfl, _⟩ := hfound
              refine ⟨.tuple #[], _, μ, .inl (fin _ ?_), hw.setMap hB hl hmb (entsR_erase hes j), MExt.refl μ, hnil⟩
              simp only [Builtin.delete_, e2, hu]
              simp [run_underlying ht, run_checkKey' hk hko hvk, run_getObj_map hmb, hr, run_setObj_map hmb]
          · rename_i hfe
            simp only [Option.some.injEq, Prod.mk.injEq] at hf
            obtain ⟨rfl, rfl⟩ := hf
            obtain ⟨res', hr, hfound⟩ := findKey_run (P := P) (w := w) hk hko hvk hes hfe
            cases res' with
            | some q => exact hfound.elim
            | none =>
              refine ⟨.tuple #[], _, μ, .inl (fin _ ?_), hw.setMap hB hl hmb hes, MExt.refl μ, hnil⟩
              simp only [Builtin.delete_, e2, hu]
              simp [run_underlying ht, run_checkKey' hk hko hvk, run_getObj_map hmb, hr, run_setObj_map hmb]
          · simp at hf
        · simp at hf
      · simp at hf
    · simp [runAct] at h
  · simp [runAct] at h

theorem optConv_some {lo : Option Operand} {lo' : Option AOperand} (h : (match lo with | some v => (convOperand v).map some | none => some none) = some lo') : OptConv lo lo' := by
  cases lo with
  | none => simp at h; subst h; trivial
  | some v =>
    simp only [Option.map_eq_some_iff] at h
    obtain ⟨z, hz, rfl⟩ := h
    exact hz

/-- EVERY OPERATION that is no call of a function's value. -/
theorem sim_act (hc : convOp P o.op = some ao) (he : EnvR φ μ look a) (hw : WR CR W φ μ H w) (hne : ∀ f args, ao ≠ .call f args)
    (h : runAct call slot H (actOf (evalWith look) ao) = some (r, H')) : SimR CR P W φ μ o a.eval w r H' := by
  generalize ho : o.op = op at hc
  unfold convOp at hc
  split at hc
  case h_1 x =>
    split at hc
    · rename_i y hy; simp at hc; subst hc; exact sim_move (.inl ho) hy he hw h
    · simp at hc
  case h_2 x =>
    split at hc
    · rename_i y hy; simp at hc; subst hc; exact sim_move (.inr ho) hy he hw h
    · simp at hc
  case h_3 c x y =>
    split at hc
    · rename_i c' x' y' h1 h2 h3; simp at hc; subst hc; exact sim_pick ho h1 h2 h3 he hw h
    · simp at hc
  case h_4 t =>
    split at hc
    · rename_i z hz; simp at hc; subst hc; exact sim_alloc ho hz hw h
    · simp at hc
  case h_5 t v =>
    split at hc
    · rename_i g n y h1 h2
      split at hc
      · rename_i hn; simp at hc; subst hc; exact sim_box ho h1 hn h2 he hw h
      · simp at hc
    · simp at hc
  case h_6 t parts =>
    split at hc
    · rename_i fs z h1 h2
      split at hc
      · rename_i ps hps
        split at hc
        · rename_i hall; simp at hc; subst hc; exact sim_build ho h1 hall h2 hps he hw h
        · simp at hc
      · simp at hc
    · simp at hc
  case h_7 t len parts =>
    split at hc
    · rename_i e h1
      split at hc
      · rename_i z ps h2 h3
        split at hc
        · rename_i hl; simp at hc; subst hc; exact sim_buildSlice ho h1 h2 h3 hl he hw h
        · simp at hc
      · simp at hc
    · simp at hc
  case h_8 t x =>
    split at hc
    · rename_i g n y h1 h2; simp at hc; subst hc; exact sim_load ho h1 h2 he hw h
    · simp at hc
  case h_9 t x v =>
    split at hc
    · rename_i g n y z h1 h2 h3; simp at hc; subst hc; exact sim_store ho h1 h2 h3 he hw h
    · simp at hc
  case h_10 x =>
    split at hc
    · rename_i y hy; simp at hc; subst hc; exact sim_nilCheck ho hy he hw h
    · simp at hc
  case h_11 op t x y s =>
    split at hc
    · rename_i p q h1 h2; simp at hc; subst hc; exact sim_bin ho h1 h2 he hw h
    · simp at hc
  case h_12 op t x =>
    split at hc
    · rename_i y hy; simp at hc; subst hc; exact sim_un ho hy he hw h
    · simp at hc
  case h_13 src dst x =>
    split at hc
    · rename_i h1 h2 h3; simp at hc; subst hc; exact sim_toInt ho h1 h2 h3 he hw h
    · rename_i h1 h2 h3; simp at hc; subst hc; exact sim_strStr ho h1 h2 h3 he hw h
    · rename_i h1 h2 h3; simp at hc; subst hc; exact sim_runeStr ho h1 h2 h3 he hw h
    · simp at hc
  case h_14 f xs ys =>
    split at hc
    · rename_i p q h1 h2; simp at hc; subst hc; exact sim_makeFunc ho h1 h2 he hw h
    · simp at hc
  case h_15 t => simp at hc; subst hc; exact sim_makeMap ho hw h
  case h_16 t x y =>
    split at hc
    · rename_i e h1
      split at hc
      · rename_i z i p q h2 h3 h4 h5; simp at hc; subst hc; exact sim_makeSlice ho h1 h2 h3 h4 h5 he hw h
      · simp at hc
    · simp at hc
  case h_17 t x lo hi =>
    split at hc
    · rename_i y l hh h1 h2 h3 h4
      simp at hc; subst hc
      exact sim_slice ho (.inl ⟨rfl, h1⟩) h2 (optConv_some h3) (optConv_some h4) he hw h
    · rename_i e y l hh h1 h2 h3 h4
      split at hc
      · rename_i i hi'
        split at hc
        · rename_i hs; simp at hc; subst hc
          exact sim_slice ho (.inr ⟨hs, e, i, h1, hi', rfl⟩) h2 (optConv_some h3) (optConv_some h4) he hw h
        · simp at hc
      · simp at hc
    · simp at hc
  case h_18 s x f =>
    split at hc
    · rename_i fs y h1 h2
      split at hc
      · rename_i fd hf
        split at hc
        · rename_i i hi
          split at hc
          · rename_i hs; simp at hc; subst hc; exact sim_fieldAddr ho h1 hf hi hs h2 he hw h
          · simp at hc
        · simp at hc
      · simp at hc
    · simp at hc
  case h_19 s x f =>
    split at hc
    · rename_i fs y h1 h2
      split at hc
      · rename_i fd hf
        split at hc
        · rename_i g n ht; simp at hc; subst hc; exact sim_field ho h1 hf ht h2 he hw h
        · simp at hc
      · simp at hc
    · simp at hc
  case h_20 t x i =>
    split at hc
    · rename_i e y j h1 h2 h3
      split at hc
      · rename_i inf hi
        split at hc
        · simp at hc; subst hc; exact sim_indexAddr ho h1 hi h2 h3 he hw h
        · simp at hc
      · simp at hc
    · simp at hc
  case h_21 t x i =>
    split at hc
    · rename_i y j h1 h2 h3; simp at hc; subst hc; exact sim_index ho h1 h2 h3 he hw h
    · simp at hc
  case h_22 t m k ok =>
    split at hc
    · rename_i kt e x y h1 h2 h3
      split at hc
      · rename_i g ks z h4 h5; simp at hc; subst hc; exact sim_lookup ho h1 h4 h5 h2 h3 he hw h
      · simp at hc
    · simp at hc
  case h_23 t m k v =>
    split at hc
    · rename_i kt e x y z h1 h2 h3 h4
      split at hc
      · rename_i g ks h5; simp at hc; subst hc; exact sim_mapUpdate (.inl ho) h1 h5 h2 h3 h4 he hw h
      · simp at hc
    · simp at hc
  case h_24 t m k v =>
    split at hc
    · rename_i kt e x y z h1 h2 h3 h4
      split at hc
      · rename_i g ks h5; simp at hc; subst hc; exact sim_mapUpdate (.inr ho) h1 h5 h2 h3 h4 he hw h
      · simp at hc
    · simp at hc
  case h_25 t m k =>
    split at hc
    · rename_i kt e x y h1 h2 h3
      split at hc
      · rename_i g ks z h4 h5; simp at hc; subst hc; exact sim_mapEntry ho h1 h4 h5 h2 h3 he hw h
      · simp at hc
    · simp at hc
  case h_26 t m s v =>
    split at hc
    · rename_i x y z h1 h2 h3; simp at hc; subst hc; exact sim_entryStore ho h1 h2 h3 he hw h
    · simp at hc
  case h_27 t x =>
    split at hc
    · simp at hc
    · rename_i d y hnot h1 h2
      simp at hc; subst hc
      exact sim_makeInterface ho h1 (fun ms e => by subst e; exact hnot _ rfl) h2 he hw h
    · simp at hc
  case h_28 x i =>
    split at hc
    · rename_i y hy; simp at hc; subst hc; exact sim_extract ho hy he hw h
    · simp at hc
  case h_29 c =>
    split at hc
    · split at hc
      · simp at hc; exact absurd hc.symm (hne _ _)
      · simp at hc
    · rename_i hcal
      split at hc
      · rename_i x t h1 h2
        split at hc
        · rename_i y h3 h4; simp at hc; subst hc; exact sim_len (k := .str) ho hcal h1 h2 h4 h3 he hw h
        · rename_i y e h3 h4; simp at hc; subst hc; exact sim_len (k := .slice) ho hcal h1 h2 ⟨_, h4⟩ h3 he hw h
        · rename_i y k e h3 h4; simp at hc; subst hc; exact sim_len (k := .map) ho hcal h1 h2 ⟨_, _, h4⟩ h3 he hw h
        · simp at hc
      · simp at hc
    · rename_i hcal
      split at hc
      · rename_i x y t u h1 h2
        split at hc
        · rename_i p q e e' h3 h4 h5 h6
          split at hc
          · rename_i i hi
            split at hc
            · rename_i hcc
              obtain ⟨c1, c2, c3⟩ := hcc
              simp at hc; subst hc
              cases hz : i.zero with
              | none => rw [hz] at c3; simp at c3
              | some z => rw [hz] at c3; simp at c3; exact sim_append ho hcal h1 h2 h5 h6 hi c1 c2 hz c3 h3 h4 he hw h
            · simp at hc
          · simp at hc
        · simp at hc
      · simp at hc
    · rename_i hcal
      split at hc
      · rename_i x y t ts h1 h2
        split at hc
        · rename_i p q kt e h3 h4 h5
          split at hc
          · rename_i g ks h6; simp at hc; subst hc; exact sim_delete ho hcal h1 h2 h5 h6 h3 h4 he hw h
          · simp at hc
        · simp at hc
      · simp at hc
    · simp at hc
  all_goals simp at hc

end Go.Abs
