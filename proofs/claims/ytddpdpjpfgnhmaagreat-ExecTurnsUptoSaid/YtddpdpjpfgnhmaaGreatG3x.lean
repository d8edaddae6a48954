/- Abs: bytes and texts, the greatest of numbers. -/
import Derived.Test.YtddpdpjpfgnhmaaGreatG2x
set_option linter.unusedSimpArgs false
set_option linter.unusedVariables false
set_option maxHeartbeats 4000000
namespace Go.Abs
open Go.RowKit
variable {CR : CRel} {P : Program} {W : BaseW} {w : World} {φ : Frz} {μ : List Loc} {H H' : Heap} {look : Nat → AV} {a : Act} {call : CallF} {slot : Option Nat} {r : AV} {o : Oper} {ao : AOp}
theorem maxF_run : ∀ {l : List AV} {us : List Value} {x r : AV} {v : Value}, maxF x l = some r → VR φ μ x v → VRs φ μ l us → ∃ u, (us.foldlM Builtin.max2 v).run P w = .ok u w ∧ VR φ μ r u
 | [], us, x, r, v, h, hx, hl => by
   have : us = [] := by have := hl.1; cases us <;> simp at this <;> rfl
   subst this
   cases x <;> simp [maxF] at h
   subst h
   exact ⟨v, by simp, hx⟩
 | y :: l, [], x, r, v, h, hx, hl => by simp [VRs] at hl
 | y :: l, u :: us, x, r, v, h, hx, hl => by
   cases x <;> simp [maxF] at h
   rename_i k p
   cases y <;> simp at h
   rename_i j q
   obtain ⟨rfl, h⟩ := h
   have hy : VR φ μ (.int k q) u := hl.2 0 _ _ rfl rfl
   cases hx; cases hy
   obtain ⟨u', h1, h2⟩ := maxF_run h (.int k _) ⟨by have := hl.1; simpa using this, fun i y u h1 h2 => hl.2 (i + 1) y u (by simpa using h1) (by simpa using h2)⟩
   refine ⟨u', ?_, h2⟩
   simp only [List.foldlM_cons, Builtin.max2, Sem.run_bind, Sem.run_pure, Result.andThen_ok]
   exact h1
theorem sim_maxI {c : Call} (ho : o.op = .call c) (hcal : c.callee = .builtin .max) {xs : List AOperand} (hx : zu1 c.args.toList = some xs) (he : EnvR φ μ look a) (hw : WR CR W φ μ H w)
 (h : zb call slot H (actOf (zh look) (.maxI xs)) = some (r, H')) : SimR CR P W φ μ o a.eval w r H' := by
 simp only [actOf] at h
 obtain ⟨h', rfl⟩ := zq3 h
 clear h
 have h := h'
 have hv := zp3 he hx
 unfold maxA at h
 split at h
 ·simp at h
 ·rename_i x l hl
  rw [hl] at hv
  generalize hus : c.args.toList.map a.eval = us at hv
  cases us with
  | nil => simp [VRs] at hv
  | cons v us =>
    obtain ⟨u, h1, h2⟩ := maxF_run (P := P) (w := w) h (hv.2 0 _ _ rfl rfl) (us := us) ⟨by have := hv.1; simpa using this, fun i y u h1 h2 => hv.2 (i + 1) y u (by simpa using h1) (by simpa using h2)⟩
    refine z82 hw (v := u) ?_ h2
    simp only [execOp, ho, resolve, hcal, Sem.run_bind, Sem.run_pure, Result.andThen_ok, invoke, builtin]
    have : (Builtin.max_ c.argTypes o.type (c.args.map a.eval)).run P w = .ok u w := by
     simp only [Builtin.max_, Array.toList_map, hus]
     exact h1
    simp [this]
theorem isByte_spec {e : TypeId} (h : isByte P e = true) : P.underlying e = some (.int .u8) ∧ ∃ i, P.info? e = some i ∧ i.size = 1 := by
 unfold isByte at h
 split at h
 ·rename_i i h1 h2; exact ⟨h1, i, h2, by simpa using h⟩
 ·simp at h
theorem bytes_loop : ∀ {rows : List AV} {us : List Value} {bs : List UInt8} (acc : ByteArray), bytesOf rows = some bs → VRs φ μ rows us →
 (forIn us acc fun c (s : ByteArray) => (match c with
  | .int .u8 n => pure (ForInStep.yield (s.push (UInt8.ofNat n.toNat)))
  | _ => do (stuck "bytesToString: byte expected" : Sem PUnit); pure (ForInStep.yield s) : Sem (ForInStep ByteArray))).run P w = .ok ⟨acc.data ++ bs.toArray⟩ w
 | [], us, bs, acc, h, hl => by
   have : us = [] := by have := hl.1; cases us <;> simp at this <;> rfl
   subst this
   simp [bytesOf] at h; subst h
   simp
 | y :: l, [], bs, acc, h, hl => by simp [VRs] at hl
 | y :: l, u :: us, bs, acc, h, hl => by
   unfold bytesOf at h
   split at h
   ·rename_i e; simp at e
   ·rename_i n l' e
    simp only [List.cons.injEq] at e
    obtain ⟨rfl, rfl⟩ := e
    split at h
    ·rename_i bs' hbs
     simp only [Option.some.injEq] at h; subst h
     have hy : VR φ μ (.int .u8 n) u := hl.2 0 _ _ rfl rfl
     cases hy
     have ih := bytes_loop (acc.push (UInt8.ofNat n.toNat)) hbs (us := us) ⟨by have := hl.1; simpa using this, fun i y u h1 h2 => hl.2 (i + 1) y u (by simpa using h1) (by simpa using h2)⟩
     simp only [List.forIn_cons, Sem.run_bind, Sem.run_pure, Result.andThen_ok]
     rw [ih]
     congr 2
     simp [ByteArray.push]
    ·simp at h
   ·simp at h
theorem bytesOf_row : ∀ {rows : List AV} {bs : List UInt8}, bytesOf rows = some bs → ∀ r ∈ rows, ∃ n, r = .int .u8 n
 | [], bs, h, r, hr => by simp at hr
 | y :: l, bs, h, r, hr => by
   unfold bytesOf at h
   split at h
   ·rename_i e; simp at e
   ·rename_i n l' e
    simp only [List.cons.injEq] at e
    obtain ⟨rfl, rfl⟩ := e
    split at h
    ·rename_i bs' hbs
     rcases List.mem_cons.1 hr with rfl | hr
     ·exact ⟨n, rfl⟩
     ·exact bytesOf_row hbs r hr
    ·simp at h
   ·simp at h
theorem bytes_run {rows : List AV} {r : AV} (h : textOf rows = some r) {ad : Addr} {n : Nat} (hn : rows.length = n) (hc : ∀ (i : Nat) (x : AV), rows[i]? = some x → ∃ v, w.cell? (ad.add i) = some v ∧ VR φ μ x v) {m : Nat} :
 ∃ s, (Conv.bytesToString (.slice (some ad) n m)).run P w = .ok (.string s) w ∧ r = .str s := by
 subst hn
 unfold textOf at h
 split at h
 ·rename_i bs hbs
  simp only [Option.some.injEq] at h
  let f : Nat → Value := fun j => if hj : j < rows.length then Classical.choose (hc j _ (List.getElem?_eq_getElem hj)) else undef
  have hf : ∀ j (hj : j < rows.length), w.cell? (ad.add j) = some (f j) ∧ VR φ μ rows[j] (f j) := fun j hj => by
   simp only [f, hj, dif_pos]; exact Classical.choose_spec (hc j _ (List.getElem?_eq_getElem hj))
  have hl : VRs φ μ rows ((List.range rows.length).map f) := by
   refine ⟨by simp, fun i x v h1 h2 => ?_⟩
   have hi : i < rows.length := (List.getElem?_eq_some_iff.1 h1).1
   rw [List.getElem?_eq_getElem hi] at h1
   simp [hi] at h2
   cases h1; subst h2
   exact (hf i hi).2
  refine ⟨⟨⟨bs⟩⟩, ?_, h.symm⟩
  have := bytes_loop (w := w) (P := P) .empty hbs hl
  simp only [Conv.bytesToString, Sem.run_bind]
  rw [run_loadCells w _ rows.length f (fun j hj => (hf j hj).1)]
  simp only [Result.andThen_ok]
  rw [← Array.forIn_toList]
  have e0 : (ByteArray.empty.data ++ bs.toArray) = ⟨bs⟩ := by
   have : ByteArray.empty.data = #[] := rfl
   rw [this]; simp
  rw [e0] at this
  exact (congrArg (fun r => Result.andThen r fun s w' => Sem.run P (pure (Value.string s)) w') this).trans (by simp)
 ·simp at h
theorem sim_ofBytes {src dst e : TypeId} {x : Operand} (ho : o.op = .convert src dst x) (hs : P.underlying src = some (.slice e)) (hd : P.underlying dst = some .string) (hb : isByte P e = true) {x' : AOperand} (hx : z6 x = some x')
 (he : EnvR φ μ look a) (hw : WR CR W φ μ H w) (h : zb call slot H (actOf (zh look) (.ofBytes x')) = some (r, H')) : SimR CR P W φ μ o a.eval w r H' := by
 obtain ⟨hbu, _, _, _⟩ := isByte_spec hb
 have hv := z9 he hx
 have fin : ∀ s, r = .str s → H' = H → (Conv.bytesToString (a.eval x)).run P w = .ok (.string s) w → (∃ p n m, a.eval x = .slice p n m) → SimR CR P W φ μ o a.eval w r H' := by
  rintro s rfl rfl hr ⟨p, n, m, hu⟩
  refine z82 hw (v := .string s) ?_ (.str s)
  rw [hu] at hr
  simp [execOp, ho, hu, convert, run_underlying hs, run_underlying hd, run_underlying hbu, hr]
 simp only [actOf] at h
 generalize hq : zh look x' = q at h hv
 generalize hu : a.eval x = u at hv fin
 split at h
 ·obtain ⟨rfl, rfl⟩ := z52 h
  cases hv
  exact fin _ rfl rfl (by simp [Conv.bytesToString]; rfl) ⟨_, _, _, rfl⟩
 ·rename_i lent rows
  obtain ⟨h', rfl⟩ := zq3 h
  clear h
  have h := h'
  cases hv with
  | fslNil =>
    rename_i ad
    rcases ad with _ | ad
    ·simp [textOf, bytesOf] at h; subst h
     exact fin _ rfl rfl (by simp [Conv.bytesToString]; rfl) ⟨_, _, _, rfl⟩
    ·obtain ⟨s, h1, h2⟩ := bytes_run (w := w) (P := P) (φ := φ) (μ := μ) h (ad := ad) (m := 0) rfl (fun i x hx => by simp at hx)
     exact fin s h2 rfl h1 ⟨_, _, _, rfl⟩
  | fsl vs hn hr hc hvv hcap =>
    rename_i sz b q n cap
    obtain ⟨s, h1, h2⟩ := bytes_run (w := w) (P := P) (φ := φ) (μ := μ) h (ad := ⟨b, q, none⟩) (m := cap) hn (fun i x hx => by
     have hrow : ∃ bs, bytesOf rows = some bs := by
      unfold textOf at h; split at h
      ·exact ⟨_, by assumption⟩
      ·simp at h
     obtain ⟨bs, hbs⟩ := hrow
     obtain ⟨m, rfl⟩ := bytesOf_row hbs x (List.mem_of_getElem? hx)
     have hs1 : sz = 1 := by have := zt (hr _ (List.mem_of_getElem? hx)); simpa [AV.cells] using this.symm
     subst hs1
     refine ⟨vs i 0, ?_, hvv i _ 0 (.int .u8 m) hx rfl⟩
     have := cell_of_fcell hw.frz (hc i _ 0 (.int .u8 m) hx rfl)
     rw [addr_add, ← this]; congr 2; omega)
    exact fin s h2 rfl h1 ⟨_, _, _, rfl⟩
 ·rename_i id gen off len
  obtain ⟨hf, rfl⟩ := run_rd h
  rw [blks_one] at hf
  simp only at hf
  split at hf
  ·rename_i rows hys
   unfold z63 at hys
   split at hys
   ·rename_i g s rws hB
    have hB := getD_arr hB
    split at hys
    ·rename_i hcnd
     obtain ⟨rfl, hle⟩ := hcnd
     simp only [Option.some.injEq] at hys; subst hys
     cases hv with
     | sl hl hg hlc ha =>
     rename_i cap l ad
     have hgl : g = l.gen := hw.gen id _ l hB hl
     obtain ⟨had, hcap⟩ := ha hgl.symm
     have hrow : ∃ bs, bytesOf (List.take len (List.drop off rws)) = some bs := by
      unfold textOf at hf; split at hf
      ·exact ⟨_, by assumption⟩
      ·simp at hf
     obtain ⟨bs, hbs⟩ := hrow
     obtain ⟨s, h1, h2⟩ := bytes_run (w := w) (P := P) (φ := φ) (μ := μ) hf (ad := ad) (m := cap) (n := len) (by simp; omega) (fun i x hx => by
      obtain ⟨m, rfl⟩ := bytesOf_row hbs x (List.mem_of_getElem? hx)
      rw [List.getElem?_take] at hx
      split at hx
      ·rename_i hi
       rw [List.getElem?_drop] at hx
       have had := had (by omega)
       subst had
       have hA := hw.arr hB hl
       have hs1 : l.sz = 1 := by have := zt (hA.ok _ (List.mem_of_getElem? hx)); simpa [AV.cells] using this.symm
       obtain ⟨v, e3, hv⟩ := hw.row hB hl hx 0 (.int .u8 m) rfl
       refine ⟨v, ?_, hv⟩
       rw [addr_add, ← e3, hs1]; congr 2; omega
      ·simp at hx)
     exact fin s h2 rfl h1 ⟨_, _, _, rfl⟩
    ·simp at hys
   ·simp at hys
  ·simp at hf
 ·simp [zb] at h
end Go.Abs
