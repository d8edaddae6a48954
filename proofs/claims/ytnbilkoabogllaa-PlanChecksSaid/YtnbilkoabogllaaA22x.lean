/- Abs 22: code. -/
import Derived.Test.YtnbilkoabogllaaA21x
set_option linter.unusedSimpArgs false
set_option linter.unusedVariables false
namespace Go.Abs
open Go.RowKit

/-- What code a record of a range over a function bears. -/
def LoopCode (P : Program) : CRel := fun lp tm ps a b =>
  ∃ nt kept, lp.tmps.size = nt ∧ convCode P nt kept lp.assign = a ∧ convCode P nt kept lp.body = b ∧ TInv kept tm ∧ ∀ t ∈ ps, t < nt ∧ nt < 4000 ∧ kept t = true

variable {P : Program} {W : BaseW} {w : World} {φ : Frz} {μ : List Loc} {H H' : Heap} {a : Act} {call : CallF} {kept : Nat → Bool} {ops : Array Oper} {Q : Exit → Act → World → Prop} {ro : Option Nat} {n nt : Nat}

/-- The marks of a frame. -/
def DfrR (φ : Frz) (μ : List Loc) (l : List (Nat × Nat)) (ds : List Deferred) : Prop :=
  l.length = ds.length ∧ ∀ (i : Nat) (p : Nat × Nat) (d : Deferred), l[i]? = some p → ds[i]? = some d → ∃ r, d = { target := .collected r, args := #[] } ∧ VR φ μ (.yieldf p.1 p.2) (.func (.yield r) #[] #[])

/-- The round that a frame is of. -/
def RndR (φ : Frz) (μ : List Loc) : Option (Nat × Nat) → Option Nat → Prop
  | none, none => True
  | some p, some r => VR φ μ (.yieldf p.1 p.2) (.func (.yield r) #[] #[])
  | _, _ => False
theorem RndR.mono {φ φ' : Frz} {μ μ' : List Loc} (hf : FExt φ φ') (hm : MExt μ μ') : ∀ {x : Option (Nat × Nat)} {y : Option Nat}, RndR φ μ x y → RndR φ' μ' x y
  | none, none, _ => trivial
  | some p, some r, h => VR.mono hf hm h
  | none, some _, h => h.elim
  | some _, none, h => h.elim

/-- A frame's state here and there. -/
structure FR (P : Program) (W : BaseW) (kept : Nat → Bool) (nt : Nat) (ro : Option Nat) (φ : Frz) (μ : List Loc) (s : St) (a : Act) (w : World) : Prop where
  env : EnvR φ μ s.tm.get a
  tinv : TInv kept s.tm
  wr : WR (LoopCode P) W φ μ s.heap w
  size : a.tmps.size = nt
  dfr : DfrR φ μ s.dfr a.defers
  rnd : RndR φ μ s.rnd ro

theorem DfrR.mono {φ' : Frz} {μ' : List Loc} (hf : FExt φ φ') (hm : MExt μ μ') {l : List (Nat × Nat)} {ds : List Deferred} (h : DfrR φ μ l ds) : DfrR φ' μ' l ds :=
  ⟨h.1, fun i p d h1 h2 => let ⟨r, e, hv⟩ := h.2 i p d h1 h2; ⟨r, e, hv.mono hf hm⟩⟩

def toExit : AExit → Exit
  | .normal => .normal
  | .exit id => .exit id
  | .ret => .ret

theorem truthA_rel {c : Operand} {x : AOperand} (hc : convOperand c = some x) {tm : Tm} (he : EnvR φ μ tm.get a) {b : Bool} (h : truthA (evalA [] tm x) = some b) : a.eval c = .bool b := by
  rw [evalA_eq] at h
  have hv := conv_operand (look := tm.get) he hc
  have e : evalWith (look [] tm) x = evalWith tm.get x := rfl
  rw [e] at h
  generalize evalWith tm.get x = v at h hv
  cases v <;> simp [truthA] at h
  subst h
  generalize hu : a.eval c = u at hv
  cases hv; rfl

theorem exists_least {p : Nat → Prop} (h : ∃ j, p j) : ∃ m, p m ∧ ∀ k, p k → m ≤ k := by
  obtain ⟨j, hj⟩ := h
  induction j using Nat.strongRecOn with
  | _ j ih =>
    by_cases hh : ∃ k, k < j ∧ p k
    · obtain ⟨k, hk, hp⟩ := hh
      exact ih k hk hp
    · exact ⟨j, hj, fun k hk => Nat.le_of_not_lt fun hlt => hh ⟨k, hlt, hk⟩⟩

theorem aloop_some {f : St → Option (AExit × St)} {k : Nat} {s s' : St} {ex : AExit} (h : aloop f k s = some (ex, s')) : ∃ m, k = m + 1 ∧ ((∃ s1, f s = some (.normal, s1) ∧ aloop f m s1 = some (ex, s')) ∨ (f s = some (ex, s') ∧ ex ≠ .normal)) := by
  cases k with
  | zero => simp [aloop] at h
  | succ m =>
    refine ⟨m, rfl, ?_⟩
    simp only [aloop] at h
    split at h
    · rename_i s1 hf; exact .inl ⟨s1, hf, h⟩
    · rename_i hne
      refine .inr ⟨h, fun e => ?_⟩
      subst e
      exact hne s' h

/-- Blocks that are none of the interpreter's may come; its own stay. -/
theorem FR.state {s : St} (h : FR P W kept nt ro φ μ s a w) {φ' : Frz} {μ' : List Loc} {a' : Act} {w' : World} {tm : Tm} {H' : Heap} (hf : FExt φ φ') (hm : MExt μ μ') (he : EnvR φ' μ' tm.get a') (ht : TInv kept tm) (hw : WR (LoopCode P) W φ' μ' H' w') (hs : a'.tmps.size = a.tmps.size) (hd : a'.defers = a.defers) :
    FR P W kept nt ro φ' μ' { s with tm := tm, heap := H' } a' w' :=
  ⟨he, ht, hw, by rw [hs]; exact h.size, by rw [hd]; exact h.dfr.mono hf hm, h.rnd.mono hf hm⟩

/-- CODE: the machine follows the interpreter. 'k': how many rounds a loop may take. -/
theorem sim_exec (hcall : CallOk (LoopCode P) P call) (k : Nat) (hR : ∀ (f : Operand) (ps : Array Tmp) (x y : Code) (s s' : St) (ex : AExit), exec call (fun f => aloop f k) (convCode P nt kept (.rangeFunc f ps x y)) s = some (ex, s') →
      ∀ (φ : Frz) (μ : List Loc) (a : Act) (w : World) (Q : Exit → Act → World → Prop), FR P W kept nt ro φ μ s a w → (∀ a' w' φ' μ', FExt φ φ' → MExt μ μ' → FR P W kept nt ro φ' μ' s' a' w' → Q (toExit ex) a' w') → (Code.rangeFunc f ps x y).wpIn (Fk ro) n P Q a w) :
    ∀ (c : Code) (s s' : St) (ex : AExit), exec call (fun f => aloop f k) (convCode P nt kept c) s = some (ex, s') →
      ∀ (φ : Frz) (μ : List Loc) (a : Act) (w : World) (Q : Exit → Act → World → Prop), FR P W kept nt ro φ μ s a w → (∀ a' w' φ' μ', FExt φ φ' → MExt μ μ' → FR P W kept nt ro φ' μ' s' a' w' → Q (toExit ex) a' w') → c.wpIn (Fk ro) n P Q a w := by
  intro c
  induction c with
  | skip =>
    intro s s' ex h φ μ a w Q hr hQ
    simp only [convCode, exec, Option.some.injEq, Prod.mk.injEq] at h
    obtain ⟨rfl, rfl⟩ := h
    exact wpIn_skip (hQ a w φ μ (FExt.refl φ) (MExt.refl μ) hr)
  | region id ops draw =>
    intro s s' ex h φ μ a w Q hr hQ
    cases draw with
    | false =>
      simp only [convCode] at h
      split at h
      · rename_i hsm
        simp only [exec] at h
        split at h
        · rename_i r hrun
          simp only [Option.some.injEq, Prod.mk.injEq] at h
          obtain ⟨rfl, rfl⟩ := h
          exact sim_regionF hcall hsm hrun hr.tinv hr.env hr.wr hr.size (fun a' w' φ' μ' h1 h2 h3 h4 h5 h6 h7 => hQ a' w' φ' μ' h1 h2 (hr.state h1 h2 h3 h4 h5 h6 h7))
        · simp at h
      · simp [exec] at h
    | true =>
      simp only [convCode] at h
      split at h
      · rename_i hsm
        simp only [Bool.and_eq_true] at hsm
        simp only [exec] at h
        split at h
        · rename_i r rs hrun
          split at h
          · rename_i hpr
            simp only [Option.some.injEq, Prod.mk.injEq] at h
            obtain ⟨rfl, rfl⟩ := h
            exact sim_draw hcall hsm.1 hsm.2 hrun hpr hr.tinv hr.env hr.wr hr.size (fun a' w' φ' μ' h1 h2 h3 h4 h5 h6 h7 => hQ a' w' φ' μ' h1 h2 (hr.state h1 h2 h3 h4 h5 h6 h7))
          · simp at h
        · simp at h
      · simp [exec] at h
  | seq x y ihx ihy =>
    intro s s' ex h φ μ a w Q hr hQ
    simp only [convCode, exec] at h
    split at h
    · rename_i s1 h1
      apply wpIn_seq
      refine ihx s s1 .normal h1 φ μ a w _ hr (fun a' w' φ' μ' e1 e2 hr' => ?_)
      exact ihy s1 s' ex h φ' μ' a' w' Q hr' (fun a'' w'' φ'' μ'' g1 g2 hr'' => hQ a'' w'' φ'' μ'' (e1.trans g1) (e2.trans g2) hr'')
    · rename_i hne
      apply wpIn_seq
      refine ihx s s' ex h φ μ a w _ hr (fun a' w' φ' μ' e1 e2 hr' => ?_)
      have hq := hQ a' w' φ' μ' e1 e2 hr'
      cases ex with
      | normal => exact absurd h (hne s')
      | exit id => exact hq
      | ret => exact hq
  | cond c x y ihx ihy =>
    intro s s' ex h φ μ a w Q hr hQ
    simp only [convCode] at h
    split at h
    · rename_i v hv
      simp only [exec] at h
      split at h
      · rename_i ht
        exact wpIn_cond_true (truthA_rel hv hr.env ht) (ihx s s' ex h φ μ a w Q hr hQ)
      · rename_i ht
        exact wpIn_cond_false (truthA_rel hv hr.env ht) (ihy s s' ex h φ μ a w Q hr hQ)
      · simp at h
    · simp [exec] at h
  | block id x ih =>
    intro s s' ex h φ μ a w Q hr hQ
    simp only [convCode, exec] at h
    apply wpIn_block
    split at h
    · rename_i j s1 h1
      refine ih s s1 (.exit j) h1 φ μ a w _ hr (fun a' w' φ' μ' e1 e2 hr' => ?_)
      simp only [toExit, Exit.inBlock]
      split at h
      · rename_i hj
        simp only [Option.some.injEq, Prod.mk.injEq] at h
        obtain ⟨rfl, rfl⟩ := h
        rw [if_pos hj]; exact hQ a' w' φ' μ' e1 e2 hr'
      · rename_i hj
        simp only [Option.some.injEq, Prod.mk.injEq] at h
        obtain ⟨rfl, rfl⟩ := h
        rw [if_neg hj]; exact hQ a' w' φ' μ' e1 e2 hr'
    · rename_i hne
      refine ih s s' ex h φ μ a w _ hr (fun a' w' φ' μ' e1 e2 hr' => ?_)
      have hq := hQ a' w' φ' μ' e1 e2 hr'
      cases ex with
      | normal => exact hq
      | exit j => exact absurd h (hne j s')
      | ret => exact hq
  | loop x ih =>
    intro s s' ex h φ μ a w Q hr hQ
    simp only [convCode, exec] at h
    let f := exec call (fun f => aloop f k) (convCode P nt kept x)
    let PJ : Nat → Act → World → Prop := fun j a' w' => ∃ s1 φ' μ', FExt φ φ' ∧ MExt μ μ' ∧ FR P W kept nt ro φ' μ' s1 a' w' ∧ aloop f j s1 = some (ex, s')
    classical
    let meas : Act → World → Nat := fun a' w' => if hh : ∃ j, PJ j a' w' then Classical.choose (exists_least hh) else 0
    refine wpIn_loop (fun a' w' => ∃ j, PJ j a' w') meas ⟨k, s, φ, μ, FExt.refl φ, MExt.refl μ, hr, h⟩ ?_
    intro a1 w1 hI
    have hfind := (Classical.choose_spec (exists_least hI)).1
    have hme : meas a1 w1 = Classical.choose (exists_least hI) := by simp only [meas, dif_pos hI]
    obtain ⟨s1, φ1, μ1, e1, e2, hr1, hl⟩ := hfind
    obtain ⟨m, hm, hcase⟩ := aloop_some hl
    rcases hcase with ⟨s2, hf, hl2⟩ | ⟨hf, hne⟩
    · refine ih s1 s2 .normal hf φ1 μ1 a1 w1 _ hr1 (fun a' w' φ' μ' g1 g2 hr' => ?_)
      have hP : PJ m a' w' := ⟨s2, φ', μ', e1.trans g1, e2.trans g2, hr', hl2⟩
      refine ⟨⟨m, hP⟩, ?_⟩
      have hI' : ∃ j, PJ j a' w' := ⟨m, hP⟩
      have : meas a' w' = Classical.choose (exists_least hI') := by simp only [meas, dif_pos hI']
      rw [this, hme]
      have := (Classical.choose_spec (exists_least hI')).2 m hP
      omega
    · refine ih s1 s' ex hf φ1 μ1 a1 w1 _ hr1 (fun a' w' φ' μ' g1 g2 hr' => ?_)
      have hq := hQ a' w' φ' μ' (e1.trans g1) (e2.trans g2) hr'
      cases ex with
      | normal => exact absurd rfl hne
      | exit j => exact hq
      | ret => exact hq
  | rangeFunc f ps x y _ _ => intro s s' ex h φ μ a w Q hr hQ; exact hR f ps x y s s' ex h φ μ a w Q hr hQ
  | exit id =>
    intro s s' ex h φ μ a w Q hr hQ
    simp only [convCode, exec, Option.some.injEq, Prod.mk.injEq] at h
    obtain ⟨rfl, rfl⟩ := h
    exact wpIn_exit (hQ a w φ μ (FExt.refl φ) (MExt.refl μ) hr)
  | ret =>
    intro s s' ex h φ μ a w Q hr hQ
    simp only [convCode, exec, Option.some.injEq, Prod.mk.injEq] at h
    obtain ⟨rfl, rfl⟩ := h
    exact wpIn_ret (hQ a w φ μ (FExt.refl φ) (MExt.refl μ) hr)
  | scope _ _ => intro s s' ex h; simp [convCode, exec] at h
  | label _ => intro s s' ex h; simp [convCode, exec] at h
  | goto _ => intro s s' ex h; simp [convCode, exec] at h
  | refuse _ => intro s s' ex h; simp [convCode, exec] at h

end Go.Abs

