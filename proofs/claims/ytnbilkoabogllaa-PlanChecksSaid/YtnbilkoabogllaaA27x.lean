/- Abs 27: CALLS: what the interpreter says of a call is what the machine does. -/
import Derived.Test.YtnbilkoabogllaaA26x
set_option linter.unusedSimpArgs false
set_option linter.unusedVariables false
namespace Go.Abs
open Go.RowKit

variable {CR : CRel} {P : Program} {W : BaseW} {w : World} {φ ψ : Frz} {μ ν : List Loc} {H H' : Heap} {call : CallF}

/-- What a call on the machine comes to, from a state of the interpreter's. -/
def Comes (P : Program) (W : BaseW) (φ : Frz) (μ : List Loc) (H' : Heap) (r : AV) (e : Ending) (w' : World) : Prop :=
  ∃ v, e = .returned v ∧ ∃ φ' μ', FExt φ φ' ∧ MExt μ μ' ∧ WR (LoopCode P) W φ' μ' H' w' ∧ VR φ' μ' r v

/-- A law that stands for a function. -/
def LawOk (P : Program) (f : FuncId) (g : List AV → Option AV) : Prop :=
  (∃ fn, P.funcs[f]? = some fn ∧ fn.body.isSome = true ∧ fn.name ≠ "runtime.NumGoroutine") ∧
  ∀ (args : List AV) (r : AV), AV.plains args = true → g args = some r → ∀ (n : Nat) (W : BaseW) (φ : Frz) (μ : List Loc) (H : Heap) (w : World) (us : List Value),
    WR (LoopCode P) W φ μ H w → VRs φ μ args us → CallsIn Fence.wide n P f us.toArray w (Comes P W φ μ H r)

def TblOk (P : Program) (tbl : FuncId → Option AFun) : Prop :=
  ∀ f x, tbl f = some x → match x with
    | .code af => ∃ fn pure frz keptL, P.funcs[f]? = some fn ∧ convFunc P pure frz keptL fn = some af
    | .law g => LawOk P f g

theorem convFunc_facts {pure frz : Bool} {keptL : List Nat} {fn : Func} {af : AFunc} (h : convFunc P pure frz keptL fn = some af) : fn.body.isSome = true ∧ fn.name ≠ "runtime.NumGoroutine" := by
  unfold convFunc at h
  split at h
  · rename_i c rs hb _
    split at h
    · rename_i hc
      simp only [Bool.and_eq_true, bne_iff_ne] at hc
      exact ⟨by simp [hb], hc.2⟩
    · simp at h
  · simp at h

theorem run_callFunc {f : FuncId} {fn : Func} (hf : P.funcs[f]? = some fn) (hb : fn.body.isSome = true) (hn : fn.name ≠ "runtime.NumGoroutine") (args : Array Value) :
    (callFunc f args).run P w = .ok (.enter f args) w := by
  have hb' : fn.body ≠ none := by cases h : fn.body <;> simp [h] at hb ⊢
  simp [callFunc, hf, hb', hn]

theorem optMap_VRs (hw : WR CR W φ μ H w) (hf : FExt φ ψ) (ho : ∀ (id : Nat) (B : Blk) (l : Loc), H[id]? = some B → μ[id]? = some l → B.live = true → ψ false l.b = w.heap[l.b]?) {k : Nat} {xs ys : List AV} {vs : List Value}
    (h : optMap (reify H k) xs = some ys) (hv : VRs φ μ xs vs) : VRs ψ ν ys vs := by
  refine ⟨by rw [(optMap_get h).1]; exact hv.1, fun i y v h1 h2 => ?_⟩
  obtain ⟨x, g1, g2⟩ := optMap_back h h1
  exact reify_rel hw hf (fun _ _ h _ => h) ho k x y v g2 (hv.2 i x v g1 h2)

/-- A pure function: it sees what its arguments lead to, and hands a value back. -/
theorem sim_pure (hcall : CallOk (LoopCode P) P call) {k f n : Nat} {fn : Func} {pure frz : Bool} {keptL : List Nat} {af : AFunc} (hf : P.funcs[f]? = some fn) (hc : convFunc P pure frz keptL fn = some af) {args : List AV} {vs : List Value} {r : AV}
    (h : runPure call (fun f => aloop f k) af args = some r) (hφ : ∀ k b o, φ k b = some o → w.heap[b]? = some o) (hs : ∀ b o, φ false b = some o → φ true b = some o) (hv : VRs φ [] args vs) :
    CallsIn Fence.wide n P f vs.toArray w (fun e w' => ∃ v, e = .returned v ∧ Below w.heap.size w w' ∧ VR (fun k b => if b < w.heap.size then φ k b else w'.heap[b]?) [] r v) := by
  unfold runPure at h
  split at h
  · rename_i r0 H1 hrun
    refine CallsIn.mono (sim_body (W := { w with φ0 := φ }) hcall hf hc hrun (WR.start hφ hs) hv) ?_
    rintro e w' ⟨v, rfl, φ', μ', e1, e2, hw', hv'⟩
    refine ⟨v, rfl, hw'.below, ?_⟩
    refine reify_rel hw' (fun kk b o hb => ?_) (fun _ _ h _ => h) (fun id B l h1 h2 h3 => ?_) reifyDepth r0 r v h hv'
    · split
      · rename_i hlt
        have := hw'.base kk b hlt
        rw [this] at hb; exact hb
      · exact hw'.frz kk b o hb
    · have := (hw'.own id B l h1 h2 h3).1
      rw [if_neg (by simpa using this)]
  · simp at h

/-- ONE STEP MORE. -/
theorem stepCall_ok {tbl : FuncId → Option AFun} (ht : TblOk P tbl) (hcall : CallOk (LoopCode P) P call) (k : Nat) : CallOk (LoopCode P) P (stepCall tbl call (fun f => aloop f k)) := by
  intro fv args H r H' h W φ μ w u us hw hu hv
  unfold stepCall at h
  split at h
  · rename_i f first captured
    cases hu with
    | func la lb hva hvb =>
    rename_i va vb
    have hargs : VRs φ μ (first ++ args ++ captured) (va ++ us.toList ++ vb) := VRs.append (VRs.append ⟨la, hva⟩ hv) ⟨lb, hvb⟩
    generalize first ++ args ++ captured = all at h hargs
    have hrun : ∀ {fn : Func}, P.funcs[f]? = some fn → fn.body.isSome = true → fn.name ≠ "runtime.NumGoroutine" → (do let d ← Deferred.ofValue (.func (.func f) va.toArray vb.toArray) us; invoke d.target d.args : Sem Next).run P w = .ok (.enter f (va ++ us.toList ++ vb).toArray) w := by
      intro fn h1 h2 h3
      have : (va.toArray ++ us ++ vb.toArray) = (va ++ us.toList ++ vb).toArray := by apply Array.ext'; simp
      simp only [Deferred.ofValue, Sem.run_bind, Sem.run_pure, Result.andThen_ok, invoke]
      rw [this]
      exact run_callFunc h1 h2 h3 _
    split at h
    · rename_i g htb
      obtain ⟨⟨fn, h1, h2, h3⟩, hlaw⟩ := ht f _ htb
      split at h
      · rename_i hp
        split at h
        · rename_i r' hg
          simp only [Option.some.injEq, Prod.mk.injEq] at h
          obtain ⟨rfl, rfl⟩ := h
          rw [hrun h1 h2 h3]
          exact ⟨⟨_, _, _, rfl⟩, fun n => hlaw _ _ hp hg n W φ μ H w _ hw hargs⟩
        · simp at h
      · simp at h
    · rename_i af htb
      obtain ⟨fn, pure, frz, keptL, h1, h2⟩ := ht f _ htb
      have h3 := convFunc_facts h2
      rw [hrun h1 h3.1 h3.2]
      refine ⟨⟨_, _, _, rfl⟩, fun n => ?_⟩
      split at h
      · split at h
        · rename_i hp
          have hv0 : VRs φ [] all (va ++ us.toList ++ vb) := ⟨hargs.1, fun i x v g1 g2 => (hargs.2 i x v g1 g2).plainly (plains_get hp g1)⟩
          have hbeh : ∀ {w' : World}, Below w.heap.size w w' → WR (LoopCode P) W (fun k b => if b < w.heap.size then φ k b else w'.heap[b]?) μ H w' ∧ FExt φ (fun k b => if b < w.heap.size then φ k b else w'.heap[b]?) := fun {w'} hb =>
            hw.behind hb (fun k b hlt => by simp [hlt]) (fun k b o hle hb => by
              rw [if_neg (by omega)] at hb; exact hb) (fun b o hle hb => by
              rw [if_neg (by omega)] at hb ⊢; exact hb)
          split at h
          · split at h
            · rename_i r' hrp
              simp only [Option.some.injEq, Prod.mk.injEq] at h
              obtain ⟨rfl, rfl⟩ := h
              refine CallsIn.mono (sim_pure hcall h1 h2 hrp hw.frz hw.sub hv0) ?_
              rintro e w' ⟨v, rfl, hb, hvr⟩
              obtain ⟨g1, g2⟩ := hbeh hb
              exact ⟨v, rfl, _, μ, g2, MExt.refl μ, g1, hvr.mono (FExt.refl _) ⟨by simp, fun id l h => by simp at h⟩⟩
            · simp at h
          · split at h
            · rename_i r' hrp
              simp only [Option.some.injEq, Prod.mk.injEq] at h
              obtain ⟨rfl, rfl⟩ := h
              refine CallsIn.mono (sim_pure hcall h1 h2 hrp hw.frz hw.sub (hv0.lends hw.sub)) ?_
              rintro e w' ⟨v, rfl, hb, hvr⟩
              obtain ⟨g1, g2⟩ := hbeh hb
              have hvr' : VR _ μ r' v := hvr.mono (FExt.refl _) ⟨by simp, fun id l h => by simp at h⟩
              refine ⟨v, rfl, _, μ, g2, MExt.refl μ, g1, ?_⟩
              split
              · exact hvr'
              · exact hvr'.lend g1.sub
            · simp at h
        · split at h
          · rename_i args' hre
            split at h
            · rename_i r' hrp
              split at h
              · rename_i hsc
                simp only [Option.some.injEq, Prod.mk.injEq] at h
                obtain ⟨rfl, rfl⟩ := h
                -- all that is stays, for the call's time
                have hbase : ∀ b o, φ false b = some o → w.heap[b]? = some o := fun b o hb => hw.frz false b o hb
                have hv1 : VRs (fun _ b => w.heap[b]?) [] args' (va ++ us.toList ++ vb) := optMap_VRs hw (fun k b o hb => hw.frz k b o hb) (fun _ _ _ _ _ _ => rfl) hre hargs
                have hv0 : VRs (fun k b => if k = true then w.heap[b]? else φ false b) [] (AV.lends args') (va ++ us.toList ++ vb) := by
                  refine ⟨by rw [lends_length]; exact hv1.1, fun i y v g1 g2 => ?_⟩
                  obtain ⟨x, f1, rfl⟩ := lends_get g1
                  exact (hv1.2 i x v f1 g2).lendTo (fun k b o h => by simpa using h)
                refine CallsIn.mono (sim_pure hcall h1 h2 hrp (fun k b o hb => by
                  cases k with
                  | true => simpa using hb
                  | false => exact hbase b o (by simpa using hb)) (fun b o hb => by simpa using hbase b o (by simpa using hb)) hv0) ?_
                rintro e w' ⟨v, rfl, hb, hvr⟩
                obtain ⟨g1, g2⟩ := hw.behind (ψ := fun k b => if b < w.heap.size then φ k b else w'.heap[b]?) hb (fun k b hlt => by simp [hlt]) (fun k b o hle hb => by
                  rw [if_neg (by omega)] at hb; exact hb) (fun b o hle hb => by
                  rw [if_neg (by omega)] at hb ⊢; exact hb)
                exact ⟨v, rfl, _, μ, g2, MExt.refl μ, g1, hvr.unlently (fun b o hb => by simpa using hb) hsc⟩
              · simp at h
            · simp at h
          · simp at h
      · split at h
        · rename_i r' H2 hrb
          simp only [Option.some.injEq] at h
          refine CallsIn.mono (sim_body (W := W) hcall h1 h2 hrb hw hargs) ?_
          rintro e w' ⟨v, rfl, φ', μ', e1, e2, hw', hv'⟩
          obtain ⟨φ2, μ2, f1, g1, g2, g3⟩ := sim_close_call h hw' hv' hw.len e2
          exact ⟨v, rfl, φ2, μ2, e1.trans f1, g1, g2, g3⟩
        · simp at h
    · simp at h
  · rename_i id gen
    split at h
    · rename_i r' H2 hrr
      simp only [Option.some.injEq] at h
      have := sim_round hcall hrr hw hu hv
      generalize (do let d ← Deferred.ofValue u us; invoke d.target d.args : Sem Next).run P w = res at this ⊢
      cases res with
      | halt x w' => exact this.elim
      | ok nx w' =>
        cases nx <;> simp only [Goes] at this ⊢ <;> (try exact this.elim)
        case enter => obtain ⟨⟨_, _, _, e⟩, _⟩ := this; simp at e
        case round =>
          refine ⟨this.1, fun n => RoundIn.mono (this.2 n) ?_⟩
          rintro e w'' ⟨v, rfl, φ', μ', e1, e2, hw', hv'⟩
          obtain ⟨μ2, g1, g2, g3⟩ := sim_trunc h hw' hv' hw.len e2
          exact ⟨v, rfl, φ', μ2, e1, g1, g2, g3⟩
    · simp at h
  · simp at h

/-- **CALLS.** -/
theorem callK_ok {tbl : FuncId → Option AFun} (ht : TblOk P tbl) : ∀ k, CallOk (LoopCode P) P (callK tbl k)
  | 0 => fun fv args H r H' h => by simp [callK] at h
  | k + 1 => stepCall_ok ht (callK_ok ht k) k

/-- A call from the world that the machine begins in. -/
theorem callK_calls {tbl : FuncId → Option AFun} (ht : TblOk P tbl) {k : Nat} {f : FuncId} {args : List AV} {r : AV} {H' : Heap} (h : callK tbl k (.func f [] []) args [] = some (r, H')) (hφ : ∀ k b o, φ k b = some o → w.heap[b]? = some o) (hs : ∀ b o, φ false b = some o → φ true b = some o)
    {vs : Array Value} (hv : VRs φ [] args vs.toList) : Calls P f vs w (fun e w' => ∃ v, e = .returned v ∧ Below w.heap.size w w' ∧ ∃ φ' μ', VR φ' μ' r v) := by
  have := callK_ok ht k _ _ _ _ _ h { w with φ0 := φ } φ [] w (.func (.func f) #[] #[]) vs (WR.start hφ hs) (.func (va := []) (vb := []) rfl rfl (fun i x v h => by simp at h) (fun i x v h => by simp at h)) hv
  generalize hres : (do let d ← Deferred.ofValue (.func (.func f) #[] #[]) vs; invoke d.target d.args : Sem Next).run P w = res at this
  cases res with
  | halt x w' => exact this.elim
  | ok nx w' =>
    cases nx <;> simp only [Goes] at this <;> (try exact this.elim)
    case round => obtain ⟨⟨_, _, e⟩, _⟩ := this; simp at e
    case enter f' args' =>
      have hq : f' = f ∧ args' = vs ∧ w' = w := by
        cases k with
        | zero => simp [callK] at h
        | succ k =>
          simp only [callK, stepCall] at h
          have hsome : ∃ x, tbl f = some x := by
            cases htb : tbl f with
            | none => rw [htb] at h; simp at h
            | some x => exact ⟨x, rfl⟩
          obtain ⟨x, hx⟩ := hsome
          have hfn : ∃ fn, P.funcs[f]? = some fn ∧ fn.body.isSome = true ∧ fn.name ≠ "runtime.NumGoroutine" := by
            have := ht f x hx
            cases x with
            | code af => obtain ⟨fn, _, _, _, g1, g2⟩ := this; exact ⟨fn, g1, convFunc_facts g2⟩
            | law g => exact this.1
          obtain ⟨fn, g1, g2, g3⟩ := hfn
          simp only [Deferred.ofValue, Sem.run_bind, Sem.run_pure, Result.andThen_ok, invoke] at hres
          rw [run_callFunc g1 g2 g3] at hres
          simp at hres
          exact ⟨hres.1.1.symm, hres.1.2.symm, hres.2.symm⟩
      obtain ⟨rfl, rfl, rfl⟩ := hq
      refine (callsIn_wide (n := 0)).1 (CallsIn.mono (this.2 0) ?_)
      rintro e w'' ⟨v, rfl, φ', μ', _, _, hw', hv'⟩
      exact ⟨v, rfl, hw'.below, φ', μ', hv'⟩

end Go.Abs

