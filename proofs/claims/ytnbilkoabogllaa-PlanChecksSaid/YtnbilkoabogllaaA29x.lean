/- Abs 29: a law's contract, out of the interpreter's answer. -/
import Derived.Test.YtnbilkoabogllaaA28x
import Derived.ProofKit
set_option linter.unusedSimpArgs false
set_option linter.unusedVariables false
namespace Go.Abs
open Go.RowKit Go.ChangeShapes Go.WideShapes

variable {H : Type} {enc : TypeId × Value → H} {P : Program} {W : World}

inductive ShapeVs (P : Program) : List TypeId → List AV → Prop
  | nil : ShapeVs P [] []
  | cons {t : TypeId} {x : AV} {ts : List TypeId} {xs : List AV} (h : ShapeV P t x) (hs : ShapeVs P ts xs) : ShapeVs P (t :: ts) (x :: xs)

theorem values_shape {k : Nat} {base : Nat} : ∀ {ts : List TypeId} {vs : List Value} {ds : List (DataW H)} {ps : List MemPlace}, (ts.all fun t => flatB P k t) = true → (∀ (j : Nat) t v, ts[j]? = some t → vs[j]? = some v → Value.okWide P W .any base t v) →
    DataW.TrodAll enc P W 0 (fun _ => true) true ts vs ds ps → ∃ xs, ShapeVs P ts xs ∧ VRs (froz W) [] xs vs
  | [], [], ds, ps, _, _, h => ⟨[], .nil, VRs.nil⟩
  | [], _ :: _, ds, ps, _, _, h => by simp [DataW.TrodAll] at h
  | t :: ts, [], ds, ps, _, _, h => by cases ds <;> simp [DataW.TrodAll] at h
  | t :: ts, v :: vs, [], ps, _, _, h => by simp [DataW.TrodAll] at h
  | t :: ts, v :: vs, d :: ds, ps, hf, hv, h => by
    obtain ⟨p, q, h1, h2, _⟩ := h
    simp only [List.all_cons, Bool.and_eq_true] at hf
    obtain ⟨x, g1, g2⟩ := value_shape hf.1 (hv 0 t v rfl rfl) h1
    obtain ⟨xs, g3, g4⟩ := values_shape hf.2 (fun j t v e1 e2 => hv (j + 1) t v (by simpa using e1) (by simpa using e2)) h2
    exact ⟨x :: xs, .cons g1 g3, VRs.cons g2 g4⟩

theorem trodAll_below (hl : laidOutB P = true) {W' : World} (hb : Below W.heap.size W W') : ∀ {ts : List TypeId} {vs : List Value} {ds : List (DataW H)} {ps : List MemPlace}, (ts.all fun t => P.readableRec t && decide (t < P.types.size)) = true →
    DataW.TrodAll enc P W 0 (fun _ => true) true ts vs ds ps → (∀ x ∈ ps, x.block < W.heap.size) → DataW.TrodAll enc P W' 0 (fun b => decide (b < W.heap.size)) true ts vs ds ps
  | [], [], [], ps, _, h, _ => h
  | [], [], _ :: _, ps, _, h, _ => by simp [DataW.TrodAll] at h
  | [], _ :: _, ds, ps, _, h, _ => by simp [DataW.TrodAll] at h
  | t :: ts, [], ds, ps, _, h, _ => by cases ds <;> simp [DataW.TrodAll] at h
  | t :: ts, v :: vs, [], ps, _, h, _ => by simp [DataW.TrodAll] at h
  | t :: ts, v :: vs, d :: ds, ps, hf, h, hlt => by
    obtain ⟨p, q, h1, h2, rfl⟩ := h
    simp only [List.all_cons, Bool.and_eq_true, decide_eq_true_eq] at hf
    exact ⟨p, q, Below.trod hl hf.1.1 hf.1.2 h1 hb (fun x hx => hlt x (by simp [hx])), trodAll_below hl hb hf.2 h2 (fun x hx => hlt x (by simp [hx])), rfl⟩

/-- What is asked of a law. -/
def LawSays (P : Program) (tbl : FuncId → Option AFun) (f : FuncId) (ts : List TypeId) : Prop :=
  ∀ xs, ShapeVs P ts xs → ∃ k H', callK tbl k (.func f [] []) xs [] = some (.bool true, H')

theorem contract_of_abs {tbl : FuncId → Option AFun} (ht : TblOk P tbl) (hlaid : laidOutB P = true) {f : FuncId} {fn : Func} {s : ChangeSpec} (hvars : s.vars = []) {tb : TypeId} (hres : fn.resultTypes = #[tb]) (htb : P.underlying tb = some .bool) {k : Nat}
    (hflat : (fn.params.toList.all fun t => flatB P k t) = true) (hpar : (fn.params.toList.all fun t => P.readableRec t && decide (t < P.types.size)) = true)
    (hfn : ∀ ds : List (DataW H), ds.length = fn.params.toList.length → (s.fn H ds).results = [.lit (.bool true)] ∧ (s.fn H ds).args = ds ∧ (s.fn H ds).vars = [])
    (hlaw : LawSays P tbl f fn.params.toList) {base : Nat} {args : Array Value} {ds gs : List (DataW H)} {before : List MemPlace}
    (hval : ∀ (j : Nat) t v, fn.params[j]? = some t → args[j]? = some v → Value.okWide P W .any base t v)
    (hW : DataW.Whole enc P fn.params.toList s.vars false W args.toList ds gs before) :
    Calls P f args W fun e W' => ∃ v, e = .returned v ∧ s.post enc P fn false true false false W args v W' := by
  have hW0 := hW
  have hlt := hW.lt
  obtain ⟨p, q, hA, hV, rfl, hfz, hnd⟩ := hW
  rw [hvars] at hV
  have hgs : gs = [] ∧ q = [] := by
    cases gs with
    | nil => exact ⟨rfl, hV⟩
    | cons _ _ => exact hV.elim
  obtain ⟨rfl, rfl⟩ := hgs
  obtain ⟨xs, hx, hvr⟩ := values_shape hflat (fun j t v e1 e2 => hval j t v (by simpa using e1) (by simpa using e2)) hA
  obtain ⟨k, H', hk⟩ := hlaw xs hx
  have hlen : ∀ {ts : List TypeId} {vs : List Value} {ds : List (DataW H)} {ps : List MemPlace}, DataW.TrodAll enc P W 0 (fun _ => true) true ts vs ds ps → ds.length = ts.length := by
    intro ts
    induction ts with
    | nil => intro vs ds ps h; cases vs <;> cases ds <;> simp [DataW.TrodAll] at h ⊢
    | cons t ts ih =>
      intro vs ds ps h
      cases vs <;> cases ds <;> simp only [DataW.TrodAll] at h
      obtain ⟨_, _, _, h2, _⟩ := h
      simp [ih h2]
  obtain ⟨s1, s2, s3⟩ := hfn ds (hlen hA)
  refine (callK_calls ht hk (φ := froz W) (fun _ b o h => h) (fun b o h => h) hvr).mono ?_
  rintro e W' ⟨v, rfl, hb, φ', μ', hv⟩
  cases hv
  refine ⟨.bool true, rfl, ds, [], p ++ [], [], p, [], hW0, ?_, ?_, ?_, ?_, fun h => by simp at h⟩
  · rw [hres, List.append_nil, s1]
    exact trodAll_mk1 (shut_bool htb _)
  · rw [List.append_nil, s2]
    exact trodAll_below hlaid hb hpar hA (fun x hx => hlt x (by simp [hx]))
  · rw [hvars, List.append_nil, s3]; rfl
  · exact hb.frame _

end Go.Abs

