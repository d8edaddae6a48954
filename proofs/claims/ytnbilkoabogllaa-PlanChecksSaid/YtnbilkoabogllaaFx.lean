/- The program's data as plain Lean, and what stands for it. -/
import Derived.Test.YtnbilkoabogllaaA35x
import Derived.Test.YtnbilkoabogllaaA29x
set_option linter.unusedSimpArgs false
set_option linter.unusedVariables false
namespace Go.Abs
open Enc (Is)

structure Val where
  kind : Int
  n : Int
  s : ByteArray
  deriving DecidableEq, Inhabited
structure Term where
  kind : Int
  name : ByteArray
  v : Val
  deriving DecidableEq, Inhabited
structure Atom where
  pred : ByteArray
  args : List Term
  deriving DecidableEq, Inhabited
structure Lit where
  kind : Int
  atom : Atom
  op : Int
  a : Term
  b : Term
  deriving DecidableEq, Inhabited
structure Rule where
  head : Atom
  body : List Lit
  deriving DecidableEq, Inhabited
structure Col where
  use : Int
  var : Int
  v : Val
  deriving DecidableEq, Inhabited
structure Step where
  op : Int
  lit : Int
  pred : ByteArray
  old : Bool
  cols : List Col
  cmp : Int
  a : Col
  b : Col
  deriving DecidableEq, Inhabited
structure Plan where
  vars : List ByteArray
  steps : List Step
  pred : ByteArray
  head : List Col
  deriving DecidableEq, Inhabited

def zeroVal : Val := ⟨0, 0, ⟨#[]⟩⟩
def zeroCol : Col := ⟨0, 0, zeroVal⟩

abbrev i64 (n : Int) : AV := .int .i64 n
abbrev Val.enc (x : Val) : AV := .agg [i64 x.kind, i64 x.n, .str x.s]
abbrev Term.enc (t : Term) : AV := .agg [i64 t.kind, .str t.name, i64 t.v.kind, i64 t.v.n, .str t.v.s]
abbrev Col.enc (c : Col) : AV := .agg [i64 c.use, i64 c.var, i64 c.v.kind, i64 c.v.n, .str c.v.s]

instance : Enc Val where
  Is v x := v = x.enc
  lend := by rintro v x rfl; rfl
  plain := by rintro v x rfl; rfl
  sz := 3
  row := by rintro v x rfl; rfl
instance : Enc Term where
  Is v x := v = x.enc
  lend := by rintro v x rfl; rfl
  plain := by rintro v x rfl; rfl
  sz := 5
  row := by rintro v x rfl; rfl
instance : Enc Col where
  Is v x := v = x.enc
  lend := by rintro v x rfl; rfl
  plain := by rintro v x rfl; rfl
  sz := 5
  row := by rintro v x rfl; rfl

theorem isl_cell {α : Type} [Enc α] {v : AV} {xs : List α} (h : Is v xs) : v.isCell = true ∧ v.cells = [v] := by
  rcases h with ⟨rfl, _⟩ | ⟨fl, rows, rfl, _⟩ <;> exact ⟨rfl, rfl⟩

instance : Enc Atom where
  Is v x := ∃ a, Is a x.args ∧ v = .agg [.str x.pred, a]
  lend := by rintro v x ⟨a, h, rfl⟩; exact ⟨a.lend, Enc.lend h, rfl⟩
  plain := by rintro v x ⟨a, h, rfl⟩; simp [Enc.plain h]
  sz := 2
  row := by rintro v x ⟨a, h, rfl⟩; simp [AV.rowok, (isl_cell h).1]

abbrev Lit.encW (l : Lit) (a : AV) : AV := .agg [i64 l.kind, .str l.atom.pred, a, i64 l.op, i64 l.a.kind, .str l.a.name, i64 l.a.v.kind, i64 l.a.v.n, .str l.a.v.s, i64 l.b.kind, .str l.b.name, i64 l.b.v.kind, i64 l.b.v.n, .str l.b.v.s]
instance : Enc Lit where
  Is v x := ∃ a, Is a x.atom.args ∧ v = x.encW a
  lend := by rintro v x ⟨a, h, rfl⟩; exact ⟨a.lend, Enc.lend h, rfl⟩
  plain := by rintro v x ⟨a, h, rfl⟩; simp [Enc.plain h]
  sz := 14
  row := by rintro v x ⟨a, h, rfl⟩; simp [AV.rowok, (isl_cell h).1]

instance : Enc Rule where
  Is v x := ∃ a b, Is a x.head.args ∧ Is b x.body ∧ v = .agg [.str x.head.pred, a, b]
  lend := by rintro v x ⟨a, b, h, h', rfl⟩; exact ⟨a.lend, b.lend, Enc.lend h, Enc.lend h', rfl⟩
  plain := by rintro v x ⟨a, b, h, h', rfl⟩; simp [Enc.plain h, Enc.plain h']
  sz := 3
  row := by rintro v x ⟨a, b, h, h', rfl⟩; simp [AV.rowok, (isl_cell h).1, (isl_cell h').1]

abbrev Step.encW (s : Step) (c : AV) : AV := .agg [i64 s.op, i64 s.lit, .str s.pred, .bool s.old, c, i64 s.cmp, i64 s.a.use, i64 s.a.var, i64 s.a.v.kind, i64 s.a.v.n, .str s.a.v.s, i64 s.b.use, i64 s.b.var, i64 s.b.v.kind, i64 s.b.v.n, .str s.b.v.s]
instance : Enc Step where
  Is v x := ∃ c, Is c x.cols ∧ v = x.encW c
  lend := by rintro v x ⟨a, h, rfl⟩; exact ⟨a.lend, Enc.lend h, rfl⟩
  plain := by rintro v x ⟨a, h, rfl⟩; simp [Enc.plain h]
  sz := 16
  row := by rintro v x ⟨a, h, rfl⟩; simp [AV.rowok, (isl_cell h).1]

instance : Enc Plan where
  Is v x := ∃ a b c, Is a x.vars ∧ Is b x.steps ∧ Is c x.head ∧ v = .agg [a, b, .str x.pred, c]
  lend := by rintro v x ⟨a, b, c, h1, h2, h3, rfl⟩; exact ⟨a.lend, b.lend, c.lend, Enc.lend h1, Enc.lend h2, Enc.lend h3, rfl⟩
  plain := by rintro v x ⟨a, b, c, h1, h2, h3, rfl⟩; simp [Enc.plain h1, Enc.plain h2, Enc.plain h3]
  sz := 4
  row := by rintro v x ⟨a, b, c, h1, h2, h3, rfl⟩; simp [AV.rowok, (isl_cell h1).1, (isl_cell h2).1, (isl_cell h3).1]

end Go.Abs

/- Shapes of arguments, told apart: what a rule, a plan are. -/
set_option linter.unusedSimpArgs false
set_option linter.unusedVariables false
namespace Go.Abs
open Enc (Is)

inductive Ty where
  | int | str | bool | sl (e : Ty) | st (fs : Ty) | nil | cons (f r : Ty)
def Ty.agg : Ty → Bool
  | .st _ => true
  | _ => false
mutual
def tyB (P : Program) : Ty → TypeId → Bool
  | .int, t => match P.underlying t with | some (.int .i64) => true | _ => false
  | .str, t => match P.underlying t with | some .string => true | _ => false
  | .bool, t => match P.underlying t with | some .bool => true | _ => false
  | .sl e, t => match P.underlying t with | some (.slice u) => tyB P e u | _ => false
  | .st fs, t => match P.underlying t with | some (.struct a) => tyFs P fs a.toList | _ => false
  | .nil, _ => false
  | .cons _ _, _ => false
def tyFs (P : Program) : Ty → List Field → Bool
  | .nil, l => l.isEmpty
  | .cons f r, a :: l => tyB P f a.type && tyFs P r l
  | .cons _ _, [] => false
  | .int, _ => false
  | .str, _ => false
  | .bool, _ => false
  | .sl _, _ => false
  | .st _, _ => false
end
mutual
def ShapeT : Ty → List AV → Prop
  | .int, xs => ∃ n, xs = [i64 n] ∧ IntKind.i64.wrap n = n
  | .str, xs => ∃ s, xs = [.str s]
  | .bool, xs => ∃ b, xs = [.bool b]
  | .sl e, xs => ∃ rows, xs = [.fsl false rows] ∧ rows.length < 2 ^ 63 ∧ ∀ r ∈ rows, ShapeT e r.cells ∧ (if e.agg = true then ∃ cs, r = .agg cs else r.isCell = true)
  | .st fs, xs => ShapeTs fs xs
  | .nil, _ => False
  | .cons _ _, _ => False
def ShapeTs : Ty → List AV → Prop
  | .nil, xs => xs = []
  | .cons f r, xs => ∃ a b, xs = a ++ b ∧ ShapeT f a ∧ ShapeTs r b
  | .int, _ => False
  | .str, _ => False
  | .bool, _ => False
  | .sl _, _ => False
  | .st _, _ => False
end
theorem tyB_agg {P : Program} {ty : Ty} {t : TypeId} (h : tyB P ty t = true) : (((P.underlying t).map TypeDesc.isAgg) = some true) ↔ ty.agg = true := by
  cases ty <;> simp only [tyB] at h <;> (try (simp at h; done)) <;> (split at h <;> (try (simp at h; done))) <;> rename_i hu <;> rw [hu] <;> simp [Ty.agg, TypeDesc.isAgg]
theorem Shape.int_inv {P : Program} {t : TypeId} {xs : List AV} {k : IntKind} (hu : P.underlying t = some (.int k)) (hs : Shape P t xs) : ∃ n, xs = [.int k n] ∧ (Lit.int k n).wf = true := by
  cases hs with
  | bool h b => rw [hu] at h; simp at h
  | int h n hw => rw [hu] at h; simp at h; subst h; exact ⟨n, rfl, hw⟩
  | str h s hl => rw [hu] at h; simp at h
  | fsl h rows hl hr hk => rw [hu] at h; simp at h
  | struct h xss hx hl hf => rw [hu] at h; simp at h
theorem Shape.str_inv {P : Program} {t : TypeId} {xs : List AV} (hu : P.underlying t = some .string) (hs : Shape P t xs) : ∃ s, xs = [.str s] := by
  cases hs with
  | bool h b => rw [hu] at h; simp at h
  | int h n hw => rw [hu] at h; simp at h
  | str h s hl => exact ⟨s, rfl⟩
  | fsl h rows hl hr hk => rw [hu] at h; simp at h
  | struct h xss hx hl hf => rw [hu] at h; simp at h
theorem Shape.bool_inv {P : Program} {t : TypeId} {xs : List AV} (hu : P.underlying t = some .bool) (hs : Shape P t xs) : ∃ b, xs = [.bool b] := by
  cases hs with
  | bool h b => exact ⟨b, rfl⟩
  | int h n hw => rw [hu] at h; simp at h
  | str h s hl => rw [hu] at h; simp at h
  | fsl h rows hl hr hk => rw [hu] at h; simp at h
  | struct h xss hx hl hf => rw [hu] at h; simp at h
theorem Shape.sl_inv {P : Program} {t e : TypeId} {xs : List AV} (hu : P.underlying t = some (.slice e)) (hs : Shape P t xs) :
    ∃ rows, xs = [.fsl false rows] ∧ rows.length ≤ maxLen ∧ (∀ r ∈ rows, Shape P e r.cells) ∧ ∀ r ∈ rows, if ((P.underlying e).map TypeDesc.isAgg) = some true then ∃ cs, r = .agg cs else r.isCell = true := by
  cases hs with
  | bool h b => rw [hu] at h; simp at h
  | int h n hw => rw [hu] at h; simp at h
  | str h s hl => rw [hu] at h; simp at h
  | fsl h rows hl hr hk => rw [hu] at h; simp at h; subst h; exact ⟨rows, rfl, hl, hr, hk⟩
  | struct h xss hx hl hf => rw [hu] at h; simp at h
theorem Shape.st_inv {P : Program} {t : TypeId} {xs : List AV} {fs : Array Field} (hu : P.underlying t = some (.struct fs)) (hs : Shape P t xs) :
    ∃ xss : List (List AV), xs = xss.flatten ∧ xss.length = fs.size ∧ ∀ (i : Nat) (f : Field) (ys : List AV), fs[i]? = some f → xss[i]? = some ys → Shape P f.type ys := by
  cases hs with
  | bool h b => rw [hu] at h; simp at h
  | int h n hw => rw [hu] at h; simp at h
  | str h s hl => rw [hu] at h; simp at h
  | fsl h rows hl hr hk => rw [hu] at h; simp at h
  | struct h xss hx hl hf => rw [hu] at h; simp at h; subst h; exact ⟨xss, hx, hl, hf⟩

mutual
theorem shape_T {P : Program} : ∀ (ty : Ty) {t : TypeId} {xs : List AV}, tyB P ty t = true → Shape P t xs → ShapeT ty xs
  | .int, t, xs, h, hs => by
    simp only [tyB] at h
    split at h
    · rename_i hu
      obtain ⟨n, rfl, hw⟩ := hs.int_inv hu
      simp [Lit.wf, IntKind.min, IntKind.max, IntKind.signed, IntKind.bits] at hw
      exact ⟨n, rfl, wrap_i64 (by omega) (by omega)⟩
    · simp at h
  | .str, t, xs, h, hs => by
    simp only [tyB] at h
    split at h
    · rename_i hu; exact hs.str_inv hu
    · simp at h
  | .bool, t, xs, h, hs => by
    simp only [tyB] at h
    split at h
    · rename_i hu; exact hs.bool_inv hu
    · simp at h
  | .sl e, t, xs, h, hs => by
    simp only [tyB] at h
    split at h
    · rename_i u hu
      obtain ⟨rows, rfl, h1, h2, h3⟩ := hs.sl_inv hu
      refine ⟨rows, rfl, by unfold maxLen at h1; omega, fun r hr => ⟨shape_T e h (h2 r hr), ?_⟩⟩
      have := h3 r hr
      by_cases ha : e.agg = true
      · rw [if_pos ((tyB_agg h).2 ha)] at this; rw [if_pos ha]; exact this
      · rw [if_neg (fun hx => ha ((tyB_agg h).1 hx))] at this; rw [if_neg ha]; exact this
    · simp at h
  | .st fs, t, xs, h, hs => by
    simp only [tyB] at h
    split at h
    · rename_i a hu
      obtain ⟨xss, rfl, h1, h2⟩ := hs.st_inv hu
      exact shape_Ts fs h (by simpa using h1) (fun i f ys g1 g2 => h2 i f ys (by simpa using g1) g2)
    · simp at h
  | .nil, t, xs, h, hs => by simp [tyB] at h
  | .cons _ _, t, xs, h, hs => by simp [tyB] at h
theorem shape_Ts {P : Program} : ∀ (ty : Ty) {l : List Field} {xss : List (List AV)}, tyFs P ty l = true → xss.length = l.length → (∀ (i : Nat) (f : Field) (ys : List AV), l[i]? = some f → xss[i]? = some ys → Shape P f.type ys) → ShapeTs ty xss.flatten
  | .nil, l, xss, h, hl, hf => by
    simp only [tyFs, List.isEmpty_iff] at h
    subst h
    have : xss = [] := List.length_eq_zero_iff.1 (by simpa using hl)
    subst this; rfl
  | .cons f r, [], xss, h, hl, hf => by simp [tyFs] at h
  | .cons f r, a :: l, [], h, hl, hf => by simp at hl
  | .cons f r, a :: l, xs :: xss, h, hl, hf => by
    simp only [tyFs, Bool.and_eq_true] at h
    exact ⟨xs, xss.flatten, by simp, shape_T f h.1 (hf 0 a xs rfl rfl), shape_Ts r h.2 (by simpa using hl) (fun i f ys g1 g2 => hf (i + 1) f ys (by simpa using g1) (by simpa using g2))⟩
  | .int, l, xss, h, hl, hf => by cases l <;> simp [tyFs] at h
  | .str, l, xss, h, hl, hf => by cases l <;> simp [tyFs] at h
  | .bool, l, xss, h, hl, hf => by cases l <;> simp [tyFs] at h
  | .sl _, l, xss, h, hl, hf => by cases l <;> simp [tyFs] at h
  | .st _, l, xss, h, hl, hf => by cases l <;> simp [tyFs] at h
end

def Ty.ofList : List Ty → Ty
  | [] => .nil
  | f :: r => .cons f (Ty.ofList r)
def Ty.struct (l : List Ty) : Ty := .st (Ty.ofList l)
def valTy : Ty := .struct [.int, .int, .str]
def termTy : Ty := .struct [.int, .str, valTy]
def atomTy : Ty := .struct [.str, .sl termTy]
def litTy : Ty := .struct [.int, atomTy, .int, termTy, termTy]
def ruleTy : Ty := .struct [atomTy, .sl litTy]

theorem all2_of {α : Type} [Enc α] {rows : List AV} {Q : α → Prop} (h : ∀ r ∈ rows, ∃ x : α, Is r x ∧ Q x) : ∃ xs : List α, All2 Is rows xs ∧ ∀ x ∈ xs, Q x := by
  induction rows with
  | nil => exact ⟨[], .nil, fun x hx => by cases hx⟩
  | cons r rows ih =>
    obtain ⟨x, h1, h2⟩ := h r (by simp)
    obtain ⟨xs, h3, h4⟩ := ih (fun r hr => h r (by simp [hr]))
    exact ⟨x :: xs, .cons h1 h3, fun y hy => by rcases List.mem_cons.1 hy with rfl | hy; exact h2; exact h4 y hy⟩
theorem sl_of {α : Type} [Enc α] {e : Ty} {xs : List AV} {Q : α → Prop} (ha : e.agg = true) (h : ShapeT (.sl e) xs) (hd : ∀ cs : List AV, ShapeT e cs → ∃ x : α, Is (.agg cs) x ∧ Q x) : ∃ (v : AV) (ys : List α), xs = [v] ∧ Is v ys ∧ ys.length < 2 ^ 63 ∧ ∀ y ∈ ys, Q y := by
  obtain ⟨rows, rfl, hl, hr⟩ := h
  obtain ⟨ys, h1, h2⟩ := all2_of (α := α) (rows := rows) (Q := Q) (fun r hr' => by
    obtain ⟨g1, g2⟩ := hr r hr'
    rw [if_pos ha] at g2
    obtain ⟨cs, rfl⟩ := g2
    exact hd cs g1)
  exact ⟨_, ys, rfl, IsL.fsl h1, by have := h1.length; omega, h2⟩
theorem term_cells {cs : List AV} (h : ShapeT termTy cs) : ∃ t : Term, cs = [i64 t.kind, .str t.name, i64 t.v.kind, i64 t.v.n, .str t.v.s] := by
  simp only [termTy, valTy, Ty.struct, Ty.ofList, ShapeT, ShapeTs] at h
  obtain ⟨_, b1, rfl, ⟨k, rfl, _⟩, _, b2, rfl, ⟨nm, rfl⟩, _, b3, rfl, ⟨_, c1, rfl, ⟨vk, rfl, _⟩, _, c2, rfl, ⟨vn, rfl, _⟩, _, c3, rfl, ⟨vs, rfl⟩, rfl⟩, rfl⟩ := h
  exact ⟨⟨k, nm, ⟨vk, vn, vs⟩⟩, rfl⟩
theorem term_is {cs : List AV} (h : ShapeT termTy cs) : ∃ t : Term, Is (.agg cs) t ∧ True := by
  obtain ⟨t, rfl⟩ := term_cells h
  exact ⟨t, rfl, trivial⟩
def atomFits (a : Atom) : Prop := a.args.length < 2 ^ 63
theorem atom_cells {cs : List AV} (h : ShapeT atomTy cs) : ∃ (x : Atom) (v : AV), cs = [.str x.pred, v] ∧ Is v x.args ∧ atomFits x := by
  simp only [atomTy, Ty.struct, Ty.ofList, ShapeTs] at h
  rw [ShapeT] at h
  simp only [ShapeTs] at h
  obtain ⟨_, b1, rfl, h1, _, b2, rfl, h2, rfl⟩ := h
  rw [ShapeT] at h1
  obtain ⟨p, rfl⟩ := h1
  obtain ⟨v, ts, rfl, g1, g2, _⟩ := sl_of (α := Term) (Q := fun _ => True) rfl h2 (fun cs => term_is)
  exact ⟨⟨p, ts⟩, v, rfl, g1, g2⟩
theorem lit_is {cs : List AV} (h : ShapeT litTy cs) : ∃ l : Lit, Is (.agg cs) l ∧ atomFits l.atom := by
  rw [litTy, Ty.struct, ShapeT] at h
  simp only [Ty.ofList, ShapeTs] at h
  obtain ⟨_, b1, rfl, h1, _, b2, rfl, h2, _, b3, rfl, h3, _, b4, rfl, h4, _, b5, rfl, h5, rfl⟩ := h
  rw [ShapeT] at h1 h3
  obtain ⟨k, rfl, _⟩ := h1
  obtain ⟨op, rfl, _⟩ := h3
  obtain ⟨x, v, rfl, g1, g2⟩ := atom_cells h2
  obtain ⟨a, rfl⟩ := term_cells h4
  obtain ⟨b, rfl⟩ := term_cells h5
  exact ⟨⟨k, x, op, a, b⟩, ⟨v, g1, rfl⟩, g2⟩
structure RuleBig (r : Rule) : Prop where
  head : r.head.args.length < 2 ^ 63
  body : r.body.length < 2 ^ 63
  args : ∀ l ∈ r.body, l.atom.args.length < 2 ^ 63
theorem rule_is {cs : List AV} (h : ShapeT ruleTy cs) : ∃ r : Rule, Is (.agg cs) r ∧ RuleBig r := by
  rw [ruleTy, Ty.struct, ShapeT] at h
  simp only [Ty.ofList, ShapeTs] at h
  obtain ⟨_, b1, rfl, h1, _, b2, rfl, h2, rfl⟩ := h
  obtain ⟨x, v, rfl, g1, g2⟩ := atom_cells h1
  obtain ⟨w, ls, rfl, g3, g4, g5⟩ := sl_of (α := Lit) (Q := fun l => atomFits l.atom) rfl h2 (fun cs => lit_is)
  exact ⟨⟨x, ls⟩, ⟨v, w, g1, g3, rfl⟩, g2, g4, g5⟩
theorem rule_of {P : Program} {t : TypeId} {v : AV} (ht : tyB P ruleTy t = true) (h : ShapeV P t v) : ∃ r : Rule, Is v r ∧ RuleBig r := by
  have h2 := h.2
  rw [if_pos ((tyB_agg ht).2 rfl)] at h2
  obtain ⟨cs, rfl⟩ := h2
  exact rule_is (shape_T _ ht h.1)
theorem int_of {P : Program} {t : TypeId} {v : AV} (ht : tyB P .int t = true) (h : ShapeV P t v) : ∃ n : Int, v = i64 n ∧ IntKind.i64.wrap n = n := by
  have h2 := h.2
  rw [if_neg (fun hx => by have := (tyB_agg ht).1 hx; simp [Ty.agg] at this)] at h2
  obtain ⟨n, h1, h3⟩ := shape_T _ ht h.1
  refine ⟨n, ?_, h3⟩
  cases v <;> simp [AV.isCell, AV.cells] at h1 h2 ⊢ <;> exact h1
end Go.Abs

/- Shapes of arguments: what a plan is. -/
set_option linter.unusedSimpArgs false
set_option linter.unusedVariables false
namespace Go.Abs
open Enc (Is)

def colTy : Ty := .struct [.int, .int, valTy]
def stepTy : Ty := .struct [.int, .int, .str, .bool, .sl colTy, .int, colTy, colTy]
def planTy : Ty := .struct [.sl .str, .sl stepTy, .str, .sl colTy]

theorem sl_strs {xs : List AV} (h : ShapeT (.sl .str) xs) : ∃ (v : AV) (ys : List ByteArray), xs = [v] ∧ Is v ys ∧ ys.length < 2 ^ 63 := by
  obtain ⟨rows, rfl, hl, hr⟩ := h
  obtain ⟨ys, h1, _⟩ := all2_of (α := ByteArray) (rows := rows) (Q := fun _ => True) (fun r hr' => by
    obtain ⟨g1, g2⟩ := hr r hr'
    rw [if_neg (by simp [Ty.agg])] at g2
    rw [ShapeT] at g1
    obtain ⟨s, hs⟩ := g1
    refine ⟨s, ?_, trivial⟩
    show r = .str s
    cases r <;> simp [AV.isCell, AV.cells] at g2 hs ⊢ <;> exact hs)
  exact ⟨_, ys, rfl, IsL.fsl h1, by have := h1.length; omega⟩
theorem col_cells {cs : List AV} (h : ShapeT colTy cs) : ∃ c : Col, cs = [i64 c.use, i64 c.var, i64 c.v.kind, i64 c.v.n, .str c.v.s] := by
  simp only [colTy, valTy, Ty.struct, Ty.ofList, ShapeT, ShapeTs] at h
  obtain ⟨_, b1, rfl, ⟨k, rfl, _⟩, _, b2, rfl, ⟨nm, rfl, _⟩, _, b3, rfl, ⟨_, c1, rfl, ⟨vk, rfl, _⟩, _, c2, rfl, ⟨vn, rfl, _⟩, _, c3, rfl, ⟨vs, rfl⟩, rfl⟩, rfl⟩ := h
  exact ⟨⟨k, nm, ⟨vk, vn, vs⟩⟩, rfl⟩
theorem col_is {cs : List AV} (h : ShapeT colTy cs) : ∃ t : Col, Is (.agg cs) t ∧ True := by
  obtain ⟨t, rfl⟩ := col_cells h
  exact ⟨t, rfl, trivial⟩
theorem step_is {cs : List AV} (h : ShapeT stepTy cs) : ∃ s : Step, Is (.agg cs) s ∧ s.cols.length < 2 ^ 63 := by
  rw [stepTy, Ty.struct, ShapeT] at h
  simp only [Ty.ofList, ShapeTs] at h
  obtain ⟨_, b1, rfl, h1, _, b2, rfl, h2, _, b3, rfl, h3, _, b4, rfl, h4, _, b5, rfl, h5, _, b6, rfl, h6, _, b7, rfl, h7, _, b8, rfl, h8, rfl⟩ := h
  simp only [ShapeT] at h1 h2 h3 h4 h6
  obtain ⟨op, rfl, _⟩ := h1
  obtain ⟨lit, rfl, _⟩ := h2
  obtain ⟨pr, rfl⟩ := h3
  obtain ⟨old, rfl⟩ := h4
  obtain ⟨cmp, rfl, _⟩ := h6
  obtain ⟨v, ts, rfl, g1, g2, _⟩ := sl_of (α := Col) (Q := fun _ => True) rfl h5 (fun cs => col_is)
  obtain ⟨a, rfl⟩ := col_cells h7
  obtain ⟨b, rfl⟩ := col_cells h8
  exact ⟨⟨op, lit, pr, old, ts, cmp, a, b⟩, ⟨v, g1, rfl⟩, g2⟩
structure PlanBig (p : Plan) : Prop where
  vars : p.vars.length < 2 ^ 63
  steps : p.steps.length < 2 ^ 63
  head : p.head.length < 2 ^ 63
  cols : ∀ s ∈ p.steps, s.cols.length < 2 ^ 63
theorem plan_is {cs : List AV} (h : ShapeT planTy cs) : ∃ p : Plan, Is (.agg cs) p ∧ PlanBig p := by
  rw [planTy, Ty.struct, ShapeT] at h
  simp only [Ty.ofList, ShapeTs] at h
  obtain ⟨_, b1, rfl, h1, _, b2, rfl, h2, _, b3, rfl, h3, _, b4, rfl, h4, rfl⟩ := h
  obtain ⟨v1, xs, rfl, g1, g2⟩ := sl_strs h1
  obtain ⟨v2, ss, rfl, g3, g4, g5⟩ := sl_of (α := Step) (Q := fun s => s.cols.length < 2 ^ 63) rfl h2 (fun cs => step_is)
  simp only [ShapeT] at h3
  obtain ⟨pr, rfl⟩ := h3
  obtain ⟨v4, hs, rfl, g6, g7, _⟩ := sl_of (α := Col) (Q := fun _ => True) rfl h4 (fun cs => col_is)
  exact ⟨⟨xs, ss, pr, hs⟩, ⟨v1, v2, v4, g1, g3, g6, rfl⟩, g2, g4, g7, g5⟩
theorem plan_of {P : Program} {t : TypeId} {v : AV} (ht : tyB P planTy t = true) (h : ShapeV P t v) : ∃ p : Plan, Is v p ∧ PlanBig p := by
  have h2 := h.2
  rw [if_pos ((tyB_agg ht).2 rfl)] at h2
  obtain ⟨cs, rfl⟩ := h2
  exact plan_is (shape_T _ ht h.1)
end Go.Abs
