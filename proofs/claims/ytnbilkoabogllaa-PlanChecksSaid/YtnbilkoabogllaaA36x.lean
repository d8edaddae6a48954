/- Abs 36: ranges over functions. -/
import Derived.Test.YtnbilkoabogllaaA35x
set_option linter.unusedSimpArgs false
set_option linter.unusedVariables false
namespace Go.Abs
variable {call : CallF} {lp : LoopF} {tbl : FuncId → Option AFun}

/-- A function that hands 'items' to what it is given, one by one, till that says no; 'Inv': what it finds in the heap all the while. -/
def Iter (tbl : FuncId → Option AFun) (fv : AV) (items : List (List AV)) (Inv : Heap → Prop := fun _ => True) : Prop :=
  ∀ (y : AV) (J : List (List AV) → Heap → Prop) (E : Heap → Prop), (∀ rest H, J rest H → Inv H) →
    (∀ it rest H, J (it :: rest) H → ∃ H', (callW tbl y it H = some (.bool true, H') ∧ J rest H') ∨ (callW tbl y it H = some (.bool false, H') ∧ E H')) →
    ∀ H, J items H → ∃ H', callW tbl fv [y] H = some (trunc H.length (.tuple []) H') ∧ (J [] H' ∨ E H')

def RNDQ2 (l : Nat) (F : AV → Heap → Prop) (e : AExit) (s : St) : Prop := match s.heap[l]? with
  | some (.loop g _ _ tm ps a b) => g = 0 ∧ (match e with
    | .normal => F (.bool true) (s.heap.set l (.loop 0 .ready none tm ps a b))
    | e => F (.bool false) (s.heap.set l (.loop 0 .done (some e) tm ps a b)))
  | _ => False
def RNDQ1 (call : CallF) (lp : LoopF) (l : Nat) (b : ACode) (F : AV → Heap → Prop) (e : AExit) (s : St) : Prop := e = .normal ∧ match s.heap[l]? with
  | some (.loop g .ready pd tm ps a' b') => g = 0 ∧ EXEC call lp b [] { s with heap := s.heap.set l (.loop 0 .busy pd tm ps a' b') } (RNDQ2 l F)
  | _ => False
theorem RNDQ1_normal {l : Nat} {b : ACode} {F : AV → Heap → Prop} {s : St} {pd : Option AExit} {tm : Tm} {ps : List Nat} {a' b' : ACode} (hl : l < s.heap.length) (h : hat s.heap l = .loop 0 .ready pd tm ps a' b') :
    RNDQ1 call lp l b F .normal s = EXEC call lp b [] { s with heap := s.heap.set l (.loop 0 .busy pd tm ps a' b') } (RNDQ2 l F) := by
  have := of_hat hl h
  simp [RNDQ1, this]
theorem RNDQ2_normal {l : Nat} {F : AV → Heap → Prop} {s : St} {st : LoopState} {pd : Option AExit} {tm : Tm} {ps : List Nat} {a' b' : ACode} (hl : l < s.heap.length) (h : hat s.heap l = .loop 0 st pd tm ps a' b') :
    RNDQ2 l F .normal s = F (.bool true) (s.heap.set l (.loop 0 .ready none tm ps a' b')) := by
  have := of_hat hl h
  simp [RNDQ2, this]
theorem RNDQ2_exit {l j : Nat} {F : AV → Heap → Prop} {s : St} {st : LoopState} {pd : Option AExit} {tm : Tm} {ps : List Nat} {a' b' : ACode} (hl : l < s.heap.length) (h : hat s.heap l = .loop 0 st pd tm ps a' b') :
    RNDQ2 l F (.exit j) s = F (.bool false) (s.heap.set l (.loop 0 .done (some (.exit j)) tm ps a' b')) := by
  have := of_hat hl h
  simp [RNDQ2, this]
theorem RNDQ2_ret {l : Nat} {F : AV → Heap → Prop} {s : St} {st : LoopState} {pd : Option AExit} {tm : Tm} {ps : List Nat} {a' b' : ACode} (hl : l < s.heap.length) (h : hat s.heap l = .loop 0 st pd tm ps a' b') :
    RNDQ2 l F .ret s = F (.bool false) (s.heap.set l (.loop 0 .done (some .ret) tm ps a' b')) := by
  have := of_hat hl h
  simp [RNDQ2, this]

def RND1K (call : CallF) (lp : LoopF) (x : Blk) (l : Nat) (b : ACode) (s : St) (F : AV → Heap → Prop) : Prop := match x with
  | .loop g .ready pd tm ps a' b' => g = 0 ∧ EXEC call lp b [] { s with heap := s.heap.set l (.loop 0 .busy pd tm ps a' b') } (RNDQ2 l F)
  | _ => False
def RND2K (x : Blk) (l : Nat) (e : AExit) (s : St) (F : AV → Heap → Prop) : Prop := match x with
  | .loop g _ _ tm ps a b => g = 0 ∧ (match e with
    | .normal => F (.bool true) (s.heap.set l (.loop 0 .ready none tm ps a b))
    | e => F (.bool false) (s.heap.set l (.loop 0 .done (some e) tm ps a b)))
  | _ => False
section
variable {l : Nat} {b : ACode} {F : AV → Heap → Prop} {s : St} {st : LoopState} {pd : Option AExit} {tm : Tm} {ps : List Nat} {a' b' : ACode}
@[simp] theorem RNDQ1_n (hl : l < s.heap.length) : RNDQ1 call lp l b F .normal s = RND1K call lp (hat s.heap l) l b s F := by
  have := of_hat hl rfl
  simp only [RNDQ1, RND1K, this, true_and]
  generalize hat s.heap l = x
  cases x with
  | loop g st pd tm ps a b => cases st <;> rfl
  | _ => rfl
@[simp] theorem RNDQ2_e {e : AExit} (hl : l < s.heap.length) : RNDQ2 l F e s = RND2K (hat s.heap l) l e s F := by
  have := of_hat hl rfl
  simp only [RNDQ2, RND2K, this]
  generalize hat s.heap l = x
  cases x <;> rfl
@[simp] theorem RND1K_loop : RND1K call lp (.loop 0 .ready pd tm ps a' b') l b s F = EXEC call lp b [] { s with heap := s.heap.set l (.loop 0 .busy pd tm ps a' b') } (RNDQ2 l F) := by simp [RND1K]
@[simp] theorem RND2K_n : RND2K (.loop 0 st pd tm ps a' b') l .normal s F = F (.bool true) (s.heap.set l (.loop 0 .ready none tm ps a' b')) := by simp [RND2K]
@[simp] theorem RND2K_x {j : Nat} : RND2K (.loop 0 st pd tm ps a' b') l (.exit j) s F = F (.bool false) (s.heap.set l (.loop 0 .done (some (.exit j)) tm ps a' b')) := by simp [RND2K]
@[simp] theorem RND2K_r : RND2K (.loop 0 st pd tm ps a' b') l .ret s F = F (.bool false) (s.heap.set l (.loop 0 .done (some .ret) tm ps a' b')) := by simp [RND2K]
end

/-- One round. -/
theorem round_of {l : Nat} {it : List AV} {H : Heap} {st : LoopState} {pd : Option AExit} {tm : Tm} {ps : List Nat} {a b : ACode} (P : AV → Heap → Prop) (hl : l < H.length) (h : hat H l = .loop 0 st pd tm ps a b) (hlen : it.length = ps.length)
    (hrun : ∀ F : AV → Heap → Prop, (∀ v H', P v H' → F v H') → EXEC (callW tbl) loopW a [] { tm := tm.puts ps it, heap := H, dfr := [], rnd := some (l, 0) } (RNDQ1 (callW tbl) loopW l b F)) :
    ∃ v H', P v H' ∧ callW tbl (.yieldf l 0) it H = some (trunc H.length v H') := by
  obtain ⟨e1, s1, h1, he1, h2⟩ := hrun P (fun _ _ h => h)
  subst he1
  split at h2
  · rename_i g pd' tm' ps' a' b' hb1
    obtain ⟨rfl, e2, s2, h3, h4⟩ := h2
    simp only [kontQ, RNDQ2] at h4
    split at h4
    · rename_i g'' st'' pd'' tm'' ps'' a'' b'' hb2
      obtain ⟨rfl, h5⟩ := h4
      have hrr : ∃ v H', P v H' ∧ runRound (callW tbl) loopW l 0 it H = some (v, H') := by
        cases e2 with
        | normal => exact ⟨_, _, h5, by unfold runRound; rw [of_hat hl h]; simp only [hlen, and_self, if_true, h1, hb1, h3, hb2]⟩
        | exit j => exact ⟨_, _, h5, by unfold runRound; rw [of_hat hl h]; simp only [hlen, and_self, if_true, h1, hb1, h3, hb2]⟩
        | ret => exact ⟨_, _, h5, by unfold runRound; rw [of_hat hl h]; simp only [hlen, and_self, if_true, h1, hb1, h3, hb2]⟩
      obtain ⟨v, H', h6, h7⟩ := hrr
      exact ⟨v, H', h6, callW_round h7⟩
    · exact h4.elim
  · exact h2.elim

/-- A range over a function. 'J rest H': the heap ahead of the rounds that are left; 'E e H': behind a round that leaves the loop. -/
theorem EXEC_rangeFunc {f : AOperand} {ps : List Nat} {a b : ACode} {s : St} {ks : List KF} {R : AExit → St → Prop} (hrnd : s.rnd = none) (fv : AV) (hf : evalA [] s.tm f = fv) (hfn : isFunc fv = true) (items : List (List AV)) {Inv : Heap → Prop} (hit : Iter tbl fv items Inv)
    (J : List (List AV) → Heap → Prop) (E : AExit → Heap → Prop) (hInv : ∀ rest H, J rest H → Inv H)
    (h0 : J items (s.heap ++ [.defr 0] ++ [.loop 0 .ready none s.tm ps a b]))
    (hlen : ∀ it ∈ items, it.length = ps.length)
    (hJ : ∀ rest H, J rest H → s.heap.length + 1 < H.length ∧ hat H (s.heap.length + 1) = .loop 0 .ready none s.tm ps a b)
    (hround : ∀ it rest H (F : AV → Heap → Prop), it ∈ items → J (it :: rest) H → (∀ H', J rest (trunc H.length (.bool true) H').2 → F (.bool true) H') → (∀ e H', E e (trunc H.length (.bool false) H').2 → F (.bool false) H') →
      EXEC (callW tbl) loopW a [] { tm := s.tm.puts ps it, heap := H, dfr := [], rnd := some (s.heap.length + 1, 0) } (RNDQ1 (callW tbl) loopW (s.heap.length + 1) b F))
    (hend : ∀ H H3, J [] H → H3 = (trunc (s.heap.length + 2) (.tuple []) H).2 → (s.heap.length + 1 < H3.length ∧ hat H3 (s.heap.length + 1) = .loop 0 .ready none s.tm ps a b) ∧ KONT (callW tbl) loopW ks .normal { s with heap := H3.set (s.heap.length + 1) (.dead 1), dfr := (s.heap.length, 0) :: s.dfr } R)
    (hleave : ∀ e H H3, E e H → H3 = (trunc (s.heap.length + 2) (.tuple []) H).2 → (s.heap.length + 1 < H3.length ∧ hat H3 (s.heap.length + 1) = .loop 0 .done (some e) s.tm ps a b) ∧ KONT (callW tbl) loopW ks e { s with heap := H3.set (s.heap.length + 1) (.dead 1), dfr := (s.heap.length, 0) :: s.dfr } R) :
    EXEC (callW tbl) loopW (.rangeFunc f ps a b) ks s R := by
  subst hf
  have key := hit (.yieldf (s.heap.length + 1) 0) (fun rest H => (∀ it ∈ rest, it ∈ items) ∧ J rest H) (fun H => ∃ e, E e H) (fun rest H h => hInv rest H h.2) (fun it rest H hJ0 => by
    obtain ⟨hmem, hJ0⟩ := hJ0
    obtain ⟨g1, g2⟩ := hJ _ _ hJ0
    obtain ⟨v, H', h1, h2⟩ := round_of (tbl := tbl) (it := it) (fun v H' => (v = .bool true ∧ J rest (trunc H.length v H').2) ∨ (v = .bool false ∧ ∃ e, E e (trunc H.length v H').2)) g1 g2 (hlen it (hmem it (by simp))) (fun F hF => hround it rest H F (hmem it (by simp)) hJ0 (fun H' h => hF _ _ (.inl ⟨rfl, h⟩)) (fun e H' h => hF _ _ (.inr ⟨rfl, e, h⟩)))
    have htr : ∀ (n : Nat) (v : AV) (H : Heap), trunc n v H = (v, (trunc n v H).2) := fun n v H => by unfold trunc; split <;> rfl
    rcases h1 with ⟨rfl, h1⟩ | ⟨rfl, e, h1⟩
    · exact ⟨_, .inl ⟨by rw [h2, htr], fun x hx => hmem x (by simp [hx]), h1⟩⟩
    · exact ⟨_, .inr ⟨by rw [h2, htr], e, h1⟩⟩) (s.heap ++ [.defr 0] ++ [.loop 0 .ready none s.tm ps a b]) ⟨fun _ h => h, h0⟩
  obtain ⟨H', hc, hor⟩ := key
  have hn : (s.heap ++ [Blk.defr 0] ++ [Blk.loop 0 .ready none s.tm ps a b]).length = s.heap.length + 2 := by simp
  rw [hn] at hc
  have htr : trunc (s.heap.length + 2) (.tuple []) H' = (.tuple [], (trunc (s.heap.length + 2) (.tuple []) H').2) := by unfold trunc; split <;> rfl
  generalize hH3 : (trunc (s.heap.length + 2) (.tuple []) H').2 = H3 at *
  have hlen1 : (s.heap ++ [Blk.defr 0]).length = s.heap.length + 1 := by simp
  have hcond : (isFunc (evalA [] s.tm f) && roundOk s.heap s.rnd) = true := by rw [hfn, hrnd]; rfl
  rcases hor with ⟨_, hJ0⟩ | ⟨e, hE⟩
  · obtain ⟨⟨g1, g2⟩, hk⟩ := hend H' H3 hJ0 hH3.symm
    refine ⟨.normal, _, ?_, hk⟩
    simp only [exec, hrnd, hlen1]
    rw [hrnd] at hcond
    simp only [hcond, if_true, hc, htr, of_hat g1 g2]
    rfl
  · obtain ⟨⟨g1, g2⟩, hk⟩ := hleave e H' H3 hE hH3.symm
    refine ⟨e, _, ?_, hk⟩
    simp only [exec, hrnd, hlen1]
    rw [hrnd] at hcond
    simp only [hcond, if_true, hc, htr, of_hat g1 g2]
    rfl

/-- The loop's record: ahead of a round, in it, and behind one that leaves. -/
structure LRec (tm : Tm) (L Lb : Blk) (Ld : AExit → Blk) : Prop where
  r1 : ∀ (call : CallF) (lp : LoopF) (l : Nat) (c : ACode) (s : St) (F : AV → Heap → Prop), RND1K call lp L l c s F = EXEC call lp c [] { s with heap := s.heap.set l Lb } (RNDQ2 l F)
  r2 : ∀ (l : Nat) (s : St) (F : AV → Heap → Prop), RND2K Lb l .normal s F = F (.bool true) (s.heap.set l L)
  rx : ∀ (l j : Nat) (s : St) (F : AV → Heap → Prop), RND2K Lb l (.exit j) s F = F (.bool false) (s.heap.set l (Ld (.exit j)))
  rr : ∀ (l : Nat) (s : St) (F : AV → Heap → Prop), RND2K Lb l .ret s F = F (.bool false) (s.heap.set l (Ld .ret))
  u : ∀ n, L.under n = tm.under n

/-- The same, the loop's record under a name of its own. -/
theorem EXEC_rangeL {f : AOperand} {ps : List Nat} {a b : ACode} {s : St} {ks : List KF} {R : AExit → St → Prop} (hrnd : s.rnd = none) (fv : AV) (hf : evalA [] s.tm f = fv) (hfn : isFunc fv = true) (items : List (List AV)) {Inv : Heap → Prop} (hit : Iter tbl fv items Inv) (hlen : ∀ it ∈ items, it.length = ps.length)
    (h : ∀ (L Lb : Blk) (Ld : AExit → Blk), LRec s.tm L Lb Ld → ∃ (J : List (List AV) → Heap → Prop) (E : AExit → Heap → Prop),
      (∀ rest H, J rest H → Inv H) ∧ J items (s.heap ++ [.defr 0, L]) ∧
      (∀ rest H, J rest H → s.heap.length + 1 < H.length ∧ hat H (s.heap.length + 1) = L) ∧
      (∀ it rest H (F : AV → Heap → Prop), it ∈ items → J (it :: rest) H → (∀ H', J rest (trunc H.length (.bool true) H').2 → F (.bool true) H') → (∀ e H', E e (trunc H.length (.bool false) H').2 → F (.bool false) H') →
        EXEC (callW tbl) loopW a [] { tm := s.tm.puts ps it, heap := H, dfr := [], rnd := some (s.heap.length + 1, 0) } (RNDQ1 (callW tbl) loopW (s.heap.length + 1) b F)) ∧
      (∀ H H3, J [] H → H3 = (trunc (s.heap.length + 2) (.tuple []) H).2 → (s.heap.length + 1 < H3.length ∧ hat H3 (s.heap.length + 1) = L) ∧ KONT (callW tbl) loopW ks .normal { s with heap := H3.set (s.heap.length + 1) (.dead 1), dfr := (s.heap.length, 0) :: s.dfr } R) ∧
      (∀ e H H3, E e H → H3 = (trunc (s.heap.length + 2) (.tuple []) H).2 → (s.heap.length + 1 < H3.length ∧ hat H3 (s.heap.length + 1) = Ld e) ∧ KONT (callW tbl) loopW ks e { s with heap := H3.set (s.heap.length + 1) (.dead 1), dfr := (s.heap.length, 0) :: s.dfr } R)) :
    EXEC (callW tbl) loopW (.rangeFunc f ps a b) ks s R := by
  obtain ⟨J, E, h0, h1, h2, h3, h4, h5⟩ := h (.loop 0 .ready none s.tm ps a b) (.loop 0 .busy none s.tm ps a b) (fun e => .loop 0 .done (some e) s.tm ps a b)
    ⟨fun _ _ _ _ _ _ => RND1K_loop, fun _ _ _ => RND2K_n, fun _ _ _ _ => RND2K_x, fun _ _ _ => RND2K_r, fun _ => rfl⟩
  exact EXEC_rangeFunc hrnd fv hf hfn items hit J E h0 (by simpa using h1) hlen h2 h3 h4 h5

/-! ### Values are like themselves -/
theorem bytes_beq_refl (a : ByteArray) : (a == a) = true := by
  rw [beq_toListBytes]; simp
mutual
theorem beq_refl' : ∀ v : AV, AV.beq v v = true
  | .undef | .nilptr | .nilsl | .nilmap | .nilfunc | .niliface => rfl
  | .bool b => by simp [AV.beq]
  | .int k n => by simp [AV.beq]
  | .str s => by simp [AV.beq, bytes_beq_refl]
  | .ptr .. | .sl .. | .map .. | .yieldf .. => by simp [AV.beq]
  | .fptr l cs o => by simp [AV.beq, beqs_refl' cs]
  | .fsl l cs => by simp [AV.beq, beqs_refl' cs]
  | .func f a b => by simp [AV.beq, beqs_refl' a, beqs_refl' b]
  | .iface t v => by simp [AV.beq, beq_refl' v]
  | .agg cs => by simp [AV.beq, beqs_refl' cs]
  | .tuple cs => by simp [AV.beq, beqs_refl' cs]
theorem beqs_refl' : ∀ vs : List AV, AV.beqs vs vs = true
  | [] => rfl
  | v :: vs => by simp [AV.beqs, beq_refl' v, beqs_refl' vs]
end
attribute [simp] beq_refl' beqs_refl'

/-! ### Closed runs -/
theorem callK_le (k : Nat) : CLe (callK tbl k) (callW tbl) := fun _ _ _ _ h => callW_iff.2 ⟨k, h⟩
theorem lpK_le (k : Nat) : LLe (lpK k) loopW := fun _ _ hf _ _ h => loopW_iff.2 ⟨k, aloop_mono hf (Nat.le_refl k) _ _ h⟩
theorem runPure_closed {k : Nat} {af : AFunc} {args : List AV} {r : AV} (h : runPure (callK tbl k) (lpK k) af args = some r) : runPure (callW tbl) loopW af args = some r := runPure_mono (callK_le k) (lpK_le k) h
theorem callK_closed {k : Nat} {fv : AV} {args : List AV} {H H' : Heap} {r : AV} (h : callK tbl k fv args H = some (r, H')) : callW tbl fv args H = some (r, H') := callW_iff.2 ⟨k, h⟩
/-- A pure function at plain values. -/
theorem callP_closed {f : FuncId} {af : AFunc} {args : List AV} {r : AV} (ht : tbl f = some (.code af)) (hp : af.pure = true) (h1 : AV.plains args = true) (h2 : AV.unlents args = true) (h : runPure (callW tbl) loopW af args = some r) (H : Heap) :
    callW tbl (.func f [] []) args H = some (r, H) := by
  have := callW_pure (tbl := tbl) (first := []) (captured := []) (args := args) (H := H) (r := r) ht hp (by simpa using h1) (by simpa [h2] using h)
  rw [this]; simp [h2]

theorem trunc_len {n : Nat} {r : AV} {H : Heap} (h : H.length = n) : (trunc n r H).2 = H := by
  subst h
  unfold trunc
  rw [List.take_length]
  split <;> rfl
theorem trunc_keep {n i : Nat} {r : AV} {H : Heap} {B : Blk} (hi : i < n) (h : H[i]? = some B) (hB : B.under n = false) : (trunc n r H).2 = H := by
  unfold trunc
  rw [if_neg]
  intro hc
  simp only [Bool.and_eq_true, List.all_eq_true] at hc
  have := hc.2 B (List.mem_of_getElem? (i := i) (by rw [List.getElem?_take, if_pos hi]; exact h))
  rw [hB] at this; simp at this
/-- Behind a round in which a row may have grown that a cell below leads to. -/
theorem trunc_acc {H0 H0' Hs Hs' : Heap} {sz n i : Nat} {v v' r : AV} {rows rows' : List AV} (h : Acc H0 sz v Hs rows) (h' : Acc H0' sz v' Hs' rows') (hl : H0'.length = H0.length) (hn : n = Hs.length) (hi : i < H0.length) {B : Blk} (hB : Hs'[i]? = some B) (hu : ∀ n, v'.under n = false → B.under n = false)
    (hle : rows ≠ [] → rows' ≠ []) : (trunc n r Hs').2 = Hs' := by
  have e1 := h.length
  have e2 := h'.length
  by_cases hr' : rows' = []
  · have hr : rows = [] := by
      by_cases hr : rows = []
      · exact hr
      · exact absurd hr' (hle hr)
    rw [if_pos hr] at e1
    rw [if_pos hr'] at e2
    exact trunc_len (by omega)
  · by_cases hr : rows = []
    · rw [if_pos hr] at e1
      exact trunc_keep (i := i) (by omega) hB (hu _ (h'.over hr' (by omega)))
    · rw [if_neg hr] at e1
      rw [if_neg hr'] at e2
      exact trunc_len (by omega)
theorem trunc_cut {n : Nat} {r : AV} {H : Heap} (hr : r.under n = true) (hH : ∀ B ∈ H.take n, Blk.under n B = true) : (trunc n r H).2 = H.take n := by
  unfold trunc
  rw [if_pos]
  simp only [Bool.and_eq_true, List.all_eq_true]
  exact ⟨hr, hH⟩

end Go.Abs

