/- Abs 34: the rules of a run as simp rules; values of types as relations. -/
import Derived.Test.YtddpdpjpfgnhmaaGreatG22x
set_option linter.unusedSimpArgs false
set_option linter.unusedVariables false
set_option maxHeartbeats 4000000
namespace Go.Abs
variable {call : CallF} {lp : LoopF} {tbl : FuncId → Option AFun}
inductive KF where
 | seq (b : ACode)
 | block (id : Nat)
def kontQ (call : CallF) (lp : LoopF) : List KF → (AExit → St → Prop) → AExit → St → Prop
 | [], R => R
 | .seq b :: ks, R => thenK call lp b (kontQ call lp ks R)
 | .block id :: ks, R => blockK id (kontQ call lp ks R)
def EXEC (call : CallF) (lp : LoopF) (c : ACode) (ks : List KF) (s : St) (R : AExit → St → Prop) : Prop := WP call lp c s (kontQ call lp ks R)
def KONT (call : CallF) (lp : LoopF) (ks : List KF) (e : AExit) (s : St) (R : AExit → St → Prop) : Prop := kontQ call lp ks R e s
def CONDK (call : CallF) (lp : LoopF) (x : AV) (a b : ACode) (ks : List KF) (s : St) (R : AExit → St → Prop) : Prop := TRUTH x (fun t => if t then EXEC call lp a ks s R else EXEC call lp b ks s R)
def OPSK (call : CallF) (lp : LoopF) (ops : List AOper) (loc : List (Nat × AV)) (s : St) (ks : List KF) (R : AExit → St → Prop) : Prop :=
 OPS call ops ⟨loc, s.tm, s.heap⟩ (fun r => kontQ call lp ks R .normal { s with tm := r.tm, heap := r.heap })
def ACTK (call : CallF) (lp : LoopF) (A : Action) (dst : Option Nat) (keep : Bool) (os : List AOper) (loc : List (Nat × AV)) (s : St) (ks : List KF) (R : AExit → St → Prop) : Prop :=
 ACT call s.heap A (fun v H => OPS call os (putR ⟨loc, s.tm, s.heap⟩ dst keep v H) (fun r => kontQ call lp ks R .normal { s with tm := r.tm, heap := r.heap }))
def GSELK (call : CallF) (lp : LoopF) (x : AV) (w : Bool) (op : AOp) (dst : Option Nat) (keep : Bool) (os : List AOper) (loc : List (Nat × AV)) (s : St) (ks : List KF) (R : AExit → St → Prop) : Prop := match x with
 | .bool b => if b = w then ACTK call lp (actOf (evalA loc s.tm) op) dst keep os loc s ks R else ACTK call lp (.val .skipped) dst keep os loc s ks R
 | .tuple [] => ACTK call lp (.val .skipped) dst keep os loc s ks R
 | _ => False
def MDK (call : CallF) (lp : LoopF) (id : Nat) (x : Option (AV × Blk)) (dst : Option Nat) (keep : Bool) (os : List AOper) (loc : List (Nat × AV)) (s : St) (ks : List KF) (R : AExit → St → Prop) : Prop :=
 SOME x (fun x => id < s.heap.length ∧ ACTK call lp (.val x.1) dst keep os loc { s with heap := s.heap.set id x.2 } ks R)
def NWK (call : CallF) (lp : LoopF) (x : Option (AV × Blk)) (dst : Option Nat) (keep : Bool) (os : List AOper) (loc : List (Nat × AV)) (s : St) (ks : List KF) (R : AExit → St → Prop) : Prop :=
 SOME x (fun x => ACTK call lp (.val x.1) dst keep os loc { s with heap := s.heap ++ [x.2] } ks R)
def CALLK (call : CallF) (lp : LoopF) (x : Option (AV × Heap)) (dst : Option Nat) (keep : Bool) (os : List AOper) (loc : List (Nat × AV)) (s : St) (ks : List KF) (R : AExit → St → Prop) : Prop :=
 SOME x (fun x => ACTK call lp (.val x.1) dst keep os loc { s with heap := x.2 } ks R)
variable {R : AExit → St → Prop} {s : St} {ks : List KF} {loc : List (Nat × AV)} {os : List AOper} {dst : Option Nat} {keep : Bool}
theorem EXEC_skip : EXEC call lp .skip ks s R = KONT call lp ks .normal s R := WP_skip
theorem EXEC_exit {j : Nat} : EXEC call lp (.exit j) ks s R = KONT call lp ks (.exit j) s R := WP_exit
theorem EXEC_ret : EXEC call lp .ret ks s R = KONT call lp ks .ret s R := WP_ret
theorem EXEC_seq {a b : ACode} : EXEC call lp (.seq a b) ks s R = EXEC call lp a (.seq b :: ks) s R := WP_seq
theorem EXEC_block {id : Nat} {a : ACode} : EXEC call lp (.block id a) ks s R = EXEC call lp a (.block id :: ks) s R := WP_block
theorem EXEC_cond {c : AOperand} {a b : ACode} : EXEC call lp (.cond c a b) ks s R = CONDK call lp (evalA [] s.tm c) a b ks s R := WP_cond
theorem CONDK_bool {t : Bool} {a b : ACode} : CONDK call lp (.bool t) a b ks s R = if t = true then EXEC call lp a ks s R else EXEC call lp b ks s R := TRUTH_bool
theorem EXEC_region {ops : List AOper} : EXEC call lp (.region ops) ks s R = OPSK call lp ops [] s ks R := WP_region
theorem KONT_nil {e : AExit} : KONT call lp [] e s R = R e s := rfl
theorem KONT_seqN {b : ACode} : KONT call lp (.seq b :: ks) .normal s R = EXEC call lp b ks s R := rfl
theorem KONT_seqE {b : ACode} {j : Nat} : KONT call lp (.seq b :: ks) (.exit j) s R = KONT call lp ks (.exit j) s R := rfl
theorem KONT_seqR {b : ACode} : KONT call lp (.seq b :: ks) .ret s R = KONT call lp ks .ret s R := rfl
theorem KONT_blockN {id : Nat} : KONT call lp (.block id :: ks) .normal s R = KONT call lp ks .normal s R := rfl
theorem KONT_blockE {id j : Nat} : KONT call lp (.block id :: ks) (.exit j) s R = if j = id then KONT call lp ks .normal s R else KONT call lp ks (.exit j) s R := rfl
theorem KONT_blockR {id : Nat} : KONT call lp (.block id :: ks) .ret s R = KONT call lp ks .ret s R := rfl
theorem OPSK_nil : OPSK call lp [] loc s ks R = KONT call lp ks .normal s R := OPS_nil
theorem OPSK_cons {op : AOp} : OPSK call lp (⟨dst, keep, op, none⟩ :: os) loc s ks R = ACTK call lp (actOf (evalA loc s.tm) op) dst keep os loc s ks R := OPS_cons
theorem ACTK_val0 {v : AV} : ACTK call lp (.val v) none keep os loc s ks R = OPSK call lp os loc s ks R := ACT_val
theorem ACTK_valT {v : AV} {d : Nat} : ACTK call lp (.val v) (some d) true os loc s ks R = OPSK call lp os loc { s with tm := s.tm.put d v } ks R := ACT_val
theorem ACTK_valF {v : AV} {d : Nat} : ACTK call lp (.val v) (some d) false os loc s ks R = OPSK call lp os ((d, v) :: loc) s ks R := ACT_val
theorem ACTK_rd {ids : List Nat} {f : List Blk → Option AV} : ACTK call lp (.rd ids f) dst keep os loc s ks R = ACTK call lp (Action.ofOption (f (blks s.heap ids))) dst keep os loc s ks R := by
 unfold ACTK; rw [ACT_rd, ACT_ofOption]
theorem ACTK_md {ids : List Nat} {id : Nat} {f : List Blk → Option (AV × Blk)} : ACTK call lp (.md ids id f) dst keep os loc s ks R = MDK call lp id (f (blks s.heap ids)) dst keep os loc s ks R := by
 unfold ACTK MDK
 rw [ACT_md]
 apply propext
 constructor
 ·rintro ⟨h, x, hx, k⟩; exact ⟨x, hx, h, ACT_val.mpr k⟩
 ·rintro ⟨x, hx, h, k⟩; unfold ACTK at k; rw [ACT_val] at k; exact ⟨h, x, hx, k⟩
theorem MDK_some {id : Nat} {v : AV} {b : Blk} : MDK call lp id (some (v, b)) dst keep os loc s ks R = (id < s.heap.length ∧ ACTK call lp (.val v) dst keep os loc { s with heap := s.heap.set id b } ks R) := z24
theorem ACTK_nw {ids : List Nat} {f : List Blk → Nat → Nat → Option (AV × Blk)} : ACTK call lp (.nw ids f) dst keep os loc s ks R = NWK call lp (f (blks s.heap ids) s.heap.length 0) dst keep os loc s ks R := by
 unfold ACTK NWK
 rw [ACT_nw]
 apply propext
 constructor
 ·rintro ⟨x, hx, k⟩; refine ⟨x, hx, ?_⟩; show ACTK call lp (.val x.1) dst keep os loc _ ks R; unfold ACTK; rw [ACT_val]; exact k
 ·rintro ⟨x, hx, k⟩; unfold ACTK at k; rw [ACT_val] at k; exact ⟨x, hx, k⟩
theorem NWK_some {v : AV} {b : Blk} : NWK call lp (some (v, b)) dst keep os loc s ks R = ACTK call lp (.val v) dst keep os loc { s with heap := s.heap ++ [b] } ks R := z24
theorem ACTK_call {f : AV} {args : List AV} : ACTK call lp (.call f args) dst keep os loc s ks R = CALLK call lp (call f args s.heap) dst keep os loc s ks R := by
 unfold ACTK CALLK
 rw [ACT_call]
 apply propext
 constructor
 ·rintro ⟨x, hx, k⟩; refine ⟨x, hx, ?_⟩; show ACTK call lp (.val x.1) dst keep os loc _ ks R; unfold ACTK; rw [ACT_val]; exact k
 ·rintro ⟨x, hx, k⟩; unfold ACTK at k; rw [ACT_val] at k; exact ⟨x, hx, k⟩
theorem CALLK_some {v : AV} {H : Heap} : CALLK call lp (some (v, H)) dst keep os loc s ks R = ACTK call lp (.val v) dst keep os loc { s with heap := H } ks R := z24
theorem GSELK_bool {b w : Bool} {op : AOp} : GSELK call lp (.bool b) w op dst keep os loc s ks R = if b = w then ACTK call lp (actOf (evalA loc s.tm) op) dst keep os loc s ks R else ACTK call lp (.val .skipped) dst keep os loc s ks R := rfl
theorem GSELK_skip {w : Bool} {op : AOp} : GSELK call lp (.tuple []) w op dst keep os loc s ks R = ACTK call lp (.val .skipped) dst keep os loc s ks R := rfl
theorem OPSK_guard {op : AOp} {t : Nat} {w : Bool} : OPSK call lp (⟨dst, keep, op, some (t, w)⟩ :: os) loc s ks R = GSELK call lp (look loc s.tm t) w op dst keep os loc s ks R := by
 unfold GSELK
 split
 ·rename_i b h
  unfold OPSK ACTK
  rw [OPS_guard_eq h, ACT_val]
 ·rename_i h
  unfold OPSK ACTK
  rw [OPS_guard_skip h, ACT_val]
 ·rename_i h1 h2
  apply propext
  refine ⟨fun ⟨r', h, _⟩ => ?_, False.elim⟩
  simp only [runOps, stepA, zy2] at h
  simp at h
def DRAWK (call : CallF) (lp : LoopF) (x : Option (RSt × List Rec)) (ps : List (Nat × Nat)) (s : St) (ks : List KF) (R : AExit → St → Prop) : Prop :=
 SOME x (fun x => pairsOk x.2 ps = true ∧ KONT call lp ks .normal { s with tm := x.1.tm, heap := x.1.heap } R)
theorem EXEC_draw {ops : List AOper} {ps : List (Nat × Nat)} : EXEC call lp (.draw ops ps) ks s R = DRAWK call lp (zg2 call ((slotsOf s.heap.length ops).zip ops) { loc := [], tm := s.tm, heap := s.heap ++ List.replicate (makesOf ops) (.dead 0) }) ps s ks R := WP_draw
def hat (H : Heap) (i : Nat) : Blk := H.getD i (.dead 0)
@[simp] theorem blks_hat0 {H : Heap} : blks H [] = [] := rfl
@[simp] theorem blks_hat1 {H : Heap} {i : Nat} : blks H [i] = [hat H i] := rfl
@[simp] theorem blks_hat2 {H : Heap} {i j : Nat} : blks H [i, j] = [hat H i, hat H j] := rfl
theorem zf1 {H : Heap} {b : Nat} {B : Blk} (h : H[b]? = some B) : hat H b = B := by simp [hat, h]
theorem lt_of {H : Heap} {b : Nat} {B : Blk} (h : H[b]? = some B) : b < H.length := (List.getElem?_eq_some_iff.1 h).1
theorem of_hat {H : Heap} {b : Nat} {B : Blk} (hl : b < H.length) (h : hat H b = B) : H[b]? = some B := by
 unfold hat at h
 rw [List.getElem?_eq_getElem hl]
 simpa [hl] using h
@[simp] theorem hat_app_lt {H T : Heap} {i : Nat} (h : i < H.length) : hat (H ++ T) i = hat H i := by simp [hat, List.getElem?_append_left h]
@[simp] theorem hat_app_len {H T : Heap} : hat (H ++ T) H.length = hat T 0 := by simp [hat, List.getElem?_append_right]
@[simp] theorem hat_app_len' {H T : Heap} {i : Nat} (h : H.length = i) : hat (H ++ T) i = hat T 0 := by subst h; exact hat_app_len
@[simp] theorem hat_app_add' {H T : Heap} {n k : Nat} (h : H.length = n) : hat (H ++ T) (n + k) = hat T k := by subst h; simp [hat, List.getElem?_append_right]
@[simp] theorem hat_app_add {H T : Heap} {k : Nat} : hat (H ++ T) (H.length + k) = hat T k := by simp [hat, List.getElem?_append_right]
@[simp] theorem hat_app_add2 {H T : Heap} {j k : Nat} : hat (H ++ T) (H.length + j + k) = hat T (j + k) := by rw [Nat.add_assoc]; exact hat_app_add
@[simp] theorem set_app_add {H T : Heap} {k : Nat} {B : Blk} : (H ++ T).set (H.length + k) B = H ++ T.set k B := by rw [List.set_append_right _ _ (by omega)]; simp
@[simp] theorem set_app_add2 {H T : Heap} {j k : Nat} {B : Blk} : (H ++ T).set (H.length + j + k) B = H ++ T.set (j + k) B := by rw [Nat.add_assoc]; exact set_app_add
@[simp] theorem hat_cons0 {B : Blk} {T : Heap} : hat (B :: T) 0 = B := rfl
@[simp] theorem hat_consS {B : Blk} {T : Heap} {k : Nat} : hat (B :: T) (k + 1) = hat T k := by simp [hat]
@[simp] theorem hat_set_self {H : Heap} {b : Nat} {B : Blk} (h : b < H.length) : hat (H.set b B) b = B := by simp [hat, h]
@[simp] theorem hat_set_ne {H : Heap} {b i : Nat} {B : Blk} (h : b ≠ i) : hat (H.set b B) i = hat H i := by simp [hat, List.getElem?_set_ne h]
def RECK (call : CallF) (lp : LoopF) (sl : List Nat) (ops : List AOper) (acc : List Rec) (loc : List (Nat × AV)) (s : St) (ps : List (Nat × Nat)) (ks : List KF) (R : AExit → St → Prop) : Prop :=
 ∃ r rs, zg2 call (sl.zip ops) ⟨loc, s.tm, s.heap⟩ = some (r, rs) ∧ pairsOk (acc ++ rs) ps = true ∧ KONT call lp ks .normal { s with tm := r.tm, heap := r.heap } R
def RPUTK (call : CallF) (lp : LoopF) (v : AV) (x : Rec) (dst : Option Nat) (keep : Bool) (sl : List Nat) (os : List AOper) (acc : List Rec) (loc : List (Nat × AV)) (s : St) (ps : List (Nat × Nat)) (ks : List KF) (R : AExit → St → Prop) : Prop :=
 ∃ r rs, zg2 call (sl.zip os) (putR ⟨loc, s.tm, s.heap⟩ dst keep v s.heap) = some (r, rs) ∧ pairsOk (acc ++ x :: rs) ps = true ∧ KONT call lp ks .normal { s with tm := r.tm, heap := r.heap } R
def RACTK (call : CallF) (lp : LoopF) (i : Nat) (A : Action) (dst : Option Nat) (keep : Bool) (sl : List Nat) (os : List AOper) (acc : List Rec) (loc : List (Nat × AV)) (s : St) (ps : List (Nat × Nat)) (ks : List KF) (R : AExit → St → Prop) : Prop :=
 ∃ v H, zb call (some i) s.heap A = some (v, H) ∧ RPUTK call lp v (recOf i s.heap H v A) dst keep sl os acc loc { s with heap := H } ps ks R
def RGSELK (call : CallF) (lp : LoopF) (i : Nat) (x : AV) (w : Bool) (op : AOp) (dst : Option Nat) (keep : Bool) (sl : List Nat) (os : List AOper) (acc : List Rec) (loc : List (Nat × AV)) (s : St) (ps : List (Nat × Nat)) (ks : List KF) (R : AExit → St → Prop) : Prop := match x with
 | .bool b => if b = w then RACTK call lp i (actOf (evalA loc s.tm) op) dst keep sl os acc loc s ps ks R else RPUTK call lp .skipped .none dst keep sl os acc loc s ps ks R
 | .tuple [] => RPUTK call lp .skipped .none dst keep sl os acc loc s ps ks R
 | _ => False
def RRDK (call : CallF) (lp : LoopF) (x : Option AV) (ids : List Nat) (f : List Blk → Option AV) (dst : Option Nat) (keep : Bool) (sl : List Nat) (os : List AOper) (acc : List Rec) (loc : List (Nat × AV)) (s : St) (ps : List (Nat × Nat)) (ks : List KF) (R : AExit → St → Prop) : Prop :=
 SOME x (fun v => RPUTK call lp v (.act ids none (fun h => f (blks h ids)) v (fun b => f [b]) none) dst keep sl os acc loc s ps ks R)
def RMDK (call : CallF) (lp : LoopF) (x : Option (AV × Blk)) (ids : List Nat) (id : Nat) (dst : Option Nat) (keep : Bool) (sl : List Nat) (os : List AOper) (acc : List Rec) (loc : List (Nat × AV)) (s : St) (ps : List (Nat × Nat)) (ks : List KF) (R : AExit → St → Prop) : Prop :=
 SOME x (fun x => id < s.heap.length ∧ RPUTK call lp x.1 (.act ids (some id) (fun _ => none) x.1 (fun _ => none) (some (hat s.heap id, x.2))) dst keep sl os acc loc { s with heap := s.heap.set id x.2 } ps ks R)
def RNWK (call : CallF) (lp : LoopF) (i : Nat) (B : Blk) (ids : List Nat) (f : List Blk → Nat → Nat → Option (AV × Blk)) (dst : Option Nat) (keep : Bool) (sl : List Nat) (os : List AOper) (acc : List Rec) (loc : List (Nat × AV)) (s : St) (ps : List (Nat × Nat)) (ks : List KF) (R : AExit → St → Prop) : Prop := match B with
 | .dead g => SOME (f (blks s.heap ids) i (g + 1)) (fun x => RPUTK call lp x.1 (.act ids (some i) (fun _ => none) x.1 (fun _ => none) none) dst keep sl os acc loc { s with heap := s.heap.set i x.2 } ps ks R)
 | _ => False
def RNW2K (call : CallF) (lp : LoopF) (i : Nat) (x : Option (AV × Blk)) (ids : List Nat) (dst : Option Nat) (keep : Bool) (sl : List Nat) (os : List AOper) (acc : List Rec) (loc : List (Nat × AV)) (s : St) (ps : List (Nat × Nat)) (ks : List KF) (R : AExit → St → Prop) : Prop :=
 SOME x (fun x => RPUTK call lp x.1 (.act ids (some i) (fun _ => none) x.1 (fun _ => none) none) dst keep sl os acc loc { s with heap := s.heap.set i x.2 } ps ks R)
def RCALLK (call : CallF) (lp : LoopF) (x : Option (AV × Heap)) (dst : Option Nat) (keep : Bool) (sl : List Nat) (os : List AOper) (acc : List Rec) (loc : List (Nat × AV)) (s : St) (ps : List (Nat × Nat)) (ks : List KF) (R : AExit → St → Prop) : Prop :=
 SOME x (fun x => RPUTK call lp x.1 (.call s.heap x.2) dst keep sl os acc loc { s with heap := x.2 } ps ks R)
section
variable {i : Nat} {sl : List Nat} {acc : List Rec} {ps : List (Nat × Nat)}
theorem EXEC_drawR {ops : List AOper} : EXEC call lp (.draw ops ps) ks s R = RECK call lp (slotsOf s.heap.length ops) ops [] [] { s with heap := s.heap ++ List.replicate (makesOf ops) (.dead 0) } ps ks R := by
 rw [EXEC_draw]
 apply propext
 constructor
 ·rintro ⟨⟨r, rs⟩, h1, h2, h3⟩; exact ⟨r, rs, h1, h2, h3⟩
 ·rintro ⟨r, rs, h1, h2, h3⟩; exact ⟨(r, rs), h1, h2, h3⟩
theorem RECK_nil : RECK call lp [] [] acc loc s ps ks R = (pairsOk acc ps = true ∧ KONT call lp ks .normal s R) := by
 apply propext
 constructor
 ·rintro ⟨r, rs, h1, h2, h3⟩
  simp [zg2] at h1
  obtain ⟨rfl, rfl⟩ := h1
  exact ⟨by simpa using h2, h3⟩
 ·rintro ⟨h2, h3⟩; exact ⟨_, _, rfl, by simpa using h2, h3⟩
theorem RECK_cons {op : AOp} : RECK call lp (i :: sl) (⟨dst, keep, op, none⟩ :: os) acc loc s ps ks R = RACTK call lp i (actOf (evalA loc s.tm) op) dst keep sl os acc loc s ps ks R := by
 apply propext
 constructor
 ·rintro ⟨r, rs, h1, h2, h3⟩
  simp only [List.zip_cons_cons, zg2, stepRec, zy2] at h1
  split at h1
  ·rename_i s1 r1 hs
   split at hs
   ·rename_i v H hv
    simp only [Option.some.injEq, Prod.mk.injEq] at hs
    obtain ⟨rfl, rfl⟩ := hs
    split at h1
    ·rename_i s2 rs2 hr
     simp only [Option.some.injEq, Prod.mk.injEq] at h1
     obtain ⟨rfl, rfl⟩ := h1
     rw [RSt.put_eq] at hr
     exact ⟨v, H, hv, _, _, hr, h2, h3⟩
    ·simp at h1
   ·simp at hs
  ·simp at h1
 ·rintro ⟨v, H, hv, r, rs, hr, h2, h3⟩
  exact ⟨r, _, by simp only [List.zip_cons_cons, zg2, stepRec, zy2, hv, RSt.put_eq]; rw [show putR ⟨loc, s.tm, s.heap⟩ dst keep v H = putR ⟨loc, s.tm, H⟩ dst keep v H by cases dst <;> cases keep <;> rfl, hr], h2, h3⟩
theorem RPUTK_0 {v : AV} {x : Rec} : RPUTK call lp v x none keep sl os acc loc s ps ks R = RECK call lp sl os (acc ++ [x]) loc s ps ks R := by
 unfold RPUTK RECK; simp only [putR, List.append_assoc, List.singleton_append]
theorem RPUTK_T {v : AV} {x : Rec} {d : Nat} : RPUTK call lp v x (some d) true sl os acc loc s ps ks R = RECK call lp sl os (acc ++ [x]) loc { s with tm := s.tm.put d v } ps ks R := by
 unfold RPUTK RECK; simp only [putR, if_true, List.append_assoc, List.singleton_append]
theorem RPUTK_F {v : AV} {x : Rec} {d : Nat} : RPUTK call lp v x (some d) false sl os acc loc s ps ks R = RECK call lp sl os (acc ++ [x]) ((d, v) :: loc) s ps ks R := by
 unfold RPUTK RECK; simp only [putR, Bool.false_eq_true, if_false, List.append_assoc, List.singleton_append]
theorem RACTK_val {v : AV} : RACTK call lp i (.val v) dst keep sl os acc loc s ps ks R = RPUTK call lp v .none dst keep sl os acc loc s ps ks R := by
 apply propext
 constructor
 ·rintro ⟨v', H, hv, h⟩; simp [zb] at hv; obtain ⟨rfl, rfl⟩ := hv; exact h
 ·intro h; exact ⟨v, s.heap, rfl, h⟩
theorem RACTK_rd {ids : List Nat} {f : List Blk → Option AV} : RACTK call lp i (.rd ids f) dst keep sl os acc loc s ps ks R = RRDK call lp (f (blks s.heap ids)) ids f dst keep sl os acc loc s ps ks R := by
 apply propext
 constructor
 ·rintro ⟨v', H, hv, h⟩
  simp only [zb] at hv
  split at hv
  ·rename_i v hf; simp only [Option.some.injEq, Prod.mk.injEq] at hv; obtain ⟨rfl, rfl⟩ := hv; exact ⟨_, hf, h⟩
  ·simp at hv
 ·rintro ⟨v, hf, h⟩; exact ⟨v, s.heap, by simp only [zb, hf], h⟩
theorem RRDK_some {v : AV} {ids : List Nat} {f : List Blk → Option AV} : RRDK call lp (some v) ids f dst keep sl os acc loc s ps ks R = RPUTK call lp v (.act ids none (fun h => f (blks h ids)) v (fun b => f [b]) none) dst keep sl os acc loc s ps ks R := z24
theorem RACTK_md {ids : List Nat} {id : Nat} {f : List Blk → Option (AV × Blk)} : RACTK call lp i (.md ids id f) dst keep sl os acc loc s ps ks R = RMDK call lp (f (blks s.heap ids)) ids id dst keep sl os acc loc s ps ks R := by
 have hg : ∀ (H : Heap) (b : Blk), id < H.length → (H.set id b).getD id (.dead 0) = b := fun H b hl => by simp [hl]
 apply propext
 constructor
 ·rintro ⟨v', H, hv, h⟩
  simp only [zb] at hv
  split at hv
  ·rename_i hl
   split at hv
   ·rename_i v b hf; simp only [Option.some.injEq, Prod.mk.injEq] at hv; obtain ⟨rfl, rfl⟩ := hv
    refine ⟨_, hf, hl, ?_⟩
    simp only [recOf, hg _ _ hl] at h
    exact h
   ·simp at hv
  ·simp at hv
 ·rintro ⟨⟨v, b⟩, hf, hl, h⟩; exact ⟨v, s.heap.set id b, by simp only [zb, hl, if_true, hf], by simp only [recOf, hg _ _ hl]; exact h⟩
theorem RMDK_some {v : AV} {b : Blk} {ids : List Nat} {id : Nat} : RMDK call lp (some (v, b)) ids id dst keep sl os acc loc s ps ks R = (id < s.heap.length ∧ RPUTK call lp v (.act ids (some id) (fun _ => none) v (fun _ => none) (some (hat s.heap id, b))) dst keep sl os acc loc { s with heap := s.heap.set id b } ps ks R) := z24
theorem RACTK_nw {ids : List Nat} {f : List Blk → Nat → Nat → Option (AV × Blk)} (hi : i < s.heap.length) : RACTK call lp i (.nw ids f) dst keep sl os acc loc s ps ks R = RNWK call lp i (hat s.heap i) ids f dst keep sl os acc loc s ps ks R := by
 have hh : s.heap[i]? = some (hat s.heap i) := of_hat hi rfl
 unfold RNWK RACTK
 apply propext
 cases hB : hat s.heap i <;> rw [hB] at hh
 case dead g =>
  constructor
  ·rintro ⟨v', H, hv, h⟩
   simp only [zb, hh] at hv
   split at hv
   ·rename_i v b hf; simp only [Option.some.injEq, Prod.mk.injEq] at hv; obtain ⟨rfl, rfl⟩ := hv; exact ⟨_, hf, h⟩
   ·simp at hv
  ·rintro ⟨⟨v, b⟩, hf, h⟩; exact ⟨v, _, by simp only [zb, hh, hf], h⟩
 all_goals exact ⟨fun ⟨v', H, hv, h⟩ => by simp [zb, hh] at hv, False.elim⟩
theorem RNWK_dead {g : Nat} {ids : List Nat} {f : List Blk → Nat → Nat → Option (AV × Blk)} : RNWK call lp i (.dead g) ids f dst keep sl os acc loc s ps ks R = RNW2K call lp i (f (blks s.heap ids) i (g + 1)) ids dst keep sl os acc loc s ps ks R := rfl
theorem RNW2K_some {v : AV} {b : Blk} {ids : List Nat} : RNW2K call lp i (some (v, b)) ids dst keep sl os acc loc s ps ks R = RPUTK call lp v (.act ids (some i) (fun _ => none) v (fun _ => none) none) dst keep sl os acc loc { s with heap := s.heap.set i b } ps ks R := z24
theorem RACTK_call {f : AV} {args : List AV} : RACTK call lp i (.call f args) dst keep sl os acc loc s ps ks R = RCALLK call lp (call f args s.heap) dst keep sl os acc loc s ps ks R := by
 apply propext
 constructor
 ·rintro ⟨v', H, hv, h⟩; exact ⟨(v', H), hv, h⟩
 ·rintro ⟨⟨v, H⟩, hv, h⟩; exact ⟨v, H, hv, h⟩
theorem RCALLK_some {v : AV} {H : Heap} : RCALLK call lp (some (v, H)) dst keep sl os acc loc s ps ks R = RPUTK call lp v (.call s.heap H) dst keep sl os acc loc { s with heap := H } ps ks R := z24
theorem RGSELK_bool {b w : Bool} {op : AOp} : RGSELK call lp i (.bool b) w op dst keep sl os acc loc s ps ks R = if b = w then RACTK call lp i (actOf (evalA loc s.tm) op) dst keep sl os acc loc s ps ks R else RPUTK call lp .skipped .none dst keep sl os acc loc s ps ks R := rfl
theorem RGSELK_skip {w : Bool} {op : AOp} : RGSELK call lp i (.tuple []) w op dst keep sl os acc loc s ps ks R = RPUTK call lp .skipped .none dst keep sl os acc loc s ps ks R := rfl
theorem RECK_guard {op : AOp} {t : Nat} {w : Bool} : RECK call lp (i :: sl) (⟨dst, keep, op, some (t, w)⟩ :: os) acc loc s ps ks R = RGSELK call lp i (look loc s.tm t) w op dst keep sl os acc loc s ps ks R := by
 apply propext
 have skip : ∀ (hs : stepRec call i ⟨dst, keep, op, some (t, w)⟩ ⟨loc, s.tm, s.heap⟩ = some (putR ⟨loc, s.tm, s.heap⟩ dst keep .skipped s.heap, .none)),
  RECK call lp (i :: sl) (⟨dst, keep, op, some (t, w)⟩ :: os) acc loc s ps ks R ↔ RPUTK call lp .skipped .none dst keep sl os acc loc s ps ks R := by
  intro hs
  constructor
  ·rintro ⟨r, rs, h1, h2, h3⟩
   simp only [List.zip_cons_cons, zg2, hs] at h1
   split at h1
   ·rename_i s2 rs2 hr
    simp only [Option.some.injEq, Prod.mk.injEq] at h1
    obtain ⟨rfl, rfl⟩ := h1
    exact ⟨_, _, hr, h2, h3⟩
   ·simp at h1
  ·rintro ⟨r, rs, hr, h2, h3⟩
   exact ⟨r, _, by simp only [List.zip_cons_cons, zg2, hs, hr], h2, h3⟩
 unfold RGSELK
 split
 ·rename_i b hb
  by_cases e : b = w
  ·subst e
   rw [if_pos rfl]
   have heq : RECK call lp (i :: sl) (⟨dst, keep, op, some (t, b)⟩ :: os) acc loc s ps ks R = RECK call lp (i :: sl) (⟨dst, keep, op, none⟩ :: os) acc loc s ps ks R := by
    unfold RECK
    simp only [List.zip_cons_cons, zg2, stepRec, zy2, hb, beq_self_eq_true, RSt.put_eq]
   rw [heq, RECK_cons]
  ·rw [if_neg e]
   have hbw : (b == w) = false := by simpa using e
   exact skip (by simp only [stepRec, zy2, hb, hbw, RSt.put_eq])
 ·rename_i hb
  exact skip (by simp only [stepRec, zy2, hb, RSt.put_eq])
 ·rename_i h1 h2
  refine ⟨fun ⟨r', rs, h, _⟩ => ?_, False.elim⟩
  simp only [List.zip_cons_cons, zg2, stepRec, zy2] at h
  simp at h
end
attribute [simp] EXEC_drawR RECK_nil RECK_cons RECK_guard RPUTK_0 RPUTK_T RPUTK_F RACTK_val RACTK_rd RRDK_some RACTK_md RMDK_some RACTK_nw RNWK_dead RNW2K_some RACTK_call RCALLK_some RGSELK_bool RGSELK_skip slotsOf makesOf AOp.makes pairsOk Rec.indep optBeq
theorem runAct_pcall {slot : Option Nat} {H : Heap} {f r : AV} {args : List AV} (hp : (f.plain && AV.plains args) = true) (h : call f args [] = some (r, [])) (hr : r.plain = true) : zb call slot H (.pcall f args) = some (r, H) := by
 simp only [zb, hp, if_true, h, hr]
theorem RPCALLK_ex {i : Nat} {sl : List Nat} {acc : List Rec} {ps : List (Nat × Nat)} {P : AV → Prop} {f : AV} {args : List AV} (hp : (f.plain && AV.plains args) = true) (h : ∃ r, call f args [] = some (r, []) ∧ P r) (hr : ∀ r, P r → r.plain = true) (hk : ∀ r, P r → RACTK call lp i (.val r) dst keep sl os acc loc s ps ks R) : RACTK call lp i (.pcall f args) dst keep sl os acc loc s ps ks R := by
 obtain ⟨r, h1, h2⟩ := h
 obtain ⟨v', H, hv, h⟩ := hk r h2
 simp only [zb, Option.some.injEq, Prod.mk.injEq] at hv
 obtain ⟨rfl, rfl⟩ := hv
 exact ⟨_, _, runAct_pcall hp h1 (hr _ h2), h⟩
def FINQ (res : List AResult) (R : AV → Heap → Prop) (e : AExit) (s : St) : Prop := (e = .normal ∨ e = .ret) ∧ SOME (closeDfr s.heap s.dfr) (fun H' => SOME (zd3 { s with heap := H' } res) (fun vs => R (oneOrTuple vs) H'))
def CLOSEK (x : Option Heap) (res : List AResult) (s : St) (R : AV → Heap → Prop) : Prop := SOME x (fun H' => SOME (zd3 { s with heap := H' } res) (fun vs => R (oneOrTuple vs) H'))
def RESK (x : Option (List AV)) (H : Heap) (R : AV → Heap → Prop) : Prop := SOME x (fun vs => R (oneOrTuple vs) H)
variable {F : AV → Heap → Prop} {res : List AResult}
theorem FINQ_normal : FINQ res F .normal s = CLOSEK (closeDfr s.heap s.dfr) res s F := by simp [FINQ, CLOSEK]
theorem FINQ_ret : FINQ res F .ret s = CLOSEK (closeDfr s.heap s.dfr) res s F := by simp [FINQ, CLOSEK]
theorem CLOSEK_some {H : Heap} : CLOSEK (some H) res s F = RESK (zd3 { s with heap := H } res) H F := z24
theorem RESK_some {H : Heap} {vs : List AV} : RESK (some vs) H F = F (oneOrTuple vs) H := z24
attribute [simp] EXEC_skip EXEC_exit EXEC_ret EXEC_seq EXEC_block EXEC_cond CONDK_bool EXEC_region KONT_nil KONT_seqN KONT_seqE KONT_seqR KONT_blockN KONT_blockE KONT_blockR OPSK_nil OPSK_cons OPSK_guard ACTK_val0 ACTK_valT ACTK_valF ACTK_rd ACTK_md MDK_some ACTK_nw NWK_some ACTK_call CALLK_some GSELK_bool GSELK_skip FINQ_normal FINQ_ret CLOSEK_some RESK_some look evalA unA Tm.get_put Tm.ofArgs part closeDfr zd3 readResult oneOrTuple Action.ofOption
section
variable {ρ : AOperand → AV}
@[simp] theorem actOf_move (x : AOperand) : actOf ρ (.move x) = (.val (ρ x)) := rfl
@[simp] theorem actOf_pick (c a b : AOperand) : actOf ρ (.pick c a b) = (match ρ c with
 | .bool t => .val (if t then ρ a else ρ b)
 | _ => .bad) := rfl
@[simp] theorem actOf_alloc (z : AV) : actOf ρ (.alloc z) = (.nw [] fun _ id g => if z.cells.all AV.isCell then some (.ptr id g 0 0, .arr g z.cells.length [z]) else none) := rfl
@[simp] theorem actOf_box (n : Nat) (x : AOperand) : actOf ρ (.box n x) = (.nw [] fun _ id g => if (ρ x).rowok n then some (.ptr id g 0 0, .arr g n [ρ x]) else none) := rfl
@[simp] theorem actOf_build (z : List AV) (parts : List (Nat × Nat × AOperand)) : actOf ρ (.build z parts) = (.ofOption (buildA z (parts.map fun (o, s, x) => (o, s, ρ x)))) := rfl
@[simp] theorem actOf_buildSlice (z : AV) (len : Nat) (parts : List (Nat × AOperand)) : actOf ρ (.buildSlice z len parts) = (.nw [] fun _ id g =>
 if z.cells.all AV.isCell then match zr z.cells.length (List.replicate len z) (parts.map fun (i, x) => (i, ρ x)) with
 | some rows => some (.sl id g 0 len, .arr g z.cells.length rows)
 | none => none else none) := rfl
@[simp] theorem actOf_load (agg : Bool) (n : Nat) (a : AOperand) : actOf ρ (.load agg n a) = (loadA agg n (ρ a)) := rfl
@[simp] theorem actOf_store (n : Nat) (a v : AOperand) : actOf ρ (.store n a v) = (storeA n (ρ v) (ρ a)) := rfl
@[simp] theorem actOf_nilCheck (x : AOperand) : actOf ρ (.nilCheck x) = (match ρ x with
 | .ptr a b c d => .val (.ptr a b c d)
 | .fptr k cs o => .val (.fptr k cs o)
 | .func f a b => .val (.func f a b)
 | .yieldf a b => .val (.yieldf a b)
 | _ => .bad) := rfl
@[simp] theorem actOf_bin (op : BinOp) (eq : EqKind) (x y : AOperand) : actOf ρ (.bin op eq x y) = (.ofOption (binA op eq (ρ x) (ρ y))) := rfl
@[simp] theorem actOf_un (op : UnOp) (x : AOperand) : actOf ρ (.un op x) = (.ofOption (unA op (ρ x))) := rfl
@[simp] theorem actOf_toInt (k : IntKind) (x : AOperand) : actOf ρ (.toInt k x) = (match ρ x with
 | .int _ n => .val (.int k (k.wrap n))
 | _ => .bad) := rfl
@[simp] theorem actOf_runeStr (x : AOperand) : actOf ρ (.runeStr x) = (match ρ x with
 | .int _ n => .val (.str (Utf8.encode n))
 | _ => .bad) := rfl
@[simp] theorem actOf_strStr (x : AOperand) : actOf ρ (.strStr x) = (match ρ x with
 | .str s => .val (.str s)
 | _ => .bad) := rfl
@[simp] theorem actOf_makeFunc (f : FuncId) (first captured : List AOperand) : actOf ρ (.makeFunc f first captured) = (.val (.func f (first.map ρ) (captured.map ρ))) := rfl
@[simp] theorem actOf_makeMap  : actOf ρ (.makeMap ) = (.nw [] fun _ id g => some (.map id g, .map g [] 0)) := rfl
@[simp] theorem actOf_makeSlice (z : AV) (bytes : Nat) (l c : AOperand) : actOf ρ (.makeSlice z bytes l c) = (match ρ l, ρ c with
 | .int _ n, .int _ m =>
   if 0 ≤ n ∧ n ≤ m ∧ (m.toNat * bytes ≤ 2 ^ 47) ∧ m.toNat ≤ 2 ^ 47 then
    .nw [] fun _ id g => if z.cells.all AV.isCell then some (.sl id g 0 n.toNat, .arr g z.cells.length (List.replicate n.toNat z)) else none
   else .bad
 | _, _ => .bad) := rfl
@[simp] theorem actOf_slice (sz : Nat) (x : AOperand) (lo hi : Option AOperand) : actOf ρ (.slice sz x lo hi) = (match ρ x with
 | .sl id gen off len => .rd [id] fun
   | [.arr g s rows] => if g = gen ∧ off + len ≤ rows.length ∧ s = sz ∧ 1 ≤ sz then match bound len len (hi.map ρ) with
    | some h => match bound 0 h (lo.map ρ) with
      | some l => some (.sl id gen (off + l) (h - l))
      | none => none
    | none => none else none
   | _ => none
 | v => .ofOption (sliceA sz (lo.map ρ) (hi.map ρ) v)) := rfl
@[simp] theorem actOf_fieldAddr (off : Nat) (x : AOperand) : actOf ρ (.fieldAddr off x) = (match ρ x with
 | .ptr id g r o => .val (.ptr id g r (o + off))
 | .fptr k cs o => .val (.fptr k cs (o + off))
 | _ => .bad) := rfl
@[simp] theorem actOf_field (agg : Bool) (n off : Nat) (x : AOperand) : actOf ρ (.field agg n off x) = (match ρ x with
 | .agg cs => .ofOption (part agg n off cs)
 | _ => .bad) := rfl
@[simp] theorem actOf_index (x i : AOperand) : actOf ρ (.index x i) = (match ρ x, ρ i with
 | .str s, .int _ j => if 0 ≤ j then match s[j.toNat]? with
   | some b => .val (.int .u8 b.toNat)
   | none => .bad
   else .bad
 | _, _ => .bad) := rfl
@[simp] theorem actOf_lookup (agg : Bool) (ks : List CK) (z : AV) (m k : AOperand) (ok : Bool) : actOf ρ (.lookup agg ks z m k ok) = (if keyOk agg ks (ρ k) then match ρ m with
 | .nilmap => .val (if ok then .tuple [z, .bool false] else z)
 | .map id gen => .rd [id] fun
   | [.map g es _] => if g = gen then lookupR agg ks z (ρ k) ok es else none
   | _ => none
 | _ => .bad
 else .bad) := rfl
@[simp] theorem actOf_mapUpdate (agg : Bool) (ks : List CK) (m k v : AOperand) : actOf ρ (.mapUpdate agg ks m k v) = (if keyOk agg ks (ρ k) then match ρ m with
 | .map id gen => .md [id] id fun
   | [.map g es c] => if g = gen then match findE agg ks (ρ k) es 0 with
     | some (some (i, e)) => some (.undef, .map g (es.set i { e with val := ρ v }) c)
     | some none => some (.undef, .map g (es ++ [{ key := ρ k, val := ρ v, born := c }]) (c + 1))
     | none => none else none
   | _ => none
 | _ => .bad
 else .bad) := rfl
@[simp] theorem actOf_mapEntry (agg : Bool) (ks : List CK) (z : AV) (m k : AOperand) : actOf ρ (.mapEntry agg ks z m k) = (if keyOk agg ks (ρ k) then match ρ m with
 | .map id gen => .md [id] id fun
   | [.map g es c] => if g = gen then match findE agg ks (ρ k) es 0 with
     | some (some (_, e)) => some (.tuple [e.val, .int .i64 e.born], .map g es c)
     | some none => some (.tuple [z, .int .i64 c], .map g (es ++ [{ key := ρ k, val := z, born := c }]) (c + 1))
     | none => none else none
   | _ => none
 | _ => .bad
 else .bad) := rfl
@[simp] theorem actOf_entryStore (m s v : AOperand) : actOf ρ (.entryStore m s v) = (match ρ m, ρ s with
 | .map id gen, .int _ b => .md [id] id fun
   | [.map g es c] => if g = gen then match es.findIdx? (fun e => (e.born : Int) == b) with
     | some i => some (.undef, .map g (es.modify i fun e => { e with val := ρ v }) c)
     | none => none else none
   | _ => none
 | _, _ => .bad) := rfl
@[simp] theorem actOf_makeInterface (t : TypeId) (x : AOperand) : actOf ρ (.makeInterface t x) = (match ρ x with
 | .undef => .bad
 | v => .val (.iface t v)) := rfl
@[simp] theorem actOf_extract (x : AOperand) (i : Nat) : actOf ρ (.extract x i) = (match ρ x with
 | .tuple vs => .ofOption vs[i]?
 | _ => .bad) := rfl
@[simp] theorem actOf_append (sz bytes : Nat) (x y : AOperand) : actOf ρ (.append sz bytes x y) = (ze1 sz bytes (ρ x) (ρ y)) := rfl
@[simp] theorem actOf_delete (agg : Bool) (ks : List CK) (m k : AOperand) : actOf ρ (.delete agg ks m k) = (if keyOk agg ks (ρ k) then match ρ m with
 | .nilmap => .val (.tuple [])
 | .map id gen => .md [id] id fun
   | [.map g es c] => if g = gen then match findE agg ks (ρ k) es 0 with
     | some (some (i, _)) => some (.tuple [], .map g (es.eraseIdx i) c)
     | some none => some (.tuple [], .map g es c)
     | none => none else none
   | _ => none
 | _ => .bad
 else .bad) := rfl
@[simp] theorem actOf_pcall (f : AOperand) (args : List AOperand) : actOf ρ (.pcall f args) = (.pcall (ρ f) (args.map ρ)) := rfl
@[simp] theorem actOf_call (f : AOperand) (args : List AOperand) : actOf ρ (.call f args) = (.call (ρ f) (args.map ρ)) := rfl
@[simp] theorem actOf_frzM (x : AOperand) : actOf ρ (.frzM x) = (match ρ x with
 | .sl id gen off len => .md [id] id fun
   | [b] => match z63 gen off len b with
     | some rows => if AV.plains rows then some (.fsl false rows, .dead gen) else none
     | none => none
   | _ => none
 | v => .val v) := rfl
@[simp] theorem actOf_boxF (n : Nat) (x : AOperand) : actOf ρ (.boxF n x) = (if (ρ x).rowok n then .val (.fptr false (ρ x).cells 0) else .bad) := rfl
@[simp] theorem actOf_buildSliceF (z : AV) (len : Nat) (parts : List (Nat × AOperand)) : actOf ρ (.buildSliceF z len parts) = (if z.cells.all AV.isCell then match zr z.cells.length (List.replicate len z) (parts.map fun (i, x) => (i, ρ x)) with
 | some rows => .val (.fsl false rows)
 | none => .bad
 else .bad) := rfl
@[simp] theorem actOf_bad  : actOf ρ (.bad ) = (.bad) := rfl
end
@[simp] theorem loadA_ptr {agg : Bool} {n id gen row off : Nat} : loadA agg n (.ptr id gen row off) = .rd [id] fun
 | [.arr g _ rows] => if g = gen then match rows[row]? with
   | some r => part agg n off r.cells
   | none => none else none
 | _ => none := rfl
@[simp] theorem loadA_fptr {agg l : Bool} {n off : Nat} {cs : List AV} : loadA agg n (.fptr l cs off) = .ofOption (part agg n off cs) := rfl
@[simp] theorem storeA_ptr {n id gen row off : Nat} {v : AV} : storeA n v (.ptr id gen row off) = .md [id] id fun
 | [.arr g sz rows] => if g = gen then match rows[row]? with
   | some r => if v.rowok n = true ∧ off + n ≤ r.cells.length then some (.undef, .arr g sz (rows.set row (zz r off v))) else none
   | none => none else none
 | _ => none := rfl
theorem runBodyK {af : AFunc} {args : List AV} {H : Heap} {P : AV → Heap → Prop} (hl : args.length = af.nargs)
 (h : ∀ F : AV → Heap → Prop, (∀ v H', P v H' → F v H') → EXEC call lp af.body [] { tm := Tm.ofArgs .leaf 0 args, heap := H, dfr := [], rnd := none } (FINQ af.results F)) : ∃ r H', runBody call lp af args H = some (r, H') ∧ P r H' := by
 obtain ⟨e, s, h1, h2, H', h3, vs, h4, h5⟩ := h P (fun _ _ h => h)
 exact ⟨_, _, by unfold runBody; rw [if_pos hl, h1]; simp only [h2, if_true, h3, h4], h5⟩
theorem callB {f : FuncId} {first captured args : List AV} {H H'' : Heap} {r : AV} (af : AFunc) (ht : tbl f = some (.code af)) (hp : af.pure = false) (hl : (first ++ args ++ captured).length = af.nargs)
 (h : ∀ F : AV → Heap → Prop, (∀ v H', zg af.frz H.length v H' = (r, H'') → F v H') → EXEC (callW tbl) loopW af.body [] { tm := Tm.ofArgs .leaf 0 (first ++ args ++ captured), heap := H, dfr := [], rnd := none } (FINQ af.results F)) :
 callW tbl (.func f first captured) args H = some (r, H'') := by
 obtain ⟨v, H', h1, h2⟩ := runBodyK hl h
 rw [callW_body ht hp h1, h2]
theorem callE {f : FuncId} {first captured args : List AV} {H : Heap} (P : AV → Heap → Prop) (af : AFunc) (ht : tbl f = some (.code af)) (hp : af.pure = false) (hl : (first ++ args ++ captured).length = af.nargs)
 (h : ∀ F : AV → Heap → Prop, (∀ v H', P v H' → F v H') → EXEC (callW tbl) loopW af.body [] { tm := Tm.ofArgs .leaf 0 (first ++ args ++ captured), heap := H, dfr := [], rnd := none } (FINQ af.results F)) :
 ∃ v H', P v H' ∧ callW tbl (.func f first captured) args H = some (zg af.frz H.length v H') := by
 obtain ⟨v, H', h1, h2⟩ := runBodyK hl h
 exact ⟨v, H', h2, callW_body ht hp h1⟩
theorem pureK {args : List AV} {P : AV → Prop} (af : AFunc) (hl : args.length = af.nargs)
 (h : ∀ F : AV → Heap → Prop, (∀ v H' r, reify H' zx v = some r → P r → F v H') → EXEC (callW tbl) loopW af.body [] { tm := Tm.ofArgs .leaf 0 args, heap := [], dfr := [], rnd := none } (FINQ af.results F)) :
 ∃ r, zu (callW tbl) loopW af args = some r ∧ P r := by
 obtain ⟨v, H', h1, r, h2, h3⟩ := runBodyK (P := fun v H' => ∃ r, reify H' zx v = some r ∧ P r) hl (fun F hF => h F (fun v H' r h1 h2 => hF v H' ⟨r, h1, h2⟩))
 exact ⟨r, by unfold zu; rw [h1]; exact h2, h3⟩
theorem z7 {H : Heap} {v : AV} (h : v.plain = true) : reify H zx v = some v := by unfold zx; simp only [reify, h, if_true]
theorem EXEC_loop {body : ACode} (h : WP call lp (.loop body) s (fun e s' => KONT call lp ks e s' R)) : EXEC call lp (.loop body) ks s R := h
theorem zf {body : ACode} (I : Nat → St → Prop) (n : Nat) (h : I n s)
 (hstep : ∀ (n : Nat) (s : St) (B : AExit → St → Prop), I n s → (∀ (s' : St) (m : Nat), m < n → I m s' → B .normal s') → (∀ (e : AExit) (s' : St), e ≠ .normal → KONT (callW tbl) loopW ks e s' R → B e s') → EXEC (callW tbl) loopW body [] s B) :
 EXEC (callW tbl) loopW (.loop body) ks s R := by
 refine EXEC_loop (WP_loop_inv I (fun n s hI => ?_) n s h)
 refine hstep n s (fun e s' => match e with | .normal => ∃ m, m < n ∧ I m s' | e => KONT (callW tbl) loopW ks e s' R) hI (fun s' m hm hI' => ⟨m, hm, hI'⟩) (fun e s' he hk => ?_)
 cases e with
 | normal => exact absurd rfl he
 | _ => exact hk
theorem z02 {c i n t k k1 : Nat} {body : ACode} (N : Nat) (I : Nat → St → Prop) (j : Nat) (hj : j ≤ N) (hIs : I j s) (hN : N < 2 ^ 62)
 (hI : ∀ j s, I j s → s.tm.get i = .int .i64 j ∧ s.tm.get n = .int .i64 N)
 (hbody : ∀ (j : Nat) (s : St) (B : AExit → St → Prop), j < N → I j s → (∀ e s', (e = .normal ∨ e = .exit k1) → s'.tm.get i = .int .i64 j → I (j + 1) { s' with tm := s'.tm.put i (.int .i64 ((j + 1 : Nat) : Int)) } → B e s') →
  (∀ e s', e ≠ .normal → e ≠ .exit k1 → KONT (callW tbl) loopW ks e s' R → B e s') → EXEC (callW tbl) loopW body [] { s with tm := s.tm.put c (.bool true) } B)
 (hexit : ∀ s, I N s → KONT (callW tbl) loopW ks (.exit k) { s with tm := s.tm.put c (.bool false) } R)
 (hc : c < 4000 := by decide) (hi : i < 4000 := by decide) (hn : n < 4000 := by decide) (hci : c ≠ i := by decide) (hcn : c ≠ n := by decide) :
 EXEC (callW tbl) loopW (.loop (.seq (.region [⟨some c, true, .bin .lss .no (.tmp i) (.tmp n), none⟩]) (.seq (.cond (.tmp c) .skip (.exit k)) (.seq (.block k1 body)
  (.region [⟨some t, false, .bin .add .no (.tmp i) (.const (.int .i64 1)), none⟩, ⟨some i, true, .move (.tmp t), none⟩]))))) ks s R := by
 refine WP_range (Q := kontQ (callW tbl) loopW ks R) N I hN hc hi hn hci hcn hI (fun j s hlt hIs => ?_) (fun s hs => hexit s hs) j s hj hIs
 refine hbody j s (fun e s' => if e = .normal ∨ e = .exit k1 then s'.tm.get i = .int .i64 j ∧ I (j + 1) { s' with tm := s'.tm.put i (.int .i64 ((j + 1 : Nat) : Int)) } else kontQ (callW tbl) loopW ks R e s') hlt hIs (fun e s' he h1 h2 => ?_) (fun e s' h1 h2 h3 => ?_)
 ·rw [if_pos he]; exact ⟨h1, h2⟩
 ·rw [if_neg (by simp [h1, h2])]; exact h3
theorem beq_toList (a b : ByteArray) : (a.toList == b.toList) = decide (a = b) := by
 by_cases h : a = b
 ·subst h; simp
 ·have : a.toList ≠ b.toList := fun e => h (toList_inj e)
  simp [h, this]
section
variable {e : EqKind} {k : IntKind} {a b : Int} {x y : ByteArray}
@[simp] theorem binI_add : binA .add e (.int k a) (.int k b) = some (.int k (k.wrap (a + b))) := by simp [binA, intOp]
@[simp] theorem binI_sub : binA .sub e (.int k a) (.int k b) = some (.int k (k.wrap (a - b))) := by simp [binA, intOp]
@[simp] theorem binI_mul : binA .mul e (.int k a) (.int k b) = some (.int k (k.wrap (a * b))) := by simp [binA, intOp]
@[simp] theorem binI_eql : binA .eql e (.int k a) (.int k b) = some (.bool (a == b)) := by simp [binA, intOp]
@[simp] theorem binI_neq : binA .neq e (.int k a) (.int k b) = some (.bool (a != b)) := by simp [binA, intOp]
@[simp] theorem binI_lss : binA .lss e (.int k a) (.int k b) = some (.bool (decide (a < b))) := by simp [binA, intOp]
@[simp] theorem binI_leq : binA .leq e (.int k a) (.int k b) = some (.bool (decide (a ≤ b))) := by simp [binA, intOp]
@[simp] theorem binI_gtr : binA .gtr e (.int k a) (.int k b) = some (.bool (decide (a > b))) := by simp [binA, intOp]
@[simp] theorem binI_geq : binA .geq e (.int k a) (.int k b) = some (.bool (decide (a ≥ b))) := by simp [binA, intOp]
@[simp] theorem binS_eql : binA .eql e (.str x) (.str y) = some (.bool (decide (x = y))) := by simp [binA, strOp, beq_toList]
@[simp] theorem binS_neq : binA .neq e (.str x) (.str y) = some (.bool !(decide (x = y))) := by simp [binA, strOp, beq_toList]
@[simp] theorem binB_eql {p q : Bool} : binA .eql .bool (.bool p) (.bool q) = some (.bool (p == q)) := rfl
@[simp] theorem binB_neq {p q : Bool} : binA .neq .bool (.bool p) (.bool q) = some (.bool !(p == q)) := rfl
@[simp] theorem binC_eql {ks : List CK} {p q : List AV} : binA .eql (.cells ks) (.agg p) (.agg q) = (zy ks p q).map .bool := rfl
@[simp] theorem binC_neq {ks : List CK} {p q : List AV} : binA .neq (.cells ks) (.agg p) (.agg q) = (zy ks p q).map fun b => .bool !b := rfl
@[simp] theorem cells_nilE : zy [] [] [] = some true := rfl
@[simp] theorem cells_intE {ks : List CK} {p q : List AV} : zy (.int :: ks) (.int k a :: p) (.int k b :: q) = (zy ks p q).map fun t => (a == b) && t := by
  simp only [zy, zc3, if_true]; cases zy ks p q <;> rfl
@[simp] theorem cells_strE {ks : List CK} {p q : List AV} : zy (.str :: ks) (.str x :: p) (.str y :: q) = (zy ks p q).map fun t => decide (x = y) && t := by
  simp only [zy, zc3, beq_toList]; cases zy ks p q <;> rfl
end
@[simp] theorem isCell_bool (b : Bool) : AV.isCell (.bool b) = true := rfl
@[simp] theorem isCell_int (k : IntKind) (n : Int) : AV.isCell (.int k n) = true := rfl
@[simp] theorem isCell_str (b : ByteArray) : AV.isCell (.str b) = true := rfl
@[simp] theorem isCell_nilsl : AV.isCell .nilsl = true := rfl
@[simp] theorem isCell_nilmap : AV.isCell .nilmap = true := rfl
@[simp] theorem isCell_nilptr : AV.isCell .nilptr = true := rfl
@[simp] theorem isCell_nilfunc : AV.isCell .nilfunc = true := rfl
@[simp] theorem isCell_niliface : AV.isCell .niliface = true := rfl
@[simp] theorem isCell_fsl (l : Bool) (r : List AV) : AV.isCell (.fsl l r) = true := rfl
@[simp] theorem isCell_sl (a b c d : Nat) : AV.isCell (.sl a b c d) = true := rfl
@[simp] theorem isCell_ptr (a b c d : Nat) : AV.isCell (.ptr a b c d) = true := rfl
@[simp] theorem isCell_map (a b : Nat) : AV.isCell (.map a b) = true := rfl
@[simp] theorem isCell_fptr (a : Bool) (b : List AV) (c : Nat) : AV.isCell (.fptr a b c) = true := rfl
@[simp] theorem isCell_func (a : FuncId) (b c : List AV) : AV.isCell (.func a b c) = true := rfl
@[simp] theorem cells_agg (cs : List AV) : AV.cells (.agg cs) = cs := rfl
@[simp] theorem cells_bool (b : Bool) : AV.cells (.bool b) = [.bool b] := rfl
@[simp] theorem cells_int (k : IntKind) (n : Int) : AV.cells (.int k n) = [.int k n] := rfl
@[simp] theorem cells_str (b : ByteArray) : AV.cells (.str b) = [.str b] := rfl
@[simp] theorem cells_nilsl : AV.cells .nilsl = [.nilsl] := rfl
@[simp] theorem cells_nilmap : AV.cells .nilmap = [.nilmap] := rfl
@[simp] theorem cells_nilptr : AV.cells .nilptr = [.nilptr] := rfl
@[simp] theorem cells_nilfunc : AV.cells .nilfunc = [.nilfunc] := rfl
@[simp] theorem cells_niliface : AV.cells .niliface = [.niliface] := rfl
@[simp] theorem cells_fsl (l : Bool) (r : List AV) : AV.cells (.fsl l r) = [.fsl l r] := rfl
@[simp] theorem cells_sl (a b c d : Nat) : AV.cells (.sl a b c d) = [.sl a b c d] := rfl
@[simp] theorem cells_ptr (a b c d : Nat) : AV.cells (.ptr a b c d) = [.ptr a b c d] := rfl
@[simp] theorem cells_map (a b : Nat) : AV.cells (.map a b) = [.map a b] := rfl
@[simp] theorem cells_fptr (a : Bool) (b : List AV) (c : Nat) : AV.cells (.fptr a b c) = [.fptr a b c] := rfl
@[simp] theorem cells_func (a : FuncId) (b c : List AV) : AV.cells (.func a b c) = [.func a b c] := rfl
@[simp] theorem rowok1_bool (b : Bool) : AV.rowok 1 (.bool b) = true := rfl
@[simp] theorem rowok1_int (k : IntKind) (n : Int) : AV.rowok 1 (.int k n) = true := rfl
@[simp] theorem rowok1_str (b : ByteArray) : AV.rowok 1 (.str b) = true := rfl
@[simp] theorem rowok1_nilsl : AV.rowok 1 .nilsl = true := rfl
@[simp] theorem rowok1_nilmap : AV.rowok 1 .nilmap = true := rfl
@[simp] theorem rowok1_nilptr : AV.rowok 1 .nilptr = true := rfl
@[simp] theorem rowok1_nilfunc : AV.rowok 1 .nilfunc = true := rfl
@[simp] theorem rowok1_niliface : AV.rowok 1 .niliface = true := rfl
@[simp] theorem rowok1_fsl (l : Bool) (r : List AV) : AV.rowok 1 (.fsl l r) = true := rfl
@[simp] theorem rowok1_sl (a b c d : Nat) : AV.rowok 1 (.sl a b c d) = true := rfl
@[simp] theorem rowok1_ptr (a b c d : Nat) : AV.rowok 1 (.ptr a b c d) = true := rfl
@[simp] theorem rowok1_map (a b : Nat) : AV.rowok 1 (.map a b) = true := rfl
@[simp] theorem rowok1_fptr (a : Bool) (b : List AV) (c : Nat) : AV.rowok 1 (.fptr a b c) = true := rfl
@[simp] theorem rowok1_func (a : FuncId) (b c : List AV) : AV.rowok 1 (.func a b c) = true := rfl
@[simp] theorem plain_bool (b : Bool) : AV.plain (.bool b) = true := rfl
@[simp] theorem plain_int (k : IntKind) (n : Int) : AV.plain (.int k n) = true := rfl
@[simp] theorem plain_str (b : ByteArray) : AV.plain (.str b) = true := rfl
@[simp] theorem plain_nilsl : AV.plain .nilsl = true := rfl
@[simp] theorem plain_nilmap : AV.plain .nilmap = true := rfl
@[simp] theorem plain_fsl (l : Bool) (r : List AV) : AV.plain (.fsl l r) = AV.plains r := rfl
@[simp] theorem plain_agg (r : List AV) : AV.plain (.agg r) = AV.plains r := rfl
@[simp] theorem plain_tuple (r : List AV) : AV.plain (.tuple r) = AV.plains r := rfl
@[simp] theorem plains_nil : AV.plains [] = true := rfl
@[simp] theorem plains_cons (v : AV) (r : List AV) : AV.plains (v :: r) = (v.plain && AV.plains r) := rfl
class Enc (α : Type) where
 Is : AV → α → Prop
 lend : ∀ {v : AV} {x : α}, Is v x → Is v.lend x
 plain : ∀ {v : AV} {x : α}, Is v x → v.plain = true
 sz : Nat
 row : ∀ {v : AV} {x : α}, Is v x → v.rowok sz = true
open Enc (Is)
inductive All2 {α β : Type} (R : α → β → Prop) : List α → List β → Prop
 | nil : All2 R [] []
 | cons {a : α} {b : β} {as : List α} {bs : List β} (h : R a b) (hs : All2 R as bs) : All2 R (a :: as) (b :: bs)
namespace All2
variable {α β : Type} {R : α → β → Prop}
theorem length {l : List α} {m : List β} (h : All2 R l m) : l.length = m.length := by induction h <;> simp_all
theorem get {l : List α} {m : List β} (h : All2 R l m) {i : Nat} {b : β} (hb : m[i]? = some b) : ∃ a, l[i]? = some a ∧ R a b := by
 induction h generalizing i with
 | nil => simp at hb
 | cons h _ ih =>
   cases i with
   | zero => simp at hb; subst hb; exact ⟨_, rfl, h⟩
   | succ i => simpa using ih (by simpa using hb)
theorem take {l : List α} {m : List β} (h : All2 R l m) (n : Nat) : All2 R (l.take n) (m.take n) := by
 induction h generalizing n with
 | nil => simp; exact .nil
 | cons h _ ih => cases n with
   | zero => exact .nil
   | succ n => exact .cons h (ih n)
theorem drop {l : List α} {m : List β} (h : All2 R l m) (n : Nat) : All2 R (l.drop n) (m.drop n) := by
 induction h generalizing n with
 | nil => simp; exact .nil
 | cons h hs ih => cases n with
   | zero => exact .cons h hs
   | succ n => exact ih n
theorem append {l l' : List α} {m m' : List β} (h : All2 R l m) (h' : All2 R l' m') : All2 R (l ++ l') (m ++ m') := by
 induction h with
 | nil => exact h'
 | cons h _ ih => exact .cons h ih
theorem imp {R' : α → β → Prop} {l : List α} {m : List β} (h : All2 R l m) (hi : ∀ a b, R a b → R' a b) : All2 R' l m := by
 induction h with
 | nil => exact .nil
 | cons h _ ih => exact .cons (hi _ _ h) ih
theorem left {l : List α} {m : List β} (h : All2 R l m) : ∀ a ∈ l, ∃ b ∈ m, R a b := by
 induction h with
 | nil => simp
 | cons h _ ih =>
   intro a ha
   rcases List.mem_cons.1 ha with rfl | ha
   ·exact ⟨_, List.mem_cons_self .., h⟩
   ·obtain ⟨b, h1, h2⟩ := ih a ha; exact ⟨b, List.mem_cons_of_mem _ h1, h2⟩
end All2
section
variable {α : Type} [Enc α]
theorem rows_lend {rows : List AV} {xs : List α} (h : All2 Is rows xs) : All2 Is (AV.lends rows) xs := by
 induction h with
 | nil => exact .nil
 | cons h _ ih => exact .cons (Enc.lend h) ih
theorem rows_plain {rows : List AV} {xs : List α} (h : All2 Is rows xs) : AV.plains rows = true := by
 induction h with
 | nil => rfl
 | cons h _ ih => simp [AV.plains, Enc.plain h, ih]
theorem rows_len {rows : List AV} {xs : List α} (h : All2 Is rows xs) : (rows.all fun r => r.cells.length == Enc.sz α) = true := by
 induction h with
 | nil => rfl
 | cons h _ ih => simp only [List.all_cons, ih, Bool.and_true]; simpa using zt (Enc.row h)
theorem slice_rows {sz : Nat} {rows : List AV} {xs : List α} {fl : Bool} {lo hi : Option AV} {l h : Nat} (hr : All2 Is rows xs) (hsz : sz = Enc.sz α) (h1 : 1 ≤ sz) (hh : bound rows.length rows.length hi = some h) (hl : bound 0 h lo = some l) :
 sliceA sz lo hi (.fsl fl rows) = some (.fsl fl ((rows.drop l).take (h - l))) := by
 subst hsz
 simp only [sliceA, hh, hl, rows_len hr, if_true]
 rw [if_neg (by omega)]
def IsL (v : AV) (xs : List α) : Prop := (v = .nilsl ∧ xs = []) ∨ ∃ (fl : Bool) (rows : List AV), v = .fsl fl rows ∧ All2 Is rows xs
instance : Enc (List α) where
 Is := IsL
 lend := by
  rintro v xs (⟨rfl, rfl⟩ | ⟨fl, rows, rfl, h⟩)
  ·exact .inl ⟨rfl, rfl⟩
  ·exact .inr ⟨true, _, rfl, rows_lend h⟩
 plain := by
  rintro v xs (⟨rfl, rfl⟩ | ⟨fl, rows, rfl, h⟩)
  ·rfl
  ·simpa [AV.plain] using rows_plain h
 sz := 1
 row := by
  rintro v xs (⟨rfl, rfl⟩ | ⟨fl, rows, rfl, h⟩) <;> rfl
theorem IsL.nil : Is (α := List α) .nilsl [] := .inl ⟨rfl, rfl⟩
theorem IsL.fsl {fl : Bool} {rows : List AV} {xs : List α} (h : All2 Is rows xs) : Is (.fsl fl rows) xs := .inr ⟨fl, rows, rfl, h⟩
theorem IsL.cases {v : AV} {xs : List α} (h : Is v xs) : (v = .nilsl ∧ xs = []) ∨ ∃ (fl : Bool) (rows : List AV), v = .fsl fl rows ∧ All2 Is rows xs := h
end
instance : Enc Bool where
 Is v b := v = .bool b
 lend := by rintro v x rfl; rfl
 plain := by rintro v x rfl; rfl
 sz := 1
 row := by rintro v x rfl; rfl
instance : Enc ByteArray where
 Is v b := v = .str b
 lend := by rintro v x rfl; rfl
 plain := by rintro v x rfl; rfl
 sz := 1
 row := by rintro v x rfl; rfl
end Go.Abs
namespace Go.Abs
mutual
theorem under_mono {n m : Nat} (h : n ≤ m) : ∀ v : AV, v.under n = true → v.under m = true
 | .undef, _ | .bool _, _ | .int _ _, _ | .str _, _ | .nilptr, _ | .nilsl, _ | .nilmap, _ | .nilfunc, _ | .niliface, _ => rfl
 | .ptr _ _ _ _, hv | .sl _ _ _ _, hv | .map _ _, hv | .yieldf _ _, hv => by simp only [AV.under, decide_eq_true_eq] at hv ⊢; omega
 | .fptr _ cs _, hv => by simp only [AV.under] at hv ⊢; exact unders_mono h cs hv
 | .fsl _ cs, hv => by simp only [AV.under] at hv ⊢; exact unders_mono h cs hv
 | .func _ a b, hv => by simp only [AV.under, Bool.and_eq_true] at hv ⊢; exact ⟨unders_mono h a hv.1, unders_mono h b hv.2⟩
 | .iface _ v, hv => by simp only [AV.under] at hv ⊢; exact under_mono h v hv
 | .agg cs, hv => by simp only [AV.under] at hv ⊢; exact unders_mono h cs hv
 | .tuple cs, hv => by simp only [AV.under] at hv ⊢; exact unders_mono h cs hv
theorem unders_mono {n m : Nat} (h : n ≤ m) : ∀ vs : List AV, AV.unders n vs = true → AV.unders m vs = true
 | [], _ => rfl
 | v :: vs, hv => by simp only [AV.unders, Bool.and_eq_true] at hv ⊢; exact ⟨under_mono h v hv.1, unders_mono h vs hv.2⟩
end
mutual
theorem plain_under {n : Nat} : ∀ v : AV, v.plain = true → v.under n = true
 | .undef, _ | .bool _, _ | .int _ _, _ | .str _, _ | .nilptr, _ | .nilsl, _ | .nilmap, _ | .nilfunc, _ | .niliface, _ => rfl
 | .ptr _ _ _ _, hv | .sl _ _ _ _, hv | .map _ _, hv | .yieldf _ _, hv => by simp [AV.plain] at hv
 | .fptr _ cs _, hv => by simp only [AV.under, AV.plain] at hv ⊢; exact z11 cs hv
 | .fsl _ cs, hv => by simp only [AV.under, AV.plain] at hv ⊢; exact z11 cs hv
 | .func _ a b, hv => by simp only [AV.under, AV.plain, Bool.and_eq_true] at hv ⊢; exact ⟨z11 a hv.1, z11 b hv.2⟩
 | .iface _ v, hv => by simp only [AV.under, AV.plain] at hv ⊢; exact plain_under v hv
 | .agg cs, hv => by simp only [AV.under, AV.plain] at hv ⊢; exact z11 cs hv
 | .tuple cs, hv => by simp only [AV.under, AV.plain] at hv ⊢; exact z11 cs hv
theorem z11 {n : Nat} : ∀ vs : List AV, AV.plains vs = true → AV.unders n vs = true
 | [], _ => rfl
 | v :: vs, hv => by simp only [AV.unders, AV.plains, Bool.and_eq_true] at hv ⊢; exact ⟨plain_under v hv.1, z11 vs hv.2⟩
end
theorem tmUnder_mono {n m : Nat} (h : n ≤ m) : ∀ t : Tm, t.under n = true → t.under m = true
 | .leaf, _ => rfl
 | .node v l r, hv => by simp only [Tm.under, Bool.and_eq_true] at hv ⊢; exact ⟨⟨under_mono h v hv.1.1, tmUnder_mono h l hv.1.2⟩, tmUnder_mono h r hv.2⟩
theorem blkUnder_mono {n m : Nat} (h : n ≤ m) {B : Blk} (hB : B.under n = true) : B.under m = true := by
 cases B with
 | dead | defr => rfl
 | arr g s rows => exact unders_mono h rows hB
 | map g es c =>
   simp only [Blk.under, List.all_eq_true, Bool.and_eq_true] at hB ⊢
   exact fun e he => ⟨under_mono h _ (hB e he).1, under_mono h _ (hB e he).2⟩
 | loop g st pd tm ps a b => exact tmUnder_mono h tm hB
 | iter g mv a b c => exact under_mono h mv hB
def HOK (H : Heap) : Prop := ∀ B ∈ H, Blk.under H.length B = true
theorem HOK.all {H : Heap} (h : HOK H) : H.all (Blk.under H.length) = true := List.all_eq_true.2 h
theorem HOK.set {H : Heap} {b : Nat} {B : Blk} (h : HOK H) (hB : B.under H.length = true) : HOK (H.set b B) := by
 intro C hC
 rw [List.length_set]
 rcases List.mem_or_eq_of_mem_set hC with hC | rfl
 ·exact h C hC
 ·exact hB
theorem HOK.push {H : Heap} {B : Blk} (h : HOK H) (hB : B.under (H.length + 1) = true) : HOK (H ++ [B]) := by
 intro C hC
 simp only [List.length_append, List.length_singleton]
 rcases List.mem_append.1 hC with hC | hC
 ·exact blkUnder_mono (by omega) (h C hC)
 ·simp only [List.mem_singleton] at hC; subst hC; exact hB
theorem close_back {H T : Heap} {r : AV} {n : Nat} (h : HOK H) (hn : n = H.length) (hr : r.under H.length = true) : zg false n r (H ++ T) = (r, H) := by
 subst hn
 simp only [zg, Bool.false_eq_true, if_false, trunc]
 rw [List.take_left' rfl, hr, h.all]; rfl
theorem zo {H : Heap} {r : AV} {n : Nat} (hn : n = H.length) : zg false n r H = (r, H) := by
 subst hn
 simp only [zg, Bool.false_eq_true, if_false, trunc, List.take_length]
 split <;> rfl
theorem close_frz {H T : Heap} {r r' : AV} {n : Nat} (h : HOK H) (hn : n = H.length) (hr : reify (newBlks H.length (H ++ T)) zx r = some r') : zg true n r (H ++ T) = (r', H) := by
 subst hn
 simp only [zg, if_true, freeze]
 rw [List.take_left' rfl, h.all, hr]; rfl
theorem newBlks_get {H T : Heap} (j : Nat) : (newBlks H.length (H ++ T))[H.length + j]? = T[j]? := by
 unfold newBlks
 rw [List.getElem?_append_right (by simp)]
 simp
theorem set_same {H : Heap} {b : Nat} {B : Blk} (h : H[b]? = some B) : H.set b B = H := by
 apply List.ext_getElem?
 intro i
 rw [List.getElem?_set]
 split
 ·rename_i e; subst e; split
  ·exact h.symm
  ·rename_i hl; rw [List.getElem?_eq_none (by omega)]
 ·rfl
theorem reify_sl {Hb : Heap} {id g sz off len k : Nat} {R rs : List AV} (hB : Hb[id]? = some (.arr g sz R)) (hle : off + len ≤ R.length) (hm : zc4 (reify Hb k) ((R.drop off).take len) = some rs) :
 reify Hb (k + 1) (.sl id g off len) = some (.fsl false rs) := by
 have hp : AV.plain (.sl id g off len) = false := rfl
 rw [reify]
 simp only [hp, Bool.false_eq_true, if_false, hB, hle, and_self, if_true, hm]
theorem reify_plain' {Hb : Heap} {k : Nat} {v : AV} (h : v.plain = true) : reify Hb (k + 1) v = some v := by simp only [reify, h, if_true]
theorem reify_plains {α : Type} [Enc α] {Hb : Heap} {k : Nat} {rows : List AV} {xs : List α} (h : All2 Enc.Is rows xs) : zc4 (reify Hb (k + 1)) rows = some rows := by
 induction h with
 | nil => rfl
 | cons h _ ih => simp only [zc4, reify_plain' (Enc.plain h), ih]
theorem reify_rowsK {α : Type} [Enc α] {Hb : Heap} {id g sz off len k : Nat} {R rows : List AV} {xs : List α} (hB : Hb[id]? = some (.arr g sz R)) (hle : off + len ≤ R.length) (he : (R.drop off).take len = rows) (h : All2 Enc.Is rows xs) :
 reify Hb (k + 2) (.sl id g off len) = some (.fsl false rows) :=
 reify_sl (k := k + 1) hB hle (by rw [he]; exact reify_plains h)
theorem reify_rows {α : Type} [Enc α] {Hb : Heap} {id g sz off len : Nat} {R rows : List AV} {xs : List α} (hB : Hb[id]? = some (.arr g sz R)) (hle : off + len ≤ R.length) (he : (R.drop off).take len = rows) (h : All2 Enc.Is rows xs) :
 reify Hb zx (.sl id g off len) = some (.fsl false rows) :=
 reify_sl (k := 11) hB hle (by rw [he]; exact reify_plains h)
end Go.Abs
