/- Exec: which rows turned, by definition; the law. -/
import Derived.Test.YtddpdpjpfgnhmaaGreatG37x
import Derived.Test.YtddpdpjpfgnhmaaGreatG39x
set_option linter.unusedSimpArgs false
set_option linter.unusedVariables false
set_option maxHeartbeats 4000000
namespace Go.Abs
theorem law_call {tbl : FuncId → Option AFun} {f : FuncId} {g : List AV → Option AV} {args : List AV} {r : AV} {H : Heap} (ht : tbl f = some (.law g)) (hpl : AV.plains args = true) (hg : g args = some r) : callW tbl (.func f [] []) args H = some (r, H) :=
 z14.2 ⟨1, by simp [callK, stepCall, ht, hpl, hg]⟩
end Go.Abs
namespace Go.Abs.Plan
open Enc (Is)
theorem seen_mem (l : List Term) (rel : List Tup) (y : Tup) : y ∈ seenL l rel ↔ y ∈ rel.filterMap (zq1 l) := by
 unfold seenL
 suffices ∀ S : List Tup, y ∈ rel.foldl (seenStep l) S ↔ y ∈ rel.filterMap (zq1 l) ∨ y ∈ S by simpa using this []
 induction rel with
 | nil => intro S; simp
 | cons t rel ih =>
   intro S
   rw [List.foldl_cons, ih]
   cases h : zq1 l t with
   | none => simp [seenStep, h]
   | some u =>
     have hm : y ∈ addT S u ↔ y = u ∨ y ∈ S := by
      unfold addT
      split
      ·rename_i h2
       constructor
       ·exact .inr
       ·rintro (rfl | h3)
        ·simpa using h2
        ·exact h3
      ·simp
       exact Or.comm
     simp only [seenStep, h, hm, List.filterMap_cons, List.mem_cons]
     constructor
     ·rintro (h | h | h)
      ·exact .inl (.inr h)
      ·exact .inl (.inl h)
      ·exact .inr h
     ·rintro ((h | h) | h)
      ·exact .inr (.inl h)
      ·exact .inl h
      ·exact .inr (.inr h)
theorem minus_eq {a b a' b' : List Tup} (ha : ∀ y, y ∈ a ↔ y ∈ a') (hb : ∀ y, y ∈ b ↔ y ∈ b') : minusT a b = minusT a' b' := by
 unfold minusT
 obtain ⟨h1, h2⟩ := zn2 (a.filter fun t => decide (t ∉ b))
 refine sortT_of h1 (fun y => ?_)
 rw [h2]
 simp [ha, hb]
theorem minus_rows (l : List Term) (o n : List Tup) : minusT (rrowsL l n) (rrowsL l o) = minusT (seenL l n) (seenL l o) :=
 minus_eq (fun y => by rw [seen_mem, rrowsL, (zn2 _).2]) (fun y => by rw [seen_mem, rrowsL, (zn2 _).2])
theorem refTurned_run (l : Lit) (old now : List Tup) (v w x : AV) (hv : Is v l) (hw : Is w old) (hx : Is x now) (hl : l.atom.args.length ≤ 2 ^ 20)
 (ho : old.length ≤ 2 ^ 20) (hn : now.length ≤ 2 ^ 20) (hto : ∀ t ∈ old, t.length ≤ 2 ^ 20) (htn : ∀ t ∈ now, t.length ≤ 2 ^ 20) :
 ∃ r, zu (callW tbl) loopW z93 [v, w, x] = some r ∧ ∃ a b, r = .tuple [a, b] ∧ Is a (z42 l old now).1 ∧ Is b (z42 l old now).2 := by
 obtain ⟨va, hva, rfl⟩ := hv
 have hcell := zm hva
 have len : ∀ rel : List Tup, (rrowsL l.atom.args rel).length ≤ rel.length := fun rel => by
  unfold rrowsL
  have h1 := foldI_len (rel.filterMap (zq1 l.atom.args))
  have h2 := List.length_filterMap_le (zq1 l.atom.args) rel
  exact Nat.le_trans h1 h2
 have tl : ∀ rel : List Tup, (∀ t ∈ rel, t.length ≤ 2 ^ 20) → ∀ t ∈ rrowsL l.atom.args rel, t.length < 2 ^ 40 := fun rel hr t h => by
  rw [rrowsL, (zn2 _).2] at h
  obtain ⟨y, hy1, hy2⟩ := List.mem_filterMap.1 h
  have := bindsOf_len hy2
  have := hr y hy1
  omega
 have lo := len old
 have ln := len now
 refine pureK z93 rfl (fun F hF => ?_)
 by_cases hk : l.kind = 1 ∨ l.kind = 2
 ·obtain ⟨ro, hco, hro⟩ := rrows_call l.atom.args old va w hva hw hl ho hto []
  obtain ⟨rn, hcn, hrn⟩ := rrows_call l.atom.args now va x hva hx hl hn htn []
  obtain ⟨r1, hc1, hr1⟩ := minus_call _ _ rn ro hrn hro (by omega) (by omega) (tl now htn) (tl old hto) []
  obtain ⟨r2, hc2, hr2⟩ := minus_call _ _ ro rn hro hrn (by omega) (by omega) (tl old hto) (tl now htn) []
  rw [minus_rows] at hr1 hr2
  rcases hk with h1 | h2
  ·simp [z93, c_ref19_Turned, AV.rowok, hcell, h1, hco, hcn, hc1, hc2]
   exact hF _ _ _ (z7 (by simp [AV.plain, AV.plains, Enc.plain hr1, Enc.plain hr2])) ⟨_, _, rfl, by simpa [z42, h1] using hr1, by simpa [z42, h1] using hr2⟩
  ·simp [z93, c_ref19_Turned, AV.rowok, hcell, h2, hco, hcn, hc1, hc2]
   exact hF _ _ _ (z7 (by simp [AV.plain, AV.plains, Enc.plain hr1, Enc.plain hr2])) ⟨_, _, rfl, by simpa [z42, h2] using hr2, by simpa [z42, h2] using hr1⟩
 ·have h1 : ¬ l.kind = 1 := fun h => hk (.inl h)
  have h2 : ¬ l.kind = 2 := fun h => hk (.inr h)
  simp [z93, c_ref19_Turned, AV.rowok, hcell, h1, h2]
  exact hF _ _ _ (z7 rfl) ⟨_, _, rfl, by simp [z42, h1, h2]; exact IsL.nil, by simp [z42, h1, h2]; exact IsL.nil⟩
theorem refTurned_call (l : Lit) (old now : List Tup) (v w x : AV) (hv : Is v l) (hw : Is w old) (hx : Is x now) (hl : l.atom.args.length ≤ 2 ^ 20)
 (ho : old.length ≤ 2 ^ 20) (hn : now.length ≤ 2 ^ 20) (hto : ∀ t ∈ old, t.length ≤ 2 ^ 20) (htn : ∀ t ∈ now, t.length ≤ 2 ^ 20) (H : Heap) :
 ∃ r, callW tbl (.func f_ref19_Turned [] []) [v, w, x] H = some (r, H) ∧ ∃ a b, r = .tuple [a, b] ∧ Is a (z42 l old now).1 ∧ Is b (z42 l old now).2 :=
 callP_of (tbl := tbl) (f := f_ref19_Turned) (af := z93) rfl rfl (R := fun y => ∃ v w x, y = [v, w, x] ∧ Is v l ∧ Is w old ∧ Is x now) (S := fun r => ∃ a b, r = .tuple [a, b] ∧ Is a (z42 l old now).1 ∧ Is b (z42 l old now).2)
  (by rintro _ ⟨v, w, x, rfl, h1, h2, h3⟩; simp [AV.plains, Enc.plain h1, Enc.plain h2, Enc.plain h3]) (by rintro _ ⟨v, w, x, rfl, h1, h2, h3⟩; exact ⟨v.lend, w.lend, x.lend, rfl, Enc.lend h1, Enc.lend h2, Enc.lend h3⟩)
  (by rintro _ ⟨a, b, rfl, h1, h2⟩; exact ⟨a.lend, b.lend, rfl, Enc.lend h1, Enc.lend h2⟩) (by rintro _ ⟨v, w, x, rfl, h1, h2, h3⟩; exact refTurned_run l old now v w x h1 h2 h3 hl ho hn hto htn) _ H ⟨v, w, x, rfl, hv, hw, hx⟩
def shortT (rel : List Tup) : List Tup := (rel.take 10).map fun t => t.take 9
theorem short_l0 : c_law19_short_l0 = (SS (SS (RR [uu 6 (.move (tt 4)), uu 7 (.move (tt 0)), uu 8 (.len .slice (tt 7)), uu 9 (.bin .lss .no (tt 6) (tt 8)), uu 10 (.move (tt 9)), ug 11 (.move (tt 4)) 10 true, ug 12 (.bin .lss .no (tt 11) (ii 10)) 10 true, kk 13 (.pick (tt 10) (tt 12) (.const (.bool false)))])
 (.cond (tt 13) .skip (.exit 0)))
 (SS (.block 1 (SS (RR [uu 16 (.move (tt 0)), uu 17 (.move (tt 4)), uu 18 (.indexAddr 1 (tt 16) (tt 17)), uu 19 (.load false 1 (tt 18)), kk 5 (.move (tt 19))])
 (SS (SS (RR [uu 20 (.move (tt 5)), uu 21 (.len .slice (tt 20)), kk 22 (.bin .gtr .no (tt 21) (ii 9))])
 (.cond (tt 22) (RR [uu 23 (.move (tt 5)), uu 24 (.slice 3 (tt 23) none (some (ii 9))), kk 5 (.move (tt 24))]) .skip))
 (RR [uu 25 (.move (tt 3)), uu 26 (.move (tt 5)), uu 27 (.buildSliceF .nilsl 1 [(0, (tt 26))]), uu 28 (.append 1 24 (tt 25) (tt 27)), kk 3 (.move (tt 28))]))))
 (RR [uu 14 (.move (tt 4)), uu 15 (.bin .add .no (tt 14) (ii 1)), kk 4 (.move (tt 15))]))) := rfl
theorem slice9 {t : Tup} {r : AV} (hr : Is r t) (h : 9 < t.length) : ∃ r', sliceA 3 none (some (.int .i64 9)) r = some r' ∧ Is r' (t.take 9) := by
 rcases IsL.cases hr with ⟨rfl, rfl⟩ | ⟨fl, rows, rfl, hrows⟩
 ·simp at h
 ·have hrl := hrows.length
  have b1 := bound_at (len := rows.length) (a := 9) rows.length (by omega)
  have := slice_rows (sz := 3) (fl := fl) (lo := none) (l := 0) hrows rfl (by omega) b1 rfl
  refine ⟨.fsl fl (rows.take 9), by simpa using this, IsL.fsl (hrows.take 9)⟩
theorem short_run (rel : List Tup) (w : AV) (hw : Is w rel) (hr : rel.length ≤ 2 ^ 20) : ∃ r, zu (callW tbl) loopW a_law19_short [w] = some r ∧ Is r (shortT rel) := by
 have hlw := IsL.len hw
 refine pureK a_law19_short rfl (fun F hF => ?_)
 simp [a_law19_short, c_law19_short]
 refine zf (fun n s => ∃ (i : Nat) (u : AV) (rows : List AV), i + n = rel.length ∧ i ≤ 10 ∧ Acc [] 1 u s.heap rows ∧ All2 Is rows ((rel.take i).map fun t => t.take 9) ∧ s.dfr = [] ∧ s.tm.get 0 = w ∧ s.tm.get 3 = u ∧ s.tm.get 4 = i64 i) rel.length
  ⟨0, .nilsl, [], by omega, by omega, Acc.nil, by simp; exact .nil, by simp, by simp, by simp, by simp⟩ ?_
 rintro n s Q ⟨i, u, rows, h0, hi10, hacc, hrows, q2, f0, f3, f4⟩ hgo hx
 have hwi : IntKind.i64.wrap ((i : Int) + 1) = ((i + 1 : Nat) : Int) := zi1 (by omega) (by omega)
 have hrl := hrows.length
 by_cases hi : i < rel.length ∧ i < 10
 ·obtain ⟨hi, hi9⟩ := hi
  have hii : (i : Int) < (rel.length : Int) := by omega
  have hij : (i : Int) < 10 := by omega
  have hgi := List.getElem?_eq_getElem hi
  have htk : rel.take (i + 1) = rel.take i ++ [rel[i]] := by rw [List.take_add_one, hgi]; rfl
  obtain ⟨fl, r, hr0, hidx⟩ := IsL.idx hw hgi
  simp only [show Enc.sz Tup = 1 from rfl] at hidx
  have hcr := zm hr0
  have hlr := IsL.len hr0
  have hbound : (rows.length + 1) * 24 ≤ 140737488355328 := by
   have : rows.length ≤ 2 ^ 20 := by rw [hrl]; simp; omega
   omega
  by_cases h9 : 9 < rel[i].length
  ·have h9i : (9 : Int) < (rel[i].length : Int) := by omega
   obtain ⟨r', hsl, hr'⟩ := slice9 hr0 h9
   have hcy := zm hr'
   have hry := Enc.row hr'
   simp only [show Enc.sz Tup = 1 from rfl] at hry
   obtain ⟨u', Hs', hacc', hstep⟩ := Acc.one (call := callW tbl) (lp := loopW) (bytes := 24) (fl := false) hacc hry hbound
   have hnsl : ∀ id g o n, r ≠ .sl id g o n := fun id g o n h => by
    subst h; have := Enc.plain hr0; cases this
   rcases IsL.cases hr0 with ⟨rfl, h⟩ | ⟨fl2, rr, rfl, _⟩
   ·rw [h] at h9; simp at h9
   ·simp [short_l0, f0, f3, f4, hlw, hii, hij, hidx, hcr, hlr, h9i, hsl, hcy, hry, zr, hstep]
    exact hgo _ (n - 1) (by omega) ⟨i + 1, u', rows ++ [r'], by omega, by omega, by simpa using hacc', by
     rw [htk, List.map_append]; exact hrows.append (.cons hr' .nil), by simp [q2], by simp [f0], by simp, by simp [hwi]⟩
  ·have h9i : ¬ (9 : Int) < (rel[i].length : Int) := by omega
   have ht9 : rel[i].take 9 = rel[i] := List.take_of_length_le (by omega)
   have hry := Enc.row hr0
   simp only [show Enc.sz Tup = 1 from rfl] at hry
   obtain ⟨u', Hs', hacc', hstep⟩ := Acc.one (call := callW tbl) (lp := loopW) (bytes := 24) (fl := false) hacc hry hbound
   simp [short_l0, f0, f3, f4, hlw, hii, hij, hidx, hcr, hlr, h9i, hry, zr, hstep]
   exact hgo _ (n - 1) (by omega) ⟨i + 1, u', rows ++ [r], by omega, by omega, by simpa using hacc', by
    rw [htk, List.map_append]; exact hrows.append (.cons (show Is r (rel[i].take 9) by rw [ht9]; exact hr0) .nil), by simp [q2], by simp [f0], by simp, by simp [hwi]⟩
 ·have htk : (rel.take i).map (fun t => t.take 9) = shortT rel := by
   unfold shortT
   congr 1
   by_cases h : i < rel.length
   ·have : i = 10 := by omega
    rw [this]
   ·rw [List.take_of_length_le (by omega), List.take_of_length_le (by omega)]
  rw [htk] at hrows
  obtain ⟨r, hre, hrs, _⟩ := hacc.reify hrows
  by_cases hi1 : (i : Int) < (rel.length : Int)
  ·have hij : ¬ (i : Int) < 10 := by omega
   simp [short_l0, f0, f4, hlw, hi1, hij]
   refine hx _ _ (by simp) ?_
   simp [q2, f3]
   exact hF _ _ _ hre hrs
  ·simp [short_l0, f0, f4, hlw, hi1]
   refine hx _ _ (by simp) ?_
   simp [q2, f3]
   exact hF _ _ _ hre hrs
theorem short_call (rel : List Tup) (v : AV) (hv : Is v rel) (hr : rel.length ≤ 2 ^ 20) (H : Heap) : ∃ r, callW tbl (.func f_law19_short [] []) [v] H = some (r, H) ∧ Is r (shortT rel) :=
 callP_of (tbl := tbl) (f := f_law19_short) (af := a_law19_short) rfl rfl (R := fun y => ∃ v, y = [v] ∧ Is v rel) (S := fun r => Is r (shortT rel))
  (by rintro _ ⟨v, rfl, h1⟩; simp [AV.plains, Enc.plain h1]) (by rintro _ ⟨v, rfl, h1⟩; exact ⟨v.lend, rfl, Enc.lend h1⟩)
  (fun r h => Enc.lend h) (by rintro _ ⟨v, rfl, h1⟩; exact short_run rel v h1 hr) _ H ⟨v, rfl, hv⟩
end Go.Abs.Plan
namespace Go.Abs.Plan
open Enc (Is)
theorem turnedL_call (l : Lit) (old now : List Tup) (v w x : AV) (hv : Is v l) (hw : Is w old) (hx : Is x now) (hl : l.atom.args.length ≤ 2 ^ 20) (ho : RowsOk old) (hn : RowsOk now) (H : Heap) : callW tblL (.func f_exec_Turned [] []) [v, w, x] H = some (turnedA l old now, H) :=
 law_call (g := gTurned) rfl (by simp [AV.plains, Enc.plain hv, Enc.plain hw, Enc.plain hx]) (by
  simp only [gTurned, Dec.compl hv, Dec.compl hw, Dec.compl hx, if_pos (show l.atom.args.length ≤ 2 ^ 20 ∧ RowsOk old ∧ RowsOk now from ⟨hl, ho, hn⟩)])
theorem shortT_ok {rel : List Tup} (h : ∀ t ∈ rel, TupOk t) : RowsOk (shortT rel) := by
 refine ⟨by simp [shortT]; omega, fun t ht => ?_⟩
 obtain ⟨y, hy, rfl⟩ := List.mem_map.1 ht
 obtain ⟨h1, h2⟩ := h y (List.mem_of_mem_take hy)
 exact ⟨by simp; omega, fun v hv => h2 v (List.mem_of_mem_take hv)⟩
theorem turned_small (l : Lit) (old now : List Tup) (hl : l.atom.args.length ≤ 2 ^ 20) (ho : RowsOk old) (hn : RowsOk now) : ((z42 l old now).1.length ≤ 2 ^ 30 ∧ ∀ t ∈ (z42 l old now).1, t.length ≤ 2 ^ 30) ∧ ((z42 l old now).2.length ≤ 2 ^ 30 ∧ ∀ t ∈ (z42 l old now).2, t.length ≤ 2 ^ 30) := by
 have key : ∀ a b : List Tup, RowsOk a → RowsOk b → (minusT (seenL l.atom.args a) (seenL l.atom.args b)).length ≤ 2 ^ 30 ∧ ∀ t ∈ minusT (seenL l.atom.args a) (seenL l.atom.args b), t.length ≤ 2 ^ 30 := fun a b ha hb => by
  obtain ⟨h1, h2, h3⟩ := seenL_facts l.atom.args hl a ha.2
  refine ⟨?_, fun t ht => ?_⟩
  ·have e1 := foldI_len ((seenL l.atom.args a).filter fun t => decide (t ∉ seenL l.atom.args b))
   have e2 := List.length_filter_le (fun t => decide (t ∉ seenL l.atom.args b)) (seenL l.atom.args a)
   have e3 := ha.1
   have e4 : minusT (seenL l.atom.args a) (seenL l.atom.args b) = foldI ((seenL l.atom.args a).filter fun t => decide (t ∉ seenL l.atom.args b)) := rfl
   rw [e4]; omega
  ·unfold minusT at ht
   rw [(zn2 _).2] at ht
   have := (h3 t (List.mem_filter.1 ht).1).len
   omega
 unfold z42
 split
 ·exact ⟨key _ _ hn ho, key _ _ ho hn⟩
 ·split
  ·exact ⟨key _ _ ho hn, key _ _ hn ho⟩
  ·simp
theorem turns_body (l : Lit) (old now : List Tup) (v w x : AV) (hv : Is v l) (hw : Is w old) (hx : Is x now) (ho : old.length ≤ 2 ^ 20) (hn : now.length ≤ 2 ^ 20) (hl : l.atom.args.length ≤ 2 ^ 20)
 (hto : ∀ t ∈ old, TupOk t) (htn : ∀ t ∈ now, TupOk t) : ∃ r, zu (callW tblE) loopW zl2 [v, w, x] = some r ∧ r = .bool true := by
 have hal := fun H => alive_call H
 obtain ⟨ro, hco, hro⟩ := short_call old w hw ho []
 obtain ⟨rn, hcn, hrn⟩ := short_call now x hx hn []
 replace hco := zt1 subE hco
 replace hcn := zt1 subE hcn
 have hso := shortT_ok hto
 have hsn := shortT_ok htn
 obtain ⟨⟨s1, s2⟩, s3, s4⟩ := turned_small l _ _ hl hso hsn
 have hc1 := zt1 subLE (turnedL_call l _ _ v ro rn hv hro hrn hl hso hsn [])
 obtain ⟨r2, hc2, a, b, rfl, ha, hb⟩ := refTurned_call l _ _ v ro rn hv hro hrn hl hso.1 hsn.1 (fun t h => (hso.2 t h).len) (fun t h => (hsn.2 t h).len) []
 replace hc2 := zt1 subE hc2
 have e1 := zt1 subE (sameRel_call _ _ _ a (relA_is (z42 l (shortT old) (shortT now)).1) ha s1 s2 s2 s1 [])
 have e2 := zt1 subE (sameRel_call _ _ _ b (relA_is (z42 l (shortT old) (shortT now)).2) hb s3 s4 s4 s3 [])
 simp only [decide_true] at e1 e2
 rw [turnedA] at hc1
 refine pureK zl2 rfl (fun F hF => ?_)
 have hrow := Enc.row hv
 simp only [show Enc.sz Lit = 14 from rfl] at hrow
 obtain ⟨va, hva, rfl⟩ := id hv
 have hlv := IsL.len hva
 have hcell := zm hva
 by_cases hbig : (12 : Int) < (l.atom.args.length : Int)
 ·simp [zl2, c_law19_ExecTurns, AV.rowok, hcell, hco, hcn, hlv, hbig, hal]
  exact hF _ _ _ (z7 rfl) rfl
 ·simp [zl2, c_law19_ExecTurns, AV.rowok, hcell, hco, hcn, hlv, hbig, hal, hc1, hc2, e1, e2]
  exact hF _ _ _ (z7 rfl) rfl
end Go.Abs.Plan
