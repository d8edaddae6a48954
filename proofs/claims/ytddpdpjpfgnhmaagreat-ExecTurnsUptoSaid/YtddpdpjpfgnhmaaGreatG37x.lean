/- Exec: Bindings, whatever way it runs. -/
import Derived.Test.YtddpdpjpfgnhmaaGreatG36x
set_option linter.unusedSimpArgs false
set_option linter.unusedVariables false
set_option maxHeartbeats 4000000
namespace Go.Abs.Plan
open Enc (Is)
theorem okCol_any {n B B' : Nat} {w sk : Bool} {c : Col} (h : okCol n B w sk c = some B') : ColAny n c := by
 unfold okCol at h
 split at h
 ·exact .inl (by assumption)
 ·split at h
  ·exact .inr (.inl (by assumption))
  ·split at h
   ·split at h
    ·rename_i hc; exact .inr (.inr ⟨hc.2.1, hc.2.2.1⟩)
    ·simp at h
   ·split at h
    ·split at h
     ·rename_i hc; exact .inr (.inr ⟨hc.2.1, hc.2.2.1⟩)
     ·simp at h
    ·simp at h
theorem okCol_in {n B B' : Nat} {c : Col} (h : okCol n B false false c = some B') : ColIn n c := by
 unfold okCol at h
 split at h
 ·exact .inl (by assumption)
 ·split at h
  ·simp at h
  ·split at h
   ·simp at h
   ·split at h
    ·split at h
     ·rename_i hc; exact .inr ⟨hc.2.1, hc.2.2.1⟩
     ·simp at h
    ·simp at h
theorem okCols_all {n : Nat} {w sk : Bool} : ∀ {cs : List Col} {B B' : Nat}, zs2 n w sk B cs = some B' → ∀ c ∈ cs, ∃ B1 B2, okCol n B1 w sk c = some B2
 | [], B, B', h, c, hc => by simp at hc
 | x :: cs, B, B', h, c, hc => by
   simp only [zs2] at h
   split at h
   ·rename_i B1 h1
    rcases List.mem_cons.1 hc with rfl | hc
    ·exact ⟨B, B1, h1⟩
    ·exact okCols_all h c hc
   ·simp at h
theorem okSteps_all {n : Nat} : ∀ {ss : List Step} {f : Bool} {B B' : Nat}, z43 n f B ss = some B' → ∀ s ∈ ss, ∃ B1 f1 B2, okStep n B1 f1 s = some B2
 | [], f, B, B', h, s, hs => by simp at hs
 | x :: ss, f, B, B', h, s, hs => by
   simp only [z43] at h
   split at h
   ·rename_i B1 h1
    rcases List.mem_cons.1 hs with rfl | hs
    ·exact ⟨B, f, B1, h1⟩
    ·exact okSteps_all h s hs
   ·simp at h
theorem okStep_fit {n B B' : Nat} {f : Bool} {s : Step} (h : okStep n B f s = some B') (hv : ∀ c ∈ s.cols, ValOk c.v) : StepFit n s := by
 unfold okStep at h
 split at h
 ·rename_i h3
  split at h
  ·rename_i hc
   obtain ⟨_, hcols, _⟩ := hc
   split at h
   ·rename_i B1 h1
    exact ⟨by rw [hcols]; simp, by rw [hcols]; simp, hv, fun _ => ⟨okCol_in h1, okCol_in h⟩⟩
   ·simp at h
  ·simp at h
 ·rename_i h3
  split at h
  ·rename_i hc
   exact ⟨by omega, fun c hc2 => by obtain ⟨B1, B2, h1⟩ := okCols_all h c hc2; exact okCol_any h1, hv, fun h' => absurd h' h3⟩
  ·simp at h
def PlanVals (p : Plan) : Prop := ∀ s ∈ p.steps, ∀ c ∈ s.cols, ValOk c.v
structure ArgsOk (old now : List RelOf) (delta : List Tup) : Prop where
 old : RelsOk old
 now : RelsOk now
 dlt : delta.length ≤ 2 ^ 20 ∧ ∀ t ∈ delta, TupOk t
theorem ArgsOk.rel {old now : List RelOf} {delta : List Tup} (h : ArgsOk old now delta) (s : Step) : (relT s old now delta).length ≤ 2 ^ 20 ∧ ∀ t ∈ relT s old now delta, TupOk t := by
 unfold relT
 split
 ·exact h.dlt
 ·split
  ·exact h.old.of _
  ·exact h.now.of _
theorem ArgsOk.row {old now : List RelOf} {delta : List Tup} (h : ArgsOk old now delta) (p : Plan) : ∀ i x t, t ∈ zc1 p old now delta i x → TupOk t := by
 intro i x t ht
 rw [zc1, expT, grpT] at ht
 split at ht
 ·simp at ht
 ·exact (h.rel _).2 t (List.mem_filter.1 ht).1
theorem runner_all_call (H : Heap) : callW tbl (.func f_exec_runner_all [] []) [.ptr 1 1 0 0] H = some (.func zm1 [] [.fptr false [.ptr 1 1 0 0] 0], H) := by
 refine callB a_exec_runner_all rfl rfl rfl (fun F hF => ?_)
 simp [a_exec_runner_all, c_exec_runner_all, AV.rowok]
 exact hF _ _ (zo rfl)
theorem relA_idx {D : List Tup} {j : Nat} (h : j < D.length) : idxA 1 (relA D) (.int .i64 (j : Int)) = .val (.fptr false [tupA D[j]] 0) := by
 have hne : D ≠ [] := by rintro rfl; simp at h
 have h0 : (0 : Int) ≤ (j : Int) := by omega
 have hg : (D.map tupA)[j]? = some (tupA D[j]) := by simp [h]
 unfold relA
 rw [if_neg hne]
 simp only [idxA_fsl, h0, if_true, Int.toNat_natCast, hg]
 rfl
theorem reify_relA {H0 Hs : Heap} {v : AV} {D : List Tup} {k : Nat} (h : Acc H0 1 v Hs (D.map tupA)) : reify Hs (k + 2) v = some (relA D) := by
 rcases h with ⟨h1, rfl, rfl⟩ | ⟨g, h1, rfl, rfl⟩
 ·have : D = [] := by simpa using h1
  subst this
  exact reify_plain' rfl
 ·have : D ≠ [] := by rintro rfl; exact h1 rfl
  have e := reify_rowsK (k := k) (Hb := H0 ++ [.arr g 1 (D.map tupA)]) (id := H0.length) (g := g) (sz := 1) (off := 0) (len := (D.map tupA).length) (R := D.map tupA) (rows := D.map tupA) (xs := D) (by simp) (by simp) (by simp [List.take_of_length_le]) (encs_is (fun t => tupA_is t) D)
  rw [e]; simp [relA, this]
def bindL (p : Plan) (old now : List RelOf) (delta : List Tup) : List Tup := sortT (addsT [] (foundL p old now delta))
theorem bindings_run (k : Nat) (p : Plan) (old now : List RelOf) (delta : List Tup) (vp vo vn vd : AV) (hp : Is vp p) (ho : Is vo old) (hnw : Is vn now) (hd : Is vd delta) (hs : p.steps.length ≤ 2 ^ 20) (hv : PlanVals p) (ha : ArgsOk old now delta) (hfew : OkPlan p → (foundL p old now delta).length ≤ 2 ^ 30) :
 NPURE (callW tblN) (NW tblN (k + 5)) zh3 [vp, vo, vn, vd] (fun r => (OkPlan p → r = .tuple [relA (bindL p old now delta), i64 0]) ∧ (¬ OkPlan p → r = .tuple [.nilsl, i64 180])) := by
 obtain ⟨a, b, c, hA, hB, hC, rfl⟩ := hp
 have ca := zm hA
 have cb := zm hB
 have cc := zm hC
 obtain ⟨w, hchk, z, rfl, hz⟩ := planCheck_callA (.agg [a, b, .str p.pred, c]) p ⟨a, b, c, hA, hB, hC, rfl⟩ (by omega) []
 refine npureB zh3 rfl (fun F hF => ?_)
 simp [zh3, c_exec_Bindings, AV.rowok, ca, cb, cc]
 refine z94 (zt1 subN hchk) ?_
 by_cases hok : OkPlan p
 ·have hz0 := hz.1 hok
  subst hz0
  simp
  obtain ⟨B, B', hB1, hB2⟩ := hok.ok
  have hfit : ∀ s ∈ p.steps, StepFit p.vars.length s := fun s hs => by
   obtain ⟨B1, f1, B2, h1⟩ := okSteps_all hB1 s hs
   exact okStep_fit h1 (hv s hs)
  have hnv : p.vars.length ≤ 2 ^ 20 := by have := hok.vars; omega
  obtain ⟨H1, hnr, a1, b1, c1, rels, bnd, G, hR⟩ := newRunner_call p old now delta (.agg [a, b, .str p.pred, c]) vo vn vd ⟨a, b, c, hA, hB, hC, rfl⟩ ho hnw hd hnv hs (fun s hs => ⟨(hfit s hs).len, fun c hc h => by rcases (hfit s hs).col c hc with h' | h' | h'; omega; omega; exact h'⟩) ha.old ha.now ha.dlt
  refine z94 (zt1 subN hnr) ?_
  simp
  refine z94 (zt1 subN (runner_all_call H1)) ?_
  simp
  refine NCALLK_ex (once_spec k hR hfit hnv hs (fun s _ => ha.rel s) (ha.row p) (hfew hok)) ?_
  rintro r H' ⟨rfl, rfl⟩
  have hbd : sortT (addsT [] (foundL p old now delta)) = bindL p old now delta := rfl
  have hlen : (bindL p old now delta).length ≤ 2 ^ 30 := by
   obtain ⟨f1, f2, f3⟩ := addsT_facts (foundL p old now delta) [] List.nodup_nil
   have h1 : (bindL p old now delta).length ≤ (addsT [] (foundL p old now delta)).length := by
    classical exact zu3 (TLt_nodup (zn2 _).1) (fun x hx => ((zn2 _).2 x).1 hx)
   have := hfew hok
   simp at f2; omega
  rw [hbd]
  generalize bindL p old now delta = D at *
  simp [IsL.len (relA_is D)]
  refine NEX_det ?_
  refine z02 D.length (fun j s => Acc H' 1 (s.tm.get 11) s.heap ((D.take j).map tupA) ∧ s.dfr = [] ∧ s.tm.get 25 = relA D ∧ s.tm.get 26 = i64 D.length ∧ s.tm.get 27 = i64 j)
   0 (by omega) ⟨by simp; exact Acc.nil, by simp, by simp, by simp, by simp⟩ (by omega) (by rintro j s h; exact ⟨h.2.2.2.2, h.2.2.2.1⟩) ?_ ?_
  ·rintro j s B hj ⟨hacc, q2, f25, f26, f27⟩ hgo hx
   have hidx := relA_idx hj
   have htk : D.take (j + 1) = D.take j ++ [D[j]] := by rw [List.take_add_one, List.getElem?_eq_getElem hj]; rfl
   obtain ⟨v', Hs', hacc2, happ⟩ := hacc.one (call := callW tblN) (lp := loopW) (bytes := 24) (r := tupA D[j]) (fl := false) rfl (by simp; omega)
   have hro : AV.rowok 1 (tupA D[j]) = true := rfl
   simp [f25, f27, hidx, zr, hro]
   rw [happ _ _ _ _ _ _ _ (by simp)]
   simp
   refine hgo _ _ (.inl rfl) (by simp [f27]) ⟨?_, by simp [q2], by simp [f25], by simp [f26], by simp⟩
   rw [htk, List.map_append]; simpa using hacc2
  ·rintro s ⟨hacc, q2, f25, f26, f27⟩
   rw [List.take_length] at hacc
   simp [q2]
   have hre : reify s.heap zx (.tuple [s.tm.get 11, i64 0]) = some (.tuple [relA D, i64 0]) := by
    by_cases hpl : (s.tm.get 11).plain = true
    ·have h1 := reify_relA (k := 10) hacc
     have h2 : s.tm.get 11 = relA D := by
      have := z7 (H := s.heap) hpl
      unfold zx at this
      rw [h1] at this
      exact (Option.some.inj this).symm
     rw [h2]
     exact z7 (by simp [AV.plain, AV.plains, relA_plain])
    ·exact reify_tuple2 (by simp [AV.plain, AV.plains, hpl]) (reify_relA (k := 9) hacc) (reify_plain' rfl)
   exact hF _ _ _ hre ⟨fun _ => rfl, fun h => absurd hok h⟩
 ·have hz0 := hz.2 hok
  subst hz0
  simp
  exact hF _ _ _ (z7 rfl) ⟨fun h => absurd h hok, fun _ => rfl⟩
end Go.Abs.Plan
namespace Go.Abs.Plan
open Enc (Is)
open Classical in
noncomputable def bindA (p : Plan) (old now : List RelOf) (delta : List Tup) : AV := if OkPlan p then .tuple [relA (bindL p old now delta), i64 0] else .tuple [.nilsl, i64 180]
theorem bindings_call (k : Nat) (p : Plan) (old now : List RelOf) (delta : List Tup) (vp vo vn vd : AV) (hp : Is vp p) (ho : Is vo old) (hnw : Is vn now) (hd : Is vd delta) (hs : p.steps.length ≤ 2 ^ 20) (hv : PlanVals p) (ha : ArgsOk old now delta) (hfew : OkPlan p → (foundL p old now delta).length ≤ 2 ^ 30) (H : Heap) :
 NW tblN (k + 6) (.func f_exec_Bindings [] []) [vp, vo, vn, vd] H (fun r H' => r = bindA p old now delta ∧ H' = H) := by
 have hun : (bindA p old now delta).unlent = true := by
  unfold bindA
  split
  ·simp [AV.unlent, AV.unlents, relA_unlent]
  ·rfl
 have conv : ∀ r, ((OkPlan p → r = .tuple [relA (bindL p old now delta), i64 0]) ∧ (¬ OkPlan p → r = .tuple [.nilsl, i64 180])) → r = bindA p old now delta := fun r h => by
  unfold bindA
  split
  ·exact h.1 (by assumption)
  ·exact h.2 (by assumption)
 refine ncallP (af := zh3) rfl rfl (by simp [AV.plains, Enc.plain hp, Enc.plain ho, Enc.plain hnw, Enc.plain hd]) ?_
 split
 ·refine NPURE_mono (NW_mono _) (bindings_run k p old now delta vp vo vn vd hp ho hnw hd hs hv ha hfew) ?_
  intro r h
  exact ⟨conv r h, rfl⟩
 ·refine NPURE_mono (NW_mono _) (bindings_run k p old now delta vp.lend vo.lend vn.lend vd.lend (Enc.lend hp) (Enc.lend ho) (Enc.lend hnw) (Enc.lend hd) hs hv ha hfew) ?_
  intro r h
  rw [conv r h, hun]
  simp
theorem key_callS (t : Tup) (ht : TupOk t) (v : AV) (H : Heap) (hv : TS H v t) : callW tbl (.func f_exec_key [] []) [v] H = some (.str (keyS t), H) := by
 obtain ⟨r, h, rfl⟩ := callP_re (tbl := tbl) (f := f_exec_key) (af := a_exec_key) rfl rfl (R := fun a => ∃ w, a = [w] ∧ Is w t) (S := fun r => r = .str (keyS t)) (by rintro _ ⟨w, rfl, hw⟩; exact ⟨w.lend, rfl, Enc.lend hw⟩)
  (by rintro _ ⟨w, rfl, hw⟩; obtain ⟨r, h1, rfl⟩ := key_run t ht w hw; exact ⟨_, h1, rfl, rfl⟩) [v] [tupA t] H (by simp [zc4, hv.reify]) ⟨_, rfl, tupA_is t⟩
 exact h
def cntA (c : Counted) : AV := .agg [tupA c.t, i64 c.n]
theorem cntA_is (c : Counted) : Is (cntA c) c := ⟨_, tupA_is c.t, rfl⟩
theorem cntA_plain (c : Counted) : (cntA c).plain = true := Enc.plain (cntA_is c)
structure Cnt where
 t : Tup
 n : Int
 id : Nat
def cPairs (C : List Cnt) : List (ByteArray × AV) := C.map fun x => (keyS x.t, .ptr x.id 0 0 0)
def cEnts (C : List Cnt) : List MEnt := sEnts (cPairs C) 0
structure CR (H : Heap) (C : List Cnt) : Prop where
 map : H[0]? = some (.map 0 (cEnts C) C.length)
 blk : ∀ x ∈ C, 1 ≤ x.id ∧ H[x.id]? = some (.arr 0 2 [.agg [tupA x.t, i64 x.n]])
 nid : (C.map (·.id)).Nodup
 nod : (C.map (·.t)).Nodup
 hok : HOK H
theorem cEnts_under {n m : Nat} {C : List Cnt} (h : ∀ x ∈ C, x.id < n) : Blk.under n (.map 0 (cEnts C) m) = true := by
 have : ∀ (C : List Cnt) (q : Nat), (∀ x ∈ C, x.id < n) → ∀ e ∈ sEnts (cPairs C) q, (e.key.under n && e.val.under n) = true := by
  intro C
  induction C with
  | nil => intro q h e he; simp [cPairs, sEnts] at he
  | cons x C ih =>
    intro q h e he
    simp only [cPairs, List.map_cons, sEnts, List.mem_cons] at he
    rcases he with rfl | he
    ·simp [AV.under, h x (by simp)]
    ·exact ih (q + 1) (fun y hy => h y (by simp [hy])) e he
 simp only [Blk.under, List.all_eq_true]
 exact this C 0 h
theorem cEnts_find (t : Tup) (C : List Cnt) : findE false [.str] (.str (keyS t)) (cEnts C) 0 = some ((C.findIdx? (fun x => decide (x.t = t))).map fun j => (j, { key := .str (keyS t), val := (C[j]?.map fun x => AV.ptr x.id 0 0 0).getD .nilptr, born := j })) := by
 unfold cEnts
 rw [sEnts_find]
 have h : (cPairs C).findIdx? (fun m => decide (keyS t = m.1)) = C.findIdx? (fun x => decide (x.t = t)) := by
  unfold cPairs
  rw [List.findIdx?_map]
  congr 1
  funext x
  simp only [Function.comp]
  by_cases h : x.t = t
  ·subst h; simp
  ·have : keyS t ≠ keyS x.t := fun e => h (keyS_inj e).symm
   simp [h, this]
 rw [h]
 cases hf : C.findIdx? (fun x => decide (x.t = t)) with
 | none => rfl
 | some j =>
   obtain ⟨hj, _⟩ := List.findIdx?_eq_some_iff_getElem.1 hf
   simp [cPairs, hj]
def addC (C : List Cnt) (t : Tup) (id : Nat) : List Cnt := match C.findIdx? (fun x => decide (x.t = t)) with
 | some j => match C[j]? with
   | some x => C.set j ⟨x.t, x.n + 1, x.id⟩
   | none => C
 | none => C ++ [⟨t, 1, id⟩]
structure CountsOf (C : List Cnt) (M : List Tup) : Prop where
 mem : ∀ t, t ∈ C.map (·.t) ↔ t ∈ M
 cnt : ∀ x ∈ C, x.n = (M.count x.t : Nat)
 nod : (C.map (·.t)).Nodup
theorem CountsOf.add {C : List Cnt} {M : List Tup} (h : CountsOf C M) (t : Tup) (id : Nat) : CountsOf (addC C t id) (M ++ [t]) := by
 unfold addC
 cases hf : C.findIdx? (fun x => decide (x.t = t)) with
 | none =>
   have hno : t ∉ C.map (·.t) := by
    intro hm
    obtain ⟨x, hx, hxt⟩ := List.mem_map.1 hm
    have := List.findIdx?_eq_none_iff.1 hf x hx
    simp [hxt] at this
   have hnM : t ∉ M := fun hm => hno ((h.mem t).2 hm)
   refine ⟨fun u => ?_, fun x hx => ?_, ?_⟩
   ·simp only [List.map_append, List.mem_append, h.mem u, List.map_cons, List.map_nil]
   ·rcases List.mem_append.1 hx with hx | hx
    ·have hne : x.t ≠ t := fun e => hno (List.mem_map.2 ⟨x, hx, e⟩)
     have : ¬ t = x.t := fun e => hne e.symm
     rw [h.cnt x hx, List.count_append]
     simp [List.count_cons, this]
    ·simp at hx; subst hx
     rw [List.count_append, List.count_eq_zero_of_not_mem hnM]; simp
   ·rw [List.map_append, List.nodup_append]
    exact ⟨h.nod, by simp, fun a ha b hb => by simp at hb; subst hb; exact fun e => hno (by rw [← e]; exact ha)⟩
 | some j =>
   obtain ⟨hj, hjt, _⟩ := List.findIdx?_eq_some_iff_getElem.1 hf
   have hg : C[j]? = some C[j] := by simp [hj]
   have hxt : C[j].t = t := by simpa using hjt
   simp only [hg]
   have hts : (C.set j ⟨C[j].t, C[j].n + 1, C[j].id⟩).map (·.t) = C.map (·.t) := by
    rw [List.map_set]
    apply List.ext_getElem?
    intro i
    rw [List.getElem?_set]
    split
    ·rename_i e; subst e; simp [hj]
    ·rfl
   refine ⟨fun u => ?_, fun x hx => ?_, by rw [hts]; exact h.nod⟩
   ·rw [hts, h.mem u, List.mem_append]
    constructor
    ·exact .inl
    ·rintro (h' | h')
     ·exact h'
     ·simp at h'; subst h'; rw [← hxt]; exact (h.mem _).1 (List.mem_map.2 ⟨C[j], List.getElem_mem hj, rfl⟩)
   ·obtain ⟨i, hi, rfl⟩ := List.mem_iff_getElem.1 hx
    rw [List.getElem_set]
    split
    ·simp only
     rw [h.cnt _ (List.getElem_mem hj), hxt, List.count_append]; simp
    ·rename_i hne
     have hil : i < C.length := by simpa using hi
     have hne2 : C[i].t ≠ t := by
      intro e
      have hp := List.pairwise_iff_getElem.1 h.nod
      rcases Nat.lt_or_gt_of_ne hne with h' | h'
      ·exact hp j i (by simpa using hj) (by simpa using hil) h' (by simp [hxt, e])
      ·exact hp i j (by simpa using hil) (by simpa using hj) h' (by simp [hxt, e])
     have : ¬ t = C[i].t := fun e => hne2 e.symm
     rw [h.cnt _ (List.getElem_mem hil), List.count_append]
     simp [List.count_cons, this]
end Go.Abs.Plan
namespace Go.Abs.Plan
open Enc (Is)
def k_inc : ACode := (RR [uu 66 (.move (tt 12)), uu 67 (.move (tt 18)), uu 68 (.lookup false [.str] .nilptr (tt 66) (tt 67) false), uu 69 (.nilCheck (tt 68)), uu 70 (.fieldAddr 1 (tt 69)), uu 71 (.load false 1 (tt 70)), uu 72 (.bin .add .no (tt 71) (ii 1)), uu 73 (.nilCheck (tt 68)), uu 74 (.fieldAddr 1 (tt 73)), nn (.store 1 (tt 74) (tt 72))])
def k_new : ACode := (SS (RR [uu 57 (.move (tt 12)), uu 58 (.move (tt 18)), uu 59 (.lookup false [.str] .nilptr (tt 57) (tt 58) false), kk 60 (.bin .eql .ptr (tt 59) (.const .nilptr))])
 (.cond (tt 60) (RR [uu 61 (.move (tt 12)), uu 62 (.move (tt 18)), uu 63 (.frzM (tt 15)), uu 64 (.build [.nilsl, (.int .i64 0)] [(0, 1, (tt 63))]), uu 65 (.box 2 (tt 64)), nn (.mapUpdate false [.str] (tt 61) (tt 62) (tt 65))]) .skip))
theorem unders_encs {n : Nat} (t : Tup) : AV.unders n (t.map Val.enc) = true := z11 _ (encs_plain t)
theorem lookC (t : Tup) (C : List Cnt) {j : Nat} (h : C.findIdx? (fun x => decide (x.t = t)) = some j) (hj : j < C.length) : lookupR false [.str] .nilptr (.str (keyS t)) false (cEnts C) = some (.ptr C[j].id 0 0 0) := by
 unfold lookupR
 rw [cEnts_find, h]
 simp [hj]
theorem lookC_none (t : Tup) (C : List Cnt) (h : C.findIdx? (fun x => decide (x.t = t)) = none) : lookupR false [.str] .nilptr (.str (keyS t)) false (cEnts C) = some .nilptr := by
 unfold lookupR
 rw [cEnts_find, h]
 rfl
theorem cEnts_set (C : List Cnt) (j : Nat) (x y : Cnt) (h : C[j]? = some x) (h1 : y.t = x.t) (h2 : y.id = x.id) : cEnts (C.set j y) = cEnts C := by
 obtain ⟨hj, rfl⟩ := List.getElem?_eq_some_iff.1 h
 have : cPairs (C.set j y) = cPairs C := by
  unfold cPairs
  rw [List.map_set]
  apply List.ext_getElem?
  intro i
  rw [List.getElem?_set]
  split
  ·rename_i e
   subst e
   simp [h1, h2, hj]
  ·rfl
 unfold cEnts; rw [this]
theorem inc_run {B : AExit → St → Prop} {ks : List KF} (s : St) (C : List Cnt) (t : Tup) {j : Nat} (hj : j < C.length) (hR : CR s.heap C) (hf : C.findIdx? (fun x => decide (x.t = t)) = some j) (hn : 0 ≤ C[j].n ∧ C[j].n ≤ 2 ^ 40)
 (f12 : s.tm.get 12 = .map 0 0) (f18 : s.tm.get 18 = .str (keyS t)) (hgo : ∀ H', CR H' (C.set j ⟨C[j].t, C[j].n + 1, C[j].id⟩) → s.heap.length ≤ H'.length → KONT (callW tblN) loopW ks .normal { s with heap := H' } B) :
 EXEC (callW tblN) loopW k_inc ks s B := by
 have k0 := zf1 hR.map
 have n0 := lt_of hR.map
 obtain ⟨b1, b2⟩ := hR.blk _ (List.getElem_mem hj)
 have kx := zf1 b2
 have nx := lt_of b2
 have hl := lookC t C hf hj
 have hw : IntKind.i64.wrap (C[j].n + 1) = C[j].n + 1 := zi1 (by omega) (by omega)
 have hg : C[j]? = some C[j] := by simp [hj]
 unfold k_inc
 simp [f12, f18, k0, n0, hl, kx, nx, hw, tupA, zz, splice]
 refine hgo _ ⟨?_, fun x hx => ?_, ?_, ?_, hR.hok.set (by simp [Blk.under, AV.unders, AV.under, unders_encs])⟩ (by simp)
 ·rw [cEnts_set C j C[j] ⟨C[j].t, C[j].n + 1, C[j].id⟩ hg rfl rfl, List.getElem?_set_ne (by omega)]; simpa using hR.map
 ·obtain ⟨i, hi, rfl⟩ := List.mem_iff_getElem.1 hx
  rw [List.getElem_set]
  split
  ·exact ⟨b1, by rw [List.getElem?_set_self nx]; rfl⟩
  ·rename_i hne
   have hil : i < C.length := by simpa using hi
   obtain ⟨c1, c2⟩ := hR.blk _ (List.getElem_mem hil)
   refine ⟨c1, ?_⟩
   rw [List.getElem?_set_ne]
   ·exact c2
   ·intro e
    have hp := List.pairwise_iff_getElem.1 hR.nid
    rcases Nat.lt_or_gt_of_ne hne with h' | h'
    ·exact hp j i (by simpa using hj) (by simpa using hil) h' (by simp [e])
    ·exact hp i j (by simpa using hil) (by simpa using hj) h' (by simp [e])
 ·have : (C.set j ⟨C[j].t, C[j].n + 1, C[j].id⟩).map (·.id) = C.map (·.id) := by
   rw [List.map_set]; apply List.ext_getElem?; intro i; rw [List.getElem?_set]; split
   ·rename_i e; subst e; simp [hj]
   ·rfl
  rw [this]; exact hR.nid
 ·have : (C.set j ⟨C[j].t, C[j].n + 1, C[j].id⟩).map (·.t) = C.map (·.t) := by
   rw [List.map_set]; apply List.ext_getElem?; intro i; rw [List.getElem?_set]; split
   ·rename_i e; subst e; simp [hj]
   ·rfl
  rw [this]; exact hR.nod
theorem new_run {B : AExit → St → Prop} {ks : List KF} (s : St) (C : List Cnt) (t : Tup) {id g : Nat} (hR : CR s.heap C) (hB : s.heap[id]? = some (.arr g 3 (t.map Val.enc))) (hid : 1 ≤ id) (hfresh : ∀ x ∈ C, x.id ≠ id)
 (f12 : s.tm.get 12 = .map 0 0) (f15 : s.tm.get 15 = .sl id g 0 t.length) (f18 : s.tm.get 18 = .str (keyS t)) (hgo : ∀ H' v60, CR H' (if t ∈ C.map (·.t) then C else C ++ [⟨t, 0, s.heap.length⟩]) → s.heap.length ≤ H'.length → KONT (callW tblN) loopW ks .normal { s with tm := s.tm.put 60 v60, heap := H' } B) :
 EXEC (callW tblN) loopW k_new ks s B := by
 have k0 := zf1 hR.map
 have n0 := lt_of hR.map
 have kb := zf1 hB
 have nb := lt_of hB
 have htk : List.take t.length (t.map Val.enc) = t.map Val.enc := List.take_of_length_le (by simp)
 have hpl := encs_plain t
 have heq : ∀ i, binA .eql .ptr (.ptr i 0 0 0) .nilptr = some (.bool false) := fun _ => rfl
 have heq0 : binA .eql .ptr .nilptr .nilptr = some (.bool true) := rfl
 unfold k_new
 cases hf : C.findIdx? (fun x => decide (x.t = t)) with
 | some j =>
   obtain ⟨hj, hjt, _⟩ := List.findIdx?_eq_some_iff_getElem.1 hf
   have hmem : t ∈ C.map (·.t) := List.mem_map.2 ⟨C[j], List.getElem_mem hj, by simpa using hjt⟩
   have hl := lookC t C hf hj
   simp [f12, f18, k0, n0, hl, heq]
   exact hgo _ _ (by rw [if_pos hmem]; exact hR) (Nat.le_refl _)
 | none =>
   have hmem : t ∉ C.map (·.t) := by
    intro hm
    obtain ⟨x, hx, hxt⟩ := List.mem_map.1 hm
    have := List.findIdx?_eq_none_iff.1 hf x hx
    simp [hxt] at this
   have hl := lookC_none t C hf
   have hfind := cEnts_find t C
   rw [hf] at hfind
   simp only [Option.map_none] at hfind
   have h0id : ¬ 0 = id := by omega
   have h0id' : ¬ id = 0 := by omega
   simp [f12, f15, f18, k0, n0, hl, heq0, kb, nb, z63, htk, hpl, h0id, h0id', buildA_cons, ze, splice, AV.rowok, hfind]
   refine hgo _ _ ?_ (by simp)
   rw [if_neg hmem]
   have hlt : ∀ x ∈ C, x.id < s.heap.length := fun x hx => lt_of (hR.blk x hx).2
   refine ⟨?_, fun x hx => ?_, ?_, ?_, ?_⟩
   ·rw [List.getElem?_append_left (by simpa using n0), List.getElem?_set_self (by simpa using n0)]
    have : cEnts (C ++ [⟨t, 0, s.heap.length⟩]) = cEnts C ++ [{ key := .str (keyS t), val := .ptr s.heap.length 0 0 0, born := C.length }] := by
     unfold cEnts
     have e : cPairs (C ++ [⟨t, 0, s.heap.length⟩]) = cPairs C ++ [(keyS t, .ptr s.heap.length 0 0 0)] := by simp [cPairs]
     rw [e, sEnts_snoc]; simp [cPairs]
    rw [this]; simp
   ·rcases List.mem_append.1 hx with hx | hx
    ·obtain ⟨c1, c2⟩ := hR.blk x hx
     have := hlt x hx
     have hne := hfresh x hx
     refine ⟨c1, ?_⟩
     rw [List.getElem?_append_left (by simpa using this), List.getElem?_set_ne (by omega), List.getElem?_set_ne (fun e => hne e.symm)]
     exact c2
    ·simp at hx; subst hx
     refine ⟨by simp only; omega, ?_⟩
     rw [List.getElem?_append_right (by simp)]; simp [tupA]
   ·rw [List.map_append, List.nodup_append]
    refine ⟨hR.nid, by simp, fun u hu v hv => ?_⟩
    obtain ⟨x, hx, rfl⟩ := List.mem_map.1 hu
    simp at hv; subst hv
    have := hlt x hx
    omega
   ·rw [List.map_append, List.nodup_append]
    exact ⟨hR.nod, by simp, fun u hu v hv => by simp at hv; subst hv; exact fun e => hmem (by rw [← e]; exact hu)⟩
   ·have e : cEnts (C ++ [⟨t, 0, s.heap.length⟩]) = cEnts C ++ [{ key := .str (keyS t), val := .ptr s.heap.length 0 0 0, born := C.length }] := by
     unfold cEnts
     have e : cPairs (C ++ [⟨t, 0, s.heap.length⟩]) = cPairs C ++ [(keyS t, .ptr s.heap.length 0 0 0)] := by simp [cPairs]
     rw [e, sEnts_snoc]; simp [cPairs]
    rw [← e]
    have h1 : HOK (s.heap ++ [Blk.arr 0 2 [.agg [.fsl false (t.map Val.enc), .int .i64 0]]]) := hR.hok.push (B := Blk.arr 0 2 [.agg [.fsl false (t.map Val.enc), .int .i64 0]]) (by simp [Blk.under, AV.unders, AV.under, unders_encs])
    have h2 := (h1.set (b := id) (B := .dead g) rfl).set (b := 0) (B := .map 0 (cEnts (C ++ [⟨t, 0, s.heap.length⟩])) (C.length + 1)) (cEnts_under (fun x hx => by
     rcases List.mem_append.1 hx with hx | hx
     ·have := hlt x hx; simp; omega
     ·simp at hx; subst hx; simp))
    have e2 : ((s.heap ++ [Blk.arr 0 2 [.agg [.fsl false (t.map Val.enc), .int .i64 0]]]).set id (.dead g)).set 0 (.map 0 (cEnts (C ++ [⟨t, 0, s.heap.length⟩])) (C.length + 1)) = (s.heap.set id (.dead g)).set 0 (.map 0 (cEnts (C ++ [⟨t, 0, s.heap.length⟩])) (C.length + 1)) ++ [Blk.arr 0 2 [.agg [.fsl false (t.map Val.enc), .int .i64 0]]] := by
     rw [List.set_append_left _ _ nb, List.set_append_left _ _ (by simpa using n0)]
    rw [e2] at h2
    exact h2
end Go.Abs.Plan
namespace Go.Abs.Plan
open Enc (Is)
open Go.Sort (SWO)
abbrev CntB := { c : Counted // c.t.length ≤ 2 ^ 30 }
instance : Inhabited CntB := ⟨⟨⟨[], 0⟩, by simp⟩⟩
def CmpC (fv : AV) : Prop := ∀ (c d : Counted), c.t.length ≤ 2 ^ 30 → d.t.length ≤ 2 ^ 30 → ∀ H, callW tbl fv [cntA c, cntA d] H = some (.int .i64 (tcmp c.t d.t), H)
def envC (fv : AV) (h : CmpC fv) : Sort.Env tbl CntB where
 I := idsC
 ag := true
 sz := 2
 row x := cntA x.1
 fv := fv
 cmp x y := tcmp x.1.t y.1.t
 laid := laidC
 rowok := fun _ => rfl
 part := fun _ => rfl
 plain := fun x => cntA_plain x.1
 call := fun x y H => h x.1 y.1 x.2 y.2 H
theorem swoC (fv : AV) (h : CmpC fv) : SWO (envC fv h).lt :=
 swo_of (c := fun x y : CntB => tcmp x.1.t y.1.t) (fun a => TLt.irrefl a.1.t) (fun a b d => tcmp_trans a.1.t b.1.t d.1.t) (fun a b d => tcmp_ntrans a.1.t b.1.t d.1.t)
theorem sortC_call (fv : AV) (h : CmpC fv) (H : Heap) (hok : HOK H) (id g : Nat) (l : List Counted) (hl0 : ∀ t ∈ l, t.t.length ≤ 2 ^ 30) (hb : H[id]? = some (.arr g 2 (l.map cntA))) (hl : l.length < 2 ^ 40) :
 ∃ l' : List Counted, callW tbl (.func zj1 [] []) [.sl id g 0 l.length, fv] H = some (.tuple [], H.set id (.arr g 2 (l'.map cntA))) ∧ l'.Perm l ∧ l'.Pairwise fun a b => ¬ TLt b.t a.t := by
 have hlt := lt_of hb
 obtain ⟨L, rfl⟩ : ∃ L : List CntB, l = L.map (·.1) := ⟨l.pmap Subtype.mk hl0, by rw [List.map_pmap]; simp⟩
 have hsz : L.toArray.size = L.length := by simp
 have hll : (L.map (·.1)).length = L.length := by simp
 rw [hll] at hl ⊢
 have hbl : Go.Sort.bitsLen L.length ≤ 60 := (Go.Sort.bitsLen_le_iff _ 60).2 (by omega)
 obtain ⟨D, hc, hP, hS⟩ := Go.Abs.Sort.pdq_call (envC fv h) (swoC fv h) id g H hok hlt L.toArray (by omega) (Go.Sort.bitsLen L.length) (by omega)
 have hrows : (L.map (·.1)).map cntA = (envC fv h).rws L.toArray := by simp [Sort.Env.rws, envC]
 have hset : H.set id ((envC fv h).blk g L.toArray) = H := set_same (by rw [hb, hrows]; rfl)
 rw [hset, hsz] at hc
 have hDs : D.size = L.length := by rw [hP.1]; simp
 refine ⟨D.toList.map (·.1), ?_, ?_, ?_⟩
 ·have hlen := Go.Abs.Sort.len_call laidC L.length (by omega)
  have w1 : IntKind.u64.wrap (L.length : Int) = (L.length : Int) := Go.Abs.Sort.wrapU rfl (by omega)
  refine callB z21 rfl rfl rfl (fun F hF => ?_)
  have hlen' : callW tbl (.func zq2 [] []) [.int .u64 (L.length : Int)] H = some (.int .i64 ((Go.Sort.bitsLen L.length : Nat) : Int), H) := hlen H
  have hc' : callW tbl (.func zs1 [] []) [.sl id g 0 L.length, .int .i64 0, .int .i64 (L.length : Int), .int .i64 ((Go.Sort.bitsLen L.length : Nat) : Int), fv] H = some (.tuple [], H.set id ((envC fv h).blk g D)) := hc
  have hfin : H.set id ((envC fv h).blk g D) = H.set id (.arr g 2 ((D.toList.map (·.1)).map cntA)) := by
   have : (D.toList.map (·.1)).map cntA = (envC fv h).rws D := by simp [Sort.Env.rws, envC]
   rw [this]; rfl
  rw [hfin] at hc'
  have hlen2 : (H.set id (.arr g 2 ((D.toList.map (·.1)).map cntA))).length = H.length := by simp
  generalize H.set id (.arr g 2 ((D.toList.map (·.1)).map cntA)) = H2 at hc' hF hlen2
  simp [z21, zb2, w1, hlen', hc']
  exact hF _ _ (zo hlen2.symm)
 ·obtain ⟨_, _, hperm⟩ := hP
  have e1 : D.extract 0 L.toArray.size = D := by rw [hsz, ← hDs]; exact Array.extract_size
  rw [e1, Array.extract_size] at hperm
  exact List.Perm.map _ hperm
 ·rw [List.pairwise_map, List.pairwise_iff_getElem]
  intro i j hi hj hij hlt
  have hi' : i < D.size := by simpa using hi
  have hj' : j < D.size := by simpa using hj
  have := hS i j (Nat.zero_le _) hij (by rw [hsz, ← hDs]; exact hj')
  rw [getElem!_pos D j hj', getElem!_pos D i hi'] at this
  have h2 : (envC fv h).lt D[j] D[i] = true := decide_eq_true hlt
  rw [this] at h2
  cases h2
theorem sortC_nil (fv : AV) (H : Heap) : callW tbl (.func zj1 [] []) [.nilsl, fv] H = some (.tuple [], H) := by
 refine callB z21 rfl rfl rfl (fun F hF => ?_)
 have hlen : callW tbl (.func zq2 [] []) [.int .u64 0] H = some (.int .i64 0, H) := Go.Abs.Sort.len_call laidC 0 (by omega) H
 have hp : callW tbl (.func zs1 [] []) [.nilsl, .int .i64 0, .int .i64 0, .int .i64 0, fv] H = some (.tuple [], H) := Go.Abs.Sort.pdq_nil laidC _ 0 H
 have w1 : IntKind.u64.wrap 0 = 0 := by decide
 simp [z21, zb2, w1, hlen, hp]
 exact hF _ _ (zo rfl)
theorem run1_cmp : CmpC (.func f_exec_Run_1 [] []) := by
 intro c d hc hd H
 obtain ⟨r, h1, rfl⟩ : ∃ r, zu (callW tbl) loopW a_exec_Run_1 [cntA c, cntA d] = some r ∧ r = i64 (tcmp c.t d.t) := by
  refine pureK a_exec_Run_1 rfl (fun F hF => ?_)
  have h1 := tuple_Compare_call c.t d.t (tupA c.t) (tupA d.t) (tupA_is c.t) (tupA_is d.t) (by omega) (by omega) []
  have hr : ∀ c : Counted, AV.rowok 2 (cntA c) = true := fun _ => rfl
  have hcl : ∀ c : Counted, (cntA c).cells = [tupA c.t, i64 c.n] := fun _ => rfl
  simp [a_exec_Run_1, c_exec_Run_1, hr, hcl, h1]
  exact hF _ _ _ (z7 rfl) rfl
 exact Go.Abs.Sort.pureA (f := f_exec_Run_1) (af := a_exec_Run_1) rfl rfl (by simp [AV.plains, cntA_plain]) (by simp [AV.unlents, AV.unlent, cntA, tupA, encs_unlent]) h1 H
end Go.Abs.Plan
namespace Go.Abs.Plan
open Enc (Is)
def headT (p : Plan) (x : Tup) : Tup := p.head.map fun c => zx2 c x
def cntsOf (M : List Tup) : List Counted := (sortT M).map fun t => ⟨t, (M.count t : Nat)⟩
def relC (D : List Counted) : AV := if D = [] then .nilsl else .fsl false (D.map cntA)
theorem CR.push {H : Heap} {C : List Cnt} (h : CR H C) (B : Blk) (hB : B.under (H.length + 1) = true) : CR (H ++ [B]) C := by
 refine ⟨?_, fun x hx => ⟨(h.blk x hx).1, ?_⟩, h.nid, h.nod, h.hok.push hB⟩
 ·rw [List.getElem?_append_left (lt_of h.map)]; exact h.map
 ·rw [List.getElem?_append_left (lt_of (h.blk x hx).2)]; exact (h.blk x hx).2
theorem addC_eq (C : List Cnt) (t : Tup) (id : Nat) : ∃ j, ∃ hj : j < (if t ∈ C.map (·.t) then C else C ++ [⟨t, 0, id⟩]).length, (if t ∈ C.map (·.t) then C else C ++ [⟨t, 0, id⟩]).findIdx? (fun x => decide (x.t = t)) = some j ∧
 (if t ∈ C.map (·.t) then C else C ++ [⟨t, 0, id⟩]).set j ⟨(if t ∈ C.map (·.t) then C else C ++ [⟨t, 0, id⟩])[j].t, (if t ∈ C.map (·.t) then C else C ++ [⟨t, 0, id⟩])[j].n + 1, (if t ∈ C.map (·.t) then C else C ++ [⟨t, 0, id⟩])[j].id⟩ = addC C t id ∧
 ((if t ∈ C.map (·.t) then C else C ++ [⟨t, 0, id⟩])[j].n = 0 ∨ (if t ∈ C.map (·.t) then C else C ++ [⟨t, 0, id⟩])[j] ∈ C) := by
 unfold addC
 cases hf : C.findIdx? (fun x => decide (x.t = t)) with
 | some j =>
   obtain ⟨hj, hjt, _⟩ := List.findIdx?_eq_some_iff_getElem.1 hf
   have hmem : t ∈ C.map (·.t) := List.mem_map.2 ⟨C[j], List.getElem_mem hj, by simpa using hjt⟩
   simp only [if_pos hmem]
   exact ⟨j, hj, hf, by simp [hj], .inr (List.getElem_mem hj)⟩
 | none =>
   have hmem : t ∉ C.map (·.t) := by
    intro hm
    obtain ⟨x, hx, hxt⟩ := List.mem_map.1 hm
    have := List.findIdx?_eq_none_iff.1 hf x hx
    simp [hxt] at this
   simp only [if_neg hmem]
   refine ⟨C.length, by simp, ?_, ?_, .inl (by simp)⟩
   ·rw [List.findIdx?_append, hf]; simp [List.findIdx?_cons]
   ·simp
theorem run_rows {p : Plan} {D : List Tup} {fl : Bool} {a b c : AV} (hC : Is c p.head) (hh : p.head.length ≤ 2 ^ 20) (hin : ∀ x ∈ D, ∀ cc ∈ p.head, ColIn x.length cc) (hok : ∀ x ∈ D, TupOk (headT p x)) (hD : D.length ≤ 2 ^ 30) {R : AExit → St → Prop} {ks : List KF} (s : St)
 (hR : CR s.heap []) (f4 : s.tm.get 4 = .fptr fl [a, b, .str p.pred, c] 0) (f12 : s.tm.get 12 = .map 0 0) (f34 : s.tm.get 34 = relA D) (f35 : s.tm.get 35 = i64 D.length) (f36 : s.tm.get 36 = i64 0) (q : s.dfr = [])
 (hexit : ∀ (s' : St) (C : List Cnt), CR s'.heap C → CountsOf C (D.map (headT p)) → s'.dfr = [] → s'.tm.get 12 = .map 0 0 → KONT (callW tblN) loopW ks (.exit 0) s' R) :
 EXEC (callW tblN) loopW (.loop c_exec_Run_l1) ks s R := by
 have ccl := zm hC
 refine z02 D.length (fun j s => ∃ C, CR s.heap C ∧ CountsOf C ((D.take j).map (headT p)) ∧ s.dfr = [] ∧ s.tm.get 4 = .fptr fl [a, b, .str p.pred, c] 0 ∧ s.tm.get 12 = .map 0 0 ∧ s.tm.get 34 = relA D ∧ s.tm.get 35 = i64 D.length ∧ s.tm.get 36 = i64 j)
  0 (by omega) ⟨[], hR, ⟨by simp, by simp, by simp⟩, q, f4, f12, f34, f35, by simpa using f36⟩ (by omega) (by rintro j s ⟨C, h⟩; exact ⟨h.2.2.2.2.2.2.2, h.2.2.2.2.2.2.1⟩) ?_ ?_
 ·clear hR f4 f12 f34 f35 f36 q
  rintro j s B hj ⟨C, hR, hCo, q, f4, f12, f34, f35, f36⟩ hgo hx
  have hidx := relA_idx hj
  have hgj : D[j]? = some D[j] := by simp [hj]
  have htk : D.take (j + 1) = D.take j ++ [D[j]] := by rw [List.take_add_one, hgj]; rfl
  have hinj := hin _ (List.getElem_mem hj)
  have hokj := hok _ (List.getElem_mem hj)
  have hml : ((D.take j).map (headT p)).length ≤ 2 ^ 30 := by simp; omega
  generalize D[j] = x at *
  obtain ⟨t, ht⟩ : ∃ t, t = headT p x := ⟨_, rfl⟩
  rw [← ht] at hokj
  have htl : t.length = p.head.length := by rw [ht]; simp [headT]
  have hlt0 : 0 < s.heap.length := lt_of hR.map
  change EXEC (callW tblN) loopW (SS (RR [uu 38 (.indexAddr 1 (tt 34) (tt 36)), uu 39 (.load false 1 (tt 38)), kk 14 (.move (tt 39))])
 (SS (RR [uu 40 (.buildSlice (.agg [(.int .i64 0), (.int .i64 0), (.str ⟨#[]⟩)]) 0 []), kk 15 (.move (tt 40))])
 (SS (SS (RR [uu 41 (.fieldAddr 3 (tt 4)), kk 42 (.load false 1 (tt 41)), kk 43 (.len .slice (tt 42)), kk 44 (.move (ii 0))])
 (.block 2 (.loop c_exec_Run_l0)))
 (SS (RR [uu 55 (.move (tt 15)), uu 56 (.call (.func f_exec_key) [(tt 55)]), kk 18 (.move (tt 56))])
 (SS k_new k_inc))))) [] _ B
  simp [f4, f34, f36, hidx, ccl, IsL.len hC, zr]
  refine z02 p.head.length (fun i s' => ∃ g, s'.heap = s.heap ++ [.arr g 3 ((t.take i).map Val.enc)] ∧ s'.tm.get 15 = .sl s.heap.length g 0 i ∧ s'.dfr = [] ∧ s'.tm.get 4 = .fptr fl [a, b, .str p.pred, c] 0 ∧ s'.tm.get 12 = .map 0 0 ∧ s'.tm.get 14 = tupA x ∧ s'.tm.get 34 = relA D ∧ s'.tm.get 35 = i64 D.length ∧ s'.tm.get 36 = i64 j ∧ s'.tm.get 42 = c ∧ s'.tm.get 43 = i64 p.head.length ∧ s'.tm.get 44 = i64 i)
   0 (by omega) ⟨0, by simp, by simp, by simp [q], by simp [f4], by simp [f12], by simp, by simp [f34], by simp [f35], by simp [f36], by simp, by simp, by simp⟩ (by omega) (by rintro i s ⟨g, h⟩; exact ⟨h.2.2.2.2.2.2.2.2.2.2.2, h.2.2.2.2.2.2.2.2.2.2.1⟩) ?_ ?_
  ·rintro i s' B' hi ⟨g, hH, e15, e0, e4, e12, e14, e34, e35, e36, e42, e43, e44⟩ hgo' hx'
   have hgi : p.head[i]? = some p.head[i] := by simp [hi]
   obtain ⟨fl', cv, rfl, hidc⟩ := IsL.idx hC hgi
   simp only [show Enc.sz Col = 5 from rfl] at hidc
   have hval := zt1 subN (val_call p.head[i] x (tupA x) s'.heap (tupA_is x) (hinj _ (List.getElem_mem hi)))
   have hti : t[i]? = some (zx2 p.head[i] x) := by rw [ht]; simp [headT, hi]
   have htk2 : t.take (i + 1) = t.take i ++ [zx2 p.head[i] x] := by rw [List.take_add_one, hti]; rfl
   have hb : s'.heap[s.heap.length]? = some (.arr g 3 ((t.take i).map Val.enc)) := by rw [hH]; simp
   have kb := zf1 hb
   have nb := lt_of hb
   have hroom : (i + 1) * 32 ≤ 140737488355328 := by omega
   have hno2 : ¬ (i + 1 ≤ i) := by omega
   have hmin : min i t.length = i := by omega
   generalize p.head[i] = cx at *
   generalize hvv : zx2 cx x = vv at *
   have hset : ∀ X, s'.heap.set s.heap.length X = s.heap ++ [X] := fun X => by rw [hH]; simp
   have htake : List.take i ((t.take i).map Val.enc) = (t.take i).map Val.enc := List.take_of_length_le (by simp; omega)
   have hro : AV.rowok 3 vv.enc = true := rfl
   simp [e14, e15, e42, e44, hidc, AV.rowok, hval, zr, ze1, z81, room, kb, nb, hroom, hmin, hset, hno2, List.take_take]
   refine hgo' _ _ (.inl rfl) (by simp [e44]) ⟨g + 1, ?_, by simp, by simp [e0], by simp [e4], by simp [e12], by simp [e14], by simp [e34], by simp [e35], by simp [e36], by simp [e42], by simp [e43], by simp⟩
   rw [htk2]; simp
  ·rintro s' ⟨g, hH, e15, e0, e4, e12, e14, e34, e35, e36, e42, e43, e44⟩
   rw [← htl, List.take_length] at hH
   rw [← htl] at e15
   have hb : s'.heap[s.heap.length]? = some (.arr g 3 (t.map Val.enc)) := by rw [hH]; simp
   have hkey := zt1 subN (key_callS t hokj (.sl s.heap.length g 0 t.length) s'.heap ⟨s.heap.length, g, rfl, hb⟩)
   have hR1 : CR s'.heap C := by rw [hH]; exact hR.push _ (z11 _ (encs_plain t))
   have hlt : ∀ x ∈ C, x.id < s.heap.length := fun x hx => lt_of (hR.blk x hx).2
   simp [e15, hkey]
   refine new_run (id := s.heap.length) (g := g) _ C t (by simpa using hR1) (by simpa using hb) (by omega) (fun x hx => by have := hlt x hx; omega) (by simp [e12]) (by simp [e15]) (by simp) (fun H' v60 hR2 hle => ?_)
   simp
   obtain ⟨jj, hjj, hf, hset, hn⟩ := addC_eq C t s'.heap.length
   have hcn : ∀ x ∈ C, 0 ≤ x.n ∧ x.n ≤ 2 ^ 30 := fun x hx => by
    have h1 := hCo.cnt x hx
    have h2 := List.count_le_length (a := x.t) (l := (D.take j).map (headT p))
    omega
   have hCo2 := hCo.add t s'.heap.length
   have hM : (D.take (j + 1)).map (headT p) = (D.take j).map (headT p) ++ [t] := by rw [htk, List.map_append, ht]; rfl
   rw [← hM] at hCo2
   refine inc_run _ _ t hjj (by simpa using hR2) hf ?_ (by simp [e12]) (by simp) (fun H'' hR3 hle2 => ?_)
   ·rcases hn with h | h
    ·rw [h]; omega
    ·have := hcn _ h; omega
   ·rw [hset] at hR3
    simp
    refine hgo _ _ (.inl rfl) (by simp [e36]) ⟨addC C t s'.heap.length, hR3, hCo2, by simp [e0], by simp [e4], by simp [e12], by simp [e34], by simp [e35], by simp⟩
 ·rintro s ⟨C, hR, hCo, q, f4, f12, f34, f35, f36⟩
  rw [List.take_length] at hCo
  exact hexit _ C (by simpa using hR) hCo (by simp [q]) (by simp [f12])
end Go.Abs.Plan
namespace Go.Abs.Plan
open Enc (Is)
def Cnt.cn (x : Cnt) : Counted := ⟨x.t, x.n⟩
def cntE (C : List Cnt) (e : MEnt) : Counted := ((C[e.born]?).map Cnt.cn).getD default
theorem cEnts_at : ∀ (C : List Cnt) (q : Nat) (e : MEnt), e ∈ sEnts (cPairs C) q → ∃ j, ∃ hj : j < C.length, e.val = .ptr C[j].id 0 0 0 ∧ e.born = q + j
 | [], q, e, h => by simp [cPairs, sEnts] at h
 | x :: C, q, e, h => by
   simp only [cPairs, List.map_cons, sEnts, List.mem_cons] at h
   rcases h with rfl | h
   ·exact ⟨0, by simp, rfl, rfl⟩
   ·obtain ⟨j, hj, h1, h2⟩ := cEnts_at C (q + 1) e h
    exact ⟨j + 1, by simpa using hj, by simpa using h1, by omega⟩
theorem cEnts_born (C : List Cnt) : ((cEnts C).map (·.born)).Nodup ∧ ((cEnts C).map (·.born)) = List.range' 0 C.length := by
 have : ∀ (l : List (ByteArray × AV)) (i : Nat), (sEnts l i).map (·.born) = List.range' i l.length := by
  intro l
  induction l with
  | nil => intro i; rfl
  | cons a l ih => intro i; simp only [sEnts, List.map_cons, ih, List.length_cons, List.range'_succ]
 have h2 : ((cEnts C).map (·.born)) = List.range' 0 C.length := by unfold cEnts; rw [this]; simp [cPairs]
 exact ⟨by rw [h2]; exact List.nodup_range', h2⟩
theorem cEnts_cn (C : List Cnt) : (cEnts C).map (cntE C) = C.map Cnt.cn := by
 have h := (cEnts_born C).2
 have e : (cEnts C).map (cntE C) = ((cEnts C).map (·.born)).map (fun q => ((C[q]?).map Cnt.cn).getD default) := by rw [List.map_map]; rfl
 rw [e, h]
 apply List.ext_getElem
 ·simp
 ·intro i h1 h2
  simp at h1
  simp [h1]
theorem cEnts_len (C : List Cnt) : (cEnts C).length = C.length := by
 have := congrArg List.length (cEnts_cn C); simpa using this
theorem counts_sorted {C : List Cnt} {M : List Tup} {D : List Counted} (h : CountsOf C M) (hp : D.Perm (C.map Cnt.cn)) (hs : D.Pairwise fun a b => ¬ TLt b.t a.t) : D = cntsOf M := by
 have hpt : (D.map (·.t)).Perm (C.map (·.t)) := by
  have := hp.map (·.t)
  rw [List.map_map] at this
  exact this
 have hn : (D.map (·.t)).Nodup := hpt.nodup_iff.2 h.nod
 have hst : (D.map (·.t)).Pairwise fun a b => ¬ TLt b a := by rw [List.pairwise_map]; exact hs
 have hstr : (D.map (·.t)).Pairwise TLt := by
  refine (List.Pairwise.and hst hn).imp (fun {a b} h => ?_)
  rcases TLt.tri a b with k | k | k
  ·exact k
  ·exact absurd k h.2
  ·exact absurd k h.1
 have e1 : D.map (·.t) = sortT M := sortT_of hstr (fun y => by rw [hpt.mem_iff, h.mem])
 have e2 : D = (D.map (·.t)).map fun t => ⟨t, (M.count t : Nat)⟩ := by
  rw [List.map_map]
  conv => lhs; rw [← List.map_id D]
  apply List.map_congr_left
  intro x hx
  obtain ⟨y, hy, rfl⟩ := List.mem_map.1 (hp.mem_iff.1 hx)
  have := h.cnt y hy
  simp [Cnt.cn, this]
 rw [e2, e1]; rfl
theorem cnts_plains (D : List Counted) : AV.plains (D.map cntA) = true := by
 induction D with
 | nil => rfl
 | cons x D ih => simp [AV.plains, cntA_plain] at ih ⊢; exact ih
theorem relC_unlent (D : List Counted) : (relC D).unlent = true := by
 unfold relC
 split
 ·rfl
 ·have : ∀ l : List Counted, AV.unlents (l.map cntA) = true := by
   intro l
   induction l with
   | nil => rfl
   | cons x l ih => simp [AV.unlents, AV.unlent, cntA, tupA, encs_unlent] at ih ⊢; exact ih
  simpa [AV.unlent] using this D
theorem run_tail {C : List Cnt} {M : List Tup} (k : Nat) (s : St) (F : AV → Heap → Prop) (hR : CR s.heap C) (hCo : CountsOf C M) (hlen : C.length ≤ 2 ^ 30) (htl : ∀ x ∈ C, x.t.length ≤ 2 ^ 30) (q : s.dfr = []) (f12 : s.tm.get 12 = .map 0 0)
 (hF : ∀ v H', reify H' zx v = some (.tuple [relC (cntsOf M), i64 0]) → F v H') :
 NEX tblN k (SS (RR [kk 19 (.move (.const .nilsl))])
 (SS (SS (RR [uu 76 (.move (tt 12)), kk 77 (.rangeM (tt 76))])
 (.block 4 (.loop c_exec_Run_l2)))
 (SS (RR [uu 88 (.move (tt 19)), uu 89 (.call (.func zj1) [(tt 88), (.func f_exec_Run_1)])])
 (SS (RR [uu 90 (.move (tt 19)), kk 8 (.move (tt 90)), kk 9 (.move (ii 0))])
 .ret)))) [] s (FINQ [.tmp 8, .tmp 9] F) := by
 obtain ⟨H, hHe⟩ : ∃ H, H = s.heap := ⟨_, rfl⟩
 rw [← hHe] at hR
 have hH := hR.hok
 have l0 := lt_of hR.map
 simp [f12]
 rw [NMAPK_range (es := cEnts C) (clock := C.length) (by simpa [← hHe] using hR.map)]
 simp
 unfold c_exec_Run_l2
 rw [← hHe]
 refine NEX_mapRange (it := 77) (nx := 78) (more := 79) (out := 4) (next := 5) (es := cEnts C) (mid := 0) (mg := 0) (id := H.length) (gen := 0) (clock := C.length) (fun e he => ?_) (cEnts_born C).1
  (fun done s => s.dfr = [] ∧ s.tm.get 77 = .ptr H.length 0 0 0 ∧ Acc (H ++ [iterB 0 0 0 C.length done]) 2 (s.tm.get 19) s.heap (done.map fun e => cntA (cntE C e))) ?_ ?_ ?_ ?_
 ·obtain ⟨j, hj, _, h2⟩ := cEnts_at C 0 e he
  omega
 ·rintro done s ⟨q2, f77, hacc⟩
  refine ⟨f77, ?_, ?_⟩
  ·rw [hacc.get (by simp)]; simp
  ·rw [hacc.get (by simp), List.getElem?_append_left l0]; exact hR.map
 ·exact ⟨by simp [q], by simp, by simp; exact Acc.nil⟩
 ·rintro done e s F' ⟨q2, f77, hacc⟩ he hed hsub hdn hgo1 hgo2 hx
  obtain ⟨j, hj, hval, hborn⟩ := cEnts_at C 0 e he
  rw [Nat.zero_add] at hborn
  have hcn : cntE C e = C[j].cn := by simp [cntE, hborn, hj]
  have hacc' := hacc.set (b := H.length) (by simp) (iterB 0 0 0 C.length (done ++ [e]))
  have hset : (H ++ [iterB 0 0 0 C.length done]).set H.length (iterB 0 0 0 C.length (done ++ [e])) = H ++ [iterB 0 0 0 C.length (done ++ [e])] := by simp
  rw [hset] at hacc'
  generalize s.heap.set H.length (iterB 0 0 0 C.length (done ++ [e])) = H2 at hacc'
  have g1 : H2[H.length]? = some (iterB 0 0 0 C.length (done ++ [e])) := by rw [hacc'.get (by simp)]; simp
  have g2 : H2[0]? = some (.map 0 (cEnts C) C.length) := by rw [hacc'.get (by simp), List.getElem?_append_left l0]; exact hR.map
  obtain ⟨b1, b2⟩ := hR.blk _ (List.getElem_mem hj)
  have lb := lt_of b2
  have g3 : H2[C[j].id]? = some (.arr 0 2 [.agg [tupA C[j].t, i64 C[j].n]]) := by rw [hacc'.get (by simp; omega), List.getElem?_append_left lb]; exact b2
  have k3 := zf1 g3
  have n3 := lt_of g3
  have hdl : done.length ≤ C.length := by
   rw [← cEnts_len C]; classical exact zu3 hdn hsub
  have hro : AV.rowok 2 (cntA C[j].cn) = true := rfl
  obtain ⟨v', Hs', hacc2, happ⟩ := hacc'.oneN (tbl := tblN) (k := k) (bytes := 32) (r := cntA C[j].cn) (fl := false) hro (by simp; omega)
  have hout : (done ++ [e]).map (fun e => cntA (cntE C e)) = done.map (fun e => cntA (cntE C e)) ++ [cntA C[j].cn] := by simp [hcn]
  rw [← hout] at hacc2
  simp [f77]
  rw [NMAPK_entry g1 g2 (cEnts_born C).1 he]
  have hca : AV.agg [tupA C[j].t, i64 C[j].n] = cntA C[j].cn := rfl
  rw [hca] at k3
  have hcc : (cntA C[j].cn).cells = [tupA C[j].t, i64 C[j].n] := rfl
  simp [hval, k3, n3, hcc, hca, zr, hro]
  rw [happ _ _ _ _ _ _ _ rfl]
  simp
  exact hgo1 _ ⟨by simp [q2], by simp [f77], by simpa using hacc2⟩
 ·rintro done s ⟨q2, f77, hacc⟩ hperm
  have hpm : (done.map (cntE C)).Perm (C.map Cnt.cn) := by have := hperm.map (cntE C); rwa [cEnts_cn] at this
  obtain ⟨D0, hD0⟩ : ∃ D0, D0 = done.map (cntE C) := ⟨_, rfl⟩
  have hrows : (done.map fun e => cntA (cntE C e)) = D0.map cntA := by rw [hD0, List.map_map]; rfl
  rw [hrows] at hacc
  rw [← hD0] at hpm
  have hok1 : HOK (H ++ [iterB 0 0 0 C.length done]) := hH.push (by simp [iterB, Blk.under, AV.under])
  have hl0 : D0.length ≤ 2 ^ 30 := by rw [hpm.length_eq]; simpa using hlen
  simp
  rcases hacc with ⟨h1, h2, h3⟩ | ⟨g, h1, h2, h3⟩
  ·have hd : D0 = [] := by simpa using h1
   have hnil : cntsOf M = [] := by
    rw [← counts_sorted hCo (D := D0) hpm (by rw [hd]; exact List.Pairwise.nil)]; exact hd
   refine z94 (zt1 subN (by rw [h2, h3]; exact sortC_nil _ _)) ?_
   simp [h2, h3, q2]
   exact hF _ _ (by rw [hnil]; exact z7 rfl)
  ·obtain ⟨D, hc, hDp, hDs⟩ := sortC_call _ run1_cmp s.heap (Acc.hok (.inr ⟨g, h1, h2, h3⟩) hok1 (cnts_plains _)) (H ++ [iterB 0 0 0 C.length done]).length g D0 (fun c hc => by
    obtain ⟨x, hx, rfl⟩ := List.mem_map.1 (hpm.mem_iff.1 hc)
    exact htl x hx) (by rw [h3]; simp) (by omega)
   have hD : D = cntsOf M := counts_sorted hCo (hDp.trans hpm) hDs
   rw [List.length_map] at h2
   refine z94 (zt1 subN (by rw [h2]; exact hc)) ?_
   have hset : s.heap.set (H ++ [iterB 0 0 0 C.length done]).length (.arr g 2 (D.map cntA)) = H ++ [iterB 0 0 0 C.length done, .arr g 2 (D.map cntA)] := by rw [h3]; simp
   rw [hset]
   simp [h2, q2]
   refine hF _ _ ?_
   have hDl : D.length = D0.length := hDp.length_eq
   have hDne : D ≠ [] := by
    rintro rfl
    have : D0 = [] := List.length_eq_zero_iff.1 hDl.symm
    exact h1 (by rw [this]; rfl)
   have hre := reify_rowsK (k := 9) (Hb := H ++ [iterB 0 0 0 C.length done, .arr g 2 (D.map cntA)]) (id := H.length + 1) (g := g) (sz := 2) (off := 0) (len := D0.length) (R := D.map cntA) (rows := D.map cntA) (xs := D) (by simp) (by simp [hDl]) (by rw [← hDl]; simp [List.take_of_length_le]) (encs_is (fun c => cntA_is c) D)
   rw [reify_tuple2 (by simp [AV.plain, AV.plains]) hre (reify_plain' rfl), ← hD]
   simp [relC, hDne]
structure HeadFit (p : Plan) : Prop where
 col : ∀ c ∈ p.head, ColIn p.vars.length c
 len : p.head.length ≤ 2 ^ 20
theorem headT_ok {p : Plan} (h : HeadFit p) (hv : ∀ c ∈ p.head, ValOk c.v) {x : Tup} (hx : TupOk x) (hl : x.length = p.vars.length) : TupOk (headT p x) := by
 refine ⟨by simp [headT]; exact h.len, fun v hv' => ?_⟩
 simp only [headT, List.mem_map] at hv'
 obtain ⟨c, hc, rfl⟩ := hv'
 exact colVal_ok (n := 0) (hv c hc) hx (by rw [hl]; exact h.col c hc)
theorem okHead {p : Plan} (h : OkPlan p) : HeadFit p := by
 obtain ⟨B, B', _, h2⟩ := h.ok
 have := h.head
 exact ⟨fun c hc => by obtain ⟨B1, B2, h3⟩ := okCols_all h2 c hc; exact okCol_in h3, by omega⟩
def runL (p : Plan) (old now : List RelOf) (delta : List Tup) : List Counted := cntsOf ((bindL p old now delta).map (headT p))
theorem bindL_facts (p : Plan) (old now : List RelOf) (delta : List Tup) (ha : ArgsOk old now delta) (hn : p.vars.length ≤ 2 ^ 20) (hfew : (foundL p old now delta).length ≤ 2 ^ 30) : (bindL p old now delta).length ≤ 2 ^ 30 ∧ ∀ t ∈ bindL p old now delta, TupOk t ∧ t.length = p.vars.length := by
 obtain ⟨f1, f2, f3⟩ := addsT_facts (foundL p old now delta) [] List.nodup_nil
 constructor
 ·have h1 : (bindL p old now delta).length ≤ (addsT [] (foundL p old now delta)).length := by
   classical exact zu3 (TLt_nodup (zn2 _).1) (fun x hx => ((zn2 _).2 x).1 hx)
  simp at f2; omega
 ·intro t ht
  have h1 := ((zn2 _).2 t).1 ht
  have h2 := (f3 t).1 h1
  simp at h2
  have := goL_ok (ha.row p) p.steps 0 (zeros p.vars.length) (zeros_ok hn) t h2
  exact ⟨this.1, by rw [this.2]; simp [zeros]⟩
theorem run_run (k : Nat) (p : Plan) (old now : List RelOf) (delta : List Tup) (vp vo vn vd : AV) (hp : Is vp p) (ho : Is vo old) (hnw : Is vn now) (hd : Is vd delta) (hs : p.steps.length ≤ 2 ^ 20) (hv : PlanVals p) (hhv : ∀ c ∈ p.head, ValOk c.v) (ha : ArgsOk old now delta) (hfew : OkPlan p → (foundL p old now delta).length ≤ 2 ^ 30) :
 NPURE (callW tblN) (NW tblN (k + 6)) a_exec_Run [vp, vo, vn, vd] (fun r => (OkPlan p → r = .tuple [relC (runL p old now delta), i64 0]) ∧ (¬ OkPlan p → r = .tuple [.nilsl, i64 180])) := by
 have hb := bindings_call k p old now delta vp vo vn vd hp ho hnw hd hs hv ha hfew []
 obtain ⟨a, b, c, hA, hB, hC, rfl⟩ := hp
 have ca := zm hA
 have cb := zm hB
 have cc := zm hC
 refine npureB a_exec_Run rfl (fun F hF => ?_)
 simp [a_exec_Run, c_exec_Run, AV.rowok, ca, cb, cc]
 refine NCALLK_ex hb ?_
 rintro r H' ⟨rfl, rfl⟩
 unfold bindA
 by_cases hok : OkPlan p
 ·rw [if_pos hok]
  obtain ⟨hbl, hbt⟩ := bindL_facts p old now delta ha (by have := hok.vars; omega) (hfew hok)
  have hhf := okHead hok
  have hrl : runL p old now delta = cntsOf ((bindL p old now delta).map (headT p)) := rfl
  rw [hrl] at hF
  generalize bindL p old now delta = D at *
  simp
  rw [NOPSK_det (op := AOp.makeMap) rfl]
  simp [IsL.len (relA_is D)]
  refine NEX_det ?_
  refine run_rows (p := p) (D := D) (fl := false) (a := a) (b := b) hC hhf.len (fun x hx cc hcc => by rw [(hbt x hx).2]; exact hhf.col cc hcc) (fun x hx => headT_ok hhf hhv (hbt x hx).1 (hbt x hx).2) hbl _ ⟨rfl, by simp, by simp, by simp, fun B hB => by simp at hB; subst hB; rfl⟩ (by simp) (by simp) (by simp) (by simp) (by simp) rfl (fun s' C hR hCo q f12 => ?_)
  have hsub : ∀ x ∈ C, x.t ∈ D.map (headT p) := fun x hx => (hCo.mem _).1 (List.mem_map.2 ⟨x, hx, rfl⟩)
  have hCl : C.length ≤ 2 ^ 30 := by
   have h1 : (C.map (·.t)).length ≤ (D.map (headT p)).length := by
    classical exact zu3 hCo.nod (fun t ht => by obtain ⟨x, hx, rfl⟩ := List.mem_map.1 ht; exact hsub x hx)
   simp at h1; omega
  have htl : ∀ x ∈ C, x.t.length ≤ 2 ^ 30 := fun x hx => by
   obtain ⟨y, hy, hyx⟩ := List.mem_map.1 (hsub x hx)
   have := (headT_ok hhf hhv (hbt y hy).1 (hbt y hy).2).len
   rw [← hyx]; omega
  rw [KONT_nil, NKON_blockE, if_pos rfl, NKON_seqN]
  refine run_tail (k + 6) s' F hR hCo hCl htl q f12 (fun v H' hre => ?_)
  exact hF _ _ _ hre ⟨fun _ => rfl, fun h => absurd hok h⟩
 ·rw [if_neg hok]
  simp
  exact hF _ _ _ (z7 rfl) ⟨fun h => absurd h hok, fun _ => rfl⟩
end Go.Abs.Plan
namespace Go.Abs.Plan
open Enc (Is)
def refRows (p : Plan) (old now : List RelOf) (delta : List Tup) (i : Nat) (x : Tup) : List Tup := (relT (p.steps.getD i default) old now delta).filter fun t => decide (t.length = (p.steps.getD i default).cols.length)
def allT (p : Plan) (old now : List RelOf) (delta : List Tup) : List Tup := goL (refRows p old now delta) 0 p.steps (zeros p.vars.length)
theorem okCol_bind {n B B' : Nat} {w sk : Bool} {c : Col} (h : okCol n B w sk c = some B') : B' = bindC B c := by
 unfold okCol at h
 unfold bindC
 split at h
 ·rename_i h1; rw [if_neg (by omega)]; split at h <;> simp at h; exact h.symm
 ·split at h
  ·rename_i h1; rw [if_neg (by omega)]; split at h <;> simp at h; exact h.symm
  ·split at h
   ·rename_i h1; rw [if_pos h1]; split at h <;> simp at h; exact h.symm
   ·rename_i h3; rw [if_neg h3]
    split at h
    ·split at h <;> simp at h; exact h.symm
    ·simp at h
theorem okCols_bind {n : Nat} {w sk : Bool} : ∀ {cs : List Col} {B B' : Nat}, zs2 n w sk B cs = some B' → B' = bindB B cs
 | [], B, B', h => by simp [zs2] at h; exact h.symm
 | c :: cs, B, B', h => by
   simp only [zs2] at h
   split at h
   ·rename_i B1 h1
    rw [okCols_bind h, okCol_bind h1]; rfl
   ·simp at h
theorem okCol_same2 {n B B' : Nat} {c : Col} (h : okCol n B false false c = some B') : B' = B := by
 have := okCol_bind h
 rw [this]
 unfold bindC
 rw [if_neg]
 intro h3
 unfold okCol at h
 rw [if_neg (by omega), if_neg (by omega), if_pos h3] at h
 simp at h
theorem okStep_bind {n B B' : Nat} {f : Bool} {s : Step} (h : okStep n B f s = some B') : B' = bindB B s.cols := by
 unfold okStep at h
 split at h
 ·split at h
  ·rename_i hc
   split at h
   ·rename_i B1 h1
    rw [okCol_same2 h, okCol_same2 h1, hc.2.1]; rfl
   ·simp at h
  ·simp at h
 ·split at h
  ·exact okCols_bind h
  ·simp at h
theorem okSteps_step {n : Nat} {ss : List Step} {f : Bool} {B B' : Nat} (h : z43 n f B ss = some B') (i : Nat) (hi : i < ss.length) : ∃ f1 B2, okStep n ((ss.take i).foldl (fun B s => bindB B s.cols) B) f1 ss[i] = some B2 := by
 induction ss generalizing f B i with
 | nil => simp at hi
 | cons s ss ih =>
   simp only [z43] at h
   split at h
   ·rename_i B1 h1
    cases i with
    | zero => exact ⟨f, B1, h1⟩
    | succ i =>
      have := ih h i (by simpa using hi)
      rw [okStep_bind h1] at this
      simpa using this
   ·simp at h
theorem agree_known {n : Nat} {w sk : Bool} (B0 : Nat) (x0 : Tup) : ∀ (cs : List Col) (t x x' : Tup) (B B' : Nat), zs2 n w sk B cs = some B' → (∀ v, B0.testBit v = true → B.testBit v = true) → (∀ v, B0.testBit v = true → x.getD v zw = x0.getD v zw) →
 zk1 cs t x = some x' → ∀ (j : Nat) (c : Col) (y : Val), cs[j]? = some c → t[j]? = some y → knownAt B0 c = true → zx2 c x0 = y
 | [], t, x, x', B, B', _, _, _, _, j, c, y, hc, _, _ => by simp at hc
 | c0 :: cs, [], x, x', B, B', _, _, _, _, j, c, y, _, hy, _ => by simp at hy
 | c0 :: cs, y0 :: ys, x, x', B, B', hok, hsub, hx, hag, j, c, y, hc, hy, hk => by
   simp only [zs2] at hok
   split at hok
   ·rename_i B1 h1
    simp only [zk1] at hag
    split at hag
    ·rename_i x1 hx1
     have hb1 := okCol_bind h1
     have hsub1 : ∀ v, B0.testBit v = true → B1.testBit v = true := fun v hv => by
      rw [hb1]; unfold bindC
      split
      ·rw [Nat.testBit_or, hsub v hv]; rfl
      ·exact hsub v hv
     have hkeep : ∀ v, B0.testBit v = true → x1.getD v zw = x0.getD v zw := fun v hv => by
      unfold agreeC at hx1
      split at hx1
      ·rename_i h3
       simp at hx1; subst hx1
       have hnb : B.testBit c0.var.toNat = false := by
        unfold okCol at h1
        rw [if_neg (by omega), if_neg (by omega), if_pos h3] at h1
        split at h1
        ·rename_i hcond; exact hcond.2.2.2.2
        ·simp at h1
       have hne : c0.var.toNat ≠ v := by
        intro e
        rw [e, hsub v hv] at hnb; cases hnb
       rw [List.getD_eq_getElem?_getD, List.getElem?_set_ne hne, ← List.getD_eq_getElem?_getD]
       exact hx v hv
      ·split at hx1
       ·simp at hx1; subst hx1; exact hx v hv
       ·split at hx1
        ·simp at hx1; subst hx1; exact hx v hv
        ·simp at hx1
     cases j with
     | zero =>
       simp only [List.getElem?_cons_zero, Option.some.injEq] at hc hy
       subst hc; subst hy
       have hk' := hk
       simp only [knownAt, Bool.or_eq_true, decide_eq_true_eq, Bool.and_eq_true] at hk
       have h3 : ¬ c0.use = 3 := by rcases hk with h | ⟨h, _⟩ <;> omega
       have h2 : ¬ c0.use = 2 := by rcases hk with h | ⟨h, _⟩ <;> omega
       unfold agreeC at hx1
       rw [if_neg h3, if_neg h2] at hx1
       split at hx1
       ·rename_i he
        rw [← he]
        unfold zx2
        split
        ·rfl
        ·rename_i h1'
         rcases hk with h | ⟨_, h⟩
         ·exact absurd h h1'
         ·exact (hx _ h).symm
       ·simp at hx1
     | succ j =>
       exact agree_known B0 x0 cs ys x1 x' B1 B' hok hsub1 hkeep hag j c y (by simpa using hc) (by simpa using hy) hk
    ·simp at hag
   ·simp at hok
theorem any_filter {α : Type} (p f : α → Bool) : ∀ l : List α, (∀ t ∈ l, f t = true → p t = true) → (l.filter p).any f = l.any f
 | [], _ => rfl
 | a :: l, h => by
   have ih := any_filter p f l (fun t ht => h t (by simp [ht]))
   by_cases hp : p a = true
   ·simp [hp, ih]
   ·have : f a = false := by
     cases hf : f a with
     | false => rfl
     | true => exact absurd (h a (by simp) hf) hp
    simp [hp, this, ih]
theorem flatMap_filter' {α β : Type} (p : α → Bool) (f : α → List β) : ∀ l : List α, (∀ t ∈ l, f t ≠ [] → p t = true) → (l.filter p).flatMap f = l.flatMap f
 | [], _ => rfl
 | a :: l, h => by
   have ih := flatMap_filter' p f l (fun t ht => h t (by simp [ht]))
   by_cases hp : p a = true
   ·simp [hp, ih]
   ·have : f a = [] := by
     by_cases hf : f a = []
     ·exact hf
     ·exact absurd (h a (by simp) hf) hp
    simp [hp, this, ih]
theorem flatMap_congr' {α β : Type} {f g : α → List β} : ∀ {l : List α}, (∀ k ∈ l, f k = g k) → l.flatMap f = l.flatMap g
 | [], _ => rfl
 | a :: l, h => by simp only [List.flatMap_cons]; rw [h a (by simp), flatMap_congr' (fun k hk => h k (by simp [hk]))]
theorem found_eq {p : Plan} (hok : OkPlan p) (old now : List RelOf) (delta : List Tup) : foundL p old now delta = allT p old now delta := by
 obtain ⟨B, B', hB1, _⟩ := hok.ok
 suffices ∀ (ss : List Step) (i : Nat) (x : Tup), p.steps.drop i = ss → goL (zc1 p old now delta) i ss x = goL (refRows p old now delta) i ss x from this _ 0 _ rfl
 intro ss
 induction ss with
 | nil => intro i x _; rfl
 | cons s ss ih =>
   intro i x hd
   have hlt : i < p.steps.length := by have := congrArg List.length hd; simp at this; omega
   rw [List.drop_eq_getElem_cons hlt] at hd
   simp only [List.cons.injEq] at hd
   obtain ⟨hs, hd⟩ := hd
   have ih1 : goL (zc1 p old now delta) (i + 1) ss = goL (refRows p old now delta) (i + 1) ss := funext fun x => ih (i + 1) x hd
   have hgD : p.steps.getD i default = s := by rw [List.getD_eq_getElem?_getD, List.getElem?_eq_getElem hlt, hs]; rfl
   unfold goL
   simp only [ih1]
   by_cases h3 : s.op = 3
   ·rw [if_pos h3, if_pos h3]
   ·rw [if_neg h3, if_neg h3]
    obtain ⟨f1, B2, hst⟩ := okSteps_step hB1 i hlt
    rw [hs] at hst
    unfold okStep at hst
    rw [if_neg h3] at hst
    split at hst
    ·have hpr : zc1 p old now delta i x = (refRows p old now delta i x).filter fun t => decide (soughtS (ksAt p i) t = keyS2 (ksAt p i) s.cols x) := by
      rw [zc1, expT, hgD, grpT, if_neg h3, refRows, hgD, List.filter_filter]
      congr 1
      funext t
      rw [Bool.and_comm]
     have hkey : ∀ t ∈ refRows p old now delta i x, ∀ x', zk1 s.cols t x = some x' → soughtS (ksAt p i) t = keyS2 (ksAt p i) s.cols x := by
      intro t ht x' hag
      rw [refRows, hgD, List.mem_filter] at ht
      have htl : t.length = s.cols.length := by simpa using ht.2
      have hk := agree_known (boundAt (p.steps.take i)) x s.cols t x x' _ _ hst (fun v h => h) (fun v _ => rfl) hag
      have : soughtB (ksAt p i) t = keyB2 (ksAt p i) s.cols x := by
       unfold soughtB keyB2
       have hall : ∀ k ∈ ksAt p i, valB (t.getD k.toNat zw) = valB (zx2 (s.cols.getD k.toNat zm2) x) := by
        intro k hkm
        rw [ksAt, hgD] at hkm
        obtain ⟨cc, e1, e2, e3⟩ := knownCols_at hkm
        rw [Nat.sub_zero] at e1
        have e4 := (List.getElem?_eq_some_iff.1 e1).1
        have e5 : t[k.toNat]? = some (t[k.toNat]'(by omega)) := by simp [show k.toNat < t.length by omega]
        have := hk k.toNat cc _ e1 e5 e2
        rw [List.getD_eq_getElem?_getD, e5, List.getD_eq_getElem?_getD, e1]
        simp only [Option.getD_some]
        rw [this]
       exact flatMap_congr' hall
      unfold soughtS keyS2
      rw [this]
     by_cases h2 : s.op = 2
     ·rw [if_pos h2, if_pos h2, hpr, any_filter]
      intro t ht hf
      obtain ⟨x', hx'⟩ := Option.isSome_iff_exists.1 hf
      simpa using hkey t ht x' hx'
     ·rw [if_neg h2, if_neg h2, hpr, flatMap_filter']
      intro t ht hf
      cases hag : zk1 s.cols t x with
      | none => rw [hag] at hf; simp at hf
      | some x' => simpa using hkey t ht x' hag
    ·simp at hst
end Go.Abs.Plan
namespace Go.Abs.Plan
open Enc (Is)
theorem ref01_run (a b : Val) : ∃ r, zu (callW tbl) loopW zn1 [a.enc, b.enc] = some r ∧ r = i64 (vcmp a b) := by
 have hra : AV.rowok 3 a.enc = true := rfl
 have hrb : AV.rowok 3 b.enc = true := rfl
 have hab := eqlVal a b
 have hs : ∀ e, binA .lss e (.str a.s) (.str b.s) = some (.bool (decide (a.s.toList < b.s.toList))) := fun e => binS_lss
 refine pureK zn1 rfl (fun F hF => ?_)
 by_cases h : a = b
 ·have hv : vcmp a b = 0 := by rw [h]; exact vcmp_self b
  simp only [h, decide_true] at hab
  simp [zn1, zr2, hra, hrb, AV.rowok, h, hab]
  exact hF _ _ _ (z7 rfl) (by rw [hv])
 ·have hab' : binA .eql (.cells [.int, .int, .str]) a.enc b.enc = some (.bool false) := by rw [hab]; simp [h]
  by_cases hk : a.kind < b.kind
  ·have hv : vcmp a b = -1 := by simp [vcmp, cmpI, hk]
   simp [zn1, zr2, AV.rowok, hab', hk]
   exact hF _ _ _ (z7 rfl) (by rw [hv])
  ·by_cases hke : a.kind = b.kind
   ·by_cases hn : a.n < b.n
    ·have hv : vcmp a b = -1 := by simp [vcmp, cmpI, hke, hn]
     have hnn : ¬ a.n = b.n := by omega
     simp [zn1, zr2, AV.rowok, hab', hk, hke, hn, hnn]
     exact hF _ _ _ (z7 rfl) (by rw [hv])
    ·by_cases hne : a.n = b.n
     ·have hse : ¬ a.s = b.s := fun e => h (by obtain ⟨a1, a2, a3⟩ := a; obtain ⟨b1, b2, b3⟩ := b; simp at hke hne e; subst hke; subst hne; subst e; rfl)
      by_cases hl : a.s.toList < b.s.toList
      ·have hv : vcmp a b = -1 := by simp [vcmp, cmpI, cmpS, hke, hne, hl]
       simp [zn1, zr2, AV.rowok, hab', hk, hke, hn, hne, hs, hl, hse]
       exact hF _ _ _ (z7 rfl) (by rw [hv])
      ·have hv : vcmp a b = 1 := by
        have h0 : vcmp a b ≠ 0 := fun e => h ((vcmp_lin.eq a b).1 e)
        have h1 : vcmp a b = cmpS a.s b.s := by simp [vcmp, cmpI, hke, hne]
        rw [h1] at h0 ⊢
        unfold cmpS at h0 ⊢
        rw [if_neg hl] at h0 ⊢
        split
        ·rfl
        ·rename_i h2; rw [if_neg h2] at h0; exact absurd rfl h0
       simp [zn1, zr2, AV.rowok, hab', hk, hke, hn, hne, hs, hl, hse]
       exact hF _ _ _ (z7 rfl) (by rw [hv])
     ·have hv : vcmp a b = 1 := by
       have : b.n < a.n := by omega
       simp [vcmp, cmpI, hke, hn, this]
      simp [zn1, zr2, AV.rowok, hab', hk, hke, hn, hne]
      exact hF _ _ _ (z7 rfl) (by rw [hv])
   ·have hv : vcmp a b = 1 := by
     have : b.kind < a.kind := by omega
     simp [vcmp, cmpI, hk, this]
    simp [zn1, zr2, AV.rowok, hab', hk, hke]
    exact hF _ _ _ (z7 rfl) (by rw [hv])
theorem ref01_call (a b : Val) (H : Heap) : callW tbl (.func f_ref01_Compare [] []) [a.enc, b.enc] H = some (i64 (vcmp a b), H) := by
 obtain ⟨r, h, rfl⟩ := ref01_run a b
 exact callP_closed rfl rfl rfl rfl h H
theorem ref02_run (t u : Tup) (v w : AV) (hv : Is v t) (hw : Is w u) (ht : t.length < 2 ^ 40) (hu : u.length < 2 ^ 40) : ∃ r, zu (callW tbl) loopW z44 [v, w] = some r ∧ r = i64 (tcmp t u) := by
 have hlv := IsL.len hv
 have hlw := IsL.len hw
 refine pureK z44 rfl (fun F hF => ?_)
 simp [z44, c_ref02_Compare]
 refine zf (fun k s => ∃ j : Nat, j + k = t.length ∧ j ≤ u.length ∧ tcmp t u = tcmp (t.drop j) (u.drop j) ∧ s.dfr = [] ∧ s.tm.get 0 = v ∧ s.tm.get 1 = w ∧ s.tm.get 5 = i64 j) t.length
  ⟨0, by omega, by omega, rfl, by simp, by simp, by simp, by simp⟩ ?_
 rintro k s Q ⟨j, h0, hju, hz, q2, f0, f1, f5⟩ hgo hx
 have hwj : IntKind.i64.wrap ((j : Int) + 1) = ((j + 1 : Nat) : Int) := zi1 (by omega) (by omega)
 by_cases hj : j < t.length
 ·have hji : (j : Int) < (t.length : Int) := by omega
  obtain ⟨fl, r, rfl, hidx⟩ := IsL.idx hv (List.getElem?_eq_getElem hj)
  simp only [show Enc.sz Val = 3 from rfl] at hidx
  have hdt : t.drop j = t[j] :: t.drop (j + 1) := List.drop_eq_getElem_cons hj
  by_cases hj2 : j < u.length
  ·have hni : (j : Int) < (u.length : Int) := by omega
   obtain ⟨fl2, r2, rfl, hidx2⟩ := IsL.idx hw (List.getElem?_eq_getElem hj2)
   simp only [show Enc.sz Val = 3 from rfl] at hidx2
   have hdu : u.drop j = u[j] :: u.drop (j + 1) := List.drop_eq_getElem_cons hj2
   have hcall := fun H => ref01_call t[j] u[j] H
   by_cases hk : vcmp t[j] u[j] = 0
   ·simp [zu2, f0, f1, f5, hlv, hlw, hji, hni, hidx, hidx2, AV.rowok, hcall, hk]
    refine hgo _ (k - 1) (by omega) ⟨j + 1, by omega, by omega, ?_, by simp [q2], by simp [f0], by simp [f1], by simp [hwj]⟩
    rw [hz, hdt, hdu]; simp [tcmp, hk]
   ·simp [zu2, f0, f1, f5, hlv, hlw, hji, hni, hidx, hidx2, AV.rowok, hcall, hk]
    refine hx _ _ (by simp) ?_
    simp [q2]
    have e : tcmp t u = vcmp t[j] u[j] := by rw [hz, hdt, hdu]; simp [tcmp, hk]
    rw [e] at hF
    exact hF _ _ _ (z7 rfl) rfl
  ·have hni : ¬ (j : Int) < (u.length : Int) := by omega
   have hlt : ¬ (t.length : Int) < (u.length : Int) := by omega
   have hgt : (u.length : Int) < (t.length : Int) := by omega
   simp [zu2, f0, f1, f5, hlv, hlw, hji, hni]
   refine hx _ _ (by simp) ?_
   simp [f0, f1, hlv, hlw, hlt, hgt, q2]
   have hdu : u.drop j = [] := List.drop_eq_nil_of_le (by omega)
   have e : tcmp t u = 1 := by rw [hz, hdt, hdu]; rfl
   rw [e] at hF
   exact hF _ _ _ (z7 rfl) rfl
 ·have hji : ¬ (j : Int) < (t.length : Int) := by omega
  have hdt : t.drop j = [] := List.drop_eq_nil_of_le (by omega)
  by_cases hlt : t.length < u.length
  ·have hlti : (t.length : Int) < (u.length : Int) := by omega
   simp [zu2, f0, f1, f5, hlv, hlw, hji]
   refine hx _ _ (by simp) ?_
   simp [q2, f0, f1, hlv, hlw, hlti]
   have hj2 : j < u.length := by omega
   have e : tcmp t u = -1 := by rw [hz, hdt, List.drop_eq_getElem_cons hj2]; rfl
   rw [e] at hF
   exact hF _ _ _ (z7 rfl) rfl
  ·have hlti : ¬ (t.length : Int) < (u.length : Int) := by omega
   have hgti : ¬ (u.length : Int) < (t.length : Int) := by omega
   simp [zu2, f0, f1, f5, hlv, hlw, hji]
   refine hx _ _ (by simp) ?_
   simp [q2, f0, f1, hlv, hlw, hlti, hgti]
   have hdu : u.drop j = [] := List.drop_eq_nil_of_le (by omega)
   have e : tcmp t u = 0 := by rw [hz, hdt, hdu]; rfl
   rw [e] at hF
   exact hF _ _ _ (z7 rfl) rfl
theorem callP2 {α β : Type} [Enc α] [Enc β] {tbl : FuncId → Option AFun} {f : FuncId} {af : AFunc} (ht : tbl f = some (.code af)) (hp : af.pure = true) {S : AV → Prop} (x : α) (y : β) (hS : ∀ r, S r → S r.lend)
 (hrun : ∀ v w : AV, Is v x → Is w y → ∃ r, zu (callW tbl) loopW af [v, w] = some r ∧ S r) (v w : AV) (hv : Is v x) (hw : Is w y) (H : Heap) : ∃ r, callW tbl (.func f [] []) [v, w] H = some (r, H) ∧ S r :=
 callP_of ht hp (R := fun a => ∃ v w, a = [v, w] ∧ Is v x ∧ Is w y) (S := S) (by rintro _ ⟨v, w, rfl, h1, h2⟩; simp [AV.plains, Enc.plain h1, Enc.plain h2]) (by rintro _ ⟨v, w, rfl, h1, h2⟩; exact ⟨v.lend, w.lend, rfl, Enc.lend h1, Enc.lend h2⟩) hS
  (by rintro _ ⟨v, w, rfl, h1, h2⟩; exact hrun v w h1 h2) _ H ⟨v, w, rfl, hv, hw⟩
theorem ref02_call (t u : Tup) (v w : AV) (hv : Is v t) (hw : Is w u) (ht : t.length < 2 ^ 40) (hu : u.length < 2 ^ 40) (H : Heap) : callW tbl (.func zf3 [] []) [v, w] H = some (i64 (tcmp t u), H) := by
 obtain ⟨r, h, rfl⟩ := callP2 (tbl := tbl) (f := zf3) (af := z44) rfl rfl (S := fun r => r = i64 (tcmp t u)) t u (by rintro r rfl; rfl) (fun v w hv hw => ref02_run t u v w hv hw ht hu) v w hv hw H
 exact h
theorem same_call2 (t u : Tup) (v w : AV) (hv : Is v t) (hw : Is w u) (ht : t.length < 2 ^ 40) (hu : u.length < 2 ^ 40) (H : Heap) : callW tbl (.func f_ref02_Same [] []) [v, w] H = some (.bool (decide (t = u)), H) := by
 obtain ⟨r, h, rfl⟩ := callP2 (tbl := tbl) (f := f_ref02_Same) (af := a_ref02_Same) rfl rfl (S := fun r => r = .bool (decide (t = u))) t u (by rintro r rfl; rfl) (fun v w hv hw => by
  have hc := fun H => ref02_call t u v w hv hw ht hu H
  refine pureK a_ref02_Same rfl (fun F hF => ?_)
  by_cases h : t = u
  ·have h0 := (tcmp_eq t u).2 h
   simp [a_ref02_Same, c_ref02_Same, hc, h0]
   exact hF _ _ _ (z7 rfl) (by simp [h])
  ·have h0 : ¬ tcmp t u = 0 := fun e => h ((tcmp_eq t u).1 e)
   have h1 : (tcmp t u == 0) = false := by simpa using h0
   simp [a_ref02_Same, c_ref02_Same, hc, h1]
   exact hF _ _ _ (z7 rfl) (by simp [h])) v w hv hw H
 exact h
theorem sameRel_call (a b : List Tup) (v w : AV) (hv : Is v a) (hw : Is w b) (ha : a.length ≤ 2 ^ 30) (hta : ∀ t ∈ a, t.length ≤ 2 ^ 30) (htb : ∀ t ∈ b, t.length ≤ 2 ^ 30) (hb : b.length ≤ 2 ^ 30) (H : Heap) : callW tbl (.func f_ref02_SameRel [] []) [v, w] H = some (.bool (decide (a = b)), H) := by
 obtain ⟨r, h, rfl⟩ := callP2 (tbl := tbl) (f := f_ref02_SameRel) (af := z54) rfl rfl (S := fun r => r = .bool (decide (a = b))) a b (by rintro r rfl; rfl) (fun v w hv hw => by
  have hlv := IsL.len hv
  have hlw := IsL.len hw
  refine pureK z54 rfl (fun F hF => ?_)
  by_cases hl : a.length = b.length
  ·have hli : (a.length : Int) = (b.length : Int) := by omega
   simp [z54, c_ref02_SameRel, hlv, hlw, hli]
   refine zf (fun k s => ∃ j : Nat, j + k = a.length ∧ a.take j = b.take j ∧ s.dfr = [] ∧ s.tm.get 0 = v ∧ s.tm.get 1 = w ∧ s.tm.get 5 = i64 j) a.length
    ⟨0, by omega, by simp, by simp, by simp, by simp, by simp⟩ ?_
   rintro k s Q ⟨j, h0, htk, q2, f0, f1, f5⟩ hgo hx
   have hwj : IntKind.i64.wrap ((j : Int) + 1) = ((j + 1 : Nat) : Int) := zi1 (by omega) (by omega)
   by_cases hj : j < a.length
   ·have hji : (j : Int) < (a.length : Int) := by omega
    have hj2 : j < b.length := by omega
    have hga := List.getElem?_eq_getElem hj
    have hgb := List.getElem?_eq_getElem hj2
    obtain ⟨fl, r, hr, hidx⟩ := IsL.idx hv hga
    obtain ⟨fl2, r2, hr2, hidx2⟩ := IsL.idx hw hgb
    simp only [show Enc.sz Tup = 1 from rfl] at hidx hidx2
    have hc1 := zm hr
    have hc2 := zm hr2
    have hsame := fun H => same_call2 a[j] b[j] r r2 hr hr2 (by have := hta _ (List.getElem_mem hj); omega) (by have := htb _ (List.getElem_mem hj2); omega) H
    by_cases he : a[j] = b[j]
    ·simp [c_ref02_SameRel_l0, f0, f1, f5, hlv, hlw, ← hli, hji, hidx, hidx2, hc1, hc2, AV.rowok, hsame, he]
     refine hgo _ (k - 1) (by omega) ⟨j + 1, by omega, ?_, by simp [q2], by simp [f0], by simp [f1], by simp [hwj]⟩
     rw [List.take_add_one, List.take_add_one, htk, hga, hgb, he]
    ·have hne : ¬ a = b := fun e => he (by subst e; rfl)
     simp [c_ref02_SameRel_l0, f0, f1, f5, hlv, hlw, ← hli, hji, hidx, hidx2, hc1, hc2, AV.rowok, hsame, he]
     refine hx _ _ (by simp) ?_
     simp [q2]
     exact hF _ _ _ (z7 rfl) (by simp [hne])
   ·have hji : ¬ (j : Int) < (a.length : Int) := by omega
    have hjl : j = a.length := by omega
    have he : a = b := by
     rw [hjl, List.take_length] at htk
     rw [htk, hl, List.take_length]
    simp [c_ref02_SameRel_l0, f0, f1, f5, hlv, hlw, hji]
    refine hx _ _ (by simp) ?_
    simp [q2]
    exact hF _ _ _ (z7 rfl) (by simp [he])
  ·have hli : ¬ (a.length : Int) = (b.length : Int) := by omega
   have hne : ¬ a = b := fun e => hl (by rw [e])
   simp [z54, c_ref02_SameRel, hlv, hlw, hli]
   exact hF _ _ _ (z7 rfl) (by simp [hne])) v w hv hw H
 exact h
end Go.Abs.Plan
namespace Go.Abs.Plan
open Enc (Is)
theorem bound_at {len a : Nat} (d : Nat) (h : a ≤ len) : Go.Abs.bound d len (some (.int .i64 (a : Int))) = some a := by
 have : (0 : Int) ≤ (a : Int) ∧ (a : Int) ≤ (len : Int) := by omega
 simp only [Go.Abs.bound, this]
 simp
theorem appendTo_0s {sz bytes id gen off len : Nat} {ids : List Nat} {src : List Blk → Option (List AV)} : appendTo sz bytes (.sl id gen off len) 0 ids src = .val (.sl id gen off len) := rfl
def k_sins : ACode := (.draw [uu 46 (.buildSlice .nilsl 0 []), uu 47 (.move (tt 3)), uu 48 (.move (tt 5)), uu 49 (.slice 1 (tt 47) none (some (tt 48))), uu 50 (.append 1 24 (tt 46) (tt 49)), uu 51 (.move (tt 0)), uu 52 (.move (tt 4)), uu 53 (.indexAddr 1 (tt 51) (tt 52)), uu 54 (.load false 1 (tt 53)), uu 55 (.buildSlice .nilsl 1 [(0, (tt 54))]), uu 56 (.append 1 24 (tt 50) (tt 55)), uu 57 (.move (tt 3)), uu 58 (.move (tt 5)), uu 59 (.slice 1 (tt 57) (some (tt 58)) none), uu 60 (.append 1 24 (tt 56) (tt 59)), kk 3 (.move (tt 60))] [(0, 3), (0, 7), (4, 7), (0, 8), (4, 8), (0, 9), (3, 9), (4, 9), (0, 13), (4, 13), (9, 13), (10, 13)])
theorem sorted_ins {R : AExit → St → Prop} {ks : List KF} (rows : List AV) (r : AV) (k i : Nat) (hk : k ≤ rows.length) (w v : AV) (s : St) {lo : Nat} (hlo : lo ≤ s.heap.length) (hw : SlAt lo 1 s.heap w rows) (hrow : ∀ x ∈ rows, x.rowok 1 = true) (hr : r.isCell = true ∧ r.cells = [r]) (hlen : rows.length ≤ 2 ^ 20)
 (f0 : s.tm.get 0 = v) (f3 : s.tm.get 3 = w) (f4 : s.tm.get 4 = i64 i) (f5 : s.tm.get 5 = i64 k) {fl : Bool} (hidx : idxA 1 v (.int .i64 (i : Int)) = .val (.fptr fl [r] 0))
 (hgo : ∀ T v', SlAt lo 1 (s.heap ++ T) v' (rows.take k ++ r :: rows.drop k) → KONT (callW tbl) loopW ks .normal { s with tm := s.tm.put 3 v', heap := s.heap ++ T } R) : EXEC (callW tbl) loopW k_sins ks s R := by
 unfold k_sins
 rcases hw with ⟨rfl, rfl⟩ | ⟨id, g, _, rfl, hB⟩
 ·have hk0 : k = 0 := by simpa using hk
  subst hk0
  have s1 : sliceA 1 none (some (.int .i64 0)) .nilsl = some .nilsl := rfl
  have s2 : sliceA 1 (some (.int .i64 0)) none .nilsl = some .nilsl := rfl
  have f5' : s.tm.get 5 = .int .i64 0 := f5
  simp [f0, f3, f4, f5', hidx, s1, s2, zr, AV.rowok, hr, ze1, appendTo_0s, z81, z63, room]
  refine ⟨by omega, hgo _ (.sl s.heap.length 2 0 1) (.inr ⟨s.heap.length, 2, hlo, by simp, by simp⟩)⟩
 ·have kb := zf1 hB
  have nb := lt_of hB
  have b1 := bound_at (len := rows.length) (a := k) rows.length hk
  have b2 := bound_at (len := rows.length) (a := k) 0 hk
  have b3 : Go.Abs.bound 0 k none = some 0 := rfl
  have b4 : Go.Abs.bound rows.length rows.length none = some rows.length := rfl
  obtain ⟨A, hA⟩ : ∃ A, A = rows.take k := ⟨_, rfl⟩
  obtain ⟨D, hD⟩ : ∃ D, D = rows.drop k := ⟨_, rfl⟩
  have hAl : A.length = k := by rw [hA]; simp [hk]
  have hDl : D.length = rows.length - k := by rw [hD]; simp
  have hs1 : z63 g 0 k (.arr g 1 rows) = some A := by simp [z63, hk, hA]
  have hs2 : z63 g k (rows.length - k) (.arr g 1 rows) = some D := by
   have : k + (rows.length - k) ≤ rows.length := by omega
   simp [z63, this, hD]
   exact List.take_of_length_le (by simp)
  have hs3 : z63 1 0 1 (.arr 1 1 [r]) = some [r] := rfl
  have hro : AV.rowok 1 r = true := by simp [AV.rowok, hr]
  have hroA : (∀ x : AV, x ∈ A → AV.rowok 1 x = true) = True := eq_true fun x hx => hrow x (List.mem_of_mem_take (by rw [hA] at hx; exact hx))
  have hroD : (∀ x : AV, x ∈ D → AV.rowok 1 x = true) = True := eq_true fun x hx => hrow x (List.mem_of_mem_drop (by rw [hD] at hx; exact hx))
  have hne1 : ¬ id = s.heap.length := by omega
  have hne2 : ¬ s.heap.length = id := by omega
  rw [← hA, ← hD] at hgo
  have hlen2 : rows.length = A.length + D.length := by omega
  have r1 : k * 24 ≤ 140737488355328 := by omega
  have r2 : (k + 1) * 24 ≤ 140737488355328 := by omega
  have r3 : (k + 1 + (rows.length - k)) * 24 ≤ 140737488355328 := by omega
  have hgo2 : ∀ T v', (∃ g, v' = .sl s.heap.length g 0 (A.length + 1 + D.length) ∧ (s.heap ++ T)[s.heap.length]? = some (.arr g 1 (A ++ r :: D))) → KONT (callW tbl) loopW ks .normal { s with tm := s.tm.put 3 v', heap := s.heap ++ T } R := by
   rintro T v' ⟨g, rfl, h⟩
   exact hgo T _ (.inr ⟨s.heap.length, g, hlo, by simp; omega, h⟩)
  have htA : List.take k A = A := List.take_of_length_le (by omega)
  have htA1 : List.take (k + 1) (A ++ [r]) = A ++ [r] := List.take_of_length_le (by simp; omega)
  have n1 : k ≤ A.length := by omega
  have n2 : ¬ (k + 1 ≤ A.length) := by omega
  have n3 : (1 + rows.length) * 24 ≤ 140737488355328 := by omega
  have n6 : k + 1 ≤ A.length + 1 := by omega
  have ne3 : ¬ s.heap.length + 1 + 1 = id := by omega
  have ne4 : ¬ s.heap.length + 1 + 1 = s.heap.length := by omega
  have ne5 : ¬ id = s.heap.length + 1 + 1 := by omega
  by_cases hk0 : k = 0
  ·subst hk0
   have hAn : A = [] := List.length_eq_zero_iff.1 hAl
   subst hAn
   have f5' : s.tm.get 5 = .int .i64 0 := f5
   have b1' : Go.Abs.bound rows.length rows.length (some (.int .i64 0)) = some 0 := b1
   have b2' : Go.Abs.bound 0 rows.length (some (.int .i64 0)) = some 0 := b2
   simp only [Nat.sub_zero] at hs2 r3 hDl
   by_cases hd0 : rows.length = 0
   ·have hDn : D = [] := List.length_eq_zero_iff.1 (by omega)
    subst hDn
    have hrn : rows = [] := List.length_eq_zero_iff.1 hd0
    subst hrn
    simp at b1' b2' b4 hs1
    simp [f0, f3, f4, f5', hidx, b1', b2', b3, b4, kb, nb, zr, hr, hro, ze1, appendTo_0s, z81, hs1, hs2, hs3, hroA, hroD, hne1, hne2, room, ne3, ne4, ne5]
    exact hgo2 _ (.sl s.heap.length 2 0 1) ⟨2, rfl, by simp⟩
   ·have n4 : ¬ (1 + rows.length ≤ 1) := by omega
    simp [f0, f3, f4, f5', hidx, b1', b2', b3, b4, kb, nb, zr, hr, hro, ze1, appendTo_0s, z81, hs1, hs2, hs3, hroA, hroD, hne1, hne2, room, hd0, n3, n4, ne3, ne4, ne5]
    exact hgo2 _ (.sl s.heap.length 3 0 (1 + rows.length)) ⟨3, by rw [show 1 + rows.length = ([] : List AV).length + 1 + D.length by simp; omega], by simp⟩
  ·by_cases hd0 : rows.length - k = 0
   ·simp [f0, f3, f4, f5, hidx, b1, b2, b3, b4, kb, nb, zr, hr, hro, ze1, appendTo_0s, z81, hs1, hs2, hs3, hroA, hroD, hne1, hne2, room, hk0, hd0, r1, r2, htA, n1, n2, n6, ne3, ne4, ne5]
    have hDn : D = [] := List.length_eq_zero_iff.1 (by omega)
    exact hgo2 _ (.sl s.heap.length 3 0 (k + 1)) ⟨3, by rw [show k + 1 = A.length + 1 + D.length by omega], by simp [hDn]⟩
   ·have n5 : ¬ (k + 1 + (rows.length - k) ≤ A.length + 1) := by omega
    simp [f0, f3, f4, f5, hidx, b1, b2, b3, b4, kb, nb, zr, hr, hro, ze1, appendTo_0s, z81, hs1, hs2, hs3, hroA, hroD, hne1, hne2, room, hk0, hd0, r1, r2, r3, htA, htA1, n1, n2, n5, n6, ne3, ne4, ne5]
    exact hgo2 _ (.sl s.heap.length 4 0 (k + 1 + (rows.length - k))) ⟨4, by rw [show k + 1 + (rows.length - k) = A.length + 1 + D.length by omega], by simp⟩
end Go.Abs.Plan
namespace Go.Abs.Plan
open Enc (Is)
theorem insT_at (x : Tup) : ∀ (o : List Tup) (k : Nat), k ≤ o.length → (∀ j (h : j < o.length), j < k → tcmp o[j] x < 0) → (∀ h : k < o.length, ¬ tcmp o[k] x < 0) →
 insT x o = if ∃ h : k < o.length, tcmp o[k] x = 0 then o else o.take k ++ x :: o.drop k
 | [], k, hk, _, _ => by
   have : k = 0 := by simpa using hk
   subst this
   simp [insT]
 | y :: o, 0, hk, _, h2 => by
   have hy : ¬ tcmp y x < 0 := h2 (by simp)
   unfold insT
   rw [if_neg hy]
   by_cases he : tcmp y x = 0
   ·rw [if_pos he, if_pos ⟨by simp, by simpa using he⟩]
   ·rw [if_neg he, if_neg (by rintro ⟨_, h⟩; exact he (by simpa using h))]
    simp
 | y :: o, k + 1, hk, h1, h2 => by
   have hy : tcmp y x < 0 := h1 0 (by simp) (by omega)
   have ih := insT_at x o k (by simpa using hk) (fun j h hj => h1 (j + 1) (by simpa using h) (by omega)) (fun h => h2 (by simpa using h))
   unfold insT
   rw [if_pos hy, ih]
   by_cases he : ∃ h : k < o.length, tcmp o[k] x = 0
   ·rw [if_pos he, if_pos]
    obtain ⟨h, he⟩ := he
    exact ⟨by simpa using h, by simpa using he⟩
   ·rw [if_neg he, if_neg]
    ·simp
    ·rintro ⟨h, h'⟩
     exact he ⟨by simpa using h, by simpa using h'⟩
theorem insT_len (x : Tup) : ∀ o : List Tup, (insT x o).length ≤ o.length + 1
 | [] => by simp [insT]
 | y :: o => by
   unfold insT
   have := insT_len x o
   split
   ·simp; exact this
   ·split
    ·simp
    ·simp
def foldI (l : List Tup) : List Tup := l.foldl (fun o x => insT x o) []
theorem foldI_len (l : List Tup) : (foldI l).length ≤ l.length := by
 unfold foldI
 suffices ∀ o : List Tup, (l.foldl (fun o x => insT x o) o).length ≤ o.length + l.length by simpa using this []
 induction l with
 | nil => intro o; simp
 | cons x l ih => intro o; have h1 := ih (insT x o); have h2 := insT_len x o; simp only [List.foldl_cons, List.length_cons]; omega
theorem foldI_snoc (l : List Tup) (x : Tup) : foldI (l ++ [x]) = insT x (foldI l) := by simp [foldI]
def k_stail : ACode := (SS (.draw [uu 30 (.move (tt 5)), uu 31 (.move (tt 3)), uu 32 (.len .slice (tt 31)), uu 33 (.bin .eql .no (tt 30) (tt 32)), uu 34 (.move (tt 33)), ug 35 (.move (tt 3)) 34 false, ug 36 (.move (tt 5)) 34 false, ug 37 (.indexAddr 1 (tt 35) (tt 36)) 34 false, ug 38 (.load false 1 (tt 37)) 34 false, ug 39 (.move (tt 0)) 34 false, ug 40 (.move (tt 4)) 34 false, ug 41 (.indexAddr 1 (tt 39) (tt 40)) 34 false, ug 42 (.load false 1 (tt 41)) 34 false, ug 43 (.call (.func zf3) [(tt 38), (tt 42)]) 34 false, ug 44 (.bin .neq .no (tt 43) (ii 0)) 34 false, kk 45 (.pick (tt 34) (.const (.bool true)) (tt 44))] [])
 (.cond (tt 45) k_sins .skip))
theorem sorted_l1 : c_ref19_sorted_l1 = (SS (SS (RR [uu 6 (.move (tt 4)), uu 7 (.move (tt 0)), uu 8 (.len .slice (tt 7)), kk 9 (.bin .lss .no (tt 6) (tt 8))])
 (.cond (tt 9) .skip (.exit 0)))
 (SS (.block 1 (SS (RR [kk 5 (.move (ii 0))])
 (SS (.block 2 (.loop z64)) k_stail)))
 (RR [uu 10 (.move (tt 4)), uu 11 (.bin .add .no (tt 10) (ii 1)), kk 4 (.move (tt 11))]))) := rfl
theorem sorted_call (l : List Tup) (v : AV) (hv : Is v l) (hl : l.length ≤ 2 ^ 20) (ht : ∀ t ∈ l, t.length < 2 ^ 40) (H : Heap) (hok : HOK H) : ∃ r, callW tbl (.func f_ref19_sorted [] []) [v] H = some (r, H) ∧ Is r (sortT l) := by
 have hlv := IsL.len hv
 obtain ⟨w, H', ⟨T, rows, rfl, hw, hrows⟩, hcall⟩ := callE (tbl := tbl) (f := f_ref19_sorted) (first := []) (captured := []) (args := [v]) (H := H) (fun w H' => ∃ T rows, H' = H ++ T ∧ SlAt H.length 1 H' w rows ∧ All2 Is rows (sortT l)) a_ref19_sorted rfl rfl rfl (fun F hF => by
  simp [a_ref19_sorted, c_ref19_sorted]
  refine zf (fun n s => ∃ (i : Nat) (T : Heap) (w : AV) (rows : List AV), i + n = l.length ∧ s.heap = H ++ T ∧ SlAt H.length 1 s.heap w rows ∧ All2 Is rows (foldI (l.take i)) ∧ s.dfr = [] ∧ s.tm.get 0 = v ∧ s.tm.get 3 = w ∧ s.tm.get 4 = i64 i) l.length
   ⟨0, [], .nilsl, [], by omega, by simp, SlAt.nil, by simp [foldI]; exact .nil, by simp, by simp, by simp, by simp⟩ ?_
  rintro n s Q ⟨i, T, w, rows, h0, hH, hw, hrows, q2, f0, f3, f4⟩ hgo hx
  have hwi : IntKind.i64.wrap ((i : Int) + 1) = ((i + 1 : Nat) : Int) := zi1 (by omega) (by omega)
  by_cases hi : i < l.length
  ·have hii : (i : Int) < (l.length : Int) := by omega
   have hgi := List.getElem?_eq_getElem hi
   obtain ⟨fl, r, hr, hidx⟩ := IsL.idx hv hgi
   simp only [show Enc.sz Tup = 1 from rfl] at hidx
   have hcr := zm hr
   have htl := ht _ (List.getElem_mem hi)
   have htk : l.take (i + 1) = l.take i ++ [l[i]] := by rw [List.take_add_one, hgi]; rfl
   have hfs := foldI_snoc (l.take i) l[i]
   rw [← htk] at hfs
   have hfl := foldI_len (l.take i)
   have htkl : (l.take i).length ≤ i := by simp; omega
   have hrl := hrows.length
   have hmem : ∀ t ∈ foldI (l.take i), t.length < 2 ^ 40 := fun t h => by
    have := ((zn2 (l.take i)).2 t).1 h
    exact ht t (List.mem_of_mem_take this)
   generalize l[i] = x at *
   generalize hO : foldI (l.take i) = O at *
   have hrow : ∀ y ∈ rows, y.rowok 1 = true := fun y hy => by
    obtain ⟨b, _, hb⟩ := hrows.left y hy
    exact Enc.row hb
   simp [sorted_l1, f0, f4, hlv, hii]
   refine zf (fun n' s' => ∃ k : Nat, k + n' = O.length ∧ (∀ j (h : j < O.length), j < k → tcmp O[j] x < 0) ∧ s'.heap = s.heap ∧ s'.dfr = [] ∧ s'.tm.get 0 = v ∧ s'.tm.get 3 = w ∧ s'.tm.get 4 = i64 i ∧ s'.tm.get 5 = i64 k) O.length
    ⟨0, by omega, by simp, by simp, by simp [q2], by simp [f0], by simp [f3], by simp [f4], by simp⟩ ?_
   rintro n' s' Q' ⟨k, hk0, hlt, e1, e2, g0, g3, g4, g5⟩ hgo' hx'
   have hwk : IntKind.i64.wrap ((k : Int) + 1) = ((k + 1 : Nat) : Int) := zi1 (by omega) (by omega)
   have hwlen : lenA w = .val (.int .i64 (O.length : Int)) := by
    rw [← hrl]
    rcases hw with ⟨rfl, rfl⟩ | ⟨sid, sg, _, rfl, _⟩ <;> rfl
   by_cases hk : k < O.length
   ·have hki : (k : Int) < (O.length : Int) := by omega
    have hkne : ¬ (k : Int) = (O.length : Int) := by omega
    obtain ⟨ra, hra, hia⟩ := hrows.get (List.getElem?_eq_getElem hk)
    have hca := zm hia
    obtain ⟨sid, sg, hlo, rfl, hb⟩ : ∃ sid sg, H.length ≤ sid ∧ w = .sl sid sg 0 rows.length ∧ s.heap[sid]? = some (.arr sg 1 rows) := by
     rcases hw with ⟨_, rfl⟩ | h
     ·simp at hra
     ·exact h
    have hkr : k < rows.length := by omega
    have hra' : rows[k] = ra := by rw [List.getElem?_eq_getElem hkr] at hra; exact Option.some.inj hra
    have kb := zf1 hb
    have nb := lt_of hb
    have hcmp := fun T => ref02_call O[k] x ra r hia hr (hmem _ (List.getElem_mem hk)) htl T
    by_cases hc : tcmp O[k] x < 0
    ·simp [z64, e1, g0, g3, g4, g5, hwlen, hki, kb, nb, hkr, hra, hra', hca, hidx, hcr, hcmp, hc]
     refine hgo' _ (n' - 1) (by omega) ⟨k + 1, by omega, fun j h hj => ?_, by simp [e1], by simp [e2], by simp [g0], by simp [g3], by simp [g4], by simp [hwk]⟩
     by_cases hjk : j = k
     ·subst hjk; exact hc
     ·exact hlt j h (by omega)
    ·have hins := insT_at x O k (by omega) hlt (fun _ => hc)
     simp [z64, e1, g0, g3, g4, g5, hwlen, hki, kb, nb, hkr, hra, hra', hca, hidx, hcr, hcmp, hc]
     refine hx' _ _ (by simp) ?_
     simp
     unfold k_stail
     by_cases hc0 : tcmp O[k] x = 0
     ·rw [if_pos ⟨hk, hc0⟩] at hins
      rw [hins] at hfs
      simp [e1, g0, g3, g4, g5, hwlen, hkne, kb, nb, hkr, hra, hra', hca, hidx, hcr, hcmp, hc0]
      refine hgo _ (n - 1) (by omega) ⟨i + 1, T, _, rows, by omega, by simp [hH], by simpa using hw, by rw [hfs]; exact hrows, by simp [e2], by simp [g0], by simp [g3], by simp [hwi]⟩
     ·rw [if_neg (by rintro ⟨_, h⟩; exact hc0 h)] at hins
      have hb0 : (tcmp O[k] x == 0) = false := by simpa using hc0
      simp [e1, g0, g3, g4, g5, hwlen, hkne, kb, nb, hkr, hra, hra', hca, hidx, hcr, hcmp, hc0, hb0]
      refine sorted_ins (lo := H.length) rows r k i (by omega) (.sl sid sg 0 rows.length) v _ (by simp [hH]) (by simpa using hw) hrow hcr (by omega) (by simp [g0]) (by simp [g3]) (by simp [g4]) (by simp [g5]) (by rw [hidx, hcr.2]) (fun T2 v' hS => ?_)
      simp at hS
      simp [g4]
      refine hgo _ (n - 1) (by omega) ⟨i + 1, T ++ T2, v', rows.take k ++ r :: rows.drop k, by omega, by simp [hH], by simpa using hS, by rw [hfs, hins]; exact (hrows.take k).append (.cons hr (hrows.drop k)), by simp [e2], by simp [g0], by simp, by simp [hwi]⟩
   ·have hki : ¬ (k : Int) < (O.length : Int) := by omega
    have hkl : k = O.length := by omega
    have hins := insT_at x O k (by omega) hlt (fun h => absurd h hk)
    simp [z64, e1, g0, g3, g4, g5, hwlen, hki]
    refine hx' _ _ (by simp) ?_
    have hki2 : (k : Int) = (O.length : Int) := by omega
    rw [if_neg (by rintro ⟨h, _⟩; exact hk h)] at hins
    simp
    unfold k_stail
    simp [e1, g0, g3, g4, g5, hwlen, hki2]
    refine sorted_ins (lo := H.length) rows r k i (by omega) w v _ (by simp [hH]) (by simpa using hw) hrow hcr (by omega) (by simp [g0]) (by simp [g3]) (by simp [g4]) (by simp [g5]) (by rw [hidx, hcr.2]) (fun T2 v' hS => ?_)
    simp at hS
    simp [g4]
    refine hgo _ (n - 1) (by omega) ⟨i + 1, T ++ T2, v', rows.take k ++ r :: rows.drop k, by omega, by simp [hH], by simpa using hS, by rw [hfs, hins]; exact (hrows.take k).append (.cons hr (hrows.drop k)), by simp [e2], by simp [g0], by simp, by simp [hwi]⟩
  ·have hii : ¬ (i : Int) < (l.length : Int) := by omega
   have hil : i = l.length := by omega
   rw [hil, List.take_length] at hrows
   simp [sorted_l1, f0, f4, hlv, hii]
   refine hx _ _ (by simp) ?_
   simp [q2, f3]
   exact hF _ _ ⟨T, rows, hH, hw, hrows⟩)
 rw [hcall, show a_ref19_sorted.frz = true from rfl]
 rcases hw with ⟨rfl, rfl⟩ | ⟨sid, sg, hlo, rfl, hb⟩
 ·rw [close_frz hok rfl (z7 rfl)]
  refine ⟨.nilsl, rfl, ?_⟩
  have e : sortT l = [] := List.length_eq_zero_iff.1 hrows.length.symm
  rw [e]; exact IsL.nil
 ·have hre : reify (newBlks H.length (H ++ T)) zx (.sl sid sg 0 rows.length) = some (.fsl false rows) := by
   obtain ⟨j, rfl⟩ : ∃ j, sid = H.length + j := ⟨sid - H.length, by omega⟩
   exact reify_rows (sz := 1) (R := rows) (by rw [newBlks_get]; rw [List.getElem?_append_right (by omega)] at hb; simpa using hb) (by simp) (by simp) hrows
  rw [close_frz hok rfl hre]
  exact ⟨_, rfl, IsL.fsl hrows⟩
end Go.Abs.Plan
namespace Go.Abs.Plan
open Enc (Is)
def ltN (l : List Tup) (t : Tup) : Nat := l.countP fun x => decide (tcmp x t < 0)
theorem place_run (l : List Tup) (t : Tup) (v w : AV) (hv : Is v l) (hw : Is w t) (hl : l.length ≤ 2 ^ 30) (hll : ∀ x ∈ l, x.length < 2 ^ 40) (ht : t.length < 2 ^ 40) : ∃ r, zu (callW tbl) loopW a_ref02_Place [v, w] = some r ∧ r = .tuple [i64 (ltN l t), .bool (decide (t ∈ l))] := by
 have hlv := IsL.len hv
 refine pureK a_ref02_Place rfl (fun F hF => ?_)
 simp [a_ref02_Place, c_ref02_Place]
 refine zf (fun k s => ∃ j : Nat, j + k = l.length ∧ s.dfr = [] ∧ s.tm.get 0 = v ∧ s.tm.get 1 = w ∧ s.tm.get 6 = i64 (ltN (l.take j) t) ∧ s.tm.get 7 = .bool (decide (t ∈ l.take j)) ∧ s.tm.get 8 = i64 j) l.length
  ⟨0, by omega, by simp, by simp, by simp, by simp [ltN], by simp, by simp⟩ ?_
 rintro k s Q ⟨j, h0, q2, f0, f1, f6, f7, f8⟩ hgo hx
 have hwj : IntKind.i64.wrap ((j : Int) + 1) = ((j + 1 : Nat) : Int) := zi1 (by omega) (by omega)
 by_cases hj : j < l.length
 ·have hji : (j : Int) < (l.length : Int) := by omega
  have hgj := List.getElem?_eq_getElem hj
  obtain ⟨fl, r, hr, hidx⟩ := IsL.idx hv hgj
  simp only [show Enc.sz Tup = 1 from rfl] at hidx
  have hc1 := zm hr
  have htk : l.take (j + 1) = l.take j ++ [l[j]] := by rw [List.take_add_one, hgj]; rfl
  have hcmp := fun T => ref02_call l[j] t r w hr hw (hll _ (List.getElem_mem hj)) ht T
  have hcl : ltN (l.take j) t ≤ j := Nat.le_trans List.countP_le_length (by simp; omega)
  have hwn : IntKind.i64.wrap ((ltN (l.take j) t : Int) + 1) = ((ltN (l.take j) t + 1 : Nat) : Int) := zi1 (by omega) (by omega)
  generalize l[j] = x at *
  generalize hN : ltN (l.take j) t = N at *
  have hlt : ltN (l.take (j + 1)) t = N + (if tcmp x t < 0 then 1 else 0) := by
   rw [htk, ← hN]; simp only [ltN, List.countP_append]; by_cases h : tcmp x t < 0 <;> simp [h]
  by_cases hm : t ∈ l.take j
  ·have hm2 : t ∈ l.take (j + 1) := by rw [htk]; simp [hm]
   by_cases hc : tcmp x t < 0
   ·simp [z23, f0, f1, f6, f7, f8, hlv, hji, hidx, hc1, AV.rowok, hcmp, hc, hm]
    exact hgo _ (k - 1) (by omega) ⟨j + 1, by omega, by simp [q2], by simp [f0], by simp [f1], by simp [hlt, hc, hwn], by simp [hm2], by simp [hwj]⟩
   ·simp [z23, f0, f1, f6, f7, f8, hlv, hji, hidx, hc1, AV.rowok, hcmp, hc, hm]
    exact hgo _ (k - 1) (by omega) ⟨j + 1, by omega, by simp [q2], by simp [f0], by simp [f1], by simp [hlt, hc, f6], by simp [hm2], by simp [hwj]⟩
  ·by_cases hc0 : tcmp x t = 0
   ·have hxt : x = t := (tcmp_eq x t).1 hc0
    have hm2 : t ∈ l.take (j + 1) := by rw [htk]; simp [hxt]
    have hc : ¬ tcmp x t < 0 := by omega
    simp [z23, f0, f1, f6, f7, f8, hlv, hji, hidx, hc1, AV.rowok, hcmp, hc0, hm]
    exact hgo _ (k - 1) (by omega) ⟨j + 1, by omega, by simp [q2], by simp [f0], by simp [f1], by simp [hlt, hc, f6], by simp [hm2], by simp [hwj]⟩
   ·have hxt : ¬ x = t := fun e => hc0 ((tcmp_eq x t).2 e)
    have hxt2 : ¬ t = x := fun e => hxt e.symm
    have hm2 : t ∉ l.take (j + 1) := by rw [htk]; simp [hm, hxt2]
    have hb0 : (tcmp x t == 0) = false := by simpa using hc0
    by_cases hc : tcmp x t < 0
    ·simp [z23, f0, f1, f6, f7, f8, hlv, hji, hidx, hc1, AV.rowok, hcmp, hc, hm, hb0]
     exact hgo _ (k - 1) (by omega) ⟨j + 1, by omega, by simp [q2], by simp [f0], by simp [f1], by simp [hlt, hc, hwn], by simp [hm2], by simp [hwj]⟩
    ·simp [z23, f0, f1, f6, f7, f8, hlv, hji, hidx, hc1, AV.rowok, hcmp, hc, hm, hb0]
     exact hgo _ (k - 1) (by omega) ⟨j + 1, by omega, by simp [q2], by simp [f0], by simp [f1], by simp [hlt, hc, f6], by simp [hm2], by simp [hwj]⟩
 ·have hji : ¬ (j : Int) < (l.length : Int) := by omega
  have hjl : j = l.length := by omega
  rw [hjl, List.take_length] at f6 f7
  simp [z23, f0, f8, hlv, hji]
  refine hx _ _ (by simp) ?_
  simp [f6, f7, q2]
  exact hF _ _ _ (z7 rfl) rfl
theorem place2_call (l : List Tup) (t : Tup) (v w : AV) (hv : Is v l) (hw : Is w t) (hl : l.length ≤ 2 ^ 30) (hll : ∀ x ∈ l, x.length < 2 ^ 40) (ht : t.length < 2 ^ 40) (H : Heap) : callW tbl (.func f_ref02_Place [] []) [v, w] H = some (.tuple [i64 (ltN l t), .bool (decide (t ∈ l))], H) := by
 obtain ⟨r, h, rfl⟩ := callP2 (tbl := tbl) (f := f_ref02_Place) (af := a_ref02_Place) rfl rfl (S := fun r => r = .tuple [i64 (ltN l t), .bool (decide (t ∈ l))]) l t (by rintro r rfl; rfl) (fun v w hv hw => place_run l t v w hv hw hl hll ht) v w hv hw H
 exact h
theorem has2_call (l : List Tup) (t : Tup) (v w : AV) (hv : Is v l) (hw : Is w t) (hl : l.length ≤ 2 ^ 30) (hll : ∀ x ∈ l, x.length < 2 ^ 40) (ht : t.length < 2 ^ 40) (H : Heap) : callW tbl (.func f_ref02_Has [] []) [v, w] H = some (.bool (decide (t ∈ l)), H) := by
 obtain ⟨r, h, rfl⟩ := callP2 (tbl := tbl) (f := f_ref02_Has) (af := a_ref02_Has) rfl rfl (S := fun r => r = .bool (decide (t ∈ l))) l t (by rintro r rfl; rfl) (fun v w hv hw => by
  have hp := fun T => place2_call l t v w hv hw hl hll ht T
  refine pureK a_ref02_Has rfl (fun F hF => ?_)
  simp [a_ref02_Has, c_ref02_Has, hp]
  exact hF _ _ _ (z7 rfl) rfl) v w hv hw H
 exact h
theorem ltN_at : ∀ (O : List Tup) (t : Tup), O.Pairwise TLt → ltN O t ≤ O.length ∧ (∀ j (h : j < O.length), j < ltN O t → tcmp O[j] t < 0) ∧ ∀ h : ltN O t < O.length, ¬ tcmp O[ltN O t] t < 0
 | [], t, _ => by simp [ltN]
 | y :: O, t, hs => by
   rw [List.pairwise_cons] at hs
   obtain ⟨h1, h2, h3⟩ := ltN_at O t hs.2
   by_cases hy : tcmp y t < 0
   ·have e : ltN (y :: O) t = ltN O t + 1 := by simp [ltN, hy]
    refine ⟨by rw [e]; simp; exact h1, fun j h hj => ?_, fun h => ?_⟩
    ·cases j with
     | zero => exact hy
     | succ j => exact h2 j (by simpa using h) (by omega)
    ·have h' : ltN O t < O.length := by rw [e] at h; simpa using h
     have := h3 h'
     simp only [e, List.getElem_cons_succ]
     exact this
   ·have hall : ∀ x ∈ O, ¬ tcmp x t < 0 := fun x hx hxt => by
     have hyx : tcmp y x < 0 := hs.1 x hx
     exact hy (tcmp_trans _ _ _ hyx hxt)
    have e : ltN (y :: O) t = 0 := by
     unfold ltN
     rw [List.countP_eq_zero]
     intro x hx
     rcases List.mem_cons.1 hx with rfl | hx
     ·simpa using hy
     ·simpa using hall x hx
    refine ⟨by rw [e]; simp, fun j h hj => by rw [e] at hj; omega, fun h => ?_⟩
    simp only [e, List.getElem_cons_zero]
    exact hy
theorem insT_has {O : List Tup} {t : Tup} (hs : O.Pairwise TLt) (h : t ∈ O) : insT t O = O := by
 refine perm_sorted (fun a b => TLt.asymm) (insT_sorted hs) hs ?_
 exact perm_of_mem (TLt_nodup (insT_sorted hs)) (TLt_nodup hs) (fun y => by rw [insT_mem]; exact ⟨fun h' => h'.elim (fun e => by rw [e]; exact h) id, .inr⟩)
theorem insT_not {O : List Tup} {t : Tup} (hs : O.Pairwise TLt) (h : t ∉ O) : insT t O = O.take (ltN O t) ++ t :: O.drop (ltN O t) := by
 obtain ⟨h1, h2, h3⟩ := ltN_at O t hs
 rw [insT_at t O _ h1 h2 h3, if_neg]
 rintro ⟨hl, he⟩
 exact h (by rw [← (tcmp_eq _ _).1 he]; exact List.getElem_mem hl)
theorem put_run (O : List Tup) (t : Tup) (v w : AV) (hv : Is v O) (hw : Is w t) (hs : O.Pairwise TLt) (hl : O.length ≤ 2 ^ 20) (hll : ∀ x ∈ O, x.length < 2 ^ 40) (ht : t.length < 2 ^ 40) : ∃ r, zu (callW tbl) loopW zk3 [v, w] = some r ∧ Is r (insT t O) := by
 have hp := fun T => place2_call O t v w hv hw (by omega) hll ht T
 have hcw := zm hw
 refine pureK zk3 rfl (fun F hF => ?_)
 by_cases hm : t ∈ O
 ·simp [zk3, c_ref02_put, hp, hm]
  exact hF _ _ _ (z7 (Enc.plain hv)) (by rw [insT_has hs hm]; exact hv)
 ·rw [insT_not hs hm] at hF
  obtain ⟨hk, _, _⟩ := ltN_at O t hs
  have hro : AV.rowok 1 w = true := Enc.row hw
  generalize ltN O t = k at *
  have fin : ∀ (rows : List AV) (H : Heap) (g n : Nat), All2 Is rows (O.take k ++ t :: O.drop k) → H[0]? = some (.arr g 1 rows) → n = rows.length → F (.sl 0 g 0 n) H := fun rows H g n h1 h2 h3 => by
   subst h3; exact hF _ _ _ (reify_rows h2 (by simp) (by simp) h1) (IsL.fsl h1)
  rcases IsL.cases hv with ⟨rfl, rfl⟩ | ⟨fl, rows, rfl, hrows⟩
  ·have hk0 : k = 0 := by simpa using hk
   subst hk0
   have s1 : sliceA 1 none (some (.int .i64 0)) .nilsl = some .nilsl := rfl
   have s2 : sliceA 1 (some (.int .i64 0)) none .nilsl = some .nilsl := rfl
   simp [zk3, c_ref02_put, hp, hm, s1, s2, zr, hcw, hro, ze1, appendTo_0s, z81, z63, room]
   exact fin [w] _ 2 1 (.cons hw .nil) (by simp) rfl
  ·have hrl := hrows.length
   have b1 := bound_at (len := rows.length) (a := k) rows.length (by omega)
   have b2 := bound_at (len := rows.length) (a := k) 0 (by omega)
   have s1 : sliceA 1 none (some (.int .i64 (k : Int))) (.fsl fl rows) = some (.fsl fl (rows.take k)) := by
    have := slice_rows (sz := 1) (fl := fl) (lo := none) (l := 0) hrows rfl (by omega) b1 rfl
    simpa using this
   have s2 : sliceA 1 (some (.int .i64 (k : Int))) none (.fsl fl rows) = some (.fsl fl (rows.drop k)) := by
    have := slice_rows (sz := 1) (fl := fl) (hi := none) (h := rows.length) hrows rfl (by omega) rfl b2
    rw [this, List.take_of_length_le (by simp)]
   obtain ⟨A, hA⟩ : ∃ A, A = rows.take k := ⟨_, rfl⟩
   obtain ⟨D, hD⟩ : ∃ D, D = rows.drop k := ⟨_, rfl⟩
   have hAl : A.length = k := by rw [hA]; simp; omega
   have hDl : D.length = rows.length - k := by rw [hD]; simp
   have hall : All2 Is (A ++ w :: D) (O.take k ++ t :: O.drop k) := by rw [hA, hD]; exact (hrows.take k).append (.cons hw (hrows.drop k))
   rw [← hA] at s1
   rw [← hD] at s2
   have hroA : (∀ x : AV, x ∈ A → AV.rowok 1 x = true) = True := eq_true fun x hx => by
    obtain ⟨b, _, hb⟩ := hrows.left x (List.mem_of_mem_take (by rw [hA] at hx; exact hx)); exact Enc.row hb
   have hroD : (∀ x : AV, x ∈ D → AV.rowok 1 x = true) = True := eq_true fun x hx => by
    obtain ⟨b, _, hb⟩ := hrows.left x (List.mem_of_mem_drop (by rw [hD] at hx; exact hx)); exact Enc.row hb
   have hs3 : z63 1 0 1 (.arr 1 1 [w]) = some [w] := rfl
   have r1 : k * 24 ≤ 140737488355328 := by omega
   have r2 : (k + 1) * 24 ≤ 140737488355328 := by omega
   have r3 : (k + 1 + D.length) * 24 ≤ 140737488355328 := by omega
   have n1 : k ≤ A.length := by omega
   have n2 : ¬ (k + 1 ≤ A.length) := by omega
   have n6 : ¬ (k + 1 ≤ k) := by omega
   have htA : List.take k A = A := List.take_of_length_le (by omega)
   have htA1 : List.take (k + 1) (A ++ [w]) = A ++ [w] := List.take_of_length_le (by simp; omega)
   by_cases hk0 : k = 0
   ·subst hk0
    have hAn : A = [] := List.length_eq_zero_iff.1 hAl
    subst hAn
    have s1' : sliceA 1 none (some (.int .i64 0)) (.fsl fl rows) = some (.fsl fl []) := s1
    have s2' : sliceA 1 (some (.int .i64 0)) none (.fsl fl rows) = some (.fsl fl D) := s2
    by_cases hd0 : D.length = 0
    ·have hDn : D = [] := List.length_eq_zero_iff.1 hd0
     subst hDn
     simp [zk3, c_ref02_put, hp, hm, s1', s2', zr, hcw, hro, ze1, appendTo_0s, z81, hs3, room]
     exact fin [w] _ 2 1 hall (by simp) rfl
    ·have r4 : (1 + D.length) * 24 ≤ 140737488355328 := by omega
     have n4 : ¬ (1 + D.length ≤ 1) := by omega
     simp [zk3, c_ref02_put, hp, hm, s1', s2', zr, hcw, hro, ze1, appendTo_0s, z81, hs3, room, hd0, hroD, r4, n4]
     exact fin (w :: D) _ 3 _ hall (by simp) (by simp; omega)
   ·by_cases hd0 : D.length = 0
    ·have hDn : D = [] := List.length_eq_zero_iff.1 hd0
     subst hDn
     simp [zk3, c_ref02_put, hp, hm, s1, s2, zr, hcw, hro, ze1, appendTo_0s, z81, hs3, room, hroA, hAl, hk0, r1, r2, n1, n2, n6, htA, htA1]
     exact fin (A ++ [w]) _ 3 _ hall (by simp) (by simp; omega)
    ·have n5 : ¬ (k + 1 + D.length ≤ k + 1) := by omega
     simp [zk3, c_ref02_put, hp, hm, s1, s2, zr, hcw, hro, ze1, appendTo_0s, z81, hs3, room, hroA, hroD, hAl, hk0, hd0, r1, r2, r3, n1, n2, n5, n6, htA, htA1]
     exact fin (A ++ w :: D) _ 4 _ hall (by simp) (by simp; omega)
end Go.Abs.Plan
namespace Go.Abs.Plan
open Enc (Is)
theorem foldI_sorted (l : List Tup) : (foldI l).Pairwise TLt := (zn2 l).1
theorem foldI_mem (l : List Tup) (y : Tup) : y ∈ foldI l ↔ y ∈ l := (zn2 l).2 y
theorem put_call (O : List Tup) (t : Tup) (v w : AV) (hv : Is v O) (hw : Is w t) (hs : O.Pairwise TLt) (hl : O.length ≤ 2 ^ 20) (hll : ∀ x ∈ O, x.length < 2 ^ 40) (ht : t.length < 2 ^ 40) (H : Heap) : ∃ r, callW tbl (.func f_ref02_put [] []) [v, w] H = some (r, H) ∧ Is r (insT t O) :=
 callP2 (tbl := tbl) (f := f_ref02_put) (af := zk3) rfl rfl (S := fun r => Is r (insT t O)) O t (fun r h => Enc.lend h) (fun v w hv hw => put_run O t v w hv hw hs hl hll ht) v w hv hw H
theorem some_run (a b : List Tup) (v w : AV) (hv : Is v a) (hw : Is w b) (ha : a.length ≤ 2 ^ 20) (hb : b.length ≤ 2 ^ 20) (hta : ∀ x ∈ a, x.length < 2 ^ 40) (htb : ∀ x ∈ b, x.length < 2 ^ 40) : ∃ r, zu (callW tbl) loopW a_ref02_some [v, w, .bool false] = some r ∧ Is r (minusT a b) := by
 have hlv := IsL.len hv
 refine pureK a_ref02_some rfl (fun F hF => ?_)
 simp [a_ref02_some, c_ref02_some]
 refine zf (fun n s => ∃ (i : Nat) (o : AV), i + n = a.length ∧ Is o (foldI ((a.take i).filter fun t => decide (t ∉ b))) ∧ s.heap = [] ∧ s.dfr = [] ∧ s.tm.get 0 = v ∧ s.tm.get 1 = w ∧ s.tm.get 2 = .bool false ∧ s.tm.get 7 = o ∧ s.tm.get 8 = i64 i) a.length
  ⟨0, .nilsl, by omega, by simp [foldI]; exact IsL.nil, by simp, by simp, by simp, by simp, by simp, by simp, by simp⟩ ?_
 rintro n s Q ⟨i, o, h0, ho, hh, q2, f0, f1, f2, f7, f8⟩ hgo hx
 have hwi : IntKind.i64.wrap ((i : Int) + 1) = ((i + 1 : Nat) : Int) := zi1 (by omega) (by omega)
 by_cases hi : i < a.length
 ·have hii : (i : Int) < (a.length : Int) := by omega
  have hgi := List.getElem?_eq_getElem hi
  obtain ⟨fl, r, hr, hidx⟩ := IsL.idx hv hgi
  simp only [show Enc.sz Tup = 1 from rfl] at hidx
  have hcr := zm hr
  have htl := hta _ (List.getElem_mem hi)
  have htk : a.take (i + 1) = a.take i ++ [a[i]] := by rw [List.take_add_one, hgi]; rfl
  have hO : ∀ t ∈ foldI ((a.take i).filter fun t => decide (t ∉ b)), t.length < 2 ^ 40 := fun t h => by
   have := (List.mem_filter.1 ((foldI_mem _ t).1 h)).1
   exact hta t (List.mem_of_mem_take this)
  have hOl : (foldI ((a.take i).filter fun t => decide (t ∉ b))).length ≤ 2 ^ 20 := by
   refine Nat.le_trans (foldI_len _) (Nat.le_trans (List.length_filter_le _ _) ?_)
   simp; omega
  generalize a[i] = x at *
  have hhas := fun T => has2_call b x w r hw hr (by omega) htb htl T
  have hput := fun T => put_call _ x o r ho hr (foldI_sorted _) hOl hO htl T
  by_cases hm : x ∈ b
  ·have hfl : (a.take (i + 1)).filter (fun t => decide (t ∉ b)) = (a.take i).filter fun t => decide (t ∉ b) := by rw [htk, List.filter_append]; simp [hm]
   simp [c_ref02_some_l0, f0, f1, f2, f7, f8, hlv, hii, hidx, hcr, hhas, hm]
   exact hgo _ (n - 1) (by omega) ⟨i + 1, o, by omega, by rw [hfl]; exact ho, by simp [hh], by simp [q2], by simp [f0], by simp [f1], by simp [f2], by simp [f7], by simp [hwi]⟩
  ·have hfl : (a.take (i + 1)).filter (fun t => decide (t ∉ b)) = ((a.take i).filter fun t => decide (t ∉ b)) ++ [x] := by rw [htk, List.filter_append]; simp [hm]
   obtain ⟨o', hc, ho'⟩ := hput s.heap
   simp [c_ref02_some_l0, f0, f1, f2, f7, f8, hlv, hii, hidx, hcr, hhas, hm, hc]
   exact hgo _ (n - 1) (by omega) ⟨i + 1, o', by omega, by rw [hfl, foldI_snoc]; exact ho', by simp [hh], by simp [q2], by simp [f0], by simp [f1], by simp [f2], by simp, by simp [hwi]⟩
 ·have hii : ¬ (i : Int) < (a.length : Int) := by omega
  have hil : i = a.length := by omega
  rw [hil, List.take_length] at ho
  simp [c_ref02_some_l0, f0, f8, hlv, hii]
  refine hx _ _ (by simp) ?_
  simp [q2, f7]
  exact hF _ _ _ (z7 (Enc.plain ho)) ho
theorem minus_call (a b : List Tup) (v w : AV) (hv : Is v a) (hw : Is w b) (ha : a.length ≤ 2 ^ 20) (hb : b.length ≤ 2 ^ 20) (hta : ∀ x ∈ a, x.length < 2 ^ 40) (htb : ∀ x ∈ b, x.length < 2 ^ 40) (H : Heap) : ∃ r, callW tbl (.func f_ref02_Minus [] []) [v, w] H = some (r, H) ∧ Is r (minusT a b) :=
 callP2 (tbl := tbl) (f := f_ref02_Minus) (af := a_ref02_Minus) rfl rfl (S := fun r => Is r (minusT a b)) a b (fun r h => Enc.lend h) (fun v w hv hw => by
  obtain ⟨r, hc, hr⟩ := callP_of (tbl := tbl) (f := f_ref02_some) (af := a_ref02_some) rfl rfl (R := fun x => ∃ v w, x = [v, w, .bool false] ∧ Is v a ∧ Is w b) (S := fun r => Is r (minusT a b)) (by rintro _ ⟨v, w, rfl, h1, h2⟩; simp [AV.plains, Enc.plain h1, Enc.plain h2, AV.plain]) (by rintro _ ⟨v, w, rfl, h1, h2⟩; exact ⟨v.lend, w.lend, rfl, Enc.lend h1, Enc.lend h2⟩)
   (fun r h => Enc.lend h) (by rintro _ ⟨v, w, rfl, h1, h2⟩; exact some_run a b v w h1 h2 ha hb hta htb) [v, w, .bool false] [] ⟨v, w, rfl, hv, hw⟩
  refine pureK a_ref02_Minus rfl (fun F hF => ?_)
  simp [a_ref02_Minus, c_ref02_Minus, hc]
  exact hF _ _ _ (z7 (Enc.plain hr)) hr) v w hv hw H
def placeZ (l : List ByteArray) (nm : ByteArray) : Int := match l.findIdx? (fun m => decide (nm = m)) with
 | some k => (k : Int)
 | none => -1
theorem rplace_run (l : List ByteArray) (nm : ByteArray) (v : AV) (hv : Is v l) (hl : l.length ≤ 2 ^ 30) : ∃ r, zu (callW tbl) loopW a_ref19_place [v, .str nm] = some r ∧ r = i64 (placeZ l nm) := by
 have hlv := IsL.len hv
 refine pureK a_ref19_place rfl (fun F hF => ?_)
 simp [a_ref19_place, c_ref19_place]
 refine zf (fun n s => ∃ (i : Nat), i + n = l.length ∧ (l.take i).findIdx? (fun m => decide (nm = m)) = none ∧ s.dfr = [] ∧ s.tm.get 0 = v ∧ s.tm.get 1 = .str nm ∧ s.tm.get 5 = i64 i) l.length
  ⟨0, by omega, by simp, by simp, by simp, by simp, by simp⟩ ?_
 rintro n s Q ⟨i, h0, hno, q2, f0, f1, f5⟩ hgo hx
 have hwi : IntKind.i64.wrap ((i : Int) + 1) = ((i + 1 : Nat) : Int) := zi1 (by omega) (by omega)
 by_cases hi : i < l.length
 ·have hii : (i : Int) < (l.length : Int) := by omega
  have hgi := List.getElem?_eq_getElem hi
  obtain ⟨fl, r, rfl, hidx⟩ := IsL.idx hv hgi
  simp only [show Enc.sz ByteArray = 1 from rfl] at hidx
  have htk : l.take (i + 1) = l.take i ++ [l[i]] := by rw [List.take_add_one, hgi]; rfl
  have hspl : l = l.take i ++ l[i] :: l.drop (i + 1) := by rw [← List.drop_eq_getElem_cons hi, List.take_append_drop]
  by_cases he : nm = l[i]
  ·have hf : l.findIdx? (fun m => decide (nm = m)) = some i := by
    conv => lhs; rw [hspl]
    rw [List.findIdx?_append, hno]; simp [List.findIdx?_cons, ← he]; omega
   simp [c_ref19_place_l0, f0, f1, f5, hlv, hii, hidx, ← he]
   refine hx _ _ (by simp) ?_
   simp [q2]
   exact hF _ _ _ (z7 rfl) (by rw [placeZ, hf])
  ·have hne : ¬ l[i] = nm := fun e => he e.symm
   simp [c_ref19_place_l0, f0, f1, f5, hlv, hii, hidx, hne]
   exact hgo _ (n - 1) (by omega) ⟨i + 1, by omega, by rw [htk, List.findIdx?_append, hno]; simp [he], by simp [q2], by simp [f0], by simp [f1], by simp [hwi]⟩
 ·have hii : ¬ (i : Int) < (l.length : Int) := by omega
  have hil : i = l.length := by omega
  rw [hil, List.take_length] at hno
  simp [c_ref19_place_l0, f0, f5, hlv, hii]
  refine hx _ _ (by simp) ?_
  simp [q2]
  exact hF _ _ _ (z7 rfl) (by rw [placeZ, hno])
end Go.Abs.Plan
namespace Go.Abs.Plan
open Enc (Is)
def strs (ns : List ByteArray) : List AV := ns.map AV.str
theorem strs_is (ns : List ByteArray) : All2 Is (strs ns) ns := encs_is (fun _ => rfl) ns
structure NV (H : Heap) (w6 w7 : AV) (ns : List ByteArray) (u : Tup) : Prop where
 v : ∃ i7 g7, w7 = .sl i7 g7 0 u.length ∧ H[i7]? = some (.arr g7 3 (u.map Val.enc)) ∧ ((w6 = .nilsl ∧ ns = []) ∨ ∃ i6 g6, w6 = .sl i6 g6 0 ns.length ∧ H[i6]? = some (.arr g6 1 (strs ns)) ∧ i6 ≠ i7)
theorem NV.names {H : Heap} {w6 w7 : AV} {ns : List ByteArray} {u : Tup} (h : NV H w6 w7 ns u) : ∃ v, Go.Abs.reify H zx w6 = some v ∧ Is v ns := by
 obtain ⟨i7, g7, _, _, h⟩ := h.v
 rcases h with ⟨rfl, rfl⟩ | ⟨i6, g6, rfl, hb, _⟩
 ·exact ⟨.nilsl, z7 rfl, IsL.nil⟩
 ·exact ⟨_, reify_rows hb (by simp [strs]) (by simp [strs, List.take_of_length_le]) (strs_is ns), IsL.fsl (strs_is ns)⟩
theorem rplace_callS {H : Heap} {w6 w7 : AV} {ns : List ByteArray} {u : Tup} (h : NV H w6 w7 ns u) (nm : ByteArray) (hl : ns.length ≤ 2 ^ 30) : callW tbl (.func f_ref19_place [] []) [w6, .str nm] H = some (i64 (placeZ ns nm), H) := by
 obtain ⟨v, hre, hv⟩ := h.names
 obtain ⟨r, h, rfl⟩ := callP_re (tbl := tbl) (f := f_ref19_place) (af := a_ref19_place) rfl rfl (R := fun a => ∃ w, a = [w, .str nm] ∧ Is w ns) (S := fun r => r = i64 (placeZ ns nm)) (by rintro _ ⟨w, rfl, hw⟩; exact ⟨w.lend, rfl, Enc.lend hw⟩)
  (by rintro _ ⟨w, rfl, hw⟩; obtain ⟨r, h1, rfl⟩ := rplace_run ns nm w hw hl; exact ⟨_, h1, rfl, rfl⟩) [w6, .str nm] [v, .str nm] H (by simp [zc4, hre, z7 (v := .str nm) rfl]) ⟨_, rfl, hv⟩
 exact h
def k_bnew : ACode := (.draw [uu 52 (.move (tt 6)), uu 53 (.move (tt 0)), uu 54 (.move (tt 8)), uu 55 (.indexAddr 5 (tt 53) (tt 54)), uu 56 (.fieldAddr 1 (tt 55)), uu 57 (.load false 1 (tt 56)), uu 58 (.buildSlice (.str ⟨#[]⟩) 1 [(0, (tt 57))]), uu 59 (.append 1 16 (tt 52) (tt 58)), uu 60 (.move (tt 7)), uu 61 (.move (tt 1)), uu 62 (.move (tt 8)), uu 63 (.indexAddr 3 (tt 61) (tt 62)), uu 64 (.load true 3 (tt 63)), uu 65 (.buildSlice (.agg [(.int .i64 0), (.int .i64 0), (.str ⟨#[]⟩)]) 1 [(0, (tt 64))]), uu 66 (.append 3 32 (tt 60) (tt 65)), kk 6 (.move (tt 59)), kk 7 (.move (tt 66))] [(6, 11), (7, 11), (6, 12), (7, 12), (3, 13), (5, 13), (6, 13), (7, 13)])
theorem bnew_run {R : AExit → St → Prop} {ks : List KF} (s : St) (w6 w7 vl vt : AV) (ns : List ByteArray) (u : Tup) (x : Term) (y : Val) (i : Nat) (hN : NV s.heap w6 w7 ns u) (hl : ns.length ≤ 2 ^ 20) (hu : u.length ≤ 2 ^ 20)
 (f0 : s.tm.get 0 = vl) (f1 : s.tm.get 1 = vt) (f6 : s.tm.get 6 = w6) (f7 : s.tm.get 7 = w7) (f8 : s.tm.get 8 = i64 i) {fl fl2 : Bool} (hidx : idxA 5 vl (.int .i64 (i : Int)) = .val (.fptr fl x.enc.cells 0)) (hidt : idxA 3 vt (.int .i64 (i : Int)) = .val (.fptr fl2 y.enc.cells 0))
 (hgo : ∀ H' v6 v7, NV H' v6 v7 (ns ++ [x.name]) (u ++ [y]) → KONT (callW tbl) loopW ks .normal { s with tm := (s.tm.put 6 v6).put 7 v7, heap := H' } R) : EXEC (callW tbl) loopW k_bnew ks s R := by
 obtain ⟨i7, g7, rfl, h7, h6⟩ := hN.v
 have k7 := zf1 h7
 have n7 := lt_of h7
 have hlu : (u.map Val.enc).length = u.length := by simp
 have ru : (u.length + 1) * 32 ≤ 140737488355328 := by omega
 have nu : ¬ (u.length + 1 ≤ u.length) := by omega
 have tu : List.take u.length (u.map Val.enc) = u.map Val.enc := List.take_of_length_le (by simp)
 have hrx : AV.rowok 1 (.str x.name) = true := rfl
 have hry : AV.rowok 3 y.enc = true := rfl
 have s3 : z63 1 0 1 (.arr 1 3 [y.enc]) = some [y.enc] := rfl
 have s1 : z63 1 0 1 (.arr 1 1 [.str x.name]) = some [.str x.name] := rfl
 have hyc : y.enc.cells = [i64 y.kind, i64 y.n, .str y.s] := rfl
 have hya : AV.agg [i64 y.kind, i64 y.n, .str y.s] = y.enc := rfl
 have hxc : x.enc.cells = [i64 x.kind, .str x.name, i64 x.v.kind, i64 x.v.n, .str x.v.s] := rfl
 unfold k_bnew
 rcases h6 with ⟨rfl, rfl⟩ | ⟨i6, g6, rfl, hb6, hne⟩
 ·simp [f0, f1, f6, f7, f8, hidx, hidt, hxc, k7, n7, zr, hrx, hry, ze1, z73, z81, room, s1, s3, ru, nu, tu]
  refine ⟨by omega, by omega, hgo _ (.sl (s.heap.length + 1) 1 0 1) (.sl i7 (g7 + 1) 0 (u.length + 1)) ⟨i7, g7 + 1, by simp, ?_, .inr ⟨s.heap.length + 1, 1, by simp, ?_, by omega⟩⟩⟩
  ·rw [List.getElem?_append_left (by simp; omega), List.getElem?_set_self n7]; simp
  ·rw [List.getElem?_append_right (by simp)]; simp [strs]
 ·have k6 := zf1 hb6
  have hh : ∀ (X a b c d : Blk), hat (s.heap.set i6 X ++ [a, b, c, d]) (s.heap.length + 1 + 1) = c := fun X a b c d => zf1 (by rw [List.getElem?_append_right (by simp; omega)]; simp [show s.heap.length + 1 + 1 - s.heap.length = 2 by omega])
  have n6 := lt_of hb6
  have hst : ∀ (X a b c d Y : Blk), (s.heap.set i6 X ++ [a, b, c, d]).set (s.heap.length + 1 + 1) Y = s.heap.set i6 X ++ [a, b, Y, d] := fun X a b c d Y => by
   rw [List.set_append_right _ _ (by simp; omega)]; simp [show s.heap.length + 1 + 1 - s.heap.length = 2 by omega]
  have hne' : ¬ i7 = i6 := fun e => hne e.symm
  have rn : (ns.length + 1) * 16 ≤ 140737488355328 := by omega
  have nn : ¬ (ns.length + 1 ≤ ns.length) := by omega
  have hls : (strs ns).length = ns.length := by simp [strs]
  have tn : List.take ns.length (strs ns) = strs ns := List.take_of_length_le (by simp [strs])
  simp [f0, f1, f6, f7, f8, hidx, hidt, hxc, k6, n6, k7, n7, zr, hrx, hry, ze1, z73, z81, room, s1, s3, ru, nu, tu, rn, nn, tn, hls, hh, hst, hne, hne']
  refine ⟨by omega, by omega, ⟨by omega, by omega, by omega⟩, hgo _ (.sl i6 (g6 + 1) 0 (ns.length + 1)) (.sl i7 (g7 + 1) 0 (u.length + 1)) ⟨i7, g7 + 1, by simp, ?_, .inr ⟨i6, g6 + 1, by simp, ?_, hne⟩⟩⟩
  ·rw [List.getElem?_append_left (by simp; omega), List.getElem?_set_self (by simp; omega)]; simp
  ·rw [List.getElem?_append_left (by simp; omega), List.getElem?_set_ne (fun e => hne e.symm), List.getElem?_set_self n6]; simp [strs]
theorem rb_l0 : c_ref19_bindings_l0 = (SS (SS (RR [uu 16 (.move (tt 8)), uu 17 (.move (tt 0)), uu 18 (.len .slice (tt 17)), kk 19 (.bin .lss .no (tt 16) (tt 18))])
 (.cond (tt 19) .skip (.exit 0)))
 (SS (.block 1 (SS (RR [uu 22 (.move (tt 0)), uu 23 (.move (tt 8)), uu 24 (.indexAddr 5 (tt 22) (tt 23)), uu 25 (.fieldAddr 0 (tt 24)), kk 26 (.load false 1 (tt 25))])
 (.block 2 (SS (RR [uu 28 (.bin .eql .no (tt 26) (ii 3)), kk 27 (.move (tt 28))])
 (.cond (tt 27) (.exit 1) (SS (RR [uu 30 (.bin .eql .no (tt 26) (ii 2)), kk 29 (.move (tt 30))])
 (.cond (tt 29) (SS (.draw [uu 31 (.move (tt 0)), uu 32 (.move (tt 8)), uu 33 (.indexAddr 5 (tt 31) (tt 32)), uu 34 (.fieldAddr 2 (tt 33)), uu 35 (.load true 3 (tt 34)), uu 36 (.move (tt 1)), uu 37 (.move (tt 8)), uu 38 (.indexAddr 3 (tt 36) (tt 37)), uu 39 (.load true 3 (tt 38)), kk 40 (.bin .neq (.cells [.int, .int, .str]) (tt 35) (tt 39))] [])
 (.cond (tt 40) (SS (RR [kk 4 (.move (.const .nilsl)), kk 5 (.move (.const (.bool false)))])
 .ret) .skip)) (SS (RR [uu 42 (.bin .eql .no (tt 26) (ii 1)), kk 41 (.move (tt 42))])
 (.cond (tt 41) (SS (RR [uu 43 (.move (tt 6)), uu 44 (.move (tt 0)), uu 45 (.move (tt 8)), uu 46 (.indexAddr 5 (tt 44) (tt 45)), uu 47 (.fieldAddr 1 (tt 46)), uu 48 (.load false 1 (tt 47)), uu 49 (.call (.func f_ref19_place) [(tt 43), (tt 48)]), kk 9 (.move (tt 49))])
 (SS (RR [uu 50 (.move (tt 9)), kk 51 (.bin .lss .no (tt 50) (ii 0))])
 (.cond (tt 51) k_bnew (SS (.draw [uu 67 (.move (tt 7)), uu 68 (.move (tt 9)), uu 69 (.indexAddr 3 (tt 67) (tt 68)), uu 70 (.load true 3 (tt 69)), uu 71 (.move (tt 1)), uu 72 (.move (tt 8)), uu 73 (.indexAddr 3 (tt 71) (tt 72)), uu 74 (.load true 3 (tt 73)), kk 75 (.bin .neq (.cells [.int, .int, .str]) (tt 70) (tt 74))] [])
 (.cond (tt 75) (SS (RR [kk 4 (.move (.const .nilsl)), kk 5 (.move (.const (.bool false)))])
 .ret) .skip))))) (SS (RR [kk 4 (.move (.const .nilsl)), kk 5 (.move (.const (.bool false)))])
 .ret))))))))))
 (RR [uu 20 (.move (tt 8)), uu 21 (.bin .add .no (tt 20) (ii 1)), kk 8 (.move (tt 21))]))) := rfl
theorem vne {a b : Val} (h : ¬ a = b) : ¬a.kind = b.kind ∨ ¬a.n = b.n ∨ ¬a.s = b.s := by
 obtain ⟨a1, a2, a3⟩ := a
 obtain ⟨b1, b2, b3⟩ := b
 simp only [Val.mk.injEq] at h
 by_cases x : a1 = b1
 ·by_cases y : a2 = b2
  ·exact .inr (.inr fun z => h ⟨x, y, z⟩)
  ·exact .inr (.inl y)
 ·exact .inl x
theorem rbinds_run (l : List Term) (t : Tup) (v w : AV) (hv : Is v l) (hw : Is w t) (hl : l.length ≤ 2 ^ 20) (ht : t.length ≤ 2 ^ 20) : ∃ r, zu (callW tbl) loopW z13 [v, w] = some r ∧ r = bindsA (zq1 l t) := by
 have hlv := IsL.len hv
 have hlw := IsL.len hw
 refine pureK z13 rfl (fun F hF => ?_)
 unfold zq1 at hF
 by_cases hlen : l.length = t.length
 ·rw [if_pos hlen] at hF
  have hli : (l.length : Int) = (t.length : Int) := by omega
  simp [z13, c_ref19_bindings, hlv, hlw, hli, zr]
  refine zf (fun n s => ∃ (i : Nat) (ns : List ByteArray) (u : Tup) (w6 w7 : AV), i + n = l.length ∧ zi2 l t ([], []) = zi2 (l.drop i) (t.drop i) (ns, u) ∧ ns.length = u.length ∧ ns.length ≤ i ∧ NV s.heap w6 w7 ns u ∧ s.dfr = [] ∧ s.tm.get 0 = v ∧ s.tm.get 1 = w ∧ s.tm.get 6 = w6 ∧ s.tm.get 7 = w7 ∧ s.tm.get 8 = i64 i) l.length
   ⟨0, [], [], .nilsl, .sl 0 0 0 0, by omega, rfl, rfl, by simp, ⟨0, 0, rfl, by simp, .inl ⟨rfl, rfl⟩⟩, by simp, by simp, by simp, by simp, by simp, by simp⟩ ?_
  rintro n s Q ⟨i, ns, u, w6, w7, h0, hbf, hnu, hni, hN, q2, f0, f1, f6, f7, f8⟩ hgo hx
  have hwi : IntKind.i64.wrap ((i : Int) + 1) = ((i + 1 : Nat) : Int) := zi1 (by omega) (by omega)
  by_cases hi : i < l.length
  ·have hii : (i : Int) < (l.length : Int) := by omega
   have hit : i < t.length := by omega
   have hgi := List.getElem?_eq_getElem hi
   obtain ⟨fl, r, rfl, hidx⟩ := IsL.idx hv hgi
   simp only [show Enc.sz Term = 5 from rfl] at hidx
   obtain ⟨fl2, r2, rfl, hidt⟩ := IsL.idx hw (List.getElem?_eq_getElem hit)
   simp only [show Enc.sz Val = 3 from rfl] at hidt
   rw [List.drop_eq_getElem_cons hi, List.drop_eq_getElem_cons hit, zi2] at hbf
   generalize hx0 : l[i] = x at *
   generalize hy0 : t[i] = y at *
   have hpl := rplace_callS hN x.name (by omega)
   have hbad : zi2 l t ([], []) = none → F (.tuple [.nilsl, .bool false]) s.heap := fun h => by rw [h] at hF; exact hF _ _ _ (z7 rfl) rfl
   by_cases h3 : x.kind = 3
   ·simp [bstep, h3] at hbf
    simp [rb_l0, f0, f1, f8, hlv, hii, hidx, h3]
    exact hgo _ (n - 1) (by omega) ⟨i + 1, ns, u, w6, w7, by omega, hbf, hnu, by omega, hN, by simp [q2], by simp [f0], by simp [f1], by simp [f6], by simp [f7], by simp [hwi]⟩
   by_cases h2 : x.kind = 2
   ·by_cases he : x.v = y
    ·simp [bstep, h2, he] at hbf
     simp [rb_l0, f0, f1, f8, hlv, hii, hidx, hidt, h2, AV.rowok, neqVal, he]
     exact hgo _ (n - 1) (by omega) ⟨i + 1, ns, u, w6, w7, by omega, hbf, hnu, by omega, hN, by simp [q2], by simp [f0], by simp [f1], by simp [f6], by simp [f7], by simp [hwi]⟩
    ·simp [bstep, h2, he] at hbf
     have hd : (¬x.v.kind = y.kind ∨ ¬x.v.n = y.n ∨ ¬x.v.s = y.s) := vne he
     simp [rb_l0, f0, f1, f8, hlv, hii, hidx, hidt, h2, AV.rowok, neqVal]
     rw [if_pos hd]
     refine hx _ _ (by simp) ?_
     simp [q2]
     exact hbad hbf
   by_cases h1 : x.kind = 1
   ·cases hf : ns.findIdx? (fun m => decide (x.name = m)) with
    | none =>
      have hpz : placeZ ns x.name = -1 := by simp [placeZ, hf]
      rw [hpz] at hpl
      simp [bstep, h1, hf] at hbf
      simp [rb_l0, f0, f1, f6, f8, hlv, hii, hidx, h1, hpl]
      refine bnew_run _ w6 w7 v w ns u x y i (by simpa using hN) (by omega) (by omega) (by simp [f0]) (by simp [f1]) (by simp [f6]) (by simp [f7]) (by simp [f8]) hidx hidt (fun H' v6 v7 hN' => ?_)
      simp [f8]
      exact hgo _ (n - 1) (by omega) ⟨i + 1, ns ++ [x.name], u ++ [y], v6, v7, by omega, hbf, by simp [hnu], by simp; omega, by simpa using hN', by simp [q2], by simp [f0], by simp [f1], by simp, by simp, by simp [hwi]⟩
    | some k =>
      have hpz : placeZ ns x.name = (k : Int) := by simp [placeZ, hf]
      rw [hpz] at hpl
      obtain ⟨hkn, _⟩ := List.findIdx?_eq_some_iff_getElem.1 hf
      have hku : k < u.length := by omega
      have hk0 : ¬ (k : Int) < 0 := by omega
      have hk1 : (0 : Int) ≤ (k : Int) := by omega
      obtain ⟨i7, g7, rfl, hb7, _⟩ := hN.v
      have k7 := zf1 hb7
      have n7 := lt_of hb7
      have hgu : u[k]? = some u[k] := by simp [hku]
      by_cases he : u[k] = y
      ·simp [bstep, h1, hf, hku, he] at hbf
       simp [rb_l0, f0, f1, f6, f7, f8, hlv, hii, hidx, hidt, h1, hpl, hk0, hk1, k7, n7, hku, AV.rowok, neqVal, he]
       exact hgo _ (n - 1) (by omega) ⟨i + 1, ns, u, w6, _, by omega, hbf, hnu, by omega, hN, by simp [q2], by simp [f0], by simp [f1], by simp [f6], by simp [f7], by simp [hwi]⟩
      ·simp [bstep, h1, hf, hku, he] at hbf
       have hd : (¬u[k].kind = y.kind ∨ ¬u[k].n = y.n ∨ ¬u[k].s = y.s) := vne he
       simp [rb_l0, f0, f1, f6, f7, f8, hlv, hii, hidx, hidt, h1, hpl, hk0, hk1, k7, n7, hku, AV.rowok, neqVal]
       rw [if_pos hd]
       refine hx _ _ (by simp) ?_
       simp [q2]
       exact hbad hbf
   ·simp [bstep, h1, h2, h3] at hbf
    simp [rb_l0, f0, f1, f8, hlv, hii, hidx, h1, h2, h3]
    refine hx _ _ (by simp) ?_
    simp [q2]
    exact hbad hbf
  ·have hii : ¬ (i : Int) < (l.length : Int) := by omega
   have hil : i = l.length := by omega
   have hdl : l.drop i = [] := List.drop_eq_nil_of_le (by omega)
   rw [hdl, zi2] at hbf
   obtain ⟨i7, g7, hw7, hb7, _⟩ := hN.v
   simp [rb_l0, f0, f8, hlv, hii]
   refine hx _ _ (by simp) ?_
   simp [q2, f7]
   have hre : reify s.heap zx (.tuple [w7, .bool true]) = some (.tuple [tupA u, .bool true]) := by
    rw [hw7]
    exact reify_tuple2 (by simp [AV.plain, AV.plains]) (reify_rowsK (k := 9) hb7 (by simp) (by simp [List.take_of_length_le]) (encs_is (fun _ => rfl) u)) (reify_plain' rfl)
   exact hF _ _ _ hre (by rw [hbf]; rfl)
 ·have hli : ¬ (l.length : Int) = (t.length : Int) := by omega
  rw [if_neg hlen] at hF
  simp [z13, c_ref19_bindings, hlv, hlw, hli]
  exact hF _ _ _ (z7 rfl) rfl
end Go.Abs.Plan
namespace Go.Abs.Plan
open Enc (Is)
def IsB (r : AV) (o : Option Tup) : Prop := ∃ w b, r = .tuple [w, .bool b] ∧ b = o.isSome ∧ ∀ u, o = some u → Is w u
theorem rbinds_call (l : List Term) (t : Tup) (v w : AV) (hv : Is v l) (hw : Is w t) (hl : l.length ≤ 2 ^ 20) (ht : t.length ≤ 2 ^ 20) (H : Heap) : ∃ r, callW tbl (.func f_ref19_bindings [] []) [v, w] H = some (r, H) ∧ IsB r (zq1 l t) :=
 callP2 (tbl := tbl) (f := f_ref19_bindings) (af := z13) rfl rfl (S := fun r => IsB r (zq1 l t)) l t (by
  rintro r ⟨w, b, rfl, h1, h2⟩
  exact ⟨w.lend, b, rfl, h1, fun u h => Enc.lend (h2 u h)⟩) (fun v w hv hw => by
  obtain ⟨r, h, rfl⟩ := rbinds_run l t v w hv hw hl ht
  refine ⟨_, h, ?_⟩
  cases zq1 l t with
  | none => exact ⟨_, _, rfl, rfl, by simp⟩
  | some u => exact ⟨_, _, rfl, rfl, by rintro _ ⟨⟩; exact tupA_is u⟩) v w hv hw H
theorem rows_l0 : c_ref19_rows_l0 = (SS (SS (RR [uu 9 (.move (tt 6)), uu 10 (.move (tt 1)), uu 11 (.len .slice (tt 10)), kk 12 (.bin .lss .no (tt 9) (tt 11))])
 (.cond (tt 12) .skip (.exit 0)))
 (SS (.block 1 (SS (RR [uu 16 (.move (tt 0)), uu 17 (.move (tt 1)), uu 18 (.move (tt 6)), uu 19 (.indexAddr 1 (tt 17) (tt 18)), uu 20 (.load false 1 (tt 19)), uu 21 (.call (.func f_ref19_bindings) [(tt 16), (tt 20)]), uu 15 (.move (tt 21)), uu 22 (.extract (tt 15) 0), uu 23 (.extract (tt 15) 1), kk 7 (.move (tt 22)), kk 8 (.move (tt 23))])
 (SS (RR [kk 24 (.move (tt 8))])
 (.cond (tt 24) (RR [uu 25 (.move (tt 5)), uu 26 (.move (tt 7)), uu 27 (.buildSliceF .nilsl 1 [(0, (tt 26))]), uu 28 (.append 1 24 (tt 25) (tt 27)), kk 5 (.move (tt 28))]) .skip))))
 (RR [uu 13 (.move (tt 6)), uu 14 (.bin .add .no (tt 13) (ii 1)), kk 6 (.move (tt 14))]))) := rfl
theorem bindsOf_len {l : List Term} {t u : Tup} (h : zq1 l t = some u) : u.length ≤ t.length := by
 unfold zq1 at h
 split at h
 ·have := bindsFrom_len h
  simp at this; omega
 ·cases h
def rrowsL (l : List Term) (rel : List Tup) : List Tup := sortT (rel.filterMap (zq1 l))
theorem rrows_run (l : List Term) (rel : List Tup) (v w : AV) (hv : Is v l) (hw : Is w rel) (hl : l.length ≤ 2 ^ 20) (hr : rel.length ≤ 2 ^ 20) (ht : ∀ t ∈ rel, t.length ≤ 2 ^ 20) : ∃ r, zu (callW tbl) loopW a_ref19_rows [v, w] = some r ∧ Is r (rrowsL l rel) := by
 have hlw := IsL.len hw
 refine pureK a_ref19_rows rfl (fun F hF => ?_)
 simp [a_ref19_rows, c_ref19_rows]
 refine zf (fun n s => ∃ (i : Nat) (u : AV) (rows : List AV), i + n = rel.length ∧ Acc [] 1 u s.heap rows ∧ All2 Is rows ((rel.take i).filterMap (zq1 l)) ∧ s.dfr = [] ∧ s.tm.get 0 = v ∧ s.tm.get 1 = w ∧ s.tm.get 5 = u ∧ s.tm.get 6 = i64 i) rel.length
  ⟨0, .nilsl, [], by omega, Acc.nil, by simp; exact .nil, by simp, by simp, by simp, by simp, by simp⟩ ?_
 rintro n s Q ⟨i, u, rows, h0, hacc, hrows, q2, f0, f1, f5, f6⟩ hgo hx
 have hwi : IntKind.i64.wrap ((i : Int) + 1) = ((i + 1 : Nat) : Int) := zi1 (by omega) (by omega)
 have hrl := hrows.length
 have hfl := List.length_filterMap_le (zq1 l) (rel.take i)
 by_cases hi : i < rel.length
 ·have hii : (i : Int) < (rel.length : Int) := by omega
  have hgi := List.getElem?_eq_getElem hi
  have htk : rel.take (i + 1) = rel.take i ++ [rel[i]] := by rw [List.take_add_one, hgi]; rfl
  obtain ⟨fl, r, hr0, hidx⟩ := IsL.idx hw hgi
  simp only [show Enc.sz Tup = 1 from rfl] at hidx
  have hcr := zm hr0
  have hti := ht _ (List.getElem_mem hi)
  obtain ⟨rb, hcb, wb, bb, rfl, hbb, hwb⟩ := rbinds_call l rel[i] v r hv hr0 hl hti s.heap
  cases hb : zq1 l rel[i] with
  | none =>
    rw [hb] at hbb
    simp at hbb
    subst hbb
    simp [rows_l0, f0, f1, f5, f6, hlw, hii, hidx, hcr, hcb]
    exact hgo _ (n - 1) (by omega) ⟨i + 1, u, rows, by omega, hacc, by rw [htk, List.filterMap_append]; simp only [List.filterMap_cons, hb, List.filterMap_nil, List.append_nil]; exact hrows, by simp [q2], by simp [f0], by simp [f1], by simp [f5], by simp [hwi]⟩
  | some y =>
    rw [hb] at hbb hwb
    simp at hbb
    subst hbb
    have hy := hwb _ rfl
    have hcy := zm hy
    have hry := Enc.row hy
    simp only [show Enc.sz Tup = 1 from rfl] at hry
    obtain ⟨u', Hs', hacc', hstep⟩ := Acc.one (call := callW tbl) (lp := loopW) (bytes := 24) (fl := false) hacc hry (by
     have : rows.length ≤ 2 ^ 20 := by rw [hrl]; simp at hfl ⊢; omega
     omega)
    simp [rows_l0, f0, f1, f5, f6, hlw, hii, hidx, hcr, hcb, hcy, hry, zr, hstep]
    exact hgo _ (n - 1) (by omega) ⟨i + 1, u', rows ++ [wb], by omega, by simpa using hacc', by
     rw [htk, List.filterMap_append]; simp only [List.filterMap_cons, hb, List.filterMap_nil]; exact hrows.append (.cons hy .nil), by simp [q2], by simp [f0], by simp [f1], by simp, by simp [hwi]⟩
 ·have hii : ¬ (i : Int) < (rel.length : Int) := by omega
  have hil : i = rel.length := by omega
  have htk : rel.take i = rel := List.take_of_length_le (by omega)
  rw [htk] at hrows hrl hfl
  have hlen2 : (rel.filterMap (zq1 l)).length ≤ 2 ^ 20 := by omega
  have htl : ∀ t ∈ rel.filterMap (zq1 l), t.length < 2 ^ 40 := fun t h => by
   obtain ⟨x, hx1, hx2⟩ := List.mem_filterMap.1 h
   have := bindsOf_len hx2
   have := ht x hx1
   omega
  simp [rows_l0, f0, f1, f6, hlw, hii]
  refine hx _ _ (by simp) ?_
  rcases hacc with ⟨hr1, hr2, hr3⟩ | ⟨g, hr1, hr2, hr3⟩
  ·rw [hr2] at f5
   rw [hr1] at hrows
   obtain ⟨r, hcs, hrs⟩ := sorted_call (rel.filterMap (zq1 l)) .nilsl (by cases h : rel.filterMap (zq1 l) with
    | nil => exact IsL.nil
    | cons a b => rw [h] at hrows; cases hrows) hlen2 htl [] (by simp [HOK])
   simp [f5, hr3, hcs, q2]
   exact hF _ _ _ (z7 (Enc.plain hrs)) hrs
  ·rw [hr2] at f5
   have hpr : AV.plains rows = true := rows_plain hrows
   obtain ⟨r, hcs, hrs⟩ := sorted_call (rel.filterMap (zq1 l)) (.fsl false rows) (IsL.fsl hrows) hlen2 htl [.dead g] (by simp [HOK]; rfl)
   have hsl : z63 g 0 rows.length (.arr g 1 rows) = some rows := by simp [z63]
   simp [f5, hr3, hat, hsl, hpr, hcs, q2]
   exact hF _ _ _ (z7 (Enc.plain hrs)) hrs
theorem rrows_call (l : List Term) (rel : List Tup) (v w : AV) (hv : Is v l) (hw : Is w rel) (hl : l.length ≤ 2 ^ 20) (hr : rel.length ≤ 2 ^ 20) (ht : ∀ t ∈ rel, t.length ≤ 2 ^ 20) (H : Heap) : ∃ r, callW tbl (.func f_ref19_rows [] []) [v, w] H = some (r, H) ∧ Is r (rrowsL l rel) :=
 callP2 (tbl := tbl) (f := f_ref19_rows) (af := a_ref19_rows) rfl rfl (S := fun r => Is r (rrowsL l rel)) l rel (fun r h => Enc.lend h) (fun v w hv hw => rrows_run l rel v w hv hw hl hr ht) v w hv hw H
end Go.Abs.Plan
namespace Go.Abs
open Enc (Is)
class Dec (α : Type) [Enc α] where
 dec : AV → Option α
 sound : ∀ {v : AV} {x : α}, dec v = some x → Is v x
 compl : ∀ {v : AV} {x : α}, Is v x → dec v = some x
def decAll {α : Type} (f : AV → Option α) : List AV → Option (List α)
 | [] => some []
 | a :: l => match f a, decAll f l with
   | some x, some xs => some (x :: xs)
   | _, _ => none
def decList {α : Type} (f : AV → Option α) : AV → Option (List α)
 | .nilsl => some []
 | .fsl _ rows => decAll f rows
 | _ => none
theorem decAll_sound {α : Type} [Enc α] [Dec α] : ∀ {l : List AV} {xs : List α}, decAll Dec.dec l = some xs → All2 Is l xs
 | [], xs, h => by simp [decAll] at h; subst h; exact .nil
 | a :: l, xs, h => by
   simp only [decAll] at h
   split at h
   ·rename_i x ys h1 h2
    simp only [Option.some.injEq] at h; subst h
    exact .cons (Dec.sound h1) (decAll_sound h2)
   ·simp at h
theorem decAll_compl {α : Type} [Enc α] [Dec α] {l : List AV} {xs : List α} (h : All2 Is l xs) : decAll Dec.dec l = some xs := by
 induction h with
 | nil => rfl
 | cons h _ ih => simp only [decAll, Dec.compl h, ih]
instance {α : Type} [Enc α] [Dec α] : Dec (List α) where
 dec := decList Dec.dec
 sound := by
  intro v xs h
  unfold decList at h
  split at h
  ·simp at h; subst h; exact IsL.nil
  ·exact IsL.fsl (decAll_sound h)
  ·simp at h
 compl := by
  rintro v xs (⟨rfl, rfl⟩ | ⟨fl, rows, rfl, h⟩)
  ·rfl
  ·exact decAll_compl h
instance : Dec ByteArray where
 dec
  | .str s => some s
  | _ => none
 sound := by
  intro v x h
  split at h <;> simp at h
  subst h; rfl
 compl := by rintro v x rfl; rfl
instance : Dec Val where
 dec
  | .agg [.int .i64 k, .int .i64 n, .str s] => some ⟨k, n, s⟩
  | _ => none
 sound := by
  intro v x h
  split at h <;> simp at h
  subst h; rfl
 compl := by rintro v x rfl; rfl
instance : Dec Term where
 dec
  | .agg [.int .i64 k, .str nm, .int .i64 vk, .int .i64 vn, .str vs] => some ⟨k, nm, ⟨vk, vn, vs⟩⟩
  | _ => none
 sound := by
  intro v x h
  split at h <;> simp at h
  subst h; rfl
 compl := by rintro v x rfl; rfl
instance : Dec Col where
 dec
  | .agg [.int .i64 u, .int .i64 k, .int .i64 vk, .int .i64 vn, .str vs] => some ⟨u, k, ⟨vk, vn, vs⟩⟩
  | _ => none
 sound := by
  intro v x h
  split at h <;> simp at h
  subst h; rfl
 compl := by rintro v x rfl; rfl
instance : Dec RelOf where
 dec
  | .agg [.str nm, a] => (Dec.dec a).map fun r => ⟨nm, r⟩
  | _ => none
 sound := by
  intro v x h
  split at h
  ·rw [Option.map_eq_some_iff] at h
   obtain ⟨r, h1, rfl⟩ := h
   exact ⟨_, Dec.sound h1, rfl⟩
  ·simp at h
 compl := by rintro v x ⟨a, h, rfl⟩; simp only [Dec.compl h]; rfl
instance : Dec Lit where
 dec
  | .agg [.int .i64 k, .str pr, a, .int .i64 op, .int .i64 ak, .str an, .int .i64 avk, .int .i64 avn, .str avs, .int .i64 bk, .str bn, .int .i64 bvk, .int .i64 bvn, .str bvs] => (Dec.dec a).map fun as => ⟨k, ⟨pr, as⟩, op, ⟨ak, an, ⟨avk, avn, avs⟩⟩, ⟨bk, bn, ⟨bvk, bvn, bvs⟩⟩⟩
  | _ => none
 sound := by
  intro v x h
  split at h
  ·rw [Option.map_eq_some_iff] at h
   obtain ⟨r, h1, rfl⟩ := h
   exact ⟨_, Dec.sound h1, rfl⟩
  ·simp at h
 compl := by rintro v x ⟨a, h, rfl⟩; simp only [Dec.compl h]; rfl
instance : Dec Step where
 dec
  | .agg [.int .i64 op, .int .i64 lit, .str pr, .bool old, c, .int .i64 cmp, .int .i64 au, .int .i64 av, .int .i64 avk, .int .i64 avn, .str avs, .int .i64 bu, .int .i64 bv, .int .i64 bvk, .int .i64 bvn, .str bvs] => (Dec.dec c).map fun cs => ⟨op, lit, pr, old, cs, cmp, ⟨au, av, ⟨avk, avn, avs⟩⟩, ⟨bu, bv, ⟨bvk, bvn, bvs⟩⟩⟩
  | _ => none
 sound := by
  intro v x h
  split at h
  ·rw [Option.map_eq_some_iff] at h
   obtain ⟨r, h1, rfl⟩ := h
   exact ⟨_, Dec.sound h1, rfl⟩
  ·simp at h
 compl := by rintro v x ⟨a, h, rfl⟩; simp only [Dec.compl h]; rfl
instance : Dec Plan where
 dec
  | .agg [a, b, .str pr, c] => match Dec.dec a, Dec.dec b, Dec.dec c with
    | some vars, some steps, some head => some ⟨vars, steps, pr, head⟩
    | _, _, _ => none
  | _ => none
 sound := by
  intro v x h
  split at h
  ·split at h
   ·rename_i h1 h2 h3
    simp only [Option.some.injEq] at h; subst h
    exact ⟨_, _, _, Dec.sound h1, Dec.sound h2, Dec.sound h3, rfl⟩
   ·simp at h
  ·simp at h
 compl := by rintro v x ⟨a, b, c, h1, h2, h3, rfl⟩; simp only [Dec.compl h1, Dec.compl h2, Dec.compl h3]
end Go.Abs
namespace Go.Abs.Plan
open Enc (Is)
instance (v : Val) : Decidable (ValOk v) := decidable_of_iff (-2 ^ 63 ≤ v.kind ∧ v.kind < 2 ^ 63 ∧ -2 ^ 63 ≤ v.n ∧ v.n < 2 ^ 63 ∧ v.s.data.toList.length ≤ 2 ^ 20) ⟨fun h => ⟨h.1, h.2.1, h.2.2.1, h.2.2.2.1, h.2.2.2.2⟩, fun h => ⟨h.k1, h.k2, h.n1, h.n2, h.s⟩⟩
instance (t : Tup) : Decidable (TupOk t) := decidable_of_iff (t.length ≤ 2 ^ 20 ∧ ∀ v ∈ t, ValOk v) ⟨fun h => ⟨h.1, h.2⟩, fun h => ⟨h.len, h.val⟩⟩
def RowsOk (l : List Tup) : Prop := l.length ≤ 2 ^ 20 ∧ ∀ t ∈ l, TupOk t
instance (l : List Tup) : Decidable (RowsOk l) := by unfold RowsOk; exact inferInstance
instance (l : List RelOf) : Decidable (RelsOk l) := decidable_of_iff (l.length ≤ 2 ^ 20 ∧ ∀ r ∈ l, RowsOk r.rel) ⟨fun h => ⟨h.1, h.2⟩, fun h => ⟨h.len, h.rel⟩⟩
instance (old now : List RelOf) (delta : List Tup) : Decidable (ArgsOk old now delta) := decidable_of_iff (RelsOk old ∧ RelsOk now ∧ RowsOk delta) ⟨fun h => ⟨h.1, h.2.1, h.2.2⟩, fun h => ⟨h.old, h.now, h.dlt⟩⟩
instance (p : Plan) : Decidable (PlanVals p) := by unfold PlanVals; exact inferInstance
def okPlanB (p : Plan) : Bool := decide (p.vars.length ≤ 64) && (decide (p.head.length ≤ 8) && (decide (p.steps.length < 2 ^ 40) && (match z43 p.vars.length true 0 p.steps with
 | some B => (zs2 p.vars.length false false B p.head).isSome
 | none => false)))
theorem okPlanB_iff (p : Plan) : okPlanB p = true ↔ OkPlan p := by
 simp only [okPlanB, Bool.and_eq_true, decide_eq_true_eq]
 constructor
 ·rintro ⟨h1, h2, h3, h4⟩
  split at h4
  ·rename_i B hB
   obtain ⟨B', hB'⟩ := Option.isSome_iff_exists.1 h4
   exact ⟨h1, h2, h3, B, B', hB, hB'⟩
  ·cases h4
 ·rintro ⟨h1, h2, h3, B, B', hB, hB'⟩
  exact ⟨h1, h2, h3, by rw [hB]; simp [hB']⟩
def gTurned : List AV → Option AV
 | [v, w, x] => match (Dec.dec v : Option Lit), (Dec.dec w : Option (List Tup)), (Dec.dec x : Option (List Tup)) with
   | some l, some old, some now => if l.atom.args.length ≤ 2 ^ 20 ∧ RowsOk old ∧ RowsOk now then some (turnedA l old now) else none
   | _, _, _ => none
 | _ => none
structure RunArgs (p : Plan) (old now : List RelOf) (delta : List Tup) : Prop where
 s : p.steps.length ≤ 2 ^ 20
 v : PlanVals p
 h : ∀ c ∈ p.head, ValOk c.v
 a : ArgsOk old now delta
 few : okPlanB p = true → (allT p old now delta).length ≤ 2 ^ 30
instance (p : Plan) (old now : List RelOf) (delta : List Tup) : Decidable (RunArgs p old now delta) := decidable_of_iff (p.steps.length ≤ 2 ^ 20 ∧ PlanVals p ∧ (∀ c ∈ p.head, ValOk c.v) ∧ ArgsOk old now delta ∧ (okPlanB p = true → (allT p old now delta).length ≤ 2 ^ 30))
 ⟨fun h => ⟨h.1, h.2.1, h.2.2.1, h.2.2.2.1, h.2.2.2.2⟩, fun h => ⟨h.s, h.v, h.h, h.a, h.few⟩⟩
def bindR (p : Plan) (old now : List RelOf) (delta : List Tup) : List Tup := sortT (allT p old now delta)
def runR (p : Plan) (old now : List RelOf) (delta : List Tup) : List Counted := cntsOf ((bindR p old now delta).map (headT p))
def bindResA (p : Plan) (old now : List RelOf) (delta : List Tup) : AV := if okPlanB p = true then .tuple [relA (bindR p old now delta), i64 0] else .tuple [.nilsl, i64 180]
def runResA (p : Plan) (old now : List RelOf) (delta : List Tup) : AV := if okPlanB p = true then .tuple [relC (runR p old now delta), i64 0] else .tuple [.nilsl, i64 180]
def gOf (f : Plan → List RelOf → List RelOf → List Tup → AV) : List AV → Option AV
 | [vp, vo, vn, vd] => match (Dec.dec vp : Option Plan), (Dec.dec vo : Option (List RelOf)), (Dec.dec vn : Option (List RelOf)), (Dec.dec vd : Option (List Tup)) with
   | some p, some old, some now, some delta => if RunArgs p old now delta then some (f p old now delta) else none
   | _, _, _, _ => none
 | _ => none
theorem bindL_eq {p : Plan} (h : OkPlan p) (old now : List RelOf) (delta : List Tup) : bindL p old now delta = bindR p old now delta := by
 unfold bindL bindR
 rw [found_eq h]
 obtain ⟨h1, h2⟩ := zn2 (addsT [] (allT p old now delta))
 refine sortT_of h1 (fun y => ?_)
 rw [h2, (addsT_facts _ [] List.nodup_nil).2.2 y]; simp
def tblL (f : FuncId) : Option AFun := if f = 12 then some (.law (gOf bindResA)) else if f = 14 then some (.law (gOf runResA)) else if f = 18 then some (.law gTurned) else tbl f
theorem subL : TSub tbl tblL := by
 intro f x h
 unfold tblL
 have h12 : tbl 12 = none := rfl
 have h14 : tbl 14 = none := rfl
 have h18 : tbl 18 = none := rfl
 split
 ·rename_i e; subst e; rw [h12] at h; cases h
 ·split
  ·rename_i e; subst e; rw [h14] at h; cases h
  ·split
   ·rename_i e; subst e; rw [h18] at h; cases h
   ·exact h
theorem run_call (k : Nat) (p : Plan) (old now : List RelOf) (delta : List Tup) (vp vo vn vd : AV) (hp : Is vp p) (ho : Is vo old) (hnw : Is vn now) (hd : Is vd delta) (hr : RunArgs p old now delta) (H : Heap) :
 NW tblN (k + 7) (.func f_exec_Run [] []) [vp, vo, vn, vd] H (fun r H' => r = runResA p old now delta ∧ H' = H) := by
 have hun : (runResA p old now delta).unlent = true := by
  unfold runResA
  split
  ·simp [AV.unlent, AV.unlents, relC_unlent]
  ·rfl
 have hfew : OkPlan p → (foundL p old now delta).length ≤ 2 ^ 30 := fun h => by rw [found_eq h]; exact hr.few ((okPlanB_iff p).2 h)
 have conv : ∀ r, ((OkPlan p → r = .tuple [relC (runL p old now delta), i64 0]) ∧ (¬ OkPlan p → r = .tuple [.nilsl, i64 180])) → r = runResA p old now delta := fun r h => by
  unfold runResA
  split
  ·rename_i hb
   have hok := (okPlanB_iff p).1 hb
   rw [h.1 hok, runL, bindL_eq hok]; rfl
  ·rename_i hb
   exact h.2 (fun hok => hb ((okPlanB_iff p).2 hok))
 refine ncallP (af := a_exec_Run) rfl rfl (by simp [AV.plains, Enc.plain hp, Enc.plain ho, Enc.plain hnw, Enc.plain hd]) ?_
 split
 ·refine NPURE_mono (NW_mono _) (run_run k p old now delta vp vo vn vd hp ho hnw hd hr.s hr.v hr.h hr.a hfew) ?_
  intro r h
  exact ⟨conv r h, rfl⟩
 ·refine NPURE_mono (NW_mono _) (run_run k p old now delta vp.lend vo.lend vn.lend vd.lend (Enc.lend hp) (Enc.lend ho) (Enc.lend hnw) (Enc.lend hd) hr.s hr.v hr.h hr.a hfew) ?_
  intro r h
  rw [conv r h, hun]
  simp
theorem bind_call (k : Nat) (p : Plan) (old now : List RelOf) (delta : List Tup) (vp vo vn vd : AV) (hp : Is vp p) (ho : Is vo old) (hnw : Is vn now) (hd : Is vd delta) (hr : RunArgs p old now delta) (H : Heap) :
 NW tblN (k + 6) (.func f_exec_Bindings [] []) [vp, vo, vn, vd] H (fun r H' => r = bindResA p old now delta ∧ H' = H) := by
 have hfew : OkPlan p → (foundL p old now delta).length ≤ 2 ^ 30 := fun h => by rw [found_eq h]; exact hr.few ((okPlanB_iff p).2 h)
 refine NW_mono _ _ _ _ _ _ (bindings_call k p old now delta vp vo vn vd hp ho hnw hd hr.s hr.v hr.a hfew H) ?_
 rintro r H' ⟨rfl, rfl⟩
 refine ⟨?_, rfl⟩
 unfold bindA bindResA
 by_cases hok : OkPlan p
 ·rw [if_pos hok, if_pos ((okPlanB_iff p).2 hok), bindL_eq hok]
 ·rw [if_neg hok, if_neg (fun hb => hok ((okPlanB_iff p).1 hb))]
theorem gTurned_N (args : List AV) (r : AV) (h : gTurned args = some r) (H : Heap) : NW tblN 2 (.func f_exec_Turned [] []) args H (fun r' H' => r' = r ∧ H' = H) := by
 unfold gTurned at h
 split at h
 ·split at h
  ·rename_i l old now h1 h2 h3
   split at h
   ·rename_i hc
    simp only [Option.some.injEq] at h; subst h
    exact turned_call 0 l old now _ _ _ (Dec.sound h1) (Dec.sound h2) (Dec.sound h3) hc.1 hc.2.1.1 hc.2.2.1 hc.2.1.2 hc.2.2.2 H
   ·simp at h
  ·simp at h
 ·simp at h
theorem gRun_N (args : List AV) (r : AV) (h : gOf runResA args = some r) (H : Heap) : NW tblN 7 (.func f_exec_Run [] []) args H (fun r' H' => r' = r ∧ H' = H) := by
 unfold gOf at h
 split at h
 ·split at h
  ·rename_i p old now delta h1 h2 h3 h4
   split at h
   ·rename_i hc
    simp only [Option.some.injEq] at h; subst h
    exact run_call 0 p old now delta _ _ _ _ (Dec.sound h1) (Dec.sound h2) (Dec.sound h3) (Dec.sound h4) hc H
   ·simp at h
  ·simp at h
 ·simp at h
theorem gBind_N (args : List AV) (r : AV) (h : gOf bindResA args = some r) (H : Heap) : NW tblN 6 (.func f_exec_Bindings [] []) args H (fun r' H' => r' = r ∧ H' = H) := by
 unfold gOf at h
 split at h
 ·split at h
  ·rename_i p old now delta h1 h2 h3 h4
   split at h
   ·rename_i hc
    simp only [Option.some.injEq] at h; subst h
    exact bind_call 0 p old now delta _ _ _ _ (Dec.sound h1) (Dec.sound h2) (Dec.sound h3) (Dec.sound h4) hc H
   ·simp at h
  ·simp at h
 ·simp at h
end Go.Abs.Plan
