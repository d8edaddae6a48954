/- Abs 31: what is said of calls without a bound holds with one. -/
import Derived.Test.YtddpdpjpfgnhmaaGreatG19x
set_option linter.unusedSimpArgs false
set_option linter.unusedVariables false
set_option maxHeartbeats 4000000
namespace Go.Abs
variable {tbl : FuncId → Option AFun}
abbrev lpK (k : Nat) : LoopF := fun f => aloop f k
theorem runAct_fin {slot : Option Nat} {H : Heap} {A : Action} {r : AV × Heap} (h : zb (callW tbl) slot H A = some r) : ∃ k, zb (callK tbl k) slot H A = some r := by
 cases A <;> first | exact ⟨0, h⟩ | exact z14.1 h | skip
 rename_i f args
 simp only [zb] at h ⊢
 split at h
 ·rename_i v hv
  split at hv
  ·rename_i hp
   obtain ⟨k, hk⟩ := z14.1 hv
   exact ⟨k, by rw [if_pos hp, hk]; exact h⟩
  ·simp at hv
 ·simp at h
theorem stepA_fin {slot : Option Nat} {o : AOper} {s s' : RSt} (h : stepA (callW tbl) slot o s = some s') : ∃ k, stepA (callK tbl k) slot o s = some s' := by
 unfold stepA at h
 split at h
 ·rename_i hw
  split at h
  ·rename_i hr
   obtain ⟨k, hk⟩ := runAct_fin hr
   exact ⟨k, by unfold stepA; rw [hw]; simp only [hk]; exact h⟩
  ·simp at h
 ·rename_i hw; exact ⟨0, by unfold stepA; rw [hw]; exact h⟩
 ·simp at h
theorem runOps_fin : ∀ {ops : List AOper} {s s' : RSt}, runOps (callW tbl) ops s = some s' → ∃ k, runOps (callK tbl k) ops s = some s'
 | [], s, s', h => ⟨0, h⟩
 | o :: os, s, s', h => by
   simp only [runOps] at h
   split at h
   ·rename_i s1 h1
    obtain ⟨k1, g1⟩ := stepA_fin h1
    obtain ⟨k2, g2⟩ := runOps_fin h
    refine ⟨max k1 k2, ?_⟩
    simp only [runOps]
    rw [stepA_mono (callK_mono (Nat.le_max_left k1 k2)) g1]
    exact runOps_mono (callK_mono (Nat.le_max_right k1 k2)) g2
   ·simp at h
theorem stepRec_fin {slot : Nat} {o : AOper} {s : RSt} {r : RSt × Rec} (h : stepRec (callW tbl) slot o s = some r) : ∃ k, stepRec (callK tbl k) slot o s = some r := by
 unfold stepRec at h
 split at h
 ·rename_i hw
  split at h
  ·rename_i hr
   obtain ⟨k, hk⟩ := runAct_fin hr
   exact ⟨k, by unfold stepRec; rw [hw]; simp only [hk]; exact h⟩
  ·simp at h
 ·rename_i hw; exact ⟨0, by unfold stepRec; rw [hw]; exact h⟩
 ·simp at h
theorem runRecs_fin : ∀ {ops : List (Nat × AOper)} {s : RSt} {r : RSt × List Rec}, zg2 (callW tbl) ops s = some r → ∃ k, zg2 (callK tbl k) ops s = some r
 | [], s, r, h => ⟨0, h⟩
 | (i, o) :: os, s, r, h => by
   simp only [zg2] at h
   split at h
   ·rename_i s1 r1 h1
    obtain ⟨k1, g1⟩ := stepRec_fin h1
    split at h
    ·rename_i h2
     obtain ⟨k2, g2⟩ := runRecs_fin h2
     refine ⟨max k1 k2, ?_⟩
     simp only [zg2]
     rw [stepRec_mono (callK_mono (Nat.le_max_left k1 k2)) g1]
     simp only
     rw [runRecs_mono (callK_mono (Nat.le_max_right k1 k2)) g2]
     exact h
    ·simp at h
   ·simp at h
theorem exec_up {k k' : Nat} (h : k ≤ k') {c : ACode} {s : St} {r : AExit × St} (he : exec (callK tbl k) (lpK k) c s = some r) : exec (callK tbl k') (lpK k') c s = some r :=
 exec_mono (callK_mono h) (loops_le h) c s r he
theorem exec_fin : ∀ (c : ACode) (s : St) (r : AExit × St), exec (callW tbl) loopW c s = some r → ∃ k, exec (callK tbl k) (lpK k) c s = some r := by
 intro c
 induction c with
 | skip => intro s r h; exact ⟨0, h⟩
 | region ops =>
   intro s r h
   simp only [exec] at h
   split at h
   ·rename_i h1
    obtain ⟨k, hk⟩ := runOps_fin h1
    exact ⟨k, by simp only [exec, hk]; exact h⟩
   ·simp at h
 | draw ops ps =>
   intro s r h
   simp only [exec] at h
   split at h
   ·rename_i h1
    obtain ⟨k, hk⟩ := runRecs_fin h1
    exact ⟨k, by simp only [exec, hk]; exact h⟩
   ·simp at h
 | seq a b iha ihb =>
   intro s r h
   simp only [exec] at h
   split at h
   ·rename_i h1
    obtain ⟨k1, g1⟩ := iha _ _ h1
    obtain ⟨k2, g2⟩ := ihb _ _ h
    refine ⟨max k1 k2, ?_⟩
    simp only [exec]
    rw [exec_up (Nat.le_max_left k1 k2) g1]
    exact exec_up (Nat.le_max_right k1 k2) g2
   ·rename_i hne
    obtain ⟨k, hk⟩ := iha _ _ h
    refine ⟨k, ?_⟩
    simp only [exec, hk]
    split
    ·rename_i s1 e; cases e; exact absurd h (hne s1)
    ·rfl
 | cond c a b iha ihb =>
   intro s r h
   simp only [exec] at h
   split at h
   ·rename_i ht; obtain ⟨k, hk⟩ := iha _ _ h; exact ⟨k, by simp only [exec, ht]; exact hk⟩
   ·rename_i ht; obtain ⟨k, hk⟩ := ihb _ _ h; exact ⟨k, by simp only [exec, ht]; exact hk⟩
   ·simp at h
 | block id a ih =>
   intro s r h
   simp only [exec] at h
   split at h
   ·rename_i h1
    obtain ⟨k, hk⟩ := ih _ _ h1
    exact ⟨k, by simp only [exec, hk]; exact h⟩
   ·rename_i hne
    obtain ⟨k, hk⟩ := ih _ _ h
    refine ⟨k, ?_⟩
    simp only [exec, hk]
    split
    ·rename_i j s1 e; cases e; exact absurd h (hne j s1)
    ·rfl
 | loop a ih =>
   intro s r h
   simp only [exec] at h
   obtain ⟨n, hn⟩ := loopW_iff.1 h
   have key : ∀ (n : Nat) (s : St), aloop (exec (callW tbl) loopW a) n s = some r → ∃ k, aloop (exec (callK tbl k) (lpK k) a) n s = some r := by
    intro n
    induction n with
    | zero => intro s h; simp [aloop] at h
    | succ n ihn =>
      intro s h
      simp only [aloop] at h
      split at h
      ·rename_i s1 h1
       obtain ⟨k1, g1⟩ := ih _ _ h1
       obtain ⟨k2, g2⟩ := ihn _ h
       refine ⟨max k1 k2, ?_⟩
       simp only [aloop]
       rw [exec_up (Nat.le_max_left k1 k2) g1]
       exact aloop_mono (fun s r h => exec_up (Nat.le_max_right k1 k2) h) (Nat.le_refl n) _ _ g2
      ·rename_i hne
       obtain ⟨k, hk⟩ := ih _ _ h
       refine ⟨k, ?_⟩
       simp only [aloop, hk]
       split
       ·rename_i s1 e; cases e; exact absurd h (hne s1)
       ·rfl
   obtain ⟨k, hk⟩ := key n s hn
   refine ⟨max n k, ?_⟩
   simp only [exec]
   exact aloop_mono (fun s r h => exec_up (Nat.le_max_right n k) h) (Nat.le_max_left n k) _ _ hk
 | rangeFunc f ps a b _ _ =>
   intro s r h
   simp only [exec] at h
   by_cases hcond : (isFunc (evalA [] s.tm f) && roundOk s.heap s.rnd) = true
   ·simp only [hcond, if_true] at h
    split at h
    ·rename_i h1
     obtain ⟨k, hk⟩ := z14.1 h1
     exact ⟨k, by simp only [exec, hcond, if_true, hk]; exact h⟩
    ·simp at h
   ·simp only [hcond] at h
    simp at h
 | exit id => intro s r h; exact ⟨0, h⟩
 | ret => intro s r h; exact ⟨0, h⟩
 | bad => intro s r h; exact ⟨0, h⟩
theorem runBody_fin {af : AFunc} {args : List AV} {H : Heap} {r : AV × Heap} (h : runBody (callW tbl) loopW af args H = some r) : ∃ k, runBody (callK tbl k) (lpK k) af args H = some r := by
 unfold runBody at h
 split at h
 ·rename_i hlen
  split at h
  ·rename_i h1
   obtain ⟨k, hk⟩ := exec_fin _ _ _ h1
   exact ⟨k, by unfold runBody; rw [if_pos hlen, hk]; exact h⟩
  ·simp at h
 ·simp at h
theorem runPure_fin {af : AFunc} {args : List AV} {r : AV} (h : zu (callW tbl) loopW af args = some r) : ∃ k, zu (callK tbl k) (lpK k) af args = some r := by
 unfold zu at h
 split at h
 ·rename_i h1
  obtain ⟨k, hk⟩ := runBody_fin h1
  exact ⟨k, by unfold zu; rw [hk]; exact h⟩
 ·simp at h
theorem callW_pure {f : FuncId} {first captured args : List AV} {H : Heap} {af : AFunc} {r : AV} (ht : tbl f = some (.code af)) (hp : af.pure = true) (h1 : AV.plains (first ++ args ++ captured) = true)
 (hr : zu (callW tbl) loopW af (if AV.unlents (first ++ args ++ captured) then first ++ args ++ captured else AV.lends (first ++ args ++ captured)) = some r) :
 callW tbl (.func f first captured) args H = some (if AV.unlents (first ++ args ++ captured) || r.unlent then r else r.lend, H) := by
 obtain ⟨k, hk⟩ := runPure_fin hr
 refine z14.2 ⟨k + 1, ?_⟩
 simp only [callK, stepCall, ht, hp, h1, if_true]
 by_cases hu : AV.unlents (first ++ args ++ captured) = true
 ·simp only [hu, if_true] at hk ⊢
  rw [hk]; rfl
 ·simp only [hu] at hk ⊢
  simp only [Bool.false_eq_true, if_false] at hk ⊢
  rw [hk]; simp
theorem callW_lent {f : FuncId} {first captured args args' : List AV} {H : Heap} {af : AFunc} {r : AV} (ht : tbl f = some (.code af)) (hp : af.pure = true) (h1 : AV.plains (first ++ args ++ captured) = false)
 (hre : zc4 (reify H zx) (first ++ args ++ captured) = some args') (hr : zu (callW tbl) loopW af (AV.lends args') = some r) (hu : r.unlent = true) :
 callW tbl (.func f first captured) args H = some (r, H) := by
 obtain ⟨k, hk⟩ := runPure_fin hr
 refine z14.2 ⟨k + 1, ?_⟩
 simp only [callK, stepCall, ht, hp, h1, if_true, hre, hk, hu]
 rfl
theorem callW_body {f : FuncId} {first captured args : List AV} {H H' : Heap} {af : AFunc} {r : AV} (ht : tbl f = some (.code af)) (hp : af.pure = false) (hr : runBody (callW tbl) loopW af (first ++ args ++ captured) H = some (r, H')) :
 callW tbl (.func f first captured) args H = some (zg af.frz H.length r H') := by
 obtain ⟨k, hk⟩ := runBody_fin hr
 refine z14.2 ⟨k + 1, ?_⟩
 simp only [callK, stepCall, ht, hp, Bool.false_eq_true, if_false, hk]
theorem callW_round {id gen : Nat} {args : List AV} {H H' : Heap} {r : AV} (hr : runRound (callW tbl) loopW id gen args H = some (r, H')) : callW tbl (.yieldf id gen) args H = some (trunc H.length r H') := by
 have : ∃ k, runRound (callK tbl k) (lpK k) id gen args H = some (r, H') := by
  unfold runRound at hr
  split at hr
  ·rename_i hB
   split at hr
   ·rename_i hg
    split at hr
    ·rename_i h1
     obtain ⟨k1, g1⟩ := exec_fin _ _ _ h1
     split at hr
     ·rename_i hB1
      split at hr
      ·rename_i hg1
       split at hr
       ·rename_i h2
        obtain ⟨k2, g2⟩ := exec_fin _ _ _ h2
        refine ⟨max k1 k2, ?_⟩
        unfold runRound
        rw [hB]
        simp only
        rw [if_pos hg, exec_up (Nat.le_max_left k1 k2) g1]
        simp only
        rw [hB1]
        simp only
        rw [if_pos hg1, exec_up (Nat.le_max_right k1 k2) g2]
        exact hr
       ·simp at hr
      ·simp at hr
     ·simp at hr
    ·simp at hr
   ·simp at hr
  ·simp at hr
 obtain ⟨k, hk⟩ := this
 exact z14.2 ⟨k + 1, by simp only [callK, stepCall, hk]⟩
end Go.Abs
