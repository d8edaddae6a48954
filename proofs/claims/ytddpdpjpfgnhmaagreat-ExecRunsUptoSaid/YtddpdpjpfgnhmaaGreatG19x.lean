/- Abs 30: calls without a bound. -/
import Derived.Test.YtddpdpjpfgnhmaaGreatG1x
set_option linter.unusedSimpArgs false
set_option linter.unusedVariables false
set_option maxHeartbeats 4000000
namespace Go.Abs
def CLe (c c':CallF):Prop:=∀ fv args H r,c fv args H=some r→c' fv args H=some r
def FLe (f f':St→Option (AExit×St)):Prop:=∀ s r,f s=some r→f' s=some r
def LLe (l l':LoopF):Prop:=∀ f f',FLe f f'→FLe (l f) (l' f')
variable {call call':CallF} {lp lp':LoopF}
theorem zil (hc:CLe call call') {slot:Option Nat} {H:Heap} {A:Action} {r:AV×Heap} (h:zd call slot H A=some r):zd call' slot H A=some r:=by
 cases A <;> first | exact h | exact hc _ _ _ _ h | skip
 rename_i f args
 simp only [zd] at h ⊢
 split at h
 ·rename_i v hv
  split at hv
  ·rename_i hp
   rw [if_pos hp,hc _ _ _ _ hv]; exact h
  ·simp at hv
 ·simp at h
theorem zso (hc:CLe call call') {slot:Option Nat} {o:AOper} {s s':RSt} (h:stepA call slot o s=some s'):stepA call' slot o s=some s':=by
 unfold stepA at h ⊢
 split at h
 ·split at h
  ·rename_i hr; rw [zil hc hr]; exact h
  ·simp at h
 ·exact h
 ·simp at h
theorem zcg (hc:CLe call call'):∀ {ops:List AOper} {s s':RSt},zo5 call ops s=some s'→zo5 call' ops s=some s'
 | [],s,s',h=>h
 | o::os,s,s',h=>by
   simp only [zo5] at h ⊢
   split at h
   ·rename_i s1 h1
    rw [zso hc h1]
    exact zcg hc h
   ·simp at h
theorem zsj (hc:CLe call call') {slot:Nat} {o:AOper} {s:RSt} {r:RSt×Rec} (h:zf5 call slot o s=some r):zf5 call' slot o s=some r:=by
 unfold zf5 at h ⊢
 split at h
 ·split at h
  ·rename_i hr; rw [zil hc hr]; exact h
  ·simp at h
 ·exact h
 ·simp at h
theorem zfe (hc:CLe call call'):∀ {ops:List (Nat×AOper)} {s:RSt} {r:RSt×List Rec},zr2 call ops s=some r→zr2 call' ops s=some r
 | [],s,r,h=>h
 | (i,o)::os,s,r,h=>by
   simp only [zr2] at h ⊢
   split at h
   ·rename_i s1 r1 h1
    rw [zsj hc h1]
    simp only
    split at h
    ·rename_i h2
     rw [zfe hc h2]; exact h
    ·simp at h
   ·simp at h
theorem zdh (hc:CLe call call') (hl:LLe lp lp'):∀ (c:ACode) (s:St) (r:AExit×St),exec call lp c s=some r→exec call' lp' c s=some r:=by
 intro c
 induction c with
 | skip=>intro s r h; exact h
 | region ops=>
   intro s r h
   simp only [exec] at h ⊢
   split at h
   ·rename_i h1; rw [zcg hc h1]; exact h
   ·simp at h
 | draw ops ps=>
   intro s r h
   simp only [exec] at h ⊢
   split at h
   ·rename_i h1; rw [zfe hc h1]; exact h
   ·simp at h
 | seq a b iha ihb=>
   intro s r h
   simp only [exec] at h ⊢
   split at h
   ·rename_i h1; rw [iha _ _ h1]; exact ihb _ _ h
   ·rename_i hne
    have:=iha _ _ h
    rw [this]
    split
    ·rename_i s1 e; cases e; exact absurd h (hne s1)
    ·rfl
 | cond c a b iha ihb=>
   intro s r h
   simp only [exec] at h ⊢
   split at h
   ·exact iha _ _ h
   ·exact ihb _ _ h
   ·simp at h
 | block id a ih=>
   intro s r h
   simp only [exec] at h ⊢
   split at h
   ·rename_i h1; rw [ih _ _ h1]; exact h
   ·rename_i hne
    have:=ih _ _ h
    rw [this]
    split
    ·rename_i j s1 e; cases e; exact absurd h (hne j s1)
    ·rfl
 | loop a ih=>intro s r h; simp only [exec] at h ⊢; exact hl _ _ ih _ _ h
 | rangeFunc f ps a b _ _=>
   intro s r h
   simp only [exec] at h ⊢
   by_cases hcond:(ztk (evalA [] s.tm f) && zmi s.heap s.rnd)=true
   ·simp only [hcond,if_true] at h ⊢
    split at h
    ·rename_i h1; rw [hc _ _ _ _ h1]; exact h
    ·simp at h
   ·simp only [hcond] at h
    simp at h
 | exit id=>intro s r h; exact h
 | ret=>intro s r h; exact h
 | bad=>intro s r h; exact h
theorem ztj (hc:CLe call call') (hl:LLe lp lp') {af:AFunc} {args:List AV} {H:Heap} {r:AV×Heap} (h:z58 call lp af args H=some r):z58 call' lp' af args H=some r:=by
 unfold z58 at h ⊢
 split at h
 ·rename_i hlen
  rw [if_pos hlen]
  split at h
  ·rename_i h1; rw [zdh hc hl _ _ _ h1]; exact h
  ·simp at h
 ·simp at h
theorem zmb (hc:CLe call call') (hl:LLe lp lp') {af:AFunc} {args:List AV} {r:AV} (h:zy call lp af args=some r):zy call' lp' af args=some r:=by
 unfold zy at h ⊢
 split at h
 ·rename_i h1; rw [ztj hc hl h1]; exact h
 ·simp at h
theorem zaq (hc:CLe call call') (hl:LLe lp lp') {id gen:Nat} {args:List AV} {H:Heap} {r:AV×Heap} (h:zh5 call lp id gen args H=some r):zh5 call' lp' id gen args H=some r:=by
 unfold zh5 at h ⊢
 split at h
 ·split at h
  ·rename_i hg
   rw [if_pos hg]
   split at h
   ·rename_i h1
    rw [zdh hc hl _ _ _ h1]
    simp only
    split at h
    ·split at h
     ·rename_i hg1
      rw [if_pos hg1]
      split at h
      ·rename_i h2
       rw [zdh hc hl _ _ _ h2]
       exact h
      ·simp at h
     ·simp at h
    ·simp at h
   ·simp at h
  ·simp at h
 ·simp at h
theorem zeh {tbl:FuncId→Option AFun} (hc:CLe call call') (hl:LLe lp lp'):CLe (z15 tbl call lp) (z15 tbl call' lp'):=by
 intro fv args H r h
 unfold z15 at h ⊢
 split at h
 ·rename_i f first captured
  split at h
  ·exact h
  ·rename_i af hg
   split at h
   ·rename_i hp
    rw [if_pos hp]
    split at h
    ·rename_i hpl
     rw [if_pos hpl]
     split at h
     ·rename_i hu
      rw [if_pos hu]
      split at h
      ·rename_i h1; rw [zmb hc hl h1]; exact h
      ·simp at h
     ·rename_i hu
      rw [if_neg hu]
      split at h
      ·rename_i h1; rw [zmb hc hl h1]; exact h
      ·simp at h
    ·rename_i hpl
     rw [if_neg hpl]
     split at h
     ·rename_i ho
      split at h
      ·rename_i h1; rw [zmb hc hl h1]; exact h
      ·simp at h
     ·simp at h
   ·rename_i hp
    rw [if_neg hp]
    split at h
    ·rename_i h1; rw [ztj hc hl h1]; exact h
    ·simp at h
  ·simp at h
 ·split at h
  ·rename_i h1; rw [zaq hc hl h1]; exact h
  ·simp at h
 ·simp at h
theorem zt8 {f f':St→Option (AExit×St)} (hf:FLe f f'):∀ {k k':Nat},k≤k'→FLe (aloop f k) (aloop f' k')
 | 0,_,_,s,r,h=>by simp [aloop] at h
 | k + 1,0,hk,s,r,h=>by omega
 | k + 1,k' + 1,hk,s,r,h=>by
   simp only [aloop] at h ⊢
   split at h
   ·rename_i s1 h1
    rw [hf _ _ h1]
    exact zt8 hf (by omega) _ _ h
   ·rename_i hne
    have:=hf _ _ h
    rw [this]
    split
    ·rename_i s1 e; cases e; exact absurd h (hne s1)
    ·rfl
theorem zbq {k k':Nat} (h:k≤k'):LLe (fun f=>aloop f k) (fun f=>aloop f k'):=fun _ _ hf=>zt8 hf h
theorem zs7 {tbl:FuncId→Option AFun}:∀ {k k':Nat},k≤k'→CLe (callK tbl k) (callK tbl k')
 | 0,_,_,fv,args,H,r,h=>by simp [callK] at h
 | k + 1,0,hk,fv,args,H,r,h=>by omega
 | k + 1,k' + 1,hk,fv,args,H,r,h=>by
   simp only [callK] at h ⊢
   exact zeh (zs7 (by omega)) (zbq (by omega)) _ _ _ _ h
open Classical in
noncomputable def callW (tbl:FuncId→Option AFun):CallF:=fun fv args H=>
 if h:∃ k r,callK tbl k fv args H=some r then some (Classical.choose (Classical.choose_spec h)) else none
theorem zj4 {tbl:FuncId→Option AFun} {fv:AV} {args:List AV} {H:Heap} {r:AV×Heap}:callW tbl fv args H=some r↔∃ k,callK tbl k fv args H=some r:=by
 unfold callW
 constructor
 ·intro h
  split at h
  ·rename_i hh
   simp only [Option.some.injEq] at h
   have:=Classical.choose_spec (Classical.choose_spec hh)
   rw [h] at this
   exact ⟨_,this⟩
  ·simp at h
 ·rintro ⟨k,hk⟩
  have hh:∃ k r,callK tbl k fv args H=some r:=⟨k,r,hk⟩
  rw [dif_pos hh]
  have h1:=Classical.choose_spec (Classical.choose_spec hh)
  have h2:=zs7 (Nat.le_max_left (Classical.choose hh) k) _ _ _ _ h1
  have h3:=zs7 (Nat.le_max_right (Classical.choose hh) k) _ _ _ _ hk
  rw [h2] at h3
  exact h3
open Classical in
noncomputable def loopW:LoopF:=fun f s=>if h:∃ k r,aloop f k s=some r then some (Classical.choose (Classical.choose_spec h)) else none
theorem zh9 {f:St→Option (AExit×St)} {s:St} {r:AExit×St}:loopW f s=some r↔∃ k,aloop f k s=some r:=by
 unfold loopW
 constructor
 ·intro h
  split at h
  ·rename_i hh
   simp only [Option.some.injEq] at h
   have:=Classical.choose_spec (Classical.choose_spec hh)
   rw [h] at this
   exact ⟨_,this⟩
  ·simp at h
 ·rintro ⟨k,hk⟩
  have hh:∃ k r,aloop f k s=some r:=⟨k,r,hk⟩
  rw [dif_pos hh]
  have h1:=Classical.choose_spec (Classical.choose_spec hh)
  have h2:=zt8 (fun _ _ h=>h) (Nat.le_max_left (Classical.choose hh) k) _ _ h1
  have h3:=zt8 (fun _ _ h=>h) (Nat.le_max_right (Classical.choose hh) k) _ _ hk
  rw [h2] at h3
  exact h3
theorem z0y {f:St→Option (AExit×St)} {s s':St} (h:f s=some (.normal,s')):loopW f s=loopW f s':=by
 apply Option.ext
 intro r
 constructor
 ·intro hr
  obtain ⟨k,hk⟩:=zh9.1 hr
  cases k with
  | zero=>simp [aloop] at hk
  | succ k=>simp only [aloop,h] at hk; exact zh9.2 ⟨k,hk⟩
 ·intro hr
  obtain ⟨k,hk⟩:=zh9.1 hr
  exact zh9.2 ⟨k + 1,by simp only [aloop,h]; exact hk⟩
theorem zto {f:St→Option (AExit×St)} {s s':St} {e:AExit} (h:f s=some (e,s')) (he:e≠.normal):loopW f s=some (e,s'):=
 zh9.2 ⟨1,by simp only [aloop,h]; cases e <;> simp_all⟩
end Go.Abs
