/- Abs 31: what is said of calls without a bound holds with one. -/
import Derived.Test.YtddpdpjpfgnhmaaGreatG19x
set_option linter.unusedSimpArgs false
set_option linter.unusedVariables false
set_option maxHeartbeats 4000000
namespace Go.Abs
variable {tbl:FuncId→Option AFun}
abbrev lpK (k:Nat):LoopF:=fun f=>aloop f k
theorem zuo {slot:Option Nat} {H:Heap} {A:Action} {r:AV×Heap} (h:zd (callW tbl) slot H A=some r):∃ k,zd (callK tbl k) slot H A=some r:=by
 cases A <;> first | exact ⟨0,h⟩ | exact zj4.1 h | skip
 rename_i f args
 simp only [zd] at h ⊢
 split at h
 ·rename_i v hv
  split at hv
  ·rename_i hp
   obtain ⟨k,hk⟩:=zj4.1 hv
   exact ⟨k,by rw [if_pos hp,hk]; exact h⟩
  ·simp at hv
 ·simp at h
theorem z101 {slot:Option Nat} {o:AOper} {s s':RSt} (h:stepA (callW tbl) slot o s=some s'):∃ k,stepA (callK tbl k) slot o s=some s':=by
 unfold stepA at h
 split at h
 ·rename_i hw
  split at h
  ·rename_i hr
   obtain ⟨k,hk⟩:=zuo hr
   exact ⟨k,by unfold stepA; rw [hw]; simp only [hk]; exact h⟩
  ·simp at h
 ·rename_i hw; exact ⟨0,by unfold stepA; rw [hw]; exact h⟩
 ·simp at h
theorem zvo:∀ {ops:List AOper} {s s':RSt},zo5 (callW tbl) ops s=some s'→∃ k,zo5 (callK tbl k) ops s=some s'
 | [],s,s',h=>⟨0,h⟩
 | o::os,s,s',h=>by
   simp only [zo5] at h
   split at h
   ·rename_i s1 h1
    obtain ⟨k1,g1⟩:=z101 h1
    obtain ⟨k2,g2⟩:=zvo h
    refine ⟨max k1 k2,?_⟩
    simp only [zo5]
    rw [zso (zs7 (Nat.le_max_left k1 k2)) g1]
    exact zcg (zs7 (Nat.le_max_right k1 k2)) g2
   ·simp at h
theorem znu {slot:Nat} {o:AOper} {s:RSt} {r:RSt×Rec} (h:zf5 (callW tbl) slot o s=some r):∃ k,zf5 (callK tbl k) slot o s=some r:=by
 unfold zf5 at h
 split at h
 ·rename_i hw
  split at h
  ·rename_i hr
   obtain ⟨k,hk⟩:=zuo hr
   exact ⟨k,by unfold zf5; rw [hw]; simp only [hk]; exact h⟩
  ·simp at h
 ·rename_i hw; exact ⟨0,by unfold zf5; rw [hw]; exact h⟩
 ·simp at h
theorem zjl:∀ {ops:List (Nat×AOper)} {s:RSt} {r:RSt×List Rec},zr2 (callW tbl) ops s=some r→∃ k,zr2 (callK tbl k) ops s=some r
 | [],s,r,h=>⟨0,h⟩
 | (i,o)::os,s,r,h=>by
   simp only [zr2] at h
   split at h
   ·rename_i s1 r1 h1
    obtain ⟨k1,g1⟩:=znu h1
    split at h
    ·rename_i h2
     obtain ⟨k2,g2⟩:=zjl h2
     refine ⟨max k1 k2,?_⟩
     simp only [zr2]
     rw [zsj (zs7 (Nat.le_max_left k1 k2)) g1]
     simp only
     rw [zfe (zs7 (Nat.le_max_right k1 k2)) g2]
     exact h
    ·simp at h
   ·simp at h
theorem zdg {k k':Nat} (h:k≤k') {c:ACode} {s:St} {r:AExit×St} (he:exec (callK tbl k) (lpK k) c s=some r):exec (callK tbl k') (lpK k') c s=some r:=
 zdh (zs7 h) (zbq h) c s r he
theorem zcq:∀ (c:ACode) (s:St) (r:AExit×St),exec (callW tbl) loopW c s=some r→∃ k,exec (callK tbl k) (lpK k) c s=some r:=by
 intro c
 induction c with
 | skip=>intro s r h; exact ⟨0,h⟩
 | region ops=>
   intro s r h
   simp only [exec] at h
   split at h
   ·rename_i h1
    obtain ⟨k,hk⟩:=zvo h1
    exact ⟨k,by simp only [exec,hk]; exact h⟩
   ·simp at h
 | draw ops ps=>
   intro s r h
   simp only [exec] at h
   split at h
   ·rename_i h1
    obtain ⟨k,hk⟩:=zjl h1
    exact ⟨k,by simp only [exec,hk]; exact h⟩
   ·simp at h
 | seq a b iha ihb=>
   intro s r h
   simp only [exec] at h
   split at h
   ·rename_i h1
    obtain ⟨k1,g1⟩:=iha _ _ h1
    obtain ⟨k2,g2⟩:=ihb _ _ h
    refine ⟨max k1 k2,?_⟩
    simp only [exec]
    rw [zdg (Nat.le_max_left k1 k2) g1]
    exact zdg (Nat.le_max_right k1 k2) g2
   ·rename_i hne
    obtain ⟨k,hk⟩:=iha _ _ h
    refine ⟨k,?_⟩
    simp only [exec,hk]
    split
    ·rename_i s1 e; cases e; exact absurd h (hne s1)
    ·rfl
 | cond c a b iha ihb=>
   intro s r h
   simp only [exec] at h
   split at h
   ·rename_i ht; obtain ⟨k,hk⟩:=iha _ _ h; exact ⟨k,by simp only [exec,ht]; exact hk⟩
   ·rename_i ht; obtain ⟨k,hk⟩:=ihb _ _ h; exact ⟨k,by simp only [exec,ht]; exact hk⟩
   ·simp at h
 | block id a ih=>
   intro s r h
   simp only [exec] at h
   split at h
   ·rename_i h1
    obtain ⟨k,hk⟩:=ih _ _ h1
    exact ⟨k,by simp only [exec,hk]; exact h⟩
   ·rename_i hne
    obtain ⟨k,hk⟩:=ih _ _ h
    refine ⟨k,?_⟩
    simp only [exec,hk]
    split
    ·rename_i j s1 e; cases e; exact absurd h (hne j s1)
    ·rfl
 | loop a ih=>
   intro s r h
   simp only [exec] at h
   obtain ⟨n,hn⟩:=zh9.1 h
   have key:∀ (n:Nat) (s:St),aloop (exec (callW tbl) loopW a) n s=some r→∃ k,aloop (exec (callK tbl k) (lpK k) a) n s=some r:=by
    intro n
    induction n with
    | zero=>intro s h; simp [aloop] at h
    | succ n ihn=>
      intro s h
      simp only [aloop] at h
      split at h
      ·rename_i s1 h1
       obtain ⟨k1,g1⟩:=ih _ _ h1
       obtain ⟨k2,g2⟩:=ihn _ h
       refine ⟨max k1 k2,?_⟩
       simp only [aloop]
       rw [zdg (Nat.le_max_left k1 k2) g1]
       exact zt8 (fun s r h=>zdg (Nat.le_max_right k1 k2) h) (Nat.le_refl n) _ _ g2
      ·rename_i hne
       obtain ⟨k,hk⟩:=ih _ _ h
       refine ⟨k,?_⟩
       simp only [aloop,hk]
       split
       ·rename_i s1 e; cases e; exact absurd h (hne s1)
       ·rfl
   obtain ⟨k,hk⟩:=key n s hn
   refine ⟨max n k,?_⟩
   simp only [exec]
   exact zt8 (fun s r h=>zdg (Nat.le_max_right n k) h) (Nat.le_max_left n k) _ _ hk
 | rangeFunc f ps a b _ _=>
   intro s r h
   simp only [exec] at h
   by_cases hcond:(ztk (evalA [] s.tm f) && zmi s.heap s.rnd)=true
   ·simp only [hcond,if_true] at h
    split at h
    ·rename_i h1
     obtain ⟨k,hk⟩:=zj4.1 h1
     exact ⟨k,by simp only [exec,hcond,if_true,hk]; exact h⟩
    ·simp at h
   ·simp only [hcond] at h
    simp at h
 | exit id=>intro s r h; exact ⟨0,h⟩
 | ret=>intro s r h; exact ⟨0,h⟩
 | bad=>intro s r h; exact ⟨0,h⟩
theorem zkl {af:AFunc} {args:List AV} {H:Heap} {r:AV×Heap} (h:z58 (callW tbl) loopW af args H=some r):∃ k,z58 (callK tbl k) (lpK k) af args H=some r:=by
 unfold z58 at h
 split at h
 ·rename_i hlen
  split at h
  ·rename_i h1
   obtain ⟨k,hk⟩:=zcq _ _ _ h1
   exact ⟨k,by unfold z58; rw [if_pos hlen,hk]; exact h⟩
  ·simp at h
 ·simp at h
theorem zll {af:AFunc} {args:List AV} {r:AV} (h:zy (callW tbl) loopW af args=some r):∃ k,zy (callK tbl k) (lpK k) af args=some r:=by
 unfold zy at h
 split at h
 ·rename_i h1
  obtain ⟨k,hk⟩:=zkl h1
  exact ⟨k,by unfold zy; rw [hk]; exact h⟩
 ·simp at h
theorem zc5 {f:FuncId} {first captured args:List AV} {H:Heap} {af:AFunc} {r:AV} (ht:tbl f=some (.code af)) (hp:af.pure=true) (h1:AV.plains (first++args++captured)=true)
 (hr:zy (callW tbl) loopW af (if AV.unlents (first++args++captured) then first++args++captured else AV.lends (first++args++captured))=some r) :
 callW tbl (.func f first captured) args H=some (if AV.unlents (first++args++captured) || r.unlent then r else r.lend,H):=by
 obtain ⟨k,hk⟩:=zll hr
 refine zj4.2 ⟨k + 1,?_⟩
 simp only [callK,z15,ht,hp,h1,if_true]
 by_cases hu:AV.unlents (first++args++captured)=true
 ·simp only [hu,if_true] at hk ⊢
  rw [hk]; rfl
 ·simp only [hu] at hk ⊢
  simp only [Bool.false_eq_true,if_false] at hk ⊢
  rw [hk]; simp
theorem zwo {f:FuncId} {first captured args args':List AV} {H:Heap} {af:AFunc} {r:AV} (ht:tbl f=some (.code af)) (hp:af.pure=true) (h1:AV.plains (first++args++captured)=false)
 (hre:zx3 (reify H zw) (first++args++captured)=some args') (hr:zy (callW tbl) loopW af (AV.lends args')=some r) (hu:r.unlent=true) :
 callW tbl (.func f first captured) args H=some (r,H):=by
 obtain ⟨k,hk⟩:=zll hr
 refine zj4.2 ⟨k + 1,?_⟩
 simp only [callK,z15,ht,hp,h1,if_true,hre,hk,hu]
 rfl
theorem zxo {f:FuncId} {first captured args:List AV} {H H':Heap} {af:AFunc} {r:AV} (ht:tbl f=some (.code af)) (hp:af.pure=false) (hr:z58 (callW tbl) loopW af (first++args++captured) H=some (r,H')) :
 callW tbl (.func f first captured) args H=some (zj af.frz H.length r H'):=by
 obtain ⟨k,hk⟩:=zkl hr
 refine zj4.2 ⟨k + 1,?_⟩
 simp only [callK,z15,ht,hp,Bool.false_eq_true,if_false,hk]
theorem zou {id gen:Nat} {args:List AV} {H H':Heap} {r:AV} (hr:zh5 (callW tbl) loopW id gen args H=some (r,H')):callW tbl (.yieldf id gen) args H=some (trunc H.length r H'):=by
 have:∃ k,zh5 (callK tbl k) (lpK k) id gen args H=some (r,H'):=by
  unfold zh5 at hr
  split at hr
  ·rename_i hB
   split at hr
   ·rename_i hg
    split at hr
    ·rename_i h1
     obtain ⟨k1,g1⟩:=zcq _ _ _ h1
     split at hr
     ·rename_i hB1
      split at hr
      ·rename_i hg1
       split at hr
       ·rename_i h2
        obtain ⟨k2,g2⟩:=zcq _ _ _ h2
        refine ⟨max k1 k2,?_⟩
        unfold zh5
        rw [hB]
        simp only
        rw [if_pos hg,zdg (Nat.le_max_left k1 k2) g1]
        simp only
        rw [hB1]
        simp only
        rw [if_pos hg1,zdg (Nat.le_max_right k1 k2) g2]
        exact hr
       ·simp at hr
      ·simp at hr
     ·simp at hr
    ·simp at hr
   ·simp at hr
  ·simp at hr
 obtain ⟨k,hk⟩:=this
 exact zj4.2 ⟨k + 1,by simp only [callK,z15,hk]⟩
end Go.Abs
