/- Abs 24: a function's results, its marks, its body. -/
import Derived.Test.YtddpdpjpfgnhmaaGreatG12x
set_option linter.unusedSimpArgs false
set_option linter.unusedVariables false
set_option maxHeartbeats 4000000
namespace Go.Abs
open Go.RowKit
variable {P:Program} {W:BaseW} {w:World} {φ:Frz} {μ:List Loc} {H H':Heap} {a:Act} {call:CallF} {kept:Nat→Bool} {ops:Array Oper} {Q:Exit→Act→World→Prop} {ro:Option Nat} {n nt:Nat}
def resOf (tmps:Array Value) (rv:ResultVar):Sem Value:=
 match rv with
 | .tmp t=>pure (tmps.getD t undef)
 | .cell a t=>do loadVar t (← asAddr (tmps.getD a undef))
theorem zux (fn:Func) (tmps:Array Value):results fn tmps=(do
 let vs ← fn.results.mapM (resOf tmps)
 pure (if h:vs.size=1 then vs[0] else .tuple vs)):=by
 have:resOf tmps=(fun rv=>match rv with
  | .tmp t=>pure (tmps.getD t undef)
  | .cell a t=>do loadVar t (← asAddr (tmps.getD a undef))):=by funext rv; cases rv <;> rfl
 rw [this]; rfl
theorem zvx {tmps:Array Value} {s:St} (he:∀ t,VR φ μ (s.tm.get t) (tmps.getD t undef)) (hw:WR (z51 P) W φ μ s.heap w) {rv:ResultVar} {ar:AResult} (hc:zqa P rv=some ar) {r:AV} (h:zcc s ar=some r) :
 ∃ v,(resOf tmps rv).run P w=.ok v w∧VR φ μ r v:=by
 cases rv with
 | tmp t=>
   simp only [zqa,Option.some.injEq] at hc; subst hc
   simp only [zcc,Option.some.injEq] at h; subst h
   exact ⟨_,by simp [resOf],he t⟩
 | cell t ty=>
   simp only [zqa] at hc
   split at hc
   ·rename_i g m hty
    simp only [Option.some.injEq] at hc; subst hc
    simp only [zcc] at h
    split at h
    ·rename_i id gen row off hp
     split at h
     ·rename_i g' sz rows hB
      split at h
      ·rename_i hg
       split at h
       ·rename_i r0 hrow
        have hv:=he t
        rw [hp] at hv
        generalize hu:tmps.getD t undef=u at hv
        cases hv with
        | ptr hl hgl ha=>
          rename_i l addr
          have e1:g'=l.gen:=hw.gen id _ l hB hl
          have e2:=ha (by rw [← e1]; exact hg)
          subst e2
          obtain ⟨v,hv,hvr⟩:=zw9 (φ:=φ) (μ:=μ) (w:=w) hty h (b:=l.b) (o:=l.o + row * l.sz) (hw.row hB hl hrow)
          exact ⟨v,by simp only [resOf,hu,asAddr,Sem.run_bind,Sem.run_pure,Result.andThen_ok]; exact hv,hvr⟩
       ·simp at h
      ·simp at h
     ·simp at h
    ·simp at h
   ·simp at hc
theorem zrf {tmps:Array Value} {s:St} (he:∀ t,VR φ μ (s.tm.get t) (tmps.getD t undef)) (hw:WR (z51 P) W φ μ s.heap w):∀ {rvs:List ResultVar} {ars:List AResult} {rs:List AV},zdc (zqa P) rvs=some ars→zm3 s ars=some rs →
 ∃ vs,(rvs.mapM (resOf tmps)).run P w=.ok vs w∧VRs φ μ rs vs
 | [],ars,rs,h1,h2=>by
   simp only [zdc,Option.some.injEq] at h1; subst h1
   simp only [zm3,Option.some.injEq] at h2; subst h2
   exact ⟨[],by simp,VRs.nil⟩
 | rv::rvs,ars,rs,h1,h2=>by
   simp only [zdc] at h1
   split at h1
   ·rename_i ar ars' e1 e2
    simp only [Option.some.injEq] at h1; subst h1
    simp only [zm3] at h2
    split at h2
    ·rename_i r rs' f1 f2
     simp only [Option.some.injEq] at h2; subst h2
     obtain ⟨v,g1,g2⟩:=zvx he hw e1 f1
     obtain ⟨vs,k1,k2⟩:=zrf he hw e2 f2
     refine ⟨v::vs,?_,VRs.cons g2 k2⟩
     simp only [List.mapM_cons,Sem.run_bind]
     rw [g1]
     simp only [Result.andThen_ok,k1,Sem.run_pure]
    ·simp at h2
   ·simp at h1
theorem zku {fn:Func} {tmps:Array Value} {s:St} (he:∀ t,VR φ μ (s.tm.get t) (tmps.getD t undef)) (hw:WR (z51 P) W φ μ s.heap w) {ars:List AResult} (hc:zdc (zqa P) fn.results.toList=some ars) {rs:List AV} (h:zm3 s ars=some rs) :
 ∃ v,(results fn tmps).run P w=.ok v w∧VR φ μ (zn7 rs) v:=by
 obtain ⟨vs,h1,h2⟩:=zrf he hw hc h
 have hm:(results fn tmps).run P w=.ok (if h:vs.toArray.size=1 then vs.toArray[0] else .tuple vs.toArray) w:=by
  rw [zux,Array.mapM_eq_mapM_toList]
  simp only [Sem.run_bind,map_eq_pure_bind,Sem.run_pure]
  rw [h1]
  simp only [Result.andThen_ok,Sem.run_pure]
 refine ⟨_,hm,?_⟩
 match rs,vs,h2 with
 | [],[],_=>exact .tuple rfl (fun i x v h=>by simp at h)
 | [r],[v],h2=>exact h2.2 0 r v rfl rfl
 | r::r'::rs,v::v'::vs,h2=>
   have:¬ (v::v'::vs).toArray.size=1:=by simp
   rw [dif_neg this]
   exact .tuple h2.1 h2.2
 | [],v::vs,h2=>simp [VRs] at h2
 | r::rs,[],h2=>simp [VRs] at h2
 | [r],v::v'::vs,h2=>simp [VRs] at h2
 | r::r'::rs,[v],h2=>simp [VRs] at h2
theorem z0s {fn:Func} {tmps:Array Value} {R:Ending→World→Prop}:∀ {l:List (Nat×Nat)} {ds:List Deferred} {H H':Heap} {μ:List Loc} {w:World},WR (z51 P) W φ μ H w→DfrR φ μ l ds→z89 H l=some H' →
 (∀ μ' w',MExt μ μ'→WR (z51 P) W φ μ' H' w'→∃ v,(results fn tmps).run P w'=.ok v w'∧R (.returned v) w')→LeavesInM Fence.wide n P fn tmps R ds .returning w
 | [],[],H,H',μ,w,hw,hd,hc,hR=>by
   simp only [z89,Option.some.injEq] at hc; subst hc
   exact hR μ w (MExt.refl μ) hw
 | [],d::ds,H,H',μ,w,hw,hd,hc,hR=>by simp [DfrR] at hd
 | p::l,[],H,H',μ,w,hw,hd,hc,hR=>by simp [DfrR] at hd
 | (i,g)::l,d::ds,H,H',μ,w,hw,hd,hc,hR=>by
   simp only [z89] at hc
   split at hc
   ·rename_i g' hB
    split at hc
    ·rename_i hg
     subst hg
     obtain ⟨r,hdr,hv⟩:=hd.2 0 (i,g) d rfl rfl
     simp only at hv
     cases hv with
     | yieldf hl hgl ha=>
       rename_i lc
       have e1:=hw.gen i _ lc hB hl
       have e2:=ha e1.symm
       subst e2
       cases hw.blk i _ lc hB hl with
       | defr hm=>
         obtain ⟨μ',hw',hext⟩:=hw.kill (o:=.deferred none) hB hl rfl
         refine ⟨by simp, .inl ⟨lc.b,_,by rw [hdr],?_,z0s hw' ⟨?_,?_⟩ hc (fun μ'' w'' h1 h2=>hR μ'' w'' (hext.trans h1) h2)⟩⟩
         ·simp [Instr.takeDeferred,getObj,Sem.run,hm,setObj]
          try rfl
         ·have:=hd.1; simpa using this
         ·intro j p d' h1 h2
          obtain ⟨r,e,hv⟩:=hd.2 (j + 1) p d' (by simpa using h1) (by simpa using h2)
          exact ⟨r,e,hv.mono (FExt.refl φ) hext⟩
    ·simp at hc
   ·simp at hc
end Go.Abs
