/- Abs 23: ranges over functions, and their rounds. -/
import Derived.Test.YtddpdpjpfgnhmaaGreatG11x
set_option linter.unusedSimpArgs false
set_option linter.unusedVariables false
set_option maxHeartbeats 4000000
namespace Go.Abs
open Go.RowKit
variable {P:Program} {W:BaseW} {w:World} {φ:Frz} {μ:List Loc} {H H':Heap} {a:Act} {call:CallF} {callN:zi5} {kept:Nat→Bool} {ops:Array Oper} {Q:Exit→Act→World→Prop} {ro:Option Nat} {n nt:Nat}
theorem WR.kill {CR:CRel} (hw:WR CR W φ μ H w) {id:Nat} {B:Blk} {l:Loc} {o:Obj} (hB:H[id]? = some B) (hl:μ[id]? = some l) (hv:B.live=true) :
 ∃ μ',WR CR W φ μ' (H.set id (.dead (B.gen + 1))) { w with heap:=w.heap.setIfInBounds l.b o }∧MExt μ μ':=by
 have hown:=hw.own id _ l hB hl hv
 have hidl:=(List.getElem?_eq_some_iff.1 hB).1
 have hgen:=hw.gen id B l hB hl
 have hmid:=(List.getElem?_eq_some_iff.1 hl).1
 have hext:MExt μ (μ.set id { l with gen:=B.gen + 1 }):=by
  refine ⟨by simp,fun j lj hj=>?_⟩
  by_cases ej:j=id
  ·subst ej
   rw [hl] at hj; simp only [Option.some.injEq] at hj; subst hj
   exact ⟨{ l with gen:=B.gen + 1 },by simp [hmid],by simp only; omega,fun e=>by simp only at e; omega⟩
  ·exact ⟨lj,by simp [Ne.symm ej,hj],Nat.le_refl _,fun _=>rfl⟩
 refine ⟨μ.set id { l with gen:=B.gen + 1 },hw.change (k:=id) (B:=.dead (B.gen + 1)) (l:={ l with gen:=B.gen + 1 }) (fun j hj b hb=>by simpa [Ne.symm hj] using hb) (fun j hj l' hl'=>by simpa [Ne.symm hj] using hl') (by simp [hidl]) (by simp [hmid]) (by simp [hw.len]) hext
  ⟨rfl,rfl,rfl,by simp,fun k hk=>?_⟩ (fun b hb hne=>?_) hown.2.2 rfl ⟨hown.1,by simpa using hown.2.1⟩ (.dead _) (fun j B' l' hj h1 h2 h3=>hw.apart j id B' _ l' l hj h1 hB h2 hl h3 hv),hext⟩
 ·have:l.b≠k:=by omega
  simp [this]
 ·simp only at hne; simp [Ne.symm hne]
theorem WR.loopAt (hw:WR (z51 P) W φ μ H w) {id gen g:Nat} {st:LoopState} {pend:Option AExit} {tm:Tm} {ps:List Nat} {x y:ACode} (hB:H[id]? = some (.loop g st pend tm ps x y)) (hg:g=gen) {u:Value} (hu:VR φ μ (.yieldf id gen) u) :
 ∃ l lp,u=.func (.yield l.b) #[] #[]∧μ[id]? = some l∧l.gen=gen∧w.heap[l.b]? = some (.loop lp)∧LoopR (z51 P) φ μ st pend tm ps x y lp:=by
 subst hg
 cases hu with
 | yieldf hl hgl ha=>
   rename_i r l
   have hgl:g=l.gen:=hw.gen id _ l hB hl
   have:=ha hgl.symm
   subst this
   cases hw.blk id _ l hB hl with
   | loop hm hlp=>exact ⟨l,_,rfl,hl,hgl.symm,hm,hlp⟩
theorem z4b {b:Nat} {lp:Loop} (h:w.heap[b]? = some (.loop lp)):(Instr.getLoop b).run P w=.ok lp w:=by
 simp [Instr.getLoop,getObj,Sem.run,h]
theorem zag {b:Nat} {lp:Loop} {o:Obj} (h:w.heap[b]? = some (.loop lp)):(Go.setObj b o).run P w=.ok () { w with heap:=w.heap.setIfInBounds b o }:=by
 simp [Go.setObj,Sem.run,h]
theorem ztx {m:Nat} {f:FuncId} {args:Array Value} {R:Ending→World→Prop} (h:CallsIn Fence.wide m P f args w R):CallsIn (Fk ro) m P f args w R:=h
theorem VRs.toList1 {x:AV} {v:Value} (h:VR φ μ x v):VRs φ μ [x] (#[v]:Array Value).toList:=VRs.cons h VRs.nil
theorem zun (hN:z98 (z51 P) P callN) (f:Operand) (ps:Array Tmp) (x y:Code) (s:St) (R:AExit→St→Prop) (h:NX call callN (ze2 P nt kept (.rangeFunc f ps x y)) s R)
 (hr:FR P W kept nt ro φ μ s a w) (hQ:∀ ex s',R ex s'→∀ a' w' φ' μ',FExt φ φ'→MExt μ μ'→FR P W kept nt ro φ' μ' s' a' w'→Q (zno ex) a' w'):(Code.rangeFunc f ps x y).wpIn (Fk ro) n P Q a w:=by
 simp only [ze2] at h
 split at h
 ·rename_i f' hf
  split at h
  ·rename_i hps
   simp only [NX] at h
   obtain ⟨hfun,hrok,hc⟩:=h
   ·have hfun:=hfun
    ·have hrok:=hrok
     have hvf:=za (look:=s.tm.get) hr.env hf
     have eev:evalA [] s.tm f'=zk s.tm.get f':=by rw [zjb]; rfl
     rw [eev] at hc hfun
     have psok:∀ t∈ps.toList,t < nt∧nt < 4000∧kept t=true:=by
      intro t ht
      have:=List.all_eq_true.1 hps t ht
      simp only [Bool.and_eq_true,decide_eq_true_eq] at this
      exact ⟨this.1.1,this.1.2,this.2⟩
     apply wpIn_rangeFunc
     intro fn _
     have hlaid:∃ (D:Nat) (mark:List Deferred) (w0:World) (H1:Heap) (D':List (Nat×Nat)) (μ1:List Loc),zn3 s=H1∧zba s=D' ∧
      WR (z51 P) W φ μ1 H1 w0∧MExt μ μ1∧DfrR φ μ1 D' (mark++a.defers) ∧
      (Instr.enterLoop fn a.tmps ps x y ro).run P w=.ok (w0.heap.size,mark) { w0 with heap:=w0.heap.push (.loop { state:=.ready,pending:=none,fn,tmps:=a.tmps,params:=ps,assign:=x,body:=y,defers:=D }) }:=by
      cases hrnd:s.rnd with
      | none=>
        have hr0:=hr.rnd
        rw [hrnd] at hr0
        cases ro with
        | some _=>exact hr0.elim
        | none=>
          have hw1:=hr.wr.new (slot:=none) (l:=⟨w.heap.size,0,1,0,0⟩) (o:=.deferred (some [])) (B:=.defr 0) .back rfl rfl rfl (.defr (by simp))
          refine ⟨w.heap.size,[{ target:=.collected w.heap.size,args:=#[] }],_,_,_,_,by simp only [zn3,hrnd]; rfl,by simp only [zba,hrnd]; rfl,hw1,zp5 hr.wr .back rfl,?_,?_⟩
          ·refine ⟨by simp [hr.dfr.1],fun i p d h1 h2=>?_⟩
           cases i with
           | zero=>
             simp at h1 h2; subst h1; subst h2
             exact ⟨w.heap.size,rfl, .yieldf (l:=⟨w.heap.size,0,1,0,0⟩) (zfc hr.wr.len .back _) (Nat.le_refl _) (fun _=>rfl)⟩
           | succ i=>
             simp at h1 h2
             obtain ⟨r,e,hv⟩:=hr.dfr.2 i p d h1 h2
             exact ⟨r,e,hv.mono (FExt.refl φ) (zp5 hr.wr .back rfl)⟩
          ·simp [Instr.enterLoop]; rfl
      | some p=>
        have hr0:=hr.rnd
        rw [hrnd] at hr0
        cases ro with
        | none=>exact hr0.elim
        | some r0=>
          obtain ⟨id,g⟩:=p
          rw [hrnd] at hrok
          simp only [zmi] at hrok
          split at hrok
          ·rename_i g' _ _ _ _ _ _ hB
           simp only [beq_iff_eq] at hrok
           obtain ⟨l0,lp0,e0,_,_,hlp0,_⟩:=hr.wr.loopAt hB hrok.symm hr0
           have:r0=l0.b:=by simpa using e0
           subst this
           refine ⟨lp0.defers,[],w,_,_,μ,by simp only [zn3,hrnd] <;> rfl,by simp only [zba,hrnd] <;> rfl,hr.wr,MExt.refl μ,by simpa using hr.dfr,?_⟩
           simp [Instr.enterLoop,z4b hlp0]
          ·simp at hrok
     obtain ⟨D,mark,w0,H1,D',μ1,eH1,eD',hw1,hm1,hdf,hent⟩:=hlaid
     simp only [eH1,eD'] at hc
     have hw2:=hw1.new (slot:=none) (l:=⟨w0.heap.size,0,1,0,0⟩) (o:=.loop { state:=.ready,pending:=none,fn,tmps:=a.tmps,params:=ps,assign:=x,body:=y,defers:=D })
      (B:=.loop 0 .ready none s.tm ps.toList (ze2 P nt kept x) (ze2 P nt kept y)) .back rfl rfl rfl
      (.loop (lp:={ state:=.ready,pending:=none,fn,tmps:=a.tmps,params:=ps,assign:=x,body:=y,defers:=D }) (by simp) ⟨rfl,trivial,fun t=>((hr.env.mono (FExt.refl φ) hm1).mono (FExt.refl φ) (zp5 hw1 .back rfl)).at_ t,rfl,nt,kept,hr.size,rfl,rfl,hr.tinv,psok⟩)
     have hm2:=zp5 hw1 (.back) (l:=⟨w0.heap.size,0,1,0,0⟩) rfl
     have hvl:VR φ (locAt none μ1 ⟨w0.heap.size,0,1,0,0⟩) (.yieldf H1.length 0) (.func (.yield w0.heap.size) #[] #[]):=.yieldf (zfc hw1.len .back _) (Nat.le_refl _) (fun _=>rfl)
     have hgo:=hN _ _ _ _ hc W φ _ _ (a.eval f) #[.func (.yield w0.heap.size) #[] #[]] hw2 ((hvf.mono (FExt.refl φ) hm1).mono (FExt.refl φ) hm2) (VRs.toList1 hvl)
     generalize hfv:zk s.tm.get f'=fv at hfun hvf hgo
     generalize hu:a.eval f=u at hvf hgo
     cases fv <;> simp [ztk] at hfun
     rename_i g0 A0 B0
     cases hvf with
     | func la lb hA hB=>
     rename_i va vb
     simp only [Deferred.ofValue,Sem.run_bind,Sem.run_pure,Result.andThen_ok] at hgo
     generalize hinv:(invoke (Target.fn (Fn.func g0) vb.toArray) (va.toArray++#[.func (.yield w0.heap.size) #[] #[]])).run P { w0 with heap:=w0.heap.push (.loop { state:=.ready,pending:=none,fn,tmps:=a.tmps,params:=ps,assign:=x,body:=y,defers:=D }) }=res at hgo
     cases res with
     | halt _ _=>exact hgo.elim
     | ok nx w2=>
       cases nx <;> simp only [Goes] at hgo <;> (try exact hgo.elim)
       case round=>obtain ⟨⟨_,_,e⟩,_⟩:=hgo; simp at e
       case enter fe argse=>
        refine ⟨w0.heap.size,mark,_,{ target:=.fn (.func g0) vb.toArray,args:=va.toArray++#[.func (.yield w0.heap.size) #[] #[]] },_,fe,argse,w2,hent,?_,fun _ _=>trivial,hinv,fun h=>by simp [Fence.wide] at h,?_⟩
        ·simp only [resolve,rangeCall,hu]
         simp [Deferred.ofValue,Act.eval]
        ·refine CallsIn.mono (ztx (hgo.2 (n - 1))) ?_
         rintro en w3 ⟨v,rfl,rr,H3,φ',μ3,h,e1,e2,hw3,hv3⟩
         split at h
         ·rename_i st pend tm' ps' a' b' hB3
          obtain ⟨l3,lp3,e3,hl3,hg3,hlp3,hLR⟩:=hw3.loopAt hB3 rfl (hvl.mono e1 e2)
          have eb:w0.heap.size=l3.b:=by simpa using e3
          obtain ⟨μ4,hw4,hm4⟩:=hw3.kill (o:=.loop { lp3 with state:=.exhausted }) hB3 hl3 rfl
          have hend:lp3.state≠.busy→(Instr.endLoop w0.heap.size).run P w3=.ok lp3.pending { w3 with heap:=w3.heap.setIfInBounds l3.b (.loop { lp3 with state:=.exhausted }) }:=by
           intro hne
           rw [eb]
           simp [Instr.endLoop,z4b hlp3,zag hlp3]
           exact fun h=>absurd h hne
          generalize ({ w3 with heap:=w3.heap.setIfInBounds l3.b (.loop { lp3 with state:=.exhausted }) }:World)=w4 at hend hw4
          have hmall:MExt μ μ4:=((hm1.trans hm2).trans e2).trans hm4
          obtain ⟨hst,h⟩:=h
          ·have hst:=hst
           have hne:lp3.state≠.busy:=by rw [hLR.st]; exact hst
           refine ⟨lp3.pending,_,hend hne,?_⟩
           have hFR:FR P W kept nt ro φ' μ4 { s with heap:=H3.set H1.length (.dead 1),dfr:=D' } { a with defers:=mark++a.defers } w4:=
            ⟨⟨fun t=>(hr.env.at_ t).mono e1 hmall⟩,hr.tinv,hw4,hr.size,(hdf.mono e1 ((hm2.trans e2).trans hm4)),hr.rnd.mono e1 hmall⟩
           have hpend:=hLR.pend
           cases pend with
           | none=>
             cases hp:lp3.pending with
             | some c=>rw [hp] at hpend; exact hpend.elim
             | none=>exact hQ _ _ h _ _ φ' μ4 e1 hmall hFR
           | some e0=>
             have hq:=hQ _ _ h _ _ φ' μ4 e1 hmall hFR
             cases hp:lp3.pending with
             | none=>rw [hp] at hpend; cases e0 <;> exact hpend.elim
             | some c=>
               rw [hp] at hpend
               cases e0 with
               | normal=>exact hpend.elim
               | ret=>cases c <;> first | exact wpIn_ret hq | exact hpend.elim
               | exit id=>cases c <;> first | exact hpend.elim | (simp only [pendR] at hpend; subst hpend; exact wpIn_exit hq)
         ·exact h.elim
  ·exact h.elim
 ·exact h.elim
end Go.Abs
