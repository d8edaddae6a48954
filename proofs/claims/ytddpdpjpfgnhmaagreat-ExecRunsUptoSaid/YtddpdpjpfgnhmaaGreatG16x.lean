/- Abs 27: CALLS: what the interpreter says of a call is what the machine does. -/
import Derived.Test.YtddpdpjpfgnhmaaGreatG15x
set_option linter.unusedSimpArgs false
set_option linter.unusedVariables false
set_option maxHeartbeats 4000000
namespace Go.Abs
open Go.RowKit
variable {CR:CRel} {P:Program} {W:BaseW} {w:World} {φ ψ:Frz} {μ ν:List Loc} {H H':Heap} {call:CallF} {callN:zi5}
def Comes (P:Program) (W:BaseW) (φ:Frz) (μ:List Loc) (H':Heap) (r:AV) (e:Ending) (w':World):Prop:=
 ∃ v,e=.returned v∧∃ φ' μ',FExt φ φ'∧MExt μ μ'∧WR (z51 P) W φ' μ' H' w'∧VR φ' μ' r v
def LawOk (P:Program) (f:FuncId) (g:List AV→Option AV):Prop:=
 (∃ fn, P.funcs[f]? = some fn ∧ fn.body.isSome = true ∧ fn.name ≠ "runtime.NumGoroutine") ∧
 ∀ (args:List AV) (r:AV),AV.plains args=true→g args=some r→∀ (n:Nat) (W:BaseW) (φ:Frz) (μ:List Loc) (H:Heap) (w:World) (us:List Value),
   WR (z51 P) W φ μ H w→VRs φ μ args us→CallsIn Fence.wide n P f us.toArray w (Comes P W φ μ H r)
def TblOk (P:Program) (tbl:FuncId→Option AFun):Prop:=
 ∀ f x,tbl f=some x→match x with
   | .code af=>∃ fn pure frz keptL,P.funcs[f]? = some fn∧z9 P pure frz keptL fn=some af
   | .law g=>LawOk P f g
theorem z6c {pure frz : Bool} {keptL : List Nat} {fn : Func} {af : AFunc} (h : z9 P pure frz keptL fn = some af) : fn.body.isSome = true ∧ fn.name ≠ "runtime.NumGoroutine" := by
 unfold z9 at h
 split at h
 ·rename_i c rs hb _
  split at h
  ·rename_i hc
   simp only [Bool.and_eq_true,bne_iff_ne] at hc
   exact ⟨by simp [hb],hc.2⟩
  ·simp at h
 ·simp at h
theorem zee {f : FuncId} {fn : Func} (hf : P.funcs[f]? = some fn) (hb : fn.body.isSome = true) (hn : fn.name ≠ "runtime.NumGoroutine") (args : Array Value) :
 (callFunc f args).run P w=.ok (.enter f args) w:=by
 have hb':fn.body≠none:=by cases h:fn.body <;> simp [h] at hb ⊢
 simp [callFunc,hf,hb',hn]
theorem zzx (hw:WR CR W φ μ H w) (hf:FExt φ ψ) (ho:∀ (id:Nat) (B:Blk) (l:Loc),H[id]? = some B→μ[id]? = some l→B.live=true→ψ false l.b=w.heap[l.b]?) {k:Nat} {xs ys:List AV} {vs:List Value}
 (h:zx3 (reify H k) xs=some ys) (hv:VRs φ μ xs vs):VRs ψ ν ys vs:=by
 refine ⟨by rw [(zr7 h).1]; exact hv.1,fun i y v h1 h2=>?_⟩
 obtain ⟨x,g1,g2⟩:=zb7 h h1
 exact zdl hw hf (fun _ _ h _=>h) ho k x y v g2 (hv.2 i x v g1 h2)
def NPURE (call:CallF) (callN:zi5) (af:AFunc) (args:List AV) (R:AV→Prop):Prop:=
 NBODY call callN af args [] fun r H'=>∃ r',reify H' zw r=some r'∧R r'
def stepN (tbl:FuncId→Option AFun) (call:CallF) (callN:zi5):zi5:=fun fv args H R=>
 match fv with
 | .func f first captured=>
   match tbl f with
   | some (.law g)=>AV.plains (first++args++captured)=true∧∃ r,g (first++args++captured)=some r∧R r H
   | some (.code af)=>
     if af.pure=true then
      if AV.plains (first++args++captured)=true then
       if AV.unlents (first++args++captured)=true then NPURE call callN af (first++args++captured) fun r=>R r H
       else NPURE call callN af (AV.lends (first++args++captured)) fun r=>R (if r.unlent then r else r.lend) H
      else ∃ args',zx3 (reify H zw) (first++args++captured)=some args'∧NPURE call callN af (AV.lends args') fun r=>r.unlent=true∧R r H
     else NBODY call callN af (first++args++captured) H fun r H'=>R (zj af.frz H.length r H').1 (zj af.frz H.length r H').2
   | none=>False
 | .yieldf id gen=>NROUND call callN id gen args H fun r H'=>R (trunc H.length r H').1 (trunc H.length r H').2
 | _=>False
def NCALL (tbl:FuncId→Option AFun):Nat→zi5
 | 0=>fun _ _ _ _=>False
 | k + 1=>stepN tbl (callK tbl k) (NCALL tbl k)
theorem zfl (hcall:z7a (z51 P) P call) (hN:z98 (z51 P) P callN) {f n:Nat} {fn:Func} {pure frz:Bool} {keptL:List Nat} {af:AFunc} (hf:P.funcs[f]? = some fn) (hc:z9 P pure frz keptL fn=some af) {args:List AV} {vs:List Value} {R:AV→Prop}
 (h:NPURE call callN af args R) (hφ:∀ k b o,φ k b=some o→w.heap[b]? = some o) (hs:∀ b o,φ false b=some o→φ true b=some o) (hv:VRs φ [] args vs) :
 CallsIn Fence.wide n P f vs.toArray w (fun e w'=>∃ v,e=.returned v∧∃ r,R r∧Below w.heap.size w w'∧VR (fun k b=>if b < w.heap.size then φ k b else w'.heap[b]?) [] r v):=by
 refine CallsIn.mono (z1s (W:={ w with φ0:=φ }) hcall hN hf hc h (WR.start hφ hs) hv) ?_
 rintro e w' ⟨v,rfl,r0,H1,φ',μ',⟨r,h,hR⟩,e1,e2,hw',hv'⟩
 refine ⟨v,rfl,r,hR,hw'.below,?_⟩
 refine zdl hw' (fun kk b o hb=>?_) (fun _ _ h _=>h) (fun id B l h1 h2 h3=>?_) zw r0 r v h hv'
 ·split
  ·rename_i hlt
   have:=hw'.base kk b hlt
   rw [this] at hb; exact hb
  ·exact hw'.frz kk b o hb
 ·have:=(hw'.own id B l h1 h2 h3).1
  rw [if_neg (by simpa using this)]
theorem zgw {tbl:FuncId→Option AFun} (ht:TblOk P tbl) (hcall:z7a (z51 P) P call) (hN:z98 (z51 P) P callN):z98 (z51 P) P (stepN tbl call callN):=by
 intro fv args H R h W φ μ w u us hw hu hv
 unfold stepN at h
 split at h
 ·rename_i f first captured
  cases hu with
  | func la lb hva hvb=>
  rename_i va vb
  have hargs:VRs φ μ (first++args++captured) (va++us.toList++vb):=VRs.append (VRs.append ⟨la,hva⟩ hv) ⟨lb,hvb⟩
  generalize first++args++captured=all at h hargs
  have hrun : ∀ {fn : Func}, P.funcs[f]? = some fn → fn.body.isSome = true → fn.name ≠ "runtime.NumGoroutine" → (do let d ← Deferred.ofValue (.func (.func f) va.toArray vb.toArray) us; invoke d.target d.args : Sem Next).run P w = .ok (.enter f (va ++ us.toList ++ vb).toArray) w := by
   intro fn h1 h2 h3
   have:(va.toArray++us++vb.toArray)=(va++us.toList++vb).toArray:=by apply Array.ext'; simp
   simp only [Deferred.ofValue,Sem.run_bind,Sem.run_pure,Result.andThen_ok,invoke]
   rw [this]
   exact zee h1 h2 h3 _
  split at h
  ·rename_i g htb
   obtain ⟨⟨fn,h1,h2,h3⟩,hlaw⟩:=ht f _ htb
   obtain ⟨hp,r',hg,hR⟩:=h
   rw [hrun h1 h2 h3]
   refine ⟨⟨_,_,_,rfl⟩,fun n=>CallsIn.mono (hlaw _ _ hp hg n W φ μ H w _ hw hargs) ?_⟩
   rintro e w' ⟨v,rfl,φ',μ',e1,e2,hw',hv'⟩
   exact ⟨v,rfl,r',H,φ',μ',hR,e1,e2,hw',hv'⟩
  ·rename_i af htb
   obtain ⟨fn,pure,frz,keptL,h1,h2⟩:=ht f _ htb
   have h3:=z6c h2
   rw [hrun h1 h3.1 h3.2]
   refine ⟨⟨_,_,_,rfl⟩,fun n=>?_⟩
   split at h
   ·split at h
    ·rename_i hp
     have hv0:VRs φ [] all (va++us.toList++vb):=⟨hargs.1,fun i x v g1 g2=>(hargs.2 i x v g1 g2).plainly (zb5 hp g1)⟩
     have hbeh:∀ {w':World},Below w.heap.size w w'→WR (z51 P) W (fun k b=>if b < w.heap.size then φ k b else w'.heap[b]?) μ H w'∧FExt φ (fun k b=>if b < w.heap.size then φ k b else w'.heap[b]?):=fun {w'} hb=>
      hw.behind hb (fun k b hlt=>by simp [hlt]) (fun k b o hle hb=>by
       rw [if_neg (by omega)] at hb; exact hb) (fun b o hle hb=>by
       rw [if_neg (by omega)] at hb ⊢; exact hb)
     split at h
     ·refine CallsIn.mono (zfl hcall hN h1 h2 h hw.frz hw.sub hv0) ?_
      rintro e w' ⟨v,rfl,r',hR,hb,hvr⟩
      obtain ⟨g1,g2⟩:=hbeh hb
      exact ⟨v,rfl,r',H,_,μ,hR,g2,MExt.refl μ,g1,hvr.mono (FExt.refl _) ⟨by simp,fun id l h=>by simp at h⟩⟩
     ·refine CallsIn.mono (zfl hcall hN h1 h2 h hw.frz hw.sub (hv0.lends hw.sub)) ?_
      rintro e w' ⟨v,rfl,r',hR,hb,hvr⟩
      obtain ⟨g1,g2⟩:=hbeh hb
      have hvr':VR _ μ r' v:=hvr.mono (FExt.refl _) ⟨by simp,fun id l h=>by simp at h⟩
      refine ⟨v,rfl,_,H,_,μ,hR,g2,MExt.refl μ,g1,?_⟩
      split
      ·exact hvr'
      ·exact hvr'.lend g1.sub
    ·obtain ⟨args',hre,h⟩:=h
     have hbase:∀ b o,φ false b=some o→w.heap[b]? = some o:=fun b o hb=>hw.frz false b o hb
     have hv1:VRs (fun _ b=>w.heap[b]?) [] args' (va++us.toList++vb):=zzx hw (fun k b o hb=>hw.frz k b o hb) (fun _ _ _ _ _ _=>rfl) hre hargs
     have hv0:VRs (fun k b=>if k=true then w.heap[b]? else φ false b) [] (AV.lends args') (va++us.toList++vb):=by
      refine ⟨by rw [z44]; exact hv1.1,fun i y v g1 g2=>?_⟩
      obtain ⟨x,f1,rfl⟩:=z54 g1
      exact (hv1.2 i x v f1 g2).lendTo (fun k b o h=>by simpa using h)
     refine CallsIn.mono (zfl hcall hN h1 h2 h (fun k b o hb=>by
      cases k with
      | true=>simpa using hb
      | false=>exact hbase b o (by simpa using hb)) (fun b o hb=>by simpa using hbase b o (by simpa using hb)) hv0) ?_
     rintro e w' ⟨v,rfl,r',⟨hsc,hR⟩,hb,hvr⟩
     obtain ⟨g1,g2⟩:=hw.behind (ψ:=fun k b=>if b < w.heap.size then φ k b else w'.heap[b]?) hb (fun k b hlt=>by simp [hlt]) (fun k b o hle hb=>by
      rw [if_neg (by omega)] at hb; exact hb) (fun b o hle hb=>by
      rw [if_neg (by omega)] at hb ⊢; exact hb)
     exact ⟨v,rfl,r',H,_,μ,hR,g2,MExt.refl μ,g1,hvr.unlently (fun b o hb=>by simpa using hb) hsc⟩
   ·refine CallsIn.mono (z1s (W:=W) hcall hN h1 h2 h hw hargs) ?_
    rintro e w' ⟨v,rfl,r0,H2,φ',μ',hR,e1,e2,hw',hv'⟩
    obtain ⟨φ2,μ2,f1,g1,g2,g3⟩:=zvn (r':=(zj af.frz H.length r0 H2).1) (H':=(zj af.frz H.length r0 H2).2) rfl hw' hv' hw.len e2
    exact ⟨v,rfl,_,_,φ2,μ2,hR,e1.trans f1,g1,g2,g3⟩
  ·exact h.elim
 ·rename_i id gen
  have:=zwx hcall hN h hw hu hv
  generalize (do let d ← Deferred.ofValue u us; invoke d.target d.args:Sem Next).run P w=res at this ⊢
  cases res with
  | halt x w'=>exact this.elim
  | ok nx w'=>
    cases nx <;> simp only [Goes] at this ⊢ <;> (try exact this.elim)
    case enter=>obtain ⟨⟨_,_,_,e⟩,_⟩:=this; simp at e
    case round=>
     refine ⟨this.1,fun n=>RoundIn.mono (this.2 n) ?_⟩
     rintro e w'' ⟨v,rfl,r0,H2,φ',μ',hR,e1,e2,hw',hv'⟩
     obtain ⟨μ2,g1,g2,g3⟩:=z3s (r':=(trunc H.length r0 H2).1) (H':=(trunc H.length r0 H2).2) rfl hw' hv' hw.len e2
     exact ⟨v,rfl,_,_,φ',μ2,hR,e1,g1,g2,g3⟩
 ·exact h.elim
def Into (call:CallF) (callN:zi5):Prop:=∀ (fv:AV) (args:List AV) (H:Heap) (r:AV) (H':Heap) (R:AV→Heap→Prop),call fv args H=some (r,H')→R r H'→callN fv args H R
theorem zhw (hi:Into call callN) {K:RSt→Prop}:∀ {ops:List AOper} {s s':RSt},zo5 call ops s=some s'→K s'→NOPS call callN ops s K
 | [],s,s',h,hk=>by simp [zo5] at h; subst h; exact hk
 | o::os,s,s',h,hk=>by
   simp only [zo5] at h
   split at h
   ·rename_i s1 h1
    have ih:=zhw hi h hk
    simp only [NOPS,NSTEP]
    unfold stepA at h1
    split at h1
    ·rename_i hw
     rw [hw]
     split at h1
     ·rename_i v H' hr
      simp only [Option.some.injEq] at h1; subst h1
      simp only
      by_cases hnd:o.op.nd=false
      ·rw [zah hnd]; exact ⟨v,H',hr,ih⟩
      ·generalize hop:o.op=op at hr hnd
       cases op <;> (try (simp [AOp.nd] at hnd; done))
       case call f args=>
        simp only [actOf,zd] at hr
        exact hi _ _ _ _ _ _ hr (by rw [← hop] at *; exact ih)
       case invoke ms x args=>
        simp only [NACT]
        simp only [actOf] at hr
        split at hr
        ·split at hr
         ·simp only [zd] at hr
          rename_i h1 _ _ h2
          simp only [h1,h2]
          exact hi _ _ _ _ _ _ hr ih
         ·simp [zd] at hr
        ·simp [zd] at hr
       all_goals (simp [actOf,zd] at hr)
     ·simp at h1
    ·rename_i hw
     rw [hw]
     simp only [Option.some.injEq] at h1; subst h1
     exact ih
    ·simp at h1
   ·simp at h
theorem ziw (hi:Into call callN) {lp:LoopF} (hlp:∀ f s r,lp f s=some r→∃ k,aloop f k s=some r):∀ (c:ACode) (s s':St) (ex:AExit) (R:AExit→St→Prop),exec call lp c s=some (ex,s')→R ex s'→NX call callN c s R:=by
 intro c
 induction c with
 | skip=>intro s s' ex R h hR; simp only [exec,Option.some.injEq,Prod.mk.injEq] at h; obtain ⟨rfl,rfl⟩:=h; exact hR
 | exit id=>intro s s' ex R h hR; simp only [exec,Option.some.injEq,Prod.mk.injEq] at h; obtain ⟨rfl,rfl⟩:=h; exact hR
 | ret=>intro s s' ex R h hR; simp only [exec,Option.some.injEq,Prod.mk.injEq] at h; obtain ⟨rfl,rfl⟩:=h; exact hR
 | bad=>intro s s' ex R h hR; simp [exec] at h
 | region ops=>
   intro s s' ex R h hR
   simp only [exec] at h
   split at h
   ·rename_i r hr
    simp only [Option.some.injEq,Prod.mk.injEq] at h; obtain ⟨rfl,rfl⟩:=h
    exact zhw hi hr hR
   ·simp at h
 | draw ops ps=>
   intro s s' ex R h hR
   simp only [exec] at h
   split at h
   ·rename_i r rs hr
    split at h
    ·rename_i hp
     simp only [Option.some.injEq,Prod.mk.injEq] at h; obtain ⟨rfl,rfl⟩:=h
     exact ⟨r,rs,hr,hp,hR⟩
    ·simp at h
   ·simp at h
 | seq a b iha ihb=>
   intro s s' ex R h hR
   simp only [exec] at h
   simp only [NX]
   split at h
   ·rename_i s1 h1
    exact iha s s1 .normal _ h1 (ihb s1 s' ex R h hR)
   ·rename_i hne
    refine iha s s' ex _ h ?_
    cases ex with
    | normal=>exact absurd h (hne s')
    | exit j=>exact hR
    | ret=>exact hR
 | cond c a b iha ihb=>
   intro s s' ex R h hR
   simp only [exec] at h
   simp only [NX]
   split at h
   ·rename_i ht; rw [ht]; exact iha s s' ex R h hR
   ·rename_i ht; rw [ht]; exact ihb s s' ex R h hR
   ·simp at h
 | block id a ih=>
   intro s s' ex R h hR
   simp only [exec] at h
   simp only [NX]
   split at h
   ·rename_i j s1 h1
    refine ih s s1 (.exit j) _ h1 ?_
    simp only
    split at h <;> (rename_i hj; simp only [Option.some.injEq,Prod.mk.injEq] at h; obtain ⟨rfl,rfl⟩:=h)
    ·rw [if_pos hj]; exact hR
    ·rw [if_neg hj]; exact hR
   ·rename_i hne
    refine ih s s' ex _ h ?_
    cases ex with
    | normal=>exact hR
    | exit j=>exact absurd h (hne j s')
    | ret=>exact hR
 | loop a ih=>
   intro s s' ex R h hR
   simp only [exec] at h
   obtain ⟨k,h⟩:=hlp _ _ _ h
   simp only [NX]
   classical
   refine ⟨fun s1=>∃ j,aloop (exec call lp a) j s1=some (ex,s'),fun s1=>if hh:∃ j,aloop (exec call lp a) j s1=some (ex,s') then Classical.choose (z23 hh) else 0,⟨k,h⟩,fun s1 hI=>?_⟩
   have hl:=(Classical.choose_spec (z23 hI)).1
   obtain ⟨m,hm,hcase⟩:=zsx hl
   rcases hcase with ⟨s2,hf,hl2⟩ | ⟨hf,hne⟩
   ·refine ih s1 s2 .normal _ hf ?_
    have hI':∃ j,aloop (exec call lp a) j s2=some (ex,s'):=⟨m,hl2⟩
    refine ⟨hI',?_⟩
    simp only [dif_pos hI',dif_pos hI]
    have:=(Classical.choose_spec (z23 hI')).2 m hl2
    omega
   ·refine ih s1 s' ex _ hf ?_
    cases ex with
    | normal=>exact absurd rfl hne
    | exit j=>exact hR
    | ret=>exact hR
 | rangeFunc f ps a b _ _=>
   intro s s' ex R h hR
   have e:exec call lp (.rangeFunc f ps a b) s =
   (match (if ztk (evalA [] s.tm f) && zmi s.heap s.rnd then call (evalA [] s.tm f) [.yieldf (zn3 s).length 0] (zn3 s++[.loop 0 .ready none s.tm ps a b]) else none) with
   | some (_,H3)=>match H3[(zn3 s).length]? with
     | some (.loop 0 st pend _ _ _ _)=>if st=.busy then none else
      match pend with
      | none=>some (.normal,{ s with heap:=H3.set (zn3 s).length (.dead 1),dfr:=zba s })
      | some e=>some (e,{ s with heap:=H3.set (zn3 s).length (.dead 1),dfr:=zba s })
     | _=>none
   | none=>none):=by
     obtain ⟨tm,heap,dfr,rnd⟩:=s
     cases rnd <;> simp only [exec,zn3,zba] <;> rfl
   rw [e] at h
   simp only [NX]
   split at h
   ·rename_i rv H3 hc
    split at hc
    ·rename_i hcond
     simp only [Bool.and_eq_true] at hcond
     refine ⟨hcond.1,hcond.2,hi _ _ _ _ _ _ hc ?_⟩
     split at h
     ·rename_i hB
      rw [hB]
      simp only
      split at h
      ·simp at h
      ·rename_i hst
       refine ⟨hst,?_⟩
       split at h <;> (simp only [Option.some.injEq,Prod.mk.injEq] at h; obtain ⟨rfl,rfl⟩:=h; exact hR)
     ·simp at h
    ·simp at hc
   ·simp at h
theorem zs51 (hi:Into call callN) {k:Nat} {af:AFunc} {args:List AV} {r:AV} {R:AV→Heap→Prop} (h:z58 call (fun f=>aloop f k) af args H=some (r,H')) (hR:R r H'):NBODY call callN af args H R:=by
 unfold z58 at h
 split at h
 ·rename_i hlen
  refine ⟨hlen,?_⟩
  split at h
  ·rename_i e s hex
   refine ziw hi (fun f s r h=>⟨k,h⟩) _ _ _ _ _ hex ?_
   split at h
   ·rename_i hret
    split at h
    ·rename_i H2 hcl
     split at h
     ·rename_i vs hrd
      simp only [Option.some.injEq,Prod.mk.injEq] at h
      obtain ⟨rfl,rfl⟩:=h
      exact ⟨hret,H2,vs,hcl,hrd,hR⟩
     ·simp at h
    ·simp at h
   ·simp at h
  ·simp at h
 ·simp at h
theorem zzz (hi:Into call callN) {k:Nat} {af:AFunc} {args:List AV} {r:AV} {R:AV→Prop} (h:zy call (fun f=>aloop f k) af args=some r) (hR:R r):NPURE call callN af args R:=by
 unfold zy at h
 split at h
 ·rename_i r0 H1 hb
  exact zs51 hi hb ⟨r,h,hR⟩
 ·simp at h
theorem zp61 (hi:Into call callN) {k id gen:Nat} {args:List AV} {r:AV} {R:AV→Heap→Prop} (h:zh5 call (fun f=>aloop f k) id gen args H=some (r,H')) (hR:R r H'):NROUND call callN id gen args H R:=by
 unfold zh5 at h
 unfold NROUND
 split at h
 ·rename_i hB
  rw [hB]
  simp only
  split at h
  ·rename_i hg
   refine ⟨hg.1,hg.2,?_⟩
   split at h
   ·rename_i s hexa
    refine ziw hi (fun f s r h=>⟨k,h⟩) _ _ _ _ _ hexa ⟨rfl,?_⟩
    split at h
    ·rename_i hB1
     rw [hB1]
     simp only
     split at h
     ·rename_i hg1
      refine ⟨hg1,?_⟩
      split at h
      ·rename_i e s' hexb
       refine ziw hi (fun f s r h=>⟨k,h⟩) _ _ _ _ _ hexb ?_
       split at h
       ·rename_i hB2
        rw [hB2]
        simp only
        split at h
        ·rename_i hg2
         refine ⟨hg2,?_⟩
         cases e <;> (simp only [Option.some.injEq,Prod.mk.injEq] at h; obtain ⟨rfl,rfl⟩:=h; exact hR)
        ·simp at h
       ·simp at h
      ·simp at h
     ·simp at h
    ·simp at h
   ·simp at h
  ·simp at h
 ·simp at h
theorem z891 {tbl:FuncId→Option AFun} (hi:Into call callN) (k:Nat):Into (z15 tbl call (fun f=>aloop f k)) (stepN tbl call callN):=by
 intro fv args H r H' R h hR
 unfold z15 at h
 unfold stepN
 split at h
 ·rename_i f first captured
  simp only
  generalize first++args++captured=all at h
  split at h
  ·rename_i g htb
   rw [htb]
   split at h
   ·rename_i hp
    split at h
    ·rename_i r' hg
     simp only [Option.some.injEq,Prod.mk.injEq] at h; obtain ⟨rfl,rfl⟩:=h
     exact ⟨hp,r',hg,hR⟩
    ·simp at h
   ·simp at h
  ·rename_i af htb
   rw [htb]
   simp only
   split at h
   ·rename_i hpu
    rw [if_pos hpu]
    split at h
    ·rename_i hp
     rw [if_pos hp]
     split at h
     ·rename_i hu
      rw [if_pos hu]
      split at h
      ·rename_i r' hrp
       simp only [Option.some.injEq,Prod.mk.injEq] at h; obtain ⟨rfl,rfl⟩:=h
       exact zzz hi hrp hR
      ·simp at h
     ·rename_i hu
      rw [if_neg hu]
      split at h
      ·rename_i r' hrp
       simp only [Option.some.injEq,Prod.mk.injEq] at h; obtain ⟨rfl,rfl⟩:=h
       exact zzz hi hrp hR
      ·simp at h
    ·rename_i hp
     rw [if_neg hp]
     split at h
     ·rename_i args' hre
      refine ⟨args',hre,?_⟩
      split at h
      ·rename_i r' hrp
       split at h
       ·rename_i hsc
        simp only [Option.some.injEq,Prod.mk.injEq] at h; obtain ⟨rfl,rfl⟩:=h
        exact zzz hi hrp ⟨hsc,hR⟩
       ·simp at h
      ·simp at h
     ·simp at h
   ·rename_i hpu
    rw [if_neg hpu]
    split at h
    ·rename_i r' H2 hrb
     simp only [Option.some.injEq] at h
     refine zs51 hi hrb ?_
     rw [h]; exact hR
    ·simp at h
  ·simp at h
 ·rename_i id gen
  simp only
  split at h
  ·rename_i r' H2 hrr
   simp only [Option.some.injEq] at h
   refine zp61 hi hrr ?_
   rw [h]; exact hR
  ·simp at h
 ·simp at h
theorem z001 {tbl:FuncId→Option AFun}:∀ k,Into (callK tbl k) (NCALL tbl k)
 | 0=>fun fv args H r H' R h=>by simp [callK] at h
 | k + 1=>z891 (z001 k) k
theorem zjw {tbl:FuncId→Option AFun} (ht:TblOk P tbl):∀ k,z7a (z51 P) P (callK tbl k)∧z98 (z51 P) P (NCALL tbl k)
 | 0=>⟨fun fv args H r H' h=>by simp [callK] at h,fun fv args H R h=>by simp [NCALL] at h⟩
 | k + 1=>by
   have ih:=zjw ht k
   have hn:z98 (z51 P) P (NCALL tbl (k + 1)):=zgw ht ih.1 ih.2
   refine ⟨fun fv args H r H' h W φ μ w u us hw hu hv=>?_,hn⟩
   have:=hn fv args H (fun r1 H1=>r1=r∧H1=H') (z001 (k + 1) fv args H r H' _ h ⟨rfl,rfl⟩) W φ μ w u us hw hu hv
   refine this.mono ?_
   rintro v w' ⟨r1,H1,φ',μ',⟨rfl,rfl⟩,h1,h2,h3,h4⟩
   exact ⟨φ',μ',h1,h2,h3,h4⟩
theorem zkw {tbl:FuncId→Option AFun} (ht:TblOk P tbl) (k:Nat):z7a (z51 P) P (callK tbl k):=(zjw ht k).1
theorem zmu {tbl:FuncId→Option AFun} (ht:TblOk P tbl) {k:Nat} {f:FuncId} {args:List AV} {r:AV} {H':Heap} (h:callK tbl k (.func f [] []) args []=some (r,H')) (hφ:∀ k b o,φ k b=some o→w.heap[b]? = some o) (hs:∀ b o,φ false b=some o→φ true b=some o)
 {vs:Array Value} (hv:VRs φ [] args vs.toList):Calls P f vs w (fun e w'=>∃ v,e=.returned v∧Below w.heap.size w w'∧∃ φ' μ',VR φ' μ' r v):=by
 have:=zkw ht k _ _ _ _ _ h { w with φ0:=φ } φ [] w (.func (.func f) #[] #[]) vs (WR.start hφ hs) (.func (va:=[]) (vb:=[]) rfl rfl (fun i x v h=>by simp at h) (fun i x v h=>by simp at h)) hv
 generalize hres:(do let d ← Deferred.ofValue (.func (.func f) #[] #[]) vs; invoke d.target d.args:Sem Next).run P w=res at this
 cases res with
 | halt x w'=>exact this.elim
 | ok nx w'=>
   cases nx <;> simp only [Goes] at this <;> (try exact this.elim)
   case round=>obtain ⟨⟨_,_,e⟩,_⟩:=this; simp at e
   case enter f' args'=>
    have hq:f'=f∧args'=vs∧w'=w:=by
     cases k with
     | zero=>simp [callK] at h
     | succ k=>
       simp only [callK,z15] at h
       have hsome:∃ x,tbl f=some x:=by
        cases htb:tbl f with
        | none=>rw [htb] at h; simp at h
        | some x=>exact ⟨x,rfl⟩
       obtain ⟨x,hx⟩:=hsome
       have hfn : ∃ fn, P.funcs[f]? = some fn ∧ fn.body.isSome = true ∧ fn.name ≠ "runtime.NumGoroutine" := by
        have:=ht f x hx
        cases x with
        | code af=>obtain ⟨fn,_,_,_,g1,g2⟩:=this; exact ⟨fn,g1,z6c g2⟩
        | law g=>exact this.1
       obtain ⟨fn,g1,g2,g3⟩:=hfn
       simp only [Deferred.ofValue,Sem.run_bind,Sem.run_pure,Result.andThen_ok,invoke] at hres
       rw [zee g1 g2 g3] at hres
       simp at hres
       exact ⟨hres.1.1.symm,hres.1.2.symm,hres.2.symm⟩
    obtain ⟨rfl,rfl,rfl⟩:=hq
    refine (callsIn_wide (n:=0)).1 (CallsIn.mono (this.2 0) ?_)
    rintro e w'' ⟨v,rfl,φ',μ',_,_,hw',hv'⟩
    exact ⟨v,rfl,hw'.below,φ',μ',hv'⟩
end Go.Abs
