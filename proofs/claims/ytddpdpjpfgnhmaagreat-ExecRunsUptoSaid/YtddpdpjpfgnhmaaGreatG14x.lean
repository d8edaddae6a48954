/- Abs 25: bodies and rounds. -/
import Derived.Test.YtddpdpjpfgnhmaaGreatG13x
set_option linter.unusedSimpArgs false
set_option linter.unusedVariables false
set_option maxHeartbeats 4000000
namespace Go.Abs
open Go.RowKit
variable {P:Program} {W:BaseW} {w:World} {φ:Frz} {μ:List Loc} {H H':Heap} {a:Act} {call:CallF} {callN:zi5} {kept:Nat→Bool} {ops:Array Oper} {Q:Exit→Act→World→Prop} {ro:Option Nat} {n nt:Nat}
def NBODY (call:CallF) (callN:zi5) (af:AFunc) (args:List AV) (H:Heap) (R:AV→Heap→Prop):Prop:=
 args.length=af.nargs∧NX call callN af.body { tm:=Tm.ofArgs .leaf 0 args,heap:=H,dfr:=[],rnd:=none } fun e s=>(e=.normal∨e=.ret)∧∃ H' vs,z89 s.heap s.dfr=some H'∧zm3 { s with heap:=H' } af.results=some vs∧R (zn7 vs) H'
def NROUND (call:CallF) (callN:zi5) (id gen:Nat) (args:List AV) (H:Heap) (R:AV→Heap→Prop):Prop:=match H[id]? with
 | some (.loop g _ _ tm ps a b)=>g=gen∧args.length=ps.length∧NX call callN a { tm:=tm.puts ps args,heap:=H,dfr:=[],rnd:=some (id,gen) } fun e s=>e=.normal∧match s.heap[id]? with
   | some (.loop g' .ready pd' tm' ps' a' b')=>g'=gen∧NX call callN b { s with heap:=s.heap.set id (.loop g' .busy pd' tm' ps' a' b') } fun e s'=>match s'.heap[id]? with
     | some (.loop g'' _ _ tm'' ps'' a'' b'')=>g''=gen∧(match e with
       | .normal=>R (.bool true) (s'.heap.set id (.loop g'' .ready none tm'' ps'' a'' b''))
       | e=>R (.bool false) (s'.heap.set id (.loop g'' .done (some e) tm'' ps'' a'' b'')))
     | _=>False
   | _=>False
 | _=>False
theorem zcl (hcall:z7a (z51 P) P call) (hN:z98 (z51 P) P callN) (c:Code) (s:St) (R:AExit→St→Prop) (h:NX call callN (ze2 P nt kept c) s R)
 (hr:FR P W kept nt ro φ μ s a w) (hQ:∀ ex s',R ex s'→∀ a' w' φ' μ',FExt φ φ'→MExt μ μ'→FR P W kept nt ro φ' μ' s' a' w'→Q (zno ex) a' w'):c.wpIn (Fk ro) n P Q a w:=
 zxz hcall hN (fun f ps x y s R h φ μ a w Q hr hQ=>zun hN f ps x y s R h hr hQ) c s R h φ μ a w Q hr hQ
theorem zvi:∀ (args:List AV) (t:Tm) (i m:Nat),i + args.length≤4000→(t.ofArgs i args).get m=if i≤m∧m < i + args.length then args.getD (m - i) .undef else t.get m
 | [],t,i,m,h=>by simp [Tm.ofArgs]; intro h1 h2; omega
 | x::xs,t,i,m,h=>by
   simp only [Tm.ofArgs]
   simp only [List.length_cons] at h ⊢
   rw [zvi xs _ (i + 1) m (by omega),Tm.get_put m (by omega)]
   by_cases h1:i + 1≤m∧m < i + 1 + xs.length
   ·rw [if_pos h1,if_pos (by omega)]
    have:m - i=(m - (i + 1)) + 1:=by omega
    rw [this]; simp
   ·rw [if_neg h1]
    by_cases h2:m=i
    ·subst h2; rw [if_pos rfl,if_pos (by omega)]; simp
    ·rw [if_neg h2,if_neg (by omega)]
theorem zyz {args:List AV} {vs:List Value} (h:VRs φ μ args vs) (hl:args.length≤4000) (k:Nat):EnvR φ μ (Tm.ofArgs .leaf 0 args).get { tmps:=vs.toArray++Array.replicate k undef,defers:=[] }:=by
 refine ⟨fun t=>?_⟩
 rw [zvi args .leaf 0 t (by omega)]
 simp only [Nat.zero_le,true_and,Nat.zero_add,Nat.sub_zero]
 by_cases ht:t < args.length
 ·rw [if_pos ht]
  have h1:args[t]? = some args[t]:=List.getElem?_eq_getElem ht
  have ht':t < vs.length:=by rw [← h.1]; exact ht
  have h2:vs[t]? = some vs[t]:=List.getElem?_eq_getElem ht'
  have:=h.2 t _ _ h1 h2
  simpa [List.getD,h1,Array.getElem?_append,ht'] using this
 ·rw [if_neg ht]; exact .undef _
theorem z1s (hcall:z7a (z51 P) P call) (hN:z98 (z51 P) P callN) {f:Nat} {fn:Func} {pure frz:Bool} {keptL:List Nat} {af:AFunc} (hf:P.funcs[f]? = some fn) (hc:z9 P pure frz keptL fn=some af) {args:List AV} {vs:List Value} {R:AV→Heap→Prop}
 (h:NBODY call callN af args H R) (hw:WR (z51 P) W φ μ H w) (hv:VRs φ μ args vs) :
 CallsIn Fence.wide n P f vs.toArray w (fun e w'=>∃ v,e=.returned v∧∃ r H' φ' μ',R r H'∧FExt φ φ'∧MExt μ μ'∧WR (z51 P) W φ' μ' H' w'∧VR φ' μ' r v):=by
 unfold z9 at hc
 split at hc
 ·rename_i c ars hb hrs
  split at hc
  ·rename_i hcond
   simp only [Bool.and_eq_true,decide_eq_true_eq,List.all_eq_true,List.mem_range] at hcond
   obtain ⟨⟨⟨hnt,hkeep⟩,hle⟩,hname⟩:=hcond
   simp only [Option.some.injEq] at hc; subst hc
   unfold NBODY at h
   simp only at h
   obtain ⟨hlen,hex⟩:=h
   have hsz:vs.toArray.size=args.length:=by simp [hv.1]
   refine callsIn_of_wp_marks hf hb trivial ?_
   refine zcl (W:=W) (φ:=φ) (μ:=μ) (ro:=none) hcall hN c _ _ hex ⟨zyz hv (by omega) _,?_,hw,by simp [hsz]; simp only [List.size_toArray] at hsz; omega,⟨rfl,fun i p d h=>by simp at h⟩,trivial⟩ ?_
   ·intro t ht
    simp only
    rw [zvi args .leaf 0 t (by omega)]
    rw [if_neg (fun hh=>by
     have:=hkeep t (by omega)
     exact absurd (this.symm.trans ht) (by simp))]
    rfl
   ·rintro e s ⟨hret,H2,rs,hcl,hrd,hR⟩ a' w' φ' μ' e1 e2 hr
    have hfin:LeavesInM Fence.wide n P fn a'.tmps (fun e w'=>∃ v,e=.returned v∧∃ r H' φ' μ',R r H'∧FExt φ φ'∧MExt μ μ'∧WR (z51 P) W φ' μ' H' w'∧VR φ' μ' r v) a'.defers .returning w':=by
     refine z0s (W:=W) hr.wr hr.dfr hcl (fun μ'' w'' g1 hw''=>?_)
     obtain ⟨v,k1,k2⟩:=zku (s:={ s with heap:=H2 }) (tmps:=a'.tmps) (fn:=fn) (fun t=>(hr.env.at_ t).mono (FExt.refl _) g1) hw'' hrs hrd
     exact ⟨v,k1,v,rfl,_,H2,φ',μ'',hR,e1,e2.trans g1,hw'',k2⟩
    rcases hret with rfl | rfl <;> exact hfin
  ·simp at hc
 ·simp at hc
theorem zfw:∀ {ps:List Nat} {args:List AV} {vs:List Value} {tm:Tm} {tmps:Array Value},VRs φ μ args vs→(∀ t,VR φ μ (tm.get t) (tmps.getD t undef))→(∀ p∈ps,p < tmps.size∧p < 4000) →
 (∀ t,VR φ μ ((tm.puts ps args).get t) (((ps.zip vs).foldl (fun tmps (p:Nat×Value)=>tmps.setIfInBounds p.1 p.2) tmps).getD t undef))∧((ps.zip vs).foldl (fun tmps (p:Nat×Value)=>tmps.setIfInBounds p.1 p.2) tmps).size=tmps.size
 | [],args,vs,tm,tmps,hv,he,hp=>by simp only [Tm.puts,List.zip_nil_left,List.foldl_nil]; exact ⟨he,trivial⟩
 | p::ps,[],vs,tm,tmps,hv,he,hp=>by
   have:vs=[]:=by have:=hv.1; cases vs <;> simp at this <;> rfl
   subst this
   simp only [Tm.puts,List.zip_nil_right,List.foldl_nil]; exact ⟨he,trivial⟩
 | p::ps,x::args,[],tm,tmps,hv,he,hp=>by simp [VRs] at hv
 | p::ps,x::args,v::vs,tm,tmps,hv,he,hp=>by
   simp only [Tm.puts,List.zip_cons_cons,List.foldl_cons]
   have hp0:=hp p (by simp)
   have hx:VR φ μ x v:=hv.2 0 x v rfl rfl
   have:=zfw (ps:=ps) (args:=args) (vs:=vs) (tm:=tm.put p x) (tmps:=tmps.setIfInBounds p v) ⟨by simpa using hv.1,fun i y u h1 h2=>hv.2 (i + 1) y u (by simpa using h1) (by simpa using h2)⟩ (fun t=>by
    rw [Tm.get_put t hp0.2]
    by_cases e:t=p
    ·subst e; rw [if_pos rfl]; simp [hp0.1]; exact hx
    ·rw [if_neg e]
     have:(tmps.setIfInBounds p v).getD t undef=tmps.getD t undef:=by simp [Array.getElem?_setIfInBounds_ne (Ne.symm e)]
     rw [this]; exact he t) (fun q hq=>by have:=hp q (by simp [hq]); simpa using this)
   exact ⟨this.1,by rw [this.2]; simp⟩
theorem z2s:∀ {ps:List Nat} {args:List AV} {tm:Tm},(∀ p∈ps,p < 4000∧kept p=true)→TInv kept tm→TInv kept (tm.puts ps args)
 | [],args,tm,hp,ht=>by simpa [Tm.puts] using ht
 | p::ps,[],tm,hp,ht=>by simpa [Tm.puts] using ht
 | p::ps,x::args,tm,hp,ht=>by
   simp only [Tm.puts]
   have hp0:=hp p (by simp)
   refine z2s (fun q hq=>hp q (by simp [hq])) (fun t hk=>?_)
   rw [Tm.get_put t hp0.1,if_neg (fun e=>by subst e; rw [hp0.2] at hk; simp at hk)]
   exact ht t hk
theorem zwx (hcall:z7a (z51 P) P call) (hN:z98 (z51 P) P callN) {id gen:Nat} {args:List AV} {us:Array Value} {R:AV→Heap→Prop} (h:NROUND call callN id gen args H R) {u:Value} (hw:WR (z51 P) W φ μ H w) (hu:VR φ μ (.yieldf id gen) u) (hv:VRs φ μ args us.toList) :
 Goes P (.yieldf id gen) (fun v w'=>∃ r H' φ' μ',R r H'∧FExt φ φ'∧MExt μ μ'∧WR (z51 P) W φ' μ' H' w'∧VR φ' μ' r v) ((do let d ← Deferred.ofValue u us; invoke d.target d.args:Sem Next).run P w):=by
 unfold NROUND at h
 split at h
 ·rename_i g st0 pd0 tm ps x y hB
  obtain ⟨hg,hlen,h⟩:=h
  ·have hg:=hg
   obtain ⟨l,lp,rfl,hl,hlg,hlp,hLR⟩:=hw.loopAt hB hg hu
   obtain ⟨nt,kept,hnt,hca,hcb,hti,hps⟩:=hLR.code
   have hpl:lp.params.size=ps.length:=by rw [← hLR.params]; simp
   have hus:us.size=ps.length:=by have:=hv.1; simp at this; omega
   have hrun:(do let d ← Deferred.ofValue (.func (.yield l.b) #[] #[]) us; invoke d.target d.args:Sem Next).run P w =
    .ok (.round l.b lp.fn ((lp.params.zip us).foldl (fun tmps (t,a)=>tmps.setIfInBounds t a) lp.tmps) lp.assign lp.body) w:=by
    simp [Deferred.ofValue,invoke,Instr.yield,z4b hlp,hpl,hus]
   rw [hrun]
   refine ⟨⟨id,gen,rfl⟩,fun n=>roundIn_of_wpIn trivial ?_⟩
   have hfold:(lp.params.zip us).foldl (fun tmps (t,a)=>tmps.setIfInBounds t a) lp.tmps=(ps.zip us.toList).foldl (fun tmps (p:Nat×Value)=>tmps.setIfInBounds p.1 p.2) lp.tmps:=by
    rw [← Array.foldl_toList,Array.toList_zip,hLR.params]
   rw [hfold]
   have hput:=zfw (tmps:=lp.tmps) (ps:=ps) (args:=args) (vs:=us.toList) (tm:=tm) hv hLR.slots (fun p hp=>by have:=hps p hp; omega)
   rw [← hca] at h
   ·have hexa:=h
    have hFR0:FR P W kept nt (some l.b) φ μ { tm:=tm.puts ps args,heap:=H,dfr:=[],rnd:=some (id,gen) } { tmps:=(ps.zip us.toList).foldl (fun tmps (p:Nat×Value)=>tmps.setIfInBounds p.1 p.2) lp.tmps,defers:=[] } w:=
     ⟨⟨hput.1⟩,z2s (fun p hp=>by have:=hps p hp; exact ⟨by omega,this.2.2⟩) hti,hw,by rw [hput.2]; exact hnt,⟨rfl,fun i p d h=>by simp at h⟩,hu⟩
    refine zcl (W:=W) (ro:=some l.b) hcall hN lp.assign _ _ hexa hFR0 (fun ex s h a1 w1 φ1 μ1 e1 e2 hr1=>?_)
    obtain ⟨rfl,h⟩:=h
    simp only [zno,Exit.then]
    split at h
    ·rename_i g1 pd1 tm1 ps1 x1 y1 hB1
     obtain ⟨hg1,h⟩:=h
     ·have hg1:=hg1
      obtain ⟨l1,lp1,eb,hl1,hlg1,hlp1,hLR1⟩:=hr1.wr.loopAt hB1 hg1 (hu.mono e1 e2)
      have eb':l.b=l1.b:=by simpa using eb
      rw [eb']
      have hbeg:(Instr.beginRound l1.b).run P w1=.ok () { w1 with heap:=w1.heap.setIfInBounds l1.b (.loop { lp1 with state:=.busy }) }:=by
       simp [Instr.beginRound,z4b hlp1,zag hlp1,hLR1.st]
      have hlt1:l1.b < w1.heap.size:=(hr1.wr.own id _ l1 hB1 hl1 rfl).2.1
      have hw2:=hr1.wr.setObj (o:=.loop { lp1 with state:=.busy }) (B':=.loop g1 .busy pd1 tm1 ps1 x1 y1) hB1 hl1 rfl (by simp [Blk.gen]; omega)
       (.loop (lp:={ lp1 with state:=.busy }) (by simp [hlt1]) ⟨rfl,hLR1.pend,hLR1.slots,hLR1.params,hLR1.code⟩)
      refine ⟨_,hbeg,?_⟩
      generalize ({ w1 with heap:=w1.heap.setIfInBounds l1.b (.loop { lp1 with state:=.busy }) }:World)=w2 at hw2
      rw [← hcb] at h
      ·have hexb:=h
       have hFR2:FR P W kept nt (some l1.b) φ1 μ1 { s with heap:=s.heap.set id (.loop g1 .busy pd1 tm1 ps1 x1 y1) } a1 w2:=by
        rw [eb'] at hr1
        exact ⟨hr1.env,hr1.tinv,hw2,hr1.size,hr1.dfr,hr1.rnd⟩
       refine zcl (W:=W) (ro:=some l1.b) hcall hN lp.body _ _ hexb hFR2 (fun e s' h a3 w3 φ3 μ3 e3 e4 hr3=>?_)
       split at h
       ·rename_i g3 st3 pd3 tm3 ps3 x3 y3 hB3
        obtain ⟨hg3,h⟩:=h
        obtain ⟨l3,lp3,eb3,hl3,hlg3,hlp3,hLR3⟩:=hr3.wr.loopAt hB3 hg3 ((hu.mono e1 e2).mono e3 e4)
        have eb3':l1.b=l3.b:=by rw [← eb']; simpa using eb3
        have hlt3:l3.b < w3.heap.size:=(hr3.wr.own id _ l3 hB3 hl3 rfl).2.1
        rw [eb3']
        have hend:∀ (j:Option Code) (pd:Option AExit),pendR pd j →
         ∃ w4,(Instr.endRound l3.b j).run P w3=.ok (.bool j.isNone) w4∧WR (z51 P) W φ3 μ3 (s'.heap.set id (.loop g3 (if j.isNone then .ready else .done) pd tm3 ps3 x3 y3)) w4:=by
         intro j pd hpd
         refine ⟨{ w3 with heap:=w3.heap.setIfInBounds l3.b (.loop { lp3 with state:=if j.isNone then .ready else .done,pending:=j }) },by simp [Instr.endRound,z4b hlp3,zag hlp3],?_⟩
         exact hr3.wr.setObj (o:=.loop { lp3 with state:=if j.isNone then .ready else .done,pending:=j }) (B':=.loop g3 (if j.isNone then .ready else .done) pd tm3 ps3 x3 y3) hB3 hl3 rfl (by simp [Blk.gen]; omega)
          (.loop (lp:={ lp3 with state:=if j.isNone then .ready else .done,pending:=j }) (by simp [hlt3]) ⟨rfl,hpd,hLR3.slots,hLR3.params,hLR3.code⟩)
        have hres:∀ (j:Option Code) (pd:Option AExit),pendR pd j→R (.bool j.isNone) (s'.heap.set id (.loop g3 (if j.isNone then .ready else .done) pd tm3 ps3 x3 y3)) →
         ∃ v w',(Instr.endRound l3.b j).run P w3=.ok v w'∧∃ v_1,Ending.returned v=.returned v_1∧∃ r H' φ' μ',R r H'∧FExt φ φ'∧MExt μ μ'∧WR (z51 P) W φ' μ' H' w'∧VR φ' μ' r v_1:=by
         intro j pd hpd hR
         obtain ⟨w4,k1,k2⟩:=hend j pd hpd
         exact ⟨_,w4,k1,_,rfl,_,_,φ3,μ3,hR,e1.trans e3,e2.trans e4,k2, .bool _⟩
        cases e with
        | normal=>exact hres none none trivial h
        | ret=>exact hres (some .ret) (some .ret) trivial h
        | exit i=>exact hres (some (.exit i)) (some (.exit i)) rfl h
       ·exact h.elim
    ·exact h.elim
 ·exact h.elim
end Go.Abs
