/- Abs: runs that may go many ways: calls without a bound, the rules of a run, ranges over maps. -/
import Derived.Test.YtddpdpjpfgnhmaaGreatG25x
set_option linter.unusedSimpArgs false
set_option linter.unusedVariables false
set_option maxHeartbeats 4000000
namespace Go.Abs
open Go.RowKit
variable {P:Program} {tbl:FuncId→Option AFun} {call:CallF} {callN:zi5} {k:Nat}
theorem ztw (ht:TblOk P tbl):z7a (z51 P) P (callW tbl):=fun fv args H r H' h=>let ⟨k,hk⟩:=zj4.1 h; zkw ht k fv args H r H' hk
def NW (tbl:FuncId→Option AFun):Nat→zi5
 | 0=>fun fv args H R=>∃ r H',callW tbl fv args H=some (r,H')∧R r H'
 | k + 1=>fun fv args H R=>(∃ r H',callW tbl fv args H=some (r,H')∧R r H')∨stepN tbl (callW tbl) (NW tbl k) fv args H R
theorem zc11 {fv:AV} {args:List AV} {H H':Heap} {r:AV} {R:AV→Heap→Prop} (h:callW tbl fv args H=some (r,H')) (hR:R r H'):NW tbl k fv args H R:=by
 cases k with
 | zero=>exact ⟨r,H',h,hR⟩
 | succ k=>exact .inl ⟨r,H',h,hR⟩
theorem NW_ok (ht:TblOk P tbl):∀ k,z98 (z51 P) P (NW tbl k):=by
 have hdet:∀ (fv:AV) (args:List AV) (H:Heap) (R:AV→Heap→Prop),(∃ r H',callW tbl fv args H=some (r,H')∧R r H') →
  ∀ (W:BaseW) (φ:Frz) (μ:List Loc) (w:World) (u:Value) (us:Array Value),WR (z51 P) W φ μ H w→VR φ μ fv u→VRs φ μ args us.toList →
    Goes P fv (fun v w'=>∃ r H' φ' μ',R r H'∧FExt φ φ'∧MExt μ μ'∧WR (z51 P) W φ' μ' H' w'∧VR φ' μ' r v) ((do let d ← Deferred.ofValue u us; invoke d.target d.args:Sem Next).run P w):=by
  rintro fv args H R ⟨r,H',h,hR⟩ W φ μ w u us hw hu hv
  refine (ztw ht fv args H r H' h W φ μ w u us hw hu hv).mono ?_
  rintro v w' ⟨φ',μ',h1,h2,h3,h4⟩
  exact ⟨r,H',φ',μ',hR,h1,h2,h3,h4⟩
 intro k
 induction k with
 | zero=>exact fun fv args H R h=>hdet fv args H R h
 | succ k ih=>
   intro fv args H R h
   rcases h with h | h
   ·exact hdet fv args H R h
   ·exact zgw ht (ztw ht) ih fv args H R h
def NMono (callN:zi5):Prop:=∀ (fv:AV) (args:List AV) (H:Heap) (R R':AV→Heap→Prop),callN fv args H R→(∀ r H',R r H'→R' r H')→callN fv args H R'
theorem zd11 (hN:NMono callN) {H:Heap} {ρ:AOperand→AV} {K K':AV→Heap→Prop} (hk:∀ v H',K v H'→K' v H'):∀ {op:AOp},NACT call callN H ρ K op→NACT call callN H ρ K' op:=by
 intro op h
 by_cases hnd:op.nd=false
 ·rw [zah hnd] at h ⊢
  obtain ⟨v,H',h1,h2⟩:=h
  exact ⟨v,H',h1,hk v H' h2⟩
 ·cases op <;> (try (simp [AOp.nd] at hnd; done))
  case call f args=>exact hN _ _ _ _ _ h hk
  case invoke ms x args=>
   simp only [NACT] at h ⊢
   split at h
   ·split at h
    ·exact hN _ _ _ _ _ h hk
    ·exact h.elim
   ·exact h.elim
  case rangeM x=>
   simp only [NACT,z7l] at h ⊢
   split at h
   ·exact hk _ _ h
   ·split at h
    ·exact ⟨h.1,hk _ _ h.2⟩
    ·exact h.elim
   ·exact h.elim
  case nextM x=>
   simp only [NACT,nextN] at h ⊢
   split at h
   ·split at h
    ·exact ⟨h.1,hk _ _ h.2⟩
    ·obtain ⟨h1,h⟩:=h
     refine ⟨h1,?_⟩
     split at h
     ·exact ⟨h.1,h.2.1,fun e=>hk _ _ (h.2.2.1 e),fun e he=>hk _ _ (h.2.2.2 e he)⟩
     ·exact h.elim
    ·exact h.elim
   ·exact h.elim
  case entryM x=>
   simp only [NACT,z8l] at h ⊢
   split at h
   ·split at h
    ·obtain ⟨h1,h⟩:=h
     refine ⟨h1,?_⟩
     split at h
     ·obtain ⟨g1,g2,e,g3,g4⟩:=h
      exact ⟨g1,g2,e,g3,hk _ _ g4⟩
     ·exact h.elim
    ·exact h.elim
   ·exact h.elim
theorem zkm (hN:NMono callN):∀ {ops:List AOper} {s:RSt} {K K':RSt→Prop},NOPS call callN ops s K→(∀ s',K s'→K' s')→NOPS call callN ops s K'
 | [],s,K,K',h,hk=>hk s h
 | o::os,s,K,K',h,hk=>by
   simp only [NOPS,NSTEP] at h ⊢
   split at h
   ·rename_i hw; (try rw [hw]); exact zd11 hN (fun v H' h=>zkm hN h hk) h
   ·rename_i hw; (try rw [hw]); exact zkm hN h hk
   ·exact h.elim
theorem zlm (hN:NMono callN):∀ (c:ACode) (s:St) (R R':AExit→St→Prop),NX call callN c s R→(∀ e s',R e s'→R' e s')→NX call callN c s R':=by
 intro c
 induction c with
 | skip=>intro s R R' h hr; exact hr _ _ h
 | exit id=>intro s R R' h hr; exact hr _ _ h
 | ret=>intro s R R' h hr; exact hr _ _ h
 | bad=>intro s R R' h hr; exact h.elim
 | region ops=>intro s R R' h hr; exact zkm hN h (fun s' h=>hr _ _ h)
 | draw ops ps=>intro s R R' h hr; obtain ⟨r,rs,h1,h2,h3⟩:=h; exact ⟨r,rs,h1,h2,hr _ _ h3⟩
 | seq a b iha ihb=>
   intro s R R' h hr
   refine iha s _ _ h (fun e s' he=>?_)
   cases e with
   | normal=>exact ihb s' _ _ he hr
   | exit j=>exact hr _ _ he
   | ret=>exact hr _ _ he
 | cond c a b iha ihb=>
   intro s R R' h hr
   simp only [NX] at h ⊢
   split at h
   ·rename_i ht; (try rw [ht]); exact iha s _ _ h hr
   ·rename_i ht; (try rw [ht]); exact ihb s _ _ h hr
   ·exact h.elim
 | block id a ih=>
   intro s R R' h hr
   refine ih s _ _ h (fun e s' he=>?_)
   cases e with
   | normal=>exact hr _ _ he
   | exit j=>
     simp only at he ⊢
     split at he
     ·rename_i hj; rw [if_pos hj]; exact hr _ _ he
     ·rename_i hj; rw [if_neg hj]; exact hr _ _ he
   | ret=>exact hr _ _ he
 | loop a ih=>
   intro s R R' h hr
   obtain ⟨I,m,h0,hs⟩:=h
   refine ⟨I,m,h0,fun s1 h1=>ih s1 _ _ (hs s1 h1) (fun e s' he=>?_)⟩
   cases e with
   | normal=>exact he
   | exit j=>exact hr _ _ he
   | ret=>exact hr _ _ he
 | rangeFunc f ps a b _ _=>
   intro s R R' h hr
   obtain ⟨h1,h2,h3⟩:=h
   refine ⟨h1,h2,hN _ _ _ _ _ h3 (fun r H' h=>?_)⟩
   (try simp only at h ⊢)
   split at h
   ·rename_i hB; (try rw [hB]); exact ⟨h.1,hr _ _ h.2⟩
   ·exact h.elim
theorem zrc (hN:NMono callN) {af:AFunc} {args:List AV} {H:Heap} {R R':AV→Heap→Prop} (h:NBODY call callN af args H R) (hr:∀ r H',R r H'→R' r H'):NBODY call callN af args H R':=by
 refine ⟨h.1,zlm hN _ _ _ _ h.2 (fun e s he=>?_)⟩
 obtain ⟨h1,H',vs,h2,h3,h4⟩:=he
 exact ⟨h1,H',vs,h2,h3,hr _ _ h4⟩
theorem zky (hN:NMono callN):NMono (stepN tbl call callN):=by
 intro fv args H R R' h hr
 unfold stepN at h ⊢
 split at h
 ·(try simp only)
  split at h
  ·rename_i htb; (try rw [htb]); obtain ⟨h1,r,h2,h3⟩:=h; exact ⟨h1,r,h2,hr _ _ h3⟩
  ·rename_i htb
   (try rw [htb])
   (try simp only)
   split at h
   ·rename_i hp
    (try rw [if_pos hp])
    split at h
    ·rename_i hp
     (try rw [if_pos hp])
     split at h
     ·rename_i hp
      (try rw [if_pos hp])
      exact zrc hN h (fun r H' ⟨r',h1,h2⟩=>⟨r',h1,hr _ _ h2⟩)
     ·rename_i hp
      (try rw [if_neg hp])
      exact zrc hN h (fun r H' ⟨r',h1,h2⟩=>⟨r',h1,hr _ _ h2⟩)
    ·rename_i hp
     (try rw [if_neg hp])
     obtain ⟨args',h1,h2⟩:=h
     exact ⟨args',h1,zrc hN h2 (fun r H' ⟨r',h1,h2,h3⟩=>⟨r',h1,h2,hr _ _ h3⟩)⟩
   ·rename_i hp
    (try rw [if_neg hp])
    exact zrc hN h (fun r H' h=>hr _ _ h)
  ·exact h.elim
 ·(try simp only)
  unfold NROUND at h ⊢
  split at h
  ·rename_i hB
   (try rw [hB])
   obtain ⟨h1,h2,h⟩:=h
   refine ⟨h1,h2,zlm hN _ _ _ _ h (fun e s ⟨he,h⟩=>⟨he,?_⟩)⟩
   split at h
   ·rename_i hB1
    (try rw [hB1])
    obtain ⟨h1,h⟩:=h
    refine ⟨h1,zlm hN _ _ _ _ h (fun e s' h=>?_)⟩
    split at h
    ·rename_i hB2
     (try rw [hB2])
     refine ⟨h.1,?_⟩
     have h:=h.2
     cases e <;> exact hr _ _ h
    ·exact h.elim
   ·exact h.elim
  ·exact h.elim
 ·exact h.elim
theorem z3a:∀ k,NMono (NW tbl k)
 | 0=>fun fv args H R R' h hr=>let ⟨r,H',h1,h2⟩:=h; ⟨r,H',h1,hr _ _ h2⟩
 | k + 1=>fun fv args H R R' h hr=>by
   rcases h with ⟨r,H',h1,h2⟩ | h
   ·exact .inl ⟨r,H',h1,hr _ _ h2⟩
   ·exact .inr (zky (z3a k) fv args H R R' h hr)
theorem zog (ht:TblOk P tbl) {f:FuncId} {g:List AV→Option AV} (hf:∃ x,tbl f=some x) {k:Nat}
 (h:∀ (args:List AV) (r:AV),AV.plains args=true→g args=some r→∀ H,NW tbl k (.func f [] []) args H (fun r' H'=>r'=r∧H'=H)):LawOk P f g:=by
 have hfn : ∃ fn, P.funcs[f]? = some fn ∧ fn.body.isSome = true ∧ fn.name ≠ "runtime.NumGoroutine" := by
  obtain ⟨x,hx⟩:=hf
  have:=ht f x hx
  cases x with
  | code af=>obtain ⟨fn,_,_,_,g1,g2⟩:=this; exact ⟨fn,g1,z6c g2⟩
  | law g=>exact this.1
 refine ⟨hfn,fun args r hp hg n W φ μ H w us hw hv=>?_⟩
 have:=NW_ok ht k _ _ _ _ (h args r hp hg H) W φ μ w (.func (.func f) #[] #[]) us.toArray hw (VR.func0 f) (by simpa using hv)
 obtain ⟨fn,g1,g2,g3⟩:=hfn
 simp only [Deferred.ofValue,Sem.run_bind,Sem.run_pure,Result.andThen_ok,invoke] at this
 rw [zee g1 g2 g3] at this
 simp only [Goes] at this
 have h2:=this.2 n
 have e:(#[]++us.toArray++#[]:Array Value)=us.toArray:=by apply Array.ext'; simp
 rw [e] at h2
 refine CallsIn.mono h2 ?_
 rintro en w' ⟨v,rfl,r1,H1,φ',μ',⟨rfl,rfl⟩,e1,e2,hw',hv'⟩
 exact ⟨v,rfl,φ',μ',e1,e2,hw',hv'⟩
def zmm (tbl:FuncId→Option AFun) (k:Nat):List KF→(AExit→St→Prop)→AExit→St→Prop
 | [],R=>R
 | .seq b::ks,R=>fun e s=>match e with
   | .normal=>NX (callW tbl) (NW tbl k) b s (zmm tbl k ks R)
   | e=>zmm tbl k ks R e s
 | .block id::ks,R=>fun e s=>match e with
   | .exit j=>if j=id then zmm tbl k ks R .normal s else zmm tbl k ks R (.exit j) s
   | e=>zmm tbl k ks R e s
def NEX (tbl:FuncId→Option AFun) (k:Nat) (c:ACode) (ks:List KF) (s:St) (R:AExit→St→Prop):Prop:=NX (callW tbl) (NW tbl k) c s (zmm tbl k ks R)
def NKON (tbl:FuncId→Option AFun) (k:Nat) (ks:List KF) (e:AExit) (s:St) (R:AExit→St→Prop):Prop:=zmm tbl k ks R e s
def NCONDK (tbl:FuncId→Option AFun) (k:Nat) (x:AV) (a b:ACode) (ks:List KF) (s:St) (R:AExit→St→Prop):Prop:=match z1h x with
 | some true=>NEX tbl k a ks s R
 | some false=>NEX tbl k b ks s R
 | none=>False
def NOPSK (tbl:FuncId→Option AFun) (k:Nat) (ops:List AOper) (loc:List (Nat×AV)) (s:St) (ks:List KF) (R:AExit→St→Prop):Prop:=
 NOPS (callW tbl) (NW tbl k) ops ⟨loc,s.tm,s.heap⟩ fun r=>NKON tbl k ks .normal { s with tm:=r.tm,heap:=r.heap } R
def NVALK (tbl:FuncId→Option AFun) (k:Nat) (v:AV) (dst:Option Nat) (keep:Bool) (os:List AOper) (loc:List (Nat×AV)) (s:St) (ks:List KF) (R:AExit→St→Prop):Prop:=match dst with
 | none=>NOPSK tbl k os loc s ks R
 | some d=>if keep then NOPSK tbl k os loc { s with tm:=s.tm.put d v } ks R else NOPSK tbl k os ((d,v)::loc) s ks R
def NDK (tbl:FuncId→Option AFun) (k:Nat) (A:Action) (dst:Option Nat) (keep:Bool) (os:List AOper) (loc:List (Nat×AV)) (s:St) (ks:List KF) (R:AExit→St→Prop):Prop:=
 ∃ v H',zd (callW tbl) none s.heap A=some (v,H')∧NVALK tbl k v dst keep os loc { s with heap:=H' } ks R
def NNWK (tbl:FuncId→Option AFun) (k:Nat) (x:Option (AV×Blk)) (dst:Option Nat) (keep:Bool) (os:List AOper) (loc:List (Nat×AV)) (s:St) (ks:List KF) (R:AExit→St→Prop):Prop:=
 SOME x (fun x=>NVALK tbl k x.1 dst keep os loc { s with heap:=s.heap++[x.2] } ks R)
def NCALLK (tbl:FuncId→Option AFun) (k:Nat) (f:AV) (args:List AV) (dst:Option Nat) (keep:Bool) (os:List AOper) (loc:List (Nat×AV)) (s:St) (ks:List KF) (R:AExit→St→Prop):Prop:=
 NW tbl k f args s.heap (fun v H=>NVALK tbl k v dst keep os loc { s with heap:=H } ks R)
def NMAPK (tbl:FuncId→Option AFun) (k:Nat) (step:Heap→(AV→Heap→Prop)→AV→Prop) (x:AV) (dst:Option Nat) (keep:Bool) (os:List AOper) (loc:List (Nat×AV)) (s:St) (ks:List KF) (R:AExit→St→Prop):Prop:=
 step s.heap (fun v H=>NVALK tbl k v dst keep os loc { s with heap:=H } ks R) x
def NGSELK (tbl:FuncId→Option AFun) (k:Nat) (x:AV) (w:Bool) (op:AOp) (dst:Option Nat) (keep:Bool) (os:List AOper) (loc:List (Nat×AV)) (s:St) (ks:List KF) (R:AExit→St→Prop):Prop:=match x with
 | .bool b=>if b=w then NOPSK tbl k (⟨dst,keep,op,none⟩::os) loc s ks R else NVALK tbl k .skipped dst keep os loc s ks R
 | .tuple []=>NVALK tbl k .skipped dst keep os loc s ks R
 | _=>False
variable {R:AExit→St→Prop} {s:St} {ks:List KF} {loc:List (Nat×AV)} {os:List AOper} {dst:Option Nat} {keep:Bool}
theorem zr41:NEX tbl k .skip ks s R=NKON tbl k ks .normal s R:=rfl
theorem zs41 {j:Nat}:NEX tbl k (.exit j) ks s R=NKON tbl k ks (.exit j) s R:=rfl
theorem zl71:NEX tbl k .ret ks s R=NKON tbl k ks .ret s R:=rfl
theorem ze11 {a b:ACode}:NEX tbl k (.seq a b) ks s R=NEX tbl k a (.seq b::ks) s R:=rfl
theorem zf11 {id:Nat} {a:ACode}:NEX tbl k (.block id a) ks s R=NEX tbl k a (.block id::ks) s R:=rfl
theorem zt41 {c:AOperand} {a b:ACode}:NEX tbl k (.cond c a b) ks s R=NCONDK tbl k (evalA [] s.tm c) a b ks s R:=rfl
theorem z5v {t:Bool} {a b:ACode}:NCONDK tbl k (.bool t) a b ks s R=if t=true then NEX tbl k a ks s R else NEX tbl k b ks s R:=by cases t <;> rfl
theorem z8p {ops:List AOper}:NEX tbl k (.region ops) ks s R=NOPSK tbl k ops [] s ks R:=rfl
theorem zu41 {e:AExit}:NKON tbl k [] e s R=R e s:=rfl
theorem zks {b:ACode}:NKON tbl k (.seq b::ks) .normal s R=NEX tbl k b ks s R:=rfl
theorem zg11 {b:ACode} {j:Nat}:NKON tbl k (.seq b::ks) (.exit j) s R=NKON tbl k ks (.exit j) s R:=rfl
theorem zh11 {b:ACode}:NKON tbl k (.seq b::ks) .ret s R=NKON tbl k ks .ret s R:=rfl
theorem z6v {id:Nat}:NKON tbl k (.block id::ks) .normal s R=NKON tbl k ks .normal s R:=rfl
theorem znm {id j:Nat}:NKON tbl k (.block id::ks) (.exit j) s R=if j=id then NKON tbl k ks .normal s R else NKON tbl k ks (.exit j) s R:=rfl
theorem z7v {id:Nat}:NKON tbl k (.block id::ks) .ret s R=NKON tbl k ks .ret s R:=rfl
theorem zi11:NOPSK tbl k [] loc s ks R=NKON tbl k ks .normal s R:=rfl
theorem zly {v:AV}:NVALK tbl k v none keep os loc s ks R=NOPSK tbl k os loc s ks R:=rfl
theorem zm71 {v:AV} {d:Nat}:NVALK tbl k v (some d) true os loc s ks R=NOPSK tbl k os loc { s with tm:=s.tm.put d v } ks R:=rfl
theorem zn71 {v:AV} {d:Nat}:NVALK tbl k v (some d) false os loc s ks R=NOPSK tbl k os ((d,v)::loc) s ks R:=rfl
theorem zr9 {v:AV} {H:Heap} {op:AOp} {g:Option (Nat×Bool)}:NVALK tbl k v dst keep os loc { s with heap:=H } ks R=NOPS (callW tbl) (NW tbl k) os (({ loc:=loc,tm:=s.tm,heap:=s.heap }:RSt).put ⟨dst,keep,op,g⟩ v H) (fun r=>NKON tbl k ks .normal { s with tm:=r.tm,heap:=r.heap } R):=by
 unfold NVALK RSt.put
 cases dst with
 | none=>rfl
 | some d=>cases keep <;> rfl
theorem zom {op:AOp} (h:op.nd=false):NOPSK tbl k (⟨dst,keep,op,none⟩::os) loc s ks R=NDK tbl k (actOf (evalA loc s.tm) op) dst keep os loc s ks R:=by
 show NACT _ _ _ _ _ op=_
 rw [zah h]
 unfold NDK
 simp only [zr9 (op:=op) (g:=none)]
theorem zmy {f:AOperand} {args:List AOperand}:NOPSK tbl k (⟨dst,keep, .call f args,none⟩::os) loc s ks R=NCALLK tbl k (evalA loc s.tm f) (args.map (evalA loc s.tm)) dst keep os loc s ks R:=by
 unfold NCALLK
 simp only [zr9 (op:=.call f args) (g:=none)]
 rfl
theorem z8v {x:AOperand}:NOPSK tbl k (⟨dst,keep, .rangeM x,none⟩::os) loc s ks R=NMAPK tbl k z7l (evalA loc s.tm x) dst keep os loc s ks R:=by
 unfold NMAPK
 simp only [zr9 (op:=.rangeM x) (g:=none)]
 rfl
theorem z9p {x:AOperand}:NOPSK tbl k (⟨dst,keep, .nextM x,none⟩::os) loc s ks R=NMAPK tbl k nextN (evalA loc s.tm x) dst keep os loc s ks R:=by
 unfold NMAPK
 simp only [zr9 (op:=.nextM x) (g:=none)]
 rfl
theorem z9v {x:AOperand}:NOPSK tbl k (⟨dst,keep, .entryM x,none⟩::os) loc s ks R=NMAPK tbl k z8l (evalA loc s.tm x) dst keep os loc s ks R:=by
 unfold NMAPK
 simp only [zr9 (op:=.entryM x) (g:=none)]
 rfl
theorem zav {op:AOp} {t:Nat} {w:Bool}:NOPSK tbl k (⟨dst,keep,op,some (t,w)⟩::os) loc s ks R=NGSELK tbl k (look loc s.tm t) w op dst keep os loc s ks R:=by
 have h:NOPSK tbl k (⟨dst,keep,op,some (t,w)⟩::os) loc s ks R=NSTEP (callW tbl) (NW tbl k) ⟨dst,keep,op,some (t,w)⟩ ⟨loc,s.tm,s.heap⟩ (fun s'=>NOPS (callW tbl) (NW tbl k) os s' fun r=>NKON tbl k ks .normal { s with tm:=r.tm,heap:=r.heap } R):=rfl
 rw [h]
 unfold NSTEP NGSELK
 have hw:z93 ⟨loc,s.tm,s.heap⟩ ⟨dst,keep,op,some (t,w)⟩=(match look loc s.tm t with | .bool b=>some (b == w) | .tuple []=>some false | _=>none):=rfl
 rw [hw]
 have hskip:NOPS (callW tbl) (NW tbl k) os (({ loc:=loc,tm:=s.tm,heap:=s.heap }:RSt).put ⟨dst,keep,op,some (t,w)⟩ .skipped s.heap) (fun r=>NKON tbl k ks .normal { s with tm:=r.tm,heap:=r.heap } R) =
  NVALK tbl k .skipped dst keep os loc s ks R:=(zr9 (H:=s.heap) (op:=op) (g:=some (t,w))).symm
 generalize look loc s.tm t=x
 cases x with
 | bool b=>
   by_cases e:b=w
   ·subst e
    simp only [beq_self_eq_true,if_true]
    have:∀ v H,NOPS (callW tbl) (NW tbl k) os (({ loc:=loc,tm:=s.tm,heap:=s.heap }:RSt).put ⟨dst,keep,op,some (t,b)⟩ v H) (fun r=>NKON tbl k ks .normal { s with tm:=r.tm,heap:=r.heap } R) =
     NOPS (callW tbl) (NW tbl k) os (({ loc:=loc,tm:=s.tm,heap:=s.heap }:RSt).put ⟨dst,keep,op,none⟩ v H) (fun r=>NKON tbl k ks .normal { s with tm:=r.tm,heap:=r.heap } R):=fun v H=>by
     rw [← zr9 (op:=op) (g:=some (t,b)),← zr9 (op:=op) (g:=none)]
    simp only [this]
    rfl
   ·have e1:(b == w)=false:=by simpa using e
    simp only [e1,if_neg e]
    exact hskip
 | tuple vs=>
   cases vs with
   | nil=>exact hskip
   | cons _ _=>rfl
 | _=>rfl
theorem zbv {b w:Bool} {op:AOp}:NGSELK tbl k (.bool b) w op dst keep os loc s ks R=if b=w then NOPSK tbl k (⟨dst,keep,op,none⟩::os) loc s ks R else NVALK tbl k .skipped dst keep os loc s ks R:=rfl
theorem zcv {w:Bool} {op:AOp}:NGSELK tbl k (.tuple []) w op dst keep os loc s ks R=NVALK tbl k .skipped dst keep os loc s ks R:=rfl
theorem zo71 {v:AV}:NDK tbl k (.val v) dst keep os loc s ks R=NVALK tbl k v dst keep os loc s ks R:=by
 unfold NDK
 simp only [zd,Option.some.injEq,Prod.mk.injEq]
 exact propext ⟨fun ⟨_,_,⟨rfl,rfl⟩,h⟩=>h,fun h=>⟨_,_,⟨rfl,rfl⟩,h⟩⟩
theorem zx91 {ids:List Nat} {f:List Blk→Option AV}:NDK tbl k (.rd ids f) dst keep os loc s ks R=NDK tbl k (Action.ofOption (f (blks s.heap ids))) dst keep os loc s ks R:=by
 unfold NDK
 simp only [zd]
 cases f (blks s.heap ids) <;> simp [Action.ofOption,zd]
theorem zy91 {ids:List Nat} {f:List Blk→Nat→Nat→Option (AV×Blk)}:NDK tbl k (.nw ids f) dst keep os loc s ks R=NNWK tbl k (f (blks s.heap ids) s.heap.length 0) dst keep os loc s ks R:=by
 unfold NDK NNWK SOME
 simp only [zd]
 apply propext
 constructor
 ·rintro ⟨v,H',h,hk⟩
  split at h
  ·rename_i u b hu; simp only [Option.some.injEq,Prod.mk.injEq] at h; obtain ⟨rfl,rfl⟩:=h; exact ⟨_,hu,hk⟩
  ·simp at h
 ·rintro ⟨⟨v,b⟩,hu,hk⟩
  exact ⟨v,_,by rw [hu],hk⟩
theorem zj11 {v:AV} {b:Blk}:NNWK tbl k (some (v,b)) dst keep os loc s ks R=NVALK tbl k v dst keep os loc { s with heap:=s.heap++[b] } ks R:=zk4
theorem zr4 {f:AV} {args:List AV} {r:AV} {H:Heap} (h:callW tbl f args s.heap=some (r,H)) (hk:NVALK tbl k r dst keep os loc { s with heap:=H } ks R):NCALLK tbl k f args dst keep os loc s ks R:=zc11 h hk
theorem zh8 {f:AV} {args:List AV} {Q:AV→Heap→Prop} (h:NW tbl k f args s.heap Q) (hk:∀ r H,Q r H→NVALK tbl k r dst keep os loc { s with heap:=H } ks R):NCALLK tbl k f args dst keep os loc s ks R:=
 z3a k _ _ _ _ _ h hk
section
theorem zp71:∀ x,(AOp.move x).nd=false:=fun _=>rfl
theorem zq71:∀ a b c,(AOp.pick a b c).nd=false:=fun _ _ _=>rfl
theorem zz91:∀ n x,(AOp.box n x).nd=false:=fun _ _=>rfl
theorem zr71:∀ g n a,(AOp.load g n a).nd=false:=fun _ _ _=>rfl
theorem zdv:∀ x,(AOp.nilCheck x).nd=false:=fun _=>rfl
theorem z0a1:∀ o e x y,(AOp.bin o e x y).nd=false:=fun _ _ _ _=>rfl
theorem nd_un:∀ o x,(AOp.un o x).nd=false:=fun _ _=>rfl
theorem zny:AOp.makeMap.nd=false:=rfl
theorem zls:∀ n x,(AOp.fieldAddr n x).nd=false:=fun _ _=>rfl
theorem zk11:∀ g k z m x o,(AOp.lookup g k z m x o).nd=false:=fun _ _ _ _ _ _=>rfl
theorem zoy:∀ x i,(AOp.extract x i).nd=false:=fun _ _=>rfl
theorem z1a1:∀ k x,(AOp.len k x).nd=false:=fun _ _=>rfl
theorem zl11:∀ s b x y,(AOp.append s b x y).nd=false:=fun _ _ _ _=>rfl
theorem zs71:∀ n x,(AOp.boxF n x).nd=false:=fun _ _=>rfl
theorem z0o:∀ z n p,(AOp.buildSliceF z n p).nd=false:=fun _ _ _=>rfl
theorem z2a1:AOp.bad.nd=false:=rfl
end
attribute [simp] zr41 zs41 zl71 ze11 zf11 zt41 z5v z8p zu41 zks zg11 zh11 z6v znm z7v zi11 zly zm71 zn71 zom zmy z8v z9p z9v zav zbv zcv zo71 zx91 zy91 zj11 zp71 zq71 zz91 zr71 zdv z0a1 nd_un zny zls zk11 zoy z1a1 zl11 zs71 z0o z2a1
theorem zsq {c:ACode} (h:EXEC (callW tbl) loopW c [] s (fun e s'=>NKON tbl k ks e s' R)):NEX tbl k c ks s R:=by
 obtain ⟨e,s',h1,h2⟩:=h
 have hi:Into (callW tbl) (NW tbl k):=fun fv args H r H' R h hR=>zc11 h hR
 exact ziw hi (fun f s r h=>zh9.1 h) c s s' e _ h1 h2
theorem zms {body:ACode} (I:Nat→St→Prop) (n:Nat) (h0:I n s)
 (hstep:∀ n s1 F,I n s1→(∀ m s2,m < n→I m s2→F .normal s2)→(∀ e s2,e≠.normal→NKON tbl k ks e s2 R→F e s2)→NEX tbl k body [] s1 F):NEX tbl k (.loop body) ks s R:=by
 classical
 refine ⟨fun s1=>∃ n,I n s1,fun s1=>if hh:∃ n,I n s1 then Classical.choose (z23 hh) else 0,⟨n,h0⟩,fun s1 h1=>?_⟩
 have hl:=Classical.choose_spec (z23 h1)
 refine hstep _ s1 _ hl.1 (fun m s2 hm hI=>?_) (fun e s2 he hk=>?_)
 ·have h2:∃ n,I n s2:=⟨m,hI⟩
  refine ⟨h2,?_⟩
  simp only [dif_pos h1,dif_pos h2]
  have:=(Classical.choose_spec (z23 h2)).2 m hI
  omega
 ·cases e with
  | normal=>exact absurd rfl he
  | exit j=>exact hk
  | ret=>exact hk
@[simp] theorem zl31 {ρ:AOperand→AV} {x:AOperand}:actOf ρ (.toBytesF x)=(match ρ x with
 | .str s=>.val (.fsl false (cellsOf s))
 | _=>.bad):=rfl
def zsd (x:AV):Action:=match x with
    | .nilsl=>.val (.str ⟨#[]⟩)
    | .fsl _ rows=>.ofOption (z7e rows)
    | .sl id gen off len=>.rd [id] fun
      | [b]=>match zw3 gen off len b with
        | some rows=>z7e rows
        | none=>none
      | _=>none
    | _=>.bad
@[simp] theorem zv41 {ρ:AOperand→AV} {x:AOperand}:actOf ρ (.ofBytes x)=zsd (ρ x):=rfl
@[simp] theorem z491 {ρ:AOperand→AV} {xs:List AOperand}:actOf ρ (.maxI xs)=.ofOption (maxA (xs.map ρ)):=rfl
def zm11 (ms:List (TypeId×FuncId)) (x:AV) (args:List AV):Action:=match x with
    | .iface t v=>match ms.lookup t with
      | some f=>.call (.func f [] []) (v::args)
      | none=>.bad
    | _=>.bad
@[simp] theorem zf61 {ρ:AOperand→AV} {ms:List (TypeId×FuncId)} {x:AOperand} {args:List AOperand}:actOf ρ (.invoke ms x args)=zm11 ms (ρ x) (args.map ρ):=rfl
@[simp] theorem zw41 {ms:List (TypeId×FuncId)} {t:TypeId} {v:AV} {args:List AV}:zm11 ms (.iface t v) args=match ms.lookup t with
 | some f=>.call (.func f [] []) (v::args)
 | none=>.bad:=rfl
theorem zap {f:FuncId} {first captured args:List AV} {H:Heap} {Q:AV→Heap→Prop} (af:AFunc) (ht:tbl f=some (.code af)) (hp:af.pure=false) (hl:(first++args++captured).length=af.nargs)
 (h:∀ F:AV→Heap→Prop,(∀ v H',Q (zj af.frz H.length v H').1 (zj af.frz H.length v H').2→F v H')→NEX tbl k af.body [] { tm:=Tm.ofArgs .leaf 0 (first++args++captured),heap:=H,dfr:=[],rnd:=none } (FINQ af.results F)) :
 NW tbl (k + 1) (.func f first captured) args H Q:=by
 refine .inr ?_
 show stepN tbl (callW tbl) (NW tbl k) (.func f first captured) args H Q
 unfold stepN
 simp only [ht,hp,Bool.false_eq_true,if_false]
 refine ⟨hl,?_⟩
 have h1:=h (fun v H'=>Q (zj af.frz H.length v H').1 (zj af.frz H.length v H').2) (fun _ _ h=>h)
 refine zlm (z3a k) _ _ _ _ h1 (fun e s he=>?_)
 obtain ⟨h2,H',h3,vs,h4,h5⟩:=he
 exact ⟨h2,H',vs,h3,h4,h5⟩
theorem zn11 {args:List AV} {Q:AV→Prop} (af:AFunc) (hl:args.length=af.nargs)
 (h:∀ F:AV→Heap→Prop,(∀ v H' r,reify H' zw v=some r→Q r→F v H')→NEX tbl k af.body [] { tm:=Tm.ofArgs .leaf 0 args,heap:=[],dfr:=[],rnd:=none } (FINQ af.results F)) :
 NPURE (callW tbl) (NW tbl k) af args Q:=by
 refine ⟨hl,?_⟩
 have h1:=h (fun v H'=>∃ r,reify H' zw v=some r∧Q r) (fun v H' r h1 h2=>⟨r,h1,h2⟩)
 refine zlm (z3a k) _ _ _ _ h1 (fun e s he=>?_)
 obtain ⟨h2,H',h3,vs,h4,h5⟩:=he
 exact ⟨h2,H',vs,h3,h4,h5⟩
theorem zo11 {f:FuncId} {args:List AV} {H:Heap} {Q:AV→Heap→Prop} {af:AFunc} (ht:tbl f=some (.code af)) (hp:af.pure=true) (hpl:AV.plains args=true)
 (h:if AV.unlents args=true then NPURE (callW tbl) (NW tbl k) af args (fun r=>Q r H) else NPURE (callW tbl) (NW tbl k) af (AV.lends args) (fun r=>Q (if r.unlent then r else r.lend) H)):NW tbl (k + 1) (.func f [] []) args H Q:=by
 refine .inr ?_
 show stepN tbl (callW tbl) (NW tbl k) (.func f [] []) args H Q
 unfold stepN
 simp only [List.nil_append,List.append_nil,ht,hp,if_true,hpl]
 split
 ·rename_i hu; rw [if_pos hu] at h; exact h
 ·rename_i hu; rw [if_neg hu] at h; exact h
end Go.Abs
