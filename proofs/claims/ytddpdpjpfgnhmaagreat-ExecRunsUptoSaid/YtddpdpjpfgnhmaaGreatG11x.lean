/- Abs 22: code. -/
import Derived.Test.YtddpdpjpfgnhmaaGreatG10x
set_option linter.unusedSimpArgs false
set_option linter.unusedVariables false
set_option maxHeartbeats 4000000
namespace Go.Abs
open Go.RowKit
def z51 (P:Program):CRel:=fun lp tm ps a b=>
 ∃ nt kept,lp.tmps.size=nt∧ze2 P nt kept lp.assign=a∧ze2 P nt kept lp.body=b∧TInv kept tm∧∀ t∈ps,t < nt∧nt < 4000∧kept t=true
variable {P:Program} {W:BaseW} {w:World} {φ:Frz} {μ:List Loc} {H H':Heap} {a:Act} {call:CallF} {callN:zi5} {kept:Nat→Bool} {ops:Array Oper} {Q:Exit→Act→World→Prop} {ro:Option Nat} {n nt:Nat}
def DfrR (φ:Frz) (μ:List Loc) (l:List (Nat×Nat)) (ds:List Deferred):Prop:=
 l.length=ds.length∧∀ (i:Nat) (p:Nat×Nat) (d:Deferred),l[i]? = some p→ds[i]? = some d→∃ r,d={ target:=.collected r,args:=#[] }∧VR φ μ (.yieldf p.1 p.2) (.func (.yield r) #[] #[])
def RndR (φ:Frz) (μ:List Loc):Option (Nat×Nat)→Option Nat→Prop
 | none,none=>True
 | some p,some r=>VR φ μ (.yieldf p.1 p.2) (.func (.yield r) #[] #[])
 | _,_=>False
theorem RndR.mono {φ φ':Frz} {μ μ':List Loc} (hf:FExt φ φ') (hm:MExt μ μ'):∀ {x:Option (Nat×Nat)} {y:Option Nat},RndR φ μ x y→RndR φ' μ' x y
 | none,none,_=>trivial
 | some p,some r,h=>VR.mono hf hm h
 | none,some _,h=>h.elim
 | some _,none,h=>h.elim
structure FR (P:Program) (W:BaseW) (kept:Nat→Bool) (nt:Nat) (ro:Option Nat) (φ:Frz) (μ:List Loc) (s:St) (a:Act) (w:World):Prop where
 env:EnvR φ μ s.tm.get a
 tinv:TInv kept s.tm
 wr:WR (z51 P) W φ μ s.heap w
 size:a.tmps.size=nt
 dfr:DfrR φ μ s.dfr a.defers
 rnd:RndR φ μ s.rnd ro
theorem DfrR.mono {φ':Frz} {μ':List Loc} (hf:FExt φ φ') (hm:MExt μ μ') {l:List (Nat×Nat)} {ds:List Deferred} (h:DfrR φ μ l ds):DfrR φ' μ' l ds:=
 ⟨h.1,fun i p d h1 h2=>let ⟨r,e,hv⟩:=h.2 i p d h1 h2; ⟨r,e,hv.mono hf hm⟩⟩
def zno:AExit→Exit
 | .normal=>.normal
 | .exit id=>.exit id
 | .ret=>.ret
theorem zoo {c:Operand} {x:AOperand} (hc:z7 c=some x) {tm:Tm} (he:EnvR φ μ tm.get a) {b:Bool} (h:z1h (evalA [] tm x)=some b):a.eval c=.bool b:=by
 rw [zjb] at h
 have hv:=za (look:=tm.get) he hc
 have e:zk (look [] tm) x=zk tm.get x:=rfl
 rw [e] at h
 generalize zk tm.get x=v at h hv
 cases v <;> simp [z1h] at h
 subst h
 generalize hu:a.eval c=u at hv
 cases hv; rfl
theorem z23 {p:Nat→Prop} (h:∃ j,p j):∃ m,p m∧∀ k,p k→m≤k:=by
 obtain ⟨j,hj⟩:=h
 induction j using Nat.strongRecOn with
 | _ j ih=>
   by_cases hh:∃ k,k < j∧p k
   ·obtain ⟨k,hk,hp⟩:=hh
    exact ih k hk hp
   ·exact ⟨j,hj,fun k hk=>Nat.le_of_not_lt fun hlt=>hh ⟨k,hlt,hk⟩⟩
theorem zsx {f:St→Option (AExit×St)} {k:Nat} {s s':St} {ex:AExit} (h:aloop f k s=some (ex,s')):∃ m,k=m + 1∧((∃ s1,f s=some (.normal,s1)∧aloop f m s1=some (ex,s'))∨(f s=some (ex,s')∧ex≠.normal)):=by
 cases k with
 | zero=>simp [aloop] at h
 | succ m=>
   refine ⟨m,rfl,?_⟩
   simp only [aloop] at h
   split at h
   ·rename_i s1 hf; exact .inl ⟨s1,hf,h⟩
   ·rename_i hne
    refine .inr ⟨h,fun e=>?_⟩
    subst e
    exact hne s' h
theorem FR.state {s:St} (h:FR P W kept nt ro φ μ s a w) {φ':Frz} {μ':List Loc} {a':Act} {w':World} {tm:Tm} {H':Heap} (hf:FExt φ φ') (hm:MExt μ μ') (he:EnvR φ' μ' tm.get a') (ht:TInv kept tm) (hw:WR (z51 P) W φ' μ' H' w') (hs:a'.tmps.size=a.tmps.size) (hd:a'.defers=a.defers) :
 FR P W kept nt ro φ' μ' { s with tm:=tm,heap:=H' } a' w':=
 ⟨he,ht,hw,by rw [hs]; exact h.size,by rw [hd]; exact h.dfr.mono hf hm,h.rnd.mono hf hm⟩
def zn3 (s:St):Heap:=match s.rnd with | some _=>s.heap | none=>s.heap++[.defr 0]
def zba (s:St):List (Nat×Nat):=match s.rnd with | some _=>s.dfr | none=>(s.heap.length,0)::s.dfr
def NX (call:CallF) (callN:zi5):ACode→St→(AExit→St→Prop)→Prop
 | .skip,s,R=>R .normal s
 | .region ops,s,R=>NOPS call callN ops { loc:=[],tm:=s.tm,heap:=s.heap } fun r=>R .normal { s with tm:=r.tm,heap:=r.heap }
 | .draw ops pairs,s,R=>∃ r rs,zr2 call ((z1c s.heap.length ops).zip ops) { loc:=[],tm:=s.tm,heap:=s.heap++List.replicate (z2c ops) (.dead 0) }=some (r,rs) ∧
  zu9 rs pairs=true∧R .normal { s with tm:=r.tm,heap:=r.heap }
 | .seq a b,s,R=>NX call callN a s fun e s'=>match e with
   | .normal=>NX call callN b s' R
   | e=>R e s'
 | .cond c a b,s,R=>match z1h (evalA [] s.tm c) with
   | some true=>NX call callN a s R
   | some false=>NX call callN b s R
   | none=>False
 | .block id a,s,R=>NX call callN a s fun e s'=>match e with
   | .exit j=>if j=id then R .normal s' else R (.exit j) s'
   | e=>R e s'
 | .loop a,s,R=>∃ (I:St→Prop) (m:St→Nat),I s∧∀ s1,I s1→NX call callN a s1 fun e s2=>match e with
   | .normal=>I s2∧m s2 < m s1
   | e=>R e s2
 | .rangeFunc f ps a b,s,R=>ztk (evalA [] s.tm f)=true∧zmi s.heap s.rnd=true ∧
  callN (evalA [] s.tm f) [.yieldf (zn3 s).length 0] (zn3 s++[.loop 0 .ready none s.tm ps a b]) fun _ H3=>match H3[(zn3 s).length]? with
   | some (.loop 0 st pend _ _ _ _)=>st≠.busy∧R (match pend with | none=>.normal | some e=>e) { s with heap:=H3.set (zn3 s).length (.dead 1),dfr:=zba s }
   | _=>False
 | .exit id,s,R=>R (.exit id) s
 | .ret,s,R=>R .ret s
 | .bad,_,_=>False
theorem zxz (hcall:z7a (z51 P) P call) (hN:z98 (z51 P) P callN) (hR:∀ (f:Operand) (ps:Array Tmp) (x y:Code) (s:St) (R:AExit→St→Prop),NX call callN (ze2 P nt kept (.rangeFunc f ps x y)) s R →
 ∀ (φ:Frz) (μ:List Loc) (a:Act) (w:World) (Q:Exit→Act→World→Prop),FR P W kept nt ro φ μ s a w→(∀ ex s',R ex s'→∀ a' w' φ' μ',FExt φ φ'→MExt μ μ'→FR P W kept nt ro φ' μ' s' a' w'→Q (zno ex) a' w')→(Code.rangeFunc f ps x y).wpIn (Fk ro) n P Q a w) :
 ∀ (c:Code) (s:St) (R:AExit→St→Prop),NX call callN (ze2 P nt kept c) s R →
   ∀ (φ:Frz) (μ:List Loc) (a:Act) (w:World) (Q:Exit→Act→World→Prop),FR P W kept nt ro φ μ s a w→(∀ ex s',R ex s'→∀ a' w' φ' μ',FExt φ φ'→MExt μ μ'→FR P W kept nt ro φ' μ' s' a' w'→Q (zno ex) a' w')→c.wpIn (Fk ro) n P Q a w:=by
 intro c
 induction c with
 | skip=>
   intro s R h φ μ a w Q hr hQ
   exact wpIn_skip (hQ .normal s h a w φ μ (FExt.refl φ) (MExt.refl μ) hr)
 | region id ops draw=>
   intro s R h φ μ a w Q hr hQ
   cases draw with
   | false=>
     simp only [ze2] at h
     split at h
     ·rename_i hsm
      simp only [NX] at h
      exact ziu hcall hN hsm h hr.tinv hr.env hr.wr hr.size (fun s' hs a' w' φ' μ' h1 h2 h3 h4 h5 h6 h7=>hQ _ _ hs a' w' φ' μ' h1 h2 (hr.state h1 h2 h3 h4 h5 h6 h7))
     ·exact h.elim
   | true=>
     simp only [ze2] at h
     split at h
     ·rename_i hsm
      simp only [Bool.and_eq_true] at hsm
      simp only [NX] at h
      obtain ⟨r,rs,hrun,hpr,hR'⟩:=h
      exact zw31 hcall hsm.1 hsm.2 hrun hpr hr.tinv hr.env hr.wr hr.size (fun a' w' φ' μ' h1 h2 h3 h4 h5 h6 h7=>hQ _ _ hR' a' w' φ' μ' h1 h2 (hr.state h1 h2 h3 h4 h5 h6 h7))
     ·exact h.elim
 | seq x y ihx ihy=>
   intro s R h φ μ a w Q hr hQ
   simp only [ze2,NX] at h
   apply wpIn_seq
   refine ihx s _ h φ μ a w _ hr (fun ex s' hs a' w' φ' μ' e1 e2 hr'=>?_)
   cases ex with
   | normal=>exact ihy s' R hs φ' μ' a' w' Q hr' (fun ex s'' hs' a'' w'' φ'' μ'' g1 g2 hr''=>hQ ex s'' hs' a'' w'' φ'' μ'' (e1.trans g1) (e2.trans g2) hr'')
   | exit id=>exact hQ _ _ hs a' w' φ' μ' e1 e2 hr'
   | ret=>exact hQ _ _ hs a' w' φ' μ' e1 e2 hr'
 | cond c x y ihx ihy=>
   intro s R h φ μ a w Q hr hQ
   simp only [ze2] at h
   split at h
   ·rename_i v hv
    simp only [NX] at h
    split at h
    ·rename_i ht
     exact wpIn_cond_true (zoo hv hr.env ht) (ihx s R h φ μ a w Q hr hQ)
    ·rename_i ht
     exact wpIn_cond_false (zoo hv hr.env ht) (ihy s R h φ μ a w Q hr hQ)
    ·exact h.elim
   ·exact h.elim
 | block id x ih=>
   intro s R h φ μ a w Q hr hQ
   simp only [ze2,NX] at h
   apply wpIn_block
   refine ih s _ h φ μ a w _ hr (fun ex s' hs a' w' φ' μ' e1 e2 hr'=>?_)
   cases ex with
   | normal=>exact hQ _ _ hs a' w' φ' μ' e1 e2 hr'
   | ret=>exact hQ _ _ hs a' w' φ' μ' e1 e2 hr'
   | exit j=>
     simp only [zno,Exit.inBlock]
     simp only at hs
     split at hs
     ·rename_i hj
      rw [if_pos hj]; exact hQ _ _ hs a' w' φ' μ' e1 e2 hr'
     ·rename_i hj
      rw [if_neg hj]; exact hQ _ _ hs a' w' φ' μ' e1 e2 hr'
 | loop x ih=>
   intro s R h φ μ a w Q hr hQ
   simp only [ze2,NX] at h
   obtain ⟨I,m,hI0,hstep⟩:=h
   let PJ:Nat→Act→World→Prop:=fun j a' w'=>∃ s1 φ' μ',FExt φ φ'∧MExt μ μ'∧FR P W kept nt ro φ' μ' s1 a' w'∧I s1∧m s1=j
   classical
   let meas:Act→World→Nat:=fun a' w'=>if hh:∃ j,PJ j a' w' then Classical.choose (z23 hh) else 0
   refine wpIn_loop (fun a' w'=>∃ j,PJ j a' w') meas ⟨m s,s,φ,μ,FExt.refl φ,MExt.refl μ,hr,hI0,rfl⟩ ?_
   intro a1 w1 hI
   have hfind:=(Classical.choose_spec (z23 hI)).1
   have hme:meas a1 w1=Classical.choose (z23 hI):=by simp only [meas,dif_pos hI]
   obtain ⟨s1,φ1,μ1,e1,e2,hr1,hI1,hm1⟩:=hfind
   refine ih s1 _ (hstep s1 hI1) φ1 μ1 a1 w1 _ hr1 (fun ex s2 hs a' w' φ' μ' g1 g2 hr'=>?_)
   cases ex with
   | normal=>
     obtain ⟨hI2,hlt⟩:=hs
     have hP:PJ (m s2) a' w':=⟨s2,φ',μ',e1.trans g1,e2.trans g2,hr',hI2,rfl⟩
     refine ⟨⟨_,hP⟩,?_⟩
     have hI':∃ j,PJ j a' w':=⟨_,hP⟩
     have:meas a' w'=Classical.choose (z23 hI'):=by simp only [meas,dif_pos hI']
     rw [this,hme]
     have:=(Classical.choose_spec (z23 hI')).2 _ hP
     omega
   | exit j=>exact hQ _ _ hs a' w' φ' μ' (e1.trans g1) (e2.trans g2) hr'
   | ret=>exact hQ _ _ hs a' w' φ' μ' (e1.trans g1) (e2.trans g2) hr'
 | rangeFunc f ps x y _ _=>intro s R h φ μ a w Q hr hQ; exact hR f ps x y s R h φ μ a w Q hr hQ
 | exit id=>
   intro s R h φ μ a w Q hr hQ
   exact wpIn_exit (hQ (.exit id) s h a w φ μ (FExt.refl φ) (MExt.refl μ) hr)
 | ret=>
   intro s R h φ μ a w Q hr hQ
   exact wpIn_ret (hQ .ret s h a w φ μ (FExt.refl φ) (MExt.refl μ) hr)
 | scope _ _=>intro s R h; exact h.elim
 | label _=>intro s R h; exact h.elim
 | goto _=>intro s R h; exact h.elim
 | refuse _=>intro s R h; exact h.elim
end Go.Abs
