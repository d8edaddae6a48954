/- Abs 33: running code step by step by simp; loops by invariants. -/
import Derived.Test.YtddpdpjpfgnhmaaGreatG21x
set_option linter.unusedSimpArgs false
set_option linter.unusedVariables false
set_option maxHeartbeats 4000000
namespace Go.Abs
variable {call:CallF} {lp:LoopF} {tbl:FuncId→Option AFun}
def WP (call:CallF) (lp:LoopF) (c:ACode) (s:St) (Q:AExit→St→Prop):Prop:=∃ e s',exec call lp c s=some (e,s')∧Q e s'
def thenK (call:CallF) (lp:LoopF) (b:ACode) (Q:AExit→St→Prop) (e:AExit) (s:St):Prop:=match e with
 | .normal=>WP call lp b s Q
 | e=>Q e s
def z6s (id:Nat) (Q:AExit→St→Prop) (e:AExit) (s:St):Prop:=match e with
 | .exit j=>if j=id then Q .normal s else Q (.exit j) s
 | e=>Q e s
def OPS (call:CallF) (ops:List AOper) (r:RSt) (K:RSt→Prop):Prop:=∃ r',zo5 call ops r=some r'∧K r'
def ACT (call:CallF) (H:Heap) (A:Action) (K:AV→Heap→Prop):Prop:=∃ v H',zd call none H A=some (v,H')∧K v H'
def SOME {α:Type} (x:Option α) (K:α→Prop):Prop:=∃ v,x=some v∧K v
def TRUTH (x:AV) (K:Bool→Prop):Prop:=∃ b,x=.bool b∧K b
def GUARD (x:AV) (K:Bool→Prop):Prop:=(∃ b,x=.bool b∧K b)
def putR (r:RSt) (dst:Option Nat) (keep:Bool) (v:AV) (H:Heap):RSt:=match dst with
 | none=>{ r with heap:=H }
 | some d=>if keep then { r with tm:=r.tm.put d v,heap:=H } else { r with loc:=(d,v)::r.loc,heap:=H }
variable {Q:AExit→St→Prop} {s:St}
theorem WP.mono {c:ACode} {Q':AExit→St→Prop} (h:WP call lp c s Q) (hq:∀ e s',Q e s'→Q' e s'):WP call lp c s Q':=let ⟨e,s',h1,h2⟩:=h; ⟨e,s',h1,hq e s' h2⟩
theorem z201:WP call lp .skip s Q=Q .normal s:=propext ⟨fun ⟨e,s',h,hq⟩=>by simp [exec] at h; obtain ⟨rfl,rfl⟩:=h; exact hq,fun h=>⟨_,_,rfl,h⟩⟩
theorem z301 {id:Nat}:WP call lp (.exit id) s Q=Q (.exit id) s:=propext ⟨fun ⟨e,s',h,hq⟩=>by simp [exec] at h; obtain ⟨rfl,rfl⟩:=h; exact hq,fun h=>⟨_,_,rfl,h⟩⟩
theorem z991:WP call lp .ret s Q=Q .ret s:=propext ⟨fun ⟨e,s',h,hq⟩=>by simp [exec] at h; obtain ⟨rfl,rfl⟩:=h; exact hq,fun h=>⟨_,_,rfl,h⟩⟩
theorem zlw {a b:ACode}:WP call lp (.seq a b) s Q=WP call lp a s (thenK call lp b Q):=by
 apply propext
 constructor
 ·rintro ⟨e,s',h,hq⟩
  simp only [exec] at h
  split at h
  ·rename_i s1 h1; exact ⟨_,_,h1,e,s',h,hq⟩
  ·rename_i hne
   refine ⟨e,s',h,?_⟩
   cases e with
   | normal=>exact absurd h (hne s')
   | _=>exact hq
 ·rintro ⟨e,s1,h,hq⟩
  cases e with
  | normal=>obtain ⟨e,s',h',hq⟩:=hq; exact ⟨e,s',by simp only [exec,h]; exact h',hq⟩
  | _=>exact ⟨_,s1,by simp only [exec,h],hq⟩
theorem zmw {id:Nat} {a:ACode}:WP call lp (.block id a) s Q=WP call lp a s (z6s id Q):=by
 apply propext
 constructor
 ·rintro ⟨e,s',h,hq⟩
  simp only [exec] at h
  split at h
  ·rename_i j s1 h1
   refine ⟨_,_,h1,?_⟩
   simp only [z6s]
   split at h <;> (simp only [Option.some.injEq,Prod.mk.injEq] at h; obtain ⟨rfl,rfl⟩:=h)
   ·rename_i hj; rw [if_pos hj]; exact hq
   ·rename_i hj; rw [if_neg hj]; exact hq
  ·rename_i hne
   refine ⟨e,s',h,?_⟩
   cases e with
   | exit j=>exact absurd h (hne j s')
   | _=>exact hq
 ·rintro ⟨e,s1,h,hq⟩
  cases e with
  | exit j=>
    simp only [z6s] at hq
    split at hq
    ·rename_i hj; exact ⟨_,s1,by simp only [exec,h,hj,if_true],hq⟩
    ·rename_i hj; exact ⟨_,s1,by simp only [exec,h,hj,if_false],hq⟩
  | _=>exact ⟨_,s1,by simp only [exec,h],hq⟩
theorem z401 {c:AOperand} {a b:ACode}:WP call lp (.cond c a b) s Q=TRUTH (evalA [] s.tm c) (fun t=>if t then WP call lp a s Q else WP call lp b s Q):=by
 apply propext
 constructor
 ·rintro ⟨e,s',h,hq⟩
  simp only [exec] at h
  split at h
  ·rename_i ht; refine ⟨true,?_,by simp only [if_true]; exact ⟨e,s',h,hq⟩⟩
   revert ht; cases evalA [] s.tm c <;> simp [z1h]
  ·rename_i ht; refine ⟨false,?_,by simp only [Bool.false_eq_true,if_false]; exact ⟨e,s',h,hq⟩⟩
   revert ht; cases evalA [] s.tm c <;> simp [z1h]
  ·simp at h
 ·rintro ⟨t,ht,h⟩
  cases t with
  | true=>simp only [if_true] at h; obtain ⟨e,s',h,hq⟩:=h; exact ⟨e,s',by simp only [exec,ht,z1h]; exact h,hq⟩
  | false=>simp only [Bool.false_eq_true,if_false] at h; obtain ⟨e,s',h,hq⟩:=h; exact ⟨e,s',by simp only [exec,ht,z1h]; exact h,hq⟩
theorem zyo {b:Bool} {K:Bool→Prop}:TRUTH (.bool b) K=K b:=propext ⟨fun ⟨b',h,k⟩=>by cases h; exact k,fun k=>⟨b,rfl,k⟩⟩
theorem zk4 {α:Type} {v:α} {K:α→Prop}:SOME (some v) K=K v:=propext ⟨fun ⟨b',h,k⟩=>by cases h; exact k,fun k=>⟨v,rfl,k⟩⟩
theorem zml {ops:List AOper}:WP call lp (.region ops) s Q=OPS call ops ⟨[],s.tm,s.heap⟩ (fun r=>Q .normal { s with tm:=r.tm,heap:=r.heap }):=by
 apply propext
 constructor
 ·rintro ⟨e,s',h,hq⟩
  simp only [exec] at h
  split at h
  ·rename_i r hr; simp only [Option.some.injEq,Prod.mk.injEq] at h; obtain ⟨rfl,rfl⟩:=h; exact ⟨r,hr,hq⟩
  ·simp at h
 ·rintro ⟨r,hr,hq⟩; exact ⟨_,_,by simp only [exec,hr],hq⟩
theorem zq61 {ops:List AOper} {ps:List (Nat×Nat)}:WP call lp (.draw ops ps) s Q =
 SOME (zr2 call ((z1c s.heap.length ops).zip ops) { loc:=[],tm:=s.tm,heap:=s.heap++List.replicate (z2c ops) (.dead 0) }) (fun x=>zu9 x.2 ps=true∧Q .normal { s with tm:=x.1.tm,heap:=x.1.heap }):=by
 apply propext
 constructor
 ·rintro ⟨e,s',h,hq⟩
  simp only [exec] at h
  split at h
  ·rename_i r rs hr
   split at h
   ·rename_i hp; simp only [Option.some.injEq,Prod.mk.injEq] at h; obtain ⟨rfl,rfl⟩:=h; exact ⟨_,hr,hp,hq⟩
   ·simp at h
  ·simp at h
 ·rintro ⟨⟨r,rs⟩,hr,hp,hq⟩; exact ⟨_,_,by simp only [exec,hr,hp,if_true],hq⟩
theorem zpu {r:RSt} {K:RSt→Prop}:OPS call [] r K=K r:=propext ⟨fun ⟨r',h,k⟩=>by simp [zo5] at h; subst h; exact k,fun k=>⟨r,rfl,k⟩⟩
theorem RSt.put_eq (r:RSt) (dst:Option Nat) (keep:Bool) (op:AOp) (g:Option (Nat×Bool)) (v:AV) (H:Heap):r.put ⟨dst,keep,op,g⟩ v H=putR r dst keep v H:=by cases dst <;> rfl
theorem zjk {dst:Option Nat} {keep:Bool} {op:AOp} {os:List AOper} {r:RSt} {K:RSt→Prop} :
 OPS call (⟨dst,keep,op,none⟩::os) r K=ACT call r.heap (actOf (evalA r.loc r.tm) op) (fun v H=>OPS call os (putR r dst keep v H) K):=by
 apply propext
 constructor
 ·rintro ⟨r',h,k⟩
  simp only [zo5,stepA,z93] at h
  split at h
  ·rename_i s1 h1
   split at h1
   ·rename_i v H hv; simp only [Option.some.injEq] at h1; subst h1; rw [RSt.put_eq] at h; exact ⟨v,H,hv,r',h,k⟩
   ·simp at h1
  ·simp at h
 ·rintro ⟨v,H,hv,r',h,k⟩
  exact ⟨r',by simp only [zo5,stepA,z93,hv,RSt.put_eq]; exact h,k⟩
theorem z501 {dst:Option Nat} {keep:Bool} {op:AOp} {t:Nat} {w:Bool} {os:List AOper} {r:RSt} {K:RSt→Prop}
 (h:GUARD (look r.loc r.tm t) (fun b=>if b=w then ACT call r.heap (actOf (evalA r.loc r.tm) op) (fun v H=>OPS call os (putR r dst keep v H) K) else OPS call os (putR r dst keep .skipped r.heap) K)) :
 OPS call (⟨dst,keep,op,some (t,w)⟩::os) r K:=by
 obtain ⟨b,hb,h⟩:=h
 split at h
 ·rename_i e; subst e
  obtain ⟨v,H,hv,r',h,k⟩:=h
  exact ⟨r',by simp only [zo5,stepA,z93,hb,beq_self_eq_true,hv,RSt.put_eq]; exact h,k⟩
 ·rename_i e
  obtain ⟨r',h,k⟩:=h
  have:(b == w)=false:=by simpa using e
  exact ⟨r',by simp only [zo5,stepA,z93,hb,this,RSt.put_eq]; exact h,k⟩
theorem z7s {dst:Option Nat} {keep:Bool} {op:AOp} {t:Nat} {w b:Bool} {os:List AOper} {r:RSt} {K:RSt→Prop} (hb:look r.loc r.tm t=.bool b) :
 OPS call (⟨dst,keep,op,some (t,w)⟩::os) r K=if b=w then ACT call r.heap (actOf (evalA r.loc r.tm) op) (fun v H=>OPS call os (putR r dst keep v H) K) else OPS call os (putR r dst keep .skipped r.heap) K:=by
 apply propext
 constructor
 ·rintro ⟨r',h,k⟩
  simp only [zo5,stepA,z93,hb] at h
  by_cases e:b=w
  ·subst e
   simp only [beq_self_eq_true] at h
   rw [if_pos rfl]
   split at h
   ·rename_i s1 h1
    split at h1
    ·rename_i v H hv; simp only [Option.some.injEq] at h1; subst h1; rw [RSt.put_eq] at h; exact ⟨v,H,hv,r',h,k⟩
    ·simp at h1
   ·simp at h
  ·have:(b == w)=false:=by simpa using e
   simp only [this,RSt.put_eq] at h
   rw [if_neg e]
   exact ⟨r',h,k⟩
 ·intro h; exact z501 ⟨b,hb,h⟩
theorem zwn {dst:Option Nat} {keep:Bool} {op:AOp} {t:Nat} {w:Bool} {os:List AOper} {r:RSt} {K:RSt→Prop} (hb:look r.loc r.tm t=.tuple []) :
 OPS call (⟨dst,keep,op,some (t,w)⟩::os) r K=OPS call os (putR r dst keep .skipped r.heap) K:=by
 apply propext
 constructor
 ·rintro ⟨r',h,k⟩
  simp only [zo5,stepA,z93,hb,RSt.put_eq] at h
  exact ⟨r',h,k⟩
 ·rintro ⟨r',h,k⟩
  exact ⟨r',by simp only [zo5,stepA,z93,hb,RSt.put_eq]; exact h,k⟩
theorem zu8 {H:Heap} {v:AV} {K:AV→Heap→Prop}:ACT call H (.val v) K=K v H:=propext ⟨fun ⟨v',H',h,k⟩=>by simp [zd] at h; obtain ⟨rfl,rfl⟩:=h; exact k,fun k=>⟨v,H,rfl,k⟩⟩
theorem zge {H:Heap} {x:Option AV} {K:AV→Heap→Prop}:ACT call H (.ofOption x) K=SOME x (fun v=>K v H):=by
 apply propext
 cases x with
 | none=>exact ⟨fun ⟨v',H',h,k⟩=>by simp [Action.ofOption,zd] at h,fun ⟨v,h,_⟩=>by simp at h⟩
 | some v=>rw [zk4]; show ACT call H (.val v) K↔_; rw [zu8]
theorem za91 {H:Heap} {ids:List Nat} {f:List Blk→Option AV} {K:AV→Heap→Prop}:ACT call H (.rd ids f) K=SOME (f (blks H ids)) (fun v=>K v H):=by
 apply propext
 constructor
 ·rintro ⟨v,H',h,k⟩
  simp only [zd] at h
  split at h
  ·rename_i u hu; simp only [Option.some.injEq,Prod.mk.injEq] at h; obtain ⟨rfl,rfl⟩:=h; exact ⟨_,hu,k⟩
  ·simp at h
 ·rintro ⟨v,hv,k⟩; exact ⟨v,H,by simp only [zd,hv],k⟩
theorem zb91 {H:Heap} {ids:List Nat} {id:Nat} {f:List Blk→Option (AV×Blk)} {K:AV→Heap→Prop}:ACT call H (.md ids id f) K=(id < H.length∧SOME (f (blks H ids)) (fun x=>K x.1 (H.set id x.2))):=by
 apply propext
 constructor
 ·rintro ⟨v,H',h,k⟩
  simp only [zd] at h
  split at h
  ·rename_i hl
   split at h
   ·rename_i u b hu; simp only [Option.some.injEq,Prod.mk.injEq] at h; obtain ⟨rfl,rfl⟩:=h; exact ⟨hl,_,hu,k⟩
   ·simp at h
  ·simp at h
 ·rintro ⟨hl,⟨v,b⟩,hv,k⟩; exact ⟨v,_,by simp only [zd,hl,if_true,hv],k⟩
theorem zc91 {H:Heap} {ids:List Nat} {f:List Blk→Nat→Nat→Option (AV×Blk)} {K:AV→Heap→Prop}:ACT call H (.nw ids f) K=SOME (f (blks H ids) H.length 0) (fun x=>K x.1 (H++[x.2])):=by
 apply propext
 constructor
 ·rintro ⟨v,H',h,k⟩
  simp only [zd] at h
  split at h
  ·rename_i u b hu; simp only [Option.some.injEq,Prod.mk.injEq] at h; obtain ⟨rfl,rfl⟩:=h; exact ⟨_,hu,k⟩
  ·simp at h
 ·rintro ⟨⟨v,b⟩,hv,k⟩; exact ⟨v,_,by simp only [zd,hv],k⟩
theorem zx31 {H:Heap} {f:AV} {args:List AV} {K:AV→Heap→Prop}:ACT call H (.call f args) K=SOME (call f args H) (fun x=>K x.1 x.2):=by
 apply propext
 constructor
 ·rintro ⟨v,H',h,k⟩; exact ⟨(v,H'),h,k⟩
 ·rintro ⟨⟨v,H'⟩,h,k⟩; exact ⟨v,H',h,k⟩
theorem znl {body:ACode} (I:Nat→St→Prop) (hstep:∀ n s,I n s→WP call loopW body s (fun e s'=>match e with | .normal=>∃ m,m < n∧I m s' | e=>Q e s')) :
 ∀ (n:Nat) (s:St),I n s→WP call loopW (.loop body) s Q:=by
 intro n
 induction n using Nat.strongRecOn with
 | _ n ih=>
   intro s hI
   obtain ⟨e,s',h,hq⟩:=hstep n s hI
   cases e with
   | normal=>
     obtain ⟨m,hm,hI'⟩:=hq
     obtain ⟨e,s'',h',hq'⟩:=ih m hm s' hI'
     refine ⟨e,s'',?_,hq'⟩
     simp only [exec] at h' ⊢
     rw [z0y h]; exact h'
   | exit j=>exact ⟨_,s',by simp only [exec]; exact zto h (by simp),hq⟩
   | ret=>exact ⟨_,s',by simp only [exec]; exact zto h (by simp),hq⟩
theorem z61 {n:Int} (h1:-2 ^ 63≤n) (h2:n < 2 ^ 63):IntKind.i64.wrap n=n:=by
 simp [IntKind.wrap,IntKind.bits,IntKind.signed]
 omega
theorem zy31 {c i n t k k1:Nat} {body:ACode} (N:Nat) (I:Nat→St→Prop) (hN:N < 2 ^ 62) (hc:c < 4000:=by decide) (hi:i < 4000:=by decide) (hn:n < 4000:=by decide) (hci:c≠i:=by decide) (hcn:c≠n:=by decide)
 (hI:∀ j s,I j s→s.tm.get i=.int .i64 j∧s.tm.get n=.int .i64 N)
 (hbody:∀ j s,j < N→I j s→WP call loopW body { s with tm:=s.tm.put c (.bool true) } (fun e s'=>if e=.normal∨e=.exit k1 then s'.tm.get i=.int .i64 j∧I (j + 1) { s' with tm:=s'.tm.put i (.int .i64 ((j + 1:Nat):Int)) } else Q e s'))
 (hexit:∀ s,I N s→Q (.exit k) { s with tm:=s.tm.put c (.bool false) }) :
 ∀ (j:Nat) (s:St),j≤N→I j s→WP call loopW (.loop (.seq (.region [⟨some c,true, .bin .lss .no (.tmp i) (.tmp n),none⟩]) (.seq (.cond (.tmp c) .skip (.exit k)) (.seq (.block k1 body)
   (.region [⟨some t,false, .bin .add .no (.tmp i) (ii 1),none⟩,⟨some i,true, .move (.tmp t),none⟩]))))) s Q:=by
 intro j s hj hIs
 refine znl (fun m s=>∃ j,j + m=N∧I j s) (fun m s hs=>?_) (N - j) s ⟨j,by omega,hIs⟩
 obtain ⟨j,hjm,hIs⟩:=hs
 obtain ⟨h1,h2⟩:=hI j s hIs
 rw [zlw,zml,zjk]
 simp only [actOf,evalA,look,h1,h2,binA,intOp,if_true,zge,zk4,zpu,putR,thenK,zlw,z401,Tm.get_put,hc,if_true,zyo]
 by_cases hlt:j < N
 ·have:((j:Int) < (N:Int)):=by omega
  simp only [this,decide_true,if_true,z201,thenK,zlw,zmw]
  refine (hbody j s hlt hIs).mono (fun e s' hq=>?_)
  have hfin:(s'.tm.get i=.int .i64 j∧I (j + 1) { s' with tm:=s'.tm.put i (.int .i64 ((j + 1:Nat):Int)) })→WP call loopW (.region [⟨some t,false, .bin .add .no (.tmp i) (ii 1),none⟩,⟨some i,true, .move (.tmp t),none⟩]) s'
   (fun e s'=>match e with | .normal=>∃ m',m' < m∧∃ j,j + m'=N∧I j s' | e=>Q e s'):=by
   rintro ⟨g1,g2⟩
   rw [zml,zjk]
   have hw:IntKind.i64.wrap ((j:Int) + 1)=((j + 1:Nat):Int):=by rw [z61 (by omega) (by omega)]; omega
   simp only [actOf,evalA,look,g1,binA,intOp,if_true,zge,zk4,putR,hw,Bool.false_eq_true,if_false]
   rw [zjk]
   simp only [actOf,evalA,look,if_true,zu8,putR,zpu,Bool.false_eq_true,if_false]
   exact ⟨m - 1,by omega,j + 1,by omega,g2⟩
  cases e with
  | normal=>rw [if_pos (.inl rfl)] at hq; exact hfin hq
  | exit j'=>
    simp only [z6s]
    by_cases e:j'=k1
    ·subst e; rw [if_pos (.inr rfl)] at hq; rw [if_pos rfl]; exact hfin hq
    ·rw [if_neg e]
     rw [if_neg (by simp [e])] at hq
     exact hq
  | ret=>rw [if_neg (by simp)] at hq; exact hq
 ·have:¬ ((j:Int) < (N:Int)):=by omega
  have hjN:j=N:=by omega
  subst hjN
  simp only [this,decide_false,Bool.false_eq_true,if_false,z301,thenK]
  exact hexit s hIs
theorem z76 {f:FuncId} {af:AFunc} (ht:tbl f=some (.code af)) (hp:af.pure=true) {R:List AV→Prop} {S:AV→Prop} (hpl:∀ a,R a→AV.plains a=true) (hle:∀ a,R a→R (AV.lends a)) (hS:∀ r,S r→S r.lend)
 (hrun:∀ a,R a→∃ r,zy (callW tbl) loopW af a=some r∧S r):∀ (a:List AV) (H:Heap),R a→∃ r,callW tbl (.func f [] []) a H=some (r,H)∧S r:=by
 intro a H ha
 by_cases hu:AV.unlents a=true
 ·obtain ⟨r,h1,h2⟩:=hrun a ha
  have:=zc5 (tbl:=tbl) (first:=[]) (captured:=[]) (args:=a) (H:=H) (r:=r) ht hp (by simpa using hpl a ha) (by simpa [hu] using h1)
  exact ⟨r,by rw [this]; simp [hu],h2⟩
 ·obtain ⟨r,h1,h2⟩:=hrun _ (hle a ha)
  have:=zc5 (tbl:=tbl) (first:=[]) (captured:=[]) (args:=a) (H:=H) (r:=r) ht hp (by simpa using hpl a ha) (by simpa [hu] using h1)
  by_cases hr:r.unlent=true
  ·exact ⟨r,by rw [this]; simp [hr],h2⟩
  ·exact ⟨r.lend,by rw [this]; simp [hu,hr],hS r h2⟩
end Go.Abs
