/- Abs 20: regions: the machine follows the interpreter. -/
import Derived.Test.YtddpdpjpfgnhmaaGreatG7x
set_option linter.unusedSimpArgs false
set_option linter.unusedVariables false
set_option maxHeartbeats 4000000
namespace Go.Abs
open Go.RowKit
def Goes (P:Program) (fv:AV) (R:Value→World→Prop):Result Next→Prop
 | .ok (.enter f args) w'=>(∃ f a b,fv=.func f a b)∧∀ n,CallsIn Fence.wide n P f args w' (fun e w''=>∃ v,e=.returned v∧R v w'')
 | .ok (.round l f tmps a b) w'=>(∃ id g,fv=.yieldf id g)∧∀ n,RoundIn Fence.wide n P l f tmps a b w' (fun e w''=>∃ v,e=.returned v∧R v w'')
 | _=>False
def z7a (CR:CRel) (P:Program) (call:CallF):Prop:=
 ∀ (fv:AV) (args:List AV) (H:Heap) (r:AV) (H':Heap),call fv args H=some (r,H') →
   ∀ (W:BaseW) (φ:Frz) (μ:List Loc) (w:World) (u:Value) (us:Array Value),WR CR W φ μ H w→VR φ μ fv u→VRs φ μ args us.toList →
     Goes P fv (fun v w'=>∃ φ' μ',FExt φ φ'∧MExt μ μ'∧WR CR W φ' μ' H' w'∧VR φ' μ' r v) ((do let d ← Deferred.ofValue u us; invoke d.target d.args:Sem Next).run P w)
abbrev Fk (ro:Option Nat):Fence:={ Fence.wide with round:=ro }
variable {CR:CRel} {P:Program} {W:BaseW} {w:World} {φ:Frz} {μ:List Loc} {H H':Heap} {a:Act} {call:CallF} {kept:Nat→Bool} {ops:Array Oper} {Q:Exit→Act→World→Prop} {ro:Option Nat} {n:Nat}
theorem EnvR.mono {e:Nat→AV} {φ':Frz} {μ':List Loc} (hf:FExt φ φ') (hm:MExt μ μ') (h:EnvR φ μ e a):EnvR φ' μ' e a:=⟨fun t=>(h.at_ t).mono hf hm⟩
theorem EnvR.put {e:Nat→AV} {dst:Option Nat} {v:AV} {u:Value} (h:EnvR φ μ e a) (hv:VR φ μ v u) (hd:∀ d,dst=some d→d < a.tmps.size):EnvR φ μ (upd e dst v) (a.put dst u):=by
 cases dst with
 | none=>exact h
 | some d=>
   refine ⟨fun t=>?_⟩
   simp only [upd,Act.put]
   have hlt:=hd d rfl
   by_cases e:t=d
   ·subst e; simp [hlt]; exact hv
   ·rw [if_neg e]
    have:(a.tmps.setIfInBounds d u).getD t undef=a.tmps.getD t undef:=by
     simp [Array.getElem?_setIfInBounds_ne (Ne.symm e)]
    rw [this]; exact h.at_ t
theorem z2b (kept:Nat→Bool) (ops:Array Oper) (o:Oper) (h:(zm P kept ops o).op≠.bad):∃ ao,z53 P o.op=some ao∧((zm P kept ops o).op=ao∨∃ f xs,ao=.call f xs∧(zm P kept ops o).op=.pcall f xs)∧(zm P kept ops o).dst=o.dst ∧
 (match o.guard with
  | none=>(zm P kept ops o).guard=none
  | some (j,wt)=>∃ d,(ops[j]?).bind (·.dst)=some d∧(zm P kept ops o).guard=some (d,wt)):=by
 unfold zm at h ⊢
 have hget:∀ x:Option AOp,x.getD .bad≠.bad→x=some (x.getD .bad):=fun x hx=>by
  cases x with
  | none=>exact absurd rfl hx
  | some y=>rfl
 cases hg:o.guard with
 | none=>
   simp only [hg] at h ⊢
   exact ⟨_,hget _ (zbo h),zkj _ _,trivial,trivial⟩
 | some p=>
   obtain ⟨j,wt⟩:=p
   simp only [hg] at h ⊢
   cases hd:(ops[j]?).bind (·.dst) with
   | none=>simp only [hd] at h; exact absurd rfl h
   | some d=>
     simp only [hd] at h ⊢
     exact ⟨_,hget _ (zbo h),zkj _ _,by simp,by simp⟩
theorem z7q {slot:Option Nat} {o:AOper} {e:Nat→AV} {r:(Nat→AV)×Heap×AV} (h:stepE call slot o e H=some r):o.op≠.bad∨z88 e o=some false:=by
 unfold stepE at h
 split at h
 ·rename_i hw
  refine .inl fun e=>?_
  rw [e] at h; simp [actOf,zd] at h
 ·rename_i hw; exact .inr hw
 ·simp at h
theorem z5l {o:Oper} {ao:AOp} (h:z53 P o.op=some ao):∀ c,o.op≠.defer c:=by
 intro c e
 rw [e] at h; simp [z53] at h
theorem VR.skip:VR φ μ .skipped Go.undef:=.tuple (vs:=[]) rfl (fun i x v h=>by simp at h)
theorem z7g {oc:Oper} {e:Nat→AV} (he:EnvR φ μ e a) {g:Option (Nat×Bool)} {b:Bool} (hb:(match g with | none=>some true | some (t,w)=>match e t with | .bool b=>some (b == w) | .tuple []=>some false | _=>none)=some b)
 (hg:match oc.guard with
  | none=>g=none
  | some (j,wt)=>∃ d,(ops[j]?).bind (·.dst)=some d∧g=some (d,wt)):Region.wanted oc (yielded ops a.tmps)=b:=by
 unfold Region.wanted
 cases hog:oc.guard with
 | none=>
   rw [hog] at hg
   simp only at hg
   rw [hg] at hb; simpa using hb
 | some p=>
   obtain ⟨j,wt⟩:=p
   rw [hog] at hg
   simp only at hg
   obtain ⟨d,hjd,hg⟩:=hg
   rw [hg] at hb
   simp only at hb ⊢
   split at hb
   ·rename_i bb hbb
    have hv:=he.at_ d
    rw [hbb] at hv
    have ht:a.tmps[d]? = some (.bool bb):=by
     generalize hu:a.tmps.getD d undef=u at hv
     cases hv
     cases hh:a.tmps[d]? with
     | none=>simp [hh,undef] at hu
     | some z=>simp [hh] at hu; rw [hu]
    simp only [Option.some.injEq] at hb
    simp only [yielded,hjd,Option.bind_some,ht]
    rw [← hb]
    cases bb <;> cases wt <;> rfl
   ·rename_i hbb
    have hv:=he.at_ d
    rw [hbb] at hv
    simp only [Option.some.injEq] at hb
    subst hb
    generalize hu:a.tmps.getD d undef=u at hv
    cases hv with
    | tuple hl _=>
      have hvs:=List.length_eq_zero_iff.1 hl.symm
      subst hvs
      have:yielded ops a.tmps j=none:=by
       simp only [yielded,hjd,Option.bind_some]
       cases hh:a.tmps[d]? with
       | none=>rfl
       | some z=>simp [hh] at hu; rw [hu]
      rw [this]; rfl
   ·simp at hb
theorem zkx {a b:Nat} (h:a≤b) {w w':World} (hb:Below b w w'):Below a w w':=⟨hb.os,hb.tape,hb.output,hb.size,fun k hk=>hb.block k (by omega)⟩
theorem WR.behind {ψ:Frz} (hw:WR CR W φ μ H w) {w1:World} (hb:Below w.heap.size w w1) (hψ:∀ k b,b < w.heap.size→ψ k b=φ k b) (hψ':∀ k b o,w.heap.size≤b→ψ k b=some o→w1.heap[b]? = some o) (hs:∀ b o,w.heap.size≤b→ψ false b=some o→ψ true b=some o) :
 WR CR W ψ μ H w1∧FExt φ ψ:=by
 have hlt:∀ k b o,φ k b=some o→b < w.heap.size:=fun k b o h=>(Array.getElem?_eq_some_iff.1 (hw.frz k b o h)).1
 have hext:FExt φ ψ:=fun k b o h=>by rw [hψ k b (hlt k b o h)]; exact h
 have hWs:=hw.below.size
 refine ⟨⟨hw.below.trans (zkx hWs hb),fun k b h=>by rw [hψ k b (by omega)]; exact hw.base k b h,fun k b o h=>?_,fun b o h=>?_,hw.len,hw.gen,fun id B l h1 h2 h3=>?_,fun id B l h1 h2=>?_,hw.apart⟩,hext⟩
 ·by_cases hlt':b < w.heap.size
  ·rw [hψ k b hlt'] at h; rw [hb.block b hlt']; exact hw.frz k b o h
  ·exact hψ' k b o (by omega) h
 ·by_cases hlt':b < w.heap.size
  ·rw [hψ _ b hlt'] at h ⊢; exact hw.sub b o h
  ·exact hs b o (by omega) h
 ·have:=hw.own id B l h1 h2 h3
  exact ⟨this.1,by have:=hb.size; omega,fun k=>by rw [hψ _ _ this.2.1]; exact this.2.2 k⟩
 ·by_cases hv:B.live=true
  ·exact (hw.blk id B l h1 h2).mono hext (MExt.refl μ) (hb.block _ (hw.own id B l h1 h2 hv).2.1)
  ·have:=hw.blk id B l h1 h2
   cases this <;> first | exact .dead _ | (simp [Blk.live] at hv; done)
theorem WR.start (hf:∀ k b o,φ k b=some o→w.heap[b]? = some o) (hs:∀ b o,φ false b=some o→φ true b=some o):WR CR { w with φ0:=φ } φ [] [] w:=
 ⟨Below.refl _ _,fun _ _ _=>rfl,hf,hs,rfl,fun id B l h=>by simp at h,fun id B l h=>by simp at h,fun id B l h=>by simp at h,fun i j Bi Bj li lj _ h=>by simp at h⟩
theorem z8g {op:Op} {f:AOperand} {args:List AOperand} (hc:z53 P op=some (.call f args)):∃ c g,op=.call c∧c.callee=.value g∧z7 g=some f∧z32 c.args.toList=some args:=by
 unfold z53 at hc
 split at hc
 case h_29 c=>
  split at hc
  ·rename_i g hcal
   split at hc
   ·rename_i g' as h1 h2
    simp at hc
    obtain ⟨rfl,rfl⟩:=hc
    exact ⟨c,g,rfl,hcal,h1,h2⟩
   ·simp at hc
  all_goals (exfalso; revert hc; (repeat' split) <;> simp)
 all_goals (exfalso; revert hc; (repeat' split) <;> simp)
theorem zx9 {name:String} {t:TypeId} {f:FuncId}:∀ {l:List TypeId},((l.filterMap fun t=>(zef P name t).map fun f=>(t,f)).lookup t=some f)→zef P name t=some f
 | [],h=>by simp at h
 | u::l,h=>by
   simp only [List.filterMap_cons] at h
   cases hm:zef P name u with
   | none=>rw [hm] at h; exact zx9 h
   | some g=>
     rw [hm] at h
     simp only [Option.map_some,List.lookup_cons] at h
     split at h
     ·rename_i e
      simp only [beq_iff_eq] at e
      subst e
      simp only [Option.some.injEq] at h; subst h; exact hm
     ·exact zx9 h
theorem zlx {name:String} {t:TypeId} {f:FuncId} (h:zef P name t=some f) (v:Value) (fuel:Nat) (w:World):(method (fuel + 1) t v name).run P w=.ok (f,v) w:=by
 unfold zef at h
 split at h
 ·rename_i e i h1 h2
  split at h
  ·rename_i m h3
   split at h
   ·rename_i h4
    split at h
    ·rename_i f' h5
     simp only [Option.some.injEq] at h; subst h
     have h6:m.path.toList=[]:=by simpa using h4
     simp [method,typeInfo,h2,h3,h6,follow,h5,receiverAt,run_underlying h1,Place.get]
    ·simp at h
   ·simp at h
  ·simp at h
 ·simp at h
theorem z8q {op:Op} {ms:List (TypeId×FuncId)} {x:AOperand} {args:List AOperand} (hc:z53 P op=some (.invoke ms x args)):∃ c y name,op=.call c∧c.callee=.invoke y name∧z7 y=some x∧z32 c.args.toList=some args∧ms=zyk P name:=by
 unfold z53 at hc
 split at hc
 case h_29 c=>
  split at hc
  case h_6 y name hcal=>
   split at hc
   ·rename_i g' as h1 h2
    simp at hc
    obtain ⟨rfl,rfl,rfl⟩:=hc
    exact ⟨c,y,name,rfl,hcal,h1,h2,rfl⟩
   ·simp at hc
  all_goals (exfalso; revert hc; (repeat' split) <;> simp)
 all_goals (exfalso; revert hc; (repeat' split) <;> simp)
theorem zmx {c:Call} {y:Operand} {name:String} (hcal:c.callee=.invoke y name) {t:TypeId} {v:Value} {f:FuncId} (hy:a.eval y=.iface t v) (hf:(zyk P name).lookup t=some f) {oc:Oper} (ho:oc.op=.call c) :
 (execOp a.eval oc).run P w=(do let d ← Deferred.ofValue (.func (.func f) #[] #[]) (#[v]++c.args.map a.eval); invoke d.target d.args:Sem Next).run P w:=by
 have hm:=zlx (P:=P) (zx9 hf) v (P.types.size + Made.depth - 1) w
 have hd:1≤Made.depth:=by decide
 have e:P.types.size + Made.depth - 1 + 1=P.types.size + Made.depth:=by omega
 rw [e] at hm
 have e1:(#[Value.iface t v]++c.args.map a.eval)[0]? = some (Value.iface t v):=by rw [Array.getElem?_append_left (by simp)]; rfl
 have e2:(#[Value.iface t v]++c.args.map a.eval).extract 1 (#[Value.iface t v]++c.args.map a.eval).size=c.args.map a.eval:=by
  apply Array.ext'; simp
  exact List.take_of_length_le (by simp)
 have hp:(Go.program:Sem Program).run P w=.ok P w:=rfl
 simp only [execOp,ho,resolve,hcal,hy,Deferred.ofValue,Sem.run_bind,Sem.run_pure,Result.andThen_ok,invoke,e1,e2,callMethod]
 simp [hp,hm]
theorem Goes.mono {fv:AV} {R R':Value→World→Prop} {res:Result Next} (h:Goes P fv R res) (hR:∀ v w',R v w'→R' v w'):Goes P fv R' res:=by
 cases res with
 | halt x w'=>exact h.elim
 | ok nx w'=>
   cases nx <;> simp only [Goes] at h ⊢ <;> (try exact h.elim)
   case enter f' args'=>exact ⟨h.1,fun n=>CallsIn.mono (h.2 n) (by rintro en w'' ⟨u,rfl,h1⟩; exact ⟨u,rfl,hR _ _ h1⟩)⟩
   case round l f' tmps' a' b'=>exact ⟨h.1,fun n=>RoundIn.mono (h.2 n) (by rintro en w'' ⟨u,rfl,h1⟩; exact ⟨u,rfl,hR _ _ h1⟩)⟩
theorem znx (hcall:z7a CR P call) {fv r:AV} {args:List AV} (hr:call fv args []=some (r,[])) (hp:(fv.plain && AV.plains args)=true) (hpr:r.plain=true) {u:Value} {us:Array Value} (hw:WR CR W φ μ H w) (hu:VR φ μ fv u) (hv:VRs φ μ args us.toList) :
 Goes P fv (fun v w'=>∃ φ',FExt φ φ'∧WR CR W φ' μ H w'∧VR φ' μ r v) ((do let d ← Deferred.ofValue u us; invoke d.target d.args:Sem Next).run P w):=by
 simp only [Bool.and_eq_true] at hp
 have hv0:VRs φ [] args us.toList:=⟨hv.1,fun i x v g1 g2=>(hv.2 i x v g1 g2).plainly (zb5 hp.2 g1)⟩
 refine (hcall fv args [] r [] hr { w with φ0:=φ } φ [] w u us (WR.start hw.frz hw.sub) (hu.plainly hp.1) hv0).mono ?_
 rintro v w' ⟨φ',μ',e1,e2,hw',hv'⟩
 have hb:Below w.heap.size w w':=hw'.below
 obtain ⟨g1,g2⟩:=hw.behind (ψ:=fun k b=>if b < w.heap.size then φ k b else w'.heap[b]?) hb (fun k b hlt=>by simp [hlt]) (fun k b o hle hb=>by
  rw [if_neg (by omega)] at hb; exact hb) (fun b o hle hb=>by
  rw [if_neg (by omega)] at hb ⊢; exact hb)
 refine ⟨_,g2,g1,(VR.mono (fun k b o h=>?_) (MExt.refl μ') hv').plainly hpr⟩
 split
 ·rename_i hlt; rw [hw'.base k b hlt] at h; exact h
 ·exact hw'.frz k b o h
theorem VR.func0 (f:FuncId):VR φ μ (.func f [] []) (.func (.func f) #[] #[]):=.func (va:=[]) (vb:=[]) rfl rfl (fun i x v h=>by simp at h) (fun i x v h=>by simp at h)
theorem z9h {oc:Oper} {e:Nat→AV} {ms:List (TypeId×FuncId)} {x:AOperand} {args:List AOperand} {t:TypeId} {x0:AV} {f:FuncId} (he:EnvR φ μ e a) (hc:z53 P oc.op=some (.invoke ms x args)) (hx0:zk e x=.iface t x0) (hlk:ms.lookup t=some f) :
 ∃ (u:Value) (us:Array Value),VR φ μ (.func f [] []) u∧VRs φ μ (x0::args.map (zk e)) us.toList ∧
   (execOp a.eval oc).run P w=(do let d ← Deferred.ofValue u us; invoke d.target d.args:Sem Next).run P w:=by
 obtain ⟨c,y,name,hoc,hcal,hg1,hg2,rfl⟩:=z8q hc
 have hvf:=za he hg1
 have hva:=z14 he hg2
 rw [hx0] at hvf
 generalize hu:a.eval y=u at hvf
 cases hvf with
 | iface _ hvx=>
   refine ⟨_,_,VR.func0 f,?_,zmx hcal hu hlk hoc⟩
   have h:=VRs.cons hvx hva
   simp only [Array.toList_append,Array.toList_map,List.cons_append,List.nil_append]
   exact h
theorem zrz {oc:Oper} {e:Nat→AV} {op:AOp} {slot:Option Nat} {v0:AV} {H0:Heap} (he:EnvR φ μ e a) (hc:z53 P oc.op=some op) (hr:zd call slot H (actOf (zk e) op)=some (v0,H0)) :
 (∃ (fv:AV) (args:List AV) (u:Value) (us:Array Value),call fv args H=some (v0,H0)∧VR φ μ fv u∧VRs φ μ args us.toList ∧
  (execOp a.eval oc).run P w=(do let d ← Deferred.ofValue u us; invoke d.target d.args:Sem Next).run P w)∨((∀ f args,op≠.call f args)∧∀ ms x args,op≠.invoke ms x args):=by
 by_cases hcl:∃ f args,op=.call f args
 ·obtain ⟨f,args,rfl⟩:=hcl
  simp only [actOf,zd] at hr
  obtain ⟨c,g,hoc,hcal,hg1,hg2⟩:=z8g hc
  have hvf:=za he hg1
  have hva:=z14 he hg2
  exact .inl ⟨_,_,a.eval g,c.args.map a.eval,hr,hvf,by simpa using hva,by simp only [execOp,hoc,resolve,hcal]⟩
 by_cases hiv:∃ ms x args,op=.invoke ms x args
 ·obtain ⟨ms,x,args,rfl⟩:=hiv
  simp only [actOf] at hr
  split at hr
  ·rename_i t x0 hx0
   split at hr
   ·rename_i f hlk
    simp only [zd] at hr
    obtain ⟨u,us,h1,h2,h3⟩:=z9h (w:=w) he hc hx0 hlk
    exact .inl ⟨_,_,u,us,hr,h1,h2,h3⟩
   ·simp [zd] at hr
  ·simp [zd] at hr
 exact .inr ⟨fun f args h=>hcl ⟨f,args,h⟩,fun ms x args h=>hiv ⟨ms,x,args,h⟩⟩
theorem zsz (hcall:z7a CR P call) {i:Nat} {oc:Oper} (hi:ops[i]? = some oc) {slot:Option Nat} {e e':Nat→AV} {v:AV} (hst:stepE call slot (zm P kept ops oc) e H=some (e',H',v))
 (he:EnvR φ μ e a) (hw:WR CR W φ μ H w) (hsz:∀ d,oc.dst=some d→d < a.tmps.size) {K:Act→World→Prop}
 (hK:∀ a' w' φ' μ',FExt φ φ'→MExt μ μ'→EnvR φ' μ' e' a'→WR CR W φ' μ' H' w'→a'.tmps.size=a.tmps.size→a'.defers=a.defers→K a' w') :
 wpOpIn (Fk ro) n P ops Q i K a w:=by
 unfold wpOpIn
 rw [hi]
 simp only
 have hputs:∀ (d:Option Nat) (u:Value),(a.put d u).tmps.size=a.tmps.size∧(a.put d u).defers=a.defers:=fun d u=>by cases d <;> simp [Act.put]
 have hwant:∀ b,z88 e (zm P kept ops oc)=some b→(zm P kept ops oc).dst=oc.dst→(match oc.guard with
  | none=>(zm P kept ops oc).guard=none
  | some (j,wt)=>∃ d,(ops[j]?).bind (·.dst)=some d∧(zm P kept ops oc).guard=some (d,wt))→Region.wanted oc (yielded ops a.tmps)=b:=by
  intro b hb hd hg
  exact z7g he hb hg
 by_cases hbad:(zm P kept ops oc).op=.bad
 ·rcases z7q hst with h | h
  ·exact absurd hbad h
  ·-- skipped,whatever it is
   unfold stepE at hst
   rw [h] at hst
   simp only [Option.some.injEq,Prod.mk.injEq] at hst
   obtain ⟨rfl,rfl,rfl⟩:=hst
   have hfacts:(zm P kept ops oc).dst=oc.dst∧(match oc.guard with
    | none=>(zm P kept ops oc).guard=none
    | some (j,wt)=>∃ d,(ops[j]?).bind (·.dst)=some d∧(zm P kept ops oc).guard=some (d,wt)):=by
    unfold z88 at h
    unfold zm at h ⊢
    cases hg:oc.guard with
    | none=>simp [hg] at h
    | some p=>
      obtain ⟨j,wt⟩:=p
      simp only [hg] at h ⊢
      cases hd:(ops[j]?).bind (·.dst) with
      | none=>simp [hd] at h
      | some d=>exact ⟨rfl,d,rfl,by simp⟩
   rw [hwant false h hfacts.1 hfacts.2]
   simp only [Bool.false_eq_true,if_false]
   refine ⟨fun _ _=>trivial,?_⟩
   rw [hfacts.1] at hK
   exact hK _ _ φ μ (FExt.refl φ) (MExt.refl μ) (he.put VR.skip hsz) hw (hputs _ _).1 (hputs _ _).2
 ·obtain ⟨ao,hc0,hop,hd,hg⟩:=z2b kept ops oc hbad
  unfold stepE at hst
  cases hwe:z88 e (zm P kept ops oc) with
  | none=>rw [hwe] at hst; simp at hst
  | some b=>
    rw [hwe] at hst
    rw [hwant b hwe hd hg]
    cases b with
    | false=>
      simp only [Option.some.injEq,Prod.mk.injEq] at hst
      obtain ⟨rfl,rfl,rfl⟩:=hst
      simp only [Bool.false_eq_true,if_false]
      refine ⟨fun _ _=>trivial,?_⟩
      rw [hd] at hK
      exact hK _ _ φ μ (FExt.refl φ) (MExt.refl μ) (he.put VR.skip hsz) hw (hputs _ _).1 (hputs _ _).2
    | true=>
      simp only at hst
      simp only [if_true]
      split at hst
      ·rename_i v0 H0 hr
       simp only [Option.some.injEq,Prod.mk.injEq] at hst
       obtain ⟨rfl,rfl,rfl⟩:=hst
       rw [hd] at hK
       refine ⟨fun _ _=>trivial,?_⟩
       rw [Oper.semAt_eq _ _ _ (z5l hc0)]
       by_cases hpc:∃ f xs,ao=.call f xs∧(zm P kept ops oc).op=.pcall f xs
       ·obtain ⟨f,args,rfl,hf⟩:=hpc
        rw [hf] at hr
        simp only [actOf,zd] at hr
        split at hr
        ·rename_i v1 hv1
         split at hv1
         ·rename_i hpl
          split at hr
          ·rename_i hpv
           simp only [Option.some.injEq,Prod.mk.injEq] at hr
           obtain ⟨rfl,rfl⟩:=hr
           obtain ⟨c,g,hoc,hcal,hg1,hg2⟩:=z8g hc0
           have hvf:=za he hg1
           have hva:=z14 he hg2
           have hgo:=znx hcall hv1 hpl hpv (us:=c.args.map a.eval) hw hvf (by simpa using hva)
           have hex:execOp a.eval oc=(do let d ← Deferred.ofValue (a.eval g) (c.args.map a.eval); invoke d.target d.args:Sem Next):=by
            simp only [execOp,hoc,resolve,hcal]
           rw [hex]
           generalize (do let d ← Deferred.ofValue (a.eval g) (c.args.map a.eval); invoke d.target d.args:Sem Next).run P w=res at hgo
           cases res with
           | halt x w'=>exact hgo.elim
           | ok nx w'=>
             cases nx <;> simp only [Goes] at hgo <;> (try exact hgo.elim)
             case enter f' args'=>
              refine ⟨fun h=>by simp [Fence.wide] at h,?_⟩
              refine CallsIn.mono (hgo.2 (n - 1)) ?_
              rintro en w'' ⟨u,rfl,φ',h1,h3,h4⟩
              exact hK _ _ φ' μ h1 (MExt.refl μ) ((he.mono h1 (MExt.refl μ)).put h4 hsz) h3 (hputs _ _).1 (hputs _ _).2
             case round l f' tmps' a' b'=>
              refine ⟨fun h=>by simp [Fence.wide] at h,?_⟩
              refine RoundIn.mono (hgo.2 (n - 1)) ?_
              rintro en w'' ⟨u,rfl,φ',h1,h3,h4⟩
              exact hK _ _ φ' μ h1 (MExt.refl μ) ((he.mono h1 (MExt.refl μ)).put h4 hsz) h3 (hputs _ _).1 (hputs _ _).2
          ·simp at hr
         ·simp at hv1
        ·simp at hr
       have hc:z53 P oc.op=some (zm P kept ops oc).op:=by
        rcases hop with h | h
        ·rw [h]; exact hc0
        ·exact absurd h hpc
       have key:=zrz (w:=w) (slot:=slot) he hc hr
       rcases key with ⟨fv,args,u,us,hr,hvf,hva,hex⟩ | ⟨hcl,hiv⟩
       ·have hgo:=hcall _ _ _ _ _ hr W φ μ w u us hw hvf hva
        rw [hex]
        generalize (do let d ← Deferred.ofValue u us; invoke d.target d.args:Sem Next).run P w=res at hgo
        cases res with
        | halt x w'=>exact hgo.elim
        | ok nx w'=>
          cases nx <;> simp only [Goes] at hgo <;> (try exact hgo.elim)
          case enter f' args'=>
           refine ⟨fun h=>by simp [Fence.wide] at h,?_⟩
           refine CallsIn.mono (hgo.2 (n - 1)) ?_
           rintro en w'' ⟨u,rfl,φ',μ',h1,h2,h3,h4⟩
           exact hK _ _ φ' μ' h1 h2 ((he.mono h1 h2).put h4 hsz) h3 (hputs _ _).1 (hputs _ _).2
          case round l f' tmps' a' b'=>
           refine ⟨fun h=>by simp [Fence.wide] at h,?_⟩
           refine RoundIn.mono (hgo.2 (n - 1)) ?_
           rintro en w'' ⟨u,rfl,φ',μ',h1,h2,h3,h4⟩
           exact hK _ _ φ' μ' h1 h2 ((he.mono h1 h2).put h4 hsz) h3 (hputs _ _).1 (hputs _ _).2
       ·obtain ⟨u,w',μ',hrun,hw',hm,hv⟩:=zn61 hc he hw hcl hiv hr
        rcases hrun with hrun | ⟨rfl,hrun⟩
        ·rw [hrun]
         exact hK _ _ φ μ' (FExt.refl φ) hm ((he.mono (FExt.refl φ) hm).put hv hsz) hw' (hputs _ _).1 (hputs _ _).2
        ·rw [hrun]
         exact hK _ _ φ μ' (FExt.refl φ) hm ((he.mono (FExt.refl φ) hm).put hv hsz) hw' (hputs _ _).1 (hputs _ _).2
      ·simp at hst
end Go.Abs
