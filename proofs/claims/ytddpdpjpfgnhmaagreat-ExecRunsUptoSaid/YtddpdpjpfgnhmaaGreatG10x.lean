/- Abs 21: regions, in the order of the text and in any order. -/
import Derived.Test.YtddpdpjpfgnhmaaGreatG9x
set_option linter.unusedSimpArgs false
set_option linter.unusedVariables false
set_option maxHeartbeats 4000000
namespace Go.Abs
open Go.RowKit
variable {CR:CRel} {P:Program} {W:BaseW} {w:World} {φ:Frz} {μ:List Loc} {H H':Heap} {a:Act} {call:CallF} {callN:zi5} {kept:Nat→Bool} {ops:Array Oper} {Q:Exit→Act→World→Prop} {ro:Option Nat} {n nt:Nat}
inductive RunG (call:CallF) (P:Program) (kept:Nat→Bool) (ops:Array Oper):List Nat→(Nat→AV)→Heap→(Nat→AV)→Heap→Prop
 | nil (e:Nat→AV) (H:Heap):RunG call P kept ops [] e H e H
 | cons {i:Nat} {L:List Nat} {e e1 e':Nat→AV} {H H1 H':Heap} {v:AV} {oc:Oper} {slot:Option Nat} (hi:ops[i]? = some oc)
  (h:stepE call slot (zm P kept ops oc) e H=some (e1,H1,v)) (r:RunG call P kept ops L e1 H1 e' H'):RunG call P kept ops (i::L) e H e' H'
theorem zu31 (hcall:z7a CR P call) (hsm:(za2 P kept ops).all (zj2 nt)=true):∀ {L:List Nat} {e e':Nat→AV} {H H':Heap},RunG call P kept ops L e H e' H' →
 ∀ {φ:Frz} {μ:List Loc} {a:Act} {w:World},EnvR φ μ e a→WR CR W φ μ H w→a.tmps.size=nt →
 (∀ a' w' φ' μ',FExt φ φ'→MExt μ μ'→EnvR φ' μ' e' a'→WR CR W φ' μ' H' w'→a'.tmps.size=a.tmps.size→a'.defers=a.defers→Q .normal a' w') →
 wpOpsIn (Fk ro) n P ops Q L a w:=by
 intro L e e' H H' h
 induction h with
 | nil e H=>intro φ μ a w he hw hn hQ; exact hQ a w φ μ (FExt.refl φ) (MExt.refl μ) he hw rfl rfl
 | @cons i L e e1 e' H H1 H' v oc slot hi hst hr ih=>
   intro φ μ a w he hw hn hQ
   rw [wpOpsIn_cons]
   have hsz:∀ d,oc.dst=some d→d < a.tmps.size:=by
    intro d hd
    have hm:zm P kept ops oc∈za2 P kept ops:=by
     unfold za2
     exact List.mem_map.2 ⟨oc,by simpa using Array.mem_of_getElem? hi,rfl⟩
    have:=List.all_eq_true.1 hsm _ hm
    have hdst:(zm P kept ops oc).dst=oc.dst:=by
     unfold zm
     cases oc.guard with
     | none=>rfl
     | some p=>simp only; cases (ops[p.1]?).bind (·.dst) <;> rfl
    simp only [zj2,hdst,hd,Bool.and_eq_true,decide_eq_true_eq] at this
    rw [hn]; exact this.1
   refine zsz hcall hi hst he hw hsz (fun a' w' φ' μ' h1 h2 h3 h4 h5 h6=>?_)
   exact ih h3 h4 (by omega) (fun a'' w'' φ'' μ'' g1 g2 g3 g4 g5 g6=>hQ a'' w'' φ'' μ'' (h1.trans g1) (h2.trans g2) g3 g4 (by omega) (by rw [g6,h6]))
theorem z9d (P:Program) (kept:Nat→Bool) (ops:Array Oper) (o:Oper):(zm P kept ops o).keep=((zm P kept ops o).dst.map kept).getD true:=by
 unfold zm
 cases o.guard with
 | none=>rfl
 | some p=>simp only; cases (ops[p.1]?).bind (·.dst) <;> rfl
def TInv (kept:Nat→Bool) (T:Tm):Prop:=∀ t,kept t=false→T.get t=.undef
theorem zkb {s:RSt} {o:AOper} {v:AV} {H:Heap} (hk:o.keep=(o.dst.map kept).getD true) (hs:zj2 nt o=true) (h:TInv kept s.tm):TInv kept (s.put o v H).tm:=by
 unfold RSt.put
 cases hd:o.dst with
 | none=>exact h
 | some d=>
   rw [hd] at hk
   simp only [Option.map_some,Option.getD_some] at hk
   simp only [zj2,hd,Bool.and_eq_true,decide_eq_true_eq] at hs
   simp only
   split
   ·rename_i hkk
    intro t ht
    simp only
    rw [Tm.get_put t (by omega)]
    have:t≠d:=fun e=>by subst e; rw [ht] at hk; rw [hk] at hkk; simp at hkk
    rw [if_neg this]; exact h t ht
   ·exact h
theorem zal {s:RSt} (hi:RInv kept s) (ht:TInv kept s.tm) (h:EnvR φ μ (look s.loc s.tm) a):EnvR φ μ s.tm.get a:=by
 refine ⟨fun t=>?_⟩
 cases hk:kept t with
 | false=>rw [ht t hk]; exact .undef _
 | true=>
   have:=h.at_ t
   rw [zix (fun p hp e=>by have:=hi p hp; rw [e,hk] at this; simp at this)] at this
   exact this
theorem WR.frozenM (hw:WR CR W φ μ H w) (c:Array Value) (t:TypeId) (m:Nat×Nat) (d:Nat) :
 ∃ ψ,FExt φ ψ∧WR CR W ψ μ H { w with heap:=w.heap.push (.cells c t m),drawn:=d }∧∀ o,fcell ψ false w.heap.size o=c[o]? := by
 have hb:Below w.heap.size w { w with heap:=w.heap.push (.cells c t m),drawn:=d }:=⟨rfl,rfl,rfl,by simp,fun k hk=>by simp [Array.getElem?_push,Nat.ne_of_lt hk]⟩
 refine ⟨fun k b=>if b=w.heap.size then some (.cells c t m) else φ k b,?_,?_,fun o=>by simp [fcell]⟩
 ·intro k b o h
  have:=(Array.getElem?_eq_some_iff.1 (hw.frz k b o h)).1
  simp only
  rw [if_neg (by omega)]; exact h
 ·refine (hw.behind hb (fun k b hlt=>?_) (fun k b o hle h=>?_) (fun b o hle h=>?_)).1
  ·rw [if_neg (by omega)]
  ·split at h
   ·rename_i e; subst e; simp only [Option.some.injEq] at h; subst h; simp
   ·have:=(Array.getElem?_eq_some_iff.1 (hw.frz k b o h)).1; omega
  ·split at h
   ·rename_i e; rw [if_pos e]; exact h
   ·have:=(Array.getElem?_eq_some_iff.1 (hw.frz false b o h)).1; omega
theorem WR.frozen (hw:WR CR W φ μ H w) (c:Array Value) (t:TypeId) :
 ∃ ψ,FExt φ ψ∧WR CR W ψ μ H { w with heap:=w.heap.push (.cells c t) }∧∀ o,fcell ψ false w.heap.size o=c[o]? := hw.frozenM c t (0,0) w.drawn
theorem z9g {α:Type} (a:Array α) (x:α) (f:α→α):(a.push x).modify a.size f=a.push (f x):=by
 apply Array.ext_getElem?
 intro i
 rw [Array.getElem?_modify,Array.getElem?_push,Array.getElem?_push]
 by_cases h:i=a.size
 ·subst h; simp
 ·rw [if_neg h,if_neg h,if_neg (Ne.symm h)]
theorem zti (e:TypeId) (s:ByteArray) (w:World):∃ (c:Array Value) (m:Nat×Nat) (n:Nat),(Conv.stringToBytes e s).run P w=.ok (.slice (some ⟨w.heap.size,0,none⟩) s.size n) { w with heap:=w.heap.push (.cells c e m),drawn:=w.drawn + 1 }∧s.size≤n ∧
 ∀ (i:Nat) (b:UInt8),s.data[i]? = some b→c[i]? = some (.int .u8 b.toNat):=by
 let n:=(Question.appendCap s.size 0 e).cut (w.tape w.drawn (.appendCap s.size 0 e))
 let c:Array Value:=(s.data.map fun b=>(.int .u8 b.toNat:Value))++Array.replicate (n - s.size) (.int .u8 0)
 refine ⟨c,(c.size,c.size + 1),n,?_,zae w s.size 0 e,fun i b hb=>?_⟩
 ·simp [Conv.stringToBytes,newRow,Question.forced,markStringish,Go.shape,Go.freeze,Sem.run,World.shape?,c,n]
  simp [-World.alloc_eq,-World.drew_eq,World.alloc,World.drew,Sem.run,World.freeze,z9g]
 ·have hlt:=(Array.getElem?_eq_some_iff.1 hb).1
  simp only [c]
  rw [Array.getElem?_append_left (by simpa using hlt)]
  simp [hb]
theorem za8 {i:Nat} {oc:Oper} (hi:ops[i]? = some oc) (this:Region.wanted oc (yielded ops a.tmps)=true) (hnd:∀ c,oc.op≠.defer c) {u:Value} {w':World}
 (hrun:(execOp a.eval oc).run P w=.ok (.value u) w'∨(u=undef∧(execOp a.eval oc).run P w=.ok .skip w')) {K:Act→World→Prop} (hK:K (a.put oc.dst u) w') :
 wpOpIn (Fk ro) n P ops Q i K a w:=by
 unfold wpOpIn
 rw [hi]
 simp only [this,if_true]
 refine ⟨fun _ _=>trivial,?_⟩
 rw [Oper.semAt_eq _ _ _ hnd]
 rcases hrun with hrun | ⟨rfl,hrun⟩ <;> (rw [hrun]; exact hK)
theorem VR.fptrOf {ψ:Frz} {x:AV} {v:Value} {n b:Nat} (hx:VR ψ μ x v) (hr:x.rowok n=true) (hc:∀ o,fcell ψ false b o=v.cells[o]?) :
 VR ψ μ (.fptr false x.cells 0) (.pointer (some ⟨b,0,none⟩)):=by
 have hcs:=hx.cells (by rw [z01 hr]; exact hr)
 have hk:x.cells.all AV.isCell=true:=by unfold AV.rowok at hr; simp only [Bool.and_eq_true] at hr; exact hr.2
 refine .fptr (o:=0) (fun i=>v.cells.getD i Go.undef) hk (fun i y h=>?_) (fun i y h=>?_)
 ·have hlt:=(List.getElem?_eq_some_iff.1 h).1
  have hlt':i < v.cells.size:=by rw [← Array.length_toList,← hcs.1]; exact hlt
  rw [hc,Nat.zero_add]; simp [hlt']
 ·have hlt:=(List.getElem?_eq_some_iff.1 h).1
  have hlt':i < v.cells.size:=by rw [← Array.length_toList,← hcs.1]; exact hlt
  have:=hcs.2 i y (v.cells[i]) h (by simp [hlt'])
  simpa [hlt'] using this
theorem zyr {op:Op} {z:AV} (h:z53 P op=some (.alloc z)):∃ t,op=.alloc t∧ze9 P t=some z:=by
 unfold z53 at h
 split at h
 case h_4 t=>
  split at h
  ·rename_i z' hz; simp only [Option.some.injEq,AOp.alloc.injEq] at h; subst h; exact ⟨t,rfl,hz⟩
  ·simp at h
 all_goals (exfalso; revert h; (repeat' split) <;> simp)
theorem zqx {op:Op} {m:Nat} {y:AOperand} (h:z53 P op=some (.box m y)):∃ t x g,op=.box t x∧z68 P t=some (g,m)∧z7 x=some y:=by
 unfold z53 at h
 split at h
 case h_5 t x=>
  split at h
  ·rename_i g m' y' h1 h2
   split at h
   ·simp only [Option.some.injEq,AOp.box.injEq] at h; obtain ⟨rfl,rfl⟩:=h; exact ⟨t,x,g,rfl,h1,h2⟩
   ·simp at h
  ·simp at h
 all_goals (exfalso; revert h; (repeat' split) <;> simp)
theorem zui {op:Op} {z:AV} {len:Nat} {ps:List (Nat×AOperand)} (h:z53 P op=some (.buildSlice z len ps)):∃ t parts e,op=.buildSlice t len parts∧P.underlying t=some (.slice e)∧ze9 P e=some z ∧
 zdc (fun (p:Nat×Operand)=>match z7 p.2 with | some x=>some (p.1,x) | none=>none) parts.toList=some ps∧len * z.cells.length≤2 ^ 24:=by
 unfold z53 at h
 split at h
 case h_7 t len1 parts=>
  split at h
  ·rename_i e ht
   split at h
   ·rename_i z' ps' hz hps
    split at h
    ·rename_i hlen
     simp only [Option.some.injEq,AOp.buildSlice.injEq] at h
     obtain ⟨rfl,rfl,rfl⟩:=h
     exact ⟨t,parts,e,rfl,ht,hz,hps,hlen⟩
    ·simp at h
   ·simp at h
  ·simp at h
 all_goals (exfalso; revert h; (repeat' split) <;> simp)
theorem zsn {op:Op} {y:AOperand} (h:z53 P op=some (.toBytes y)):∃ src dst x e,op=.convert src dst x∧P.underlying src=some .string∧P.underlying dst=some (.slice e)∧z9o P e=true∧z7 x=some y:=by
 unfold z53 at h
 split at h
 case h_13 src dst x=>
  split at h
  case h_5 h1 h2 h3=>
   split at h
   ·rename_i hb
    simp only [Option.some.injEq,AOp.toBytes.injEq] at h; subst h
    exact ⟨src,dst,x,_,rfl,h1,h2,hb,h3⟩
   ·simp at h
  all_goals (exfalso; revert h; (repeat' split) <;> simp)
 all_goals (exfalso; revert h; (repeat' split) <;> simp)
theorem zhu {op:Op} {y:AOperand} (h:z53 P op=some (.move y)):∃ x,(op=.move x∨op=.assign x)∧z7 x=some y:=by
 unfold z53 at h
 split at h
 case h_1 x=>
  split at h
  ·rename_i y' hy; simp only [Option.some.injEq,AOp.move.injEq] at h; subst h; exact ⟨x, .inl rfl,hy⟩
  ·simp at h
 case h_2 x=>
  split at h
  ·rename_i y' hy; simp only [Option.some.injEq,AOp.move.injEq] at h; subst h; exact ⟨x, .inr rfl,hy⟩
  ·simp at h
 all_goals (exfalso; revert h; (repeat' split) <;> simp)
open Classical in
/-- A block that is never written again from here on. -/
theorem zv31 {id gen off len:Nat} {B:Blk} {rows:List AV} (hB:H[id]? = some B) (hr:zw3 gen off len B=some rows) (hpl:AV.plains rows=true) (hw:WR CR W φ μ H w) {v:Value} (hv:VR φ μ (.sl id gen off len) v) :
 ∃ ψ,FExt φ ψ∧WR CR W ψ μ (H.set id (.dead gen)) w∧VR ψ μ (.fsl false rows) v:=by
 unfold zw3 at hr
 split at hr
 ·rename_i g sz R
  split at hr
  ·rename_i hcond
   obtain ⟨rfl,hle⟩:=hcond
   simp only [Option.some.injEq] at hr
   cases hv with
   | sl hl hgl hlc ha=>
     rename_i cap l a
     have eg:g=l.gen:=hw.gen id _ l hB hl
     obtain ⟨ha1,ha2⟩:=ha eg.symm
     obtain ⟨o1,o2,o3⟩:=hw.own id _ l hB hl rfl
     have hfe:FExt φ (fun k b=>if b=l.b then w.heap[b]? else φ k b):=by
      intro k b o h
      simp only
      split
      ·exact hw.frz k b o h
      ·exact h
     have hset:∀ {i:Nat} {B':Blk},(H.set id (.dead g))[i]? = some B'→(i=id∧B'=.dead g)∨(i≠id∧H[i]? = some B'):=fun {i B'} h=>by
      rw [List.getElem?_set] at h
      split at h
      ·rename_i e; subst e
       split at h
       ·simp only [Option.some.injEq] at h; exact .inl ⟨rfl,h.symm⟩
       ·simp at h
      ·rename_i e; exact .inr ⟨fun x=>e x.symm,h⟩
     refine ⟨fun k b=>if b=l.b then w.heap[b]? else φ k b,hfe,⟨hw.below,fun k b hb=>?_,fun k b o h=>?_,fun b o h=>?_,by simp [hw.len],fun i B' l' h1 h2=>?_,fun i B' l' h1 h2 h3=>?_,fun i B' l' h1 h2=>?_,
      fun i j Bi Bj li lj hij h1 h2 h3 h4 h5 h6=>?_⟩,?_⟩
     ·rw [if_neg (by omega)]; exact hw.base k b hb
     ·split at h
      ·exact h
      ·exact hw.frz k b o h
     ·split at h
      ·rename_i hx; rw [if_pos hx]; exact h
      ·rename_i hx; rw [if_neg hx]; exact hw.sub b o h
     ·rcases hset h1 with ⟨rfl,rfl⟩ | ⟨_,h1⟩
      ·rw [hl] at h2; cases h2; exact eg
      ·exact hw.gen i B' l' h1 h2
     ·rcases hset h1 with ⟨rfl,rfl⟩ | ⟨hne,h1⟩
      ·simp [Blk.live] at h3
      ·obtain ⟨p1,p2,p3⟩:=hw.own i B' l' h1 h2 h3
       refine ⟨p1,p2,fun k=>?_⟩
       rw [if_neg (hw.apart i id B' _ l' l hne h1 hB h2 hl h3 rfl)]
       exact p3 k
     ·rcases hset h1 with ⟨rfl,rfl⟩ | ⟨hne,h1⟩
      ·exact .dead _
      ·exact (hw.blk i B' l' h1 h2).mono hfe (MExt.refl _) rfl
     ·rcases hset h1 with ⟨rfl,rfl⟩ | ⟨_,h1⟩
      ·simp [Blk.live] at h5
      ·rcases hset h2 with ⟨rfl,rfl⟩ | ⟨_,h2⟩
       ·simp [Blk.live] at h6
       ·exact hw.apart i j Bi Bj li lj hij h1 h2 h3 h4 h5 h6
     ·subst hr
      by_cases hc0:cap=0
      ·have:len=0:=by omega
       subst this; subst hc0
       rw [List.take_zero]
       exact .fslNil
      ·have:=ha1 hc0
       subst this
       cases hw.blk id _ l hB hl with
       | arr hs harr=>
         obtain ⟨c,t,hm,hsz,hcells⟩:=harr.mem
         have hrow:∀ (i:Nat) (r':AV),((R.drop off).take len)[i]? = some r'→R[off + i]? = some r'∧r'.rowok l.sz=true:=by
          intro i r' hr'
          rw [List.getElem?_take] at hr'
          split at hr'
          ·rw [List.getElem?_drop] at hr'
           exact ⟨hr',harr.ok r' (List.mem_of_getElem? hr')⟩
          ·simp at hr'
         refine .fsl (sz:=l.sz) (fun i j=>c.getD (l.o + (off + i) * l.sz + j) undef) (by simp; omega) (fun r' hr'=>?_) (fun i r' j y' h1 h2=>?_) (fun i r' j y' h1 h2=>?_) hlc
         ·obtain ⟨i,hi⟩:=List.mem_iff_getElem?.1 hr'
          exact (hrow i r' hi).2
         ·obtain ⟨g1,g2⟩:=hrow i r' h1
          obtain ⟨v',f2,f3⟩:=hcells _ r' j y' g1 h2
          unfold fcell
          simp only [if_true,hm]
          have:l.o + off * l.sz + i * l.sz + j=l.o + (off + i) * l.sz + j:=by rw [Nat.add_mul]; omega
          rw [this,f2]
          simp [f2]
         ·obtain ⟨g1,g2⟩:=hrow i r' h1
          obtain ⟨v',f3,f4⟩:=hcells _ r' j y' g1 h2
          have:c.getD (l.o + (off + i) * l.sz + j) undef=v':=by simp [f3]
          rw [this]
          exact f4.mono hfe (MExt.refl _)
  ·simp at hr
 ·simp at hr
theorem zbl {d:Nat} {oc:Oper} (hd:oc.dst=some d) {x:AOper} (hx:boxOf P kept ops oc=some x) :
 (zm P kept ops oc).op≠.bad∧x.dst=some d∧x.keep=kept d∧x.guard=(zm P kept ops oc).guard∧x.op.nd=false:=by
 have hk:=z9d P kept ops oc
 unfold boxOf at hx
 rw [hd] at hx
 simp only at hx
 split at hx
 ·cases hop:(zm P kept ops oc).op <;> rw [hop] at hx <;> simp only [Option.some.injEq] at hx <;> (try (simp at hx; done))
  all_goals
   have hne:(zm P kept ops oc).op≠.bad:=by rw [hop]; simp
   obtain ⟨_,_,_,h2,_⟩:=z2b kept ops oc hne
   subst hx
   refine ⟨by simp,by simp only [h2,hd],by simp only [hk,h2,hd]; rfl,rfl,rfl⟩
 ·simp at hx
theorem zvz {i d:Nat} {oc:Oper} (hi:ops[i]? = some oc) (hd:oc.dst=some d) (hg:Region.wanted oc (yielded ops a.tmps)=true) {x:AOper} (hx:boxOf P kept ops oc=some x) {e:Nat→AV} {v:AV}
 (hr:zd call none H (actOf (zk e) x.op)=some (v,H')) (he:EnvR φ μ e a) (hw:WR CR W φ μ H w) (hsz:d < a.tmps.size) {K:Act→World→Prop}
 (hK:∀ a' w' φ',FExt φ φ'→EnvR φ' μ (upd e (some d) v) a'→WR CR W φ' μ H' w'→a'.tmps.size=a.tmps.size→a'.defers=a.defers→K a' w') :
 wpOpIn (Fk ro) n P ops Q i K a w:=by
 have hputs:∀ (d:Option Nat) (u:Value),(a.put d u).tmps.size=a.tmps.size∧(a.put d u).defers=a.defers:=fun d u=>by cases d <;> simp [Act.put]
 have hne:=(zbl hd hx).1
 obtain ⟨ao,hc0,hop,_⟩:=z2b kept ops oc hne
 have hnd:=z5l hc0
 unfold boxOf at hx
 rw [hd] at hx
 simp only at hx
 have hc:z53 P oc.op=some (zm P kept ops oc).op:=by
  rcases hop with h | ⟨f,xs,_,h⟩
  ·rw [h]; exact hc0
  ·rw [h] at hx; simp at hx
 split at hx
 ·generalize (zm P kept ops oc).op=ao at hx hc
  have hK':∀ {u:Value} {w':World} {ψ:Frz},FExt φ ψ→WR CR W ψ μ H' w'→VR ψ μ v u→K (a.put oc.dst u) w':=fun {u w' ψ} h1 h2 h3=>by
   rw [hd]
   exact hK _ _ ψ h1 ((he.mono h1 (MExt.refl μ)).put h3 (fun d' h=>by cases h; exact hsz)) h2 (hputs _ _).1 (hputs _ _).2
  cases ao <;> simp only [Option.some.injEq] at hx <;> (try (simp at hx; done))
  case move y=>
   subst hx
   obtain ⟨x0,hop,hy⟩:=zhu hc
   have hv0:=za he hy
   have hrun:(execOp a.eval oc).run P w=.ok (.value (a.eval x0)) w:=by rcases hop with h | h <;> simp [execOp,h]
   simp only [actOf] at hr
   split at hr
   ·rename_i id gen off len hs
    rw [hs] at hv0
    simp only [zd] at hr
    split at hr
    ·rename_i hlt
     split at hr
     ·rename_i v1 B1 hv1
      simp only [Option.some.injEq,Prod.mk.injEq] at hr
      obtain ⟨rfl,rfl⟩:=hr
      simp only [blks,List.map_cons,List.map_nil] at hv1
      split at hv1
      ·rename_i rows hrows
       split at hv1
       ·rename_i hpl
        simp only [Option.some.injEq,Prod.mk.injEq] at hv1
        obtain ⟨rfl,rfl⟩:=hv1
        have hB:H[id]? = some (H.getD id (.dead 0)):=by simp [List.getD_eq_getElem?_getD,hlt]
        obtain ⟨ψ,g1,g2,g3⟩:=zv31 hB hrows hpl hw hv0
        exact za8 hi hg hnd (u:=a.eval x0) (w':=w) (.inl hrun) (hK' g1 g2 g3)
       ·simp at hv1
      ·simp at hv1
     ·simp at hr
    ·simp at hr
   ·obtain ⟨rfl,rfl⟩:=zf2 hr
    exact za8 hi hg hnd (u:=a.eval x0) (w':=w) (.inl hrun) (hK' (FExt.refl φ) hw hv0)
  case alloc z=>
   subst hx
   simp only [actOf] at hr
   split at hr
   ·rename_i hrow
    obtain ⟨rfl,rfl⟩:=zf2 hr
    obtain ⟨t,hop,hz⟩:=zyr hc
    obtain ⟨inf,u,hinf,hzv,hv,hr',h1⟩:=zd4 hz
    obtain ⟨ψ,g1,g2,g3⟩:=hw.frozen u.cells t
    refine za8 hi hg hnd (u:=.pointer (some ⟨w.heap.size,0,none⟩)) (w':={ w with heap:=w.heap.push (.cells u.cells t) }) (.inl (by simp [execOp,hop,Instr.alloc,za9 hinf hzv,newVar,newRow])) (hK' g1 g2 ?_)
    exact VR.fptrOf (hv ψ μ) hr' g3
   ·simp [zd] at hr
  case box m y=>
   subst hx
   simp only [actOf] at hr
   split at hr
   ·rename_i hrow
    obtain ⟨rfl,rfl⟩:=zf2 hr
    obtain ⟨t,y0,g0,hop,ht,hy⟩:=zqx hc
    have hv:=za he hy
    obtain ⟨ψ,g1,g2,g3⟩:=hw.frozen (a.eval y0).cells t
    refine za8 hi hg hnd (u:=.pointer (some ⟨w.heap.size,0,none⟩)) (w':={ w with heap:=w.heap.push (.cells (a.eval y0).cells t) }) (.inl (by simp [execOp,hop,Instr.box,newVar,newRow])) (hK' g1 g2 ?_)
    exact VR.fptrOf (hv.mono g1 (MExt.refl μ)) hrow g3
   ·simp [zd] at hr
  case buildSlice z len ps=>
   subst hx
   simp only [actOf] at hr
   split at hr
   ·rename_i hzc
    split at hr
    ·rename_i rows hrows
     obtain ⟨rfl,rfl⟩:=zf2 hr
     obtain ⟨t,parts,e0,hop,ht,hz,hps,hlen⟩:=zui hc
     obtain ⟨inf,u,hinf,hzv,hvr,hr',h1⟩:=zd4 hz
     have hzl:=z01 hr'
     rw [hzl] at hrows hlen
     have hsp:=z5d hps
     obtain ⟨cells',f1,f2,f3,f4,f5⟩:=zpr (a:=a) (look:=e) (n:=len) h1 parts.toList ps (List.replicate len z) (madeCells u.cells (len * inf.size)) rows (fun k p q h1 h2=>by
      have:=hsp.2 k p q h1 h2
      split at this
      ·rename_i x hx; simp at this; subst this; exact ⟨rfl,za he hx⟩
      ·simp at this) hsp.1 (by simp) (by simp [madeCells]) (fun r hr2=>by rw [List.eq_of_mem_replicate hr2]; exact hr') (z6d (hvr φ μ) hr' (Nat.le_refl _)) hrows
     obtain ⟨ψ,g1,g2,g3⟩:=hw.frozen cells' e0
     have e2:(parts.map fun (i,x)=>(i,a.eval x)).toList=parts.toList.map fun (i,x)=>(i,a.eval x):=by simp
     have hn:¬ (len * inf.size > 2 ^ 24):=by omega
     have hmk:∀ h0:len * inf.size=0,(madeCells u.cells (len * inf.size))=#[]:=fun h0=>by simp [madeCells,h0]
     refine za8 hi hg hnd (u:=.slice (some ⟨w.heap.size,0,none⟩) len len) (w':={ w with heap:=w.heap.push (.cells cells' e0) }) (.inl ?_) (hK' g1 g2 ?_)
     ·by_cases h0:len * inf.size=0
      ·rw [hmk h0] at f1
       have hr0:((Array.range (len * inf.size)).map ((#[]:Array Value)[· % (#[]:Array Value).size]!))=#[]:=by simp [h0]
       simp only [execOp,hop,Instr.buildSlice,Sem.run_bind,run_underlying ht,Result.andThen_ok,sizeOf,typeInfo,run_program]
       simp only [hinf,Sem.run_pure,Result.andThen_ok,if_neg hn,Sem.run_bind,if_pos h0,e2,hr0,f1,newRow,run_newObj]
      ·have f1':Instr.fill (fun i_1=>some (i_1 * inf.size,inf.size)) ((Array.range (len * inf.size)).map (u.cells[· % u.cells.size]!)) (parts.toList.map fun (i,x)=>(i,a.eval x))=some cells':=f1
       simp only [execOp,hop,Instr.buildSlice,Sem.run_bind,run_underlying ht,Result.andThen_ok,sizeOf,typeInfo,run_program]
       simp only [hinf,Sem.run_pure,Result.andThen_ok,if_neg hn,Sem.run_bind,if_neg h0,za9 hinf hzv,e2,f1',newRow,run_newObj]
     ·have hrl:rows.length=len:=by omega
      refine .fsl (sz:=inf.size) (o:=0) (fun i j=>cells'.getD (i * inf.size + j) undef) hrl f4 (fun i r j y k1 k2=>?_) (fun i r j y k1 k2=>?_) (Nat.le_refl _)
      ·obtain ⟨u',q1,_⟩:=f5 i r j y k1 k2
       rw [g3,Nat.zero_add,q1]; simp [q1]
      ·obtain ⟨u',q1,q2⟩:=f5 i r j y k1 k2
       simp only [Array.getD_eq_getD_getElem?,q1,Option.getD_some]
       exact q2.mono g1 (MExt.refl μ)
    ·simp [zd] at hr
   ·simp [zd] at hr
  case toBytes y=>
   subst hx
   simp only [actOf] at hr
   split at hr
   ·rename_i s hs
    obtain ⟨rfl,rfl⟩:=zf2 hr
    obtain ⟨src,dst,x0,e0,hop,h1,h2,hb,hy⟩:=zsn hc
    obtain ⟨hbu,_,_,_⟩:=z3l hb
    have hv:=za he hy
    rw [hs] at hv
    generalize hu:a.eval x0=u at hv
    cases hv
    obtain ⟨c,m,n',k1,k2,k3⟩:=zti (P:=P) e0 s w
    obtain ⟨ψ,g1,g2,g3⟩:=hw.frozenM c e0 m (w.drawn + 1)
    refine za8 hi hg hnd (u:=.slice (some ⟨w.heap.size,0,none⟩) s.size n') (w':={ w with heap:=w.heap.push (.cells c e0 m),drawn:=w.drawn + 1 }) (.inl ?_) (hK' g1 g2 ?_)
    ·simp [execOp,hop,hu,convert,run_underlying h1,run_underlying h2,run_underlying hbu,k1]
    ·have hcell:∀ (i:Nat) (r:AV),(cellsOf s)[i]? = some r→∃ b:UInt8,s.data[i]? = some b∧r=.int .u8 b.toNat:=by
      intro i r hr
      simp only [cellsOf,List.getElem?_map,Option.map_eq_some_iff] at hr
      obtain ⟨b,hb,rfl⟩:=hr
      exact ⟨b,by simpa using hb,rfl⟩
     refine .fsl (sz:=1) (o:=0) (fun i j=>c.getD i undef) (by simp [cellsOf]) (fun r hr=>?_) (fun i r j x q1 q2=>?_) (fun i r j x q1 q2=>?_) k2
     ·obtain ⟨i,hi⟩:=List.mem_iff_getElem?.1 hr
      obtain ⟨b,_,rfl⟩:=hcell i r hi
      rfl
     ·obtain ⟨b,hb,rfl⟩:=hcell i r q1
      have hj:j=0:=by cases j with
       | zero=>rfl
       | succ j=>simp [AV.cells] at q2
      subst hj
      rw [g3]
      simp [k3 i b hb]
     ·obtain ⟨b,hb,rfl⟩:=hcell i r q1
      have hj:j=0:=by cases j with
       | zero=>rfl
       | succ j=>simp [AV.cells] at q2
      subst hj
      simp [AV.cells] at q2; subst q2
      simp [k3 i b hb]
      exact .int _ _
   ·simp [zd] at hr
 ·simp at hx
theorem zmo {i d:Nat} {o1 o2:Oper} (h1:ops[i]? = some o1) (h2:ops[i + 1]? = some o2) (hd:o1.dst=some d) {x:AOper} (hx:zgc P kept o1 o2=some x) {e:Nat→AV} {v:AV}
 (hr:zd call none H (actOf (zk e) x.op)=some (v,H')) (he:EnvR φ μ e a) (hw:WR CR W φ μ H w) (hsz:d < a.tmps.size) {K:Act→World→Prop}
 (hK:∀ a' w' φ',FExt φ φ'→EnvR φ' μ (upd e (some d) v) a'→WR CR W φ' μ H w'→a'.tmps.size=a.tmps.size→a'.defers=a.defers→K a' w') :
 x.dst=some d∧x.keep=kept d∧x.guard=none∧H'=H∧wpOpIn (Fk ro) n P ops Q i (wpOpIn (Fk ro) n P ops Q (i + 1) K) a w:=by
 unfold zgc at hx
 split at hx
 ·rename_i d0 t t' d' y e1 e2 e3 e4 e5 e6
  rw [hd] at e1; cases e1
  split at hx
  ·rename_i hc
   obtain ⟨rfl,_,hy0⟩:=hc
   split at hx
   ·rename_i z g0 m y' hz ht hy
    split at hx
    ·rename_i hzm
     simp only [Option.some.injEq] at hx; subst hx
     simp only [actOf] at hr
     split at hr
     ·rename_i hrow
      obtain ⟨rfl,rfl⟩:=zf2 hr
      refine ⟨rfl,rfl,rfl,rfl,?_⟩
      obtain ⟨inf,u,hinf,hzv,hvz,hrz,h1'⟩:=zd4 hz
      have hus:u.cells.size=m:=by rw [ze4 (hvz φ μ) hrz,← hzm,z01 hrz]
      have hv:=za he hy
      have hvs:=ze4 hv hrow
      refine za8 h1 (by simp [Region.wanted,e2]) (fun c hc=>by rw [e5] at hc; cases hc) (u:=.pointer (some ⟨w.heap.size,0,none⟩)) (w':={ w with heap:=w.heap.push (.cells u.cells t) }) (.inl (by simp [execOp,e5,Instr.alloc,za9 hinf hzv,newVar,newRow])) ?_
      rw [hd]
      have ev1:(a.put (some d) (.pointer (some ⟨w.heap.size,0,none⟩))).eval (.tmp d)=.pointer (some ⟨w.heap.size,0,none⟩):=by simp [Act.put,Act.eval,hsz]
      have ev2:(a.put (some d) (.pointer (some ⟨w.heap.size,0,none⟩))).eval y=a.eval y:=by
       cases y with
       | tmp t0=>simp only [zjo,bne_iff_ne,ne_eq] at hy0; simp [Act.put,Act.eval,Array.getElem?_setIfInBounds_ne (fun h=>hy0 h.symm)]
       | _=>rfl
      obtain ⟨ψ,g1,g2,g3⟩:=hw.frozen (a.eval y).cells t
      refine za8 h2 (by simp [Region.wanted,e4]) (fun c hc=>by rw [e6] at hc; cases hc) (u:=undef) (w':={ w with heap:=w.heap.push (.cells (a.eval y).cells t) }) (.inr ⟨rfl,?_⟩) ?_
      ·have hst:=run_storeCells_at P w.heap.size 0 t (a.eval y).cells.toList 0 u.cells { w with heap:=w.heap.push (.cells u.cells t) } (by simp) (by simp [hvs,hus]) (z7d hv hrow)
       simp only [Nat.zero_add,Nat.add_zero,List.take_zero,List.nil_append] at hst
       have hdrop:u.cells.toList.drop (a.eval y).cells.toList.length=[]:=List.drop_eq_nil_of_le (by simp [hvs,hus])
       rw [hdrop,List.append_nil] at hst
       obtain ⟨r1,r2⟩:=zec ht { w with heap:=w.heap.push (.cells u.cells t) }
       simp only [execOp,e6,ev1,ev2,Instr.storeAt,Instr.sureAddr,storeVar,Sem.run_bind,Sem.run_pure,Result.andThen_ok,r2]
       simp only [hvs,ne_eq,not_true_eq_false,if_false,Sem.run_pure,Result.andThen_ok,Sem.run_bind,hst]
       congr 1
       simp only [World.setRow,z9g]
      ·rw [e3]
       have hp:(a.put (some d) (.pointer (some ⟨w.heap.size,0,none⟩))).put none undef=a.put (some d) (.pointer (some ⟨w.heap.size,0,none⟩)):=rfl
       rw [hp]
       exact hK _ _ ψ g1 ((he.mono g1 (MExt.refl μ)).put (VR.fptrOf (hv.mono g1 (MExt.refl μ)) hrow g3) (fun d' h=>by cases h; exact hsz)) g2 (by simp [Act.put]) (by simp [Act.put])
     ·simp [zd] at hr
    ·simp at hx
   ·simp at hx
  ·simp at hx
 ·simp at hx
theorem zlb {d:Nat} {o1 o2:Oper} {x:AOper} (hp:zgc P kept o1 o2=some x) (hd:o1.dst=some d):x.dst=some d∧x.keep=kept d∧x.guard=none∧x.op.nd=false:=by
 unfold zgc at hp
 split at hp
 ·rename_i e1 _ _ _ _ _
  rw [hd] at e1; cases e1
  split at hp
  ·split at hp
   ·split at hp
    ·simp only [Option.some.injEq] at hp; subst hp; exact ⟨rfl,rfl,rfl,rfl⟩
    ·simp at hp
   ·simp at hp
  ·simp at hp
 ·simp at hp
theorem zzr {i d d2:Nat} {o1 o2 o3:Oper} {x0:Operand} (h1:ops[i]? = some o1) (h2:ops[i + 1]? = some o2) (h3:ops[i + 2]? = some o3) (hd:o1.dst=some d) (hd2:o2.dst=some d2) (hg2:o2.guard=none) (hop2:zcw o2.op=some x0)
 (hdd:d≠d2) (hx0:zjo d x0=true) {x:AOper} (hx:zgc P kept o1 o3=some x) {e:Nat→AV} {v v2:AV} (hv2:VR φ μ v2 (a.eval x0))
 (hr:zd call none H (actOf (zk (upd e (some d2) v2)) x.op)=some (v,H')) (he:EnvR φ μ e a) (hw:WR CR W φ μ H w) (hsz:d < a.tmps.size) (hsz2:d2 < a.tmps.size) {K:Act→World→Prop}
 (hK:∀ a' w' φ',FExt φ φ'→EnvR φ' μ (upd (upd e (some d2) v2) (some d) v) a'→WR CR W φ' μ H w'→a'.tmps.size=a.tmps.size→a'.defers=a.defers→K a' w') :
 H'=H∧wpOpIn (Fk ro) n P ops Q i (wpOpIn (Fk ro) n P ops Q (i + 1) (wpOpIn (Fk ro) n P ops Q (i + 2) K)) a w:=by
 unfold zgc at hx
 split at hx
 ·rename_i d0 t t' d' y e1 e2 e3 e4 e5 e6
  rw [hd] at e1; cases e1
  split at hx
  ·rename_i hc
   obtain ⟨rfl,_,hy0⟩:=hc
   split at hx
   ·rename_i z g0 m y' hz ht hy
    split at hx
    ·rename_i hzm
     simp only [Option.some.injEq] at hx; subst hx
     simp only [actOf] at hr
     split at hr
     ·rename_i hrow
      obtain ⟨rfl,rfl⟩:=zf2 hr
      refine ⟨rfl,?_⟩
      obtain ⟨inf,u,hinf,hzv,hvz,hrz,h1'⟩:=zd4 hz
      have hus:u.cells.size=m:=by rw [ze4 (hvz φ μ) hrz,← hzm,z01 hrz]
      have he2:EnvR φ μ (upd e (some d2) v2) (a.put (some d2) (a.eval x0)):=he.put hv2 (fun d' h=>by cases h; exact hsz2)
      have hv:=za he2 hy
      have hvs:=ze4 hv hrow
      refine za8 h1 (by simp [Region.wanted,e2]) (fun c hc=>by rw [e5] at hc; cases hc) (u:=.pointer (some ⟨w.heap.size,0,none⟩)) (w':={ w with heap:=w.heap.push (.cells u.cells t) }) (.inl (by simp [execOp,e5,Instr.alloc,za9 hinf hzv,newVar,newRow])) ?_
      rw [hd]
      have ev0:(a.put (some d) (.pointer (some ⟨w.heap.size,0,none⟩))).eval x0=a.eval x0:=by
       cases x0 with
       | tmp t0=>simp only [zjo,bne_iff_ne,ne_eq] at hx0; simp [Act.put,Act.eval,Array.getElem?_setIfInBounds_ne (fun h=>hx0 h.symm)]
       | _=>rfl
      refine za8 h2 (by simp [Region.wanted,hg2]) (fun c hc=>by rw [hc] at hop2; cases hop2) (u:=a.eval x0) (w':={ w with heap:=w.heap.push (.cells u.cells t) }) (.inl (by
       generalize hop:o2.op=op at hop2
       cases op <;> simp only [zcw,Option.some.injEq] at hop2 <;> first | (subst hop2; simp [execOp,hop,ev0]; done) | (simp at hop2; done))) ?_
      rw [hd2]
      have hcomm:(a.put (some d) (.pointer (some ⟨w.heap.size,0,none⟩))).put (some d2) (a.eval x0)=(a.put (some d2) (a.eval x0)).put (some d) (.pointer (some ⟨w.heap.size,0,none⟩)):=by
       simp only [Act.put,Act.mk.injEq,and_true]
       exact Array.setIfInBounds_comm _ _ hdd
      rw [hcomm]
      have hsz':d < (a.put (some d2) (a.eval x0)).tmps.size:=by simp [Act.put]; exact hsz
      have ev1:((a.put (some d2) (a.eval x0)).put (some d) (.pointer (some ⟨w.heap.size,0,none⟩))).eval (.tmp d)=.pointer (some ⟨w.heap.size,0,none⟩):=by simp [Act.put,Act.eval,hsz]
      have ev2:((a.put (some d2) (a.eval x0)).put (some d) (.pointer (some ⟨w.heap.size,0,none⟩))).eval y=(a.put (some d2) (a.eval x0)).eval y:=by
       cases y with
       | tmp t0=>simp only [zjo,bne_iff_ne,ne_eq] at hy0; simp [Act.put,Act.eval,Array.getElem?_setIfInBounds_ne (fun h=>hy0 h.symm)]
       | _=>rfl
      have hbs:(a.put (some d2) (a.eval x0)).tmps.size=a.tmps.size∧(a.put (some d2) (a.eval x0)).defers=a.defers:=by simp [Act.put]
      generalize (a.put (some d2) (a.eval x0))=b at *
      obtain ⟨ψ,g1,g2,g3⟩:=hw.frozen (b.eval y).cells t
      refine za8 h3 (by simp [Region.wanted,e4]) (fun c hc=>by rw [e6] at hc; cases hc) (u:=undef) (w':={ w with heap:=w.heap.push (.cells (b.eval y).cells t) }) (.inr ⟨rfl,?_⟩) ?_
      ·have hst:=run_storeCells_at P w.heap.size 0 t (b.eval y).cells.toList 0 u.cells { w with heap:=w.heap.push (.cells u.cells t) } (by simp) (by simp [hvs,hus]) (z7d hv hrow)
       simp only [Nat.zero_add,Nat.add_zero,List.take_zero,List.nil_append] at hst
       have hdrop:u.cells.toList.drop (b.eval y).cells.toList.length=[]:=List.drop_eq_nil_of_le (by simp [hvs,hus])
       rw [hdrop,List.append_nil] at hst
       obtain ⟨r1,r2⟩:=zec ht { w with heap:=w.heap.push (.cells u.cells t) }
       simp only [execOp,e6,ev1,ev2,Instr.storeAt,Instr.sureAddr,storeVar,Sem.run_bind,Sem.run_pure,Result.andThen_ok,r2]
       simp only [hvs,ne_eq,not_true_eq_false,if_false,Sem.run_pure,Result.andThen_ok,Sem.run_bind,hst]
       congr 1
       simp only [World.setRow,z9g]
      ·rw [e3]
       have hb:b.tmps.size=a.tmps.size∧b.defers=a.defers:=hbs
       have hp:(b.put (some d) (.pointer (some ⟨w.heap.size,0,none⟩))).put none undef=b.put (some d) (.pointer (some ⟨w.heap.size,0,none⟩)):=rfl
       rw [hp]
       exact hK _ _ ψ g1 ((he2.mono g1 (MExt.refl μ)).put (VR.fptrOf (hv.mono g1 (MExt.refl μ)) hrow g3) (fun d' h=>by cases h; exact hsz')) g2 (by simp [Act.put,hb.1]) (by simp [Act.put,hb.2])
     ·simp [zd] at hr
    ·simp at hx
   ·simp at hx
  ·simp at hx
 ·simp at hx
theorem z791 (hcall:z7a CR P call) (hN:z98 CR P callN) (hsm:(za2 P kept ops).all (zj2 nt)=true):∀ (m k:Nat) (l:List Oper),l.length=m→ops.toList.drop k=l →
 ∀ (s:RSt) (K':RSt→Prop),NOPS call callN (zo8 P kept ops l) s K'→RInv kept s→TInv kept s.tm →
 ∀ {φ:Frz} {μ:List Loc} {a:Act} {w:World},EnvR φ μ (look s.loc s.tm) a→WR CR W φ μ s.heap w→a.tmps.size=nt →
 (∀ s',K' s'→∀ a' w' φ' μ',FExt φ φ'→MExt μ μ'→EnvR φ' μ' s'.tm.get a'→TInv kept s'.tm→WR CR W φ' μ' s'.heap w'→a'.tmps.size=a.tmps.size→a'.defers=a.defers→Q .normal a' w') →
 wpOpsIn (Fk ro) n P ops Q (List.range' k m) a w:=by
 have hsmall:∀ (i d:Nat) (o:Oper),ops[i]? = some o→o.dst=some d→d < nt∧nt < 4000:=by
  intro i d o hi hd
  have hm:zm P kept ops o∈za2 P kept ops:=by
   unfold za2
   exact List.mem_map.2 ⟨o,by simpa using Array.mem_of_getElem? hi,rfl⟩
  have:=List.all_eq_true.1 hsm _ hm
  have hdst:(zm P kept ops o).dst=o.dst:=by
   unfold zm
   cases o.guard with
   | none=>rfl
   | some p=>simp only; cases (ops[p.1]?).bind (·.dst) <;> rfl
  simp only [zj2,hdst,hd,Bool.and_eq_true,decide_eq_true_eq] at this
  exact this
 intro m
 induction m using Nat.strongRecOn with
 | _ m ih=>
 intro k l hl hdr s K' hrun hi ht φ μ a w he hw hn hQ
 have hget:∀ j,l[j]? = ops[k + j]? := fun j=>by rw [← hdr]; simp
 have frz1:∀ (oc:Oper) (os:List Oper) (x:AOper),l=oc::os→boxOf P kept ops oc=some x→NOPS call callN (x::zo8 P kept ops os) s K'→wpOpsIn (Fk ro) n P ops Q (List.range' k m) a w:=by
  intro oc os x hlo hx hrun
  have hm:m=os.length + 1:=by rw [← hl,hlo]; rfl
  rw [hlo] at hdr hget
  rw [hm] at ih ⊢
  have hk0:ops[k]? = some oc:=by have:=hget 0; simpa using this.symm
  have hd:∃ d,oc.dst=some d:=by
   unfold boxOf at hx
   split at hx
   ·exact ⟨_,by assumption⟩
   ·simp at hx
  obtain ⟨d,hd⟩:=hd
  have hs:=hsmall k d oc hk0 hd
  obtain ⟨hne,xd,xk,xg,xn⟩:=zbl hd hx
  obtain ⟨_,_,_,_,hgd⟩:=z2b kept ops oc hne
  have hkeep:x.keep=(x.dst.map kept).getD true:=by rw [xd,xk]; rfl
  have hds:zj2 nt x=true:=by simp [zj2,xd]; exact hs
  obtain ⟨s1,hs1,hrun⟩:=zbh xn hrun
  ·have hs1:=hs1
   rw [List.range'_succ,wpOpsIn_cons]
   have hgg:∀ b,z93 s x=some b→Region.wanted oc (yielded ops a.tmps)=b:=fun b hb=>by
    refine z7g he (g:=x.guard) ?_ (by rw [xg]; exact hgd)
    exact hb
   unfold stepA at hs1
   split at hs1
   ·rename_i hwa
    split at hs1
    ·rename_i v H1 hr
     simp only [Option.some.injEq] at hs1; subst hs1
     rw [zjb] at hr
     obtain ⟨p1,p2,p3⟩:=RSt.look_put (v:=v) (H:=H1) hi hkeep hds
     refine zvz (n:=n) (ro:=ro) (Q:=Q) hk0 hd (hgg _ hwa) hx hr he hw (by omega) (fun a' w' φ' f1 f2 f3 f4 f5=>?_)
     have ht1:TInv kept (s.put x v H1).tm:=zkb hkeep hds ht
     refine ih os.length (by omega) (k + 1) os rfl (by rw [← List.drop_drop,hdr]; rfl) _ K' hrun p3 ht1 (φ:=φ') (μ:=μ) ?_ ?_ (by omega) (fun s'' hs'' a'' w'' φ'' μ'' q1 q2 q3 q4 q5 q6 q7=>hQ s'' hs'' a'' w'' φ'' μ'' (f1.trans q1) q2 q3 q4 q5 (by omega) (by rw [q7,f5]))
     ·have:look (s.put x v H1).loc (s.put x v H1).tm=upd (look s.loc s.tm) (some d) v:=by rw [← xd]; exact p1
      rw [this]; exact f2
     ·rw [p2]; exact f3
    ·simp at hs1
   ·rename_i hwa
    simp only [Option.some.injEq] at hs1; subst hs1
    obtain ⟨p1,p2,p3⟩:=RSt.look_put (v:=.skipped) (H:=s.heap) hi hkeep hds
    have ht1:TInv kept (s.put x .skipped s.heap).tm:=zkb hkeep hds ht
    unfold wpOpIn
    rw [hk0]
    simp only [hgg _ hwa,Bool.false_eq_true,if_false]
    refine ⟨fun _ _=>trivial,?_⟩
    have he':EnvR φ μ (upd (look s.loc s.tm) (some d) .skipped) (a.put oc.dst Go.undef):=by rw [hd]; exact he.put VR.skip (fun d' h=>by cases h; omega)
    refine ih os.length (by omega) (k + 1) os rfl (by rw [← List.drop_drop,hdr]; rfl) _ K' hrun p3 ht1 (φ:=φ) (μ:=μ) ?_ ?_ (by rw [hd]; simp [Act.put]; omega) (fun s'' hs'' a'' w'' φ'' μ'' q1 q2 q3 q4 q5 q6 q7=>hQ s'' hs'' a'' w'' φ'' μ'' q1 q2 q3 q4 q5 (by rw [q6,hd]; simp [Act.put]) (by rw [q7,hd]; simp [Act.put]))
    ·have:look (s.put x .skipped s.heap).loc (s.put x .skipped s.heap).tm=upd (look s.loc s.tm) (some d) .skipped:=by rw [← xd]; exact p1
     rw [this]; exact he'
    ·rw [p2]; exact hw
   ·simp at hs1
 have std1:∀ (oc:Oper) (os:List Oper),l=oc::os→NOPS call callN (zm P kept ops oc::zo8 P kept ops os) s K'→wpOpsIn (Fk ro) n P ops Q (List.range' k m) a w:=by
  intro oc os hlo hrun
  have hm:m=os.length + 1:=by rw [← hl,hlo]; rfl
  rw [hlo] at hdr hget
  rw [hm] at ih ⊢
  have hk0:ops[k]? = some oc:=by have:=hget 0; simpa using this.symm
  rw [List.range'_succ,wpOpsIn_cons]
  have hsm1:zj2 nt (zm P kept ops oc)=true:=List.all_eq_true.1 hsm _ (by unfold za2; exact List.mem_map.2 ⟨oc,by simpa using Array.mem_of_getElem? hk0,rfl⟩)
  have hks:=z9d P kept ops oc
  refine zt31 (kept:=kept) hcall hN (K':=fun v H1=>NOPS call callN (zo8 P kept ops os) (s.put (zm P kept ops oc) v H1) K') hk0 ?_ he hw (fun d hd=>hn ▸ (hsmall k d oc hk0 hd).1) (fun v H1 hrun a' w' φ' μ' f1 f2 f3 f4 f5 f6=>?_)
  ·have hrun':NSTEP call callN (zm P kept ops oc) s (fun s'=>NOPS call callN (zo8 P kept ops os) s' K'):=hrun
   unfold NSTEP at hrun'
   rw [zjb] at hrun'
   exact hrun'
  ·obtain ⟨p1,p2,p3⟩:=RSt.look_put (v:=v) (H:=H1) hi hks hsm1
   have ht1:=zkb (v:=v) (H:=H1) hks hsm1 ht
   have p1':look (s.put (zm P kept ops oc) v H1).loc (s.put (zm P kept ops oc) v H1).tm=upd (look s.loc s.tm) (zm P kept ops oc).dst v:=p1
   exact ih os.length (by omega) (k + 1) os rfl (by rw [← List.drop_drop,hdr]; rfl) _ K' hrun p3 ht1 (by rw [p1',zrj]; exact f3) (by rw [p2]; exact f4) (by omega) (fun s'' hs'' a'' w'' φ'' μ'' q1 q2 q3 q4 q5 q6 q7=>hQ s'' hs'' a'' w'' φ'' μ'' (f1.trans q1) (f2.trans q2) q3 q4 q5 (by omega) (by rw [q7,f6]))
 have one:∀ (oc:Oper) (os:List Oper),l=oc::os→NOPS call callN ((boxOf P kept ops oc).getD (zm P kept ops oc)::zo8 P kept ops os) s K'→wpOpsIn (Fk ro) n P ops Q (List.range' k m) a w:=by
  intro oc os hlo hrun
  cases hb:boxOf P kept ops oc with
  | none=>rw [hb] at hrun; exact std1 oc os hlo hrun
  | some x=>rw [hb] at hrun; exact frz1 oc os x hlo hb hrun
 have pair2:∀ (o1 o2:Oper) (os:List Oper) (x:AOper),l=o1::o2::os→zgc P kept o1 o2=some x→NOPS call callN (x::zo8 P kept ops os) s K'→wpOpsIn (Fk ro) n P ops Q (List.range' k m) a w:=by
  intro o1 o2 os x hlo hp hrun
  have hm:m=os.length + 1 + 1:=by rw [← hl,hlo]; rfl
  rw [hlo] at hdr hget
  rw [hm] at ih ⊢
  have hk0:ops[k]? = some o1:=by have:=hget 0; simpa using this.symm
  have hk1:ops[k + 1]? = some o2:=by have:=hget 1; simpa using this.symm
  have hd:∃ d,o1.dst=some d:=by
   unfold zgc at hp
   split at hp
   ·exact ⟨_,by assumption⟩
   ·simp at hp
  obtain ⟨d,hd⟩:=hd
  have hs:=hsmall k d o1 hk0 hd
  have xn:=(zlb hp hd).2.2.2
  obtain ⟨s1,hs1,hrun⟩:=zbh xn hrun
  ·have hs1:=hs1
   rw [List.range'_succ,List.range'_succ,wpOpsIn_cons]
   have:wpOpsIn (Fk ro) n P ops Q ((k + 1)::List.range' (k + 1 + 1) os.length)=wpOpIn (Fk ro) n P ops Q (k + 1) (wpOpsIn (Fk ro) n P ops Q (List.range' (k + 2) os.length)):=by
    funext a w; exact wpOpsIn_cons _ _ _ _
   rw [this]
   obtain ⟨xd,xk,xg,_⟩:=zlb hp hd
   unfold stepA at hs1
   have hwa:z93 s x=some true:=by simp [z93,xg]
   rw [hwa] at hs1
   simp only at hs1
   split at hs1
   ·rename_i v H1 hr
    simp only [Option.some.injEq] at hs1; subst hs1
    rw [zjb] at hr
    have key:=zmo (n:=n) (ro:=ro) (Q:=Q) (K:=fun _ _=>True) hk0 hk1 hd hp hr he hw (by omega) (fun _ _ _ _ _ _ _ _=>trivial)
    obtain ⟨_,_,_,rfl,_⟩:=key
    have hkeep:x.keep=(x.dst.map kept).getD true:=by rw [xd,xk]; rfl
    have hds:zj2 nt x=true:=by simp [zj2,xd]; exact hs
    obtain ⟨p1,p2,p3⟩:=RSt.look_put (v:=v) (H:=s.heap) hi hkeep hds
    refine (zmo (n:=n) (ro:=ro) (Q:=Q) hk0 hk1 hd hp hr he hw (by omega) (fun a' w' φ' f1 f2 f3 f4 f5=>?_)).2.2.2.2
    have ht1:TInv kept (s.put x v s.heap).tm:=zkb hkeep hds ht
    refine ih os.length (by omega) (k + 2) os rfl (by rw [← List.drop_drop,hdr]; rfl) _ K' hrun p3 ht1 (φ:=φ') (μ:=μ) ?_ ?_ (by omega) (fun s'' hs'' a'' w'' φ'' μ'' q1 q2 q3 q4 q5 q6 q7=>hQ s'' hs'' a'' w'' φ'' μ'' (f1.trans q1) q2 q3 q4 q5 (by omega) (by rw [q7,f5]))
    ·have:look (s.put x v s.heap).loc (s.put x v s.heap).tm=upd (look s.loc s.tm) (some d) v:=by rw [← xd]; exact p1
     rw [this]; exact f2
    ·rw [p2]; exact f3
   ·simp at hs1
 have triple3:∀ (o1 o2 o3:Oper) (os:List Oper) (x:AOper),l=o1::o2::o3::os→zik P kept o1 o2 o3=some x→NOPS call callN (zm P kept ops o2::x::zo8 P kept ops os) s K'→wpOpsIn (Fk ro) n P ops Q (List.range' k m) a w:=by
  intro o1 o2 o3 os x hlo hp hrun
  have hm:m=os.length + 1 + 1 + 1:=by rw [← hl,hlo]; rfl
  rw [hlo] at hdr hget
  rw [hm] at ih ⊢
  have hk0:ops[k]? = some o1:=by have:=hget 0; simpa using this.symm
  have hk1:ops[k + 1]? = some o2:=by have:=hget 1; simpa using this.symm
  have hk2:ops[k + 2]? = some o3:=by have:=hget 2; simpa using this.symm
  unfold zik at hp
  split at hp
  ·rename_i d d2 x0 hd hd2 hg2 hop2
   split at hp
   ·rename_i hc
    simp only [Bool.and_eq_true,bne_iff_ne,ne_eq] at hc
    obtain ⟨⟨hdd,hx0⟩,hcx⟩:=hc
    obtain ⟨x1,hx1⟩:=Option.isSome_iff_exists.1 hcx
    have hs:=hsmall k d o1 hk0 hd
    have hs2:=hsmall (k + 1) d2 o2 hk1 hd2
    have hc2:zm P kept ops o2=⟨some d2,kept d2, .move x1,none⟩:=by
     have:z53 P o2.op=some (.move x1):=by
      generalize o2.op=op at hop2
      cases op <;> simp only [zcw,Option.some.injEq] at hop2 <;> first | (subst hop2; simp [z53,hx1]; done) | (simp at hop2; done)
     simp [zm,hg2,hd2,this,zao]
    rw [hc2] at hrun
    have xn:=(zlb hp hd).2.2.2
    obtain ⟨s1,hs1,hrun⟩:=zbh rfl hrun
    obtain ⟨s2,hs2',hrun⟩:=zbh xn hrun
    ·have hs1:=hs1
     ·have hs2':=hs2'
      rw [List.range'_succ,List.range'_succ,List.range'_succ,wpOpsIn_cons]
      have e2:wpOpsIn (Fk ro) n P ops Q ((k + 1 + 1)::List.range' (k + 1 + 1 + 1) os.length)=wpOpIn (Fk ro) n P ops Q (k + 2) (wpOpsIn (Fk ro) n P ops Q (List.range' (k + 3) os.length)):=by
       funext a w; exact wpOpsIn_cons _ _ _ _
      have e1:wpOpsIn (Fk ro) n P ops Q ((k + 1)::(k + 1 + 1)::List.range' (k + 1 + 1 + 1) os.length)=wpOpIn (Fk ro) n P ops Q (k + 1) (wpOpIn (Fk ro) n P ops Q (k + 2) (wpOpsIn (Fk ro) n P ops Q (List.range' (k + 3) os.length))):=by
       funext a w; rw [wpOpsIn_cons,e2]
      rw [e1]
      obtain ⟨xd,xk,xg,_⟩:=zlb hp hd
      have h1:s1=s.put ⟨some d2,kept d2, .move x1,none⟩ (evalA s.loc s.tm x1) s.heap:=by
       simp only [stepA,z93,actOf,zd,Option.some.injEq] at hs1
       exact hs1.symm
      obtain ⟨q1,q2,q3⟩:=RSt.look_put (s:=s) (o:=⟨some d2,kept d2, .move x1,none⟩) (v:=evalA s.loc s.tm x1) (H:=s.heap) hi rfl (nt:=nt) (by simp [zj2]; exact hs2)
      rw [← h1] at q1 q2 q3
      have ht1:TInv kept s1.tm:=by rw [h1]; exact zkb (nt:=nt) rfl (by simp [zj2]; exact hs2) ht
      unfold stepA at hs2'
      have hwa:z93 s1 x=some true:=by simp [z93,xg]
      rw [hwa] at hs2'
      simp only at hs2'
      split at hs2'
      ·rename_i v H1 hr
       simp only [Option.some.injEq] at hs2'; subst hs2'
       rw [zjb] at hr
       have q1':look s1.loc s1.tm=upd (look s.loc s.tm) (some d2) (evalA s.loc s.tm x1):=q1
       rw [q1',q2] at hr
       have hv1:VR φ μ (evalA s.loc s.tm x1) (a.eval x0):=by rw [zjb]; exact za he hx1
       have key:=fun (K:Act→World→Prop) hK=>zzr (n:=n) (ro:=ro) (Q:=Q) (K:=K) hk0 hk1 hk2 hd hd2 hg2 hop2 hdd hx0 hp hv1 hr he hw (by omega) (by omega) hK
       obtain ⟨rfl,_⟩:=key (fun _ _=>True) (fun _ _ _ _ _ _ _ _=>trivial)
       have hkeep:x.keep=(x.dst.map kept).getD true:=by rw [xd,xk]; rfl
       have hds:zj2 nt x=true:=by simp [zj2,xd]; exact hs
       obtain ⟨p1,p2,p3⟩:=RSt.look_put (v:=v) (H:=s.heap) q3 hkeep hds
       refine (key _ (fun a' w' φ' f1 f2 f3 f4 f5=>?_)).2
       have ht2:TInv kept (s1.put x v s.heap).tm:=zkb hkeep hds ht1
       refine ih os.length (by omega) (k + 3) os rfl (by rw [← List.drop_drop,hdr]; rfl) _ K' hrun p3 ht2 (φ:=φ') (μ:=μ) ?_ ?_ (by omega) (fun s'' hs'' a'' w'' φ'' μ'' q1 q2 q3 q4 q5 q6 q7=>hQ s'' hs'' a'' w'' φ'' μ'' (f1.trans q1) q2 q3 q4 q5 (by omega) (by rw [q7,f5]))
       ·have:look (s1.put x v s.heap).loc (s1.put x v s.heap).tm=upd (look s1.loc s1.tm) (some d) v:=by rw [← xd]; exact p1
        rw [this,q1']; exact f2
       ·rw [p2]; exact f3
      ·simp at hs2'
   ·simp at hp
  ·simp at hp
 match l,hl with
 | [],hl=>
   simp only [List.length_nil] at hl
   subst hl
   simp only [zo8,NOPS] at hrun
   exact hQ s hrun a w φ μ (FExt.refl φ) (MExt.refl μ) (zal hi ht he) ht hw rfl rfl
 | [oc],hl=>exact one oc [] rfl (by simpa [zo8] using hrun)
 | [o1,o2],hl=>
   unfold zo8 at hrun
   cases hp:zgc P kept o1 o2 with
   | none=>rw [hp] at hrun; exact one o1 [o2] rfl hrun
   | some x=>rw [hp] at hrun; exact pair2 o1 o2 [] x rfl hp hrun
 | o1::o2::o3::os,hl=>
   unfold zo8 at hrun
   cases hp:zgc P kept o1 o2 with
   | some x=>rw [hp] at hrun; exact pair2 o1 o2 (o3::os) x rfl hp hrun
   | none=>
     rw [hp] at hrun
     simp only at hrun
     cases hq:zik P kept o1 o2 o3 with
     | none=>rw [hq] at hrun; exact one o1 (o2::o3::os) rfl hrun
     | some x=>rw [hq] at hrun; exact triple3 o1 o2 o3 os x rfl hq hrun
theorem ziu {id:Nat} (hcall:z7a CR P call) (hN:z98 CR P callN) (hsm:(za2 P kept ops).all (zj2 nt)=true) {T:Tm} {K':RSt→Prop} (h:NOPS call callN (zo8 P kept ops ops.toList) { loc:=[],tm:=T,heap:=H } K') (ht:TInv kept T)
 (he:EnvR φ μ T.get a) (hw:WR CR W φ μ H w) (hn:a.tmps.size=nt)
 (hQ:∀ s',K' s'→∀ a' w' φ' μ',FExt φ φ'→MExt μ μ'→EnvR φ' μ' s'.tm.get a'→TInv kept s'.tm→WR CR W φ' μ' s'.heap w'→a'.tmps.size=a.tmps.size→a'.defers=a.defers→Q .normal a' w') :
 (Code.region id ops false).wpIn (Fk ro) n P Q a w:=by
 apply wpIn_region
 rw [List.range_eq_range']
 exact z791 hcall hN hsm ops.size 0 ops.toList (by simp) (by simp) { loc:=[],tm:=T,heap:=H } K' h (fun p hp=>by simp at hp) ht (by simpa [look] using he) hw hn hQ
theorem zwz {s s':RSt} {slot:Nat} {o:AOper} {r:Rec} (hi:RInv kept s) (hk:o.keep=(o.dst.map kept).getD true) (hs:zj2 nt o=true) (h:zf5 call slot o s=some (s',r)) :
 ∃ v,hact call slot (look s.loc s.tm) o s.heap=some (v,s'.heap,r)∧look s'.loc s'.tm=upd (look s.loc s.tm) o.dst v∧RInv kept s'∧(TInv kept s.tm→TInv kept s'.tm):=by
 unfold zf5 at h
 have hwe:z93 s o=z88 (look s.loc s.tm) o:=rfl
 rw [hwe] at h
 unfold hact
 split at h
 ·rename_i hw
  rw [zjb] at h
  split at h
  ·rename_i v H' hr
   simp only [Option.some.injEq,Prod.mk.injEq] at h
   obtain ⟨rfl,rfl⟩:=h
   obtain ⟨h1,h2,h3⟩:=RSt.look_put (v:=v) (H:=H') hi hk hs
   exact ⟨v,by rw [hw]; simp only [hr,h2],h1,h3,zkb hk hs⟩
  ·simp at h
 ·rename_i hw
  simp only [Option.some.injEq,Prod.mk.injEq] at h
  obtain ⟨rfl,rfl⟩:=h
  obtain ⟨h1,h2,h3⟩:=RSt.look_put (v:=.skipped) (H:=s.heap) hi hk hs
  exact ⟨.skipped,by rw [hw]; simp only [h2],h1,h3,zkb hk hs⟩
 ·simp at h
theorem zju {l:List AOper} {sl:List Nat} (hsl:sl.length=l.length) (hkp:∀ o∈l,o.keep=(o.dst.map kept).getD true) (hsm:l.all (zj2 nt)=true) (rec:Nat→Rec):∀ (k m:Nat) (s s':RSt) (rs:List Rec),k + m=l.length →
 zr2 call ((sl.zip l).drop k) s=some (s',rs)→(∀ j,j < m→rs[j]? = some (rec (k + j)))→RInv kept s→TInv kept s.tm →
 Run call l sl rec (List.range' k m) (look s.loc s.tm) s.heap (look s'.loc s'.tm) s'.heap∧RInv kept s'∧TInv kept s'.tm:=by
 intro k m
 induction m generalizing k with
 | zero=>
   intro s s' rs hk h hrec hi ht
   have:(sl.zip l).drop k=[]:=List.drop_eq_nil_of_le (by simp; omega)
   rw [this] at h
   simp [zr2] at h
   obtain ⟨rfl,rfl⟩:=h
   exact ⟨.nil _ _,hi,ht⟩
 | succ m ih=>
   intro s s' rs hk h hrec hi ht
   have hlt:k < (sl.zip l).length:=by simp; omega
   rw [List.drop_eq_getElem_cons hlt] at h
   have hll:k < l.length:=by omega
   have hsll:k < sl.length:=by omega
   have hz:(sl.zip l)[k]=(sl[k],l[k]):=by simp
   rw [hz] at h
   simp only [zr2] at h
   split at h
   ·rename_i s1 r hs1
    split at h
    ·rename_i s2 rs2 hs2
     simp only [Option.some.injEq,Prod.mk.injEq] at h
     obtain ⟨rfl,rfl⟩:=h
     obtain ⟨v,h1,h2,h3,h4⟩:=zwz hi (hkp _ (List.getElem_mem hll)) (List.all_eq_true.1 hsm _ (List.getElem_mem hll)) hs1
     have hr0:=hrec 0 (by omega)
     simp at hr0
     obtain ⟨g1,g2,g3⟩:=ih (k + 1) s1 s2 rs2 (by omega) hs2 (fun j hj=>by have:=hrec (j + 1) (by omega); rw [show k + (j + 1)=k + 1 + j by omega] at this; simpa using this) h3 (h4 ht)
     rw [List.range'_succ]
     refine ⟨.cons (List.getElem?_eq_getElem hll) (List.getElem?_eq_getElem hsll) (by rw [← hr0]; exact h1) (by rw [← h2]; exact g1),g2,g3⟩
    ·simp at h
   ·simp at h
theorem ztn {os:List (Nat×AOper)}:∀ {s s':RSt} {rs:List Rec},zr2 call os s=some (s',rs)→rs.length=os.length:=by
 induction os with
 | nil=>intro s s' rs h; simp [zr2] at h; rw [h.2]; rfl
 | cons p os ih=>
   intro s s' rs h
   obtain ⟨i,o⟩:=p
   simp only [zr2] at h
   split at h
   ·split at h
    ·rename_i h2
     simp only [Option.some.injEq,Prod.mk.injEq] at h
     rw [← h.2]
     simp [ih h2]
    ·simp at h
   ·simp at h
theorem z5c:∀ (base:Nat) (l:List AOper),(z1c base l).length=l.length
 | _,[]=>rfl
 | base,o::os=>by simp [z1c,z5c]
theorem zrx {s:Nat} {o:AOper} {e:Nat→AV} {v:AV} {r:Rec} (h:hact call s e o H=some (v,H',r)):stepE call (some s) o e H=some (upd e o.dst v,H',v):=by
 unfold hact at h
 unfold stepE
 split at h
 ·rename_i hw
  split at h
  ·rename_i v0 H0 hr
   simp only [Option.some.injEq,Prod.mk.injEq] at h
   obtain ⟨rfl,rfl,rfl⟩:=h
   rw [hw]; simp only [hr]
  ·simp at h
 ·rename_i hw
  simp only [Option.some.injEq,Prod.mk.injEq] at h
  obtain ⟨rfl,rfl,rfl⟩:=h
  rw [hw]
 ·simp at h
theorem run_G {rec:Nat→Rec} {sl:List Nat} {L:List Nat} {e e':Nat→AV} (h:Run call (za2 P kept ops) sl rec L e H e' H'):RunG call P kept ops L e H e' H':=by
 induction h with
 | nil e H=>exact .nil e H
 | @cons i L e e' H H1 H' v o s ho hs hh hr ih=>
   have:∃ oc,ops[i]? = some oc∧o=zm P kept ops oc:=by
    have hlt:=(List.getElem?_eq_some_iff.1 ho).1
    simp [za2] at hlt
    refine ⟨ops[i],by simp [hlt],?_⟩
    simp [za2,hlt] at ho
    exact ho.symm
   obtain ⟨oc,hoc,rfl⟩:=this
   exact .cons hoc (zrx hh) ih
theorem WR.pad (hw:WR CR W φ μ H w) (k:Nat):WR CR W φ (μ++List.replicate k default) (H++List.replicate k (.dead 0)) w∧MExt μ (μ++List.replicate k default):=by
 have hext:MExt μ (μ++List.replicate k default):=⟨by simp,fun id l hl=>⟨l,by rw [List.getElem?_append_left (List.getElem?_eq_some_iff.1 hl).1]; exact hl,Nat.le_refl _,fun _=>rfl⟩⟩
 have hH:∀ (id:Nat) (B:Blk),(H++List.replicate k (.dead 0))[id]? = some B→H[id]? = some B∨(B=.dead 0∧H.length≤id):=by
  intro id B h
  rw [List.getElem?_append] at h
  split at h
  ·exact .inl h
  ·rw [List.getElem?_replicate] at h
   split at h
   ·simp at h; exact .inr ⟨h.symm,by omega⟩
   ·simp at h
 have hM:∀ (id:Nat) (l:Loc),(μ++List.replicate k default)[id]? = some l→μ[id]? = some l∨(l=default∧H.length≤id):=by
  intro id l h
  rw [List.getElem?_append] at h
  split at h
  ·exact .inl h
  ·rw [List.getElem?_replicate] at h
   split at h
   ·simp at h; exact .inr ⟨h.symm,by have:=hw.len; omega⟩
   ·simp at h
 have both:∀ (id:Nat) (B:Blk) (l:Loc),(H++List.replicate k (.dead 0))[id]? = some B→(μ++List.replicate k default)[id]? = some l→(H[id]? = some B∧μ[id]? = some l)∨(B=.dead 0∧l=default):=by
  intro id B l h1 h2
  rcases hH id B h1 with h | ⟨h,hl⟩
  ·rcases hM id l h2 with h' | ⟨h',hl'⟩
   ·exact .inl ⟨h,h'⟩
   ·have:=(List.getElem?_eq_some_iff.1 h).1; omega
  ·rcases hM id l h2 with h' | ⟨h',hl'⟩
   ·have:=(List.getElem?_eq_some_iff.1 h').1; have:=hw.len; omega
   ·exact .inr ⟨h,h'⟩
 refine ⟨⟨hw.below,hw.base,hw.frz,hw.sub,by simp [hw.len],fun id B l h1 h2=>?_,fun id B l h1 h2 hv=>?_,fun id B l h1 h2=>?_,fun i j Bi Bj li lj hij h1 h2 h3 h4 h5 h6=>?_⟩,hext⟩
 ·rcases both id B l h1 h2 with ⟨g1,g2⟩ | ⟨rfl,rfl⟩
  ·exact hw.gen id B l g1 g2
  ·rfl
 ·rcases both id B l h1 h2 with ⟨g1,g2⟩ | ⟨rfl,rfl⟩
  ·exact hw.own id B l g1 g2 hv
  ·simp [Blk.live] at hv
 ·rcases both id B l h1 h2 with ⟨g1,g2⟩ | ⟨rfl,rfl⟩
  ·exact (hw.blk id B l g1 g2).mono (FExt.refl φ) hext rfl
  ·exact .dead 0
 ·rcases both i Bi li h1 h3 with ⟨g1,g2⟩ | ⟨rfl,rfl⟩
  ·rcases both j Bj lj h2 h4 with ⟨g3,g4⟩ | ⟨rfl,rfl⟩
   ·exact hw.apart i j Bi Bj li lj hij g1 g3 g2 g4 h5 h6
   ·simp [Blk.live] at h6
  ·simp [Blk.live] at h5
theorem zw31 {id:Nat} (hcall:z7a CR P call) (hsm:(za2 P kept ops).all (zj2 nt)=true) (hdr:zdw (P.follows .mixedOrders) (za2 P kept ops) ops=true) {T:Tm} {s':RSt} {rs:List Rec}
 (h:zr2 call ((z1c H.length (za2 P kept ops)).zip (za2 P kept ops)) { loc:=[],tm:=T,heap:=H++List.replicate (z2c (za2 P kept ops)) (.dead 0) }=some (s',rs))
 (hpr:zu9 rs (z5h (za2 P kept ops) ops)=true) (ht:TInv kept T)
 (he:EnvR φ μ T.get a) (hw:WR CR W φ μ H w) (hn:a.tmps.size=nt)
 (hQ:∀ a' w' φ' μ',FExt φ φ'→MExt μ μ'→EnvR φ' μ' s'.tm.get a'→TInv kept s'.tm→WR CR W φ' μ' s'.heap w'→a'.tmps.size=a.tmps.size→a'.defers=a.defers→Q .normal a' w') :
 (Code.region id ops true).wpIn (Fk ro) n P Q a w:=by
 have hlen:(za2 P kept ops).length=ops.size:=by simp [za2]
 have D:=zvr hlen hdr
 have hrl:=ztn h
 rw [List.length_zip,z5c,hlen,Nat.min_self] at hrl
 obtain ⟨g1,g2,g3⟩:=zju (kept:=kept) (nt:=nt) (z5c H.length (za2 P kept ops)) (fun o ho=>by
  obtain ⟨oc,_,rfl⟩:=List.mem_map.1 ho
  exact z9d P kept ops oc) hsm (fun i=>rs.getD i .none) 0 ops.size _ s' rs (by omega) (by simpa using h) (fun j hj=>by simp [List.getD_eq_getElem?_getD,List.getElem?_eq_getElem (show j < rs.length by omega)]) (fun p hp=>by simp at hp) ht
 have hfree:∀ (i j:Nat) (x y:AOper),i < j→(za2 P kept ops)[i]? = some x→(za2 P kept ops)[j]? = some y→((z6g (ops.toList.map z35)).getD j 0).testBit i=false→(rs.getD i .none).indep (rs.getD j .none)=true:=by
  intro i j x y hij hx hy hb
  have hjl:=(List.getElem?_eq_some_iff.1 hy).1
  have hil:=(List.getElem?_eq_some_iff.1 hx).1
  cases hh:x.harmless y with
  | true=>
    obtain ⟨x',s,e0,H0,v,H1,hx',hhx⟩:=g1.steps i (by simp; omega)
    obtain ⟨y',t,e0',H0',u,H1',hy',hhy⟩:=g1.steps j (by simp; omega)
    rw [hx] at hx'; rw [hy] at hy'
    simp only [Option.some.injEq] at hx' hy'
    subst hx'; subst hy'
    exact zqn hh hhx hhy
  | false=>
    have hm:(i,j)∈z5h (za2 P kept ops) ops:=by
     simp only [z5h,List.mem_filter]
     exact ⟨z8h hij (by omega) hb,by simp [zpz,hx,hy,hh]⟩
    obtain ⟨p,q,hp,hq,hpq⟩:=zqj hpr i j hm
    simp only [List.getD_eq_getElem?_getD,hp,hq]
    exact hpq
 obtain ⟨hwp,hext⟩:=hw.pad (z2c (za2 P kept ops))
 apply wpIn_region_draw
 intro t
 have hsch:Region.schedule (P.follows .mixedOrders) ops t=Region.linearise.go .any ops ops.size t (Array.replicate ops.size false) []:=by
  simp only [Region.schedule,D.dep,if_true]
  rfl
 rw [hsch]
 have hlin:=zo61 D hfree ops.size t (Array.replicate ops.size false) (List.range' 0 ops.size) _ _ _ _ (by simp) (by simp) (List.pairwise_lt_range') (fun i=>by
  rw [List.mem_range'_1,Array.getElem?_replicate]
  constructor
  ·intro h; exact ⟨by omega,by rw [if_pos (by omega)]⟩
  ·intro h; omega) (fun k o hk hl p hp=>by
  rw [Array.getElem?_replicate] at hl
  split at hl <;> simp at hl) g1
 have hwd:WR CR W φ (μ++List.replicate (z2c (za2 P kept ops)) default) (H++List.replicate (z2c (za2 P kept ops)) (.dead 0)) { w with drawn:=w.drawn + 1 }:=hwp.world ⟨rfl,rfl,rfl,Nat.le_refl _,fun _ _=>rfl⟩ rfl
 refine zu31 hcall hsm (run_G hlin) (he.mono (FExt.refl φ) hext) hwd hn (fun a' w' φ' μ' h1 h2 h3 h4 h5 h6=>hQ a' w' φ' μ' h1 (hext.trans h2) (zal g2 g3 h3) g3 h4 h5 h6)
end Go.Abs
