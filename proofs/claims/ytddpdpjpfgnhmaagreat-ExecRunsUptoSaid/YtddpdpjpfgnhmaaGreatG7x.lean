/- Abs 19: every order that the edges of a region allow comes to what the order of the text comes to. -/
import Derived.Test.YtddpdpjpfgnhmaaGreatG6x
set_option linter.unusedSimpArgs false
set_option linter.unusedVariables false
set_option maxHeartbeats 4000000
namespace Go.Abs
open Go.RowKit
inductive Run (call:CallF) (l:List AOper) (sl:List Nat) (rec:Nat→Rec):List Nat→(Nat→AV)→Heap→(Nat→AV)→Heap→Prop
 | nil (e:Nat→AV) (H:Heap):Run call l sl rec [] e H e H
 | cons {i:Nat} {L:List Nat} {e e':Nat→AV} {H H1 H':Heap} {v:AV} {o:AOper} {s:Nat} (ho:l[i]? = some o) (hs:sl[i]? = some s)
  (h:hact call s e o H=some (v,H1,rec i)) (r:Run call l sl rec L (upd e o.dst v) H1 e' H'):Run call l sl rec (i::L) e H e' H'
variable {call:CallF} {l:List AOper} {sl:List Nat} {rec:Nat→Rec}
theorem Run.front {i:Nat}:∀ {C1 C2:List Nat} {e e':Nat→AV} {H H':Heap},Run call l sl rec (C1++i::C2) e H e' H' →
 (∀ j∈C1,∀ x y,l[j]? = some x→l[i]? = some y→x.apart y=true∧(rec j).indep (rec i)=true)→Run call l sl rec (i::(C1++C2)) e H e' H'
 | [],C2,e,e',H,H',h,_=>h
 | c::C1,C2,e,e',H,H',h,hp=>by
   cases h with
   | cons ho hs hh hr=>
     rename_i H1 v x s
     have hr':=Run.front hr (fun j hj=>hp j (by simp [hj]))
     cases hr' with
     | cons ho' hs' hh' hr''=>
       rename_i H2 u y t
       obtain ⟨hap,hin⟩:=hp c (by simp) x y ho ho'
       obtain ⟨H1',g1,g2,g3⟩:=zqz hap hh hh' hin
       exact .cons ho' hs' g1 (.cons ho hs g2 (by rw [← g3]; exact hr''))
theorem zr31 {m ps:List Nat} {j:Nat}:∀ {s:Nat},((ps.foldl (fun s p=>s ||| 2 ^ p ||| m.getD p 0) s).testBit j=true)→s.testBit j=true∨∃ p∈ps,p=j∨(m.getD p 0).testBit j=true:=by
 induction ps with
 | nil=>intro s h; exact .inl h
 | cons p ps ih=>
   intro s h
   simp only [List.foldl_cons] at h
   rcases ih h with h | ⟨q,hq,hh⟩
   ·rw [Nat.testBit_or,Nat.testBit_or] at h
    simp only [Bool.or_eq_true] at h
    rcases h with (h | h) | h
    ·exact .inl h
    ·rw [Nat.testBit_two_pow] at h
     exact .inr ⟨p,by simp, .inl (by simpa using h)⟩
    ·exact .inr ⟨p,by simp, .inr h⟩
   ·exact .inr ⟨q,by simp [hq],hh⟩
structure zur (mixed:Bool) (l:List AOper) (ops:Array Oper) (m:List Nat):Prop where
 len:l.length=ops.size
 mlen:m.length=ops.size
 back:∀ (i:Nat) (o:Oper),ops[i]? = some o→∀ p∈z35 o,p < i
 mask:∀ (i:Nat) (o:Oper),ops[i]? = some o→m.getD i 0=zrr m (z35 o)
 dep:(mixed || !Region.departs ops)=true
 pair:∀ (i j:Nat) (x y:AOper),i < j→l[i]? = some x→l[j]? = some y→(m.getD j 0).testBit i=false→x.apart y=true
theorem z8h {m:List Nat} {n i j:Nat} (hij:i < j) (hj:j < n) (hb:(m.getD j 0).testBit i=false):(i,j)∈z4h m n:=by
 simp only [z4h,List.mem_flatMap,List.mem_range,List.mem_map,List.mem_filter]
 exact ⟨j,hj,i,⟨hij,by rw [hb]; rfl⟩,rfl⟩
theorem zvr {ops:Array Oper} (hlen:l.length=ops.size) {mixed:Bool} (h:zdw mixed l ops=true):zur mixed l ops (z6g (ops.toList.map z35)):=by
 simp only [zdw,Bool.and_eq_true,beq_iff_eq] at h
 obtain ⟨⟨⟨h1,h2⟩,h3⟩,h4⟩:=h
 have hm:(z6g (ops.toList.map z35)).length=ops.size:=by
  rw [← h3]; simp
 refine ⟨hlen,hm,fun i o hi p hp=>?_,fun i o hi=>?_,h1,fun i j x y hij hx hy hb=>?_⟩
 ·rw [List.all_eq_true] at h2
  have hmem:(z35 o,i)∈(ops.toList.map z35).zipIdx:=by
   rw [List.mem_zipIdx_iff_getElem?]
   simp [hi]
  have:=h2 _ hmem
  simp only [List.all_eq_true,decide_eq_true_eq] at this
  exact this p hp
 ·have e:(List.map (zrr (z6g (ops.toList.map z35))) (ops.toList.map z35))[i]? = some (zrr (z6g (ops.toList.map z35)) (z35 o)):=by simp [hi]
  rw [h3] at e
  rw [List.getD_eq_getElem?_getD,e]; rfl
 ·have hjl:=(List.getElem?_eq_some_iff.1 hy).1
  rw [List.all_eq_true] at h4
  have:=h4 _ (z8h hij (by rw [← hlen]; exact hjl) hb)
  simpa [zpz,hx,hy] using this
theorem zqn {x y:AOper} (h:x.harmless y=true) {s t:Nat} {e e':Nat→AV} {H H1 H' H2:Heap} {v u:AV} {rx ry:Rec} (h1:hact call s e x H=some (v,H1,rx)) (h2:hact call t e' y H'=some (u,H2,ry)):rx.indep ry=true:=by
 have val:∀ (o:AOper) (ρ:AOperand→AV),o.op.cls=0→actOf ρ o.op=.bad∨∃ v,actOf ρ o.op=.val v:=by
  intro o ρ ho
  have hopt:∀ x,Action.ofOption x=.bad∨∃ v,Action.ofOption x=.val v:=fun x=>by cases x <;> simp [Action.ofOption]
  generalize o.op=op at ho
  cases op <;> simp [AOp.cls] at ho <;> simp only [actOf] <;> (try exact .inr ⟨_,rfl⟩) <;> (try exact .inl rfl) <;> (try exact hopt _) <;>
   (repeat' split) <;> first | exact .inl rfl | exact .inl trivial | exact .inr ⟨_,rfl⟩ | exact hopt _
 have rd:∀ (o:AOper) (ρ:AOperand→AV),o.op.cls=1→actOf ρ o.op=.bad∨(∃ v,actOf ρ o.op=.val v)∨∃ ids f,actOf ρ o.op=.rd ids f:=by
  intro o ρ ho
  have hopt:∀ x,Action.ofOption x=.bad∨(∃ v,Action.ofOption x=.val v)∨∃ ids f,Action.ofOption x=.rd ids f:=fun x=>by cases x <;> simp [Action.ofOption]
  generalize o.op=op at ho
  cases op <;> simp [AOp.cls] at ho <;> simp only [actOf,loadA] <;>
   (repeat' split) <;> first | exact .inl rfl | exact .inl trivial | exact .inr (.inl ⟨_,rfl⟩) | exact .inr (.inr ⟨_,_,rfl⟩) | exact hopt _
 have rec0:∀ {o:AOper} {s:Nat} {e:Nat→AV} {H H1:Heap} {v:AV} {r:Rec},o.op.cls=0→hact call s e o H=some (v,H1,r)→r=.none:=by
  intro o s e H H1 v r ho h
  unfold hact at h
  split at h
  ·rcases val o (zk e) ho with hb | ⟨u,hb⟩
   ·rw [hb] at h; simp [zd] at h
   ·rw [hb] at h; simp [zd,recOf] at h; exact h.2.2.symm
  ·simp at h; exact h.2.2.symm
  ·simp at h
 have rec1:∀ {o:AOper} {s:Nat} {e:Nat→AV} {H H1:Heap} {v:AV} {r:Rec},o.op.cls=1→hact call s e o H=some (v,H1,r)→r=.none∨∃ ids f v one,r=.act ids none f v one none:=by
  intro o s e H H1 v r ho h
  unfold hact at h
  split at h
  ·rcases rd o (zk e) ho with hb | ⟨u,hb⟩ | ⟨ids,f,hb⟩
   ·rw [hb] at h; simp [zd] at h
   ·rw [hb] at h; simp [zd,recOf] at h; exact .inl h.2.2.symm
   ·rw [hb] at h
    simp only [recOf] at h
    split at h
    ·simp only [Option.some.injEq,Prod.mk.injEq] at h
     exact .inr ⟨_,_,_,_,h.2.2.symm⟩
    ·simp at h
  ·simp at h; exact .inl h.2.2.symm
  ·simp at h
 simp only [AOper.harmless,Bool.or_eq_true,beq_iff_eq,Bool.and_eq_true] at h
 rcases h with (h | h) | ⟨h,h'⟩
 ·rw [rec0 h h1]; rfl
 ·rw [rec0 h h2]; cases rx <;> rfl
 ·rcases rec1 h h1 with rfl | ⟨ids,f,v,one,rfl⟩
  ·rfl
  ·rcases rec1 h' h2 with rfl | ⟨ids',f',v',one',rfl⟩ <;> simp [Rec.indep]
theorem Run.steps {C:List Nat} {e e':Nat→AV} {H H':Heap} (h:Run call l sl rec C e H e' H'):∀ i∈C,∃ o s e0 H0 v H1,l[i]? = some o∧hact call s e0 o H0=some (v,H1,rec i):=by
 induction h with
 | nil e H=>intro i hi; simp at hi
 | cons ho hs hh _ ih=>
   intro i hi
   rcases List.mem_cons.1 hi with rfl | hi
   ·exact ⟨_,_,_,_,_,_,ho,hh⟩
   ·exact ih i hi
theorem zqj {rs:List Rec}:∀ {ps:List (Nat×Nat)},zu9 rs ps=true→∀ i j,(i,j)∈ps→∃ a b,rs[i]? = some a∧rs[j]? = some b∧a.indep b=true
 | [],_,i,j,h=>by simp at h
 | (x,y)::ps,h,i,j,hm=>by
   simp only [zu9,Bool.and_eq_true] at h
   rcases List.mem_cons.1 hm with e | hm
   ·simp only [Prod.mk.injEq] at e
    obtain ⟨rfl,rfl⟩:=e
    have h1:=h.1
    split at h1
    ·rename_i a b ha hb; exact ⟨a,b,ha,hb,h1⟩
    ·simp at h1
   ·exact zqj h.2 i j hm
theorem zo61 {ops:Array Oper} {m:List Nat} {mixed:Bool} (D:zur mixed l ops m) (hfree:∀ (i j:Nat) (x y:AOper),i < j→l[i]? = some x→l[j]? = some y→(m.getD j 0).testBit i=false→(rec i).indep (rec j)=true) :
 ∀ (fuel t:Nat) (listed:Array Bool) (C:List Nat) (e e':Nat→AV) (H H':Heap),C.length≤fuel→listed.size=ops.size→C.Pairwise (· < ·)→(∀ i:Nat,i∈C↔i < ops.size∧listed[i]? = some false) →
   (∀ (k:Nat) (o:Oper),ops[k]? = some o→listed[k]? = some true→∀ p∈z35 o,listed[p]? = some true)→Run call l sl rec C e H e' H' →
   Run call l sl rec (Region.linearise.go .any ops fuel t listed []) e H e' H':=by
 intro fuel
 induction fuel with
 | zero=>
   intro t listed C e e' H H' hf hsz hsort hC hcl hr
   have:C=[]:=List.eq_nil_of_length_eq_zero (by omega)
   subst this
   simpa [Region.linearise.go] using hr
 | succ fuel ih=>
   intro t listed C e e' H H' hf hsz hsort hC hcl hr
   have hlt:∀ i:Nat,i < ops.size→∃ b,listed[i]? = some b:=fun i hi=>⟨listed[i]'(by omega),by simp [hsz,hi]⟩
   simp only [Region.linearise.go]
   change Run call l sl rec (match (Region.ready .any ops listed)[t % (Region.ready .any ops listed).length]? with
    | some i=>Region.linearise.go .any ops fuel (t / (Region.ready .any ops listed).length) (listed.setIfInBounds i true) [i]
    | none=>[].reverse) e H e' H'
   have ready_spec:∀ i,i∈Region.ready .any ops listed↔i < ops.size∧listed[i]? = some false∧∃ o,ops[i]? = some o∧∀ p∈z35 o,listed.getD p false=true:=by
    intro i
    simp only [Region.ready,List.mem_filter,List.mem_range,Bool.and_eq_true,Bool.not_eq_true']
    constructor
    ·rintro ⟨hi,h1,h2⟩
     obtain ⟨b,hb⟩:=hlt i hi
     have hb':listed.getD i true=b:=by simp [hb]
     rw [hb'] at h1; subst h1
     have ho:ops[i]? = some ops[i]:=by simp [hi]
     rw [ho] at h2
     simp only [Option.map_some,Option.getD_some,Array.all_eq_true_iff_forall_mem] at h2
     refine ⟨hi,hb,ops[i],ho,fun p hp=>?_⟩
     simp only [z35,List.mem_map,List.mem_filter] at hp
     obtain ⟨ed,⟨hed,hbin⟩,rfl⟩:=hp
     have:=h2 ed (by simpa using hed)
     rw [hbin] at this; simpa using this
    ·rintro ⟨hi,hb,o,ho,hp⟩
     refine ⟨hi,by simp [hb],?_⟩
     rw [ho]
     simp only [Option.map_some,Option.getD_some,Array.all_eq_true_iff_forall_mem]
     intro ed hed
     cases hbin:Region.binds .any ed with
     | false=>rfl
     | true=>
       have:=hp ed.on (by simp only [z35,List.mem_map,List.mem_filter]; exact ⟨ed,⟨by simpa using hed,hbin⟩,rfl⟩)
       simpa using this
   cases hi:(Region.ready .any ops listed)[t % (Region.ready .any ops listed).length]? with
   | none=>
     have hnil:Region.ready .any ops listed=[]:=by
      cases hrd:Region.ready .any ops listed with
      | nil=>rfl
      | cons x xs=>
        rw [hrd] at hi
        have hlt:t % (x::xs).length < (x::xs).length:=Nat.mod_lt _ (by simp)
        simp at hi
        simp at hlt
        omega
     cases C with
     | nil=>simpa using hr
     | cons c C=>
       exfalso
       have hc:=(hC c).1 (by simp)
       have:c∈Region.ready .any ops listed:=by
        rw [ready_spec]
        refine ⟨hc.1,hc.2,ops[c],by simp [hc.1],fun p hp=>?_⟩
        have hpc:=D.back c ops[c] (by simp [hc.1]) p hp
        obtain ⟨b,hb⟩:=hlt p (by omega)
        cases b with
        | true=>simp [hb]
        | false=>
          have:p∈c::C:=(hC p).2 ⟨by omega,hb⟩
          rcases List.mem_cons.1 this with rfl | hm
          ·omega
          ·have:=List.rel_of_pairwise_cons hsort hm; omega
       rw [hnil] at this; simp at this
   | some i=>
     simp only
     rw [linearise_go_acc,List.reverse_singleton,List.singleton_append]
     have him:=(ready_spec i).1 (List.mem_of_getElem? hi)
     obtain ⟨hin,hil,o,ho,hpred⟩:=him
     have hiC:i∈C:=(hC i).2 ⟨hin,hil⟩
     obtain ⟨C1,C2,rfl⟩:=List.append_of_mem hiC
     have hpred':∀ p∈z35 o,listed[p]? = some true:=by
      intro p hp
      have h1:=hpred p hp
      have hpi:=D.back i o ho p hp
      obtain ⟨b,hb⟩:=hlt p (by omega)
      simp [hb] at h1; subst h1; exact hb
     have down:∀ (k:Nat) (ok:Oper),ops[k]? = some ok→(∀ p∈z35 ok,listed[p]? = some true)→∀ j,(m.getD k 0).testBit j=true→listed[j]? = some true:=by
      intro k
      induction k using Nat.strongRecOn with
      | _ k ihk=>
        intro ok hok hpk j hj
        rw [D.mask k ok hok] at hj
        rcases zr31 hj with h0 | ⟨p,hp,rfl | hpj⟩
        ·simp at h0
        ·exact hpk p hp
        ·have hpk':=D.back k ok hok p hp
         have hplt:p < ops.size:=by have:=(Array.getElem?_eq_some_iff.1 hok).1; omega
         exact ihk p hpk' ops[p] (by simp [hplt]) (hcl p ops[p] (by simp [hplt]) (hpk p hp)) j hpj
     have hfront:=hr.front (fun j hj x y hx hy=>by
      have hji:j < i:=(List.pairwise_append.1 hsort).2.2 j hj i (by simp)
      have hjC:=(hC j).1 (by simp [hj])
      have hbit:(m.getD i 0).testBit j=false:=by
       cases hb:(m.getD i 0).testBit j with
       | false=>rfl
       | true=>have:=down i o ho hpred' j hb; rw [hjC.2] at this; simp at this
      exact ⟨D.pair j i x y hji hx hy hbit,hfree j i x y hji hx hy hbit⟩)
     cases hfront with
     | cons ho' hs' hh' hr'=>
       refine .cons ho' hs' hh' ?_
       have hnd:∀ j,j∈C1++C2↔(j∈C1++i::C2∧j≠i):=by
        intro j
        have hs1:=(List.pairwise_append.1 hsort)
        constructor
        ·intro hj
         rcases List.mem_append.1 hj with hj | hj
         ·have:=hs1.2.2 j hj i (by simp)
          exact ⟨by simp [hj],by omega⟩
         ·have:=List.rel_of_pairwise_cons hs1.2.1 hj
          exact ⟨by simp [hj],by omega⟩
        ·rintro ⟨hj,hne⟩
         rcases List.mem_append.1 hj with hj | hj
         ·simp [hj]
         ·rcases List.mem_cons.1 hj with rfl | hj
          ·exact absurd rfl hne
          ·simp [hj]
       refine ih _ (listed.setIfInBounds i true) (C1++C2) _ _ _ _ (by simp at hf ⊢; omega) (by simp [hsz]) ?_ (fun j=>?_) (fun k ok hok hlk p hp=>?_) hr'
       ·have hs1:=(List.pairwise_append.1 hsort)
        exact List.pairwise_append.2 ⟨hs1.1,(List.pairwise_cons.1 hs1.2.1).2,fun a ha b hb=>hs1.2.2 a ha b (by simp [hb])⟩
       ·rw [hnd j,hC j]
        by_cases e:i=j
        ·subst e; simp [hin,hsz]
        ·simp [Array.getElem?_setIfInBounds_ne e,Ne.symm e]
       ·by_cases e:i=k
        ·subst e
         rw [ho] at hok; simp only [Option.some.injEq] at hok; subst hok
         have hpi:=D.back i o ho p hp
         have:i≠p:=by omega
         rw [Array.getElem?_setIfInBounds_ne this]
         exact hpred' p hp
        ·rw [Array.getElem?_setIfInBounds_ne e] at hlk
         have:=hcl k ok hok hlk p hp
         by_cases e':i=p
         ·subst e'; rw [hil] at this; simp at this
         ·rw [Array.getElem?_setIfInBounds_ne e']; exact this
end Go.Abs
