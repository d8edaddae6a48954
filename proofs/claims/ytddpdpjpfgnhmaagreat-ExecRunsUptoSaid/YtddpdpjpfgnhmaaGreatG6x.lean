/- Abs 18: a region that draws: whatever order the edges allow, the same comes of it. -/
import Derived.Test.YtddpdpjpfgnhmaaGreatG5x
set_option linter.unusedSimpArgs false
set_option linter.unusedVariables false
set_option maxHeartbeats 4000000
namespace Go.Abs
open Go.RowKit
mutual
theorem AV.beq_eq:∀ {a b:AV},AV.beq a b=true→a=b:=by
 intro a b h
 cases a <;> cases b <;> simp only [AV.beq,Bool.false_eq_true] at h <;> (try rfl) <;> (try (simp only [Bool.and_eq_true,beq_iff_eq] at h))
 case bool.bool=>rw [h]
 case int.int=>rw [h.1,h.2]
 case str.str=>rename_i x y; rw [show x=y from by rw [beq_toListBytes] at h; exact zo7 (by simpa using h)]
 case ptr.ptr=>rw [h.1.1.1,h.1.1.2,h.1.2,h.2]
 case fptr.fptr=>rw [h.1.1,AV.beqs_eq h.1.2,h.2]
 case fsl.fsl=>rw [h.1,AV.beqs_eq h.2]
 case sl.sl=>rw [h.1.1.1,h.1.1.2,h.1.2,h.2]
 case map.map=>rw [h.1,h.2]
 case func.func=>rw [h.1.1,AV.beqs_eq h.1.2,AV.beqs_eq h.2]
 case yieldf.yieldf=>rw [h.1,h.2]
 case iface.iface=>rw [h.1,AV.beq_eq h.2]
 case agg.agg=>rw [AV.beqs_eq h]
 case tuple.tuple=>rw [AV.beqs_eq h]
theorem AV.beqs_eq:∀ {a b:List AV},AV.beqs a b=true→a=b:=by
 intro a b h
 cases a with
 | nil=>cases b with
   | nil=>rfl
   | cons _ _=>simp [AV.beqs] at h
 | cons x xs=>cases b with
   | nil=>simp [AV.beqs] at h
   | cons y ys=>
     simp only [AV.beqs,Bool.and_eq_true] at h
     rw [AV.beq_eq h.1,AV.beqs_eq h.2]
end
theorem z6h {x:Option AV} {v:AV} (h:zsk x v=true):x=some v:=by
 cases x with
 | none=>simp [zsk] at h
 | some a=>rw [AV.beq_eq h]
def effOf (slot:Nat) (H:Heap):Action→Option (AV×Option (Nat×Blk))
 | .bad=>none
 | .val v=>some (v,none)
 | .rd ids f=>match f (blks H ids) with
   | some v=>some (v,none)
   | none=>none
 | .md ids id f=>if id < H.length then match f (blks H ids) with
   | some (v,b)=>some (v,some (id,b))
   | none=>none else none
 | .nw ids f=>match H[slot]? with
   | some (.dead g)=>match f (blks H ids) slot (g + 1) with
     | some (v,b)=>some (v,some (slot,b))
     | none=>none
   | _=>none
 | .call _ _ | .pcall _ _=>none
def zh4 (H:Heap):Option (Nat×Blk)→Heap
 | none=>H
 | some (i,b)=>H.set i b
theorem zp7 {call:CallF} {slot:Nat} {H:Heap} {A:Action} (hA:∀ f args,A≠.call f args) (hA':∀ f args,A≠.pcall f args):zd call (some slot) H A=(effOf slot H A).map fun p=>(p.1,zh4 H p.2):=by
 cases A with
 | bad=>rfl
 | val v=>rfl
 | rd ids f=>simp only [zd,effOf]; cases f (blks H ids) <;> rfl
 | md ids id f=>simp only [zd,effOf]; split <;> (try rfl); cases f (blks H ids) <;> rfl
 | nw ids f=>
   simp only [zd,effOf]
   cases H[slot]? with
   | none=>rfl
   | some b=>cases b with
     | dead g=>dsimp only; cases f (blks H ids) slot (g + 1) <;> rfl
     | _=>rfl
 | call f args=>exact absurd rfl (hA f args)
 | pcall f args=>exact absurd rfl (hA' f args)
def z8d:Action→List Nat
 | .rd ids _ | .md ids _ _ | .nw ids _=>ids
 | _=>[]
def z34 (slot:Nat):Action→Option Nat
 | .md _ id _=>some id
 | .nw _ _=>some slot
 | _=>none
theorem zsi {H H':Heap} {ids:List Nat} (h:∀ j∈ids,H[j]? = H'[j]?):blks H ids=blks H' ids:=by
 unfold blks
 apply List.map_congr_left
 intro j hj
 rw [List.getD_eq_getElem?_getD,List.getD_eq_getElem?_getD,h j hj]
theorem zsr {slot:Nat} {H H':Heap} {A:Action} (hl:H.length=H'.length) (h:∀ j∈z8d A,H[j]? = H'[j]?) (hw:∀ j,z34 slot A=some j→H[j]? = H'[j]?):effOf slot H A=effOf slot H' A:=by
 cases A with
 | bad=>rfl
 | val v=>rfl
 | rd ids f=>simp only [effOf]; rw [zsi (ids:=ids) h]
 | md ids id f=>simp only [effOf,hl]; rw [zsi (ids:=ids) h]
 | nw ids f=>simp only [effOf]; rw [zsi (ids:=ids) h,hw slot rfl]
 | call f args=>rfl
 | pcall f args=>rfl
theorem zko {slot:Nat} {H:Heap} {A:Action} {v:AV} {wr:Option (Nat×Blk)} (h:effOf slot H A=some (v,wr)):wr.map (·.1)=z34 slot A:=by
 cases A with
 | bad=>simp [effOf] at h
 | val v=>simp [effOf] at h; rw [← h.2]; rfl
 | rd ids f=>
   simp only [effOf] at h
   split at h
   ·simp at h; rw [← h.2]; rfl
   ·simp at h
 | md ids id f=>
   simp only [effOf] at h
   split at h
   ·split at h
    ·simp at h; rw [← h.2]; rfl
    ·simp at h
   ·simp at h
 | nw ids f=>
   simp only [effOf] at h
   split at h
   ·split at h
    ·simp at h; rw [← h.2]; rfl
    ·simp at h
   ·simp at h
 | call f args=>simp [effOf] at h
 | pcall f args=>simp [effOf] at h
theorem z7h (H:Heap) (wr:Option (Nat×Blk)):(zh4 H wr).length=H.length:=by
 cases wr with
 | none=>rfl
 | some p=>simp [zh4]
theorem zq7 {H:Heap} {wr:Option (Nat×Blk)} {j:Nat} (h:wr.map (·.1)≠some j):(zh4 H wr)[j]? = H[j]? := by
 cases wr with
 | none=>rfl
 | some p=>
   simp only [zh4]
   have:p.1≠j:=fun e=>h (by simp [e])
   simp [this]
def hact (call:CallF) (slot:Nat) (e:Nat→AV) (o:AOper) (H:Heap):Option (AV×Heap×Rec):=
 match z88 e o with
 | some true=>match zd call (some slot) H (actOf (zk e) o.op) with
   | some (v,H')=>some (v,H',recOf slot H H' v (actOf (zk e) o.op))
   | none=>none
 | some false=>some (.skipped,H, .none)
 | none=>none
theorem ztr {call:CallF} {slot:Option Nat} {H H1:Heap} {f:AV} {args:List AV} {v:AV} (h:zd call slot H (.pcall f args)=some (v,H1)) :
 H1=H∧∀ (s':Option Nat) (H':Heap),zd call s' H' (.pcall f args)=some (v,H'):=by
 simp only [zd] at h ⊢
 split at h
 ·rename_i v' hc
  split at h
  ·rename_i hp
   simp only [Option.some.injEq,Prod.mk.injEq] at h
   obtain ⟨rfl,rfl⟩:=h
   exact ⟨rfl,fun s' H'=>by simp only [hc,hp,if_true]⟩
  ·simp at h
 ·simp at h
theorem zq31 {call:CallF} {s t:Nat} {A B:Action} {H H1 H2:Heap} {v u:AV} (hA:zd call (some s) H A=some (v,H1)) (hB:zd call (some t) H1 B=some (u,H2))
 (hi:(recOf s H H1 v A).indep (recOf t H1 H2 u B)=true) :
 ∃ H1',zd call (some t) H B=some (u,H1')∧zd call (some s) H1' A=some (v,H2)∧recOf t H H1' u B=recOf t H1 H2 u B∧recOf s H1' H2 v A=recOf s H H1 v A:=by
 by_cases hpA:∃ f args,A=.pcall f args
 ·obtain ⟨f,args,rfl⟩:=hpA
  obtain ⟨rfl,g⟩:=ztr hA
  exact ⟨H2,hB,g _ _,rfl,rfl⟩
 by_cases hpB:∃ f args,B=.pcall f args
 ·obtain ⟨f,args,rfl⟩:=hpB
  obtain ⟨rfl,g⟩:=ztr hB
  exact ⟨H,g _ _,hA,rfl,rfl⟩
 have hnpA:∀ f args,A≠.pcall f args:=fun f args e=>hpA ⟨f,args,e⟩
 have hnpB:∀ f args,B≠.pcall f args:=fun f args e=>hpB ⟨f,args,e⟩
 by_cases hcA:∃ f args,A=.call f args
 ·obtain ⟨f,args,rfl⟩:=hcA
  cases B with
  | bad=>simp [zd] at hB
  | val w=>simp [zd] at hB; obtain ⟨rfl,rfl⟩:=hB; exact ⟨H,rfl,hA,rfl,rfl⟩
  | rd ids g=>
    simp only [recOf,Rec.indep,Bool.and_eq_true] at hi
    have h1:=z6h hi.1.2
    simp only [zd] at hB
    split at hB
    ·rename_i x hx
     simp at hB; obtain ⟨rfl,rfl⟩:=hB
     exact ⟨H,by simp [zd,h1],hA,rfl,rfl⟩
    ·simp at hB
  | md ids id g=>simp [recOf,Rec.indep] at hi
  | nw ids g=>simp [recOf,Rec.indep] at hi
  | call g args'=>simp [recOf,Rec.indep] at hi
  | pcall g args'=>exact absurd rfl (hnpB _ _)
 ·by_cases hcB:∃ f args,B=.call f args
  ·obtain ⟨f,args,rfl⟩:=hcB
   cases A with
   | bad=>simp [zd] at hA
   | val w=>simp [zd] at hA; obtain ⟨rfl,rfl⟩:=hA; exact ⟨H2,hB,rfl,rfl,rfl⟩
   | rd ids g=>
     simp only [recOf,Rec.indep,Bool.and_eq_true] at hi
     have h1:=z6h hi.2
     simp only [zd] at hA
     split at hA
     ·rename_i x hx
      simp at hA; obtain ⟨rfl,rfl⟩:=hA
      exact ⟨H2,hB,by simp [zd,h1],rfl,rfl⟩
     ·simp at hA
   | md ids id g=>simp [recOf,Rec.indep] at hi
   | nw ids g=>simp [recOf,Rec.indep] at hi
   | call g args'=>exact absurd ⟨_,_,rfl⟩ hcA
   | pcall g args'=>exact absurd rfl (hnpA _ _)
  ·have hnA:∀ f args,A≠.call f args:=fun f args e=>hcA ⟨f,args,e⟩
   have hnB:∀ f args,B≠.call f args:=fun f args e=>hcB ⟨f,args,e⟩
   rw [zp7 hnA hnpA] at hA
   rw [zp7 hnB hnpB] at hB
   simp only [Option.map_eq_some_iff,Prod.mk.injEq,Prod.exists] at hA hB
   obtain ⟨v',wa,ea,rfl,rfl⟩:=hA
   obtain ⟨u',wb,eb,rfl,rfl⟩:=hB
   have wA:=zko ea
   have wB:=zko eb
   by_cases hsp1:∃ ids f js i g,A=.rd ids f∧B=.md js i g∧ids=[i]∧z1d (fun b=>f [b]) v' (some ((zh4 H wa).getD i (.dead 0),(zh4 (zh4 H wa) wb).getD i (.dead 0)))=true
   ·obtain ⟨ids,f,js,i,g,rfl,rfl,rfl,hs⟩:=hsp1
    simp only [z1d,Bool.and_eq_true] at hs
    have hwa:wa=none:=by
     simp only [effOf] at ea
     split at ea
     ·simp at ea; exact ea.2.symm
     ·simp at ea
    subst hwa
    simp only [zh4] at eb hs
    have h2:=z6h hs.2
    refine ⟨zh4 H wb,by rw [zp7 hnB hnpB,eb]; rfl,?_,rfl,rfl⟩
    rw [zp7 hnA hnpA]
    simp only [effOf,blks,List.map_cons,List.map_nil,h2,Option.map_some,zh4]
   by_cases hsp2:∃ ids f js i g,B=.rd ids f∧A=.md js i g∧ids=[i]∧z1d (fun b=>f [b]) u' (some (H.getD i (.dead 0),(zh4 H wa).getD i (.dead 0)))=true
   ·obtain ⟨ids,f,js,i,g,rfl,rfl,rfl,hs⟩:=hsp2
    simp only [z1d,Bool.and_eq_true] at hs
    have hwb:wb=none:=by
     simp only [effOf] at eb
     split at eb
     ·simp at eb; exact eb.2.symm
     ·simp at eb
    subst hwb
    have h1:=z6h hs.1
    refine ⟨H,?_,by rw [zp7 hnA hnpA,ea]; rfl,rfl,rfl⟩
    rw [zp7 hnB hnpB]
    simp only [effOf,blks,List.map_cons,List.map_nil,h1,Option.map_some,zh4]
   have hind:(∀ j,z34 s A=some j→j∉z8d B∧z34 t B≠some j)∧(∀ j,z34 t B=some j→j∉z8d A):=by
    have hold:((match z34 s A with | some i => !(z8d B).contains i && z34 t B != some i | none=>true) && (match z34 t B with | some i => !(z8d A).contains i | none=>true))=true∨(∃ x,A=.val x)∨(∃ x,B=.val x):=by
     cases A <;> cases B <;> (try exact absurd rfl (hnA _ _)) <;> (try exact absurd rfl (hnB _ _)) <;> (try exact absurd rfl (hnpA _ _)) <;> (try exact absurd rfl (hnpB _ _)) <;> (try (simp [effOf] at ea; done)) <;> (try (simp [effOf] at eb; done)) <;> (try exact .inr (.inl ⟨_,rfl⟩)) <;> (try exact .inr (.inr ⟨_,rfl⟩)) <;>
      simp only [recOf,Rec.indep,Bool.or_eq_true,Bool.and_eq_true] at hi <;>
      (rcases hi with (hi | hi) | hi) <;>
      (first
       | (left; simp only [z34,z8d]; simp; done)
       | (left; simp only [z34,z8d]; simp only [Bool.and_eq_true]; exact hi)
       | (simp [z1d] at hi; done)
       | (exfalso; simp only [Option.toList,beq_iff_eq] at hi; obtain ⟨⟨_,hr⟩,hs⟩:=hi; subst hr; exact hsp1 ⟨_,_,_,_,_,rfl,rfl,rfl,hs⟩)
       | (exfalso; simp only [Option.toList,beq_iff_eq] at hi; obtain ⟨⟨_,hr⟩,hs⟩:=hi; subst hr; exact hsp2 ⟨_,_,_,_,_,rfl,rfl,rfl,hs⟩))
    rcases hold with h | ⟨x,rfl⟩ | ⟨x,rfl⟩
    ·refine ⟨fun j hj=>?_,fun j hj=>?_⟩
     ·rw [hj] at h
      simp only [Bool.and_eq_true,Bool.not_eq_true',List.contains_eq_mem,decide_eq_false_iff_not,bne_iff_ne,ne_eq] at h
      exact h.1
     ·rw [hj] at h
      simp only [Bool.and_eq_true,Bool.not_eq_true',List.contains_eq_mem,decide_eq_false_iff_not] at h
      exact h.2
    ·exact ⟨fun j hj=>by simp [z34] at hj,fun j hj=>by simp [z8d]⟩
    ·exact ⟨fun j hj=>by simp [z8d,z34],fun j hj=>by simp [z34] at hj⟩
   have eb':effOf t H B=some (u',wb):=by
    rw [← eb]
    refine zsr (by rw [z7h]) (fun j hj=>?_) (fun j hj=>?_)
    ·rw [zq7]
     intro e; rw [wA] at e; exact (hind.1 j e).1 hj
    ·rw [zq7]
     intro e; rw [wA] at e; exact (hind.1 j e).2 hj
   have ea':effOf s (zh4 H wb) A=some (v',wa):=by
    rw [← ea]
    refine zsr (by rw [z7h]) (fun j hj=>?_) (fun j hj=>?_)
    ·rw [zq7]
     intro e; rw [wB] at e; exact hind.2 j e hj
    ·rw [zq7]
     intro e; rw [wB] at e; exact (hind.1 j hj).2 e
   have hcomm:zh4 (zh4 H wb) wa=zh4 (zh4 H wa) wb:=by
    cases wa with
    | none=>rfl
    | some p=>cases wb with
      | none=>rfl
      | some q=>
        simp only [zh4]
        have:p.1≠q.1:=by
         intro e
         have h1:z34 s A=some p.1:=by rw [← wA]; rfl
         have h2:z34 t B=some q.1:=by rw [← wB]; rfl
         exact (hind.1 p.1 h1).2 (by rw [h2,e])
        rw [List.set_comm _ _ this]
   refine ⟨zh4 H wb,by rw [zp7 hnB hnpB,eb']; rfl,by rw [zp7 hnA hnpA,ea']; simp [hcomm],?_,?_⟩
   ·have hr:∀ i,z34 t B=some i→(zh4 H wa).getD i (.dead 0)=H.getD i (.dead 0)∧(zh4 (zh4 H wa) wb).getD i (.dead 0)=(zh4 H wb).getD i (.dead 0):=by
     intro i hi
     have hne:wa.map (·.1)≠some i:=fun e=>by rw [wA] at e; exact (hind.1 i e).2 hi
     rw [← hcomm]
     simp only [List.getD_eq_getElem?_getD,zq7 hne,and_self]
    cases B <;> first | rfl | exact absurd rfl (hnB _ _) | (rename_i ids id f; have:=hr id rfl; simp only [recOf]; rw [this.1,this.2])
   ·have hr:∀ i,z34 s A=some i→(zh4 H wb).getD i (.dead 0)=H.getD i (.dead 0)∧(zh4 (zh4 H wa) wb).getD i (.dead 0)=(zh4 H wa).getD i (.dead 0):=by
     intro i hi
     have hne:wb.map (·.1)≠some i:=fun e=>by rw [wB] at e; exact (hind.1 i hi).2 e
     simp only [List.getD_eq_getElem?_getD,zq7 hne,and_self]
    cases A <;> first | rfl | exact absurd rfl (hnA _ _) | (rename_i ids id f; have:=hr id rfl; simp only [recOf]; rw [this.1,this.2])
theorem z5q {o:AOper} {t:Nat} (h:AOperand.tmp t∈o.op.operands):t∈o.looks:=by
 simp only [AOper.looks,List.mem_append,List.mem_filterMap]
 exact .inl ⟨.tmp t,h,rfl⟩
theorem zew {e:Nat→AV} {o:AOper} {dst:Option Nat} {v:AV} (h:∀ d,dst=some d→d∉o.looks):z88 (upd e dst v) o=z88 e o∧actOf (zk (upd e dst v)) o.op=actOf (zk e) o.op:=by
 cases dst with
 | none=>exact ⟨rfl,rfl⟩
 | some d=>
   have hd:=h d rfl
   constructor
   ·unfold z88
    cases hg:o.guard with
    | none=>rfl
    | some p=>
      obtain ⟨g,wv⟩:=p
      have:g≠d:=fun e=>hd (by subst e; simp [AOper.looks,hg])
      simp only [upd,if_neg this]
   ·apply zdu
    intro x hx
    cases x with
    | tmp t=>
      have:t≠d:=fun e=>hd (by subst e; exact z5q hx)
      simp only [zk,upd,if_neg this]
    | const v=>rfl
    | func f=>rfl
theorem zjx {x y:AOper} (h:x.apart y=true):(∀ d,x.dst=some d→d∉y.looks)∧(∀ d,x.dst=some d→y.dst≠some d)∧(∀ d,y.dst=some d→d∉x.looks):=by
 simp only [AOper.apart,Bool.and_eq_true] at h
 obtain ⟨h1,h2⟩:=h
 refine ⟨fun d hd=>?_,fun d hd=>?_,fun d hd=>?_⟩
 ·rw [hd] at h1; simp at h1; exact h1.1
 ·rw [hd] at h1; simp at h1; exact h1.2
 ·rw [hd] at h2; simpa using h2
theorem z6q {e:Nat→AV} {x y:Option Nat} {v u:AV} (h:∀ d,x=some d→y≠some d):upd (upd e x v) y u=upd (upd e y u) x v:=by
 cases x with
 | none=>rfl
 | some d=>cases y with
   | none=>rfl
   | some d'=>
     have:d'≠d:=fun e=>h d rfl (by rw [e])
     funext t
     simp only [upd]
     by_cases h1:t=d <;> by_cases h2:t=d' <;> simp_all
theorem zqz {call:CallF} {s t:Nat} {x y:AOper} {e:Nat→AV} {H H1 H2:Heap} {v u:AV} {rx ry:Rec} (hap:x.apart y=true)
 (h1:hact call s e x H=some (v,H1,rx)) (h2:hact call t (upd e x.dst v) y H1=some (u,H2,ry)) (hi:rx.indep ry=true) :
 ∃ H1',hact call t e y H=some (u,H1',ry)∧hact call s (upd e y.dst u) x H1'=some (v,H2,rx)∧upd (upd e x.dst v) y.dst u=upd (upd e y.dst u) x.dst v:=by
 obtain ⟨a1,a2,a3⟩:=zjx hap
 have e1:=zew (e:=e) (o:=y) (dst:=x.dst) (v:=v) a1
 have e2:=zew (e:=e) (o:=x) (dst:=y.dst) (v:=u) a3
 unfold hact at h1 h2
 rw [e1.1,e1.2] at h2
 cases hwx:z88 e x with
 | none=>rw [hwx] at h1; simp at h1
 | some bx=>
   cases hwy:z88 e y with
   | none=>rw [hwy] at h2; simp at h2
   | some cy=>
     rw [hwx] at h1; rw [hwy] at h2
     cases bx with
     | false=>
       simp only [Option.some.injEq,Prod.mk.injEq] at h1
       obtain ⟨rfl,rfl,rfl⟩:=h1
       refine ⟨H2,?_,?_,z6q a2⟩
       ·unfold hact; rw [hwy]; exact h2
       ·unfold hact; rw [e2.1,hwx]
     | true=>
       simp only at h1
       split at h1
       ·rename_i v0 H0 hr
        simp only [Option.some.injEq,Prod.mk.injEq] at h1
        obtain ⟨rfl,rfl,rfl⟩:=h1
        cases cy with
        | false=>
          simp only [Option.some.injEq,Prod.mk.injEq] at h2
          obtain ⟨rfl,rfl,rfl⟩:=h2
          refine ⟨H,?_,?_,z6q a2⟩
          ·unfold hact; rw [hwy]
          ·unfold hact; rw [e2.1,hwx,e2.2]; simp only [hr]
        | true=>
          simp only at h2
          split at h2
          ·rename_i u0 H0' hr'
           simp only [Option.some.injEq,Prod.mk.injEq] at h2
           obtain ⟨rfl,rfl,rfl⟩:=h2
           obtain ⟨H1',g1,g2,g3,g4⟩:=zq31 hr hr' hi
           refine ⟨H1',?_,?_,z6q a2⟩
           ·unfold hact; rw [hwy]; simp only [g1,g3]
           ·unfold hact; rw [e2.1,hwx,e2.2]; simp only [g2,g4]
          ·simp at h2
       ·simp at h1
end Go.Abs
