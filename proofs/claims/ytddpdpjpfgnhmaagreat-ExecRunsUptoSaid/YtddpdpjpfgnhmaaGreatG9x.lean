/- Abs: what does not run one way alone: ranges over maps, and calls of what ranges over them. Definitions, and one operation. -/
import Derived.Test.YtddpdpjpfgnhmaaGreatG8x
set_option linter.unusedSimpArgs false
set_option linter.unusedVariables false
set_option maxHeartbeats 4000000
namespace Go.Abs
open Go.RowKit
abbrev zi5:=AV→List AV→Heap→(AV→Heap→Prop)→Prop
def z6l (es:List MEnt) (seen:List Nat):List MEnt:=es.filter fun e => !seen.contains e.born
def z7l (H:Heap) (K:AV→Heap→Prop):AV→Prop
 | .nilmap=>K (.ptr H.length 0 0 0) (H++[.iter 0 .nilmap 0 [] 0])
 | .map mid mg=>match H[mid]? with
   | some (.map g _ clock)=>g=mg∧K (.ptr H.length 0 0 0) (H++[.iter 0 (.map mid mg) clock [] clock])
   | _=>False
 | _=>False
def nextN (H:Heap) (K:AV→Heap→Prop):AV→Prop
 | .ptr id gen 0 0=>match H[id]? with
   | some (.iter g .nilmap _ _ _)=>g=gen∧K (.tuple [.bool false]) H
   | some (.iter g (.map mid mg) since seen last)=>g=gen∧match H[mid]? with
     | some (.map g' es clock)=>g'=mg∧(!seen.isEmpty && !es.isEmpty && es.all fun e=>decide (e.born≥last))=false ∧
       ((z6l es seen).filter (fun e=>decide (e.born < since))=[]→K (.tuple [.bool false]) H) ∧
       ∀ e∈z6l es seen,K (.tuple [.bool true,e.key,e.val]) (H.set id (.iter g (.map mid mg) since (seen++[e.born]) clock))
     | _=>False
   | _=>False
 | _=>False
def z8l (H:Heap) (K:AV→Heap→Prop):AV→Prop
 | .ptr id gen 0 0=>match H[id]? with
   | some (.iter g (.map mid mg) _ seen stepped)=>g=gen∧match H[mid]?,seen.getLast? with
     | some (.map g' es clock),some stamp=>g'=mg∧clock=stepped∧∃ e,es.find? (fun e=>e.born == stamp)=some e∧K (.tuple [e.key,e.val]) H
     | _,_=>False
   | _=>False
 | _=>False
def NACT (call:CallF) (callN:zi5) (H:Heap) (ρ:AOperand→AV) (K:AV→Heap→Prop):AOp→Prop
 | .call f args=>callN (ρ f) (args.map ρ) H K
 | .invoke ms x args=>match ρ x with
   | .iface t v=>match ms.lookup t with
     | some f=>callN (.func f [] []) (v::args.map ρ) H K
     | none=>False
   | _=>False
 | .rangeM x=>z7l H K (ρ x)
 | .nextM x=>nextN H K (ρ x)
 | .entryM x=>z8l H K (ρ x)
 | op=>∃ v H',zd call none H (actOf ρ op)=some (v,H')∧K v H'
def AOp.nd:AOp→Bool
 | .call .. | .invoke .. | .rangeM _ | .nextM _ | .entryM _=>true
 | _=>false
theorem zah {call:CallF} {callN:zi5} {H:Heap} {ρ:AOperand→AV} {K:AV→Heap→Prop} {op:AOp} (h:op.nd=false):NACT call callN H ρ K op=∃ v H',zd call none H (actOf ρ op)=some (v,H')∧K v H':=by
 cases op <;> first | rfl | (simp [AOp.nd] at h)
def NSTEP (call:CallF) (callN:zi5) (o:AOper) (s:RSt) (K:RSt→Prop):Prop:=match z93 s o with
 | some true=>NACT call callN s.heap (evalA s.loc s.tm) (fun v H=>K (s.put o v H)) o.op
 | some false=>K (s.put o .skipped s.heap)
 | none=>False
def NOPS (call:CallF) (callN:zi5):List AOper→RSt→(RSt→Prop)→Prop
 | [],s,K=>K s
 | o::os,s,K=>NSTEP call callN o s fun s'=>NOPS call callN os s' K
theorem zbh {call:CallF} {callN:zi5} {o:AOper} {s:RSt} {K:RSt→Prop} (hd:o.op.nd=false) (h:NSTEP call callN o s K):∃ s',stepA call none o s=some s'∧K s':=by
 unfold NSTEP at h
 unfold stepA
 split at h
 ·rename_i hw
  rw [zah hd] at h
  obtain ⟨v,H',hr,hk⟩:=h
  exact ⟨_,by simp only [hw,hr],hk⟩
 ·rename_i hw; exact ⟨_,by simp only [hw],h⟩
 ·exact h.elim
def z98 (CR:CRel) (P:Program) (callN:zi5):Prop:=
 ∀ (fv:AV) (args:List AV) (H:Heap) (R:AV→Heap→Prop),callN fv args H R →
   ∀ (W:BaseW) (φ:Frz) (μ:List Loc) (w:World) (u:Value) (us:Array Value),WR CR W φ μ H w→VR φ μ fv u→VRs φ μ args us.toList →
     Goes P fv (fun v w'=>∃ r H' φ' μ',R r H'∧FExt φ φ'∧MExt μ μ'∧WR CR W φ' μ' H' w'∧VR φ' μ' r v) ((do let d ← Deferred.ofValue u us; invoke d.target d.args:Sem Next).run P w)
variable {CR:CRel} {P:Program} {W:BaseW} {w:World} {φ:Frz} {μ:List Loc} {H H':Heap} {a:Act} {call:CallF} {callN:zi5} {kept:Nat→Bool} {ops:Array Oper} {Q:Exit→Act→World→Prop} {ro:Option Nat} {n:Nat}
theorem zwr {op:Op} {y:AOperand} (h:z53 P op=some (.rangeM y)):∃ t x k e,op=.range t x∧P.underlying t=some (.map k e)∧z7 x=some y:=by
 unfold z53 at h
 split at h
 case h_30 t x=>
  split at h
  ·rename_i h1 h2; simp only [Option.some.injEq,AOp.rangeM.injEq] at h; subst h; exact ⟨t,x,_,_,rfl,h1,h2⟩
  ·simp at h
 all_goals (exfalso; revert h; (repeat' split) <;> simp)
theorem zfu {op:Op} {y:AOperand} (h:z53 P op=some (.nextM y)):∃ x,op=.next x false∧z7 x=some y:=by
 unfold z53 at h
 split at h
 case h_31 x=>
  split at h
  ·rename_i h2; simp only [Option.some.injEq,AOp.nextM.injEq] at h; subst h; exact ⟨x,rfl,h2⟩
  ·simp at h
 all_goals (exfalso; revert h; (repeat' split) <;> simp)
theorem zxr {op:Op} {y:AOperand} (h:z53 P op=some (.entryM y)):∃ x,op=.entry x∧z7 x=some y:=by
 unfold z53 at h
 split at h
 case h_32 x=>
  split at h
  ·rename_i h2; simp only [Option.some.injEq,AOp.entryM.injEq] at h; subst h; exact ⟨x,rfl,h2⟩
  ·simp at h
 all_goals (exfalso; revert h; (repeat' split) <;> simp)
theorem WR.setObj {CR:CRel} (hw:WR CR W φ μ H w) {id:Nat} {B B':Blk} {l:Loc} {o:Obj} (hB:H[id]? = some B) (hl:μ[id]? = some l) (hv:B.live=true) (hg:B'.gen=l.gen)
 (hb:BR CR φ μ { w with heap:=w.heap.setIfInBounds l.b o } l B'):WR CR W φ μ (H.set id B') { w with heap:=w.heap.setIfInBounds l.b o }:=by
 have hown:=hw.own id _ l hB hl hv
 have hidl:=(List.getElem?_eq_some_iff.1 hB).1
 refine hw.change (k:=id) (B:=B') (l:=l) (fun j hj b hb=>by simpa [Ne.symm hj] using hb) (fun j hj l' hl'=>hl') (by simp [hidl]) hl (by simp [hw.len]) (MExt.refl μ)
  ⟨rfl,rfl,rfl,by simp,fun k hk=>?_⟩ (fun b hb hne=>?_) hown.2.2 hg ⟨hown.1,by simpa using hown.2.1⟩ hb (fun j B' l' hj h1 h2 h3=>hw.apart j id B' _ l' l hj h1 hB h2 hl h3 hv)
 ·have:l.b≠k:=by omega
  simp [this]
 ·simp [Ne.symm hne]
theorem zrn (n:Nat) (w:World):∃ k d,(choose (.mapNext n)).run P w=.ok k { w with drawn:=d }∧(0 < n→k < n):=by
 by_cases h:(Question.mapNext n).forced=true
 ·refine ⟨0,w.drawn,?_,fun h=>h⟩
  simp [choose,Sem.run,h]
 ·refine ⟨w.tape w.drawn (.mapNext n) % n,w.drawn + 1,?_,fun h=>Nat.mod_lt _ h⟩
  simp only [choose,Sem.run,if_neg h]
  rfl
def MapR (CR:CRel) (P:Program) (W:BaseW) (φ:Frz) (μ:List Loc) (sem:Sem Value) (w:World) (K:AV→Heap→Prop):Prop:=
 ∃ u w' μ' v H',sem.run P w=.ok u w'∧WR CR W φ μ' H' w'∧MExt μ μ'∧VR φ μ' v u∧K v H'
theorem z3b {b since last:Nat} {m:Option Nat} {seen:Array Nat} (h:w.heap[b]? = some (.mapIter m since seen last)):(getObj b).run P w=.ok (.mapIter m since seen last) w:=by
 simp [getObj,Sem.run,h]
theorem z9l {b since last:Nat} {m:Option Nat} {seen:Array Nat} {o:Obj} (h:w.heap[b]? = some (.mapIter m since seen last)):(setObj b o).run P w=.ok () { w with heap:=w.heap.setIfInBounds b o }:=by
 simp [setObj,Sem.run,h]
theorem zox {t k e:TypeId} (ht:P.underlying t=some (.map k e)) {K:AV→Heap→Prop} (hw:WR CR W φ μ H w) {x:AV} {u:Value} (hx:VR φ μ x u) (h:z7l H K x):MapR CR P W φ μ (Instr.range t u) w K:=by
 unfold z7l at h
 split at h
 ·cases hx
  have hw':=hw.new (slot:=none) (l:=⟨w.heap.size,0,1,0,0⟩) (o:=.mapIter none 0 #[] 0) (B:=.iter 0 .nilmap 0 [] 0) .back rfl rfl rfl (.iterNil (by simp; exact ⟨rfl,rfl,rfl⟩) rfl)
  refine ⟨.pointer (some ⟨w.heap.size,0,none⟩),_,_,_,_,?_,hw',zp5 hw .back rfl, .ptr (l:=⟨w.heap.size,0,1,0,0⟩) (zfc hw.len .back _) (Nat.le_refl _) (fun _=>by simp),h⟩
  simp [Instr.range,run_underlying ht]
 ·rename_i mid mg
  split at h
  ·rename_i g es clock hB
   obtain ⟨rfl,h⟩:=h
   have hx0:=hx
   obtain ⟨l,fs,rfl,hl,hm,he⟩:=hw.mapAt hB hx
   have hw':=hw.new (slot:=none) (l:=⟨w.heap.size,0,1,0,0⟩) (o:=.mapIter (some l.b) clock #[] clock) (B:=.iter 0 (.map mid g) clock [] clock) .back rfl rfl rfl
    (.iter (m:=l.b) (by simp) (hx0.mono (FExt.refl φ) (zp5 hw .back rfl)) rfl)
   refine ⟨.pointer (some ⟨w.heap.size,0,none⟩),_,_,_,_,?_,hw',zp5 hw .back rfl, .ptr (l:=⟨w.heap.size,0,1,0,0⟩) (zfc hw.len .back _) (Nat.le_refl _) (fun _=>by simp),h⟩
   simp [Instr.range,run_underlying ht,z02 hm]
  ·exact h.elim
 ·exact h.elim
theorem zlo {es:List MEnt} {fs:List MapEntry} (h:EntsR φ μ es fs):es.map (·.born)=fs.map (·.born):=by
 apply List.ext_getElem?
 intro i
 simp only [List.getElem?_map]
 by_cases hi:i < es.length
 ·have hi':i < fs.length:=by rw [← h.1]; exact hi
  rw [List.getElem?_eq_getElem hi,List.getElem?_eq_getElem hi']
  simp only [Option.map_some,Option.some.injEq]
  exact (h.2 i _ _ (List.getElem?_eq_getElem hi) (List.getElem?_eq_getElem hi')).born
 ·rw [List.getElem?_eq_none (by omega),List.getElem?_eq_none (by rw [← h.1]; omega)]
  rfl
theorem ztz {es:List MEnt} {fs:List MapEntry} (h:EntsR φ μ es fs) {f:MapEntry} (hf:f∈fs):∃ e∈es,EntR φ μ e f:=by
 obtain ⟨i,hi⟩:=List.mem_iff_getElem?.1 hf
 have hlt:=(List.getElem?_eq_some_iff.1 hi).1
 have hlt':i < es.length:=by rw [h.1]; exact hlt
 exact ⟨es[i],List.getElem_mem hlt',h.2 i _ _ (List.getElem?_eq_getElem hlt') hi⟩
theorem zs31 {es:List MEnt} {fs:List MapEntry} (h:es.map (·.born)=fs.map (·.born)) (p:Nat→Bool):(es.all fun e=>p e.born)=fs.all fun f=>p f.born:=by
 have:=congrArg (fun l=>l.all p) h
 simpa [List.all_map,Function.comp_def] using this
theorem zgu {es:List MEnt} {fs:List MapEntry} (h:es.map (·.born)=fs.map (·.born)) (p:Nat→Bool):es.filter (fun e=>p e.born)=[]↔fs.filter (fun f=>p f.born)=[]:=by
 have:=congrArg (fun l=>(l.filter p).length) h
 simp only [List.filter_map,List.length_map,Function.comp_def] at this
 rw [← List.length_eq_zero_iff,← List.length_eq_zero_iff,this]
theorem zuz {K:AV→Heap→Prop} (hw:WR CR W φ μ H w) {ty:TypeId} {x:AV} {u:Value} (hx:VR φ μ x u) (h:nextN H K x):MapR CR P W φ μ (Instr.next u false ty) w K:=by
 unfold nextN at h
 split at h
 ·rename_i id gen
  cases hx with
  | ptr hl hgl ha=>
  rename_i l ad
  split at h
  ·rename_i g since seen last hB
   obtain ⟨rfl,h⟩:=h
   have hg:g=l.gen:=hw.gen id _ l hB hl
   have:=ha hg.symm
   subst this
   cases hw.blk id _ l hB hl with
   | iterNil hm ho=>
     refine ⟨.tuple #[.bool false],w,μ,_,_,?_,hw,MExt.refl μ,?_,h⟩
     ·simp [Instr.next,ho,z3b hm]
     ·exact .tuple (vs:=[.bool false]) rfl (fun i x v h1 h2=>by
       cases i with
       | zero=>simp at h1 h2; subst h1; subst h2; exact .bool _
       | succ i=>simp at h1)
   | iter hm hv ho=>cases hv
  ·rename_i g mid mg since seen last hB
   obtain ⟨rfl,h⟩:=h
   have hg:g=l.gen:=hw.gen id _ l hB hl
   have:=ha hg.symm
   subst this
   cases hw.blk id _ l hB hl with
   | iter hm hv ho=>
     rename_i m
     split at h
     ·rename_i g' es clock hM
      obtain ⟨rfl,hn,hover,hk⟩:=h
      obtain ⟨lm,fs,em,hlm,hmm,hes⟩:=hw.mapAt hM hv
      simp only [Value.map.injEq,Option.some.injEq] at em
      subst em
      have hb:=zlo hes
      let left:=fs.filter fun e => !seen.toArray.contains e.born
      let old:=left.filter (·.born < since)
      let new:=left.filter (·.born≥since)
      let candidates:=(if old.isEmpty then #[none] else #[])++(old++new).map some
      obtain ⟨k,d,hch,hlt⟩:=zrn (P:=P) candidates.size w
      have hn':(!seen.toArray.isEmpty && !fs.isEmpty && fs.all (·.born≥last))=false:=by
       have e1:seen.toArray.isEmpty=seen.isEmpty:=by simp
       have e2:fs.isEmpty=es.isEmpty:=by
        have h1:fs.isEmpty=fs.toList.isEmpty:=by simp
        have h2:=hes.1
        rw [h1]
        cases es <;> cases hf:fs.toList <;> simp_all
       have e3:(es.all fun e=>decide (e.born≥last))=fs.all (fun e=>decide (e.born≥last)):=by
        rw [zs31 hb (fun b=>decide (b≥last))]; simp
       rw [e1,e2,← e3]; exact hn
      have hrun:∀ (r:Option MapEntry),candidates[k]? = some r→(Instr.next (.pointer (some ⟨l.b,l.o + 0 * l.sz + 0,none⟩)) false ty).run P w =
       (match r with
       | some e=>(do setObj l.b (.mapIter (some lm.b) since (seen.toArray.push e.born) clock); pure (.tuple #[.bool true,e.key,e.val]):Sem Value)
       | none=>pure (.tuple #[.bool false])).run P { w with drawn:=d }:=by
       intro r hr
       have h0:l.o + 0 * l.sz + 0=0:=by simp [ho]
       rw [h0]
       simp only [Instr.next,Sem.run_bind,z3b hm,Result.andThen_ok,z02 hmm]
       rw [if_neg (by rw [hn']; simp)]
       simp only [Sem.run_bind,Sem.run_pure,Result.andThen_ok]
       have hch':=hch
       simp only [candidates,old,new,left] at hch' hr
       simp only [hch',Result.andThen_ok,hr]
       cases r <;> rfl
      have hpos:0 < candidates.size:=by
       simp only [candidates]
       by_cases ho:old.isEmpty=true
       ·simp [ho]; omega
       ·have:0 < old.size:=by
         simp only [Array.isEmpty_iff_size_eq_zero] at ho
         omega
        simp; omega
      have hkl:=hlt hpos
      have hr:candidates[k]? = some candidates[k]:=Array.getElem?_eq_getElem hkl
      have hwd:WR CR W φ μ H { w with drawn:=d }:=hw.world ⟨rfl,rfl,rfl,Nat.le_refl _,fun _ _=>rfl⟩ rfl
      have hrun:=hrun _ hr
      have hcase:(candidates[k]=none∧old.isEmpty=true)∨∃ e,candidates[k]=some e∧e∈left:=by
       have hmem:candidates[k]∈candidates:=Array.getElem_mem hkl
       generalize candidates[k]=r at hmem
       simp only [candidates,Array.mem_append,Array.mem_map] at hmem
       rcases hmem with hmem | ⟨e,he,rfl⟩
       ·split at hmem
        ·rename_i hoe; simp at hmem; exact .inl ⟨hmem,hoe⟩
        ·simp at hmem
       ·refine .inr ⟨e,rfl,?_⟩
        rcases he with he | he <;> exact (Array.mem_filter.1 he).1
      rcases hcase with ⟨hc,hoe⟩ | ⟨e,hc,hel⟩
      ·rw [hc] at hrun
       refine ⟨.tuple #[.bool false],_,μ,_,_,hrun,hwd,MExt.refl μ,?_,hover ?_⟩
       ·exact .tuple (vs:=[.bool false]) rfl (fun i x v h1 h2=>by
         cases i with
         | zero=>simp at h1 h2; subst h1; subst h2; exact .bool _
         | succ i=>simp at h1)
       ·have hz:(fs.toList.filter fun f => !seen.contains f.born && decide (f.born < since))=[]:=by
         have:old=#[]:=by simpa using hoe
         have h2:old.toList=[]:=by rw [this]
         simp only [old,left,Array.toList_filter,List.filter_filter] at h2
         simp only [List.contains_toArray] at h2
         rw [← h2]
         congr 1; funext f; rw [Bool.and_comm]
        have:=(zgu hb (fun b => !seen.contains b && decide (b < since))).2 hz
        unfold z6l
        rw [List.filter_filter]
        rw [← this]
        congr 1; funext f; rw [Bool.and_comm]
      ·rw [hc] at hrun
       have hef:e∈fs.toList:=by
        have:=(Array.mem_filter.1 hel).1
        simpa using this
       have hns:seen.contains e.born=false:=by
        have:=(Array.mem_filter.1 hel).2
        simpa using this
       obtain ⟨e',he',hr'⟩:=ztz hes hef
       have hK:=hk e' (by
        unfold z6l
        refine List.mem_filter.2 ⟨he',?_⟩
        rw [hr'.born,hns]; rfl)
       have hlb:=(hw.own id _ l hB hl rfl).2.1
       have hset:=hwd.setObj (o:=.mapIter (some lm.b) since (seen.toArray.push e.born) clock) (B':=.iter g (.map mid g') since (seen++[e'.born]) clock) hB hl rfl hg
        (.iter (m:=lm.b) (by rw [hr'.born]; simp [hlb]) hv ho)
       refine ⟨.tuple #[.bool true,e.key,e.val],_,μ,_,_,hrun.trans ?_,hset,MExt.refl μ,?_,hK⟩
       ·have hm':({ w with drawn:=d }:World).heap[l.b]? = some (.mapIter (some lm.b) since seen.toArray last):=hm
        simp only [Sem.run_bind,z9l hm',Result.andThen_ok,Sem.run_pure]
       ·exact .tuple (vs:=[.bool true,e.key,e.val]) rfl (fun i x v h1 h2=>by
         match i with
         | 0=>simp at h1 h2; subst h1; subst h2; exact .bool _
         | 1=>simp at h1 h2; subst h1; subst h2; exact hr'.key
         | 2=>simp at h1 h2; subst h1; subst h2; exact hr'.val
         | i + 3=>simp at h1)
     ·exact h.elim
  ·exact h.elim
 ·exact h.elim
theorem zpx {K:AV→Heap→Prop} (hw:WR CR W φ μ H w) {x:AV} {u:Value} (hx:VR φ μ x u) (h:z8l H K x):MapR CR P W φ μ (Instr.entry u) w K:=by
 unfold z8l at h
 split at h
 ·rename_i id gen
  cases hx with
  | ptr hl hgl ha=>
  rename_i l ad
  split at h
  ·rename_i g mid mg since seen stepped hB
   obtain ⟨rfl,h⟩:=h
   have hg:g=l.gen:=hw.gen id _ l hB hl
   have:=ha hg.symm
   subst this
   cases hw.blk id _ l hB hl with
   | iter hm hv ho=>
     rename_i m
     split at h
     ·rename_i g' es clock stamp hM hst
      obtain ⟨rfl,rfl,e,hfind,hk⟩:=h
      obtain ⟨lm,fs,em,hlm,hmm,hes⟩:=hw.mapAt hM hv
      simp only [Value.map.injEq,Option.some.injEq] at em
      subst em
      have hback:seen.toArray.back? = some stamp:=by simpa using hst
      have hf:∃ f,fs.find? (fun e=>e.born == stamp)=some f∧EntR φ μ e f:=by
       have hb:=zlo hes
       rw [List.find?_eq_some_iff_getElem] at hfind
       obtain ⟨h1,i,hi,h2,h3⟩:=hfind
       have hi':i < fs.toList.length:=by rw [← hes.1]; exact hi
       have hbi:∀ j (hj:j < es.length),es[j].born=(fs.toList[j]'(by rw [← hes.1]; exact hj)).born:=fun j hj=>(hes.2 j _ _ (List.getElem?_eq_getElem hj) (List.getElem?_eq_getElem (by rw [← hes.1]; exact hj))).born
       refine ⟨fs.toList[i],?_,?_⟩
       ·rw [← Array.find?_toList,List.find?_eq_some_iff_getElem]
        refine ⟨?_,i,hi',rfl,fun j hj=>?_⟩
        ·rw [← hbi i hi,h2]; exact h1
        ·have:=h3 j hj
         rw [hbi j (by omega)] at this; exact this
       ·have:=hes.2 i _ _ (List.getElem?_eq_getElem hi) (List.getElem?_eq_getElem hi')
        rw [h2] at this; exact this
      obtain ⟨f,hf,hr⟩:=hf
      refine ⟨.tuple #[f.key,f.val],w,μ,_,_,?_,hw,MExt.refl μ,?_,hk⟩
      ·simp [Instr.entry,ho,z3b hm,hback,z02 hmm,hf]
      ·exact .tuple (vs:=[f.key,f.val]) rfl (fun i x v h1 h2=>by
        match i with
        | 0=>simp at h1 h2; subst h1; subst h2; exact hr.key
        | 1=>simp at h1 h2; subst h1; subst h2; exact hr.val
        | i + 2=>simp at h1)
     ·exact h.elim
  ·exact h.elim
 ·exact h.elim
theorem zrj (P:Program) (kept:Nat→Bool) (ops:Array Oper) (o:Oper):(zm P kept ops o).dst=o.dst:=by
 unfold zm
 cases o.guard with
 | none=>rfl
 | some p=>simp only; cases (ops[p.1]?).bind (·.dst) <;> rfl
theorem zt31 (hcall:z7a CR P call) (hN:z98 CR P callN) {i:Nat} {oc:Oper} (hi:ops[i]? = some oc) {e:Nat→AV} {K':AV→Heap→Prop}
 (hst:match z88 e (zm P kept ops oc) with
  | some true=>NACT call callN H (zk e) K' (zm P kept ops oc).op
  | some false=>K' .skipped H
  | none=>False)
 (he:EnvR φ μ e a) (hw:WR CR W φ μ H w) (hsz:∀ d,oc.dst=some d→d < a.tmps.size) {K:Act→World→Prop}
 (hK:∀ v H',K' v H'→∀ a' w' φ' μ',FExt φ φ'→MExt μ μ'→EnvR φ' μ' (upd e oc.dst v) a'→WR CR W φ' μ' H' w'→a'.tmps.size=a.tmps.size→a'.defers=a.defers→K a' w') :
 wpOpIn (Fk ro) n P ops Q i K a w:=by
 have hdst:=zrj P kept ops oc
 have det:∀ v H',stepE call none (zm P kept ops oc) e H=some (upd e oc.dst v,H',v)→K' v H'→wpOpIn (Fk ro) n P ops Q i K a w:=fun v H' h1 h2=>
  zsz hcall hi h1 he hw hsz (fun a' w' φ' μ' g1 g2 g3 g4 g5 g6=>hK v H' h2 a' w' φ' μ' g1 g2 g3 g4 g5 g6)
 cases hwe:z88 e (zm P kept ops oc) with
 | none=>rw [hwe] at hst; exact hst.elim
 | some b=>
   rw [hwe] at hst
   cases b with
   | false=>exact det _ _ (by simp only [stepE,hwe,hdst]) hst
   | true=>
     simp only at hst
     by_cases hnd:(zm P kept ops oc).op.nd=false
     ·rw [zah hnd] at hst
      obtain ⟨v,H',hr,hk⟩:=hst
      exact det v H' (by simp only [stepE,hwe,hr,hdst]) hk
     ·have hbad:(zm P kept ops oc).op≠.bad:=by rintro h; rw [h] at hnd; exact hnd rfl
      obtain ⟨ao,hc0,hop,hd,hg⟩:=z2b kept ops oc hbad
      have hc:z53 P oc.op=some (zm P kept ops oc).op:=by
       rcases hop with h | ⟨f,xs,_,h⟩
       ·rw [h]; exact hc0
       ·rw [h] at hnd; exact absurd rfl hnd
      have hputs:∀ (d:Option Nat) (u:Value),(a.put d u).tmps.size=a.tmps.size∧(a.put d u).defers=a.defers:=fun d u=>by cases d <;> simp [Act.put]
      have hwant:Region.wanted oc (yielded ops a.tmps)=true:=z7g he hwe hg
      unfold wpOpIn
      rw [hi]
      simp only [hwant,if_true]
      refine ⟨fun _ _=>trivial,?_⟩
      rw [Oper.semAt_eq _ _ _ (z5l hc0)]
      have key:(∃ (fv:AV) (args:List AV) (u:Value) (us:Array Value),callN fv args H K'∧VR φ μ fv u∧VRs φ μ args us.toList ∧
       (execOp a.eval oc).run P w=(do let d ← Deferred.ofValue u us; invoke d.target d.args:Sem Next).run P w) ∨
       (∃ sem:Sem Value,MapR CR P W φ μ sem w K'∧execOp a.eval oc=(do pure (.value (← sem)):Sem Next)):=by
       generalize (zm P kept ops oc).op=op at hc hst hnd
       cases op <;> (try (simp [AOp.nd] at hnd; done))
       case call f args=>
        obtain ⟨c,g,hoc,hcal,hg1,hg2⟩:=z8g hc
        have hvf:=za he hg1
        have hva:=z14 he hg2
        exact .inl ⟨_,_,a.eval g,c.args.map a.eval,hst,hvf,by simpa using hva,by simp only [execOp,hoc,resolve,hcal]⟩
       case invoke ms x args=>
        simp only [NACT] at hst
        split at hst
        ·rename_i t x0 hx0
         split at hst
         ·rename_i f hlk
          obtain ⟨u,us,h1,h2,h3⟩:=z9h (w:=w) he hc hx0 hlk
          exact .inl ⟨_,_,u,us,hst,h1,h2,h3⟩
         ·exact hst.elim
        ·exact hst.elim
       case rangeM x=>
        obtain ⟨t,y,k,e0,hoc,ht,hy⟩:=zwr hc
        exact .inr ⟨_,zox (P:=P) ht hw (za he hy) hst,by simp only [execOp,hoc]⟩
       case nextM x=>
        obtain ⟨y,hoc,hy⟩:=zfu hc
        exact .inr ⟨_,zuz (P:=P) (ty:=oc.type) hw (za he hy) hst,by simp only [execOp,hoc]⟩
       case entryM x=>
        obtain ⟨y,hoc,hy⟩:=zxr hc
        exact .inr ⟨_,zpx (P:=P) hw (za he hy) hst,by simp only [execOp,hoc]⟩
      rcases key with ⟨fv,args,u,us,hr,hvf,hva,hex⟩ | ⟨sem,⟨u,w',μ',v,H',hrun,hw',hm,hv,hk⟩,hex⟩
      ·have hgo:=hN _ _ _ _ hr W φ μ w u us hw hvf hva
       rw [hex]
       generalize (do let d ← Deferred.ofValue u us; invoke d.target d.args:Sem Next).run P w=res at hgo
       cases res with
       | halt x w'=>exact hgo.elim
       | ok nx w'=>
         cases nx <;> simp only [Goes] at hgo <;> (try exact hgo.elim)
         case enter f' args'=>
          refine ⟨fun h=>by simp [Fence.wide] at h,?_⟩
          refine CallsIn.mono (hgo.2 (n - 1)) ?_
          rintro en w'' ⟨u,rfl,r,H',φ',μ',hk,h1,h2,h3,h4⟩
          exact hK r H' hk _ _ φ' μ' h1 h2 ((he.mono h1 h2).put h4 hsz) h3 (hputs _ _).1 (hputs _ _).2
         case round l f' tmps' a' b'=>
          refine ⟨fun h=>by simp [Fence.wide] at h,?_⟩
          refine RoundIn.mono (hgo.2 (n - 1)) ?_
          rintro en w'' ⟨u,rfl,r,H',φ',μ',hk,h1,h2,h3,h4⟩
          exact hK r H' hk _ _ φ' μ' h1 h2 ((he.mono h1 h2).put h4 hsz) h3 (hputs _ _).1 (hputs _ _).2
      ·have:(execOp a.eval oc).run P w=.ok (.value u) w':=by
        rw [hex]; simp [hrun]
       rw [this]
       exact hK v H' hk _ _ φ μ' (FExt.refl φ) hm ((he.mono (FExt.refl φ) hm).put hv hsz) hw' (hputs _ _).1 (hputs _ _).2
end Go.Abs
