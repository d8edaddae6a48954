/- Abs 15: operations on maps; every operation. -/
import Derived.Test.YtddpdpjpfgnhmaaGreatG1x
set_option linter.unusedSimpArgs false
set_option linter.unusedVariables false
set_option maxHeartbeats 4000000
namespace Go.Abs
open Go.RowKit
variable {CR:CRel} {P:Program} {W:BaseW} {w:World} {φ:Frz} {μ:List Loc} {H H':Heap} {look:Nat→AV} {a:Act} {call:CallF} {slot:Option Nat} {r:AV} {o:Oper} {ao:AOp}
theorem WR.mapAt (hw:WR CR W φ μ H w) {id gen c:Nat} {es:List MEnt} (hB:H[id]? = some (.map gen es c)) {u:Value} (hu:VR φ μ (.map id gen) u) :
 ∃ l fs,u=.map (some l.b)∧μ[id]? = some l∧w.heap[l.b]? = some (.map fs c)∧EntsR φ μ es fs.toList:=by
 cases hu with
 | map hl hg ha=>
   rename_i r l
   have hgl:gen=l.gen:=hw.gen id _ l hB hl
   have:=ha hgl.symm
   subst this
   cases hw.blk id _ l hB hl with
   | map hm he=>exact ⟨l,_,rfl,hl,hm,he⟩
theorem WR.setMap (hw:WR CR W φ μ H w) {id gen c c':Nat} {es es':List MEnt} {l:Loc} (hB:H[id]? = some (.map gen es c)) (hl:μ[id]? = some l) {fs fs':Array MapEntry} (hm:w.heap[l.b]? = some (.map fs c)) (he:EntsR φ μ es' fs'.toList) :
 WR CR W φ μ (H.set id (.map gen es' c')) { w with heap:=w.heap.setIfInBounds l.b (.map fs' c') }:=by
 have hown:=hw.own id _ l hB hl rfl
 have hidl:=(List.getElem?_eq_some_iff.1 hB).1
 refine hw.change (k:=id) (B:=.map gen es' c') (l:=l) (fun j hj b hb=>by simpa [Ne.symm hj] using hb) (fun j hj l' hl'=>hl') (by simp [hidl]) hl (by simp [hw.len]) (MExt.refl μ)
  ⟨rfl,rfl,rfl,by simp,fun k hk=>?_⟩ (fun b hb hne=>?_) hown.2.2 (hw.gen id (.map gen es c) l hB hl) ⟨hown.1,by simpa using hown.2.1⟩ (.map (fs:=fs') (by simp [hown.2.1]) he) (fun j B' l' hj h1 h2 h3=>hw.apart j id B' _ l' l hj h1 hB h2 hl h3 rfl)
 ·have:l.b≠k:=by omega
  simp [this]
 ·simp [Ne.symm hne]
theorem zf4 {b:Nat} {fs:Array MapEntry} {c:Nat} {o:Obj} (h:w.heap[b]? = some (.map fs c)):(setObj b o).run P w=.ok () { w with heap:=w.heap.setIfInBounds b o }:=by
 simp [setObj,Sem.run,h]
theorem z02 {b:Nat} {fs:Array MapEntry} {c:Nat} (h:w.heap[b]? = some (.map fs c)):(getObj b).run P w=.ok (.map fs c) w:=by
 simp [getObj,Sem.run,h]
theorem zgx {t:TypeId} {m k:Operand} {ok:Bool} (ho:o.op=.lookup t m k ok) {kt e:TypeId} (ht:P.underlying t=some (.map kt e)) {g:Bool} {ks:List CK} (hk:zv9 P kt=some (g,ks)) {z:AV} (hz:ze9 P e=some z)
 {m' k':AOperand} (hm':z7 m=some m') (hk':z7 k=some k') (he:EnvR φ μ look a) (hw:WR CR W φ μ H w)
 (h:zd call slot H (actOf (zk look) (.lookup g ks z m' k' ok))=some (r,H')):SimR CR P W φ μ o a.eval w r H':=by
 simp only [actOf] at h
 have hvm:=za he hm'
 have hvk:=za he hk'
 obtain ⟨i,zv,hi,hzv,hzr,hzo,h1⟩:=zd4 hz
 have pairR:∀ (x:AV) (v:Value) (b:Bool),VR φ μ x v→VR φ μ (if ok then .tuple [x, .bool b] else x) (if ok then .tuple #[v, .bool b] else v):=by
  intro x v b hv
  cases ok
  ·exact hv
  ·have:=VRs.cons hv (VRs.cons (VR.bool (φ:=φ) (μ:=μ) b) VRs.nil)
   exact VR.tuple (vs:=[v, .bool b]) this.1 this.2
 split at h
 ·rename_i hko
  split at h
  ·rename_i hmm
   obtain ⟨rfl,rfl⟩:=zf2 h
   rw [hmm] at hvm
   generalize hu:a.eval m=u at hvm
   cases hvm
   refine zi2 hw (v:=if ok then .tuple #[zv, .bool false] else zv) ?_ (pairR z zv false (hzr φ μ))
   have hfind:(Instr.findKey kt (a.eval k) []).run P w=.ok none w:=by
    obtain ⟨_,d,hd,_⟩:=zce hk
    simp [Instr.findKey,run_underlying hd,Instr.findNow]
   simp only [execOp,ho,Instr.lookup,Sem.run_bind,run_underlying ht,Result.andThen_ok,hu,Sem.run_pure,zy2 hk hko hvk,hfind,za9 hi hzv]
  ·rename_i id gen hmm
   obtain ⟨hf,rfl⟩:=zco h
   rw [hmm] at hvm
   rw [z37] at hf
   split at hf
   ·rename_i g' es c hB
    simp only [List.cons.injEq,and_true] at hB
    have hB:=zff hB
    split at hf
    ·rename_i eg; subst eg
     obtain ⟨l,fs,hu,hl,hmb,hes⟩:=hw.mapAt hB hvm
     unfold zm6 at hf
     split at hf
     ·rename_i j e0 hfe
      simp only [Option.some.injEq] at hf; subst hf
      obtain ⟨res',hr,hfound⟩:=zr5 (P:=P) (w:=w) hk hko hvk hes hfe
      cases res' with
      | none=>exact hfound.elim
      | some q=>
        obtain ⟨j',v⟩:=q
        obtain ⟨rfl,_,f,_,_,rfl,hef,_,_⟩:=hfound
        refine zi2 hw (v:=if ok then .tuple #[f.val, .bool true] else f.val) ?_ (pairR _ _ true hef.val)
        simp only [execOp,ho,Instr.lookup,Sem.run_bind,run_underlying ht,Result.andThen_ok,hu,Sem.run_pure,z02 hmb,zy2 hk hko hvk,hr]
     ·rename_i hfe
      simp only [Option.some.injEq] at hf; subst hf
      obtain ⟨res',hr,hfound⟩:=zr5 (P:=P) (w:=w) hk hko hvk hes hfe
      cases res' with
      | some q=>exact hfound.elim
      | none=>
        refine zi2 hw (v:=if ok then .tuple #[zv, .bool false] else zv) ?_ (pairR z zv false (hzr φ μ))
        simp only [execOp,ho,Instr.lookup,Sem.run_bind,run_underlying ht,Result.andThen_ok,hu,Sem.run_pure,z02 hmb,zy2 hk hko hvk,hr,za9 hi hzv]
     ·simp at hf
    ·simp at hf
   ·simp at hf
  ·simp [zd] at h
 ·simp [zd] at h
theorem z2l {es:List MEnt} {fs:Array MapEntry} (h:EntsR φ μ es fs.toList) {i:Nat} {e:MEnt} {f:MapEntry} (h1:EntR φ μ e f) (k:MapEntry→MapEntry) (hf:∀ g,fs[i]? = some g→k g=f):EntsR φ μ (es.set i e) (fs.modify i k).toList:=by
 have hlen:=h.1
 simp only [Array.length_toList] at hlen
 refine ⟨by simp [hlen],fun j e' f' h2 h3=>?_⟩
 have h3':(fs.modify i k)[j]? = some f':=by rw [← Array.getElem?_toList]; exact h3
 rw [Array.getElem?_modify] at h3'
 rw [List.getElem?_set] at h2
 split at h2
 ·rename_i hij
  subst hij
  split at h2
  ·simp only [Option.some.injEq] at h2; subst h2
   simp only [if_true] at h3'
   cases hg:fs[i]? with
   | none=>rw [hg] at h3'; simp at h3'
   | some g=>
     rw [hg] at h3'
     simp only [Option.map_some,Option.some.injEq] at h3'
     rw [hf g hg] at h3'; subst h3'; exact h1
  ·simp at h2
 ·rename_i hij
  rw [if_neg hij] at h3'
  exact h.2 j e' f' h2 (by simpa using h3')
theorem zho {es:List MEnt} {fs:Array MapEntry} (h:EntsR φ μ es fs.toList) {e:MEnt} {f:MapEntry} (h1:EntR φ μ e f):EntsR φ μ (es++[e]) (fs.push f).toList:=by
 have hlen:=h.1
 refine ⟨by simpa using hlen,fun j e' f' h2 h3=>?_⟩
 rw [Array.toList_push] at h3
 rw [List.getElem?_append] at h2 h3
 rw [← hlen] at h3
 split at h2
 ·rename_i hj
  rw [if_pos hj] at h3
  exact h.2 j e' f' h2 h3
 ·rename_i hj
  rw [if_neg hj] at h3
  have hlt:=(List.getElem?_eq_some_iff.1 h2).1
  simp at hlt
  have:j - es.length=0:=by omega
  rw [this] at h2 h3
  simp at h2 h3; subst h2; subst h3; exact h1
theorem z3h {t:TypeId} {m k v:Operand} (ho:o.op=.mapUpdate t m k v∨o.op=.insert t m k v) {kt e:TypeId} (ht:P.underlying t=some (.map kt e)) {g:Bool} {ks:List CK} (hk:zv9 P kt=some (g,ks))
 {m' k' v':AOperand} (hm':z7 m=some m') (hk':z7 k=some k') (hv':z7 v=some v') (he:EnvR φ μ look a) (hw:WR CR W φ μ H w)
 (h:zd call slot H (actOf (zk look) (.mapUpdate g ks m' k' v'))=some (r,H')):SimR CR P W φ μ o a.eval w r H':=by
 simp only [actOf] at h
 have hvm:=za he hm'
 have hvk:=za he hk'
 have hvv:=za he hv'
 have fin:∀ w',(Instr.mapUpdate t (a.eval m) (a.eval k) (a.eval v)).run P w=.ok () w'→(execOp a.eval o).run P w=.ok .skip w':=by
  intro w' hr
  rcases ho with ho | ho <;> simp [execOp,ho,hr]
 split at h
 ·rename_i hko
  split at h
  ·rename_i id gen hmm
   obtain ⟨b,hlt,hf,rfl⟩:=zeo h
   rw [hmm] at hvm
   rw [z37] at hf
   split at hf
   ·rename_i g' es c hB
    simp only [List.cons.injEq,and_true] at hB
    have hB:=zff hB
    split at hf
    ·rename_i eg; subst eg
     obtain ⟨l,fs,hu,hl,hmb,hes⟩:=hw.mapAt hB hvm
     split at hf
     ·rename_i j e0 hfe
      simp only [Option.some.injEq,Prod.mk.injEq] at hf
      obtain ⟨rfl,rfl⟩:=hf
      obtain ⟨res',hr,hfound⟩:=zr5 (P:=P) (w:=w) hk hko hvk hes hfe
      cases res' with
      | none=>exact hfound.elim
      | some q=>
        obtain ⟨j',v0⟩:=q
        obtain ⟨rfl,_,f,he1,hf1,rfl,hef,hkey,hsame⟩:=hfound
        have hfj:fs[j]? = some f:=by simpa using hf1
        refine ⟨undef,_,μ, .inr ⟨rfl,fin _ ?_⟩,hw.setMap hB hl hmb (z2l hes (i:=j) (e:={ e0 with val:=zk look v' }) (f:={ f with key:=a.eval k,val:=a.eval v }) ⟨by rw [hkey]; exact hef.key,hvv,hef.born⟩ (fun e=>{ e with key:=a.eval k,val:=a.eval v }) (fun q hq=>by rw [hfj] at hq; simp at hq; subst hq; rfl)),MExt.refl μ, .undef _⟩
        simp only [Instr.mapUpdate,Sem.run_bind,run_underlying ht,Result.andThen_ok,hu,z02 hmb,zy2 hk hko hvk,hr,hfj,Option.map_some,Option.getD_some,Instr.keyThatStays,hsame,if_true,Sem.run_pure,zf4 hmb]
     ·rename_i hfe
      simp only [Option.some.injEq,Prod.mk.injEq] at hf
      obtain ⟨rfl,rfl⟩:=hf
      obtain ⟨res',hr,hfound⟩:=zr5 (P:=P) (w:=w) hk hko hvk hes hfe
      cases res' with
      | some q=>exact hfound.elim
      | none=>
        refine ⟨undef,_,μ, .inr ⟨rfl,fin _ ?_⟩,hw.setMap hB hl hmb (zho hes (f:={ key:=a.eval k,val:=a.eval v,born:=c }) ⟨hvk,hvv,rfl⟩),MExt.refl μ, .undef _⟩
        simp only [Instr.mapUpdate,Sem.run_bind,run_underlying ht,Result.andThen_ok,hu,z02 hmb,zy2 hk hko hvk,hr,zf4 hmb]
     ·simp at hf
    ·simp at hf
   ·simp at hf
  ·simp [zd] at h
 ·simp [zd] at h
theorem zqr {t:TypeId} {m k:Operand} (ho:o.op=.mapEntry t m k) {kt e:TypeId} (ht:P.underlying t=some (.map kt e)) {g:Bool} {ks:List CK} (hk:zv9 P kt=some (g,ks)) {z:AV} (hz:ze9 P e=some z)
 {m' k':AOperand} (hm':z7 m=some m') (hk':z7 k=some k') (he:EnvR φ μ look a) (hw:WR CR W φ μ H w)
 (h:zd call slot H (actOf (zk look) (.mapEntry g ks z m' k'))=some (r,H')):SimR CR P W φ μ o a.eval w r H':=by
 simp only [actOf] at h
 have hvm:=za he hm'
 have hvk:=za he hk'
 obtain ⟨i,zv,hi,hzv,hzr,hzo,h1⟩:=zd4 hz
 have pairR:∀ (x:AV) (v:Value) (n:Nat),VR φ μ x v→VR φ μ (.tuple [x, .int .i64 n]) (.tuple #[v,goInt n]):=by
  intro x v b hv
  have:=VRs.cons hv (VRs.cons (VR.int (φ:=φ) (μ:=μ) .i64 b) VRs.nil)
  exact VR.tuple (vs:=[v, .int .i64 b]) this.1 this.2
 split at h
 ·rename_i hko
  split at h
  ·rename_i id gen hmm
   obtain ⟨b,hlt,hf,rfl⟩:=zeo h
   rw [hmm] at hvm
   rw [z37] at hf
   split at hf
   ·rename_i g' es c hB
    simp only [List.cons.injEq,and_true] at hB
    have hB:=zff hB
    split at hf
    ·rename_i eg; subst eg
     obtain ⟨l,fs,hu,hl,hmb,hes⟩:=hw.mapAt hB hvm
     split at hf
     ·rename_i j e0 hfe
      simp only [Option.some.injEq,Prod.mk.injEq] at hf
      obtain ⟨rfl,rfl⟩:=hf
      obtain ⟨res',hr,hfound⟩:=zr5 (P:=P) (w:=w) hk hko hvk hes hfe
      cases res' with
      | none=>exact hfound.elim
      | some q=>
        obtain ⟨j',v0⟩:=q
        obtain ⟨rfl,_,f,he1,hf1,rfl,hef,hkey,hsame⟩:=hfound
        have hfj:fs[j]? = some f:=by simpa using hf1
        have hej:es[j]? = some e0:=by simpa using he1
        have hset:es.set j e0=es:=by
         apply List.ext_getElem?
         intro q
         rw [List.getElem?_set]
         split
         ·rename_i hq; subst hq; split
          ·exact hej.symm
          ·rename_i hn; rw [List.getElem?_eq_none (by omega)]
         ·rfl
        have hents:=z2l hes (i:=j) (e:=e0) (f:={ f with key:=a.eval k }) ⟨by rw [hkey]; exact hef.key,hef.val,hef.born⟩ (fun e=>{ e with key:=a.eval k }) (fun q hq=>by rw [hfj] at hq; simp at hq; subst hq; rfl)
        rw [hset] at hents
        refine ⟨.tuple #[f.val,goInt f.born],_,μ, .inl ?_,hw.setMap hB hl hmb hents,MExt.refl μ,by rw [hef.born]; exact pairR _ _ _ hef.val⟩
        simp only [execOp,ho,Instr.mapEntry,Sem.run_bind,run_underlying ht,Result.andThen_ok,hu,z02 hmb,zy2 hk hko hvk,hr,hfj,Option.map_some,Option.getD_some,Instr.keyThatStays,hsame,if_true,Sem.run_pure,zf4 hmb]
     ·rename_i hfe
      simp only [Option.some.injEq,Prod.mk.injEq] at hf
      obtain ⟨rfl,rfl⟩:=hf
      obtain ⟨res',hr,hfound⟩:=zr5 (P:=P) (w:=w) hk hko hvk hes hfe
      cases res' with
      | some q=>exact hfound.elim
      | none=>
        refine ⟨.tuple #[zv,goInt c],_,μ, .inl ?_,hw.setMap hB hl hmb (zho hes (f:={ key:=a.eval k,val:=zv,born:=c }) ⟨hvk,hzr φ μ,rfl⟩),MExt.refl μ,pairR _ _ _ (hzr φ μ)⟩
        simp only [execOp,ho,Instr.mapEntry,Sem.run_bind,run_underlying ht,Result.andThen_ok,hu,z02 hmb,zy2 hk hko hvk,hr,za9 hi hzv,zf4 hmb,Sem.run_pure]
     ·simp at hf
    ·simp at hf
   ·simp at hf
  ·simp [zd] at h
 ·simp [zd] at h
theorem zpn {t:TypeId} {m s v:Operand} (ho:o.op=.entryStore t m s v) {m' s' v':AOperand} (hm':z7 m=some m') (hs':z7 s=some s') (hv':z7 v=some v') (he:EnvR φ μ look a) (hw:WR CR W φ μ H w)
 (h:zd call slot H (actOf (zk look) (.entryStore m' s' v'))=some (r,H')):SimR CR P W φ μ o a.eval w r H':=by
 simp only [actOf] at h
 have hvm:=za he hm'
 have hvs:=za he hs'
 have hvv:=za he hv'
 split at h
 ·rename_i id gen kk b hmm hss
  obtain ⟨bb,hlt,hf,rfl⟩:=zeo h
  rw [hmm] at hvm; rw [hss] at hvs
  generalize hus:a.eval s=us at hvs
  cases hvs
  rw [z37] at hf
  split at hf
  ·rename_i g' es c hB
   simp only [List.cons.injEq,and_true] at hB
   have hB:=zff hB
   split at hf
   ·rename_i eg; subst eg
    obtain ⟨l,fs,hu,hl,hmb,hes⟩:=hw.mapAt hB hvm
    split at hf
    ·rename_i i hfi
     simp only [Option.some.injEq,Prod.mk.injEq] at hf
     obtain ⟨rfl,rfl⟩:=hf
     have hidx:∀ (es:List MEnt) (fs:List MapEntry),EntsR φ μ es fs→es.findIdx? (fun e=>(e.born:Int) == b)=fs.findIdx? (fun e=>(e.born:Int) == b):=by
      intro es
      induction es with
      | nil=>
        intro fs h
        have:fs=[]:=List.eq_nil_of_length_eq_zero (by simpa using h.1.symm)
        subst this; rfl
      | cons e es ih=>
        intro fs h
        cases fs with
        | nil=>simp [EntsR] at h
        | cons f fs=>
          have:=(h.2 0 e f rfl rfl).born
          rw [List.findIdx?_cons,List.findIdx?_cons,this,ih fs ⟨by simpa using h.1,fun i a b h1 h2=>h.2 (i + 1) a b (by simpa using h1) (by simpa using h2)⟩]
     have hfi':fs.findIdx? (fun e=>(e.born:Int) == b)=some i:=by
      have e1:fs.findIdx? (fun e=>(e.born:Int) == b)=fs.toList.findIdx? (fun e=>(e.born:Int) == b):=by
       obtain ⟨fl⟩:=fs
       simp
      rw [e1,← hidx es fs.toList hes]; exact hfi
     have hil:i < es.length:=by
      obtain ⟨hlt',_⟩:=List.findIdx?_eq_some_iff_findIdx_eq.1 hfi
      exact hlt'
     obtain ⟨e0,he0⟩:∃ e0,es[i]? = some e0:=⟨es[i],List.getElem?_eq_getElem hil⟩
     have hfl:i < fs.size:=by have:=hes.1; simp at this; omega
     obtain ⟨f0,hf0⟩:∃ f0,fs[i]? = some f0:=⟨fs[i],by simp [hfl]⟩
     have hef:=hes.2 i e0 f0 he0 (by simpa using hf0)
     have hents:=z2l hes (i:=i) (e:={ e0 with val:=zk look v' }) (f:={ f0 with val:=a.eval v }) ⟨hef.key,hvv,hef.born⟩ (fun e=>{ e with val:=a.eval v }) (fun q hq=>by rw [hf0] at hq; simp at hq; subst hq; rfl)
     have hmod:es.modify i (fun e=>{ e with val:=zk look v' })=es.set i { e0 with val:=zk look v' }:=by
      apply List.ext_getElem?
      intro q
      rw [List.getElem?_modify,List.getElem?_set]
      split
      ·rename_i hq; subst hq; rw [he0]; simp [hil]
      ·simp
     rw [hmod]
     refine ⟨undef,_,μ, .inr ⟨rfl,?_⟩,hw.setMap hB hl hmb hents,MExt.refl μ, .undef _⟩
     simp only [execOp,ho,Instr.entryStore,Sem.run_bind,hu,z02 hmb,Result.andThen_ok,hus,asInt,asIntOf,Sem.run_pure,hfi',zf4 hmb]
    ·simp at hf
   ·simp at hf
  ·simp at hf
 ·simp [zd] at h
end Go.Abs
