/- Abs 36: ranges over functions. -/
import Derived.Test.YtddpdpjpfgnhmaaGreatG24x
set_option linter.unusedSimpArgs false
set_option linter.unusedVariables false
set_option maxHeartbeats 4000000
namespace Go.Abs
variable {call:CallF} {lp:LoopF} {tbl:FuncId→Option AFun}
def RNDQ2 (l:Nat) (F:AV→Heap→Prop) (e:AExit) (s:St):Prop:=match s.heap[l]? with
 | some (.loop g _ _ tm ps a b)=>g=0∧(match e with
   | .normal=>F (.bool true) (s.heap.set l (.loop 0 .ready none tm ps a b))
   | e=>F (.bool false) (s.heap.set l (.loop 0 .done (some e) tm ps a b)))
 | _=>False
def RNDQ1 (call:CallF) (lp:LoopF) (l:Nat) (b:ACode) (F:AV→Heap→Prop) (e:AExit) (s:St):Prop:=e=.normal∧match s.heap[l]? with
 | some (.loop g .ready pd tm ps a' b')=>g=0∧EXEC call lp b [] { s with heap:=s.heap.set l (.loop 0 .busy pd tm ps a' b') } (RNDQ2 l F)
 | _=>False
def RND1K (call:CallF) (lp:LoopF) (x:Blk) (l:Nat) (b:ACode) (s:St) (F:AV→Heap→Prop):Prop:=match x with
 | .loop g .ready pd tm ps a' b'=>g=0∧EXEC call lp b [] { s with heap:=s.heap.set l (.loop 0 .busy pd tm ps a' b') } (RNDQ2 l F)
 | _=>False
def RND2K (x:Blk) (l:Nat) (e:AExit) (s:St) (F:AV→Heap→Prop):Prop:=match x with
 | .loop g _ _ tm ps a b=>g=0∧(match e with
   | .normal=>F (.bool true) (s.heap.set l (.loop 0 .ready none tm ps a b))
   | e=>F (.bool false) (s.heap.set l (.loop 0 .done (some e) tm ps a b)))
 | _=>False
section
variable {l:Nat} {b:ACode} {F:AV→Heap→Prop} {s:St} {st:LoopState} {pd:Option AExit} {tm:Tm} {ps:List Nat} {a' b':ACode}
@[simp] theorem z7b1 (hl:l < s.heap.length):RNDQ1 call lp l b F .normal s=RND1K call lp (hat s.heap l) l b s F:=by
  have:=z0p hl rfl
  simp only [RNDQ1,RND1K,this,true_and]
  generalize hat s.heap l=x
  cases x with
  | loop g st pd tm ps a b=>cases st <;> rfl
  | _=>rfl
@[simp] theorem z8b1 {e:AExit} (hl:l < s.heap.length):RNDQ2 l F e s=RND2K (hat s.heap l) l e s F:=by
  have:=z0p hl rfl
  simp only [RNDQ2,RND2K,this]
  generalize hat s.heap l=x
  cases x <;> rfl
@[simp] theorem z391:RND1K call lp (.loop 0 .ready pd tm ps a' b') l b s F=EXEC call lp b [] { s with heap:=s.heap.set l (.loop 0 .busy pd tm ps a' b') } (RNDQ2 l F):=by simp [RND1K]
@[simp] theorem zv01:RND2K (.loop 0 st pd tm ps a' b') l .normal s F=F (.bool true) (s.heap.set l (.loop 0 .ready none tm ps a' b')):=by simp [RND2K]
end
theorem zpw {l:Nat} {it:List AV} {H:Heap} {st:LoopState} {pd:Option AExit} {tm:Tm} {ps:List Nat} {a b:ACode} (P:AV→Heap→Prop) (hl:l < H.length) (h:hat H l=.loop 0 st pd tm ps a b) (hlen:it.length=ps.length)
 (hrun:∀ F:AV→Heap→Prop,(∀ v H',P v H'→F v H')→EXEC (callW tbl) loopW a [] { tm:=tm.puts ps it,heap:=H,dfr:=[],rnd:=some (l,0) } (RNDQ1 (callW tbl) loopW l b F)) :
 ∃ v H',P v H'∧callW tbl (.yieldf l 0) it H=some (trunc H.length v H'):=by
 obtain ⟨e1,s1,h1,he1,h2⟩:=hrun P (fun _ _ h=>h)
 subst he1
 split at h2
 ·rename_i g pd' tm' ps' a' b' hb1
  obtain ⟨rfl,e2,s2,h3,h4⟩:=h2
  simp only [kontQ,RNDQ2] at h4
  split at h4
  ·rename_i g'' st'' pd'' tm'' ps'' a'' b'' hb2
   obtain ⟨rfl,h5⟩:=h4
   have hrr:∃ v H',P v H'∧zh5 (callW tbl) loopW l 0 it H=some (v,H'):=by
    cases e2 with
    | normal=>exact ⟨_,_,h5,by unfold zh5; rw [z0p hl h]; simp only [hlen,and_self,if_true,h1,hb1,h3,hb2]⟩
    | exit j=>exact ⟨_,_,h5,by unfold zh5; rw [z0p hl h]; simp only [hlen,and_self,if_true,h1,hb1,h3,hb2]⟩
    | ret=>exact ⟨_,_,h5,by unfold zh5; rw [z0p hl h]; simp only [hlen,and_self,if_true,h1,hb1,h3,hb2]⟩
   obtain ⟨v,H',h6,h7⟩:=hrr
   exact ⟨v,H',h6,zou h7⟩
  ·exact h4.elim
 ·exact h2.elim
theorem zg41 (k:Nat):CLe (callK tbl k) (callW tbl):=fun _ _ _ _ h=>zj4.2 ⟨k,h⟩
theorem zw91 (k:Nat):LLe (lpK k) loopW:=fun _ _ hf _ _ h=>zh9.2 ⟨k,zt8 hf (Nat.le_refl k) _ _ h⟩
theorem zsf {k:Nat} {af:AFunc} {args:List AV} {r:AV} (h:zy (callK tbl k) (lpK k) af args=some r):zy (callW tbl) loopW af args=some r:=zmb (zg41 k) (zw91 k) h
theorem zt7 {f:FuncId} {af:AFunc} {args:List AV} {r:AV} (ht:tbl f=some (.code af)) (hp:af.pure=true) (h1:AV.plains args=true) (h2:AV.unlents args=true) (h:zy (callW tbl) loopW af args=some r) (H:Heap) :
 callW tbl (.func f [] []) args H=some (r,H):=by
 have:=zc5 (tbl:=tbl) (first:=[]) (captured:=[]) (args:=args) (H:=H) (r:=r) ht hp (by simpa using h1) (by simpa [h2] using h)
 rw [this]; simp [h2]
theorem zas {n:Nat} {r:AV} {H:Heap} (h:H.length=n):(trunc n r H).2=H:=by
 subst h
 unfold trunc
 rw [List.take_length]
 split <;> rfl
theorem zfy {n i:Nat} {r:AV} {H:Heap} {B:Blk} (hi:i < n) (h:H[i]? = some B) (hB:B.under n=false):(trunc n r H).2=H:=by
 unfold trunc
 rw [if_neg]
 intro hc
 simp only [Bool.and_eq_true,List.all_eq_true] at hc
 have:=hc.2 B (List.mem_of_getElem? (i:=i) (by rw [List.getElem?_take,if_pos hi]; exact h))
 rw [hB] at this; simp at this
theorem zw01 {H0 H0' Hs Hs':Heap} {sz n i:Nat} {v v' r:AV} {rows rows':List AV} (h:Acc H0 sz v Hs rows) (h':Acc H0' sz v' Hs' rows') (hl:H0'.length=H0.length) (hn:n=Hs.length) (hi:i < H0.length) {B:Blk} (hB:Hs'[i]? = some B) (hu:∀ n,v'.under n=false→B.under n=false)
 (hle:rows≠[]→rows'≠[]):(trunc n r Hs').2=Hs':=by
 have e1:=h.length
 have e2:=h'.length
 by_cases hr':rows'=[]
 ·have hr:rows=[]:=by
   by_cases hr:rows=[]
   ·exact hr
   ·exact absurd hr' (hle hr)
  rw [if_pos hr] at e1
  rw [if_pos hr'] at e2
  exact zas (by omega)
 ·by_cases hr:rows=[]
  ·rw [if_pos hr] at e1
   exact zfy (i:=i) (by omega) hB (hu _ (h'.over hr' (by omega)))
  ·rw [if_neg hr] at e1
   rw [if_neg hr'] at e2
   exact zas (by omega)
end Go.Abs
