/- Abs: rows grown by append, in runs that may go many ways. -/
import Derived.Test.YtddpdpjpfgnhmaaGreatG33x
set_option linter.unusedSimpArgs false
set_option linter.unusedVariables false
set_option maxHeartbeats 4000000
namespace Go.Abs
variable {tbl:FuncId→Option AFun} {k:Nat} {R:AExit→St→Prop} {s:St} {ks:List KF} {loc:List (Nat×AV)} {os:List AOper} {dst:Option Nat} {keep:Bool}
theorem z351 {A:Action} {v:AV} {H':Heap} (h:∀ (dst:Option Nat) (keep:Bool) (os:List AOper) (loc:List (Nat×AV)) (s1:St) (ks:List KF) (R:AExit→St→Prop),s1.heap=s.heap →
 ACTK (callW tbl) loopW A dst keep os loc s1 ks R=ACTK (callW tbl) loopW (.val v) dst keep os loc { s1 with heap:=H' } ks R):NDK tbl k A dst keep os loc s ks R=NVALK tbl k v dst keep os loc { s with heap:=H' } ks R:=by
 have h1:=h (some 0) true [] [] { tm:=.leaf,heap:=s.heap,dfr:=[],rnd:=none } [] (fun e s'=>s'.heap=H'∧s'.tm.get 0=v) rfl
 have h2:ACTK (callW tbl) loopW (.val v) (some 0) true [] [] { tm:=.leaf,heap:=H',dfr:=[],rnd:=none } [] (fun e s'=>s'.heap=H'∧s'.tm.get 0=v):=by
  simp
 rw [← h1] at h2
 obtain ⟨v1,H1,h3,h4⟩:=h2
 simp [putR,OPS,kontQ] at h4
 obtain ⟨w,h5,h6,h7⟩:=h4
 simp [zo5] at h5
 subst h5
 simp at h6 h7
 subst h6
 subst h7
 unfold NDK
 rw [h3]
 simp only [Option.some.injEq,Prod.mk.injEq]
 exact propext ⟨fun ⟨_,_,⟨rfl,rfl⟩,h⟩=>h,fun h=>⟨_,_,⟨rfl,rfl⟩,h⟩⟩
theorem Acc.oneN {H0 Hs:Heap} {sz bytes:Nat} {v r:AV} {rows:List AV} {fl:Bool} (h:Acc H0 sz v Hs rows) (hy:r.rowok sz=true) (hb:(rows.length + 1) * bytes≤140737488355328) :
 ∃ v' Hs',Acc H0 sz v' Hs' (rows++[r])∧∀ (dst:Option Nat) (keep:Bool) (os:List AOper) (loc:List (Nat×AV)) (s:St) (ks:List KF) (R:AExit→St→Prop),s.heap=Hs →
   NDK tbl k (zh1 sz bytes v (.fsl fl [r])) dst keep os loc s ks R=NVALK tbl k v' dst keep os loc { s with heap:=Hs' } ks R:=by
 obtain ⟨v',Hs',h1,h2⟩:=h.one (call:=callW tbl) (lp:=loopW) (fl:=fl) hy hb
 exact ⟨v',Hs',h1,fun dst keep os loc s ks R hs=>z351 (fun dst keep os loc s1 ks R h=>h2 dst keep os loc s1 ks R (by rw [h,hs]))⟩
theorem zwc {call:CallF} {callN:zi5} (hN:NMono callN) {af:AFunc} {args:List AV} {Q Q':AV→Prop} (h:NPURE call callN af args Q) (hq:∀ r,Q r→Q' r):NPURE call callN af args Q':=
 zrc hN h (fun _ _ ⟨r,h1,h2⟩=>⟨r,h1,hq r h2⟩)
end Go.Abs
