/- Abs 34: the rules of a run as simp rules; values of types as relations. -/
import Derived.Test.YtddpdpjpfgnhmaaGreatG22x
set_option linter.unusedSimpArgs false
set_option linter.unusedVariables false
set_option maxHeartbeats 4000000
namespace Go.Abs
variable {call:CallF} {lp:LoopF} {tbl:FuncId→Option AFun}
inductive KF where
 | seq (b:ACode)
 | block (id:Nat)
def kontQ (call:CallF) (lp:LoopF):List KF→(AExit→St→Prop)→AExit→St→Prop
 | [],R=>R
 | .seq b::ks,R=>thenK call lp b (kontQ call lp ks R)
 | .block id::ks,R=>z6s id (kontQ call lp ks R)
def EXEC (call:CallF) (lp:LoopF) (c:ACode) (ks:List KF) (s:St) (R:AExit→St→Prop):Prop:=WP call lp c s (kontQ call lp ks R)
def KONT (call:CallF) (lp:LoopF) (ks:List KF) (e:AExit) (s:St) (R:AExit→St→Prop):Prop:=kontQ call lp ks R e s
def CONDK (call:CallF) (lp:LoopF) (x:AV) (a b:ACode) (ks:List KF) (s:St) (R:AExit→St→Prop):Prop:=TRUTH x (fun t=>if t then EXEC call lp a ks s R else EXEC call lp b ks s R)
def OPSK (call:CallF) (lp:LoopF) (ops:List AOper) (loc:List (Nat×AV)) (s:St) (ks:List KF) (R:AExit→St→Prop):Prop:=
 OPS call ops ⟨loc,s.tm,s.heap⟩ (fun r=>kontQ call lp ks R .normal { s with tm:=r.tm,heap:=r.heap })
def ACTK (call:CallF) (lp:LoopF) (A:Action) (dst:Option Nat) (keep:Bool) (os:List AOper) (loc:List (Nat×AV)) (s:St) (ks:List KF) (R:AExit→St→Prop):Prop:=
 ACT call s.heap A (fun v H=>OPS call os (putR ⟨loc,s.tm,s.heap⟩ dst keep v H) (fun r=>kontQ call lp ks R .normal { s with tm:=r.tm,heap:=r.heap }))
def GSELK (call:CallF) (lp:LoopF) (x:AV) (w:Bool) (op:AOp) (dst:Option Nat) (keep:Bool) (os:List AOper) (loc:List (Nat×AV)) (s:St) (ks:List KF) (R:AExit→St→Prop):Prop:=match x with
 | .bool b=>if b=w then ACTK call lp (actOf (evalA loc s.tm) op) dst keep os loc s ks R else ACTK call lp (.val .skipped) dst keep os loc s ks R
 | .tuple []=>ACTK call lp (.val .skipped) dst keep os loc s ks R
 | _=>False
def MDK (call:CallF) (lp:LoopF) (id:Nat) (x:Option (AV×Blk)) (dst:Option Nat) (keep:Bool) (os:List AOper) (loc:List (Nat×AV)) (s:St) (ks:List KF) (R:AExit→St→Prop):Prop:=
 SOME x (fun x=>id < s.heap.length∧ACTK call lp (.val x.1) dst keep os loc { s with heap:=s.heap.set id x.2 } ks R)
def NWK (call:CallF) (lp:LoopF) (x:Option (AV×Blk)) (dst:Option Nat) (keep:Bool) (os:List AOper) (loc:List (Nat×AV)) (s:St) (ks:List KF) (R:AExit→St→Prop):Prop:=
 SOME x (fun x=>ACTK call lp (.val x.1) dst keep os loc { s with heap:=s.heap++[x.2] } ks R)
def CALLK (call:CallF) (lp:LoopF) (x:Option (AV×Heap)) (dst:Option Nat) (keep:Bool) (os:List AOper) (loc:List (Nat×AV)) (s:St) (ks:List KF) (R:AExit→St→Prop):Prop:=
 SOME x (fun x=>ACTK call lp (.val x.1) dst keep os loc { s with heap:=x.2 } ks R)
variable {R:AExit→St→Prop} {s:St} {ks:List KF} {loc:List (Nat×AV)} {os:List AOper} {dst:Option Nat} {keep:Bool}
theorem z601:EXEC call lp .skip ks s R=KONT call lp ks .normal s R:=z201
theorem z701 {j:Nat}:EXEC call lp (.exit j) ks s R=KONT call lp ks (.exit j) s R:=z301
theorem zz31:EXEC call lp .ret ks s R=KONT call lp ks .ret s R:=z991
theorem z041 {a b:ACode}:EXEC call lp (.seq a b) ks s R=EXEC call lp a (.seq b::ks) s R:=zlw
theorem z1y {id:Nat} {a:ACode}:EXEC call lp (.block id a) ks s R=EXEC call lp a (.block id::ks) s R:=zmw
theorem z801 {c:AOperand} {a b:ACode}:EXEC call lp (.cond c a b) ks s R=CONDK call lp (evalA [] s.tm c) a b ks s R:=z401
theorem z2y {t:Bool} {a b:ACode}:CONDK call lp (.bool t) a b ks s R=if t=true then EXEC call lp a ks s R else EXEC call lp b ks s R:=zyo
theorem zqu {ops:List AOper}:EXEC call lp (.region ops) ks s R=OPSK call lp ops [] s ks R:=zml
theorem znw {e:AExit}:KONT call lp [] e s R=R e s:=rfl
theorem zol {b:ACode}:KONT call lp (.seq b::ks) .normal s R=EXEC call lp b ks s R:=rfl
theorem z901 {b:ACode} {j:Nat}:KONT call lp (.seq b::ks) (.exit j) s R=KONT call lp ks (.exit j) s R:=rfl
theorem za01 {b:ACode}:KONT call lp (.seq b::ks) .ret s R=KONT call lp ks .ret s R:=rfl
theorem zru {id:Nat}:KONT call lp (.block id::ks) .normal s R=KONT call lp ks .normal s R:=rfl
theorem zpl {id j:Nat}:KONT call lp (.block id::ks) (.exit j) s R=if j=id then KONT call lp ks .normal s R else KONT call lp ks (.exit j) s R:=rfl
theorem zsu {id:Nat}:KONT call lp (.block id::ks) .ret s R=KONT call lp ks .ret s R:=rfl
theorem z141:OPSK call lp [] loc s ks R=KONT call lp ks .normal s R:=zpu
theorem zb01 {op:AOp}:OPSK call lp (⟨dst,keep,op,none⟩::os) loc s ks R=ACTK call lp (actOf (evalA loc s.tm) op) dst keep os loc s ks R:=zjk
theorem zc01 {v:AV}:ACTK call lp (.val v) none keep os loc s ks R=OPSK call lp os loc s ks R:=zu8
theorem zd01 {v:AV} {d:Nat}:ACTK call lp (.val v) (some d) true os loc s ks R=OPSK call lp os loc { s with tm:=s.tm.put d v } ks R:=zu8
theorem ze01 {v:AV} {d:Nat}:ACTK call lp (.val v) (some d) false os loc s ks R=OPSK call lp os ((d,v)::loc) s ks R:=zu8
theorem zr61 {ids:List Nat} {f:List Blk→Option AV}:ACTK call lp (.rd ids f) dst keep os loc s ks R=ACTK call lp (Action.ofOption (f (blks s.heap ids))) dst keep os loc s ks R:=by
 unfold ACTK; rw [za91,zge]
theorem zdq {ids:List Nat} {id:Nat} {f:List Blk→Option (AV×Blk)}:ACTK call lp (.md ids id f) dst keep os loc s ks R=MDK call lp id (f (blks s.heap ids)) dst keep os loc s ks R:=by
 unfold ACTK MDK
 rw [zb91]
 apply propext
 constructor
 ·rintro ⟨h,x,hx,k⟩; exact ⟨x,hx,h,zu8.mpr k⟩
 ·rintro ⟨x,hx,h,k⟩; unfold ACTK at k; rw [zu8] at k; exact ⟨h,x,hx,k⟩
theorem zfh {id:Nat} {v:AV} {b:Blk}:MDK call lp id (some (v,b)) dst keep os loc s ks R=(id < s.heap.length∧ACTK call lp (.val v) dst keep os loc { s with heap:=s.heap.set id b } ks R):=zk4
theorem ztu {ids:List Nat} {f:List Blk→Nat→Nat→Option (AV×Blk)}:ACTK call lp (.nw ids f) dst keep os loc s ks R=NWK call lp (f (blks s.heap ids) s.heap.length 0) dst keep os loc s ks R:=by
 unfold ACTK NWK
 rw [zc91]
 apply propext
 constructor
 ·rintro ⟨x,hx,k⟩; refine ⟨x,hx,?_⟩; show ACTK call lp (.val x.1) dst keep os loc _ ks R; unfold ACTK; rw [zu8]; exact k
 ·rintro ⟨x,hx,k⟩; unfold ACTK at k; rw [zu8] at k; exact ⟨x,hx,k⟩
theorem zeq {v:AV} {b:Blk}:NWK call lp (some (v,b)) dst keep os loc s ks R=ACTK call lp (.val v) dst keep os loc { s with heap:=s.heap++[b] } ks R:=zk4
theorem zf01 {f:AV} {args:List AV}:ACTK call lp (.call f args) dst keep os loc s ks R=CALLK call lp (call f args s.heap) dst keep os loc s ks R:=by
 unfold ACTK CALLK
 rw [zx31]
 apply propext
 constructor
 ·rintro ⟨x,hx,k⟩; refine ⟨x,hx,?_⟩; show ACTK call lp (.val x.1) dst keep os loc _ ks R; unfold ACTK; rw [zu8]; exact k
 ·rintro ⟨x,hx,k⟩; unfold ACTK at k; rw [zu8] at k; exact ⟨x,hx,k⟩
theorem zzo {v:AV} {H:Heap}:CALLK call lp (some (v,H)) dst keep os loc s ks R=ACTK call lp (.val v) dst keep os loc { s with heap:=H } ks R:=zk4
theorem z3y {b w:Bool} {op:AOp}:GSELK call lp (.bool b) w op dst keep os loc s ks R=if b=w then ACTK call lp (actOf (evalA loc s.tm) op) dst keep os loc s ks R else ACTK call lp (.val .skipped) dst keep os loc s ks R:=rfl
theorem z4y {w:Bool} {op:AOp}:GSELK call lp (.tuple []) w op dst keep os loc s ks R=ACTK call lp (.val .skipped) dst keep os loc s ks R:=rfl
theorem z5y {op:AOp} {t:Nat} {w:Bool}:OPSK call lp (⟨dst,keep,op,some (t,w)⟩::os) loc s ks R=GSELK call lp (look loc s.tm t) w op dst keep os loc s ks R:=by
 unfold GSELK
 split
 ·rename_i b h
  unfold OPSK ACTK
  rw [z7s h,zu8]
 ·rename_i h
  unfold OPSK ACTK
  rw [zwn h,zu8]
 ·rename_i h1 h2
  apply propext
  refine ⟨fun ⟨r',h,_⟩=>?_,False.elim⟩
  simp only [zo5,stepA,z93] at h
  simp at h
def DRAWK (call:CallF) (lp:LoopF) (x:Option (RSt×List Rec)) (ps:List (Nat×Nat)) (s:St) (ks:List KF) (R:AExit→St→Prop):Prop:=
 SOME x (fun x=>zu9 x.2 ps=true∧KONT call lp ks .normal { s with tm:=x.1.tm,heap:=x.1.heap } R)
theorem zg01 {ops:List AOper} {ps:List (Nat×Nat)}:EXEC call lp (.draw ops ps) ks s R=DRAWK call lp (zr2 call ((z1c s.heap.length ops).zip ops) { loc:=[],tm:=s.tm,heap:=s.heap++List.replicate (z2c ops) (.dead 0) }) ps s ks R:=zq61
def hat (H:Heap) (i:Nat):Blk:=H.getD i (.dead 0)
@[simp] theorem zd91 {H:Heap}:blks H []=[]:=rfl
@[simp] theorem zql {H:Heap} {i:Nat}:blks H [i]=[hat H i]:=rfl
@[simp] theorem ze91 {H:Heap} {i j:Nat}:blks H [i,j]=[hat H i,hat H j]:=rfl
theorem ze1 {H:Heap} {b:Nat} {B:Blk} (h:H[b]? = some B):hat H b=B:=by simp [hat,h]
theorem lt_of {H:Heap} {b:Nat} {B:Blk} (h:H[b]? = some B):b < H.length:=(List.getElem?_eq_some_iff.1 h).1
theorem z0p {H:Heap} {b:Nat} {B:Blk} (hl:b < H.length) (h:hat H b=B):H[b]? = some B:=by
 unfold hat at h
 rw [List.getElem?_eq_getElem hl]
 simpa [hl] using h
@[simp] theorem zc81 {H T:Heap} {i:Nat} (h:i < H.length):hat (H++T) i=hat H i:=by simp [hat,List.getElem?_append_left h]
@[simp] theorem zuu {H T:Heap}:hat (H++T) H.length=hat T 0:=by simp [hat,List.getElem?_append_right]
@[simp] theorem zt51 {H T:Heap} {i:Nat} (h:H.length=i):hat (H++T) i=hat T 0:=by subst h; exact zuu
@[simp] theorem zu51 {H T:Heap} {n k:Nat} (h:H.length=n):hat (H++T) (n + k)=hat T k:=by subst h; simp [hat,List.getElem?_append_right]
@[simp] theorem zvu {H T:Heap} {k:Nat}:hat (H++T) (H.length + k)=hat T k:=by simp [hat,List.getElem?_append_right]
@[simp] theorem zv51 {H T:Heap} {j k:Nat}:hat (H++T) (H.length + j + k)=hat T (j + k):=by rw [Nat.add_assoc]; exact zvu
@[simp] theorem zwu {H T:Heap} {k:Nat} {B:Blk}:(H++T).set (H.length + k) B=H++T.set k B:=by rw [List.set_append_right _ _ (by omega)]; simp
@[simp] theorem zw51 {H T:Heap} {j k:Nat} {B:Blk}:(H++T).set (H.length + j + k) B=H++T.set (j + k) B:=by rw [Nat.add_assoc]; exact zwu
@[simp] theorem zf91 {B:Blk} {T:Heap}:hat (B::T) 0=B:=rfl
@[simp] theorem zg91 {B:Blk} {T:Heap} {k:Nat}:hat (B::T) (k + 1)=hat T k:=by simp [hat]
@[simp] theorem zx51 {H:Heap} {b:Nat} {B:Blk} (h:b < H.length):hat (H.set b B) b=B:=by simp [hat,h]
@[simp] theorem zd81 {H:Heap} {b i:Nat} {B:Blk} (h:b≠i):hat (H.set b B) i=hat H i:=by simp [hat,List.getElem?_set_ne h]
def RECK (call:CallF) (lp:LoopF) (sl:List Nat) (ops:List AOper) (acc:List Rec) (loc:List (Nat×AV)) (s:St) (ps:List (Nat×Nat)) (ks:List KF) (R:AExit→St→Prop):Prop:=
 ∃ r rs,zr2 call (sl.zip ops) ⟨loc,s.tm,s.heap⟩=some (r,rs)∧zu9 (acc++rs) ps=true∧KONT call lp ks .normal { s with tm:=r.tm,heap:=r.heap } R
def RPUTK (call:CallF) (lp:LoopF) (v:AV) (x:Rec) (dst:Option Nat) (keep:Bool) (sl:List Nat) (os:List AOper) (acc:List Rec) (loc:List (Nat×AV)) (s:St) (ps:List (Nat×Nat)) (ks:List KF) (R:AExit→St→Prop):Prop:=
 ∃ r rs,zr2 call (sl.zip os) (putR ⟨loc,s.tm,s.heap⟩ dst keep v s.heap)=some (r,rs)∧zu9 (acc++x::rs) ps=true∧KONT call lp ks .normal { s with tm:=r.tm,heap:=r.heap } R
def RACTK (call:CallF) (lp:LoopF) (i:Nat) (A:Action) (dst:Option Nat) (keep:Bool) (sl:List Nat) (os:List AOper) (acc:List Rec) (loc:List (Nat×AV)) (s:St) (ps:List (Nat×Nat)) (ks:List KF) (R:AExit→St→Prop):Prop:=
 ∃ v H,zd call (some i) s.heap A=some (v,H)∧RPUTK call lp v (recOf i s.heap H v A) dst keep sl os acc loc { s with heap:=H } ps ks R
def RGSELK (call:CallF) (lp:LoopF) (i:Nat) (x:AV) (w:Bool) (op:AOp) (dst:Option Nat) (keep:Bool) (sl:List Nat) (os:List AOper) (acc:List Rec) (loc:List (Nat×AV)) (s:St) (ps:List (Nat×Nat)) (ks:List KF) (R:AExit→St→Prop):Prop:=match x with
 | .bool b=>if b=w then RACTK call lp i (actOf (evalA loc s.tm) op) dst keep sl os acc loc s ps ks R else RPUTK call lp .skipped .none dst keep sl os acc loc s ps ks R
 | .tuple []=>RPUTK call lp .skipped .none dst keep sl os acc loc s ps ks R
 | _=>False
def RRDK (call:CallF) (lp:LoopF) (x:Option AV) (ids:List Nat) (f:List Blk→Option AV) (dst:Option Nat) (keep:Bool) (sl:List Nat) (os:List AOper) (acc:List Rec) (loc:List (Nat×AV)) (s:St) (ps:List (Nat×Nat)) (ks:List KF) (R:AExit→St→Prop):Prop:=
 SOME x (fun v=>RPUTK call lp v (.act ids none (fun h=>f (blks h ids)) v (fun b=>f [b]) none) dst keep sl os acc loc s ps ks R)
def RMDK (call:CallF) (lp:LoopF) (x:Option (AV×Blk)) (ids:List Nat) (id:Nat) (dst:Option Nat) (keep:Bool) (sl:List Nat) (os:List AOper) (acc:List Rec) (loc:List (Nat×AV)) (s:St) (ps:List (Nat×Nat)) (ks:List KF) (R:AExit→St→Prop):Prop:=
 SOME x (fun x=>id < s.heap.length∧RPUTK call lp x.1 (.act ids (some id) (fun _=>none) x.1 (fun _=>none) (some (hat s.heap id,x.2))) dst keep sl os acc loc { s with heap:=s.heap.set id x.2 } ps ks R)
def RNWK (call:CallF) (lp:LoopF) (i:Nat) (B:Blk) (ids:List Nat) (f:List Blk→Nat→Nat→Option (AV×Blk)) (dst:Option Nat) (keep:Bool) (sl:List Nat) (os:List AOper) (acc:List Rec) (loc:List (Nat×AV)) (s:St) (ps:List (Nat×Nat)) (ks:List KF) (R:AExit→St→Prop):Prop:=match B with
 | .dead g=>SOME (f (blks s.heap ids) i (g + 1)) (fun x=>RPUTK call lp x.1 (.act ids (some i) (fun _=>none) x.1 (fun _=>none) none) dst keep sl os acc loc { s with heap:=s.heap.set i x.2 } ps ks R)
 | _=>False
def RNW2K (call:CallF) (lp:LoopF) (i:Nat) (x:Option (AV×Blk)) (ids:List Nat) (dst:Option Nat) (keep:Bool) (sl:List Nat) (os:List AOper) (acc:List Rec) (loc:List (Nat×AV)) (s:St) (ps:List (Nat×Nat)) (ks:List KF) (R:AExit→St→Prop):Prop:=
 SOME x (fun x=>RPUTK call lp x.1 (.act ids (some i) (fun _=>none) x.1 (fun _=>none) none) dst keep sl os acc loc { s with heap:=s.heap.set i x.2 } ps ks R)
def RCALLK (call:CallF) (lp:LoopF) (x:Option (AV×Heap)) (dst:Option Nat) (keep:Bool) (sl:List Nat) (os:List AOper) (acc:List Rec) (loc:List (Nat×AV)) (s:St) (ps:List (Nat×Nat)) (ks:List KF) (R:AExit→St→Prop):Prop:=
 SOME x (fun x=>RPUTK call lp x.1 (.call s.heap x.2) dst keep sl os acc loc { s with heap:=x.2 } ps ks R)
section
variable {i:Nat} {sl:List Nat} {acc:List Rec} {ps:List (Nat×Nat)}
theorem z6y {ops:List AOper}:EXEC call lp (.draw ops ps) ks s R=RECK call lp (z1c s.heap.length ops) ops [] [] { s with heap:=s.heap++List.replicate (z2c ops) (.dead 0) } ps ks R:=by
 rw [zg01]
 apply propext
 constructor
 ·rintro ⟨⟨r,rs⟩,h1,h2,h3⟩; exact ⟨r,rs,h1,h2,h3⟩
 ·rintro ⟨r,rs,h1,h2,h3⟩; exact ⟨(r,rs),h1,h2,h3⟩
theorem z241:RECK call lp [] [] acc loc s ps ks R=(zu9 acc ps=true∧KONT call lp ks .normal s R):=by
 apply propext
 constructor
 ·rintro ⟨r,rs,h1,h2,h3⟩
  simp [zr2] at h1
  obtain ⟨rfl,rfl⟩:=h1
  exact ⟨by simpa using h2,h3⟩
 ·rintro ⟨h2,h3⟩; exact ⟨_,_,rfl,by simpa using h2,h3⟩
theorem z8s {op:AOp}:RECK call lp (i::sl) (⟨dst,keep,op,none⟩::os) acc loc s ps ks R=RACTK call lp i (actOf (evalA loc s.tm) op) dst keep sl os acc loc s ps ks R:=by
 apply propext
 constructor
 ·rintro ⟨r,rs,h1,h2,h3⟩
  simp only [List.zip_cons_cons,zr2,zf5,z93] at h1
  split at h1
  ·rename_i s1 r1 hs
   split at hs
   ·rename_i v H hv
    simp only [Option.some.injEq,Prod.mk.injEq] at hs
    obtain ⟨rfl,rfl⟩:=hs
    split at h1
    ·rename_i s2 rs2 hr
     simp only [Option.some.injEq,Prod.mk.injEq] at h1
     obtain ⟨rfl,rfl⟩:=h1
     rw [RSt.put_eq] at hr
     exact ⟨v,H,hv,_,_,hr,h2,h3⟩
    ·simp at h1
   ·simp at hs
  ·simp at h1
 ·rintro ⟨v,H,hv,r,rs,hr,h2,h3⟩
  exact ⟨r,_,by simp only [List.zip_cons_cons,zr2,zf5,z93,hv,RSt.put_eq]; rw [show putR ⟨loc,s.tm,s.heap⟩ dst keep v H=putR ⟨loc,s.tm,H⟩ dst keep v H by cases dst <;> cases keep <;> rfl,hr],h2,h3⟩
theorem zs61 {v:AV} {x:Rec}:RPUTK call lp v x none keep sl os acc loc s ps ks R=RECK call lp sl os (acc++[x]) loc s ps ks R:=by
 unfold RPUTK RECK; simp only [putR,List.append_assoc,List.singleton_append]
theorem zt61 {v:AV} {x:Rec} {d:Nat}:RPUTK call lp v x (some d) true sl os acc loc s ps ks R=RECK call lp sl os (acc++[x]) loc { s with tm:=s.tm.put d v } ps ks R:=by
 unfold RPUTK RECK; simp only [putR,if_true,List.append_assoc,List.singleton_append]
theorem zu61 {v:AV} {x:Rec} {d:Nat}:RPUTK call lp v x (some d) false sl os acc loc s ps ks R=RECK call lp sl os (acc++[x]) ((d,v)::loc) s ps ks R:=by
 unfold RPUTK RECK; simp only [putR,Bool.false_eq_true,if_false,List.append_assoc,List.singleton_append]
theorem zh01 {v:AV}:RACTK call lp i (.val v) dst keep sl os acc loc s ps ks R=RPUTK call lp v .none dst keep sl os acc loc s ps ks R:=by
 apply propext
 constructor
 ·rintro ⟨v',H,hv,h⟩; simp [zd] at hv; obtain ⟨rfl,rfl⟩:=hv; exact h
 ·intro h; exact ⟨v,s.heap,rfl,h⟩
theorem z341 {ids:List Nat} {f:List Blk→Option AV}:RACTK call lp i (.rd ids f) dst keep sl os acc loc s ps ks R=RRDK call lp (f (blks s.heap ids)) ids f dst keep sl os acc loc s ps ks R:=by
 apply propext
 constructor
 ·rintro ⟨v',H,hv,h⟩
  simp only [zd] at hv
  split at hv
  ·rename_i v hf; simp only [Option.some.injEq,Prod.mk.injEq] at hv; obtain ⟨rfl,rfl⟩:=hv; exact ⟨_,hf,h⟩
  ·simp at hv
 ·rintro ⟨v,hf,h⟩; exact ⟨v,s.heap,by simp only [zd,hf],h⟩
theorem zi01 {v:AV} {ids:List Nat} {f:List Blk→Option AV}:RRDK call lp (some v) ids f dst keep sl os acc loc s ps ks R=RPUTK call lp v (.act ids none (fun h=>f (blks h ids)) v (fun b=>f [b]) none) dst keep sl os acc loc s ps ks R:=zk4
theorem z441 {ids:List Nat} {id:Nat} {f:List Blk→Option (AV×Blk)}:RACTK call lp i (.md ids id f) dst keep sl os acc loc s ps ks R=RMDK call lp (f (blks s.heap ids)) ids id dst keep sl os acc loc s ps ks R:=by
 have hg:∀ (H:Heap) (b:Blk),id < H.length→(H.set id b).getD id (.dead 0)=b:=fun H b hl=>by simp [hl]
 apply propext
 constructor
 ·rintro ⟨v',H,hv,h⟩
  simp only [zd] at hv
  split at hv
  ·rename_i hl
   split at hv
   ·rename_i v b hf; simp only [Option.some.injEq,Prod.mk.injEq] at hv; obtain ⟨rfl,rfl⟩:=hv
    refine ⟨_,hf,hl,?_⟩
    simp only [recOf,hg _ _ hl] at h
    exact h
   ·simp at hv
  ·simp at hv
 ·rintro ⟨⟨v,b⟩,hf,hl,h⟩; exact ⟨v,s.heap.set id b,by simp only [zd,hl,if_true,hf],by simp only [recOf,hg _ _ hl]; exact h⟩
theorem zj01 {v:AV} {b:Blk} {ids:List Nat} {id:Nat}:RMDK call lp (some (v,b)) ids id dst keep sl os acc loc s ps ks R=(id < s.heap.length∧RPUTK call lp v (.act ids (some id) (fun _=>none) v (fun _=>none) (some (hat s.heap id,b))) dst keep sl os acc loc { s with heap:=s.heap.set id b } ps ks R):=zk4
theorem z541 {ids:List Nat} {f:List Blk→Nat→Nat→Option (AV×Blk)} (hi:i < s.heap.length):RACTK call lp i (.nw ids f) dst keep sl os acc loc s ps ks R=RNWK call lp i (hat s.heap i) ids f dst keep sl os acc loc s ps ks R:=by
 have hh:s.heap[i]? = some (hat s.heap i):=z0p hi rfl
 unfold RNWK RACTK
 apply propext
 cases hB:hat s.heap i <;> rw [hB] at hh
 case dead g=>
  constructor
  ·rintro ⟨v',H,hv,h⟩
   simp only [zd,hh] at hv
   split at hv
   ·rename_i v b hf; simp only [Option.some.injEq,Prod.mk.injEq] at hv; obtain ⟨rfl,rfl⟩:=hv; exact ⟨_,hf,h⟩
   ·simp at hv
  ·rintro ⟨⟨v,b⟩,hf,h⟩; exact ⟨v,_,by simp only [zd,hh,hf],h⟩
 all_goals exact ⟨fun ⟨v',H,hv,h⟩=>by simp [zd,hh] at hv,False.elim⟩
theorem zk01 {g:Nat} {ids:List Nat} {f:List Blk→Nat→Nat→Option (AV×Blk)}:RNWK call lp i (.dead g) ids f dst keep sl os acc loc s ps ks R=RNW2K call lp i (f (blks s.heap ids) i (g + 1)) ids dst keep sl os acc loc s ps ks R:=rfl
theorem z7y {v:AV} {b:Blk} {ids:List Nat}:RNW2K call lp i (some (v,b)) ids dst keep sl os acc loc s ps ks R=RPUTK call lp v (.act ids (some i) (fun _=>none) v (fun _=>none) none) dst keep sl os acc loc { s with heap:=s.heap.set i b } ps ks R:=zk4
theorem z8y {f:AV} {args:List AV}:RACTK call lp i (.call f args) dst keep sl os acc loc s ps ks R=RCALLK call lp (call f args s.heap) dst keep sl os acc loc s ps ks R:=by
 apply propext
 constructor
 ·rintro ⟨v',H,hv,h⟩; exact ⟨(v',H),hv,h⟩
 ·rintro ⟨⟨v,H⟩,hv,h⟩; exact ⟨v,H,hv,h⟩
theorem zxu {v:AV} {H:Heap}:RCALLK call lp (some (v,H)) dst keep sl os acc loc s ps ks R=RPUTK call lp v (.call s.heap H) dst keep sl os acc loc { s with heap:=H } ps ks R:=zk4
theorem zyu {b w:Bool} {op:AOp}:RGSELK call lp i (.bool b) w op dst keep sl os acc loc s ps ks R=if b=w then RACTK call lp i (actOf (evalA loc s.tm) op) dst keep sl os acc loc s ps ks R else RPUTK call lp .skipped .none dst keep sl os acc loc s ps ks R:=rfl
theorem zzu {w:Bool} {op:AOp}:RGSELK call lp i (.tuple []) w op dst keep sl os acc loc s ps ks R=RPUTK call lp .skipped .none dst keep sl os acc loc s ps ks R:=rfl
theorem z9y {op:AOp} {t:Nat} {w:Bool}:RECK call lp (i::sl) (⟨dst,keep,op,some (t,w)⟩::os) acc loc s ps ks R=RGSELK call lp i (look loc s.tm t) w op dst keep sl os acc loc s ps ks R:=by
 apply propext
 have skip:∀ (hs:zf5 call i ⟨dst,keep,op,some (t,w)⟩ ⟨loc,s.tm,s.heap⟩=some (putR ⟨loc,s.tm,s.heap⟩ dst keep .skipped s.heap, .none)),
  RECK call lp (i::sl) (⟨dst,keep,op,some (t,w)⟩::os) acc loc s ps ks R↔RPUTK call lp .skipped .none dst keep sl os acc loc s ps ks R:=by
  intro hs
  constructor
  ·rintro ⟨r,rs,h1,h2,h3⟩
   simp only [List.zip_cons_cons,zr2,hs] at h1
   split at h1
   ·rename_i s2 rs2 hr
    simp only [Option.some.injEq,Prod.mk.injEq] at h1
    obtain ⟨rfl,rfl⟩:=h1
    exact ⟨_,_,hr,h2,h3⟩
   ·simp at h1
  ·rintro ⟨r,rs,hr,h2,h3⟩
   exact ⟨r,_,by simp only [List.zip_cons_cons,zr2,hs,hr],h2,h3⟩
 unfold RGSELK
 split
 ·rename_i b hb
  by_cases e:b=w
  ·subst e
   rw [if_pos rfl]
   have heq:RECK call lp (i::sl) (⟨dst,keep,op,some (t,b)⟩::os) acc loc s ps ks R=RECK call lp (i::sl) (⟨dst,keep,op,none⟩::os) acc loc s ps ks R:=by
    unfold RECK
    simp only [List.zip_cons_cons,zr2,zf5,z93,hb,beq_self_eq_true,RSt.put_eq]
   rw [heq,z8s]
  ·rw [if_neg e]
   have hbw:(b == w)=false:=by simpa using e
   exact skip (by simp only [zf5,z93,hb,hbw,RSt.put_eq])
 ·rename_i hb
  exact skip (by simp only [zf5,z93,hb,RSt.put_eq])
 ·rename_i h1 h2
  refine ⟨fun ⟨r',rs,h,_⟩=>?_,False.elim⟩
  simp only [List.zip_cons_cons,zr2,zf5,z93] at h
  simp at h
end
attribute [simp] z6y z241 z8s z9y zs61 zt61 zu61 zh01 z341 zi01 z441 zj01 z541 zk01 z7y z8y zxu zyu zzu z1c z2c AOp.makes zu9 Rec.indep zsk
theorem z9s {slot:Option Nat} {H:Heap} {f r:AV} {args:List AV} (hp:(f.plain && AV.plains args)=true) (h:call f args []=some (r,[])) (hr:r.plain=true):zd call slot H (.pcall f args)=some (r,H):=by
 simp only [zd,hp,if_true,h,hr]
theorem zay {i:Nat} {sl:List Nat} {acc:List Rec} {ps:List (Nat×Nat)} {P:AV→Prop} {f:AV} {args:List AV} (hp:(f.plain && AV.plains args)=true) (h:∃ r,call f args []=some (r,[])∧P r) (hr:∀ r,P r→r.plain=true) (hk:∀ r,P r→RACTK call lp i (.val r) dst keep sl os acc loc s ps ks R):RACTK call lp i (.pcall f args) dst keep sl os acc loc s ps ks R:=by
 obtain ⟨r,h1,h2⟩:=h
 obtain ⟨v',H,hv,h⟩:=hk r h2
 simp only [zd,Option.some.injEq,Prod.mk.injEq] at hv
 obtain ⟨rfl,rfl⟩:=hv
 exact ⟨_,_,z9s hp h1 (hr _ h2),h⟩
def FINQ (res:List AResult) (R:AV→Heap→Prop) (e:AExit) (s:St):Prop:=(e=.normal∨e=.ret)∧SOME (z89 s.heap s.dfr) (fun H'=>SOME (zm3 { s with heap:=H' } res) (fun vs=>R (zn7 vs) H'))
def CLOSEK (x:Option Heap) (res:List AResult) (s:St) (R:AV→Heap→Prop):Prop:=SOME x (fun H'=>SOME (zm3 { s with heap:=H' } res) (fun vs=>R (zn7 vs) H'))
def RESK (x:Option (List AV)) (H:Heap) (R:AV→Heap→Prop):Prop:=SOME x (fun vs=>R (zn7 vs) H)
variable {F:AV→Heap→Prop} {res:List AResult}
theorem z0v:FINQ res F .normal s=CLOSEK (z89 s.heap s.dfr) res s F:=by simp [FINQ,CLOSEK]
theorem z641:FINQ res F .ret s=CLOSEK (z89 s.heap s.dfr) res s F:=by simp [FINQ,CLOSEK]
theorem z1v {H:Heap}:CLOSEK (some H) res s F=RESK (zm3 { s with heap:=H } res) H F:=zk4
theorem zl01 {H:Heap} {vs:List AV}:RESK (some vs) H F=F (zn7 vs) H:=zk4
attribute [simp] z601 z701 zz31 z041 z1y z801 z2y zqu znw zol z901 za01 zru zpl zsu z141 zb01 z5y zc01 zd01 ze01 zr61 zdq zfh ztu zeq zf01 zzo z3y z4y z0v z641 z1v zl01 look evalA unA Tm.get_put Tm.ofArgs part z89 zm3 zcc zn7 Action.ofOption
section
variable {ρ:AOperand→AV}
@[simp] theorem ze81 (x:AOperand):actOf ρ (.move x)=(.val (ρ x)):=rfl
@[simp] theorem zf81 (c a b:AOperand):actOf ρ (.pick c a b)=(match ρ c with
 | .bool t=>.val (if t then ρ a else ρ b)
 | _=>.bad):=rfl
@[simp] theorem zv61 (z:AV):actOf ρ (.alloc z)=(.nw [] fun _ id g=>if z.cells.all AV.isCell then some (.ptr id g 0 0, .arr g z.cells.length [z]) else none):=rfl
@[simp] theorem zh91 (n:Nat) (x:AOperand):actOf ρ (.box n x)=(.nw [] fun _ id g=>if (ρ x).rowok n then some (.ptr id g 0 0, .arr g n [ρ x]) else none):=rfl
@[simp] theorem zw61 (z:List AV) (parts:List (Nat×Nat×AOperand)):actOf ρ (.build z parts)=(.ofOption (zpf z (parts.map fun (o,s,x)=>(o,s,ρ x)))):=rfl
@[simp] theorem zdz (z:AV) (len:Nat) (parts:List (Nat×AOperand)):actOf ρ (.buildSlice z len parts)=(.nw [] fun _ id g=>
 if z.cells.all AV.isCell then match zr z.cells.length (List.replicate len z) (parts.map fun (i,x)=>(i,ρ x)) with
 | some rows=>some (.sl id g 0 len, .arr g z.cells.length rows)
 | none=>none else none):=rfl
@[simp] theorem zg81 (agg:Bool) (n:Nat) (a:AOperand):actOf ρ (.load agg n a)=(loadA agg n (ρ a)):=rfl
@[simp] theorem zx61 (n:Nat) (a v:AOperand):actOf ρ (.store n a v)=(z5w n (ρ v) (ρ a)):=rfl
@[simp] theorem zf31 (x:AOperand):actOf ρ (.nilCheck x)=(match ρ x with
 | .ptr a b c d=>.val (.ptr a b c d)
 | .fptr k cs o=>.val (.fptr k cs o)
 | .func f a b=>.val (.func f a b)
 | .yieldf a b=>.val (.yieldf a b)
 | _=>.bad):=rfl
@[simp] theorem zi91 (op:BinOp) (eq:z6a) (x y:AOperand):actOf ρ (.bin op eq x y)=(.ofOption (binA op eq (ρ x) (ρ y))):=rfl
@[simp] theorem zma1 (op:UnOp) (x:AOperand):actOf ρ (.un op x)=(.ofOption (unA op (ρ x))):=rfl
@[simp] theorem zy61 (k:IntKind) (x:AOperand):actOf ρ (.toInt k x)=(match ρ x with
 | .int _ n=>.val (.int k (k.wrap n))
 | _=>.bad):=rfl
@[simp] theorem z741 (x:AOperand):actOf ρ (.runeStr x)=(match ρ x with
 | .int _ n=>.val (.str (Utf8.encode n))
 | _=>.bad):=rfl
@[simp] theorem zy51 (x:AOperand):actOf ρ (.strStr x)=(match ρ x with
 | .str s=>.val (.str s)
 | _=>.bad):=rfl
@[simp] theorem zg31 (f:FuncId) (first captured:List AOperand):actOf ρ (.makeFunc f first captured)=(.val (.func f (first.map ρ) (captured.map ρ))):=rfl
@[simp] theorem z841  : actOf ρ (.makeMap )=(.nw [] fun _ id g=>some (.map id g, .map g [] 0)):=rfl
@[simp] theorem zm01 (z:AV) (bytes:Nat) (l c:AOperand):actOf ρ (.makeSlice z bytes l c)=(match ρ l,ρ c with
 | .int _ n, .int _ m=>
   if 0≤n∧n≤m∧(m.toNat * bytes≤2 ^ 47)∧m.toNat≤2 ^ 47 then
    .nw [] fun _ id g=>if z.cells.all AV.isCell then some (.sl id g 0 n.toNat, .arr g z.cells.length (List.replicate n.toNat z)) else none
   else .bad
 | _,_=>.bad):=rfl
@[simp] theorem zz61 (sz:Nat) (x:AOperand) (lo hi:Option AOperand):actOf ρ (.slice sz x lo hi)=(match ρ x with
 | .sl id gen off len=>.rd [id] fun
   | [.arr g s rows]=>if g=gen∧off + len≤rows.length∧s=sz∧1≤sz then match bound len len (hi.map ρ) with
    | some h=>match bound 0 h (lo.map ρ) with
      | some l=>some (.sl id gen (off + l) (h - l))
      | none=>none
    | none=>none else none
   | _=>none
 | v=>.ofOption (zij sz (lo.map ρ) (hi.map ρ) v)):=rfl
@[simp] theorem zn01 (off:Nat) (x:AOperand):actOf ρ (.fieldAddr off x)=(match ρ x with
 | .ptr id g r o=>.val (.ptr id g r (o + off))
 | .fptr k cs o=>.val (.fptr k cs (o + off))
 | _=>.bad):=rfl
@[simp] theorem z071 (agg:Bool) (n off:Nat) (x:AOperand):actOf ρ (.field agg n off x)=(match ρ x with
 | .agg cs=>.ofOption (part agg n off cs)
 | _=>.bad):=rfl
@[simp] theorem z171 (x i:AOperand):actOf ρ (.index x i)=(match ρ x,ρ i with
 | .str s, .int _ j=>if 0≤j then match s[j.toNat]? with
   | some b=>.val (.int .u8 b.toNat)
   | none=>.bad
   else .bad
 | _,_=>.bad):=rfl
@[simp] theorem zz51 (agg:Bool) (ks:List CK) (z:AV) (m k:AOperand) (ok:Bool):actOf ρ (.lookup agg ks z m k ok)=(if keyOk agg ks (ρ k) then match ρ m with
 | .nilmap=>.val (if ok then .tuple [z, .bool false] else z)
 | .map id gen=>.rd [id] fun
   | [.map g es _]=>if g=gen then zm6 agg ks z (ρ k) ok es else none
   | _=>none
 | _=>.bad
 else .bad):=rfl
@[simp] theorem zo01 (agg:Bool) (ks:List CK) (m k v:AOperand):actOf ρ (.mapUpdate agg ks m k v)=(if keyOk agg ks (ρ k) then match ρ m with
 | .map id gen=>.md [id] id fun
   | [.map g es c]=>if g=gen then match findE agg ks (ρ k) es 0 with
     | some (some (i,e))=>some (.undef, .map g (es.set i { e with val:=ρ v }) c)
     | some none=>some (.undef, .map g (es++[{ key:=ρ k,val:=ρ v,born:=c }]) (c + 1))
     | none=>none else none
   | _=>none
 | _=>.bad
 else .bad):=rfl
@[simp] theorem zh31 (agg:Bool) (ks:List CK) (z:AV) (m k:AOperand):actOf ρ (.mapEntry agg ks z m k)=(if keyOk agg ks (ρ k) then match ρ m with
 | .map id gen=>.md [id] id fun
   | [.map g es c]=>if g=gen then match findE agg ks (ρ k) es 0 with
     | some (some (_,e))=>some (.tuple [e.val, .int .i64 e.born], .map g es c)
     | some none=>some (.tuple [z, .int .i64 c], .map g (es++[{ key:=ρ k,val:=z,born:=c }]) (c + 1))
     | none=>none else none
   | _=>none
 | _=>.bad
 else .bad):=rfl
@[simp] theorem zez (m s v:AOperand):actOf ρ (.entryStore m s v)=(match ρ m,ρ s with
 | .map id gen, .int _ b=>.md [id] id fun
   | [.map g es c]=>if g=gen then match es.findIdx? (fun e=>(e.born:Int) == b) with
     | some i=>some (.undef, .map g (es.modify i fun e=>{ e with val:=ρ v }) c)
     | none=>none else none
   | _=>none
 | _,_=>.bad):=rfl
@[simp] theorem z2v (t:TypeId) (x:AOperand):actOf ρ (.makeInterface t x)=(match ρ x with
 | .undef=>.bad
 | v=>.val (.iface t v)):=rfl
@[simp] theorem z941 (x:AOperand) (i:Nat):actOf ρ (.extract x i)=(match ρ x with
 | .tuple vs=>.ofOption vs[i]?
 | _=>.bad):=rfl
@[simp] theorem z061 (sz bytes:Nat) (x y:AOperand):actOf ρ (.append sz bytes x y)=(zh1 sz bytes (ρ x) (ρ y)):=rfl
@[simp] theorem z161 (agg:Bool) (ks:List CK) (m k:AOperand):actOf ρ (.delete agg ks m k)=(if keyOk agg ks (ρ k) then match ρ m with
 | .nilmap=>.val (.tuple [])
 | .map id gen=>.md [id] id fun
   | [.map g es c]=>if g=gen then match findE agg ks (ρ k) es 0 with
     | some (some (i,_))=>some (.tuple [], .map g (es.eraseIdx i) c)
     | some none=>some (.tuple [], .map g es c)
     | none=>none else none
   | _=>none
 | _=>.bad
 else .bad):=rfl
@[simp] theorem z271 (f:AOperand) (args:List AOperand):actOf ρ (.pcall f args)=(.pcall (ρ f) (args.map ρ)):=rfl
@[simp] theorem zh81 (f:AOperand) (args:List AOperand):actOf ρ (.call f args)=(.call (ρ f) (args.map ρ)):=rfl
@[simp] theorem zi81 (x:AOperand):actOf ρ (.frzM x)=(match ρ x with
 | .sl id gen off len=>.md [id] id fun
   | [b]=>match zw3 gen off len b with
     | some rows=>if AV.plains rows then some (.fsl false rows, .dead gen) else none
     | none=>none
   | _=>none
 | v=>.val v):=rfl
@[simp] theorem zj81 (n:Nat) (x:AOperand):actOf ρ (.boxF n x)=(if (ρ x).rowok n then .val (.fptr false (ρ x).cells 0) else .bad):=rfl
@[simp] theorem zby (z:AV) (len:Nat) (parts:List (Nat×AOperand)):actOf ρ (.buildSliceF z len parts)=(if z.cells.all AV.isCell then match zr z.cells.length (List.replicate len z) (parts.map fun (i,x)=>(i,ρ x)) with
 | some rows=>.val (.fsl false rows)
 | none=>.bad
 else .bad):=rfl
@[simp] theorem zj91  : actOf ρ (.bad )=(.bad):=rfl
end
@[simp] theorem zk91 {agg:Bool} {n id gen row off:Nat}:loadA agg n (.ptr id gen row off)=.rd [id] fun
 | [.arr g _ rows]=>if g=gen then match rows[row]? with
   | some r=>part agg n off r.cells
   | none=>none else none
 | _=>none:=rfl
@[simp] theorem zk81 {agg l:Bool} {n off:Nat} {cs:List AV}:loadA agg n (.fptr l cs off)=.ofOption (part agg n off cs):=rfl
@[simp] theorem zl81 {n id gen row off:Nat} {v:AV}:z5w n v (.ptr id gen row off)=.md [id] id fun
 | [.arr g sz rows]=>if g=gen then match rows[row]? with
   | some r=>if v.rowok n=true∧off + n≤r.cells.length then some (.undef, .arr g sz (rows.set row (zz r off v))) else none
   | none=>none else none
 | _=>none:=rfl
theorem zfq {af:AFunc} {args:List AV} {H:Heap} {P:AV→Heap→Prop} (hl:args.length=af.nargs)
 (h:∀ F:AV→Heap→Prop,(∀ v H',P v H'→F v H')→EXEC call lp af.body [] { tm:=Tm.ofArgs .leaf 0 args,heap:=H,dfr:=[],rnd:=none } (FINQ af.results F)):∃ r H',z58 call lp af args H=some (r,H')∧P r H':=by
 obtain ⟨e,s,h1,h2,H',h3,vs,h4,h5⟩:=h P (fun _ _ h=>h)
 exact ⟨_,_,by unfold z58; rw [if_pos hl,h1]; simp only [h2,if_true,h3,h4],h5⟩
theorem callB {f:FuncId} {first captured args:List AV} {H H'':Heap} {r:AV} (af:AFunc) (ht:tbl f=some (.code af)) (hp:af.pure=false) (hl:(first++args++captured).length=af.nargs)
 (h:∀ F:AV→Heap→Prop,(∀ v H',zj af.frz H.length v H'=(r,H'')→F v H')→EXEC (callW tbl) loopW af.body [] { tm:=Tm.ofArgs .leaf 0 (first++args++captured),heap:=H,dfr:=[],rnd:=none } (FINQ af.results F)) :
 callW tbl (.func f first captured) args H=some (r,H''):=by
 obtain ⟨v,H',h1,h2⟩:=zfq hl h
 rw [zxo ht hp h1,h2]
theorem callE {f:FuncId} {first captured args:List AV} {H:Heap} (P:AV→Heap→Prop) (af:AFunc) (ht:tbl f=some (.code af)) (hp:af.pure=false) (hl:(first++args++captured).length=af.nargs)
 (h:∀ F:AV→Heap→Prop,(∀ v H',P v H'→F v H')→EXEC (callW tbl) loopW af.body [] { tm:=Tm.ofArgs .leaf 0 (first++args++captured),heap:=H,dfr:=[],rnd:=none } (FINQ af.results F)) :
 ∃ v H',P v H'∧callW tbl (.func f first captured) args H=some (zj af.frz H.length v H'):=by
 obtain ⟨v,H',h1,h2⟩:=zfq hl h
 exact ⟨v,H',h2,zxo ht hp h1⟩
theorem pureK {args:List AV} {P:AV→Prop} (af:AFunc) (hl:args.length=af.nargs)
 (h:∀ F:AV→Heap→Prop,(∀ v H' r,reify H' zw v=some r→P r→F v H')→EXEC (callW tbl) loopW af.body [] { tm:=Tm.ofArgs .leaf 0 args,heap:=[],dfr:=[],rnd:=none } (FINQ af.results F)) :
 ∃ r,zy (callW tbl) loopW af args=some r∧P r:=by
 obtain ⟨v,H',h1,r,h2,h3⟩:=zfq (P:=fun v H'=>∃ r,reify H' zw v=some r∧P r) hl (fun F hF=>h F (fun v H' r h1 h2=>hF v H' ⟨r,h1,h2⟩))
 exact ⟨r,by unfold zy; rw [h1]; exact h2,h3⟩
theorem z6 {H:Heap} {v:AV} (h:v.plain=true):reify H zw v=some v:=by unfold zw; simp only [reify,h,if_true]
theorem zp01 {body:ACode} (h:WP call lp (.loop body) s (fun e s'=>KONT call lp ks e s' R)):EXEC call lp (.loop body) ks s R:=h
theorem zg {body:ACode} (I:Nat→St→Prop) (n:Nat) (h:I n s)
 (hstep:∀ (n:Nat) (s:St) (B:AExit→St→Prop),I n s→(∀ (s':St) (m:Nat),m < n→I m s'→B .normal s')→(∀ (e:AExit) (s':St),e≠.normal→KONT (callW tbl) loopW ks e s' R→B e s')→EXEC (callW tbl) loopW body [] s B) :
 EXEC (callW tbl) loopW (.loop body) ks s R:=by
 refine zp01 (znl I (fun n s hI=>?_) n s h)
 refine hstep n s (fun e s'=>match e with | .normal=>∃ m,m < n∧I m s' | e=>KONT (callW tbl) loopW ks e s' R) hI (fun s' m hm hI'=>⟨m,hm,hI'⟩) (fun e s' he hk=>?_)
 cases e with
 | normal=>exact absurd rfl he
 | _=>exact hk
theorem zb2 {c i n t k k1:Nat} {body:ACode} (N:Nat) (I:Nat→St→Prop) (j:Nat) (hj:j≤N) (hIs:I j s) (hN:N < 2 ^ 62)
 (hI:∀ j s,I j s→s.tm.get i=.int .i64 j∧s.tm.get n=.int .i64 N)
 (hbody:∀ (j:Nat) (s:St) (B:AExit→St→Prop),j < N→I j s→(∀ e s',(e=.normal∨e=.exit k1)→s'.tm.get i=.int .i64 j→I (j + 1) { s' with tm:=s'.tm.put i (.int .i64 ((j + 1:Nat):Int)) }→B e s') →
  (∀ e s',e≠.normal→e≠.exit k1→KONT (callW tbl) loopW ks e s' R→B e s')→EXEC (callW tbl) loopW body [] { s with tm:=s.tm.put c (.bool true) } B)
 (hexit:∀ s,I N s→KONT (callW tbl) loopW ks (.exit k) { s with tm:=s.tm.put c (.bool false) } R)
 (hc:c < 4000:=by decide) (hi:i < 4000:=by decide) (hn:n < 4000:=by decide) (hci:c≠i:=by decide) (hcn:c≠n:=by decide) :
 EXEC (callW tbl) loopW (.loop (.seq (.region [⟨some c,true, .bin .lss .no (.tmp i) (.tmp n),none⟩]) (.seq (.cond (.tmp c) .skip (.exit k)) (.seq (.block k1 body)
  (.region [⟨some t,false, .bin .add .no (.tmp i) (ii 1),none⟩,⟨some i,true, .move (.tmp t),none⟩]))))) ks s R:=by
 refine zy31 (Q:=kontQ (callW tbl) loopW ks R) N I hN hc hi hn hci hcn hI (fun j s hlt hIs=>?_) (fun s hs=>hexit s hs) j s hj hIs
 refine hbody j s (fun e s'=>if e=.normal∨e=.exit k1 then s'.tm.get i=.int .i64 j∧I (j + 1) { s' with tm:=s'.tm.put i (.int .i64 ((j + 1:Nat):Int)) } else kontQ (callW tbl) loopW ks R e s') hlt hIs (fun e s' he h1 h2=>?_) (fun e s' h1 h2 h3=>?_)
 ·rw [if_pos he]; exact ⟨h1,h2⟩
 ·rw [if_neg (by simp [h1,h2])]; exact h3
theorem zxi (a b:ByteArray):(a.toList == b.toList)=decide (a=b):=by
 by_cases h:a=b
 ·subst h; simp
 ·have:a.toList≠b.toList:=fun e=>h (zo7 e)
  simp [h,this]
section
variable {e:z6a} {k:IntKind} {a b:Int} {x y:ByteArray}
@[simp] theorem zna1:binA .add e (.int k a) (.int k b)=some (.int k (k.wrap (a + b))):=by simp [binA,intOp]
@[simp] theorem zoa1:binA .sub e (.int k a) (.int k b)=some (.int k (k.wrap (a - b))):=by simp [binA,intOp]
@[simp] theorem zpa1:binA .mul e (.int k a) (.int k b)=some (.int k (k.wrap (a * b))):=by simp [binA,intOp]
@[simp] theorem zqa1:binA .eql e (.int k a) (.int k b)=some (.bool (a == b)):=by simp [binA,intOp]
@[simp] theorem zra1:binA .neq e (.int k a) (.int k b)=some (.bool (a != b)):=by simp [binA,intOp]
@[simp] theorem zsa1:binA .lss e (.int k a) (.int k b)=some (.bool (decide (a < b))):=by simp [binA,intOp]
@[simp] theorem zta1:binA .leq e (.int k a) (.int k b)=some (.bool (decide (a≤b))):=by simp [binA,intOp]
@[simp] theorem zua1:binA .gtr e (.int k a) (.int k b)=some (.bool (decide (a > b))):=by simp [binA,intOp]
@[simp] theorem zva1:binA .geq e (.int k a) (.int k b)=some (.bool (decide (a≥b))):=by simp [binA,intOp]
@[simp] theorem zwa1:binA .eql e (.str x) (.str y)=some (.bool (decide (x=y))):=by simp [binA,strOp,zxi]
@[simp] theorem zxa1:binA .neq e (.str x) (.str y)=some (.bool !(decide (x=y))):=by simp [binA,strOp,zxi]
@[simp] theorem zya1 {p q:Bool}:binA .eql .bool (.bool p) (.bool q)=some (.bool (p == q)):=rfl
@[simp] theorem zza1 {p q:Bool}:binA .neq .bool (.bool p) (.bool q)=some (.bool !(p == q)):=rfl
@[simp] theorem z0b1 {ks:List CK} {p q:List AV}:binA .eql (.cells ks) (.agg p) (.agg q)=(z21 ks p q).map .bool:=rfl
@[simp] theorem z1b1 {ks:List CK} {p q:List AV}:binA .neq (.cells ks) (.agg p) (.agg q)=(z21 ks p q).map fun b=>.bool !b:=rfl
@[simp] theorem zcy:z21 [] [] []=some true:=rfl
@[simp] theorem zm81 {ks:List CK} {p q:List AV}:z21 (.int::ks) (.int k a::p) (.int k b::q)=(z21 ks p q).map fun t=>(a == b) && t:=by
  simp only [z21,zl3,if_true]; cases z21 ks p q <;> rfl
@[simp] theorem zdy {ks:List CK} {p q:List AV}:z21 (.str::ks) (.str x::p) (.str y::q)=(z21 ks p q).map fun t=>decide (x=y) && t:=by
  simp only [z21,zl3,zxi]; cases z21 ks p q <;> rfl
end
@[simp] theorem z371 (b:Bool):AV.isCell (.bool b)=true:=rfl
@[simp] theorem zn81 (k:IntKind) (n:Int):AV.isCell (.int k n)=true:=rfl
@[simp] theorem zo81 (b:ByteArray):AV.isCell (.str b)=true:=rfl
@[simp] theorem z261:AV.isCell .nilsl=true:=rfl
@[simp] theorem za41:AV.isCell .nilmap=true:=rfl
@[simp] theorem zb41:AV.isCell .nilptr=true:=rfl
@[simp] theorem zi31:AV.isCell .nilfunc=true:=rfl
@[simp] theorem zq01:AV.isCell .niliface=true:=rfl
@[simp] theorem zp81 (l:Bool) (r:List AV):AV.isCell (.fsl l r)=true:=rfl
@[simp] theorem zl91 (a b c d:Nat):AV.isCell (.sl a b c d)=true:=rfl
@[simp] theorem zq81 (a b c d:Nat):AV.isCell (.ptr a b c d)=true:=rfl
@[simp] theorem zr81 (a b:Nat):AV.isCell (.map a b)=true:=rfl
@[simp] theorem z471 (a:Bool) (b:List AV) (c:Nat):AV.isCell (.fptr a b c)=true:=rfl
@[simp] theorem z571 (a:FuncId) (b c:List AV):AV.isCell (.func a b c)=true:=rfl
@[simp] theorem zm91 (cs:List AV):AV.cells (.agg cs)=cs:=rfl
@[simp] theorem zs81 (b:Bool):AV.cells (.bool b)=[.bool b]:=rfl
@[simp] theorem zn91 (k:IntKind) (n:Int):AV.cells (.int k n)=[.int k n]:=rfl
@[simp] theorem zr01 (b:ByteArray):AV.cells (.str b)=[.str b]:=rfl
@[simp] theorem z671:AV.cells .nilsl=[.nilsl]:=rfl
@[simp] theorem z361:AV.cells .nilmap=[.nilmap]:=rfl
@[simp] theorem z461:AV.cells .nilptr=[.nilptr]:=rfl
@[simp] theorem zc41:AV.cells .nilfunc=[.nilfunc]:=rfl
@[simp] theorem zj31:AV.cells .niliface=[.niliface]:=rfl
@[simp] theorem zo91 (l:Bool) (r:List AV):AV.cells (.fsl l r)=[.fsl l r]:=rfl
@[simp] theorem z2b1 (a b c d:Nat):AV.cells (.sl a b c d)=[.sl a b c d]:=rfl
@[simp] theorem zp91 (a b c d:Nat):AV.cells (.ptr a b c d)=[.ptr a b c d]:=rfl
@[simp] theorem zq91 (a b:Nat):AV.cells (.map a b)=[.map a b]:=rfl
@[simp] theorem zt81 (a:Bool) (b:List AV) (c:Nat):AV.cells (.fptr a b c)=[.fptr a b c]:=rfl
@[simp] theorem zu81 (a:FuncId) (b c:List AV):AV.cells (.func a b c)=[.func a b c]:=rfl
@[simp] theorem z771 (b:Bool):AV.rowok 1 (.bool b)=true:=rfl
@[simp] theorem zv81 (k:IntKind) (n:Int):AV.rowok 1 (.int k n)=true:=rfl
@[simp] theorem zw81 (b:ByteArray):AV.rowok 1 (.str b)=true:=rfl
@[simp] theorem z561:AV.rowok 1 .nilsl=true:=rfl
@[simp] theorem zd41:AV.rowok 1 .nilmap=true:=rfl
@[simp] theorem ze41:AV.rowok 1 .nilptr=true:=rfl
@[simp] theorem zk31:AV.rowok 1 .nilfunc=true:=rfl
@[simp] theorem zs01:AV.rowok 1 .niliface=true:=rfl
@[simp] theorem zx81 (l:Bool) (r:List AV):AV.rowok 1 (.fsl l r)=true:=rfl
@[simp] theorem zr91 (a b c d:Nat):AV.rowok 1 (.sl a b c d)=true:=rfl
@[simp] theorem zy81 (a b c d:Nat):AV.rowok 1 (.ptr a b c d)=true:=rfl
@[simp] theorem zz81 (a b:Nat):AV.rowok 1 (.map a b)=true:=rfl
@[simp] theorem z871 (a:Bool) (b:List AV) (c:Nat):AV.rowok 1 (.fptr a b c)=true:=rfl
@[simp] theorem z971 (a:FuncId) (b c:List AV):AV.rowok 1 (.func a b c)=true:=rfl
@[simp] theorem z091 (b:Bool):AV.plain (.bool b)=true:=rfl
@[simp] theorem zs91 (k:IntKind) (n:Int):AV.plain (.int k n)=true:=rfl
@[simp] theorem zt91 (b:ByteArray):AV.plain (.str b)=true:=rfl
@[simp] theorem za71:AV.plain .nilsl=true:=rfl
@[simp] theorem z661:AV.plain .nilmap=true:=rfl
@[simp] theorem zu91 (l:Bool) (r:List AV):AV.plain (.fsl l r)=AV.plains r:=rfl
@[simp] theorem zv91 (r:List AV):AV.plain (.agg r)=AV.plains r:=rfl
@[simp] theorem zb71 (r:List AV):AV.plain (.tuple r)=AV.plains r:=rfl
@[simp] theorem z191:AV.plains []=true:=rfl
@[simp] theorem zc71 (v:AV) (r:List AV):AV.plains (v::r)=(v.plain && AV.plains r):=rfl
class Enc (α:Type) where
 Is:AV→α→Prop
 lend:∀ {v:AV} {x:α},Is v x→Is v.lend x
 plain:∀ {v:AV} {x:α},Is v x→v.plain=true
 sz:Nat
 row:∀ {v:AV} {x:α},Is v x→v.rowok sz=true
open Enc (Is)
inductive All2 {α β:Type} (R:α→β→Prop):List α→List β→Prop
 | nil:All2 R [] []
 | cons {a:α} {b:β} {as:List α} {bs:List β} (h:R a b) (hs:All2 R as bs):All2 R (a::as) (b::bs)
namespace All2
variable {α β:Type} {R:α→β→Prop}
theorem length {l:List α} {m:List β} (h:All2 R l m):l.length=m.length:=by induction h <;> simp_all
theorem get {l:List α} {m:List β} (h:All2 R l m) {i:Nat} {b:β} (hb:m[i]? = some b):∃ a,l[i]? = some a∧R a b:=by
 induction h generalizing i with
 | nil=>simp at hb
 | cons h _ ih=>
   cases i with
   | zero=>simp at hb; subst hb; exact ⟨_,rfl,h⟩
   | succ i=>simpa using ih (by simpa using hb)
theorem take {l:List α} {m:List β} (h:All2 R l m) (n:Nat):All2 R (l.take n) (m.take n):=by
 induction h generalizing n with
 | nil=>simp; exact .nil
 | cons h _ ih=>cases n with
   | zero=>exact .nil
   | succ n=>exact .cons h (ih n)
theorem drop {l:List α} {m:List β} (h:All2 R l m) (n:Nat):All2 R (l.drop n) (m.drop n):=by
 induction h generalizing n with
 | nil=>simp; exact .nil
 | cons h hs ih=>cases n with
   | zero=>exact .cons h hs
   | succ n=>exact ih n
theorem append {l l':List α} {m m':List β} (h:All2 R l m) (h':All2 R l' m'):All2 R (l++l') (m++m'):=by
 induction h with
 | nil=>exact h'
 | cons h _ ih=>exact .cons h ih
theorem imp {R':α→β→Prop} {l:List α} {m:List β} (h:All2 R l m) (hi:∀ a b,R a b→R' a b):All2 R' l m:=by
 induction h with
 | nil=>exact .nil
 | cons h _ ih=>exact .cons (hi _ _ h) ih
theorem left {l:List α} {m:List β} (h:All2 R l m):∀ a∈l,∃ b∈m,R a b:=by
 induction h with
 | nil=>simp
 | cons h _ ih=>
   intro a ha
   rcases List.mem_cons.1 ha with rfl | ha
   ·exact ⟨_,List.mem_cons_self ..,h⟩
   ·obtain ⟨b,h1,h2⟩:=ih a ha; exact ⟨b,List.mem_cons_of_mem _ h1,h2⟩
end All2
section
variable {α:Type} [Enc α]
theorem zt01 {rows:List AV} {xs:List α} (h:All2 Is rows xs):All2 Is (AV.lends rows) xs:=by
 induction h with
 | nil=>exact .nil
 | cons h _ ih=>exact .cons (Enc.lend h) ih
theorem zyi {rows:List AV} {xs:List α} (h:All2 Is rows xs):AV.plains rows=true:=by
 induction h with
 | nil=>rfl
 | cons h _ ih=>simp [AV.plains,Enc.plain h,ih]
theorem zf41 {rows:List AV} {xs:List α} (h:All2 Is rows xs):(rows.all fun r=>r.cells.length == Enc.sz α)=true:=by
 induction h with
 | nil=>rfl
 | cons h _ ih=>simp only [List.all_cons,ih,Bool.and_true]; simpa using z01 (Enc.row h)
theorem zey {sz:Nat} {rows:List AV} {xs:List α} {fl:Bool} {lo hi:Option AV} {l h:Nat} (hr:All2 Is rows xs) (hsz:sz=Enc.sz α) (h1:1≤sz) (hh:bound rows.length rows.length hi=some h) (hl:bound 0 h lo=some l) :
 zij sz lo hi (.fsl fl rows)=some (.fsl fl ((rows.drop l).take (h - l))):=by
 subst hsz
 simp only [zij,hh,hl,zf41 hr,if_true]
 rw [if_neg (by omega)]
def IsL (v:AV) (xs:List α):Prop:=(v=.nilsl∧xs=[])∨∃ (fl:Bool) (rows:List AV),v=.fsl fl rows∧All2 Is rows xs
instance:Enc (List α) where
 Is:=IsL
 lend:=by
  rintro v xs (⟨rfl,rfl⟩ | ⟨fl,rows,rfl,h⟩)
  ·exact .inl ⟨rfl,rfl⟩
  ·exact .inr ⟨true,_,rfl,zt01 h⟩
 plain:=by
  rintro v xs (⟨rfl,rfl⟩ | ⟨fl,rows,rfl,h⟩)
  ·rfl
  ·simpa [AV.plain] using zyi h
 sz:=1
 row:=by
  rintro v xs (⟨rfl,rfl⟩ | ⟨fl,rows,rfl,h⟩) <;> rfl
theorem IsL.nil:Is (α:=List α) .nilsl []:=.inl ⟨rfl,rfl⟩
theorem IsL.fsl {fl:Bool} {rows:List AV} {xs:List α} (h:All2 Is rows xs):Is (.fsl fl rows) xs:=.inr ⟨fl,rows,rfl,h⟩
theorem IsL.cases {v:AV} {xs:List α} (h:Is v xs):(v=.nilsl∧xs=[])∨∃ (fl:Bool) (rows:List AV),v=.fsl fl rows∧All2 Is rows xs:=h
end
instance:Enc Bool where
 Is v b:=v=.bool b
 lend:=by rintro v x rfl; rfl
 plain:=by rintro v x rfl; rfl
 sz:=1
 row:=by rintro v x rfl; rfl
instance:Enc ByteArray where
 Is v b:=v=.str b
 lend:=by rintro v x rfl; rfl
 plain:=by rintro v x rfl; rfl
 sz:=1
 row:=by rintro v x rfl; rfl
end Go.Abs
namespace Go.Abs
mutual
theorem zra {n m:Nat} (h:n≤m):∀ v:AV,v.under n=true→v.under m=true
 | .undef,_ | .bool _,_ | .int _ _,_ | .str _,_ | .nilptr,_ | .nilsl,_ | .nilmap,_ | .nilfunc,_ | .niliface,_=>rfl
 | .ptr _ _ _ _,hv | .sl _ _ _ _,hv | .map _ _,hv | .yieldf _ _,hv=>by simp only [AV.under,decide_eq_true_eq] at hv ⊢; omega
 | .fptr _ cs _,hv=>by simp only [AV.under] at hv ⊢; exact zt5 h cs hv
 | .fsl _ cs,hv=>by simp only [AV.under] at hv ⊢; exact zt5 h cs hv
 | .func _ a b,hv=>by simp only [AV.under,Bool.and_eq_true] at hv ⊢; exact ⟨zt5 h a hv.1,zt5 h b hv.2⟩
 | .iface _ v,hv=>by simp only [AV.under] at hv ⊢; exact zra h v hv
 | .agg cs,hv=>by simp only [AV.under] at hv ⊢; exact zt5 h cs hv
 | .tuple cs,hv=>by simp only [AV.under] at hv ⊢; exact zt5 h cs hv
theorem zt5 {n m:Nat} (h:n≤m):∀ vs:List AV,AV.unders n vs=true→AV.unders m vs=true
 | [],_=>rfl
 | v::vs,hv=>by simp only [AV.unders,Bool.and_eq_true] at hv ⊢; exact ⟨zra h v hv.1,zt5 h vs hv.2⟩
end
mutual
theorem zu5 {n:Nat}:∀ v:AV,v.plain=true→v.under n=true
 | .undef,_ | .bool _,_ | .int _ _,_ | .str _,_ | .nilptr,_ | .nilsl,_ | .nilmap,_ | .nilfunc,_ | .niliface,_=>rfl
 | .ptr _ _ _ _,hv | .sl _ _ _ _,hv | .map _ _,hv | .yieldf _ _,hv=>by simp [AV.plain] at hv
 | .fptr _ cs _,hv=>by simp only [AV.under,AV.plain] at hv ⊢; exact z31 cs hv
 | .fsl _ cs,hv=>by simp only [AV.under,AV.plain] at hv ⊢; exact z31 cs hv
 | .func _ a b,hv=>by simp only [AV.under,AV.plain,Bool.and_eq_true] at hv ⊢; exact ⟨z31 a hv.1,z31 b hv.2⟩
 | .iface _ v,hv=>by simp only [AV.under,AV.plain] at hv ⊢; exact zu5 v hv
 | .agg cs,hv=>by simp only [AV.under,AV.plain] at hv ⊢; exact z31 cs hv
 | .tuple cs,hv=>by simp only [AV.under,AV.plain] at hv ⊢; exact z31 cs hv
theorem z31 {n:Nat}:∀ vs:List AV,AV.plains vs=true→AV.unders n vs=true
 | [],_=>rfl
 | v::vs,hv=>by simp only [AV.unders,AV.plains,Bool.and_eq_true] at hv ⊢; exact ⟨zu5 v hv.1,z31 vs hv.2⟩
end
theorem znb {n m:Nat} (h:n≤m):∀ t:Tm,t.under n=true→t.under m=true
 | .leaf,_=>rfl
 | .node v l r,hv=>by simp only [Tm.under,Bool.and_eq_true] at hv ⊢; exact ⟨⟨zra h v hv.1.1,znb h l hv.1.2⟩,znb h r hv.2⟩
theorem zgh {n m:Nat} (h:n≤m) {B:Blk} (hB:B.under n=true):B.under m=true:=by
 cases B with
 | dead | defr=>rfl
 | arr g s rows=>exact zt5 h rows hB
 | map g es c=>
   simp only [Blk.under,List.all_eq_true,Bool.and_eq_true] at hB ⊢
   exact fun e he=>⟨zra h _ (hB e he).1,zra h _ (hB e he).2⟩
 | loop g st pd tm ps a b=>exact znb h tm hB
 | iter g mv a b c=>exact zra h mv hB
def HOK (H:Heap):Prop:=∀ B∈H,Blk.under H.length B=true
theorem HOK.all {H:Heap} (h:HOK H):H.all (Blk.under H.length)=true:=List.all_eq_true.2 h
theorem HOK.set {H:Heap} {b:Nat} {B:Blk} (h:HOK H) (hB:B.under H.length=true):HOK (H.set b B):=by
 intro C hC
 rw [List.length_set]
 rcases List.mem_or_eq_of_mem_set hC with hC | rfl
 ·exact h C hC
 ·exact hB
theorem HOK.push {H:Heap} {B:Blk} (h:HOK H) (hB:B.under (H.length + 1)=true):HOK (H++[B]):=by
 intro C hC
 simp only [List.length_append,List.length_singleton]
 rcases List.mem_append.1 hC with hC | hC
 ·exact zgh (by omega) (h C hC)
 ·simp only [List.mem_singleton] at hC; subst hC; exact hB
theorem zhc {H T:Heap} {r:AV} {n:Nat} (h:HOK H) (hn:n=H.length) (hr:r.under H.length=true):zj false n r (H++T)=(r,H):=by
 subst hn
 simp only [zj,Bool.false_eq_true,if_false,trunc]
 rw [List.take_left' rfl,hr,h.all]; rfl
theorem ze {H:Heap} {r:AV} {n:Nat} (hn:n=H.length):zj false n r H=(r,H):=by
 subst hn
 simp only [zj,Bool.false_eq_true,if_false,trunc,List.take_length]
 split <;> rfl
theorem zi9 {H T:Heap} {r r':AV} {n:Nat} (h:HOK H) (hn:n=H.length) (hr:reify (zs8 H.length (H++T)) zw r=some r'):zj true n r (H++T)=(r',H):=by
 subst hn
 simp only [zj,if_true,freeze]
 rw [List.take_left' rfl,h.all,hr]; rfl
theorem zeg {H T:Heap} (j:Nat):(zs8 H.length (H++T))[H.length + j]? = T[j]? := by
 unfold zs8
 rw [List.getElem?_append_right (by simp)]
 simp
theorem set_same {H:Heap} {b:Nat} {B:Blk} (h:H[b]? = some B):H.set b B=H:=by
 apply List.ext_getElem?
 intro i
 rw [List.getElem?_set]
 split
 ·rename_i e; subst e; split
  ·exact h.symm
  ·rename_i hl; rw [List.getElem?_eq_none (by omega)]
 ·rfl
theorem zgq {Hb:Heap} {id g sz off len k:Nat} {R rs:List AV} (hB:Hb[id]? = some (.arr g sz R)) (hle:off + len≤R.length) (hm:zx3 (reify Hb k) ((R.drop off).take len)=some rs) :
 reify Hb (k + 1) (.sl id g off len)=some (.fsl false rs):=by
 have hp:AV.plain (.sl id g off len)=false:=rfl
 rw [reify]
 simp only [hp,Bool.false_eq_true,if_false,hB,hle,and_self,if_true,hm]
theorem zv5 {Hb:Heap} {k:Nat} {v:AV} (h:v.plain=true):reify Hb (k + 1) v=some v:=by simp only [reify,h,if_true]
theorem zuj {α:Type} [Enc α] {Hb:Heap} {k:Nat} {rows:List AV} {xs:List α} (h:All2 Enc.Is rows xs):zx3 (reify Hb (k + 1)) rows=some rows:=by
 induction h with
 | nil=>rfl
 | cons h _ ih=>simp only [zx3,zv5 (Enc.plain h),ih]
theorem zv8 {α:Type} [Enc α] {Hb:Heap} {id g sz off len k:Nat} {R rows:List AV} {xs:List α} (hB:Hb[id]? = some (.arr g sz R)) (hle:off + len≤R.length) (he:(R.drop off).take len=rows) (h:All2 Enc.Is rows xs) :
 reify Hb (k + 2) (.sl id g off len)=some (.fsl false rows):=
 zgq (k:=k + 1) hB hle (by rw [he]; exact zuj h)
theorem zd5 {α:Type} [Enc α] {Hb:Heap} {id g sz off len:Nat} {R rows:List AV} {xs:List α} (hB:Hb[id]? = some (.arr g sz R)) (hle:off + len≤R.length) (he:(R.drop off).take len=rows) (h:All2 Enc.Is rows xs) :
 reify Hb zw (.sl id g off len)=some (.fsl false rows):=
 zgq (k:=11) hB hle (by rw [he]; exact zuj h)
end Go.Abs
