/- Exec: comparisons of values and tuples. PRINTED IN PART BY wip/exec/gX4.py. -/
import Derived.Test.YtddpdpjpfgnhmaaGreatG28x
import Derived.Test.YtddpdpjpfgnhmaaGreatG29x
import Derived.Test.YtddpdpjpfgnhmaaGreatG31x
import Derived.Test.YtddpdpjpfgnhmaaGreatG25x
set_option linter.unusedSimpArgs false
set_option linter.unusedVariables false
set_option maxHeartbeats 4000000
namespace Go.Abs
open Enc (Is)
abbrev Tup:=List Val
instance:Enc Int where
 Is v x:=v=i64 x
 lend:=by rintro v x rfl; rfl
 plain:=by rintro v x rfl; rfl
 sz:=1
 row:=by rintro v x rfl; rfl
structure Counted where
 t:Tup
 n:Int
 deriving DecidableEq,Inhabited
structure RelOf where
 name:ByteArray
 rel:List Tup
 deriving DecidableEq,Inhabited
instance:Enc Counted where
 Is v x:=∃ a,Is a x.t∧v=.agg [a,i64 x.n]
 lend:=by rintro v x ⟨a,h,rfl⟩; exact ⟨a.lend,Enc.lend h,rfl⟩
 plain:=by rintro v x ⟨a,h,rfl⟩; simp [Enc.plain h]
 sz:=2
 row:=by rintro v x ⟨a,h,rfl⟩; simp [AV.rowok,(zb h).1]
instance:Enc RelOf where
 Is v x:=∃ a,Is a x.rel∧v=.agg [.str x.name,a]
 lend:=by rintro v x ⟨a,h,rfl⟩; exact ⟨a.lend,Enc.lend h,rfl⟩
 plain:=by rintro v x ⟨a,h,rfl⟩; simp [Enc.plain h]
 sz:=2
 row:=by rintro v x ⟨a,h,rfl⟩; simp [AV.rowok,(zb h).1]
end Go.Abs
namespace Go.Abs.Plan
open Enc (Is)
theorem ztd:∀ (x y:List UInt8),Op.bytesLess x y=decide (x < y)
 | [],[]=>by simp [Op.bytesLess]
 | _::_,[]=>by simp [Op.bytesLess]
 | [],_::_=>by simp [Op.bytesLess]
 | a::x,b::y=>by
   rw [Op.bytesLess,ztd x y]
   simp only [List.cons_lt_cons_iff]
   by_cases h1:a < b <;> by_cases h2:a=b <;> by_cases h3:x < y <;> simp [h1,h2,h3]
theorem zmk {e:z6a} {x y:ByteArray}:binA .lss e (.str x) (.str y)=some (.bool (decide (x.toList < y.toList))):=by
 show some (AV.bool (Op.bytesLess x.toList y.toList))=_
 rw [ztd]
theorem ztq {e:z6a} {x y:ByteArray}:binA .gtr e (.str x) (.str y)=some (.bool (decide (y.toList < x.toList))):=by
 show some (AV.bool !(Op.bytesLess x.toList y.toList || x.toList == y.toList))=_
 rw [ztd]
 congr 2
 by_cases h1:x.toList < y.toList
 ·have:¬ y.toList < x.toList:=fun h=>List.lt_irrefl _ (List.lt_trans h1 h)
  simp [h1,this]
 ·by_cases h2:x.toList=y.toList
  ·simp [h2]
  ·have h3:y.toList < x.toList:=by
    by_cases h:y.toList < x.toList
    ·exact h
    ·exact absurd (List.le_antisymm (List.not_lt.1 h) (List.not_lt.1 h1)) h2
   simp [h1,h2,h3]
def cmpS (x y:ByteArray):Int:=if x.toList < y.toList then -1 else if y.toList < x.toList then 1 else 0
def cmpI (x y:Int):Int:=if x < y then -1 else if y < x then 1 else 0
def vcmp (a b:Val):Int:=if cmpI a.kind b.kind≠0 then cmpI a.kind b.kind else if cmpI a.n b.n≠0 then cmpI a.n b.n else cmpS a.s b.s
theorem zsc (x:ByteArray) (H:Heap):callW tbl (.func zk5 [] []) [.str x] H=some (.bool false,H):=by
 obtain ⟨r,h1,rfl⟩:∃ r,zy (callW tbl) loopW z83 [.str x]=some r∧r=.bool false:=by
  refine pureK z83 rfl (fun F hF=>?_)
  simp [z83,zwb]
  exact hF _ _ _ (z6 rfl) rfl
 exact Go.Abs.Sort.pureA (f:=zk5) (af:=z83) rfl rfl rfl rfl h1 H
theorem zqm (x y:ByteArray) (H:Heap):callW tbl (.func zq6 [] []) [.str x, .str y] H=some (i64 (cmpS x y),H):=by
 obtain ⟨r,h1,rfl⟩:∃ r,zy (callW tbl) loopW zr1 [.str x, .str y]=some r∧r=i64 (cmpS x y):=by
  refine pureK zr1 rfl (fun F hF=>?_)
  have n1:=zsc x []
  have n2:=zsc y []
  unfold cmpS at hF
  by_cases k1:x.toList < y.toList
  ·rw [if_pos k1] at hF
   simp [zr1,zi4,n1,n2,zmk,ztq,k1]
   exact hF _ _ _ (z6 rfl) rfl
  ·rw [if_neg k1] at hF
   by_cases k2:y.toList < x.toList
   ·rw [if_pos k2] at hF
    simp [zr1,zi4,n1,n2,zmk,ztq,k1,k2]
    exact hF _ _ _ (z6 rfl) rfl
   ·rw [if_neg k2] at hF
    simp [zr1,zi4,n1,n2,zmk,ztq,k1,k2]
    exact hF _ _ _ (z6 rfl) rfl
 exact Go.Abs.Sort.pureA (f:=zq6) (af:=zr1) rfl rfl rfl rfl h1 H
theorem z4e (x:Int) (H:Heap):callW tbl (.func zb6 [] []) [.int .i64 x] H=some (.bool false,H):=by
 obtain ⟨r,h1,rfl⟩:∃ r,zy (callW tbl) loopW zj3 [.int .i64 x]=some r∧r=.bool false:=by
  refine pureK zj3 rfl (fun F hF=>?_)
  simp [zj3,zpc]
  exact hF _ _ _ (z6 rfl) rfl
 exact Go.Abs.Sort.pureA (f:=zb6) (af:=zj3) rfl rfl rfl rfl h1 H
theorem z1o (x y:Int) (H:Heap):callW tbl (.func ze7 [] []) [.int .i64 x, .int .i64 y] H=some (i64 (cmpI x y),H):=by
 obtain ⟨r,h1,rfl⟩:∃ r,zy (callW tbl) loopW zy1 [.int .i64 x, .int .i64 y]=some r∧r=i64 (cmpI x y):=by
  refine pureK zy1 rfl (fun F hF=>?_)
  have n1:=z4e x []
  have n2:=z4e y []
  unfold cmpI at hF
  by_cases k1:x < y
  ·rw [if_pos k1] at hF
   simp [zy1,z75,n1,n2,k1]
   exact hF _ _ _ (z6 rfl) rfl
  ·rw [if_neg k1] at hF
   by_cases k2:y < x
   ·rw [if_pos k2] at hF
    simp [zy1,z75,n1,n2,k1,k2]
    exact hF _ _ _ (z6 rfl) rfl
   ·rw [if_neg k2] at hF
    simp [zy1,z75,n1,n2,k1,k2]
    exact hF _ _ _ (z6 rfl) rfl
 exact Go.Abs.Sort.pureA (f:=ze7) (af:=zy1) rfl rfl rfl rfl h1 H
theorem z5e (x:Int) (H:Heap):callW tbl (.func zc6 [] []) [.int .i64 x] H=some (.bool false,H):=by
 obtain ⟨r,h1,rfl⟩:∃ r,zy (callW tbl) loopW zk3 [.int .i64 x]=some r∧r=.bool false:=by
  refine pureK zk3 rfl (fun F hF=>?_)
  simp [zk3,zqc]
  exact hF _ _ _ (z6 rfl) rfl
 exact Go.Abs.Sort.pureA (f:=zc6) (af:=zk3) rfl rfl rfl rfl h1 H
theorem z2o (x y:Int) (H:Heap):callW tbl (.func zf7 [] []) [.int .i64 x, .int .i64 y] H=some (i64 (cmpI x y),H):=by
 obtain ⟨r,h1,rfl⟩:∃ r,zy (callW tbl) loopW zz1 [.int .i64 x, .int .i64 y]=some r∧r=i64 (cmpI x y):=by
  refine pureK zz1 rfl (fun F hF=>?_)
  have n1:=z5e x []
  have n2:=z5e y []
  unfold cmpI at hF
  by_cases k1:x < y
  ·rw [if_pos k1] at hF
   simp [zz1,z85,n1,n2,k1]
   exact hF _ _ _ (z6 rfl) rfl
  ·rw [if_neg k1] at hF
   by_cases k2:y < x
   ·rw [if_pos k2] at hF
    simp [zz1,z85,n1,n2,k1,k2]
    exact hF _ _ _ (z6 rfl) rfl
   ·rw [if_neg k2] at hF
    simp [zz1,z85,n1,n2,k1,k2]
    exact hF _ _ _ (z6 rfl) rfl
 exact Go.Abs.Sort.pureA (f:=zf7) (af:=zz1) rfl rfl rfl rfl h1 H
theorem z3a1 (v:AV) (l:List Int) (h:Is v l) (hl:l.length < 2 ^ 40):∃ w,zy (callW tbl) loopW zz7 [v]=some w∧w=i64 ((l.find? (·≠0)).getD 0)∧w.unlent=true:=by
 have hln:=IsL.len h
 have hc:=zb h
 refine pureK zz7 rfl (fun F hF=>?_)
 simp [zz7,z2k,hln]
 refine zg (fun k s=>∃ j:Nat,j + k=l.length∧(∀ i,i < j→l[i]? = some 0)∧s.heap=[]∧s.dfr=[]∧s.tm.get 3=.int .i64 0∧s.tm.get 6=v∧s.tm.get 7=.int .i64 (l.length:Int)∧s.tm.get 8=.int .i64 (j:Int)) l.length ⟨0,by omega,by simp,rfl,rfl,by simp,by simp,by simp,by simp⟩ ?_
 rintro k s Q ⟨j,h0,hz,q1,q2,f3,f6,f7,f8⟩ hgo hx
 have hw:IntKind.i64.wrap ((j:Int) + 1)=((j + 1:Nat):Int):=z61 (by omega) (by omega)
 by_cases hj:j < l.length
 ·have hji:(j:Int) < (l.length:Int):=by omega
  obtain ⟨fl,r,rfl,hidx⟩:=IsL.idx h (List.getElem?_eq_getElem hj)
  simp only [show Enc.sz Int=1 from rfl] at hidx
  by_cases hk:l[j]=0
  ·simp [zg8,q1,f3,f6,f7,f8,hji,hidx,hk,AV.rowok]
   refine hgo _ (k - 1) (by omega) ⟨j + 1,by omega,fun i hi=>?_,rfl,by simp [q2],by simp [f3],by simp [f6],by simp [f7],by simp [hw]⟩
   by_cases hij:i=j
   ·subst hij; rw [List.getElem?_eq_getElem hj,hk]
   ·exact hz i (by omega)
  ·simp [zg8,q1,f3,f6,f7,f8,hji,hidx,hk,AV.rowok]
   refine hx _ _ (by simp) ?_
   simp [q2]
   refine hF _ _ _ (z6 rfl) ⟨?_,rfl⟩
   have:l.find? (·≠0)=some l[j]:=by
    rw [List.find?_eq_some_iff_getElem]
    refine ⟨by simpa using hk,j,hj,rfl,fun i hi=>?_⟩
    have:=hz i hi
    rw [List.getElem?_eq_getElem (by omega)] at this
    simp at this; simp [this]
   rw [this]; rfl
 ·have hji:¬ (j:Int) < (l.length:Int):=by omega
  simp [zg8,q1,f3,f7,f8,hji]
  refine hx _ _ (by simp) ?_
  simp [q2,f3]
  refine hF _ _ _ (z6 rfl) ⟨?_,rfl⟩
  have:l.find? (·≠0)=none:=by
   rw [List.find?_eq_none]
   intro x hxl
   obtain ⟨i,hi⟩:=List.mem_iff_getElem?.1 hxl
   have hil:=(List.getElem?_eq_some_iff.1 hi).1
   have:=hz i (by omega)
   rw [this] at hi; simp at hi; simp [← hi]
  rw [this]; rfl
theorem zx41 (H:Heap) (b0 g:Nat) (x y z:Int) (hb:H[b0]? = some (.arr g 1 [i64 x,i64 y,i64 z])):callW tbl (.func zte [] []) [.sl b0 g 0 3] H=some (i64 (if x≠0 then x else if y≠0 then y else z),H):=by
 have his:All2 Is [i64 x,i64 y,i64 z] [x,y,z]:=.cons rfl (.cons rfl (.cons rfl .nil))
 have hre:reify H zw (.sl b0 g 0 3)=some (.fsl false [i64 x,i64 y,i64 z]):=zd5 hb (by simp) rfl his
 obtain ⟨r,h2,rfl⟩:=zf71 (f:=zte) (af:=zz7) (S:=fun w=>w=i64 (if x≠0 then x else if y≠0 then y else z)) rfl rfl [x,y,z]
  (fun v h=>by
   obtain ⟨w,g1,g2,g3⟩:=z3a1 v [x,y,z] h (by simp)
   refine ⟨w,g1,?_,g3⟩
   rw [g2]
   by_cases h1:x=0 <;> by_cases h2:y=0 <;> by_cases h3:z=0 <;> simp [h1,h2,h3]) _ _ H hre (IsL.fsl his)
 exact h2
theorem z2j (a b:Val):∃ w,zy (callW tbl) loopW zs3 [a.enc,b.enc]=some w∧w=i64 (vcmp a b):=by
 refine pureK zs3 rfl (fun F hF=>?_)
 have h1:=z1o a.kind b.kind
 have h2:=z2o a.n b.n
 have h3:=zqm a.s b.s
 have h4:=zx41 [.arr 1 1 [i64 (cmpI a.kind b.kind),i64 (cmpI a.n b.n),i64 (cmpS a.s b.s)]] 0 1 _ _ _ rfl
 have hn:(if cmpI a.kind b.kind≠0 then cmpI a.kind b.kind else if cmpI a.n b.n≠0 then cmpI a.n b.n else cmpS a.s b.s)=vcmp a b:=rfl
 rw [hn] at h4
 simp [zs3,z0f,AV.rowok,h1,h2,h3,zr,h4]
 exact hF _ _ _ (z6 rfl) rfl
theorem zxb (a b:Val) (H:Heap):callW tbl (.func zo3 [] []) [a.enc,b.enc] H=some (i64 (vcmp a b),H):=by
 obtain ⟨r,h1,rfl⟩:=z2j a b
 exact Go.Abs.Sort.pureA (f:=zo3) (af:=zs3) rfl rfl rfl rfl h1 H
end Go.Abs.Plan
namespace Go.Abs.Plan
open Enc (Is)
def tcmp:Tup→Tup→Int
 | [],[]=>0
 | [],_::_ => -1
 | _::_,[]=>1
 | a::x,b::y=>if vcmp a b≠0 then vcmp a b else tcmp x y
theorem zfk (t u:Tup) (v w:AV) (hv:Is v t) (hw:Is w u) (ht:t.length < 2 ^ 40) (hu:u.length < 2 ^ 40) (H:Heap) :
 callW tbl (.func zg2 [] []) [v,w, .func zo3 [] []] H=some (i64 (tcmp t u),H):=by
 have hlv:=IsL.len hv
 have hlw:=IsL.len hw
 have hcv:=zb hv
 have hcw:=zb hw
 refine callB z91 rfl rfl rfl (fun F hF=>?_)
 simp [z91,zh2,hlv]
 refine zg (fun k s=>∃ j:Nat,j + k=t.length∧j≤u.length∧tcmp t u=tcmp (t.drop j) (u.drop j)∧s.heap=H∧s.dfr=[]∧s.tm.get 0=v∧s.tm.get 1=w∧s.tm.get 2=.func zo3 [] []∧s.tm.get 11=v∧s.tm.get 12=.int .i64 (t.length:Int)∧s.tm.get 13=.int .i64 (j:Int)) t.length ⟨0,by omega,by omega,by simp,rfl,rfl,by simp,by simp,by simp,by simp,by simp,by simp⟩ ?_
 rintro k s Q ⟨j,h0,hju,hz,q1,q2,f0,f1,f2,f11,f12,f13⟩ hgo hx
 have hwj:IntKind.i64.wrap ((j:Int) + 1)=((j + 1:Nat):Int):=z61 (by omega) (by omega)
 by_cases hj:j < t.length
 ·have hji:(j:Int) < (t.length:Int):=by omega
  obtain ⟨fl,r,rfl,hidx⟩:=IsL.idx hv (List.getElem?_eq_getElem hj)
  simp only [show Enc.sz Val=3 from rfl] at hidx
  have hdt:t.drop j=t[j]::t.drop (j + 1):=List.drop_eq_getElem_cons hj
  by_cases hj2:j < u.length
  ·have hni:¬ (u.length:Int)≤(j:Int):=by omega
   obtain ⟨fl2,r2,rfl,hidx2⟩:=IsL.idx hw (List.getElem?_eq_getElem hj2)
   simp only [show Enc.sz Val=3 from rfl] at hidx2
   have hdu:u.drop j=u[j]::u.drop (j + 1):=List.drop_eq_getElem_cons hj2
   have hcall:=zxb t[j] u[j] H
   by_cases hk:vcmp t[j] u[j]=0
   ·simp [zq,q1,f0,f1,f2,f11,f12,f13,hji,hidx,hidx2,AV.rowok,hlw,hni,hcall,hk]
    refine hgo _ (k - 1) (by omega) ⟨j + 1,by omega,by omega,?_,rfl,by simp [q2],by simp [f0],by simp [f1],by simp [f2],by simp [f11],by simp [f12],by simp [hwj]⟩
    rw [hz,hdt,hdu]; simp [tcmp,hk]
   ·simp [zq,q1,f0,f1,f2,f11,f12,f13,hji,hidx,hidx2,AV.rowok,hlw,hni,hcall,hk]
    refine hx _ _ (by simp) ?_
    simp [q2]
    have e:tcmp t u=vcmp t[j] u[j]:=by rw [hz,hdt,hdu]; simp [tcmp,hk]
    rw [e] at hF
    exact hF _ _ (ze (by simp))
  ·have hni:(u.length:Int)≤(j:Int):=by omega
   simp [zq,q1,f0,f1,f2,f11,f12,f13,hji,hidx,AV.rowok,hlw,hni]
   refine hx _ _ (by simp) ?_
   simp [q2]
   have hdu:u.drop j=[]:=List.drop_eq_nil_of_le (by omega)
   have e:tcmp t u=1:=by rw [hz,hdt,hdu]; rfl
   rw [e] at hF
   exact hF _ _ (ze (by simp))
 ·have hji:¬ (j:Int) < (t.length:Int):=by omega
  have hdt:t.drop j=[]:=List.drop_eq_nil_of_le (by omega)
  by_cases hlt:t.length < u.length
  ·have hlti:(t.length:Int) < (u.length:Int):=by omega
   simp [zq,q1,f0,f1,f11,f12,f13,hji]
   refine hx _ _ (by simp) ?_
   simp [q2,f0,f1,hlv,hlw,hlti]
   have hj2:j < u.length:=by omega
   have e:tcmp t u = -1:=by rw [hz,hdt,List.drop_eq_getElem_cons hj2]; rfl
   rw [e] at hF
   exact hF _ _ (ze (by simp))
  ·have hlti:¬ (t.length:Int) < (u.length:Int):=by omega
   simp [zq,q1,f0,f1,f11,f12,f13,hji]
   refine hx _ _ (by simp) ?_
   simp [q2,f0,f1,hlv,hlw,hlti]
   have hdu:u.drop j=[]:=List.drop_eq_nil_of_le (by omega)
   have e:tcmp t u=0:=by rw [hz,hdt,hdu]; rfl
   rw [e] at hF
   exact hF _ _ (ze (by simp))
theorem z3j (t u:Tup) (v w:AV) (hv:Is v t) (hw:Is w u) (ht:t.length < 2 ^ 40) (hu:u.length < 2 ^ 40):∃ r,zy (callW tbl) loopW zp4 [v,w]=some r∧r=i64 (tcmp t u):=by
 refine pureK zp4 rfl (fun F hF=>?_)
 have h1:=zfk t u v w hv hw ht hu []
 simp [zp4,zye,h1]
 exact hF _ _ _ (z6 rfl) rfl
theorem zi8 (t u:Tup) (v w:AV) (hv:Is v t) (hw:Is w u) (ht:t.length < 2 ^ 40) (hu:u.length < 2 ^ 40) (H:Heap):callW tbl (.func zw5 [] []) [v,w] H=some (i64 (tcmp t u),H):=by
 obtain ⟨r,h1,rfl⟩:=z76 (f:=zw5) (af:=zp4) (tbl:=tbl) rfl rfl (R:=fun a=>∃ v w,a=[v,w]∧Is v t∧Is w u) (S:=fun r=>r=i64 (tcmp t u))
  (by rintro _ ⟨v,w,rfl,h1,h2⟩; simp [Enc.plain h1,Enc.plain h2]) (by rintro _ ⟨v,w,rfl,h1,h2⟩; exact ⟨v.lend,w.lend,rfl,Enc.lend h1,Enc.lend h2⟩) (by rintro _ rfl; rfl)
  (by rintro _ ⟨v,w,rfl,h1,h2⟩; exact z3j t u v w h1 h2 ht hu) [v,w] H ⟨v,w,rfl,hv,hw⟩
 exact h1
end Go.Abs.Plan
namespace Go.Abs
open Enc (Is)
instance:Enc UInt8 where
 Is v x:=v=.int .u8 (x.toNat:Int)
 lend:=by rintro v x rfl; rfl
 plain:=by rintro v x rfl; rfl
 sz:=1
 row:=by rintro v x rfl; rfl
end Go.Abs
namespace Go.Abs.Plan
open Enc (Is)
def bcell (b:UInt8):AV:=.int .u8 (b.toNat:Int)
def bcells (l:List UInt8):List AV:=l.map bcell
theorem ztc:∀ l:List UInt8,All2 Is (bcells l) l
 | []=>.nil
 | b::l=>.cons rfl (ztc l)
theorem zrm:∀ {rows:List AV} {l:List UInt8},All2 Is rows l→rows=bcells l
 | _,_, .nil=>rfl
 | _,_, .cons h hs=>by cases h; rw [zrm hs]; rfl
theorem zb4 (l m:List UInt8):bcells (l++m)=bcells l++bcells m:=List.map_append
theorem zk1 (l:List UInt8):(bcells l).length=l.length:=List.length_map ..
theorem zns (l:List UInt8):(bcells l).all (AV.rowok 1)=true:=by simp [bcells,bcell,AV.rowok,AV.cells,AV.isCell]
theorem isB {v:AV} {l:List UInt8} (h:Is v l) (hn:l≠[]):∃ fl,v=.fsl fl (bcells l):=by
 rcases h.cases with ⟨rfl,rfl⟩ | ⟨fl,rows,rfl,hr⟩
 ·exact absurd rfl hn
 ·exact ⟨fl,by rw [zrm hr]⟩
def numB (x:Nat):List UInt8:=if h:x < 128 then [UInt8.ofNat x] else UInt8.ofNat (x % 128 + 128)::numB (x / 128)
theorem zud {x:Nat} (h:x < 128):numB x=[UInt8.ofNat x]:=by rw [numB,dif_pos h]
theorem zsg {x:Nat} (h:¬ x < 128):numB x=UInt8.ofNat (x % 128 + 128)::numB (x / 128):=by rw [numB,dif_neg h]
theorem z69 (x:Nat):numB x≠[]:=by by_cases h:x < 128 <;> simp [zud,zsg,h]
theorem zuw:∀ (k x:Nat),x < 128 ^ (k + 1)→(numB x).length≤k + 1
 | 0,x,h=>by rw [zud (by simpa using h)]; simp
 | k + 1,x,h=>by
   by_cases hx:x < 128
   ·rw [zud hx]; simp
   ·rw [zsg hx]
    have:=zuw k (x / 128) (Nat.div_lt_of_lt_mul (by rw [Nat.pow_succ] at h; omega))
    simp only [List.length_cons]; omega
theorem zi6 {x:Nat} (h:x < 2 ^ 64):(numB x).length≤10:=zuw 9 x (by omega)
theorem zvw {n:Nat} (h:n < 256):((UInt8.ofNat n).toNat:Int)=(n:Int):=by
 rw [UInt8.toNat_ofNat']; omega
theorem zuq:∀ (x y:Nat) (r r':List UInt8),numB x++r=numB y++r'→x=y∧r=r':=by
 intro x
 induction x using Nat.strongRecOn with
 | _ x ih=>
   intro y r r' h
   by_cases hx:x < 128 <;> by_cases hy:y < 128
   ·rw [zud hx,zud hy] at h
    simp only [List.cons_append,List.nil_append,List.cons.injEq] at h
    have:=congrArg UInt8.toNat h.1
    rw [UInt8.toNat_ofNat',UInt8.toNat_ofNat'] at this
    exact ⟨by omega,h.2⟩
   ·rw [zud hx,zsg hy] at h
    simp only [List.cons_append,List.nil_append,List.cons.injEq] at h
    have:=congrArg UInt8.toNat h.1
    rw [UInt8.toNat_ofNat',UInt8.toNat_ofNat'] at this
    omega
   ·rw [zsg hx,zud hy] at h
    simp only [List.cons_append,List.nil_append,List.cons.injEq] at h
    have:=congrArg UInt8.toNat h.1
    rw [UInt8.toNat_ofNat',UInt8.toNat_ofNat'] at this
    omega
   ·rw [zsg hx,zsg hy] at h
    simp only [List.cons_append,List.cons.injEq] at h
    have:=congrArg UInt8.toNat h.1
    rw [UInt8.toNat_ofNat',UInt8.toNat_ofNat'] at this
    obtain ⟨h1,h2⟩:=ih (x / 128) (by omega) (y / 128) r r' h.2
    exact ⟨by omega,h2⟩
theorem shrE {k j:IntKind} {e:z6a} {a p:Int} {n:Nat} (hp:(2:Int) ^ (min n k.bits)=p):binA .shr e (.int k a) (.int j (n:Int))=some (.int k (a.fdiv p)):=by
 have:¬ ((n:Int) < 0):=by omega
 simp [binA,this,hp]
theorem shlE {k j:IntKind} {e:z6a} {a p:Int} {n:Nat} (hp:(2:Int) ^ (min n k.bits)=p):binA .shl e (.int k a) (.int j (n:Int))=some (.int k (k.wrap (a * p))):=by
 have:¬ ((n:Int) < 0):=by omega
 simp [binA,this,hp]
theorem or128 (y:Nat) (h:y < 256):(BitVec.ofInt 8 (y:Int) ||| BitVec.ofInt 8 128).toNat=y % 128 + 128:=by
 have:∀ z:Fin 256,(BitVec.ofInt 8 (z.val:Int) ||| BitVec.ofInt 8 128).toNat=z.val % 128 + 128:=by decide +kernel
 exact this ⟨y,h⟩
theorem z0i (x:Nat) (hx:x < 2 ^ 64) (H:Heap):∃ g,callW tbl (.func zif [] []) [.int .u64 (x:Int)] H=some (.sl H.length g 0 (numB x).length,H++[.arr g 1 (bcells (numB x))]):=by
 have key:∃ v H',Acc H 1 v H' (bcells (numB x))∧callW tbl (.func zif [] []) [.int .u64 (x:Int)] H=some (zj false H.length v H'):=by
  refine callE (fun v H'=>Acc H 1 v H' (bcells (numB x))) zjf rfl rfl rfl (fun F hF=>?_)
  simp [zjf,z7p]
  refine zg (fun k s=>∃ (y:Nat) (l:List UInt8) (v:AV),y=k∧y < 2 ^ 64∧l++numB y=numB x∧Acc H 1 v s.heap (bcells l)∧s.dfr=[]∧s.tm.get 0=.int .u64 (y:Int)∧s.tm.get 3=v) x ⟨x,[], .nilsl,rfl,hx,rfl,Acc.nil,rfl,by simp,by simp⟩ ?_
  rintro k s Q ⟨y,l,v,rfl,hy,hl,hacc,q2,f0,f3⟩ hgo hx'
  have hlen:(numB x).length≤10:=zi6 hx
  have hll:l.length + (numB y).length≤10:=by rw [← hl] at hlen; simpa using hlen
  have hw8:IntKind.u8.wrap (y:Int)=(y:Int) % 256:=by simp [IntKind.wrap,IntKind.bits,IntKind.signed]
  have hul:∀ l:List UInt8,AV.unlents (bcells l)=true:=fun l=>by induction l with
   | nil=>rfl
   | cons b l ih=>simp only [bcells,List.map_cons,AV.unlents] at ih ⊢; rw [ih]; rfl
  by_cases hk:y < 128
  ·have hki:¬ (128:Int)≤(y:Int):=by omega
   have hc:AV.int .u8 ((y:Int) % 256)=bcell (UInt8.ofNat y):=by
    unfold bcell
    rw [zvw (by omega)]; congr 1; omega
   obtain ⟨v',Hs',hacc',happ⟩:=hacc.one (call:=callW tbl) (lp:=loopW) (bytes:=1) (r:=bcell (UInt8.ofNat y)) (fl:=false) rfl (by simp [zk1]; rw [zud hk] at hll; simp at hll; omega)
   simp [zpd,f0,hki]
   refine hx' _ _ (by simp) ?_
   have hrow:(bcell (UInt8.ofNat y)).rowok 1=true:=rfl
   simp [f0,f3,hw8,hc,hrow,zr,AV.cells,AV.isCell]
   rw [happ _ _ _ _ _ _ _ (by simp)]
   simp [q2]
   have hb:bcells l++[bcell (UInt8.ofNat y)]=bcells (numB x):=by rw [← hl,zud hk,zb4]; rfl
   rw [hb] at hacc'
   exact hF _ _ hacc'
  ·have hki:(128:Int)≤(y:Int):=by omega
   have hor:=or128 (y % 256) (by omega)
   have hc0:IntKind.u8.wrap ((BitVec.ofInt 8 ((y:Int) % 256) ||| BitVec.ofInt 8 128).toNat:Int)=((y % 128 + 128:Nat):Int):=by
    have e:((y:Int) % 256)=((y % 256:Nat):Int):=by omega
    rw [e,hor]
    simp only [IntKind.wrap,IntKind.bits,IntKind.signed]
    have:y % 256 % 128=y % 128:=by omega
    rw [this]
    simp
    omega
   have hc:AV.int .u8 ((y % 128 + 128:Nat):Int)=bcell (UInt8.ofNat (y % 128 + 128)):=by
    unfold bcell
    rw [zvw (by omega)]
   have hsh:(y:Int).fdiv 128=((y / 128:Nat):Int):=by
    rw [Int.fdiv_eq_ediv_of_nonneg _ (by omega)]
    omega
   have hy2:numB y=UInt8.ofNat (y % 128 + 128)::numB (y / 128):=zsg hk
   obtain ⟨v',Hs',hacc',happ⟩:=hacc.one (call:=callW tbl) (lp:=loopW) (bytes:=1) (r:=bcell (UInt8.ofNat (y % 128 + 128))) (fl:=false) rfl (by simp [zk1]; rw [hy2] at hll; simp at hll; omega)
   have hrow:(bcell (UInt8.ofNat (y % 128 + 128))).rowok 1=true:=rfl
   have hbin:binA .or .no (.int .u8 ((y:Int) % 256)) (.int .u8 128)=some (bcell (UInt8.ofNat (y % 128 + 128))):=by
    rw [← hc,← hc0]; rfl
   have hshr:binA .shr .no (.int .u64 (y:Int)) (.int .u64 7)=some (.int .u64 ((y / 128:Nat):Int)):=by
    rw [← hsh]; exact shrE (n:=7) (by decide)
   generalize UInt8.ofNat (y % 128 + 128)=c at hy2 hacc' happ hrow hbin
   simp [zpd,f0,f3,hki,hw8,hbin,hrow,zr,AV.cells,AV.isCell]
   rw [happ _ _ _ _ _ _ _ (by simp)]
   simp [f0,hshr,-Int.natCast_ediv]
   refine hgo _ (y / 128) (by omega) ⟨y / 128,l++[c],v',rfl,by omega,by rw [← hl,hy2]; simp,?_,by simp [q2],by simp,by simp⟩
   rw [zb4]; exact hacc'
 obtain ⟨v,H',hacc,hc⟩:=key
 have hne:bcells (numB x)≠[]:=by simpa [bcells] using z69 x
 rcases hacc with ⟨h,_,_⟩ | ⟨g,_,rfl,rfl⟩
 ·exact absurd h hne
 ·refine ⟨g,?_⟩
  rw [hc]
  have hu:(AV.sl H.length g 0 (bcells (numB x)).length).under H.length=false:=by simp [AV.under]
  rw [zk1] at hu ⊢
  simp [zj,trunc,hu]
theorem isBF {r:AV} {l:List UInt8} (h:Is r l) (hn:l≠[]) (hu:r.unlent=true):r=.fsl false (bcells l):=by
 obtain ⟨fl,rfl⟩:=isB h hn
 cases fl with
 | false=>rfl
 | true=>simp [AV.unlent] at hu
theorem zna (l:List UInt8):AV.unlents (bcells l)=true:=by
 induction l with
 | nil=>rfl
 | cons b l ih=>simp only [bcells,List.map_cons,AV.unlents] at ih ⊢; rw [ih]; rfl
theorem zos (l:List UInt8):AV.plains (bcells l)=true:=by
 induction l with
 | nil=>rfl
 | cons b l ih=>simp only [bcells,List.map_cons,AV.plains] at ih ⊢; rw [ih]; rfl
def zig (x:Int):Nat:=if 0≤x then (2 * x).toNat else (-2 * x - 1).toNat
theorem zp11 {x y:Int} (h:zig x=zig y):x=y:=by
 unfold zig at h
 split at h <;> split at h <;> omega
theorem zsm {x:Int} (h1:-2 ^ 63≤x) (h2:x < 2 ^ 63):zig x < 2 ^ 64:=by
 unfold zig
 split <;> omega
theorem z4a1 {x:Int} (h1:-2 ^ 63≤x) (h2:x < 2 ^ 63) :
 IntKind.u64.wrap ((BitVec.ofInt 64 (IntKind.u64.wrap (IntKind.i64.wrap (x * 2 ^ 1))) ^^^ BitVec.ofInt 64 (IntKind.u64.wrap (x.fdiv (2 ^ 63)))).toNat:Int)=(zig x:Int):=by
 have hd:x.fdiv (2 ^ 63)=if 0≤x then 0 else -1:=by
  rw [Int.fdiv_eq_ediv_of_nonneg _ (by decide)]
  split <;> omega
 have hu:∀ z:Int,(BitVec.ofInt 64 (IntKind.u64.wrap (IntKind.i64.wrap z)))=BitVec.ofInt 64 z:=by
  intro z
  apply BitVec.eq_of_toNat_eq
  simp only [BitVec.toNat_ofInt,IntKind.wrap,IntKind.bits,IntKind.signed]
  simp
  split <;> omega
 have hu2:∀ z:Int,(BitVec.ofInt 64 (IntKind.u64.wrap z))=BitVec.ofInt 64 z:=by
  intro z
  apply BitVec.eq_of_toNat_eq
  simp only [BitVec.toNat_ofInt,IntKind.wrap,IntKind.bits,IntKind.signed]
  simp
 rw [hu,hu2,hd]
 by_cases h0:0≤x
 ·rw [if_pos h0]
  have:(BitVec.ofInt 64 (x * 2 ^ 1) ^^^ BitVec.ofInt 64 0)=BitVec.ofInt 64 (x * 2 ^ 1):=by simp
  rw [this,BitVec.toNat_ofInt]
  unfold zig
  rw [if_pos h0]
  simp only [IntKind.wrap,IntKind.bits,IntKind.signed]
  simp
  omega
 ·rw [if_neg h0]
  have:(BitVec.ofInt 64 (x * 2 ^ 1) ^^^ BitVec.ofInt 64 (-1)) = ~~~ (BitVec.ofInt 64 (x * 2 ^ 1)):=by
   have:BitVec.ofInt 64 (-1)=BitVec.allOnes 64:=by decide
   rw [this,BitVec.xor_allOnes]
  rw [this,BitVec.toNat_not,BitVec.toNat_ofInt]
  unfold zig
  rw [if_neg h0]
  simp only [IntKind.wrap,IntKind.bits,IntKind.signed]
  simp
  omega
theorem zps (x:Int) (h1:-2 ^ 63≤x) (h2:x < 2 ^ 63):∃ r,zy (callW tbl) loopW zwa [.int .i64 x]=some r∧Is r (numB (zig x))∧r.unlent=true:=by
 refine pureK zwa rfl (fun F hF=>?_)
 obtain ⟨g,hc⟩:=z0i (zig x) (zsm h1 h2) []
 have b1:binA .shl .no (.int .i64 x) (.int .u64 1)=some (.int .i64 (IntKind.i64.wrap (x * 2 ^ 1))):=shlE (n:=1) (by decide)
 have b2:binA .shr .no (.int .i64 x) (.int .u64 63)=some (.int .i64 (x.fdiv (2 ^ 63))):=shrE (n:=63) (by decide)
 have b3:binA .xor .no (.int .u64 (IntKind.u64.wrap (IntKind.i64.wrap (x * 2 ^ 1)))) (.int .u64 (IntKind.u64.wrap (x.fdiv (2 ^ 63))))=some (.int .u64 (zig x:Int)):=by
  rw [← z4a1 h1 h2]; rfl
 generalize IntKind.i64.wrap (x * 2 ^ 1)=z1 at b1 b3
 generalize x.fdiv (2 ^ 63)=z2 at b2 b3
 simp [zwa,z6p,b1,b2,b3,hc]
 exact hF _ _ _ (zd5 (R:=bcells (numB (zig x))) (sz:=1) rfl (by simp [zk1]) (List.take_of_length_le (by simp [zk1])) (ztc (numB (zig x)))) ⟨IsL.fsl (ztc _),by simp [AV.unlent,zna]⟩
theorem zoa (x:Int) (h1:-2 ^ 63≤x) (h2:x < 2 ^ 63) (H:Heap):callW tbl (.func zhf [] []) [.int .i64 x] H=some (.fsl false (bcells (numB (zig x))),H):=by
 obtain ⟨r,g1,g2,g3⟩:=zps x h1 h2
 rw [isBF g2 (z69 _) g3] at g1
 exact Go.Abs.Sort.pureA (f:=zhf) (af:=zwa) rfl rfl rfl rfl g1 H
theorem zt71 {n:Nat} (h:n < 2 ^ 64):IntKind.u64.wrap (n:Int)=(n:Int):=by
 simp only [IntKind.wrap,IntKind.bits,IntKind.signed]; simp; omega
def textB (s:List UInt8):List UInt8:=numB s.length++s
theorem zvq (s:List UInt8) (v:AV) (hv:Is v s) (hs:s.length < 2 ^ 40):∃ r,zy (callW tbl) loopW zj7 [v]=some r∧Is r (textB s)∧r.unlent=true:=by
 have hln:=IsL.len hv
 obtain ⟨g,hc⟩:=z0i s.length (by omega) []
 have hw:=zt71 (n:=s.length) (by omega)
 have hnb:=zi6 (x:=s.length) (by omega)
 have hacc:Acc [] 1 (.sl 0 g 0 (numB s.length).length) [.arr g 1 (bcells (numB s.length))] (bcells (numB s.length)):=.inr ⟨g,by simpa [bcells] using z69 s.length,by simp [zk1],rfl⟩
 have hv':v=.nilsl∧s=[]∨∃ fl,v=.fsl fl (bcells s):=by
  rcases hv.cases with ⟨rfl,rfl⟩ | ⟨fl,rows,rfl,hr⟩
  ·exact .inl ⟨rfl,rfl⟩
  ·exact .inr ⟨fl,by rw [zrm hr]⟩
 refine pureK zj7 rfl (fun F hF=>?_)
 rcases hv' with ⟨rfl,rfl⟩ | ⟨fl,rfl⟩
 ·obtain ⟨r,g1,g2,g3⟩:=hacc.reify (ztc (numB ([]:List UInt8).length))
  simp at hw hc
  simp [zj7,zmg,hw,hc,zh1,appendTo_0s]
  exact hF _ _ r g1 ⟨by simpa [textB] using g2,g3 (zna _)⟩
 ·obtain ⟨v',Hs',hacc',happ⟩:=hacc.append (call:=callW tbl) (lp:=loopW) (bytes:=1) (ys:=bcells s) (fl:=fl) (zns s) (by simp [zk1]; omega)
  rw [← zb4] at hacc'
  obtain ⟨r,g1,g2,g3⟩:=hacc'.reify (ztc (numB s.length++s))
  simp [zk1] at hln
  simp [zj7,zmg,zk1,hw,hc]
  rw [happ _ _ _ _ _ _ _ (by simp)]
  simp
  exact hF _ _ r g1 ⟨g2,g3 (zna _)⟩
theorem zyf (s:List UInt8) (hs:s.length < 2 ^ 40) (H:Heap):callW tbl (.func zjg [] []) [.fsl false (bcells s)] H=some (.fsl false (bcells (textB s)),H):=by
 obtain ⟨r,h1,h2,h3⟩:=zvq s (.fsl false (bcells s)) (IsL.fsl (ztc s)) hs
 rw [isBF h2 (by simp [textB,z69]) h3] at h1
 exact Go.Abs.Sort.pureA (f:=zjg) (af:=zj7) rfl rfl (by simp [AV.plains,AV.plain,zos]) (by simp [AV.unlents,AV.unlent,zna]) h1 H
end Go.Abs.Plan
namespace Go.Abs.Plan
open Enc (Is)
def Grow (H:Heap) (b:AV) (l:List UInt8):Prop:=(b=.nilsl∧l=[])∨∃ id g,b=.sl id g 0 l.length∧H[id]? = some (.arr g 1 (bcells l))
theorem Grow.close {H' H'':Heap} {b r:AV} {l:List UInt8} {n:Nat} (h:Grow H' b l) (hc:zj false n b H'=(r,H'')):r=b∧Grow H'' b l:=by
 simp only [zj,Bool.false_eq_true,if_false,trunc] at hc
 split at hc
 ·rename_i hu
  simp only [Prod.mk.injEq] at hc
  obtain ⟨rfl,rfl⟩:=hc
  refine ⟨rfl,?_⟩
  rcases h with h | ⟨id,g,rfl,hB⟩
  ·exact .inl h
  ·simp only [Bool.and_eq_true,AV.under,decide_eq_true_eq] at hu
   exact .inr ⟨id,g,rfl,by rw [List.getElem?_take,if_pos hu.1]; exact hB⟩
 ·simp only [Prod.mk.injEq] at hc
  obtain ⟨rfl,rfl⟩:=hc
  exact ⟨rfl,h⟩
structure ValOk (v:Val):Prop where
 k1:-2 ^ 63≤v.kind
 k2:v.kind < 2 ^ 63
 n1:-2 ^ 63≤v.n
 n2:v.n < 2 ^ 63
 s:v.s.data.toList.length≤2 ^ 20
def valB (v:Val):List UInt8:=numB (zig v.kind)++numB (zig v.n)++textB v.s.data.toList
theorem z1i {v:Val} (h:ValOk v):(valB v).length≤2 ^ 20 + 30:=by
 have h1:=zi6 (zsm h.k1 h.k2)
 have h2:=zi6 (zsm h.n1 h.n2)
 have h3:=zi6 (x:=v.s.data.toList.length) (by have:=h.s; omega)
 have:=h.s
 simp only [valB,textB,List.length_append]
 omega
theorem zkf (l:List UInt8):(∀ x:AV,x∈bcells l→AV.rowok 1 x=true)=True:=by
 have:=List.all_eq_true.1 (zns l)
 exact eq_true (fun x hx=>this x hx)
theorem ztm (l:List UInt8):List.take l.length (bcells l)=bcells l:=List.take_of_length_le (by simp [zk1])
theorem zq11 (v:Val) (hv:ValOk v) (b:AV) (l:List UInt8) (H:Heap) (hb:Grow H b l) (hl:l.length < 2 ^ 45) :
 ∃ r H',callW tbl (.func zc7 [] []) [b,v.enc] H=some (r,H')∧Grow H' r (l++valB v):=by
 have hp1:=zoa v.kind hv.k1 hv.k2
 have hp2:=zoa v.n hv.n1 hv.n2
 have hp3:=zyf v.s.data.toList (by have:=hv.s; omega)
 have n1:=zi6 (zsm hv.k1 hv.k2)
 have n2:=zi6 (zsm hv.n1 hv.n2)
 have m1:(numB (zig v.kind)).length≠0:=by have:=z69 (zig v.kind); simpa using this
 have m2:(numB (zig v.n)).length≠0:=by have:=z69 (zig v.n); simpa using this
 have hcells:cellsOf v.s=bcells v.s.data.toList:=rfl
 have key:∃ w H',Grow H' w (l++valB v)∧callW tbl (.func zc7 [] []) [b,v.enc] H=some (zj false H.length w H'):=by
  refine callE (fun w H'=>Grow H' w (l++valB v)) z06 rfl rfl rfl (fun F hF=>?_)
  have hrow:AV.rowok 3 v.enc=true:=rfl
  have hcl:v.enc.cells=[i64 v.kind,i64 v.n, .str v.s]:=rfl
  have hT:(bcells (textB v.s.data.toList)).length≠0:=by rw [zk1]; simp [textB,z69]
  have hTl:(textB v.s.data.toList).length≠0:=by simp [textB,z69]
  have hTb:=z1i hv
  generalize hA:numB (zig v.kind)=A at *
  generalize hB:numB (zig v.n)=B at *
  generalize hC:textB v.s.data.toList=C at *
  have hval:valB v=A++B++C:=by rw [← hA,← hB,← hC]; rfl
  have hvl:(A++B++C).length≤2 ^ 20 + 30:=by rw [← hval]; exact hTb
  simp only [List.length_append] at hvl
  have r1:A.length≤140737488355328:=by omega
  have r2:A.length + B.length≤140737488355328:=by omega
  have r3:¬ (A.length + B.length≤A.length):=by omega
  have r4:¬ (B.length=0):=m2
  rcases hb with ⟨rfl,rfl⟩ | ⟨id,g,rfl,hBk⟩
  ·have r5:A.length + B.length + C.length≤140737488355328:=by omega
   have r6:¬ (A.length + B.length + C.length≤A.length + B.length):=by omega
   simp [z06,zcb,hrow,hcl,hp1,hp2,hcells,zh1,zg3,zi1,zk1,m1,m2,room,zkf,r1,r2,r3,r4,ztm,← zb4,hp3,hTl,r5,r6]
   refine hF _ _ (.inr ⟨H.length,3,by rw [hval]; simp [Nat.add_assoc],?_⟩)
   have t0:List.take (A.length + B.length) (bcells (A++B))=bcells (A++B):=List.take_of_length_le (by simp [zk1])
   rw [t0,hval,← zb4]; simp
  ·have k0:=ze1 hBk
   have k1:=lt_of hBk
   have s1:l.length + A.length≤140737488355328:=by omega
   have s2:l.length + A.length + B.length≤140737488355328:=by omega
   have s5:id < H.length + 2:=by omega
   have s6:l.length + A.length + B.length + C.length≤140737488355328:=by omega
   have s7:¬ (l.length + A.length + B.length + C.length≤l.length + A.length + B.length):=by omega
   have s8:¬ (C.length=0):=hTl
   have t1:List.take (l.length + A.length) (bcells (l++A))=bcells (l++A):=List.take_of_length_le (by simp [zk1])
   have t2:List.take (l.length + A.length + B.length) (bcells (l++(A++B)))=bcells (l++(A++B)):=List.take_of_length_le (by simp [zk1]; omega)
   have s9:l.length + A.length + B.length≤l.length + (A.length + B.length):=by omega
   have s10:¬ (l.length + A.length + B.length + C.length≤l.length + (A.length + B.length)):=by omega
   have s3:¬ (l.length + A.length≤l.length):=by omega
   have s4:¬ (l.length + A.length + B.length≤l.length + A.length):=by omega
   simp [z06,zcb,hrow,hcl,hp1,hp2,hcells,zh1,zg3,zi1,zk1,m1,m2,room,zkf,r1,r2,r3,r4,s1,s2,s3,s4,s5,s6,s7,s8,s9,s10,hTl,hp3,k0,k1,t1,t2,ztm,← zb4]
   refine hF _ _ (.inr ⟨id,g + 1 + 1 + 1,by rw [hval]; simp [Nat.add_assoc],?_⟩)
   rw [hval,List.getElem?_append_left (by simp [k1])]; simp [k1]
 obtain ⟨w,H',hP,hc⟩:=key
 have hcl:zj false H.length w H'=((zj false H.length w H').1,(zj false H.length w H').2):=rfl
 obtain ⟨e,hG⟩:=hP.close hcl
 refine ⟨(zj false H.length w H').1,(zj false H.length w H').2,hc,?_⟩
 rw [e]; exact hG
theorem zqs:∀ l:List UInt8,zt9 (bcells l)=some l
 | []=>rfl
 | b::l=>by
   show (match zt9 (bcells l) with | some bs=>some (UInt8.ofNat (b.toNat:Int).toNat::bs) | none=>none)=_
   rw [zqs l]
   simp
theorem zwq (l:List UInt8):z7e (bcells l)=some (.str ⟨⟨l⟩⟩):=by unfold z7e; rw [zqs]
structure TupOk (t:Tup):Prop where
 len:t.length≤2 ^ 20
 val:∀ v∈t,ValOk v
def keyB (t:Tup):List UInt8:=t.flatMap valB
def keyS (t:Tup):ByteArray:=⟨⟨keyB t⟩⟩
theorem zww:∀ (t:Tup),(∀ v∈t,ValOk v)→(keyB t).length≤t.length * (2 ^ 20 + 30)
 | [],_=>by simp [keyB]
 | v::t,h=>by
   have h1:=z1i (h v (by simp))
   have h2:=zww t (fun w hw=>h w (by simp [hw]))
   simp only [keyB,List.flatMap_cons,List.length_append,List.length_cons] at h2 ⊢
   rw [Nat.add_mul]; omega
theorem zr11 (t:Tup) (ht:TupOk t) (v:AV) (hv:Is v t):∃ r,zy (callW tbl) loopW z29 [v]=some r∧r=.str (keyS t):=by
 have hln:=IsL.len hv
 have hlt:=ht.len
 refine pureK z29 rfl (fun F hF=>?_)
 simp [z29,z4p,hln]
 refine zg (fun k s=>∃ (j:Nat) (b:AV),j + k=t.length∧Grow s.heap b (keyB (t.take j))∧s.dfr=[]∧s.tm.get 3=b∧s.tm.get 6=v∧s.tm.get 7=.int .i64 (t.length:Int)∧s.tm.get 8=.int .i64 (j:Int)) t.length ⟨0, .nilsl,by omega, .inl ⟨rfl,by simp [keyB]⟩,rfl,by simp,by simp,by simp,by simp⟩ ?_
 rintro k s Q ⟨j,b,h0,hG,q2,f3,f6,f7,f8⟩ hgo hx
 have hw:IntKind.i64.wrap ((j:Int) + 1)=((j + 1:Nat):Int):=z61 (by omega) (by omega)
 by_cases hj:j < t.length
 ·have hji:(j:Int) < (t.length:Int):=by omega
  obtain ⟨fl,r,rfl,hidx⟩:=IsL.idx hv (List.getElem?_eq_getElem hj)
  simp only [show Enc.sz Val=3 from rfl] at hidx
  have hkl:=zww (t.take j) (fun w hw=>ht.val w (List.mem_of_mem_take hw))
  have htl:(t.take j).length≤2 ^ 20:=by simp; omega
  have hmul:(t.take j).length * (2 ^ 20 + 30)≤2 ^ 20 * (2 ^ 20 + 30):=Nat.mul_le_mul_right _ htl
  obtain ⟨r',H',hc,hG'⟩:=zq11 t[j] (ht.val _ (List.getElem_mem hj)) b _ s.heap hG (by omega)
  have hkey:keyB (t.take j)++valB t[j]=keyB (t.take (j + 1)):=by
   unfold keyB
   rw [List.take_succ_eq_append_getElem hj,List.flatMap_append]
   simp only [List.flatMap_cons,List.flatMap_nil,List.append_nil]
  rw [hkey] at hG'
  have hrow:AV.rowok 3 t[j].enc=true:=rfl
  simp [zld,f3,f6,f7,f8,hji,hidx,hrow,hc]
  exact hgo _ (k - 1) (by omega) ⟨j + 1,r',by omega,hG',by simp [q2],by simp,by simp [f6],by simp [f7],by simp [hw]⟩
 ·have hji:¬ (j:Int) < (t.length:Int):=by omega
  simp [zld,f7,f8,hji]
  refine hx _ _ (by simp) ?_
  have htj:t.take j=t:=List.take_of_length_le (by omega)
  rw [htj] at hG
  rcases hG with ⟨rfl,hk⟩ | ⟨id,g,rfl,hB⟩
  ·simp [q2,f3,zsd]
   exact hF _ _ _ (z6 rfl) (by rw [keyS,hk])
  ·have k0:=ze1 hB
   have hsl:zw3 g 0 (keyB t).length (.arr g 1 (bcells (keyB t)))=some (bcells (keyB t)):=by
    simp [zw3,zk1,ztm]
   simp [q2,f3,zsd,k0,hsl,zwq]
   exact hF _ _ _ (z6 rfl) rfl
theorem zxw (t:Tup) (ht:TupOk t) (v:AV) (hv:Is v t) (H:Heap):callW tbl (.func z86 [] []) [v] H=some (.str (keyS t),H):=by
 obtain ⟨r,h1,rfl⟩:=z76 (f:=z86) (af:=z29) (tbl:=tbl) rfl rfl (R:=fun a=>∃ v,a=[v]∧Is v t) (S:=fun r=>r=.str (keyS t))
  (by rintro _ ⟨v,rfl,h1⟩; simp [Enc.plain h1]) (by rintro _ ⟨v,rfl,h1⟩; exact ⟨v.lend,rfl,Enc.lend h1⟩) (by rintro _ rfl; rfl)
  (by rintro _ ⟨v,rfl,h1⟩; exact zr11 t ht v h1) [v] H ⟨_,rfl,hv⟩
 exact h1
theorem zy41 {a b:Val} {r r':List UInt8} (h:valB a++r=valB b++r'):a=b∧r=r':=by
 simp only [valB,textB,List.append_assoc] at h
 obtain ⟨h1,h⟩:=zuq _ _ _ _ h
 obtain ⟨h2,h⟩:=zuq _ _ _ _ h
 obtain ⟨h3,h⟩:=zuq _ _ _ _ h
 obtain ⟨h4,h5⟩:=List.append_inj h h3
 refine ⟨?_,h5⟩
 obtain ⟨k1,n1,⟨⟨s1⟩⟩⟩:=a
 obtain ⟨k2,n2,⟨⟨s2⟩⟩⟩:=b
 simp only [Val.mk.injEq]
 refine ⟨zp11 h1,zp11 h2,?_⟩
 simp at h4
 rw [h4]
theorem zs11 (a:Val):valB a≠[]:=by simp [valB,z69]
theorem zyw:∀ {t u:Tup},keyB t=keyB u→t=u
 | [],[],_=>rfl
 | [],b::u,h=>by
   simp only [keyB,List.flatMap_nil,List.flatMap_cons] at h
   have:=List.append_eq_nil_iff.1 h.symm
   exact absurd this.1 (zs11 b)
 | a::t,[],h=>by
   simp only [keyB,List.flatMap_nil,List.flatMap_cons] at h
   have:=List.append_eq_nil_iff.1 h
   exact absurd this.1 (zs11 a)
 | a::t,b::u,h=>by
   simp only [keyB,List.flatMap_cons] at h
   obtain ⟨rfl,h2⟩:=zy41 h
   rw [zyw (t:=t) (u:=u) h2]
theorem zzw {t u:Tup} (h:keyS t=keyS u):t=u:=by
 simp only [keyS,ByteArray.mk.injEq,Array.mk.injEq] at h
 exact zyw h
end Go.Abs.Plan
namespace Go.Abs.Plan
open Enc (Is)
theorem zg61 {α:Type} [Enc α] {f:FuncId} {af:AFunc} (ht:tbl f=some (.code af)) (hp:af.pure=true) {S:AV→Prop} (x:α) (hS:∀ r,S r→S r.lend)
 (hrun:∀ v:AV,Is v x→∃ r,zy (callW tbl) loopW af [v]=some r∧S r) (v:AV) (hv:Is v x) (H:Heap):∃ r,callW tbl (.func f [] []) [v] H=some (r,H)∧S r:=
 z76 ht hp (R:=fun a=>∃ v,a=[v]∧Is v x) (by rintro a ⟨v,rfl,h⟩; simp [Enc.plain h]) (by rintro a ⟨v,rfl,h⟩; exact ⟨v.lend,rfl,Enc.lend h⟩) hS (by rintro a ⟨v,rfl,h⟩; exact hrun v h) [v] H ⟨v,rfl,hv⟩
end Go.Abs.Plan
namespace Go.Abs.Plan
open Enc (Is)
theorem zxq {n:Int} (h1:0≤n) (h2:n < 2 ^ 64):IntKind.u64.wrap n=n:=by
 simp [IntKind.wrap,IntKind.bits,IntKind.signed]
 omega
theorem z2i (n:Nat):BitVec.ofInt 64 (n:Int)=BitVec.ofNat 64 n:=by simp
theorem zz41 (B j:Nat):((B:Int).fdiv (2 ^ j))=((B >>> j:Nat):Int):=by
 rw [Int.fdiv_eq_ediv_of_nonneg _ (Int.pow_nonneg (by decide)),Nat.shiftRight_eq_div_pow]; simp
theorem zev {B j:Nat} (hj:j < 64) (eq:z6a):binA .shr eq (.int .u64 (B:Int)) (i64 (j:Int))=some (.int .u64 ((B >>> j:Nat):Int)):=by
 have:¬ ((j:Int) < 0):=by omega
 have e:min j 64=j:=by omega
 simp only [binA,this,if_false,Int.toNat_natCast,IntKind.bits,e,zz41]
theorem zu71 (n:Nat):(BitVec.ofNat 64 n &&& BitVec.ofNat 64 1).toNat=n % 2:=by simp [BitVec.toNat_and,Nat.and_one_is_mod]
theorem zyq {n:Nat} (hn:n < 2 ^ 64) (eq:z6a):binA .and eq (.int .u64 (n:Int)) (.int .u64 1)=some (.int .u64 ((n % 2:Nat):Int)):=by
 have h:IntKind.u64.wrap (((BitVec.ofNat 64 n &&& BitVec.ofNat 64 1).toNat:Nat):Int)=((n % 2:Nat):Int):=by rw [zu71,zxq (by omega) (by omega)]
 have h2:BitVec.ofInt (IntKind.u64).bits (n:Int)=BitVec.ofNat 64 n:=z2i n
 show some (AV.int .u64 (IntKind.u64.wrap (((BitVec.ofInt 64 (n:Int) &&& BitVec.ofInt 64 1).toNat:Nat):Int)))=_
 rw [show BitVec.ofInt 64 (n:Int)=BitVec.ofNat 64 n from z2i n]
 exact congrArg (fun x=>some (AV.int .u64 x)) h
theorem zt11 (B j:Nat):(((B >>> j) % 2:Nat):Int)=1↔B.testBit j=true:=by
 rw [Nat.testBit_eq_decide_div_mod_eq,Nat.shiftRight_eq_div_pow]; simp only [decide_eq_true_eq]; omega
theorem zu11 {j:Nat} (hj:j < 64) (eq:z6a):binA .shl eq (.int .u64 1) (i64 (j:Int))=some (.int .u64 ((2 ^ j:Nat):Int)):=by
 have h0:¬ ((j:Int) < 0):=by omega
 have e:min j 64=j:=by omega
 have hp:2 ^ j < 2 ^ 64:=Nat.pow_lt_pow_right (by decide) hj
 simp only [binA,h0,if_false,Int.toNat_natCast,IntKind.bits,e,Int.one_mul]
 have:((2:Int) ^ j)=((2 ^ j:Nat):Int):=by simp
 have hc:((2 ^ j:Nat):Int) < 2 ^ 64:=by exact_mod_cast hp
 rw [this,zxq (Int.natCast_nonneg _) hc]
theorem or_bv {x y:Nat} (hx:x < 2 ^ 64) (hy:y < 2 ^ 64):(BitVec.ofNat 64 x ||| BitVec.ofNat 64 y).toNat=x ||| y:=by
 simp only [BitVec.toNat_or,BitVec.toNat_ofNat]
 rw [Nat.mod_eq_of_lt hx,Nat.mod_eq_of_lt hy]
theorem zh61 {x y:Nat} (hx:x < 2 ^ 64) (hy:y < 2 ^ 64) (eq:z6a):binA .or eq (.int .u64 (x:Int)) (.int .u64 (y:Int))=some (.int .u64 ((x ||| y:Nat):Int)):=by
 have hlt:=Nat.or_lt_two_pow hx hy
 have h:IntKind.u64.wrap (((BitVec.ofNat 64 x ||| BitVec.ofNat 64 y).toNat:Nat):Int)=((x ||| y:Nat):Int):=by
  rw [or_bv hx hy,zxq (Int.natCast_nonneg _) (by exact_mod_cast hlt)]
 show some (AV.int .u64 (IntKind.u64.wrap (((BitVec.ofInt 64 (x:Int) ||| BitVec.ofInt 64 (y:Int)).toNat:Nat):Int)))=_
 rw [show BitVec.ofInt 64 (x:Int)=BitVec.ofNat 64 x from z2i x,show BitVec.ofInt 64 (y:Int)=BitVec.ofNat 64 y from z2i y]
 exact congrArg (fun x=>some (AV.int .u64 x)) h
end Go.Abs.Plan
namespace Go.Abs.Plan
open Enc (Is)
def plN (ns:List ByteArray) (nm:ByteArray):Nat:=ns.findIdx (fun m=>decide (nm=m))
end Go.Abs.Plan
namespace Go.Abs.Plan
open Enc (Is)
@[simp] theorem z5a1 (nm:ByteArray):keyOk false [.str] (.str nm)=true:=by simp [keyOk,AV.isAgg]
end Go.Abs.Plan
namespace Go.Abs.Plan
open Enc (Is)
def tupA (t:Tup):AV:=.fsl false (t.map Val.enc)
theorem zr6 {α:Type} [Enc α] {f:α→AV} (hf:∀ x,Is (f x) x):∀ l:List α,All2 Is (l.map f) l
 | []=>.nil
 | x::l=>.cons (hf x) (zr6 hf l)
theorem zg4 (t:Tup):Is (tupA t) t:=IsL.fsl (zr6 (fun _=>rfl) t)
theorem zrs (a b:Val):binA .neq (.cells [.int, .int, .str]) a.enc b.enc=some (.bool (decide (a≠b))):=by
 show (some (AV.bool !((a.kind == b.kind) && ((a.n == b.n) && ((a.s.toList == b.s.toList) && true)))):Option AV)=_
 congr 2
 obtain ⟨k1,n1,s1⟩:=a
 obtain ⟨k2,n2,s2⟩:=b
 have hs:(s1.toList=s2.toList)↔s1=s2:=⟨zo7,fun h=>by rw [h]⟩
 by_cases h1:k1=k2 <;> by_cases h2:n1=n2 <;> by_cases h3:s1=s2 <;> simp [h1,h2,h3,hs]
def bstep (st:List ByteArray×Tup) (x:Term) (y:Val):Option (List ByteArray×Tup):=
 if x.kind=3 then some st
 else if x.kind=2 then (if x.v=y then some st else none)
 else if x.kind=1 then (match st.1.findIdx? (fun m=>decide (x.name=m)) with
  | none=>some (st.1++[x.name],st.2++[y])
  | some k=>if st.2[k]? = some y then some st else none)
 else none
def zs4:List Term→Tup→List ByteArray×Tup→Option Tup
 | [],_,st=>some st.2
 | x::xs,y::ys,st=>match bstep st x y with
   | some st'=>zs4 xs ys st'
   | none=>none
 | _::_,[],_=>none
def zj8 (l:List Term) (t:Tup):Option Tup:=if l.length=t.length then zs4 l t ([],[]) else none
def zyb:Option Tup→AV
 | some u=>.tuple [tupA u, .bool true]
 | none=>.tuple [.nilsl, .bool false]
def sEnts:List (ByteArray×AV)→Nat→List MEnt
 | [],_=>[]
 | (n,v)::l,i=>{ key:=.str n,val:=v,born:=i }::sEnts l (i + 1)
theorem zuc (nm:ByteArray):∀ (l:List (ByteArray×AV)) (i k:Nat),findE false [.str] (.str nm) (sEnts l i) k =
 some ((l.findIdx? (fun m=>decide (nm=m.1))).map fun j=>(j + k,{ key:=.str nm,val:=(l.getD j default).2,born:=j + i }))
 | [],i,k=>rfl
 | (n,v)::l,i,k=>by
   simp only [sEnts,findE,keyEq,AV.isAgg,beq_self_eq_true,if_true,zr01,zdy,zcy,Option.map_some,Bool.and_true]
   by_cases h:nm=n
   ·subst h; simp [List.findIdx?_cons]
   ·simp only [h,decide_false,zuc nm l (i + 1) (k + 1),List.findIdx?_cons]
    cases l.findIdx? (fun m=>decide (nm=m.1)) <;> simp <;> omega
theorem zvc (nm:ByteArray) (v:AV):∀ (l:List (ByteArray×AV)) (i:Nat),sEnts (l++[(nm,v)]) i=sEnts l i++[{ key:=.str nm,val:=v,born:=i + l.length }]
 | [],i=>rfl
 | (n,w)::l,i=>by simp [sEnts,zvc nm v l (i + 1)]; omega
def nsL (ns:List ByteArray):List (ByteArray×AV):=ns.zipIdx.map fun p=>(p.1,i64 (p.2:Int))
theorem z051 (ns:List ByteArray) (x:ByteArray):nsL (ns++[x])=nsL ns++[(x,i64 (ns.length:Int))]:=by simp [nsL,List.zipIdx_append]
theorem zv71 (ns:List ByteArray):(nsL ns).length=ns.length:=by simp [nsL]
theorem z0x (ns:List ByteArray) (x:ByteArray):(nsL ns).findIdx? (fun m=>decide (x=m.1))=ns.findIdx? (fun m=>decide (x=m)):=by
 have:∀ (l:List ByteArray) (k:Nat),((l.zipIdx k).map fun p=>(p.1,i64 (p.2:Int))).findIdx? (fun m=>decide (x=m.1))=l.findIdx? (fun m=>decide (x=m)):=by
  intro l
  induction l with
  | nil=>intro k; rfl
  | cons a l ih=>intro k; simp only [List.zipIdx_cons,List.map_cons,List.findIdx?_cons,ih]
 exact this ns 0
theorem zw71 (ns:List ByteArray) {j:Nat} (hj:j < ns.length):((nsL ns).getD j default).2=i64 (j:Int):=by
 simp [nsL,hj]
theorem room32 {n:Nat} (h:n≤2 ^ 30):room (n + 1) 32=true:=by simp [room]; omega
theorem zzq {l:List Term}:∀ {t:Tup} {st:List ByteArray×Tup} {u:Tup},zs4 l t st=some u→u.length≤st.2.length + l.length:=by
 induction l with
 | nil=>intro t st u h; simp [zs4] at h; subst h; simp
 | cons x l ih=>
   intro t st u h
   cases t with
   | nil=>simp [zs4] at h
   | cons y t=>
     simp only [zs4] at h
     split at h
     ·rename_i st' hst
      have h1:=ih h
      have h2:st'.2.length≤st.2.length + 1:=by
       unfold bstep at hst
       split at hst
       ·simp at hst; subst hst; omega
       ·split at hst
        ·split at hst
         ·simp at hst; subst hst; omega
         ·simp at hst
        ·split at hst
         ·split at hst
          ·simp at hst; subst hst; simp
          ·split at hst
           ·simp at hst; subst hst; omega
           ·simp at hst
         ·simp at hst
      simp only [List.length_cons]; omega
     ·simp at h
theorem zzb {H:Heap} {a b a' b':AV} (hp:(AV.tuple [a,b]).plain=false) (ha:reify H 11 a=some a') (hb:reify H 11 b=some b'):reify H zw (.tuple [a,b])=some (.tuple [a',b']):=by
 unfold zw
 rw [reify,if_neg (by rw [hp]; simp)]
 simp only [zx3,ha,hb]
theorem z151 {α:Type} (l:List α):List.take l.length l=l:=List.take_of_length_le (Nat.le_refl _)
theorem zv11 (l:List Term) (t:Tup) (v w:AV) (hv:Is v l) (hw:Is w t) (hl:l.length≤2 ^ 30) (ht:t.length≤2 ^ 30):∃ r,zy (callW tbl) loopW z16 [v,w]=some r∧r=zyb (zj8 l t):=by
 have hlv:=IsL.len hv
 have hlw:=IsL.len hw
 refine pureK z16 rfl (fun F hF=>?_)
 have hnone:zj8 l t=none→∀ H,F (.tuple [.nilsl, .bool false]) H:=fun h H=>hF _ _ _ (z6 rfl) (by rw [h]; rfl)
 by_cases hlen:l.length=t.length
 ·have hleni:(l.length:Int)=(t.length:Int):=by omega
  simp [z16,z1f,hlv,hlw,hleni,zr]
  have hb0:zj8 l t=zs4 l t ([],[]):=by unfold zj8; rw [if_pos hlen]
  refine zg (fun k s=>∃ (j:Nat) (ns:List ByteArray) (u:Tup) (g:Nat),j + k=l.length∧zj8 l t=zs4 (l.drop j) (t.drop j) (ns,u)∧ns.length=u.length∧u.length≤j ∧
   s.heap=[.map 0 (sEnts (nsL ns) 0) ns.length, .arr g 3 (u.map Val.enc)]∧s.dfr=[]∧s.tm.get 1=w∧s.tm.get 6=.map 0 0∧s.tm.get 7=.sl 1 g 0 u.length∧s.tm.get 19=v∧s.tm.get 20=.int .i64 (l.length:Int)∧s.tm.get 21=.int .i64 (j:Int)) l.length
   ⟨0,[],[],0,by omega,by simpa using hb0,rfl,by simp,rfl,rfl,by simp,by simp,by simp,by simp,by simp [hleni],by simp⟩ ?_
  rintro k s Q ⟨j,ns,u,g,h0,hz,hnu,huj,q1,q2,f1,f6,f7,f19,f20,f21⟩ hgo hx
  have hwj:IntKind.i64.wrap ((j:Int) + 1)=((j + 1:Nat):Int):=z61 (by omega) (by omega)
  by_cases hj:j < l.length
  ·have hji:(j:Int) < (l.length:Int):=by omega
   have hjt:j < t.length:=by omega
   obtain ⟨fl,r,rfl,hidx⟩:=IsL.idx hv (List.getElem?_eq_getElem hj)
   simp only [show Enc.sz Term=5 from rfl] at hidx
   obtain ⟨fl2,r2,rfl,hidx2⟩:=IsL.idx hw (List.getElem?_eq_getElem hjt)
   simp only [show Enc.sz Val=3 from rfl] at hidx2
   have hdl:l.drop j=l[j]::l.drop (j + 1):=List.drop_eq_getElem_cons hj
   have hdt:t.drop j=t[j]::t.drop (j + 1):=List.drop_eq_getElem_cons hjt
   have hz':zj8 l t=match bstep (ns,u) l[j] t[j] with
    | some st'=>zs4 (l.drop (j + 1)) (t.drop (j + 1)) st'
    | none=>none:=by rw [hz,hdl,hdt]; rfl
   generalize l[j]=x at *
   generalize t[j]=y at *
   have hrow:AV.rowok 5 x.enc=true:=rfl
   have out:bstep (ns,u) x y=none→∀ s':St,s'.dfr=[]→s'.tm.get 4=.nilsl→s'.tm.get 5=.bool false→Q .ret s':=by
    intro hb s' g1 g2 g3
    refine hx _ _ (by simp) ?_
    simp [g1,g2,g3]
    exact hnone (by rw [hz',hb]) _
   by_cases h3:x.kind=3
   ·have hb:bstep (ns,u) x y=some (ns,u):=by simp [bstep,h3]
    rw [hb] at hz'
    simp [zo2,q1,f1,f6,f7,f19,f20,f21,hji,hidx,AV.rowok,h3]
    exact hgo _ (k - 1) (by omega) ⟨j + 1,ns,u,g,by omega,hz',hnu,by omega,rfl,by simp [q2],by simp [f1],by simp [f6],by simp [f7],by simp [f19],by simp [f20],by simp [hwj]⟩
   by_cases h2:x.kind=2
   ·have hn:=zrs x.v y
    by_cases he:x.v=y
    ·have hb:bstep (ns,u) x y=some (ns,u):=by simp [bstep,h2,he]
     rw [hb] at hz'
     have hn2:binA .neq (.cells [.int, .int, .str]) x.v.enc y.enc=some (.bool false):=by rw [hn]; simp [he]
     simp [zo2,q1,f1,f6,f7,f19,f20,f21,hji,hidx,hidx2,AV.rowok,h3,h2,hn2]
     exact hgo _ (k - 1) (by omega) ⟨j + 1,ns,u,g,by omega,hz',hnu,by omega,rfl,by simp [q2],by simp [f1],by simp [f6],by simp [f7],by simp [f19],by simp [f20],by simp [hwj]⟩
    ·have hb:bstep (ns,u) x y=none:=by simp [bstep,h2,he]
     have hn2:binA .neq (.cells [.int, .int, .str]) x.v.enc y.enc=some (.bool true):=by rw [hn]; simp [he]
     simp [zo2,q1,f1,f6,f7,f19,f20,f21,hji,hidx,hidx2,AV.rowok,h3,h2,hn2]
     exact out hb _ (by simp [q2]) (by simp) (by simp)
   by_cases h1:x.kind=1
   ·cases hfi:ns.findIdx? (fun m=>decide (x.name=m)) with
    | none=>
      have hb:bstep (ns,u) x y=some (ns++[x.name],u++[y]):=by simp [bstep,h1,hfi]
      rw [hb] at hz'
      have hfe:∀ k,findE false [.str] (.str x.name) (sEnts (nsL ns) 0) k=some none:=fun k=>by rw [zuc,z0x,hfi]; rfl
      have hlk:zm6 false [.str] (.int .i64 0) (.str x.name) true (sEnts (nsL ns) 0)=some (.tuple [.int .i64 0, .bool false]):=by simp [zm6,hfe]
      have hro:=room32 (n:=u.length) (by omega)
      have hsn:=z051 ns x.name
      have hnr:¬ (u.length + 1≤u.length):=by omega
      have htk:List.take u.length (u.map Val.enc)=u.map Val.enc:=List.take_of_length_le (by simp)
      have hs2:sEnts (nsL ns) 0++[{ key:=AV.str x.name,val:=i64 (u.length:Int),born:=ns.length }]=sEnts (nsL (ns++[x.name])) 0:=by
       rw [hsn,zvc,zv71,hnu]; simp
      simp [zo2,q1,f1,f6,f7,f19,f20,f21,hji,hidx,hidx2,AV.rowok,h3,h2,h1,hlk,hfe,zr,zh1,zi1,hro,z151,hs2,hnr,htk]
      exact hgo _ (k - 1) (by omega) ⟨j + 1,ns++[x.name],u++[y],g + 1,by omega,hz',by simp [hnu],by simp; omega,by simp [hs2],by simp [q2],by simp [f1],by simp [f6],by simp,by simp [f19],by simp [f20],by simp [hwj]⟩
    | some i=>
      have hil:i < ns.length:=(List.findIdx?_eq_some_iff_getElem.1 hfi).1
      have hiu:i < u.length:=by omega
      have hfe:findE false [.str] (.str x.name) (sEnts (nsL ns) 0) 0=some (some (i,{ key:=.str x.name,val:=i64 (i:Int),born:=i })):=by
       rw [zuc,z0x,hfi]; simp only [Option.map_some,zw71 ns hil,Nat.add_zero]
      have hlk:zm6 false [.str] (.int .i64 0) (.str x.name) true (sEnts (nsL ns) 0)=some (.tuple [i64 (i:Int), .bool true]):=by simp [zm6,hfe]
      have hrow2:(u.map Val.enc)[i]? = some u[i].enc:=by simp [hiu]
      have hn:=zrs u[i] y
      by_cases he:u[i]=y
      ·have hb:bstep (ns,u) x y=some (ns,u):=by simp [bstep,h1,hfi,hiu,he]
       rw [hb] at hz'
       have hn2:binA .neq (.cells [.int, .int, .str]) u[i].enc y.enc=some (.bool false):=by rw [hn]; simp [he]
       simp [zo2,q1,f1,f6,f7,f19,f20,f21,hji,hidx,hidx2,AV.rowok,h3,h2,h1,hlk,hiu,hrow2,hn2]
       exact hgo _ (k - 1) (by omega) ⟨j + 1,ns,u,g,by omega,hz',hnu,by omega,rfl,by simp [q2],by simp [f1],by simp [f6],by simp [f7],by simp [f19],by simp [f20],by simp [hwj]⟩
      ·have hb:bstep (ns,u) x y=none:=by simp [bstep,h1,hfi,hiu,he]
       have hn2:binA .neq (.cells [.int, .int, .str]) u[i].enc y.enc=some (.bool true):=by rw [hn]; simp [he]
       simp [zo2,q1,f1,f6,f7,f19,f20,f21,hji,hidx,hidx2,AV.rowok,h3,h2,h1,hlk,hiu,hrow2,hn2]
       exact out hb _ (by simp [q2]) (by simp) (by simp)
   ·have hb:bstep (ns,u) x y=none:=by simp [bstep,h1,h2,h3]
    simp [zo2,q1,f1,f6,f7,f19,f20,f21,hji,hidx,AV.rowok,h3,h2,h1]
    exact out hb _ (by simp [q2]) (by simp) (by simp)
  ·have hji:¬ (j:Int) < (l.length:Int):=by omega
   have hdl:l.drop j=[]:=List.drop_eq_nil_of_le (by omega)
   have hbu:zj8 l t=some u:=by rw [hz,hdl]; rfl
   simp [zo2,q1,f20,f21,hji]
   refine hx _ _ (by simp) ?_
   simp [q2,f7]
   refine hF _ _ (.tuple [tupA u, .bool true]) ?_ (by rw [hbu]; rfl)
   have h2:=zv8 (Hb:=[.map 0 (sEnts (nsL ns) 0) ns.length, .arr g 3 (u.map Val.enc)]) (id:=1) (g:=g) (sz:=3) (off:=0) (len:=u.length) (k:=9) (R:=u.map Val.enc) (rows:=u.map Val.enc) (xs:=u) rfl (by simp) (List.take_of_length_le (by simp)) (zr6 (fun _=>rfl) u)
   exact zzb (by simp [AV.plain]) h2 (zv5 rfl)
 ·have hleni:¬ (l.length:Int)=(t.length:Int):=by omega
  simp [z16,z1f,hlv,hlw,hleni]
  exact hnone (by unfold zj8; rw [if_neg hlen]) _
end Go.Abs.Plan
namespace Go.Abs.Plan
open Enc (Is)
theorem z1x {f:FuncId} {af:AFunc} (ht:tbl f=some (.code af)) (hp:af.pure=true) {R:List AV→Prop} {S:AV→Prop} (hpl:∀ a,R a→AV.plains a=true) (hle:∀ a,R a→R (AV.lends a))
 (hrun:∀ a,R a→∃ r,zy (callW tbl) loopW af a=some r∧S r∧r.unlent=true) (a:List AV) (H:Heap) (ha:R a):∃ r,callW tbl (.func f [] []) a H=some (r,H)∧S r:=by
 by_cases hu:AV.unlents a=true
 ·obtain ⟨r,h1,h2,h3⟩:=hrun a ha
  have:=zc5 (tbl:=tbl) (first:=[]) (captured:=[]) (args:=a) (H:=H) (r:=r) ht hp (by simpa using hpl a ha) (by simpa [hu] using h1)
  exact ⟨r,by rw [this]; simp [hu],h2⟩
 ·obtain ⟨r,h1,h2,h3⟩:=hrun _ (hle a ha)
  have:=zc5 (tbl:=tbl) (first:=[]) (captured:=[]) (args:=a) (H:=H) (r:=r) ht hp (by simpa using hpl a ha) (by simpa [hu] using h1)
  exact ⟨r,by rw [this]; simp [h3],h2⟩
theorem zk7 (t:Tup):AV.unlents (t.map Val.enc)=true:=by
 induction t with
 | nil=>rfl
 | cons x t ih=>simpa [AV.unlents,AV.unlent] using ih
theorem z3i:∀ o,(zyb o).unlent=true
 | some u=>by simp [zyb,tupA,AV.unlent,AV.unlents,zk7]
 | none=>rfl
theorem zpy (l:List Term) (t:Tup) (v w:AV) (hv:Is v l) (hw:Is w t) (hl:l.length≤2 ^ 30) (ht:t.length≤2 ^ 30) (H:Heap):callW tbl (.func zse [] []) [v,w] H=some (zyb (zj8 l t),H):=by
 obtain ⟨r,h1,rfl⟩:=z1x (f:=zse) (af:=z16) rfl rfl (R:=fun a=>∃ v w,a=[v,w]∧Is v l∧Is w t) (S:=fun r=>r=zyb (zj8 l t))
  (by rintro _ ⟨v,w,rfl,h1,h2⟩; simp [Enc.plain h1,Enc.plain h2]) (by rintro _ ⟨v,w,rfl,h1,h2⟩; exact ⟨v.lend,w.lend,rfl,Enc.lend h1,Enc.lend h2⟩)
  (by rintro _ ⟨v,w,rfl,h1,h2⟩; obtain ⟨r,g1,rfl⟩:=zv11 l t v w h1 h2 hl ht; exact ⟨_,g1,rfl,z3i _⟩) [v,w] H ⟨v,w,rfl,hv,hw⟩
 exact h1
def addT (L:List Tup) (u:Tup):List Tup:=if u∈L then L else L++[u]
def z97 (l:List Term) (L:List Tup) (t:Tup):List Tup:=match zj8 l t with
 | some u=>addT L u
 | none=>L
def seenL (l:List Term) (rel:List Tup):List Tup:=rel.foldl (z97 l) []
def tupL (L:List Tup):List (ByteArray×AV):=L.map fun u=>(keyS u,tupA u)
def tEnts (L:List Tup):List MEnt:=sEnts (tupL L) 0
theorem zss:∀ (l:List (ByteArray×AV)) (i j:Nat) (p:ByteArray×AV),l[j]? = some p→(sEnts l i)[j]? = some { key:=.str p.1,val:=p.2,born:=i + j }
 | [],i,j,p,h=>by simp at h
 | (n,v)::l,i,0,p,h=>by simp at h; subst h; rfl
 | (n,v)::l,i,j + 1,p,h=>by
   have:=zss l (i + 1) j p (by simpa using h)
   simp only [sEnts,List.getElem?_cons_succ,this]
   congr 2; omega
theorem zcp (u:Tup) (L:List Tup):findE false [.str] (.str (keyS u)) (tEnts L) 0=some ((L.findIdx? (fun m=>decide (u=m))).map fun j=>(j,{ key:=.str (keyS u),val:=tupA u,born:=j })):=by
 unfold tEnts
 rw [zuc]
 have:(tupL L).findIdx? (fun m=>decide (keyS u=m.1))=L.findIdx? (fun m=>decide (u=m)):=by
  unfold tupL
  rw [List.findIdx?_map]
  congr 1
  funext m
  simp only [Function.comp]
  by_cases h:u=m
  ·subst h; simp
  ·have:keyS u≠keyS m:=fun e=>h (zzw e)
   simp [h,this]
 rw [this]
 cases hf:L.findIdx? (fun m=>decide (u=m)) with
 | none=>rfl
 | some j=>
   obtain ⟨hj,hu,_⟩:=List.findIdx?_eq_some_iff_getElem.1 hf
   have hu':u=L[j]:=by simpa using hu
   simp [tupL,hj,← hu']
theorem z5f {L:List Tup} {u:Tup}:L.findIdx? (fun m=>decide (u=m))=none↔u∉L:=by
 rw [List.findIdx?_eq_none_iff]
 simp
 constructor
 ·intro h hm; exact h u hm rfl
 ·rintro h x hx rfl; exact h hx
theorem zts (u:Tup) (L:List Tup):(findE false [.str] (.str (keyS u)) (tEnts L) 0=some none∧tEnts L++[{ key:=.str (keyS u),val:=tupA u,born:=L.length }]=tEnts (addT L u)∧L.length + 1=(addT L u).length) ∨
 ∃ i:Nat,findE false [.str] (.str (keyS u)) (tEnts L) 0=some (some (i,{ key:=.str (keyS u),val:=tupA u,born:=i }))∧(tEnts L).set i { key:=.str (keyS u),val:=tupA u,born:=i }=tEnts (addT L u)∧L.length=(addT L u).length:=by
 rw [zcp]
 cases hf:L.findIdx? (fun m=>decide (u=m)) with
 | none=>
   have hn:=z5f.1 hf
   have h1:addT L u=L++[u]:=by unfold addT; rw [if_neg hn]
   have h2:tEnts (L++[u])=tEnts L++[{ key:=.str (keyS u),val:=tupA u,born:=L.length }]:=by
    unfold tEnts
    have:tupL (L++[u])=tupL L++[(keyS u,tupA u)]:=by simp [tupL]
    rw [this,zvc]; simp [tupL]
   exact .inl ⟨rfl,by rw [h1,h2],by rw [h1]; simp⟩
 | some j=>
   obtain ⟨hj,hu,_⟩:=List.findIdx?_eq_some_iff_getElem.1 hf
   have hu':u=L[j]:=by simpa using hu
   have h1:addT L u=L:=by unfold addT; rw [if_pos (by rw [hu']; exact List.getElem_mem hj)]
   have h2:(tEnts L)[j]? = some { key:=.str (keyS u),val:=tupA u,born:=j }:=by
    have:=zss (tupL L) 0 j (keyS u,tupA u) (by simp [tupL,hj,← hu'])
    rw [Nat.zero_add] at this
    exact this
   have h3:(tEnts L).set j { key:=.str (keyS u),val:=tupA u,born:=j }=tEnts L:=by
    apply List.ext_getElem?
    intro i
    rw [List.getElem?_set]
    split
    ·rename_i e
     subst e
     have:=(List.getElem?_eq_some_iff.1 h2).1
     rw [if_pos this,h2]
    ·rfl
   exact .inr ⟨j,rfl,by rw [h1,h3],by rw [h1]⟩
theorem zdp {l:List Term} {t u:Tup} (h:zj8 l t=some u) (ht:TupOk t) (hl:l.length≤2 ^ 20):TupOk u:=by
 unfold zj8 at h
 split at h
 ·have h1:=zzq h
  refine ⟨by simp at h1; omega,?_⟩
  have key:∀ (l:List Term) (t:Tup) (st:List ByteArray×Tup) (u:Tup),zs4 l t st=some u→(∀ v∈t,ValOk v)→(∀ v∈st.2,ValOk v)→∀ v∈u,ValOk v:=by
   intro l
   induction l with
   | nil=>intro t st u h ht hs; simp [zs4] at h; subst h; exact hs
   | cons x l ih=>
     intro t st u h ht hs
     cases t with
     | nil=>simp [zs4] at h
     | cons y t=>
       simp only [zs4] at h
       split at h
       ·rename_i st' hst
        refine ih t st' u h (fun v hv=>ht v (by simp [hv])) ?_
        unfold bstep at hst
        split at hst
        ·simp at hst; subst hst; exact hs
        ·split at hst
         ·split at hst
          ·simp at hst; subst hst; exact hs
          ·simp at hst
         ·split at hst
          ·split at hst
           ·simp at hst; subst hst
            intro v hv
            simp only [List.mem_append,List.mem_singleton] at hv
            rcases hv with hv | rfl
            ·exact hs v hv
            ·exact ht v (by simp)
           ·split at hst
            ·simp at hst; subst hst; exact hs
            ·simp at hst
          ·simp at hst
       ·simp at h
  exact key l t _ u h ht.val (by simp)
 ·simp at h
theorem zus (l:List Term) (rel:List Tup) (v w:AV) (hv:Is v l) (hw:Is w rel) (hl:l.length≤2 ^ 20) (hr:rel.length≤2 ^ 20) (ht:∀ t∈rel,TupOk t) (H:Heap) :
 callW tbl (.func zgg [] []) [v,w] H=some (.map H.length 0,H++[.map 0 (tEnts (seenL l rel)) (seenL l rel).length]):=by
 have hlw:=IsL.len hw
 refine callB zab rfl rfl rfl (fun F hF=>?_)
 simp [zab,zdm,hlw]
 refine zg (fun k s=>∃ (j:Nat),j + k=rel.length∧s.heap=H++[.map 0 (tEnts (seenL l (rel.take j))) (seenL l (rel.take j)).length]∧s.dfr=[]∧s.tm.get 0=v∧s.tm.get 5=.map H.length 0∧s.tm.get 11=w∧s.tm.get 12=.int .i64 (rel.length:Int)∧s.tm.get 13=.int .i64 (j:Int)) rel.length
  ⟨0,by omega,rfl,rfl,by simp,by simp,by simp,by simp,by simp⟩ ?_
 rintro k s Q ⟨j,h0,q1,q2,f0,f5,f11,f12,f13⟩ hgo hx
 have hwj:IntKind.i64.wrap ((j:Int) + 1)=((j + 1:Nat):Int):=z61 (by omega) (by omega)
 by_cases hj:j < rel.length
 ·have hji:(j:Int) < (rel.length:Int):=by omega
  obtain ⟨fl,r,hrr,hidx⟩:=IsL.idx hw (List.getElem?_eq_getElem hj)
  simp only [show Enc.sz Tup=1 from rfl] at hidx
  have hc:=zb hrr
  have hto:=ht _ (List.getElem_mem hj)
  have hb:=zpy l rel[j] v r hv hrr (by omega) (by have:=hto.len; omega)
  have hsn:seenL l (rel.take (j + 1))=z97 l (seenL l (rel.take j)) rel[j]:=by
   unfold seenL
   rw [List.take_succ_eq_append_getElem hj,List.foldl_append]; rfl
  cases hbo:zj8 l rel[j] with
  | none=>
    rw [hbo] at hb
    have hs:seenL l (rel.take (j + 1))=seenL l (rel.take j):=by rw [hsn]; simp [z97,hbo]
    rw [← hs] at q1
    simp [zz6,q1,f0,f5,f11,f12,f13,hji,hidx,hc,hb,zyb]
    exact hgo _ (k - 1) (by omega) ⟨j + 1,by omega,rfl,by simp [q2],by simp [f0],by simp [f5],by simp [f11],by simp [f12],by simp [hwj]⟩
  | some u=>
    rw [hbo] at hb
    have hs:seenL l (rel.take (j + 1))=addT (seenL l (rel.take j)) u:=by rw [hsn]; simp [z97,hbo]
    have huo:=zdp hbo hto hl
    have hk:=zxw u huo (tupA u) (zg4 u)
    rcases zts u (seenL l (rel.take j)) with ⟨p1,p2,p3⟩ | ⟨i,p1,p2,p3⟩
    ·rw [← hs] at p2 p3
     simp [zz6,q1,f0,f5,f11,f12,f13,hji,hidx,hc,hb,zyb,hk,p1,p2,p3]
     exact hgo _ (k - 1) (by omega) ⟨j + 1,by omega,rfl,by simp [q2],by simp [f0],by simp [f5],by simp [f11],by simp [f12],by simp [hwj]⟩
    ·rw [← hs] at p2 p3
     simp [zz6,q1,f0,f5,f11,f12,f13,hji,hidx,hc,hb,zyb,hk,p1,p2,p3]
     exact hgo _ (k - 1) (by omega) ⟨j + 1,by omega,rfl,by simp [q2],by simp [f0],by simp [f5],by simp [f11],by simp [f12],by simp [hwj]⟩
 ·have hji:¬ (j:Int) < (rel.length:Int):=by omega
  have htj:rel.take j=rel:=List.take_of_length_le (by omega)
  rw [htj] at q1
  simp [zz6,q1,f12,f13,hji]
  refine hx _ _ (by simp) ?_
  simp [q2,f5]
  refine hF _ _ ?_
  have hu:(AV.map H.length 0).under H.length=false:=by simp [AV.under]
  have hf:zab.frz=false:=rfl
  simp [zj,trunc,hu,hf]
end Go.Abs.Plan
