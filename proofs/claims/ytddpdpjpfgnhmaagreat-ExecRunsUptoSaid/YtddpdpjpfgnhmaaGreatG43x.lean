/- Exec: what arguments of bounded bulk stand for. -/
import Derived.Test.YtddpdpjpfgnhmaaGreatG29x
import Derived.Test.YtddpdpjpfgnhmaaGreatG42x
import Derived.Test.YtddpdpjpfgnhmaaGreatG38x
import Derived.Test.YtddpdpjpfgnhmaaGreatG41x
set_option linter.unusedSimpArgs false
set_option linter.unusedVariables false
set_option maxHeartbeats 4000000
namespace Go.Abs.Plan
open Enc (Is)
def tupTy:Ty:=.sl valTy
def relTy:Ty:=.sl tupTy
def z4w:Ty:=.struct [.str,relTy]
def z531:Ty:=.sl z4w
abbrev NB:Nat:=1048576
theorem z52 {N:Nat}:∀ {a b:List AV},AV.smalls N (a++b)=true→AV.smalls N a=true∧AV.smalls N b=true
 | [],b,h=>⟨rfl,h⟩
 | x::a,b,h=>by
   simp only [List.cons_append,AV.smalls,Bool.and_eq_true] at h ⊢
   obtain ⟨h1,h2⟩:=z52 h.2
   exact ⟨⟨h.1,h1⟩,h2⟩
theorem zzp {n:Int} (h:IntKind.i64.wrap n=n):-2 ^ 63≤n∧n < 2 ^ 63:=by
 simp [IntKind.wrap,IntKind.bits,IntKind.signed] at h
 omega
theorem zzt {α:Type} [Enc α] {e:Ty} {xs:List AV} {Q:α→Prop} {N:Nat} (ha:e.agg=true) (h:z94 (.sl e) xs) (hs:AV.smalls N xs=true) (hd:∀ cs:List AV,z94 e cs→AV.smalls N cs=true→∃ x:α,Is (.agg cs) x∧Q x):∃ (v:AV) (ys:List α),xs=[v]∧Is v ys∧ys.length≤N∧∀ y∈ys,Q y:=by
 obtain ⟨rows,rfl,hl,hr⟩:=h
 simp only [AV.smalls,AV.small,Bool.and_true,Bool.and_eq_true,decide_eq_true_eq] at hs
 obtain ⟨hs1,hs2⟩:=hs
 obtain ⟨ys,h1,h2⟩:=za11 (α:=α) (rows:=rows) (Q:=Q) (fun r hr'=>by
  obtain ⟨g1,g2⟩:=hr r hr'
  have g3:=z0b.1 hs2 r hr'
  rw [if_pos ha] at g2
  obtain ⟨cs,rfl⟩:=g2
  exact hd cs g1 (z3w g3))
 exact ⟨_,ys,rfl,IsL.fsl h1,by have:=h1.length; omega,h2⟩
theorem zk61 {α:Type} [Enc α] {e:Ty} {xs:List AV} {Q:α→Prop} {N:Nat} (ha:e.agg=false) (h:z94 (.sl e) xs) (hs:AV.smalls N xs=true) (hd:∀ v:AV,z94 e [v]→AV.smalls N [v]=true→∃ x:α,Is v x∧Q x):∃ (v:AV) (ys:List α),xs=[v]∧Is v ys∧ys.length≤N∧∀ y∈ys,Q y:=by
 obtain ⟨rows,rfl,hl,hr⟩:=h
 simp only [AV.smalls,AV.small,Bool.and_true,Bool.and_eq_true,decide_eq_true_eq] at hs
 obtain ⟨hs1,hs2⟩:=hs
 obtain ⟨ys,h1,h2⟩:=za11 (α:=α) (rows:=rows) (Q:=Q) (fun r hr'=>by
  obtain ⟨g1,g2⟩:=hr r hr'
  have g3:=z0b.1 hs2 r hr'
  rw [if_neg (by simp [ha])] at g2
  have hc:r.cells=[r]:=by cases r <;> first | rfl | (simp [AV.isCell] at g2; done)
  rw [hc] at g1
  exact hd r g1 (by simp [AV.smalls,g3]))
 exact ⟨_,ys,rfl,IsL.fsl h1,by have:=h1.length; omega,h2⟩
theorem z0u {cs:List AV} (h:z94 valTy cs) (hs:AV.smalls NB cs=true):∃ v:Val,cs=[i64 v.kind,i64 v.n, .str v.s]∧ValOk v:=by
 simp only [valTy,Ty.struct,Ty.ofList,z94,zrd] at h
 obtain ⟨_,c1,rfl,⟨vk,rfl,w1⟩,_,c2,rfl,⟨vn,rfl,w2⟩,_,c3,rfl,⟨vs,rfl⟩,rfl⟩:=h
 simp [AV.smalls,AV.small] at hs
 have r1:=zzp w1
 have r2:=zzp w2
 refine ⟨⟨vk,vn,vs⟩,rfl,r1.1,r1.2,r2.1,r2.2,?_⟩
 have e:vs.data.toList.length=vs.size:=by rw [Array.length_toList]; rfl
 show vs.data.toList.length≤2 ^ 20
 have hs':vs.size≤1048576:=hs
 omega
theorem za81 {cs:List AV} (h:z94 valTy cs) (hs:AV.smalls NB cs=true):∃ v:Val,Is (.agg cs) v∧ValOk v:=by
 obtain ⟨v,rfl,hv⟩:=z0u h hs
 exact ⟨v,rfl,hv⟩
theorem zb81 {xs:List AV} (h:z94 tupTy xs) (hs:AV.smalls NB xs=true):∃ (v:AV) (t:Tup),xs=[v]∧Is v t∧TupOk t:=by
 obtain ⟨v,t,rfl,h1,h2,h3⟩:=zzt (α:=Val) (Q:=ValOk) rfl h hs (fun cs=>za81)
 exact ⟨v,t,rfl,h1,h2,h3⟩
theorem z631 {xs:List AV} (h:z94 relTy xs) (hs:AV.smalls NB xs=true):∃ (v:AV) (l:List Tup),xs=[v]∧Is v l∧z6e l:=by
 obtain ⟨v,l,rfl,h1,h2,h3⟩:=zk61 (α:=Tup) (Q:=TupOk) rfl h hs (fun v h hs=>by
  obtain ⟨v',t,e,h1,h2⟩:=zb81 h hs
  cases e
  exact ⟨t,h1,h2⟩)
 exact ⟨v,l,rfl,h1,h2,h3⟩
theorem z731 {cs:List AV} (h:z94 z4w cs) (hs:AV.smalls NB cs=true):∃ r:RelOf,Is (.agg cs) r∧z6e r.rel:=by
 rw [z4w,Ty.struct,z94] at h
 simp only [Ty.ofList,zrd] at h
 obtain ⟨_,b1,rfl,h1,_,b2,rfl,h2,rfl⟩:=h
 rw [z94] at h1
 obtain ⟨nm,rfl⟩:=h1
 obtain ⟨_,hs2⟩:=z52 hs
 obtain ⟨hs2,_⟩:=z52 hs2
 obtain ⟨v,l,rfl,g1,g2⟩:=z631 h2 hs2
 exact ⟨⟨nm,l⟩,⟨v,g1,rfl⟩,g2⟩
theorem zo51 {xs:List AV} (h:z94 z531 xs) (hs:AV.smalls NB xs=true):∃ (v:AV) (l:List RelOf),xs=[v]∧Is v l∧zk6 l:=by
 obtain ⟨v,l,rfl,h1,h2,h3⟩:=zzt (α:=RelOf) (Q:=fun r=>z6e r.rel) rfl h hs (fun cs=>z731)
 exact ⟨v,l,rfl,h1,h2,h3⟩
theorem z831 {P:Program} {t:TypeId} {ty:Ty} {v:AV} (ht:tyB P ty t=true) (ha:ty.agg=false) (h:zgl P t v):z94 ty [v]:=by
 have h2:=h.2
 rw [if_neg (fun hx=>by have:=(zqq ht).1 hx; simp [ha] at this)] at h2
 have hc:v.cells=[v]:=by cases v <;> first | rfl | (simp [AV.isCell] at h2; done)
 have:=zrq _ ht h.1
 rwa [hc] at this
theorem zda1 {P:Program} {t:TypeId} {v:AV} (ht:tyB P relTy t=true) (h:zgl P t v) (hs:v.small NB=true):∃ l:List Tup,Is v l∧z6e l:=by
 obtain ⟨w,l,e,h1,h2⟩:=z631 (z831 ht rfl h) (by simp [AV.smalls,hs])
 cases e
 exact ⟨l,h1,h2⟩
theorem z931 {P:Program} {t:TypeId} {v:AV} (ht:tyB P z531 t=true) (h:zgl P t v) (hs:v.small NB=true):∃ l:List RelOf,Is v l∧zk6 l:=by
 obtain ⟨w,l,e,h1,h2⟩:=zo51 (z831 ht rfl h) (by simp [AV.smalls,hs])
 cases e
 exact ⟨l,h1,h2⟩
theorem zea1 {P:Program} {t:TypeId} {ty:Ty} {v:AV} (ht:tyB P ty t=true) (ha:ty.agg=true) (h:zgl P t v) (hs:v.small NB=true):∃ cs,v=.agg cs∧z94 ty cs∧AV.smalls NB cs=true:=by
 have h2:=h.2
 rw [if_pos ((zqq ht).2 ha)] at h2
 obtain ⟨cs,rfl⟩:=h2
 exact ⟨cs,rfl,zrq _ ht h.1,hs⟩
theorem zhj {cs:List AV} (h:z94 colTy cs) (hs:AV.smalls NB cs=true):∃ c:Col,cs=[i64 c.use,i64 c.var,i64 c.v.kind,i64 c.v.n, .str c.v.s]∧ValOk c.v:=by
 simp only [colTy,Ty.struct,Ty.ofList,zrd] at h
 rw [z94] at h
 simp only [zrd] at h
 obtain ⟨_,b1,rfl,h1,_,b2,rfl,h2,_,b3,rfl,h3,rfl⟩:=h
 simp only [z94] at h1 h2
 obtain ⟨k,rfl,_⟩:=h1
 obtain ⟨nm,rfl,_⟩:=h2
 obtain ⟨_,hs⟩:=z52 hs
 obtain ⟨_,hs⟩:=z52 hs
 obtain ⟨hs,_⟩:=z52 hs
 obtain ⟨v,rfl,hv⟩:=z0u h3 hs
 exact ⟨⟨k,nm,v⟩,rfl,hv⟩
theorem za31 {cs:List AV} (h:z94 colTy cs) (hs:AV.smalls NB cs=true):∃ c:Col,Is (.agg cs) c∧ValOk c.v:=by
 obtain ⟨c,rfl,hc⟩:=zhj h hs
 exact ⟨c,rfl,hc⟩
structure zir (s:Step):Prop where
 len:s.cols.length≤2 ^ 20
 cols:∀ c∈s.cols,ValOk c.v
 a:ValOk s.a.v
 b:ValOk s.b.v
theorem zp51 {cs:List AV} (h:z94 zb11 cs) (hs:AV.smalls NB cs=true):∃ s:Step,Is (.agg cs) s∧zir s:=by
 rw [zb11,Ty.struct,z94] at h
 simp only [Ty.ofList,zrd] at h
 obtain ⟨_,b1,rfl,h1,_,b2,rfl,h2,_,b3,rfl,h3,_,b4,rfl,h4,_,b5,rfl,h5,_,b6,rfl,h6,_,b7,rfl,h7,_,b8,rfl,h8,rfl⟩:=h
 simp only [z94] at h1 h2 h3 h4 h6
 obtain ⟨op,rfl,_⟩:=h1
 obtain ⟨lit,rfl,_⟩:=h2
 obtain ⟨pr,rfl⟩:=h3
 obtain ⟨old,rfl⟩:=h4
 obtain ⟨cmp,rfl,_⟩:=h6
 obtain ⟨_,hs⟩:=z52 hs
 obtain ⟨_,hs⟩:=z52 hs
 obtain ⟨_,hs⟩:=z52 hs
 obtain ⟨_,hs⟩:=z52 hs
 obtain ⟨s5,hs⟩:=z52 hs
 obtain ⟨_,hs⟩:=z52 hs
 obtain ⟨s7,hs⟩:=z52 hs
 obtain ⟨s8,_⟩:=z52 hs
 obtain ⟨v,ts,rfl,g1,g2,g3⟩:=zzt (α:=Col) (Q:=fun c=>ValOk c.v) rfl h5 s5 (fun cs=>za31)
 obtain ⟨a,rfl,ha⟩:=zhj h7 s7
 obtain ⟨b,rfl,hb⟩:=zhj h8 s8
 exact ⟨⟨op,lit,pr,old,ts,cmp,a,b⟩,⟨v,g1,rfl⟩,g2,g3,ha,hb⟩
structure zb31 (p:Plan):Prop where
 vars:p.vars.length≤2 ^ 20
 steps:p.steps.length≤2 ^ 20
 head:p.head.length≤2 ^ 20
 st:∀ s∈p.steps,zir s
 hv:∀ c∈p.head,ValOk c.v
theorem zq51 {cs:List AV} (h:z94 zsw cs) (hs:AV.smalls NB cs=true):∃ p:Plan,Is (.agg cs) p∧zb31 p:=by
 rw [zsw,Ty.struct,z94] at h
 simp only [Ty.ofList,zrd] at h
 obtain ⟨_,b1,rfl,h1,_,b2,rfl,h2,_,b3,rfl,h3,_,b4,rfl,h4,rfl⟩:=h
 obtain ⟨s1,hs⟩:=z52 hs
 obtain ⟨s2,hs⟩:=z52 hs
 obtain ⟨s3,hs⟩:=z52 hs
 obtain ⟨s4,_⟩:=z52 hs
 obtain ⟨v1,xs,rfl,g1,g2,_⟩:=zk61 (α:=ByteArray) (Q:=fun _=>True) rfl h1 s1 (fun v h hs=>by
  rw [z94] at h
  obtain ⟨s,e⟩:=h
  cases e
  exact ⟨s,rfl,trivial⟩)
 obtain ⟨v2,ss,rfl,g3,g4,g5⟩:=zzt (α:=Step) (Q:=zir) rfl h2 s2 (fun cs=>zp51)
 simp only [z94] at h3
 obtain ⟨pr,rfl⟩:=h3
 obtain ⟨v4,hh,rfl,g6,g7,g8⟩:=zzt (α:=Col) (Q:=fun c=>ValOk c.v) rfl h4 s4 (fun cs=>za31)
 exact ⟨⟨xs,ss,pr,hh⟩,⟨v1,v2,v4,g1,g3,g6,rfl⟩,g2,g4,g7,g5,g8⟩
theorem zr51 {P:Program} {t:TypeId} {v:AV} (ht:tyB P zsw t=true) (h:zgl P t v) (hs:v.small NB=true):∃ p:Plan,Is v p∧zb31 p:=by
 obtain ⟨cs,rfl,h1,h2⟩:=zea1 ht rfl h hs
 exact zq51 h1 h2
end Go.Abs.Plan
namespace Go.Abs.Plan
open Enc (Is)
theorem zbz (p:Plan) (old now:List RelOf) (d:Nat) (vp vo vn:AV) (hp:Is vp p) (ho:Is vo old) (hn:Is vn now) (hs:p.steps.length≤2 ^ 20) (hro:zk6 old) (hrn:zk6 now) (hd:d≤2 ^ 20) (H:Heap) :
 ∃ r,callW tbl (.func zbd [] []) [vp,vo,vn,i64 d] H=some (r,H)∧∃ b,r=.bool b∧(b=true→z56 old now d p.steps≤3000):=
 z76 (tbl:=tbl) (f:=zbd) (af:=ze6) rfl rfl (R:=fun y=>∃ vp vo vn,y=[vp,vo,vn,i64 d]∧Is vp p∧Is vo old∧Is vn now) (S:=fun r=>∃ b,r=.bool b∧(b=true→z56 old now d p.steps≤3000))
  (by rintro _ ⟨vp,vo,vn,rfl,h1,h2,h3⟩; simp [AV.plains,Enc.plain h1,Enc.plain h2,Enc.plain h3]) (by rintro _ ⟨vp,vo,vn,rfl,h1,h2,h3⟩; exact ⟨vp.lend,vo.lend,vn.lend,rfl,Enc.lend h1,Enc.lend h2,Enc.lend h3⟩)
  (by rintro _ ⟨b,rfl,h⟩; exact ⟨b,rfl,h⟩) (by rintro _ ⟨vp,vo,vn,rfl,h1,h2,h3⟩; exact z331 p old now d vp vo vn h1 h2 h3 hs hro hrn hd) _ H ⟨vp,vo,vn,rfl,hp,ho,hn⟩
theorem zcz (p:Plan) (old now:List RelOf) (delta:List Tup):∃ av,z1e p old now delta=.tuple [av,i64 (okN p)]∧Is av (bindO p old now delta):=by
 unfold z1e okN bindO
 split
 ·exact ⟨_,rfl,z2r _⟩
 ·exact ⟨_,rfl,IsL.nil⟩
theorem zc31 (p:Plan) (old now:List RelOf) (delta:List Tup):∃ cv,zbc p old now delta=.tuple [cv,i64 (okN p)]∧Is cv (outR p old now delta):=by
 unfold zbc okN outR
 split
 ·exact ⟨_,rfl,z281 _⟩
 ·exact ⟨_,rfl,IsL.nil⟩
theorem z1u (g:Plan→List RelOf→List RelOf→List Tup→AV) {f:FuncId} (hf:tblL f=some (.law (gOf g))) (p:Plan) (old now:List RelOf) (delta:List Tup) (vp vo vn vd:AV) (hp:Is vp p) (ho:Is vo old) (hn:Is vn now) (hd:Is vd delta) (hr:zgj p old now delta) (H:Heap):callW tblL (.func f [] []) [vp,vo,vn,vd] H=some (g p old now delta,H):=
 zm51 (g:=gOf g) hf (by simp [AV.plains,Enc.plain hp,Enc.plain ho,Enc.plain hn,Enc.plain hd]) (by
  simp only [gOf,Dec.compl hp,Dec.compl ho,Dec.compl hn,Dec.compl hd,if_pos hr])
theorem zd31 (p:Plan) (old now:List RelOf) (delta:List Tup) (vp vo vn vd:AV) (hp:Is vp p) (ho:Is vo old) (hn:Is vn now) (hd:Is vd delta) (hpi:zb31 p) (hro:zk6 old) (hrn:zk6 now) (hrd:z6e delta) :
 ∃ r,zy (callW tblE) loopW zb3 [vp,vo,vn,vd]=some r∧r=.bool true:=by
 have hal:=fun H=>zaz H
 obtain ⟨ro,hco,hIo⟩:=zbx old vo ho hro []
 obtain ⟨rn,hcn,hIn⟩:=zbx now vn hn hrn []
 obtain ⟨rd,hcd,hId⟩:=zyp delta vd hd hrd.1 []
 replace hco:=zm1 subE hco
 replace hcn:=zm1 subE hcn
 replace hcd:=zm1 subE hcd
 have ko:=zz21 hro
 have kn:=zz21 hrn
 have kd:=zxt hrd.2
 generalize cutR old=old at *
 generalize cutR now=now at *
 generalize zki delta=delta at *
 have hld:=IsL.len hId
 obtain ⟨rc,hch,b,rfl,hcheap⟩:=zbz p old now delta.length vp ro rn hp hIo hIn hpi.steps ko kn kd.1 []
 replace hch:=zm1 subE hch
 have hrow:=Enc.row hp
 simp only [show Enc.sz Plan=4 from rfl] at hrow
 have hp0:=hp
 obtain ⟨a,b',c,hA,hB,hC,rfl⟩:=hp
 have ca:=zb hA
 have cb:=zb hB
 have cc:=zb hC
 refine pureK zb3 rfl (fun F hF=>?_)
 cases b with
 | false=>
   simp [zb3,zz9,AV.rowok,ca,cb,cc,hco,hcn,hcd,hld,hch,hal]
   exact hF _ _ _ (z6 rfl) rfl
 | true=>
   have hW:=fun hok=>zn51 (p:=p) (old:=old) (now:=now) (delta:=delta) (hcheap rfl) hok
   have hargs:zs9 old now delta:=⟨ko,kn,kd⟩
   have hvals:za7 p:=fun s hs cc hcc=>(hpi.st s hs).cols cc hcc
   have hr:zgj p old now delta:=⟨hpi.steps,hvals,hpi.hv,hargs,fun hok=>by
    have h1:=hW hok
    have h2:=z0d old now delta p.steps (zeros p.vars.length)
    rw [zej]; omega⟩
   have hc1:=zm1 subLE (z1u z1e (f:=zl4) rfl p old now delta _ ro rn rd hp0 hIo hIn hId hr [])
   have hc2:=zm1 subLE (z1u zbc (f:=zgf) rfl p old now delta _ ro rn rd hp0 hIo hIn hId hr [])
   obtain ⟨av,e1,hav⟩:=zcz p old now delta
   obtain ⟨cv,e2,hcv⟩:=zc31 p old now delta
   rw [e1] at hc1
   rw [e2] at hc2
   obtain ⟨_,hc3,bv,rfl,hbv⟩:=z1g p old now delta _ ro rn rd hp0 hIo hIn hId hpi.steps hvals hargs hW []
   replace hc3:=zm1 subE hc3
   obtain ⟨dv,H',lo,hc4,hdv⟩:=zw21 p old now delta _ ro rn rd hp0 hIo hIn hId hpi.steps hvals hargs hW []
   replace hc4:=zm1 subE hc4
   obtain ⟨⟨k1,k2⟩,k3,k4⟩:=z9z (p:=p) hargs hW
   have hc5:=zm1 subE (z1w _ _ cv dv H' hcv hdv (by omega) k4 k4)
   simp only [decide_true] at hc5
   have la:=IsL.len hav
   have lb:=IsL.len hbv
   simp [zb3,zz9,AV.rowok,ca,cb,cc,hco,hcn,hcd,hld,hch,hc1,hc2,hc3,hc4,hc5,la,lb]
   generalize bindO p old now delta=D at *
   refine zg (fun n s=>∃ i,i + n=D.length∧s.heap=H'∧s.dfr=[]∧s.tm.get 9=av∧s.tm.get 11=bv∧s.tm.get 17=i64 i) D.length ⟨0,by omega,by simp,by simp,by simp,by simp,by simp⟩ ?_
   rintro n s Q ⟨i,h0,hH,q2,f9,f11,f17⟩ hgo hx
   have hwi:IntKind.i64.wrap ((i:Int) + 1)=((i + 1:Nat):Int):=z61 (by omega) (by omega)
   by_cases hi:i < D.length
   ·have hii:(i:Int) < (D.length:Int):=by omega
    have hg:=List.getElem?_eq_getElem hi
    obtain ⟨fl,r,hr1,hidx⟩:=IsL.idx hav hg
    obtain ⟨fl2,r2,hr2,hidx2⟩:=IsL.idx hbv hg
    simp only [show Enc.sz Tup=1 from rfl] at hidx hidx2
    have c1:=zb hr1
    have c2:=zb hr2
    have hcmp:=zm1 subE (zzc D[i] D[i] r r2 hr1 hr2 (k2 _ (List.getElem_mem hi)) (k2 _ (List.getElem_mem hi)) s.heap)
    rw [(z8c _ _).2 rfl] at hcmp
    simp [zi7,f9,f11,f17,lb,hii,hidx,hidx2,c1,c2,hcmp,AV.rowok]
    exact hgo _ (n - 1) (by omega) ⟨i + 1,by omega,by simp [hH],by simp [q2],by simp [f9],by simp [f11],by simp [hwi]⟩
   ·have hii:¬ (i:Int) < (D.length:Int):=by omega
    simp [zi7,f11,f17,lb,hii]
    refine hx _ _ (by simp) ?_
    simp [q2,hal]
    exact hF _ _ _ (z6 rfl) rfl
end Go.Abs.Plan
