/- Exec: values read back; the functions that may run many ways, as laws. -/
import Derived.Test.YtddpdpjpfgnhmaaGreatG37x
set_option linter.unusedSimpArgs false
set_option linter.unusedVariables false
set_option maxHeartbeats 4000000
namespace Go.Abs
open Enc (Is)
class Dec (α:Type) [Enc α] where
 dec:AV→Option α
 sound:∀ {v:AV} {x:α},dec v=some x→Is v x
 compl:∀ {v:AV} {x:α},Is v x→dec v=some x
def zkn {α:Type} (f:AV→Option α):List AV→Option (List α)
 | []=>some []
 | a::l=>match f a,zkn f l with
   | some x,some xs=>some (x::xs)
   | _,_=>none
def zq21 {α:Type} (f:AV→Option α):AV→Option (List α)
 | .nilsl=>some []
 | .fsl _ rows=>zkn f rows
 | _=>none
theorem zak {α:Type} [Enc α] [Dec α]:∀ {l:List AV} {xs:List α},zkn Dec.dec l=some xs→All2 Is l xs
 | [],xs,h=>by simp [zkn] at h; subst h; exact .nil
 | a::l,xs,h=>by
   simp only [zkn] at h
   split at h
   ·rename_i x ys h1 h2
    simp only [Option.some.injEq] at h; subst h
    exact .cons (Dec.sound h1) (zak h2)
   ·simp at h
theorem ztt {α:Type} [Enc α] [Dec α] {l:List AV} {xs:List α} (h:All2 Is l xs):zkn Dec.dec l=some xs:=by
 induction h with
 | nil=>rfl
 | cons h _ ih=>simp only [zkn,Dec.compl h,ih]
instance {α:Type} [Enc α] [Dec α]:Dec (List α) where
 dec:=zq21 Dec.dec
 sound:=by
  intro v xs h
  unfold zq21 at h
  split at h
  ·simp at h; subst h; exact IsL.nil
  ·exact IsL.fsl (zak h)
  ·simp at h
 compl:=by
  rintro v xs (⟨rfl,rfl⟩ | ⟨fl,rows,rfl,h⟩)
  ·rfl
  ·exact ztt h
instance:Dec ByteArray where
 dec
  | .str s=>some s
  | _=>none
 sound:=by
  intro v x h
  split at h <;> simp at h
  subst h; rfl
 compl:=by rintro v x rfl; rfl
instance:Dec Val where
 dec
  | .agg [.int .i64 k, .int .i64 n, .str s]=>some ⟨k,n,s⟩
  | _=>none
 sound:=by
  intro v x h
  split at h <;> simp at h
  subst h; rfl
 compl:=by rintro v x rfl; rfl
instance:Dec Term where
 dec
  | .agg [.int .i64 k, .str nm, .int .i64 vk, .int .i64 vn, .str vs]=>some ⟨k,nm,⟨vk,vn,vs⟩⟩
  | _=>none
 sound:=by
  intro v x h
  split at h <;> simp at h
  subst h; rfl
 compl:=by rintro v x rfl; rfl
instance:Dec Col where
 dec
  | .agg [.int .i64 u, .int .i64 k, .int .i64 vk, .int .i64 vn, .str vs]=>some ⟨u,k,⟨vk,vn,vs⟩⟩
  | _=>none
 sound:=by
  intro v x h
  split at h <;> simp at h
  subst h; rfl
 compl:=by rintro v x rfl; rfl
instance:Dec RelOf where
 dec
  | .agg [.str nm,a]=>(Dec.dec a).map fun r=>⟨nm,r⟩
  | _=>none
 sound:=by
  intro v x h
  split at h
  ·rw [Option.map_eq_some_iff] at h
   obtain ⟨r,h1,rfl⟩:=h
   exact ⟨_,Dec.sound h1,rfl⟩
  ·simp at h
 compl:=by rintro v x ⟨a,h,rfl⟩; simp only [Dec.compl h]; rfl
instance:Dec Lit where
 dec
  | .agg [.int .i64 k, .str pr,a, .int .i64 op, .int .i64 ak, .str an, .int .i64 avk, .int .i64 avn, .str avs, .int .i64 bk, .str bn, .int .i64 bvk, .int .i64 bvn, .str bvs]=>(Dec.dec a).map fun as=>⟨k,⟨pr,as⟩,op,⟨ak,an,⟨avk,avn,avs⟩⟩,⟨bk,bn,⟨bvk,bvn,bvs⟩⟩⟩
  | _=>none
 sound:=by
  intro v x h
  split at h
  ·rw [Option.map_eq_some_iff] at h
   obtain ⟨r,h1,rfl⟩:=h
   exact ⟨_,Dec.sound h1,rfl⟩
  ·simp at h
 compl:=by rintro v x ⟨a,h,rfl⟩; simp only [Dec.compl h]; rfl
instance:Dec Step where
 dec
  | .agg [.int .i64 op, .int .i64 lit, .str pr, .bool old,c, .int .i64 cmp, .int .i64 au, .int .i64 av, .int .i64 avk, .int .i64 avn, .str avs, .int .i64 bu, .int .i64 bv, .int .i64 bvk, .int .i64 bvn, .str bvs]=>(Dec.dec c).map fun cs=>⟨op,lit,pr,old,cs,cmp,⟨au,av,⟨avk,avn,avs⟩⟩,⟨bu,bv,⟨bvk,bvn,bvs⟩⟩⟩
  | _=>none
 sound:=by
  intro v x h
  split at h
  ·rw [Option.map_eq_some_iff] at h
   obtain ⟨r,h1,rfl⟩:=h
   exact ⟨_,Dec.sound h1,rfl⟩
  ·simp at h
 compl:=by rintro v x ⟨a,h,rfl⟩; simp only [Dec.compl h]; rfl
instance:Dec Plan where
 dec
  | .agg [a,b, .str pr,c]=>match Dec.dec a,Dec.dec b,Dec.dec c with
    | some vars,some steps,some head=>some ⟨vars,steps,pr,head⟩
    | _,_,_=>none
  | _=>none
 sound:=by
  intro v x h
  split at h
  ·split at h
   ·rename_i h1 h2 h3
    simp only [Option.some.injEq] at h; subst h
    exact ⟨_,_,_,Dec.sound h1,Dec.sound h2,Dec.sound h3,rfl⟩
   ·simp at h
  ·simp at h
 compl:=by rintro v x ⟨a,b,c,h1,h2,h3,rfl⟩; simp only [Dec.compl h1,Dec.compl h2,Dec.compl h3]
end Go.Abs
namespace Go.Abs.Plan
open Enc (Is)
instance (v:Val):Decidable (ValOk v):=decidable_of_iff (-2 ^ 63≤v.kind∧v.kind < 2 ^ 63 ∧ -2 ^ 63≤v.n∧v.n < 2 ^ 63∧v.s.data.toList.length≤2 ^ 20) ⟨fun h=>⟨h.1,h.2.1,h.2.2.1,h.2.2.2.1,h.2.2.2.2⟩,fun h=>⟨h.k1,h.k2,h.n1,h.n2,h.s⟩⟩
instance (t:Tup):Decidable (TupOk t):=decidable_of_iff (t.length≤2 ^ 20∧∀ v∈t,ValOk v) ⟨fun h=>⟨h.1,h.2⟩,fun h=>⟨h.len,h.val⟩⟩
def z6e (l:List Tup):Prop:=l.length≤2 ^ 20∧∀ t∈l,TupOk t
instance (l:List Tup):Decidable (z6e l):=by unfold z6e; exact inferInstance
instance (l:List RelOf):Decidable (zk6 l):=decidable_of_iff (l.length≤2 ^ 20∧∀ r∈l,z6e r.rel) ⟨fun h=>⟨h.1,h.2⟩,fun h=>⟨h.len,h.rel⟩⟩
instance (old now:List RelOf) (delta:List Tup):Decidable (zs9 old now delta):=decidable_of_iff (zk6 old∧zk6 now∧z6e delta) ⟨fun h=>⟨h.1,h.2.1,h.2.2⟩,fun h=>⟨h.old,h.now,h.dlt⟩⟩
instance (p:Plan):Decidable (za7 p):=by unfold za7; exact inferInstance
def z46 (p:Plan):Bool:=decide (p.vars.length≤64) && (decide (p.head.length≤8) && (decide (p.steps.length < 2 ^ 40) && (match zx2 p.vars.length true 0 p.steps with
 | some B=>(z72 p.vars.length false false B p.head).isSome
 | none=>false)))
theorem zv3 (p:Plan):z46 p=true↔zu3 p:=by
 simp only [z46,Bool.and_eq_true,decide_eq_true_eq]
 constructor
 ·rintro ⟨h1,h2,h3,h4⟩
  split at h4
  ·rename_i B hB
   obtain ⟨B',hB'⟩:=Option.isSome_iff_exists.1 h4
   exact ⟨h1,h2,h3,B,B',hB,hB'⟩
  ·cases h4
 ·rintro ⟨h1,h2,h3,B,B',hB,hB'⟩
  exact ⟨h1,h2,h3,by rw [hB]; simp [hB']⟩
def zyv:List AV→Option AV
 | [v,w,x]=>match (Dec.dec v:Option Lit),(Dec.dec w:Option (List Tup)),(Dec.dec x:Option (List Tup)) with
   | some l,some old,some now=>if l.atom.args.length≤2 ^ 20∧z6e old∧z6e now then some (zvd l old now) else none
   | _,_,_=>none
 | _=>none
structure zgj (p:Plan) (old now:List RelOf) (delta:List Tup):Prop where
 s:p.steps.length≤2 ^ 20
 v:za7 p
 h:∀ c∈p.head,ValOk c.v
 a:zs9 old now delta
 few:z46 p=true→(allT p old now delta).length≤2 ^ 30
instance (p:Plan) (old now:List RelOf) (delta:List Tup):Decidable (zgj p old now delta):=decidable_of_iff (p.steps.length≤2 ^ 20∧za7 p∧(∀ c∈p.head,ValOk c.v)∧zs9 old now delta∧(z46 p=true→(allT p old now delta).length≤2 ^ 30))
 ⟨fun h=>⟨h.1,h.2.1,h.2.2.1,h.2.2.2.1,h.2.2.2.2⟩,fun h=>⟨h.s,h.v,h.h,h.a,h.few⟩⟩
def bindR (p:Plan) (old now:List RelOf) (delta:List Tup):List Tup:=sortT (allT p old now delta)
def runR (p:Plan) (old now:List RelOf) (delta:List Tup):List Counted:=zu4 ((bindR p old now delta).map (headT p))
def z1e (p:Plan) (old now:List RelOf) (delta:List Tup):AV:=if z46 p=true then .tuple [relA (bindR p old now delta),i64 0] else .tuple [.nilsl,i64 180]
def zbc (p:Plan) (old now:List RelOf) (delta:List Tup):AV:=if z46 p=true then .tuple [relC (runR p old now delta),i64 0] else .tuple [.nilsl,i64 180]
def gOf (f:Plan→List RelOf→List RelOf→List Tup→AV):List AV→Option AV
 | [vp,vo,vn,vd]=>match (Dec.dec vp:Option Plan),(Dec.dec vo:Option (List RelOf)),(Dec.dec vn:Option (List RelOf)),(Dec.dec vd:Option (List Tup)) with
   | some p,some old,some now,some delta=>if zgj p old now delta then some (f p old now delta) else none
   | _,_,_,_=>none
 | _=>none
theorem zgr {p:Plan} (h:zu3 p) (old now:List RelOf) (delta:List Tup):bindL p old now delta=bindR p old now delta:=by
 unfold bindL bindR
 rw [zpk h]
 obtain ⟨h1,h2⟩:=zt4 (addsT [] (allT p old now delta))
 refine z1r h1 (fun y=>?_)
 rw [h2,(zyd _ [] List.nodup_nil).2.2 y]; simp
def tblL (f:FuncId):Option AFun:=if f=12 then some (.law (gOf z1e)) else if f=14 then some (.law (gOf zbc)) else if f=18 then some (.law zyv) else tbl f
theorem subL:TSub tbl tblL:=by
 intro f x h
 unfold tblL
 have h12:tbl 12=none:=rfl
 have h14:tbl 14=none:=rfl
 have h18:tbl 18=none:=rfl
 split
 ·rename_i e; subst e; rw [h12] at h; cases h
 ·split
  ·rename_i e; subst e; rw [h14] at h; cases h
  ·split
   ·rename_i e; subst e; rw [h18] at h; cases h
   ·exact h
theorem zj51 (k:Nat) (p:Plan) (old now:List RelOf) (delta:List Tup) (vp vo vn vd:AV) (hp:Is vp p) (ho:Is vo old) (hnw:Is vn now) (hd:Is vd delta) (hr:zgj p old now delta) (H:Heap) :
 NW tblN (k + 7) (.func zgf [] []) [vp,vo,vn,vd] H (fun r H'=>r=zbc p old now delta∧H'=H):=by
 have hun:(zbc p old now delta).unlent=true:=by
  unfold zbc
  split
  ·simp [AV.unlent,AV.unlents,zqv]
  ·rfl
 have hfew:zu3 p→(zl8 p old now delta).length≤2 ^ 30:=fun h=>by rw [zpk h]; exact hr.few ((zv3 p).2 h)
 have conv:∀ r,((zu3 p→r=.tuple [relC (runL p old now delta),i64 0])∧(¬ zu3 p→r=.tuple [.nilsl,i64 180]))→r=zbc p old now delta:=fun r h=>by
  unfold zbc
  split
  ·rename_i hb
   have hok:=(zv3 p).1 hb
   rw [h.1 hok,runL,zgr hok]; rfl
  ·rename_i hb
   exact h.2 (fun hok=>hb ((zv3 p).2 hok))
 refine zo11 (af:=z19) rfl rfl (by simp [AV.plains,Enc.plain hp,Enc.plain ho,Enc.plain hnw,Enc.plain hd]) ?_
 split
 ·refine zwc (z3a _) (zj21 k p old now delta vp vo vn vd hp ho hnw hd hr.s hr.v hr.h hr.a hfew) ?_
  intro r h
  exact ⟨conv r h,rfl⟩
 ·refine zwc (z3a _) (zj21 k p old now delta vp.lend vo.lend vn.lend vd.lend (Enc.lend hp) (Enc.lend ho) (Enc.lend hnw) (Enc.lend hd) hr.s hr.v hr.h hr.a hfew) ?_
  intro r h
  rw [conv r h,hun]
  simp
theorem zr21 (k:Nat) (p:Plan) (old now:List RelOf) (delta:List Tup) (vp vo vn vd:AV) (hp:Is vp p) (ho:Is vo old) (hnw:Is vn now) (hd:Is vd delta) (hr:zgj p old now delta) (H:Heap) :
 NW tblN (k + 6) (.func zl4 [] []) [vp,vo,vn,vd] H (fun r H'=>r=z1e p old now delta∧H'=H):=by
 have hfew:zu3 p→(zl8 p old now delta).length≤2 ^ 30:=fun h=>by rw [zpk h]; exact hr.few ((zv3 p).2 h)
 refine z3a _ _ _ _ _ _ (zei k p old now delta vp vo vn vd hp ho hnw hd hr.s hr.v hr.a hfew H) ?_
 rintro r H' ⟨rfl,rfl⟩
 refine ⟨?_,rfl⟩
 unfold bindA z1e
 by_cases hok:zu3 p
 ·rw [if_pos hok,if_pos ((zv3 p).2 hok),zgr hok]
 ·rw [if_neg hok,if_neg (fun hb=>hok ((zv3 p).1 hb))]
theorem zs21 (args:List AV) (r:AV) (h:zyv args=some r) (H:Heap):NW tblN 2 (.func zdd [] []) args H (fun r' H'=>r'=r∧H'=H):=by
 unfold zyv at h
 split at h
 ·split at h
  ·rename_i l old now h1 h2 h3
   split at h
   ·rename_i hc
    simp only [Option.some.injEq] at h; subst h
    exact zfv 0 l old now _ _ _ (Dec.sound h1) (Dec.sound h2) (Dec.sound h3) hc.1 hc.2.1.1 hc.2.2.1 hc.2.1.2 hc.2.2.2 H
   ·simp at h
  ·simp at h
 ·simp at h
theorem zba1 (args:List AV) (r:AV) (h:gOf zbc args=some r) (H:Heap):NW tblN 7 (.func zgf [] []) args H (fun r' H'=>r'=r∧H'=H):=by
 unfold gOf at h
 split at h
 ·split at h
  ·rename_i p old now delta h1 h2 h3 h4
   split at h
   ·rename_i hc
    simp only [Option.some.injEq] at h; subst h
    exact zj51 0 p old now delta _ _ _ _ (Dec.sound h1) (Dec.sound h2) (Dec.sound h3) (Dec.sound h4) hc H
   ·simp at h
  ·simp at h
 ·simp at h
theorem z681 (args:List AV) (r:AV) (h:gOf z1e args=some r) (H:Heap):NW tblN 6 (.func zl4 [] []) args H (fun r' H'=>r'=r∧H'=H):=by
 unfold gOf at h
 split at h
 ·split at h
  ·rename_i p old now delta h1 h2 h3 h4
   split at h
   ·rename_i hc
    simp only [Option.some.injEq] at h; subst h
    exact zr21 0 p old now delta _ _ _ _ (Dec.sound h1) (Dec.sound h2) (Dec.sound h3) (Dec.sound h4) hc H
   ·simp at h
  ·simp at h
 ·simp at h
end Go.Abs.Plan
namespace Go.Abs.Plan
open Enc (Is)
theorem zut (l:List Tup):(sortT l).length≤l.length:=zft l
def bindO (p:Plan) (old now:List RelOf) (delta:List Tup):List Tup:=if z46 p=true then bindR p old now delta else []
def okN (p:Plan):Int:=if z46 p=true then 0 else 180
theorem zu3.fits {p:Plan} (h:zu3 p) (hv:za7 p):∀ s∈p.steps,z4n p.vars.length s:=fun s hs=>by
 obtain ⟨B,B',hB1,hB2⟩:=h.ok
 obtain ⟨B1,f1,B2,h1⟩:=zzd hB1 s hs
 exact zpp h1 (hv s hs)
theorem zvt (n:Nat):(zeros n).map Val.enc=List.replicate n zi.enc:=by simp [zeros]
theorem zln (n:Nat):(zeros n).length=n:=by simp [zeros]
theorem zhr (p:Plan) (old now:List RelOf) (delta:List Tup) (vp vo vn vd:AV) (hp:Is vp p) (ho:Is vo old) (hn:Is vn now) (hd:Is vd delta) (hs:p.steps.length≤2 ^ 20) (hv:za7 p) (ha:zs9 old now delta) (hW:z46 p=true→zgb old now delta p.steps≤2 ^ 20) :
 ∃ r,zy (callW tbl) loopW zc3 [vp,vo,vn,vd]=some r∧∃ w,r=.tuple [w,i64 (okN p)]∧Is w (bindO p old now delta):=by
 have hplan:=hp
 obtain ⟨a,b,c,hA,hB,hC,rfl⟩:=hp
 have ca:=zb hA
 have cb:=zb hB
 have cc:=zb hC
 have hla:=IsL.len hA
 obtain ⟨w,hchk,z,rfl,hz⟩:=z6o (.agg [a,b, .str p.pred,c]) p hplan (by omega) []
 refine pureK zc3 rfl (fun F hF=>?_)
 cases hok:z46 p with
 | false=>
   have hno:¬ zu3 p:=fun h=>by rw [(zv3 p).2 h] at hok; cases hok
   rw [hz.2 hno] at hchk
   simp [zc3,z0a,AV.rowok,ca,cb,cc,hchk]
   exact hF _ _ _ (z6 rfl) ⟨_,by simp [okN,hok]; rfl,by simp [bindO,hok]; exact IsL.nil⟩
 | true=>
   have hop:=(zv3 p).1 hok
   rw [hz.1 hop] at hchk
   have hfit:=hop.fits hv
   have hnv:=hop.vars
   have hstep:∀ s∈p.steps,zrt old now delta (zeros p.vars.length).length s:=fun s hs=>by
    rw [zln]
    exact ⟨(hfit s hs).len,(hfit s hs).col,(hfit s hs).tst,(ha.rel s).1⟩
   have hrun:=zst (p:=p) (old:=old) (now:=now) (delta:=delta) (by omega) (Nat.le_trans ha.old.len (by omega)) (Nat.le_trans ha.now.len (by omega)) p.steps (Nat.le_trans (hW hok) (by omega))
   have hre:reify [Blk.arr 1 3 (List.replicate p.vars.length zi.enc)] zw (.sl 0 1 0 p.vars.length)=some (tupA (zeros p.vars.length)):=
    zd5 (sz:=3) (xs:=zeros p.vars.length) (R:=List.replicate p.vars.length zi.enc) (rows:=(zeros p.vars.length).map Val.enc) rfl (by simp) (by rw [zvt]; simp [List.take_of_length_le]) (zr6 (fun _=>rfl) _)
   obtain ⟨r,hcall,hr,hru⟩:=hrun.callS 0 (zeros p.vars.length) _ _ _ _ _ _ rfl (by omega) hplan (zg4 _) ho hn hd (by rw [zln]; omega) hstep _ hre
   have hl2:=z0d old now delta p.steps (zeros p.vars.length)
   have hl3:=hW hok
   rw [← zej] at hl2 hr
   have htup:∀ t∈allT p old now delta,t.length < 2 ^ 40:=fun t ht=>by
    have hz:=zop (rowsF:=zm7 p old now delta) (fun i x t ht=>by
     have:=(List.mem_filter.1 ht).1
     exact (ha.rel _).2 t this) p.steps 0 (zeros p.vars.length) (zok (by omega)) t ht
    rw [hz.2,zln]; omega
   obtain ⟨r2,hsort,hr2⟩:=zuv (allT p old now delta) r hr (by omega) htup [Blk.arr 1 3 (List.replicate p.vars.length zi.enc)] (fun B hB=>by simp only [List.mem_singleton] at hB; subst hB; exact z31 _ (by rw [← zvt]; exact zyi (zr6 (fun _=>rfl) _)))
   have hmk:(p.vars.length:Int) * 32≤2 ^ 47:=by omega
   have hmk2:p.vars.length * 32≤140737488355328:=by omega
   have hmk3:p.vars.length≤140737488355328:=by omega
   have hmk4:(0:Int)≤(p.vars.length:Int):=by omega
   have hze:AV.agg [i64 0,i64 0, .str ⟨#[]⟩]=zi.enc:=rfl
   rw [show ((0:Nat):Int)=0 from rfl] at hcall
   simp [zc3,z0a,AV.rowok,ca,cb,cc,hchk,hla,hmk2,hmk3,hmk4,hcall,hsort,hze]
   refine hF (.tuple [r2,i64 0]) _ _ (z6 (by simp [AV.plain,AV.plains,Enc.plain hr2])) ⟨r2,by simp only [okN,hok,if_true],by simp only [bindO,hok,if_true]; exact hr2⟩
theorem z1g (p:Plan) (old now:List RelOf) (delta:List Tup) (vp vo vn vd:AV) (hp:Is vp p) (ho:Is vo old) (hn:Is vn now) (hd:Is vd delta) (hs:p.steps.length≤2 ^ 20) (hv:za7 p) (ha:zs9 old now delta) (hW:z46 p=true→zgb old now delta p.steps≤2 ^ 20) (H:Heap) :
 ∃ r,callW tbl (.func z47 [] []) [vp,vo,vn,vd] H=some (r,H)∧∃ w,r=.tuple [w,i64 (okN p)]∧Is w (bindO p old now delta):=
 z76 (f:=z47) (af:=zc3) rfl rfl (R:=fun y=>∃ vp vo vn vd,y=[vp,vo,vn,vd]∧Is vp p∧Is vo old∧Is vn now∧Is vd delta) (S:=fun r=>∃ w,r=.tuple [w,i64 (okN p)]∧Is w (bindO p old now delta))
  (by rintro _ ⟨vp,vo,vn,vd,rfl,h1,h2,h3,h4⟩; simp [AV.plains,Enc.plain h1,Enc.plain h2,Enc.plain h3,Enc.plain h4])
  (by rintro _ ⟨vp,vo,vn,vd,rfl,h1,h2,h3,h4⟩; exact ⟨vp.lend,vo.lend,vn.lend,vd.lend,rfl,Enc.lend h1,Enc.lend h2,Enc.lend h3,Enc.lend h4⟩)
  (by rintro _ ⟨w,rfl,h⟩; exact ⟨w.lend,rfl,Enc.lend h⟩) (by rintro _ ⟨vp,vo,vn,vd,rfl,h1,h2,h3,h4⟩; exact zhr p old now delta vp vo vn vd h1 h2 h3 h4 hs hv ha hW) _ H ⟨vp,vo,vn,vd,rfl,hp,ho,hn,hd⟩
end Go.Abs.Plan
namespace Go.Abs.Plan
open Enc (Is)
theorem zax {l:List Counted} {t:Tup} (h:∀ c∈l,c.t≠t):tot l t=0:=by
 induction l with
 | nil=>rfl
 | cons x l ih=>rw [zn5,if_neg (h x (by simp)),ih (fun c hc=>h c (by simp [hc]))]; rfl
theorem zt21:∀ {l:List Counted},(l.Pairwise fun a b=>TLt a.t b.t)→∀ c∈l,tot l c.t=c.n
 | [],_,c,hc=>by simp at hc
 | x::l,h,c,hc=>by
   obtain ⟨h1,h2⟩:=List.pairwise_cons.1 h
   rw [zn5]
   rcases List.mem_cons.1 hc with rfl | hc
   ·rw [if_pos rfl,zax (fun d hd e=>by have:=h1 d hd; rw [e] at this; exact TLt.irrefl _ this)]; omega
   ·have hne:¬ x.t=c.t:=fun e=>by have:=h1 c hc; rw [e] at this; exact TLt.irrefl _ this
    rw [if_neg hne,zt21 h2 c hc]; omega
theorem SumIs.tot {D out:List Counted} (h:SumIs D out) (t:Tup):Plan.tot out t=Plan.tot D t:=by
 by_cases h0:Plan.tot D t=0
 ·rw [h0]
  refine zax (fun c hc e=>?_)
  have h1:=(h.mem c).1 hc
  rw [e,h0] at h1
  exact h1.1 h1.2
 ·exact zt21 h.srt ⟨t,Plan.tot D t⟩ ((h.mem _).2 ⟨h0,rfl⟩)
def ones (M:List Tup):List Counted:=M.map fun t=>⟨t,1⟩
theorem zk51 (M:List Tup) (t:Tup):tot (ones M) t=(M.count t:Nat):=by
 induction M with
 | nil=>rfl
 | cons a M ih=>
   show tot (⟨a,1⟩::ones M) t=_
   rw [zn5,ih,List.count_cons]
   by_cases h:a=t
   ·simp [h]; omega
   ·simp [h]
theorem zxp (M:List Tup):SumIs (ones M) (zu4 M):=by
 obtain ⟨h1,h2⟩:=zt4 M
 refine ⟨List.pairwise_map.2 h1,fun c=>?_⟩
 rw [zk51]
 unfold zu4
 rw [List.mem_map]
 constructor
 ·rintro ⟨t,ht,rfl⟩
  have:=List.count_pos_iff.2 ((h2 t).1 ht)
  exact ⟨by simp only; omega,rfl⟩
 ·rintro ⟨h3,h4⟩
  have hm:c.t∈M:=by
   rcases Nat.eq_zero_or_pos (M.count c.t) with h | h
   ·rw [h] at h4; exact absurd h4 h3
   ·exact List.count_pos_iff.1 h
  refine ⟨c.t,(h2 _).2 hm,?_⟩
  cases c
  simp only at h4
  rw [h4]
theorem z781 {l:List Counted} {B:Nat} (h:∀ c∈l,c.n.natAbs≤B):mass l≤l.length * B:=by
 induction l with
 | nil=>simp [mass]
 | cons x l ih=>
   have h1:=h x (by simp)
   have h2:=ih (fun c hc=>h c (by simp [hc]))
   rw [zdf,List.length_cons,Nat.succ_mul]; omega
theorem zbk {M:List Tup} {B:Nat} (hM:M.length≤B):(zu4 M).length≤B∧∀ c∈zu4 M,c.n.natAbs≤B:=by
 constructor
 ·unfold zu4
  have:=zut M
  simp; omega
 ·intro c hc
  unfold zu4 at hc
  obtain ⟨t,_,rfl⟩:=List.mem_map.1 hc
  have:=List.count_le_length (a:=t) (l:=M)
  simp; omega
theorem zu21 (M:List Tup) (t:Tup):ones (M++[t])=ones M++[⟨t,1⟩]:=by simp [ones]
theorem zl51 {p:Plan} {x:Tup} {fl:Bool} {a b c vd:AV} {D:List Tup} {j:Nat} (hC:Is c p.head) (hh:p.head.length≤2 ^ 20) (hin:∀ cc∈p.head,ColIn x.length cc) (hD:Is vd D) (hj:D[j]? = some x) {R:AExit→St→Prop} {ks:List KF} (s:St) (id:Nat)
 (f4:s.tm.get 4=.fptr fl [a,b, .str p.pred,c] 0) (f10:s.tm.get 10=vd) (f13:s.tm.get 13=i64 j) (f14:s.tm.get 14=.sl id 0 0 0) (hb:s.heap[id]? = some (.arr 0 3 [])) (f15:s.tm.get 15=i64 0) (q:s.dfr=[])
 (hexit:∀ s' g,s'.heap[id]? = some (.arr g 3 ((headT p x).map Val.enc))→(∀ k,k < id→s'.heap[k]? = s.heap[k]?)→s'.dfr=[]→s'.tm.get 4=.fptr fl [a,b, .str p.pred,c] 0→s'.tm.get 10=vd→s'.tm.get 12=s.tm.get 12→s'.tm.get 13=i64 j→s'.tm.get 14=.sl id g 0 (headT p x).length→KONT (callW tbl) loopW ks .normal s' R) :
 EXEC (callW tbl) loopW (.loop zb9) (KF.block 2::ks) s R:=by
 have ccl:=zb hC
 have hlc:=IsL.len hC
 obtain ⟨t,ht⟩:∃ t,t=headT p x:=⟨_,rfl⟩
 have htl:t.length=p.head.length:=by rw [ht]; simp [headT]
 rw [← ht] at hexit
 obtain ⟨fl1,rx,hrx,hidx⟩:=IsL.idx hD hj
 simp only [show Enc.sz Tup=1 from rfl] at hidx
 have hcx:=zb hrx
 refine zg (fun n s'=>∃ i g,i + n=p.head.length∧s'.heap[id]? = some (.arr g 3 ((t.take i).map Val.enc))∧(∀ k,k < id→s'.heap[k]? = s.heap[k]?)∧s'.dfr=[]∧s'.tm.get 4=.fptr fl [a,b, .str p.pred,c] 0∧s'.tm.get 10=vd∧s'.tm.get 12=s.tm.get 12∧s'.tm.get 13=i64 j∧s'.tm.get 14=.sl id g 0 i∧s'.tm.get 15=i64 i) p.head.length
  ⟨0,0,by omega,by simpa using hb,fun k _=>rfl,q,f4,f10,rfl,f13,f14,f15⟩ ?_
 rintro n s' Q ⟨i,g,h0,hH,hlow,e0,e4,e10,e12,e13,e14,e15⟩ hgo hx
 by_cases hi:i < p.head.length
 ·have hii:(i:Int) < (p.head.length:Int):=by omega
  have hgi:p.head[i]? = some p.head[i]:=by simp [hi]
  obtain ⟨fl',cv,rfl,hidc⟩:=IsL.idx hC hgi
  simp only [show Enc.sz Col=5 from rfl] at hidc
  have hval:=fun H=>zzg p.head[i] x rx H hrx (hin _ (List.getElem_mem hi))
  have hti:t[i]? = some (zo1 p.head[i] x):=by rw [ht]; simp [headT,hi]
  have htk2:t.take (i + 1)=t.take i++[zo1 p.head[i] x]:=by rw [List.take_add_one,hti]; rfl
  have kb:=ze1 hH
  have nb:=lt_of hH
  have hroom:(i + 1) * 32≤140737488355328:=by omega
  have hno2:¬ (i + 1≤i):=by omega
  have hmin:min i t.length=i:=by omega
  have hwi:IntKind.i64.wrap ((i:Int) + 1)=((i + 1:Nat):Int):=z61 (by omega) (by omega)
  have hidn:id≠s'.heap.length:=by omega
  have khA:∀ (T:Heap),hat (s'.heap++T) id=.arr g 3 ((t.take i).map Val.enc):=fun T=>ze1 (by rw [List.getElem?_append_left nb]; exact hH)
  generalize p.head[i]=cx at *
  generalize hvv:zo1 cx x=vv at *
  have htake:List.take i ((t.take i).map Val.enc)=(t.take i).map Val.enc:=List.take_of_length_le (by simp; omega)
  have s3:zw3 1 0 1 (.arr 1 3 [vv.enc])=some [vv.enc]:=rfl
  simp [zb9,s3,e4,e10,e13,e14,e15,ccl,hlc,hii,hidx,hcx,hidc,AV.rowok,hval,zr,zh1,zi1,room,kb,khA,nb,hroom,hmin,hno2,hidn,List.take_take,hwi]
  refine ⟨by omega,hgo _ (n - 1) (by omega) ⟨i + 1,g + 1,by omega,?_,?_,by simp [e0],by simp [e4],by simp [e10],by simp [e12],by simp [e13],by simp,by simp⟩⟩
  ·rw [htk2,List.getElem?_append_left (by simpa using nb),List.getElem?_set_self nb]; simp [List.map_take]
  ·intro k hk
   rw [← hlow k hk,List.getElem?_append_left (by simp; omega),List.getElem?_set_ne (by omega)]
 ·have hii:¬ (i:Int) < (p.head.length:Int):=by omega
  have hil:i=p.head.length:=by omega
  simp [zb9,e4,e15,ccl,hlc,hii,AV.rowok]
  refine hx _ _ (by simp) ?_
  simp
  rw [hil,← htl,List.take_length] at hH
  rw [hil,← htl] at e14
  exact hexit _ g (by simpa using hH) (by simpa using hlow) (by simp [e0]) (by simp [e4]) (by simp [e10]) (by simp [e12]) (by simp [e13]) (by simp [e14])
theorem zwt {call:CallF} {lp:LoopF} {f:AV} {args:List AV} {H:Heap} {P:AV→Heap→Prop} {dst:Option Nat} {keep:Bool} {os:List AOper} {loc:List (Nat×AV)} {s:St} {ks:List KF} {R:AExit→St→Prop} (h:∃ r H',call f args H=some (r,H')∧P r H') (k:∀ r H',P r H'→ACTK call lp (.val r) dst keep os loc { s with heap:=H' } ks R) :
 CALLK call lp (call f args H) dst keep os loc s ks R:=by
 obtain ⟨r,H',h1,h2⟩:=h
 rw [h1,zzo]; exact k r H' h2
theorem OutAt.frz {lo:Nat} {H:Heap} {w:AV} {outs:List Counted} (h:OutAt lo H w outs):(w=.nilsl∧outs=[])∨∃ id g R,lo < id∧w=.sl id g 0 outs.length∧H[id]? = some (.arr g 2 R)∧outs.length≤R.length∧All2 Is (R.take outs.length) outs∧AV.plains (R.take outs.length)=true:=by
 rcases h with ⟨h1,h2⟩ | ⟨id,g,R,h1,h2,h3,h4,h5⟩
 ·exact .inl ⟨h2,h1⟩
 ·exact .inr ⟨id,g,R,h1,h2,h3,h4,h5,zyi h5⟩
def outR (p:Plan) (old now:List RelOf) (delta:List Tup):List Counted:=if z46 p=true then runR p old now delta else []
theorem zmn (p:Plan) (old now:List RelOf) (delta:List Tup) (ha:zs9 old now delta) (hok:zu3 p) (hW:zgb old now delta p.steps≤2 ^ 20):(bindR p old now delta).length≤2 ^ 20∧∀ t∈bindR p old now delta,TupOk t∧t.length=p.vars.length:=by
 have hl:(allT p old now delta).length≤2 ^ 20:=by rw [zej]; exact Nat.le_trans (z0d old now delta p.steps _) hW
 have h1:=zut (allT p old now delta)
 have hv:=hok.vars
 refine ⟨by unfold bindR; omega,fun t ht=>?_⟩
 have:=(zbn p old now delta ha (by omega) (by rw [zpk hok]; omega)).2 t
 rw [zgr hok] at this
 exact this ht
theorem zv21 {p:Plan} {fl:Bool} {a b c vd:AV} {D:List Tup} (hC:Is c p.head) (hh:p.head.length≤2 ^ 20) (hD:Is vd D) (hDl:D.length≤2 ^ 20) (hin:∀ x∈D,∀ cc∈p.head,ColIn x.length cc) {R:AExit→St→Prop} {ks:List KF} (H0:Heap) (s:St)
 (hlow0:∀ k,k < H0.length→s.heap[k]? = H0[k]?) (hle0:H0.length≤s.heap.length) (f4:s.tm.get 4=.fptr fl [a,b, .str p.pred,c] 0) (f10:s.tm.get 10=vd) (f12:s.tm.get 12=.nilsl) (f13:s.tm.get 13=i64 0) (q:s.dfr=[])
 (hexit:∀ s',(∃ lo,H0.length≤lo∧OutAt lo s'.heap (s'.tm.get 12) (zu4 (D.map (headT p))))→(∀ k,k < H0.length→s'.heap[k]? = H0[k]?)→s'.dfr=[]→KONT (callW tbl) loopW ks .normal s' R) :
 EXEC (callW tbl) loopW (.loop zc9) (KF.block 0::ks) s R:=by
 have hld:=IsL.len hD
 refine zg (fun n s'=>∃ j lo,j + n=D.length∧H0.length≤lo∧OutAt lo s'.heap (s'.tm.get 12) (zu4 ((D.take j).map (headT p)))∧(∀ k,k < H0.length→s'.heap[k]? = H0[k]?)∧H0.length≤s'.heap.length∧s'.dfr=[]∧s'.tm.get 4=.fptr fl [a,b, .str p.pred,c] 0∧s'.tm.get 10=vd∧s'.tm.get 13=i64 j) D.length
  ⟨0,H0.length,by omega,Nat.le_refl _, .inl ⟨rfl,f12⟩,hlow0,hle0,q,f4,f10,f13⟩ ?_
 clear hlow0 hle0 f4 f10 f12 f13 q s
 rintro n s Q ⟨j,lo,h0,hlo,hO,hlow,hle,q,f4,f10,f13⟩ hgo hx
 by_cases hj:j < D.length
 ·have hii:(j:Int) < (D.length:Int):=by omega
  have hgj:D[j]? = some D[j]:=by simp [hj]
  have htk:D.take (j + 1)=D.take j++[D[j]]:=by rw [List.take_add_one,hgj]; rfl
  have hinj:=hin _ (List.getElem_mem hj)
  have hwi:IntKind.i64.wrap ((j:Int) + 1)=((j + 1:Nat):Int):=z61 (by omega) (by omega)
  obtain ⟨M,hM⟩:∃ M,M=(D.take j).map (headT p):=⟨_,rfl⟩
  have hMl:M.length≤2 ^ 20:=by rw [hM]; simp; omega
  have hMt:∀ t∈M,t.length < 2 ^ 40:=fun t ht=>by
   rw [hM] at ht
   obtain ⟨y,_,rfl⟩:=List.mem_map.1 ht
   simp [headT]; omega
  generalize D[j]=x at *
  obtain ⟨t,ht⟩:∃ t,t=headT p x:=⟨_,rfl⟩
  have htl:t.length < 2 ^ 40:=by rw [ht]; simp [headT]; omega
  have hM':(D.take (j + 1)).map (headT p)=M++[t]:=by rw [htk,hM,ht]; simp
  rw [← hM] at hO
  simp [zc9,f4,f10,f13,hld,hii,zr]
  refine zl51 (fl:=fl) (a:=a) (b:=b) hC hh hinj hD hgj _ s.heap.length (by simp [f4]) (by simp [f10]) (by simp [f13]) (by simp) (by simp) (by simp) (by simp [q]) (fun s1 g hb hl1 e0 e4 e10 e12 e13 e14=>?_)
  simp at hl1 e12
  rw [← ht] at hb e14
  have hO1:OutAt lo s1.heap (s1.tm.get 12) (zu4 M):=by
   rw [e12]
   rcases hO with h | ⟨id,g',R',h1,h2,h3,h4⟩
   ·exact .inl h
   ·have:=lt_of h3
    exact .inr ⟨id,g',R',h1,h2,by rw [hl1 id this,List.getElem?_append_left this]; exact h3,h4⟩
  have hlow1:∀ k,k < s.heap.length→s1.heap[k]? = s.heap[k]? := fun k hk=>by rw [hl1 k hk,List.getElem?_append_left hk]
  have htp:AV.plains (t.map Val.enc)=true:=z18 t
  have hce:=zxp M
  obtain ⟨hc1,hc2⟩:=zbk (B:=2 ^ 20) hMl
  have hct:∀ c∈zu4 M,c.t.length < 2 ^ 40:=fun c hc=>by
   unfold zu4 at hc
   obtain ⟨y,hy,rfl⟩:=List.mem_map.1 hc
   exact hMt y ((((zt4 M).2 y).1 hy))
  have hsum:∀ (v:AV) (H:Heap),Is v [zu4 M,[(⟨t,1⟩:Counted)]]→∃ w H',callW tbl (.func zed [] []) [v] H=some (w,H')∧(OutAt H.length H' w (zu4 (M++[t]))∧∀ k,k < H.length→H'[k]? = H[k]?):=by
   intro v H hv
   have hfl:List.flatten [zu4 M,[(⟨t,1⟩:Counted)]]=zu4 M++[⟨t,1⟩]:=by simp
   have hm:=z781 hc2
   have hmul:(zu4 M).length * 2 ^ 20≤2 ^ 20 * 2 ^ 20:=Nat.mul_le_mul_right _ hc1
   obtain ⟨w,H',out,g1,g2,g3,g4,g5,g6⟩:=zi51 [zu4 M,[(⟨t,1⟩:Counted)]] v H hv (by simp) (by rw [hfl]; simp; omega) (by rw [hfl,zfn]; simp only [mass,List.map_cons,List.map_nil,List.sum_cons,List.sum_nil] at hm ⊢; omega)
    (by rw [hfl]; intro c hc; rcases List.mem_append.1 hc with hc | hc; exact hct c hc; simp at hc; subst hc; exact htl)
    (by intro l hl; simp at hl; rcases hl with rfl | rfl; exact hce.srt.imp (fun h=>TLt.asymm h); simp)
   have:out=zu4 (M++[t]):=by
    refine SumIs.unique g2 (zxp _) (fun u=>?_)
    rw [hfl,zu21,ztp,ztp,hce.tot]
   subst this
   exact ⟨w,H',g1,g5,g6⟩
  have hfin:∀ (s':St) (w:AV) (H1 H':Heap),s'.heap=H'→(∀ k,k < H0.length→H1[k]? = H0[k]?)→H0.length≤H1.length→(OutAt H1.length H' w (zu4 (M++[t]))∧∀ k,k < H1.length→H'[k]? = H1[k]?)→s'.dfr=[]→s'.tm.get 4=.fptr fl [a,b, .str p.pred,c] 0→s'.tm.get 10=vd→s'.tm.get 12=w→s'.tm.get 13=i64 ((j + 1:Nat):Int)→Q .normal s':=by
   intro s' w H1 H' g1 g2 g3 g4 g5 g6 g7 g8 g9
   refine hgo s' (n - 1) (by omega) ⟨j + 1,H1.length,by omega,g3,?_,fun k hk=>?_,?_,g5,g6,g7,g9⟩
   ·rw [g1,g8,hM']; exact g4.1
   ·rw [g1,g4.2 k (by omega)]; exact g2 k hk
   ·rw [g1]
    rcases Nat.eq_zero_or_pos H0.length with h | h
    ·omega
    ·have h1:=g4.2 (H0.length - 1) (by omega)
     have h2:H1[H0.length - 1]? ≠ none:=by simp; omega
     rw [← h1] at h2
     simp at h2; omega
  have nb:=lt_of hb
  have kb:=ze1 hb
  have htt:List.take t.length (t.map Val.enc)=t.map Val.enc:=List.take_of_length_le (by simp)
  have hta:Is (AV.fsl false (t.map Val.enc)) t:=zg4 t
  have hI2:Is (AV.fsl false [AV.agg [AV.fsl false (t.map Val.enc),i64 1]]) [(⟨t,1⟩:Counted)]:=IsL.fsl (.cons ⟨_,hta,rfl⟩ .nil)
  rcases hO1.frz with ⟨hw,hnil⟩ | ⟨id,g',R',h1,hw,h3,h4,h5,h6⟩
  ·simp [hw,e14,kb,nb,zw3,htt,htp,zr,z8,z26,splice,zz,AV.rowok]
   refine zwt (hsum _ _ ?_) (fun w H' hP=>?_)
   ·exact IsL.fsl (.cons (.inl ⟨rfl,hnil⟩) (.cons hI2 .nil))
   ·simp [e13,hwi]
    refine hfin _ w _ H' (by simp) (fun k hk=>?_) (by simp; omega) hP (by simp [e0]) (by simp [e4]) (by simp [e10]) (by simp) (by simp)
    rw [List.getElem?_set_ne (by omega),hlow1 k (by omega),hlow k hk]
  ·have hne:id≠s.heap.length:=fun e=>by rw [e,hb] at h3; simp at h3
   have kid:=ze1 h3
   have nid:=lt_of h3
   have hne':¬ s.heap.length=id:=fun e=>hne e.symm
   simp [hw,e14,kb,nb,kid,nid,hne,hne',h4,h6,zw3,htt,htp,zr,z8,z26,splice,zz,AV.rowok]
   refine zwt (hsum _ _ ?_) (fun w H' hP=>?_)
   ·exact IsL.fsl (.cons (IsL.fsl h5) (.cons hI2 .nil))
   ·simp [e13,hwi]
    refine hfin _ w _ H' (by simp) (fun k hk=>?_) (by simp; omega) hP (by simp [e0]) (by simp [e4]) (by simp [e10]) (by simp) (by simp)
    rw [List.getElem?_set_ne (by omega),List.getElem?_set_ne (by omega),hlow1 k (by omega),hlow k hk]
 ·have hii:¬ (j:Int) < (D.length:Int):=by omega
  have hjl:j=D.length:=by omega
  subst hjl
  rw [List.take_length] at hO
  simp [zc9,f10,f13,hld,hii]
  refine hx _ _ (by simp) ?_
  simp
  exact hexit _ ⟨lo,hlo,by simpa using hO⟩ (by simpa using hlow) (by simp [q])
theorem zw21 (p:Plan) (old now:List RelOf) (delta:List Tup) (vp vo vn vd:AV) (hp:Is vp p) (ho:Is vo old) (hn:Is vn now) (hd:Is vd delta) (hs:p.steps.length≤2 ^ 20) (hv:za7 p) (ha:zs9 old now delta) (hW:z46 p=true→zgb old now delta p.steps≤2 ^ 20) (H:Heap) :
 ∃ w H' lo,callW tbl (.func zfg [] []) [vp,vo,vn,vd] H=some (.tuple [w,i64 (okN p)],H')∧OutAt lo H' w (outR p old now delta):=by
 obtain ⟨rb,hcb,w0,rfl,hw0⟩:=z1g p old now delta vp vo vn vd hp ho hn hd hs hv ha hW H
 obtain ⟨a,b,c,hA,hB,hC,rfl⟩:=hp
 have ca:=zb hA
 have cb:=zb hB
 have cc:=zb hC
 have cw:=zb hw0
 obtain ⟨v,H',⟨w,rfl,lo,hlo,hO⟩,hcall⟩:=callE (tbl:=tbl) (f:=zfg) (first:=[]) (captured:=[]) (args:=[.agg [a,b, .str p.pred,c],vo,vn,vd]) (H:=H)
  (fun v H'=>∃ w,v=.tuple [w,i64 (okN p)]∧∃ lo,H.length≤lo∧OutAt lo H' w (outR p old now delta)) z7b rfl rfl rfl (fun F hF=>by
  simp [z7b,z7m,AV.rowok,ca,cb,cc,hcb]
  by_cases hok:z46 p=true
  ·have hO:=(zv3 p).1 hok
   obtain ⟨f1,f2⟩:=zmn p old now delta ha hO (hW hok)
   have hN:okN p=0:=by simp [okN,hok]
   have hfit:=zi21 hO
   simp only [bindO,hok,if_true] at hw0
   simp [hN]
   refine zv21 (fl:=false) (a:=a) (b:=b) hC hfit.len hw0 f1 (fun x hx cc hcc=>by rw [(f2 x hx).2]; exact hfit.col cc hcc) H _ (fun k _=>by simp) (by simp) (by simp) (by simp) (by simp) (by simp) (by simp) (fun s' hs1 hs2 hs3=>?_)
   simp [hs3]
   obtain ⟨lo,hlo,hOut⟩:=hs1
   refine hF _ _ ⟨_,by rw [hN],lo,hlo,?_⟩
   simp only [outR,hok,if_true,runR]
   exact hOut
  ·have hN:okN p=180:=by simp [okN,hok]
   simp [hN]
   exact hF _ _ ⟨_,by rw [hN],H.length,Nat.le_refl _, .inl ⟨by simp [outR,hok],rfl⟩⟩)
 have hcl:zj z7b.frz H.length (.tuple [w,i64 (okN p)]) H'=trunc H.length (.tuple [w,i64 (okN p)]) H':=rfl
 rw [hcl] at hcall
 unfold trunc at hcall
 split at hcall
 ·rename_i hc
  simp only [Bool.and_eq_true] at hc
  rcases hO with ⟨h1,h2⟩ | ⟨id,g,R,h1,h2,_⟩
  ·exact ⟨w,_,lo,hcall, .inl ⟨h1,h2⟩⟩
  ·rw [h2] at hc
   simp [AV.under,AV.unders] at hc
   omega
 ·exact ⟨w,H',lo,hcall,hO⟩
theorem z9z {p:Plan} {old now:List RelOf} {delta:List Tup} (ha:zs9 old now delta) (hW:z46 p=true→zgb old now delta p.steps≤2 ^ 20):((bindO p old now delta).length≤2 ^ 20∧∀ t∈bindO p old now delta,t.length < 2 ^ 40)∧(outR p old now delta).length≤2 ^ 20∧∀ c∈outR p old now delta,c.t.length < 2 ^ 40:=by
 unfold bindO outR
 by_cases hok:z46 p=true
 ·have hO:=(zv3 p).1 hok
  have hfit:=zi21 hO
  obtain ⟨f1,f2⟩:=zmn p old now delta ha hO (hW hok)
  simp only [hok,if_true]
  refine ⟨⟨f1,fun t ht=>by have:=(f2 t ht).1.len; omega⟩,?_,fun c hc=>?_⟩
  ·unfold runR
   exact (zbk (by simpa using f1)).1
  ·unfold runR zu4 at hc
   obtain ⟨t,ht,rfl⟩:=List.mem_map.1 hc
   obtain ⟨y,_,rfl⟩:=List.mem_map.1 (((zt4 _).2 t).1 ht)
   have:=hfit.len
   simp [headT]; omega
 ·simp [hok]
end Go.Abs.Plan
