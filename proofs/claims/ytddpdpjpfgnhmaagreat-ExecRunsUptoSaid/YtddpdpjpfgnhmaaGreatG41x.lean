/- Exec: which rows turned, by definition; the law. -/
import Derived.Test.YtddpdpjpfgnhmaaGreatG38x
import Derived.Test.YtddpdpjpfgnhmaaGreatG40x
set_option linter.unusedSimpArgs false
set_option linter.unusedVariables false
set_option maxHeartbeats 4000000
namespace Go.Abs
theorem zm51 {tbl:FuncId→Option AFun} {f:FuncId} {g:List AV→Option AV} {args:List AV} {r:AV} {H:Heap} (ht:tbl f=some (.law g)) (hpl:AV.plains args=true) (hg:g args=some r):callW tbl (.func f [] []) args H=some (r,H):=
 zj4.2 ⟨1,by simp [callK,z15,ht,hpl,hg]⟩
end Go.Abs
namespace Go.Abs.Plan
open Enc (Is)
def zki (rel:List Tup):List Tup:=(rel.take 10).map fun t=>t.take 9
theorem zrk:z2e=(SS (SS (RR [mV 6 4,mV 7 0,lN 8 7,uu 9 (.bin .lss .no (tt 6) (tt 8)),mV 10 9,gV 11 4 10 true,ug 12 (.bin .lss .no (tt 11) (ii 10)) 10 true,kk 13 (.pick (tt 10) (tt 12) (.const (.bool false)))])
 (.cond (tt 13) .skip (.exit 0)))
 (SS (.block 1 (SS (RR [mV 16 0,mV 17 4,iX 18 1 16 17,lD 19 18,kM 5 19])
 (SS (SS (RR [mV 20 5,lN 21 20,kk 22 (.bin .gtr .no (tt 21) (ii 9))])
 (.cond (tt 22) (RR [mV 23 5,uu 24 (.slice 3 (tt 23) none (some (ii 9))),kM 5 24]) .skip))
 (RR [mV 25 3,mV 26 5,uu 27 (.buildSliceF .nilsl 1 [(0,(tt 26))]),uu 28 (.append 1 24 (tt 25) (tt 27)),kM 3 28]))))
 (RR [mV 14 4,iC 15 14,kM 4 15]))):=rfl
theorem slice9 {t:Tup} {r:AV} (hr:Is r t) (h:9 < t.length):∃ r',zij 3 none (some (.int .i64 9)) r=some r'∧Is r' (t.take 9):=by
 rcases IsL.cases hr with ⟨rfl,rfl⟩ | ⟨fl,rows,rfl,hrows⟩
 ·simp at h
 ·have hrl:=hrows.length
  have b1:=zgi (len:=rows.length) (a:=9) rows.length (by omega)
  have:=zey (sz:=3) (fl:=fl) (lo:=none) (l:=0) hrows rfl (by omega) b1 rfl
  refine ⟨.fsl fl (rows.take 9),by simpa using this,IsL.fsl (hrows.take 9)⟩
theorem zy21 (rel:List Tup) (w:AV) (hw:Is w rel) (hr:rel.length≤2 ^ 20):∃ r,zy (callW tbl) loopW zd6 [w]=some r∧Is r (zki rel):=by
 have hlw:=IsL.len hw
 refine pureK zd6 rfl (fun F hF=>?_)
 simp [zd6,zph]
 refine zg (fun n s=>∃ (i:Nat) (u:AV) (rows:List AV),i + n=rel.length∧i≤10∧Acc [] 1 u s.heap rows∧All2 Is rows ((rel.take i).map fun t=>t.take 9)∧s.dfr=[]∧s.tm.get 0=w∧s.tm.get 3=u∧s.tm.get 4=i64 i) rel.length
  ⟨0, .nilsl,[],by omega,by omega,Acc.nil,by simp; exact .nil,by simp,by simp,by simp,by simp⟩ ?_
 rintro n s Q ⟨i,u,rows,h0,hi10,hacc,hrows,q2,f0,f3,f4⟩ hgo hx
 have hwi:IntKind.i64.wrap ((i:Int) + 1)=((i + 1:Nat):Int):=z61 (by omega) (by omega)
 have hrl:=hrows.length
 by_cases hi:i < rel.length∧i < 10
 ·obtain ⟨hi,hi9⟩:=hi
  have hii:(i:Int) < (rel.length:Int):=by omega
  have hij:(i:Int) < 10:=by omega
  have hgi:=List.getElem?_eq_getElem hi
  have htk:rel.take (i + 1)=rel.take i++[rel[i]]:=by rw [List.take_add_one,hgi]; rfl
  obtain ⟨fl,r,hr0,hidx⟩:=IsL.idx hw hgi
  simp only [show Enc.sz Tup=1 from rfl] at hidx
  have hcr:=zb hr0
  have hlr:=IsL.len hr0
  have hbound:(rows.length + 1) * 24≤140737488355328:=by
   have:rows.length≤2 ^ 20:=by rw [hrl]; simp; omega
   omega
  by_cases h9:9 < rel[i].length
  ·have h9i:(9:Int) < (rel[i].length:Int):=by omega
   obtain ⟨r',hsl,hr'⟩:=slice9 hr0 h9
   have hcy:=zb hr'
   have hry:=Enc.row hr'
   simp only [show Enc.sz Tup=1 from rfl] at hry
   obtain ⟨u',Hs',hacc',hstep⟩:=Acc.one (call:=callW tbl) (lp:=loopW) (bytes:=24) (fl:=false) hacc hry hbound
   have hnsl:∀ id g o n,r≠.sl id g o n:=fun id g o n h=>by
    subst h; have:=Enc.plain hr0; cases this
   rcases IsL.cases hr0 with ⟨rfl,h⟩ | ⟨fl2,rr,rfl,_⟩
   ·rw [h] at h9; simp at h9
   ·simp [zrk,f0,f3,f4,hlw,hii,hij,hidx,hcr,hlr,h9i,hsl,hcy,hry,zr,hstep]
    exact hgo _ (n - 1) (by omega) ⟨i + 1,u',rows++[r'],by omega,by omega,by simpa using hacc',by
     rw [htk,List.map_append]; exact hrows.append (.cons hr' .nil),by simp [q2],by simp [f0],by simp,by simp [hwi]⟩
  ·have h9i:¬ (9:Int) < (rel[i].length:Int):=by omega
   have ht9:rel[i].take 9=rel[i]:=List.take_of_length_le (by omega)
   have hry:=Enc.row hr0
   simp only [show Enc.sz Tup=1 from rfl] at hry
   obtain ⟨u',Hs',hacc',hstep⟩:=Acc.one (call:=callW tbl) (lp:=loopW) (bytes:=24) (fl:=false) hacc hry hbound
   simp [zrk,f0,f3,f4,hlw,hii,hij,hidx,hcr,hlr,h9i,hry,zr,hstep]
   exact hgo _ (n - 1) (by omega) ⟨i + 1,u',rows++[r],by omega,by omega,by simpa using hacc',by
    rw [htk,List.map_append]; exact hrows.append (.cons (show Is r (rel[i].take 9) by rw [ht9]; exact hr0) .nil),by simp [q2],by simp [f0],by simp,by simp [hwi]⟩
 ·have htk:(rel.take i).map (fun t=>t.take 9)=zki rel:=by
   unfold zki
   congr 1
   by_cases h:i < rel.length
   ·have:i=10:=by omega
    rw [this]
   ·rw [List.take_of_length_le (by omega),List.take_of_length_le (by omega)]
  rw [htk] at hrows
  obtain ⟨r,hre,hrs,_⟩:=hacc.reify hrows
  by_cases hi1:(i:Int) < (rel.length:Int)
  ·have hij:¬ (i:Int) < 10:=by omega
   simp [zrk,f0,f4,hlw,hi1,hij]
   refine hx _ _ (by simp) ?_
   simp [q2,f3]
   exact hF _ _ _ hre hrs
  ·simp [zrk,f0,f4,hlw,hi1]
   refine hx _ _ (by simp) ?_
   simp [q2,f3]
   exact hF _ _ _ hre hrs
theorem zyp (rel:List Tup) (v:AV) (hv:Is v rel) (hr:rel.length≤2 ^ 20) (H:Heap):∃ r,callW tbl (.func zca [] []) [v] H=some (r,H)∧Is r (zki rel):=
 z76 (tbl:=tbl) (f:=zca) (af:=zd6) rfl rfl (R:=fun y=>∃ v,y=[v]∧Is v rel) (S:=fun r=>Is r (zki rel))
  (by rintro _ ⟨v,rfl,h1⟩; simp [AV.plains,Enc.plain h1]) (by rintro _ ⟨v,rfl,h1⟩; exact ⟨v.lend,rfl,Enc.lend h1⟩)
  (fun r h=>Enc.lend h) (by rintro _ ⟨v,rfl,h1⟩; exact zy21 rel v h1 hr) _ H ⟨v,rfl,hv⟩
end Go.Abs.Plan
namespace Go.Abs.Plan
open Enc (Is)
theorem zxt {rel:List Tup} (h:∀ t∈rel,TupOk t):z6e (zki rel):=by
 refine ⟨by simp [zki]; omega,fun t ht=>?_⟩
 obtain ⟨y,hy,rfl⟩:=List.mem_map.1 ht
 obtain ⟨h1,h2⟩:=h y (List.mem_of_mem_take hy)
 exact ⟨by simp; omega,fun v hv=>h2 v (List.mem_of_mem_take hv)⟩
end Go.Abs.Plan
namespace Go.Abs.Plan
open Enc (Is)
def zck (r:RelOf):RelOf:=⟨r.name,zki r.rel⟩
def cutR (l:List RelOf):List RelOf:=(l.take 8).map zck
theorem zz21 {l:List RelOf} (h:zk6 l):zk6 (cutR l):=by
 refine ⟨by simp [cutR]; omega,fun r hr=>?_⟩
 obtain ⟨y,hy,rfl⟩:=List.mem_map.1 hr
 exact zxt (h.rel y (List.mem_of_mem_take hy)).2
def SlF {α:Type} [Enc α] (H:Heap) (w:AV) (xs:List α):Prop:=(w=.nilsl∧xs=[])∨∃ id g rows,w=.sl id g 0 xs.length∧H[id]? = some (.arr g (Enc.sz α) rows)∧All2 Is rows xs
theorem SlF.reify {α:Type} [Enc α] {H:Heap} {w:AV} {xs:List α} (h:SlF H w xs):∃ v,Go.Abs.reify H zw w=some v∧Is v xs:=by
 rcases h with ⟨rfl,rfl⟩ | ⟨id,g,rows,rfl,h2,h3⟩
 ·exact ⟨.nilsl,z6 rfl,IsL.nil⟩
 ·exact ⟨_,zd5 h2 (by have:=h3.length; omega) (by have:=h3.length; simp [List.take_of_length_le,← this]) h3,IsL.fsl h3⟩
theorem z981 (l:List RelOf) (w:AV) (hw:Is w l) (hl:zk6 l):∃ r,zy (callW tbl) loopW z09 [w]=some r∧Is r (cutR l):=by
 have hlw:=IsL.len hw
 have hlen:=hl.len
 refine pureK z09 rfl (fun F hF=>?_)
 simp [z09,z6m]
 refine zg (fun n s=>∃ (i:Nat) (u:AV),i + n=l.length∧i≤8∧SlF s.heap u ((l.take i).map zck)∧s.dfr=[]∧s.tm.get 0=w∧s.tm.get 3=u∧s.tm.get 4=i64 i) l.length
  ⟨0, .nilsl,by omega,by omega, .inl ⟨rfl,rfl⟩,by simp,by simp,by simp,by simp⟩ ?_
 rintro n s Q ⟨i,u,h0,hi10,hsl,q2,f0,f3,f4⟩ hgo hx
 have hwi:IntKind.i64.wrap ((i:Int) + 1)=((i + 1:Nat):Int):=z61 (by omega) (by omega)
 by_cases hi:i < l.length∧i < 8
 ·obtain ⟨hi,hi9⟩:=hi
  have hii:(i:Int) < (l.length:Int):=by omega
  have hij:(i:Int) < 8:=by omega
  have hgi:=List.getElem?_eq_getElem hi
  have htk:(l.take (i + 1)).map zck=(l.take i).map zck++[zck l[i]]:=by rw [List.take_add_one,hgi,List.map_append]; rfl
  have hrok:=hl.rel _ (List.getElem_mem hi)
  obtain ⟨fl,r,⟨a,ha,rfl⟩,hidx⟩:=IsL.idx hw hgi
  simp only [show Enc.sz RelOf=2 from rfl] at hidx
  have hca:=zb ha
  obtain ⟨ra,hsh,hra⟩:=zyp (l[i]).rel a ha hrok.1 (s.heap++[.dead 0, .dead 0])
  have hcr:=zb hra
  have hone:Is (AV.agg [.str (l[i]).name,ra]) (zck l[i]):=⟨ra,hra,rfl⟩
  generalize zck l[i]=y at *
  generalize l[i]=z at *
  have hrow:AV.rowok 2 (.agg [.str z.name,ra])=true:=by simp [AV.rowok,hcr.1]
  have hs1:zw3 1 0 1 (.arr 1 2 [.agg [.str z.name,ra]])=some [.agg [.str z.name,ra]]:=rfl
  rcases hsl with ⟨rfl,hnil⟩ | ⟨id,g,rows,rfl,hb,hrows⟩
  ·simp [zx6,f0,f3,f4,hlw,hii,hij,hidx,hca,hcr,hsh,AV.rowok,hrow,hs1,zr,z8,z26,splice,zz,zh1,zg3,room,hwi]
   refine hgo _ (n - 1) (by omega) ⟨i + 1, .sl (s.heap.length + 1) 1 0 1,by omega,by omega, .inr ⟨s.heap.length + 1,1,[.agg [.str z.name,ra]],?_,?_,by rw [htk,hnil]; exact .cons hone .nil⟩,by simp [q2],by simp [f0],by simp,by simp⟩
   ·rw [htk,hnil]; rfl
   ·rw [List.getElem?_append_right (by omega)]; simp; rfl
  ·have hrl:=hrows.length
   simp only [show Enc.sz RelOf=2 from rfl] at hb
   simp only [List.length_map,List.length_take] at hrl
   have hile:i≤rows.length:=by omega
   have kb:=ze1 hb
   have nb:=lt_of hb
   have hsl1:min i l.length=i:=by omega
   have hno2:¬ (i + 1≤rows.length):=by omega
   have hroom:(i + 1) * 40≤140737488355328:=by omega
   simp [zx6,f0,f3,f4,hlw,hii,hij,hidx,hca,hcr,hsh,AV.rowok,hrow,hs1,kb,nb,hsl1,hno2,hile,hroom,zr,z8,z26,splice,zz,zh1,zi1,room,hwi]
   refine ⟨by omega,hgo _ (n - 1) (by omega) ⟨i + 1, .sl id (g + 1) 0 (i + 1),by omega,by omega, .inr ⟨id,g + 1,rows++[.agg [.str z.name,ra]],?_,?_,by rw [htk]; exact hrows.append (.cons hone .nil)⟩,by simp [q2],by simp [f0],by simp,by simp⟩⟩
   ·rw [htk]; simp [hsl1]
   ·rw [List.getElem?_append_left (by simpa using nb),List.getElem?_set_self nb,List.take_of_length_le (by omega)]; rfl
 ·have htk:(l.take i).map zck=cutR l:=by
   unfold cutR
   congr 1
   by_cases h:i < l.length
   ·have:i=8:=by omega
    rw [this]
   ·rw [List.take_of_length_le (by omega),List.take_of_length_le (by omega)]
  rw [htk] at hsl
  obtain ⟨r,hre,hrs⟩:=hsl.reify
  by_cases hi1:(i:Int) < (l.length:Int)
  ·have hij:¬ (i:Int) < 8:=by omega
   simp [zx6,f0,f4,hlw,hi1,hij]
   refine hx _ _ (by simp) ?_
   simp [q2,f3]
   exact hF _ _ _ hre hrs
  ·simp [zx6,f0,f4,hlw,hi1]
   refine hx _ _ (by simp) ?_
   simp [q2,f3]
   exact hF _ _ _ hre hrs
theorem zbx (l:List RelOf) (v:AV) (hv:Is v l) (hl:zk6 l) (H:Heap):∃ r,callW tbl (.func zad [] []) [v] H=some (r,H)∧Is r (cutR l):=
 z76 (tbl:=tbl) (f:=zad) (af:=z09) rfl rfl (R:=fun y=>∃ v,y=[v]∧Is v l) (S:=fun r=>Is r (cutR l))
  (by rintro _ ⟨v,rfl,h1⟩; simp [AV.plains,Enc.plain h1]) (by rintro _ ⟨v,rfl,h1⟩; exact ⟨v.lend,rfl,Enc.lend h1⟩)
  (fun r h=>Enc.lend h) (by rintro _ ⟨v,rfl,h1⟩; exact z981 l v h1 hl) _ H ⟨v,rfl,hv⟩
def zaa (old now:List RelOf) (d:Nat) (s:Step):Nat:=if s.op=1 then max (ofL now s.pred).length (ofL old s.pred).length else if s.op=4 then d else 1
def z56 (old now:List RelOf) (d:Nat):List Step→Nat
 | []=>1
 | s::ss=>max 1 (zaa old now d s) * z56 old now d ss
theorem znn (old now:List RelOf) (d:Nat):∀ (ss:List Step) (s:Step),z56 old now d (ss++[s])=z56 old now d ss * max 1 (zaa old now d s)
 | [],s=>by simp [z56]
 | x::ss,s=>by simp [z56,znn old now d ss s,Nat.mul_assoc]
theorem z031 {l:List RelOf} (h:zk6 l) (nm:ByteArray):(ofL l nm).length≤2 ^ 20:=by
 unfold ofL
 cases hf:l.find? fun r=>decide (r.name=nm) with
 | none=>simp
 | some r=>simpa using (h.rel r (List.mem_of_find?_eq_some hf)).1
theorem z131 {n B B':Nat} {f:Bool} {s:Step} (h:z05 n B f s=some B'):s.op=1∨s.op=2∨s.op=3∨s.op=4:=by
 unfold z05 at h
 split at h
 ·exact .inr (.inr (.inl (by assumption)))
 ·split at h
  ·rename_i h1
   rcases h1.1 with h | h | h
   ·exact .inl h
   ·exact .inr (.inl h)
   ·exact .inr (.inr (.inr h.1))
  ·cases h
theorem zzv {old now:List RelOf} {delta:List Tup} {s:Step} (h:s.op=1∨s.op=2∨s.op=3∨s.op=4):stepW old now delta s≤max 1 (zaa old now delta.length s):=by
 unfold stepW zaa relT
 rcases h with h | h | h | h <;> simp only [h] <;> simp
 split <;> omega
theorem zdk {old now:List RelOf} {delta:List Tup}:∀ {ss:List Step},(∀ s∈ss,s.op=1∨s.op=2∨s.op=3∨s.op=4)→zgb old now delta ss≤z56 old now delta.length ss
 | [],_=>Nat.le_refl _
 | s::ss,h=>Nat.mul_le_mul (zzv (h s (by simp))) (zdk (fun x hx=>h x (by simp [hx])))
theorem zn51 {p:Plan} {old now:List RelOf} {delta:List Tup} (h:z56 old now delta.length p.steps≤3000) (hok:z46 p=true):zgb old now delta p.steps≤2 ^ 20:=by
 obtain ⟨B,B',hB1,hB2⟩:=((zv3 p).1 hok).ok
 have:=zdk (old:=old) (now:=now) (delta:=delta) (ss:=p.steps) (fun s hs=>by
  obtain ⟨B1,f1,B2,h1⟩:=zzd hB1 s hs
  exact z131 h1)
 omega
theorem z231 (a b m:Nat) (h:m=max a b):maxA [i64 (a:Int),i64 (b:Int)]=some (i64 (m:Int)):=by
 subst h
 simp only [maxA,maxF,if_true,Option.some.injEq,AV.int.injEq,true_and]
 split <;> omega
theorem z331 (p:Plan) (old now:List RelOf) (d:Nat) (vp vo vn:AV) (hp:Is vp p) (ho:Is vo old) (hn:Is vn now) (hs:p.steps.length≤2 ^ 20) (hro:zk6 old) (hrn:zk6 now) (hd:d≤2 ^ 20) :
 ∃ r,zy (callW tbl) loopW ze6 [vp,vo,vn,i64 d]=some r∧∃ b,r=.bool b∧(b=true→z56 old now d p.steps≤3000):=by
 obtain ⟨a,b,c,hA,hB,hC,rfl⟩:=hp
 have ca:=zb hA
 have cb:=zb hB
 have cc:=zb hC
 have hlb:=IsL.len hB
 refine pureK ze6 rfl (fun F hF=>?_)
 simp [ze6,zqh,AV.rowok,ca,cb,cc]
 refine zg (fun n s=>∃ (i:Nat),i + n=p.steps.length∧z56 old now d (p.steps.take i)≤3000∧s.dfr=[]∧s.tm.get 1=vo∧s.tm.get 2=vn∧s.tm.get 3=i64 d∧s.tm.get 4=.fptr false [a,b, .str p.pred,c] 0∧s.tm.get 9=i64 (z56 old now d (p.steps.take i))∧s.tm.get 10=i64 i) p.steps.length
  ⟨0,by omega,by simp [z56],by simp,by simp,by simp,by simp,by simp,by simp [z56],by simp⟩ ?_
 rintro n s Q ⟨i,h0,hw,q2,f1,f2,f3,f4,f9,f10⟩ hgo hx
 have hwi:IntKind.i64.wrap ((i:Int) + 1)=((i + 1:Nat):Int):=z61 (by omega) (by omega)
 by_cases hi:i < p.steps.length
 ·have hii:(i:Int) < (p.steps.length:Int):=by omega
  have hgi:=List.getElem?_eq_getElem hi
  have htk:z56 old now d (p.steps.take (i + 1))=z56 old now d (p.steps.take i) * max 1 (zaa old now d p.steps[i]):=by rw [List.take_add_one,hgi]; exact znn ..
  obtain ⟨fl,r,⟨cv,hcv,rfl⟩,hidx⟩:=IsL.idx hB hgi
  simp only [show Enc.sz Step=16 from rfl] at hidx
  have hccv:=zb hcv
  have hN:zaa old now d p.steps[i]≤2 ^ 20:=by
   unfold zaa
   have h1:=z031 hrn (p.steps[i]).pred
   have h2:=z031 hro (p.steps[i]).pred
   split
   ·omega
   ·split <;> omega
  have hmul:z56 old now d (p.steps.take i) * max 1 (zaa old now d p.steps[i])≤3000 * 2 ^ 20:=Nat.mul_le_mul hw (by omega)
  obtain ⟨m,hm⟩:∃ m,m=max 1 (zaa old now d p.steps[i]):=⟨_,rfl⟩
  rw [← hm] at htk hmul
  have hwm:IntKind.i64.wrap ((z56 old now d (p.steps.take i):Int) * (m:Int))=((z56 old now d (p.steps.take (i + 1)):Nat):Int):=by
   rw [htk,← Int.natCast_mul]
   exact z61 (by omega) (by omega)
  have hm1:∀ x,x=zaa old now d p.steps[i]→maxA [i64 1,i64 (x:Int)]=some (i64 (m:Int)):=fun x hx=>z231 1 x m (by rw [hx]; exact hm)
  obtain ⟨r1,c1,hr1⟩:=zqk now (p.steps[i]).pred vn hn (by have:=hrn.len; omega) s.heap
  obtain ⟨r2,c2,hr2⟩:=zqk old (p.steps[i]).pred vo ho (by have:=hro.len; omega) s.heap
  have l1:=IsL.len hr1
  have l2:=IsL.len hr2
  rw [← htk] at hmul
  have hW:=Nat.lt_or_ge 3000 (z56 old now d (p.steps.take (i + 1)))
  have hfalse:∀ s':St,s'.dfr=[]→s'.tm.get 8=.bool false→Q .ret s':=fun s' g1 g2=>by
   refine hx _ _ (by simp) ?_
   simp [g1,g2]
   exact hF _ _ _ (z6 rfl) ⟨false,rfl,by simp⟩
  have hnext:∀ s':St,z56 old now d (p.steps.take (i + 1))≤3000→s'.dfr=[]→s'.tm.get 1=vo→s'.tm.get 2=vn→s'.tm.get 3=i64 d→s'.tm.get 4=.fptr false [a,b, .str p.pred,c] 0→s'.tm.get 9=i64 (z56 old now d (p.steps.take (i + 1)))→s'.tm.get 10=i64 ((i + 1:Nat):Int)→Q .normal s':=fun s' g0 g1 g2 g3 g4 g5 g6 g7=>
   hgo s' (n - 1) (by omega) ⟨i + 1,by omega,g0,g1,g2,g3,g4,g5,g6,g7⟩
  generalize z56 old now d (p.steps.take (i + 1))=W at *
  have big:∀ h:3000 < W,((3000:Int) < (W:Int))=True∧((W:Int)≤3000)=False:=fun h=>⟨eq_true (by omega),eq_false (by omega)⟩
  have small:∀ h:W≤3000,((3000:Int) < (W:Int))=False∧((W:Int)≤3000)=True:=fun h=>⟨eq_false (by omega),eq_true (by omega)⟩
  have h40:((40:Int) < (i:Int))=True∨((40:Int) < (i:Int))=False:=by
   by_cases h:(40:Int) < (i:Int)
   ·exact .inl (eq_true h)
   ·exact .inr (eq_false h)
  by_cases o1:(p.steps[i]).op=1
  ·have hc:zaa old now d p.steps[i]=max (ofL now (p.steps[i]).pred).length (ofL old (p.steps[i]).pred).length:=by simp [zaa,o1]
   have hmm:=z231 _ _ _ hc
   have hm2:=hm1 _ rfl
   rcases hW with h | h
   ·obtain ⟨k1,k2⟩:=big h
    simp [zp1,f1,f2,f3,f4,f9,f10,hlb,cb,hii,hidx,o1,c1,c2,l1,l2,hccv,AV.rowok,hmm,hm2,hwm,k1,k2]
    exact hfalse _ (by simp [q2]) (by simp)
   ·obtain ⟨k1,k2⟩:=small h
    rcases h40 with k3 | k3
    ·simp [zp1,f1,f2,f3,f4,f9,f10,hlb,cb,hii,hidx,o1,c1,c2,l1,l2,hccv,AV.rowok,hmm,hm2,hwm,k1,k2,k3]
     exact hfalse _ (by simp [q2]) (by simp)
    ·simp [zp1,f1,f2,f3,f4,f9,f10,hlb,cb,hii,hidx,o1,c1,c2,l1,l2,hccv,AV.rowok,hmm,hm2,hwm,k1,k2,k3]
     exact hnext _ h (by simp [q2]) (by simp [f1]) (by simp [f2]) (by simp [f3]) (by simp [f4]) (by simp) (by simp [hwi])
  ·by_cases o4:(p.steps[i]).op=4
   ·have hc:zaa old now d p.steps[i]=d:=by simp [zaa,o4]
    have hm2:=hm1 _ hc.symm
    rcases hW with h | h
    ·obtain ⟨k1,k2⟩:=big h
     simp [zp1,f1,f2,f3,f4,f9,f10,hlb,cb,hii,hidx,o1,o4,hccv,AV.rowok,hwm,hm2,k1,k2]
     exact hfalse _ (by simp [q2]) (by simp)
    ·obtain ⟨k1,k2⟩:=small h
     rcases h40 with k3 | k3
     ·simp [zp1,f1,f2,f3,f4,f9,f10,hlb,cb,hii,hidx,o1,o4,hccv,AV.rowok,hwm,hm2,k1,k2,k3]
      exact hfalse _ (by simp [q2]) (by simp)
     ·simp [zp1,f1,f2,f3,f4,f9,f10,hlb,cb,hii,hidx,o1,o4,hccv,AV.rowok,hwm,hm2,k1,k2,k3]
      exact hnext _ h (by simp [q2]) (by simp [f1]) (by simp [f2]) (by simp [f3]) (by simp [f4]) (by simp) (by simp [hwi])
   ·have hc:zaa old now d p.steps[i]=1:=by simp [zaa,o1,o4]
    have hm2:maxA [i64 1,i64 1]=some (i64 (m:Int)):=by have:=hm1 1 hc.symm; simpa using this
    rcases hW with h | h
    ·obtain ⟨k1,k2⟩:=big h
     simp [zp1,f1,f2,f3,f4,f9,f10,hlb,cb,hii,hidx,o1,o4,hccv,AV.rowok,hwm,hm2,k1,k2]
     exact hfalse _ (by simp [q2]) (by simp)
    ·obtain ⟨k1,k2⟩:=small h
     rcases h40 with k3 | k3
     ·simp [zp1,f1,f2,f3,f4,f9,f10,hlb,cb,hii,hidx,o1,o4,hccv,AV.rowok,hwm,hm2,k1,k2,k3]
      exact hfalse _ (by simp [q2]) (by simp)
     ·simp [zp1,f1,f2,f3,f4,f9,f10,hlb,cb,hii,hidx,o1,o4,hccv,AV.rowok,hwm,hm2,k1,k2,k3]
      exact hnext _ h (by simp [q2]) (by simp [f1]) (by simp [f2]) (by simp [f3]) (by simp [f4]) (by simp) (by simp [hwi])
 ·have hii:¬ (i:Int) < (p.steps.length:Int):=by omega
  simp [zp1,f4,f10,hlb,cb,hii]
  refine hx _ _ (by simp) ?_
  simp [q2]
  rw [List.take_of_length_le (by omega)] at hw
  exact hF _ _ _ (z6 rfl) ⟨true,rfl,fun _=>hw⟩
end Go.Abs.Plan
namespace Go.Abs.Plan
open Enc (Is)
theorem z0w {α:Type} {A B:List α} (hl:A.length=B.length) (h:A.take A.length=B.take A.length):A=B:=by
 rw [List.take_length,hl,List.take_length] at h; exact h
theorem z431 (A B:List Counted) (v w:AV) (hv:Is v A) (hw:Is w B) (hA:A.length≤2 ^ 40) (htA:∀ c∈A,c.t.length < 2 ^ 40) (htB:∀ c∈B,c.t.length < 2 ^ 40):∃ r,zy (callW tbl) loopW zy5 [v,w]=some r∧r=.bool (decide (A=B)):=by
 have hlv:=IsL.len hv
 have hlw:=IsL.len hw
 refine pureK zy5 rfl (fun F hF=>?_)
 by_cases hl:A.length=B.length
 ·have hli:(A.length:Int)=(B.length:Int):=by omega
  simp [zy5,zve,hlv,hlw,hli]
  refine zg (fun n s=>∃ i,i + n=A.length∧A.take i=B.take i∧s.dfr=[]∧s.tm.get 0=v∧s.tm.get 1=w∧s.tm.get 5=i64 i) A.length ⟨0,by omega,by simp,by simp,by simp,by simp,by simp⟩ ?_
  rintro n s Q ⟨i,h0,he,q2,f0,f1,f5⟩ hgo hx
  have hwi:IntKind.i64.wrap ((i:Int) + 1)=((i + 1:Nat):Int):=z61 (by omega) (by omega)
  by_cases hi:i < A.length
  ·have hii:(i:Int) < (B.length:Int):=by omega
   have hiB:i < B.length:=by omega
   have hgA:=List.getElem?_eq_getElem hi
   have hgB:=List.getElem?_eq_getElem hiB
   obtain ⟨fl,r,⟨ta,hta,rfl⟩,hidx⟩:=IsL.idx hv hgA
   obtain ⟨fl2,r2,⟨tb,htb,rfl⟩,hidx2⟩:=IsL.idx hw hgB
   simp only [show Enc.sz Counted=2 from rfl] at hidx hidx2
   have hca:=zb hta
   have hcb:=zb htb
   have hcmp:=zzc (A[i]).t (B[i]).t ta tb hta htb (htA _ (List.getElem_mem hi)) (htB _ (List.getElem_mem hiB)) s.heap
   have hne:A[i]≠B[i]→¬ A=B:=fun h e=>by
    subst e; exact h rfl
   by_cases hn:(A[i]).n=(B[i]).n
   ·by_cases ht:(A[i]).t=(B[i]).t
    ·have h0':=(z8c _ _).2 ht
     have hEq:A[i]=B[i]:=by
      generalize A[i]=x at *
      generalize B[i]=y at *
      cases x; cases y; simp_all
     simp [zx5,f0,f1,f5,hlv,hlw,hli,hii,hidx,hidx2,hca,hcb,hn,hcmp,h0',AV.rowok,hwi]
     refine hgo _ (n - 1) (by omega) ⟨i + 1,by omega,by rw [List.take_add_one,List.take_add_one,he,hgA,hgB,hEq],by simp [q2],by simp [f0],by simp [f1],by simp [hwi]⟩
    ·have h0':¬ tcmp (A[i]).t (B[i]).t=0:=fun h=>ht ((z8c _ _).1 h)
     have hne2:A[i]≠B[i]:=fun e=>ht (by rw [e])
     simp [zx5,f0,f1,f5,hlv,hlw,hli,hii,hidx,hidx2,hca,hcb,hn,hcmp,h0',AV.rowok]
     refine hx _ _ (by simp) ?_
     simp [q2]
     exact hF _ _ _ (z6 rfl) (by simp [hne hne2])
   ·have hne2:A[i]≠B[i]:=fun e=>hn (by rw [e])
    simp [zx5,f0,f1,f5,hlv,hlw,hli,hii,hidx,hidx2,hca,hcb,hn,AV.rowok]
    refine hx _ _ (by simp) ?_
    simp [q2]
    exact hF _ _ _ (z6 rfl) (by simp [hne hne2])
  ·have hii:¬ (i:Int) < (B.length:Int):=by omega
   have hil:i=A.length:=by omega
   subst hil
   simp [zx5,f0,f5,hlv,hli,hii]
   refine hx _ _ (by simp) ?_
   simp [q2]
   exact hF _ _ _ (z6 rfl) (by simp [z0w hl he])
 ·have hli:¬ (A.length:Int)=(B.length:Int):=by omega
  simp [zy5,zve,hlv,hlw,hli]
  exact hF _ _ _ (z6 rfl) (by simp; intro e; subst e; exact hl rfl)
theorem z1w (A B:List Counted) (v w:AV) (H:Heap) {lo:Nat} (hv:Is v A) (hw:OutAt lo H w B) (hA:A.length≤2 ^ 40) (htA:∀ c∈A,c.t.length < 2 ^ 40) (htB:∀ c∈B,c.t.length < 2 ^ 40):callW tbl (.func zob [] []) [v,w] H=some (.bool (decide (A=B)),H):=by
 obtain ⟨w',hre,hw'⟩:∃ w',Go.Abs.reify H zw w=some w'∧Is w' B:=by
  rcases hw with ⟨rfl,rfl⟩ | ⟨id,g,R,h1,rfl,h3,h4,h5⟩
  ·exact ⟨.nilsl,z6 rfl,IsL.nil⟩
  ·exact ⟨_,zd5 h3 (by omega) (by simp) h5,IsL.fsl h5⟩
 obtain ⟨r,h,rfl⟩:=zwd (tbl:=tbl) (f:=zob) (af:=zy5) rfl rfl (R:=fun a=>∃ v w,a=[v,w]∧Is v A∧Is w B) (S:=fun r=>r=.bool (decide (A=B))) (by rintro _ ⟨v,w,rfl,h1,h2⟩; exact ⟨v.lend,w.lend,rfl,Enc.lend h1,Enc.lend h2⟩)
  (by rintro _ ⟨v,w,rfl,h1,h2⟩; obtain ⟨r,h1,rfl⟩:=z431 A B v w h1 h2 hA htA htB; exact ⟨_,h1,rfl,rfl⟩) [v,w] [v,w'] H (by simp [zx3,hre,z6 (Enc.plain hv)]) ⟨_,_,rfl,hv,hw'⟩
 exact h
end Go.Abs.Plan
