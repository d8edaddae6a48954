/- Abs 35: rows that grow by 'append'. -/
import Derived.Test.YtddpdpjpfgnhmaaGreatG23x
set_option linter.unusedSimpArgs false
set_option linter.unusedVariables false
set_option maxHeartbeats 4000000
namespace Go.Abs
variable {call:CallF} {lp:LoopF} {tbl:FuncId→Option AFun}
theorem zrl {sz bytes:Nat} {ids:List Nat} {src:List Blk→Option (List AV)}:zg5 sz bytes .nilsl 0 ids src=.val .nilsl:=rfl
theorem appendTo_0s {sz bytes a b c d:Nat} {ids:List Nat} {src:List Blk→Option (List AV)}:zg5 sz bytes (.sl a b c d) 0 ids src=.val (.sl a b c d):=rfl
theorem zg3 {sz bytes n:Nat} {ids:List Nat} {src:List Blk→Option (List AV)} (hn:n≠0):zg5 sz bytes .nilsl n ids src=if room n bytes then .nw ids fun bs id g=>match src bs with
 | some ys=>if ys.all (AV.rowok sz) then some (.sl id g 0 n, .arr g sz ys) else none
 | none=>none else .bad:=by unfold zg5; rw [if_neg hn]; rfl
theorem zi1 {sz bytes n id gen off len:Nat} {ids:List Nat} {src:List Blk→Option (List AV)} (hn:n≠0):zg5 sz bytes (.sl id gen off len) n ids src=if room (len + n) bytes then .md (id::ids) id fun
 | b::bs=>match b,src bs with
   | .arr g s rows,some ys=>
     if g=gen∧s=sz∧off + len≤rows.length∧ys.all (AV.rowok sz)=true then
      if off + len + n≤rows.length then some (.sl id gen off (len + n), .arr g sz (splice rows (off + len) ys))
      else some (.sl id (gen + 1) 0 (len + n), .arr (gen + 1) sz ((rows.drop off).take len++ys))
     else none
   | _,_=>none
 | _=>none else .bad:=by unfold zg5; rw [if_neg hn]; rfl
theorem z291 {sz bytes id gen off len:Nat} {x:AV}:zh1 sz bytes x (.sl id gen off len)=zg5 sz bytes x len [id] fun
 | [b]=>zw3 gen off len b
 | _=>none:=rfl
def Acc (H0:Heap) (sz:Nat) (v:AV) (Hs:Heap) (rows:List AV):Prop:=
 (rows=[]∧v=.nilsl∧Hs=H0)∨∃ g:Nat,rows≠[]∧v=.sl H0.length g 0 rows.length∧Hs=H0++[.arr g sz rows]
theorem Acc.nil {H0:Heap} {sz:Nat}:Acc H0 sz .nilsl H0 []:=.inl ⟨rfl,rfl,rfl⟩
theorem Acc.append {H0 Hs:Heap} {sz bytes:Nat} {v:AV} {rows ys:List AV} {fl:Bool} (h:Acc H0 sz v Hs rows) (hy:ys.all (AV.rowok sz)=true) (hb:(rows.length + ys.length) * bytes≤140737488355328) :
 ∃ v' Hs',Acc H0 sz v' Hs' (rows++ys)∧∀ (dst:Option Nat) (keep:Bool) (os:List AOper) (loc:List (Nat×AV)) (s:St) (ks:List KF) (R:AExit→St→Prop),s.heap=Hs →
   ACTK call lp (zh1 sz bytes v (.fsl fl ys)) dst keep os loc s ks R=ACTK call lp (.val v') dst keep os loc { s with heap:=Hs' } ks R:=by
 by_cases hn:ys=[]
 ·subst hn
  refine ⟨v,Hs,by simpa using h,fun dst keep os loc s ks R hs=>?_⟩
  subst hs
  rcases h with ⟨_,rfl,_⟩ | ⟨g,_,rfl,_⟩ <;> simp only [zh1,List.length_nil,zrl,appendTo_0s]
 ·have hn0:ys.length≠0:=fun e=>hn (List.length_eq_zero_iff.1 e)
  rcases h with ⟨rfl,rfl,rfl⟩ | ⟨g,hr,rfl,rfl⟩
  ·refine ⟨.sl Hs.length 0 0 ys.length,Hs++[.arr 0 sz ys], .inr ⟨0,by simpa using hn,by simp,by simp⟩,fun dst keep os loc s ks R hs=>?_⟩
   subst hs
   have hb':ys.length * bytes≤140737488355328:=by simpa using hb
   simp only [zh1,zg3 hn0,room,hb',decide_true,if_true,ztu,hy,zeq]
  ·refine ⟨.sl H0.length (g + 1) 0 (rows.length + ys.length),H0++[.arr (g + 1) sz (rows++ys)], .inr ⟨g + 1,by simp [hr],by simp,rfl⟩,fun dst keep os loc s ks R hs=>?_⟩
   have hlt:H0.length < s.heap.length:=by rw [hs]; simp
   have hh:hat s.heap H0.length=.arr g sz rows:=by rw [hs]; simp
   have hfit:¬ (0 + rows.length + ys.length≤rows.length):=by omega
   have hset:s.heap.set H0.length (.arr (g + 1) sz (rows++ys))=H0++[.arr (g + 1) sz (rows++ys)]:=by rw [hs,List.set_append_right _ _ (Nat.le_refl _)]; simp
   simp only [zh1,zi1 hn0,room,hb,decide_true,if_true,zdq,zql,hh,hy,Nat.zero_add,Nat.le_refl,and_self,List.drop_zero,List.take_length,zfh,hlt,true_and,hset]
   rw [if_neg (by simpa using hfit)]
   simp only [zfh,hlt,true_and,hset]
theorem Acc.one {H0 Hs:Heap} {sz bytes:Nat} {v r:AV} {rows:List AV} {fl:Bool} (h:Acc H0 sz v Hs rows) (hy:r.rowok sz=true) (hb:(rows.length + 1) * bytes≤140737488355328) :
 ∃ v' Hs',Acc H0 sz v' Hs' (rows++[r])∧∀ (dst:Option Nat) (keep:Bool) (os:List AOper) (loc:List (Nat×AV)) (s:St) (ks:List KF) (R:AExit→St→Prop),s.heap=Hs →
   ACTK call lp (zh1 sz bytes v (.fsl fl [r])) dst keep os loc s ks R=ACTK call lp (.val v') dst keep os loc { s with heap:=Hs' } ks R:=
 h.append (ys:=[r]) (by simp [hy]) hb
theorem Acc.set {H0 Hs:Heap} {sz:Nat} {v:AV} {rows:List AV} (h:Acc H0 sz v Hs rows) {b:Nat} (hb:b < H0.length) (X:Blk):Acc (H0.set b X) sz v (Hs.set b X) rows:=by
 rcases h with ⟨rfl,rfl,rfl⟩ | ⟨g,hr,rfl,rfl⟩
 ·exact .inl ⟨rfl,rfl,rfl⟩
 ·exact .inr ⟨g,hr,by simp,by rw [List.set_append_left _ _ hb]⟩
theorem Acc.get {H0 Hs:Heap} {sz:Nat} {v:AV} {rows:List AV} (h:Acc H0 sz v Hs rows) {b:Nat} (hb:b < H0.length):Hs[b]? = H0[b]? := by
 rcases h with ⟨rfl,rfl,rfl⟩ | ⟨g,hr,rfl,rfl⟩
 ·rfl
 ·rw [List.getElem?_append_left hb]
theorem Acc.length {H0 Hs:Heap} {sz:Nat} {v:AV} {rows:List AV} (h:Acc H0 sz v Hs rows):Hs.length=H0.length + (if rows=[] then 0 else 1):=by
 rcases h with ⟨rfl,rfl,rfl⟩ | ⟨g,hr,rfl,rfl⟩
 ·simp
 ·simp [hr]
theorem Acc.cell {H0 Hs:Heap} {sz:Nat} {v:AV} {rows:List AV} (h:Acc H0 sz v Hs rows):v.isCell=true∧v.cells=[v]∧v.rowok 1=true:=by
 rcases h with ⟨rfl,rfl,rfl⟩ | ⟨g,hr,rfl,rfl⟩ <;> exact ⟨rfl,rfl,rfl⟩
theorem Acc.over {H0 Hs:Heap} {sz n:Nat} {v:AV} {rows:List AV} (h:Acc H0 sz v Hs rows) (hr:rows≠[]) (hn:n≤H0.length):v.under n=false:=by
 rcases h with ⟨rfl,rfl,rfl⟩ | ⟨g,hr,rfl,rfl⟩
 ·exact absurd rfl hr
 ·simp [AV.under]; omega
theorem Acc.hok {H0 Hs:Heap} {sz:Nat} {v:AV} {rows:List AV} (h:Acc H0 sz v Hs rows) (hH:HOK H0) (hp:AV.plains rows=true):HOK Hs:=by
 rcases h with ⟨rfl,rfl,rfl⟩ | ⟨g,hr,rfl,rfl⟩
 ·exact hH
 ·exact hH.push (z31 _ hp)
theorem Acc.split {H0 Hs:Heap} {sz:Nat} {v:AV} {rows:List AV} (h:Acc H0 sz v Hs rows):∃ T,Hs=H0++T∧∀ {Hb:Heap},(∀ j,Hb[H0.length + j]? = T[j]?)→∀ {α:Type} [Enc α] {xs:List α},All2 Enc.Is rows xs→∃ r,(∀ k,reify Hb (k + 2) v=some r)∧Enc.Is r xs∧(AV.unlents rows=true→r.unlent=true):=by
 rcases h with ⟨rfl,rfl,rfl⟩ | ⟨g,hr,rfl,rfl⟩
 ·refine ⟨[],by simp,fun _ α _ xs hx=>⟨.nilsl,fun k=>zv5 rfl,?_⟩⟩
  cases hx; exact ⟨IsL.nil,fun _=>rfl⟩
 ·refine ⟨_,rfl,fun hb α _ xs hx=>⟨.fsl false rows,fun k=>zv8 (sz:=sz) (R:=rows) ?_ (by omega) (by simp) hx,IsL.fsl hx,fun h=>by simpa [AV.unlent] using h⟩⟩
  have:=hb 0
  simpa using this
theorem Acc.reifyK {H0 Hs:Heap} {sz:Nat} {v:AV} {rows:List AV} (h:Acc H0 sz v Hs rows) {α:Type} [Enc α] {xs:List α} (hx:All2 Enc.Is rows xs):∃ r,(∀ k,Go.Abs.reify Hs (k + 2) v=some r)∧Enc.Is r xs∧(AV.unlents rows=true→r.unlent=true):=by
 obtain ⟨T,rfl,hT⟩:=h.split
 exact hT (fun j=>by rw [List.getElem?_append_right (by omega)]; congr 1; omega) hx
theorem Acc.reify {H0 Hs:Heap} {sz:Nat} {v:AV} {rows:List AV} (h:Acc H0 sz v Hs rows) {α:Type} [Enc α] {xs:List α} (hx:All2 Enc.Is rows xs):∃ r,Go.Abs.reify Hs zw v=some r∧Enc.Is r xs∧(AV.unlents rows=true→r.unlent=true):=
 let ⟨r,h1,h2⟩:=h.reifyK hx
 ⟨r,h1 10,h2⟩
def idxA (sz:Nat) (x i:AV):Action:=match i with
 | .int _ j=>if 0≤j then match x with
   | .fsl k rows=>match rows[j.toNat]? with
     | some r=>if r.cells.length=sz then .val (.fptr k r.cells 0) else .bad
     | none=>.bad
   | .sl id gen off len=>.rd [id] fun
     | [.arr g s _]=>if g=gen∧j.toNat < len∧s=sz then some (.ptr id gen (off + j.toNat) 0) else none
     | _=>none
   | _=>.bad
   else .bad
 | _=>.bad
def lenA (x:AV):Action:=match x with
 | .nilsl=>.val (.int .i64 0)
 | .fsl _ rows=>.val (.int .i64 rows.length)
 | .sl _ _ _ n=>.val (.int .i64 n)
 | _=>.bad
@[simp high] theorem zu01 {ρ:AOperand→AV} {sz:Nat} {x i:AOperand}:actOf ρ (.indexAddr sz x i)=idxA sz (ρ x) (ρ i):=rfl
@[simp high] theorem zd71 {ρ:AOperand→AV} {x:AOperand}:actOf ρ (.len .slice x)=lenA (ρ x):=by
  simp only [actOf,lenA]
  cases ρ x <;> rfl
@[simp] theorem z3b1:lenA .nilsl=.val (.int .i64 0):=rfl
@[simp] theorem z4b1 {k:Bool} {rows:List AV}:lenA (.fsl k rows)=.val (.int .i64 rows.length):=rfl
@[simp] theorem z5b1 {a b c d:Nat}:lenA (.sl a b c d)=.val (.int .i64 d):=rfl
@[simp] theorem zow {sz:Nat} {k:Bool} {rows:List AV} {kk:IntKind} {j:Int}:idxA sz (.fsl k rows) (.int kk j)=if 0≤j then match rows[j.toNat]? with
 | some r=>if r.cells.length=sz then .val (.fptr k r.cells 0) else .bad
 | none=>.bad
 else .bad:=rfl
@[simp] theorem z6b1 {sz id gen off len:Nat} {kk:IntKind} {j:Int}:idxA sz (.sl id gen off len) (.int kk j)=if 0≤j then .rd [id] fun
 | [.arr g s _]=>if g=gen∧j.toNat < len∧s=sz then some (.ptr id gen (off + j.toNat) 0) else none
 | _=>none
 else .bad:=rfl
def View (H:Heap) (sz:Nat) (v:AV) (rows:List AV):Prop:=(∀ r∈rows,r.cells.length=sz) ∧
 ((v=.nilsl∧rows=[])∨(∃ fl,v=.fsl fl rows)∨∃ id g off len R,v=.sl id g off len∧H[id]? = some (.arr g sz R)∧(R.drop off).take len=rows∧off + len≤R.length)
theorem View.len {H:Heap} {sz:Nat} {v:AV} {rows:List AV} (h:View H sz v rows):lenA v=.val (.int .i64 rows.length):=by
 rcases h.2 with ⟨rfl,rfl⟩ | ⟨fl,rfl⟩ | ⟨id,g,off,len,R,rfl,h1,h2,h3⟩
 ·rfl
 ·rfl
 ·have:rows.length=len:=by rw [← h2]; simp; omega
  rw [this]; rfl
section
variable {α:Type} [Enc α]
theorem ze71 {rows:List AV} {xs:List α} (h:All2 Enc.Is rows xs):∀ r∈rows,r.cells.length=Enc.sz α:=fun r hr=>by
 obtain ⟨x,_,hx⟩:=h.left r hr
 exact z01 (Enc.row hx)
theorem IsL.view {v:AV} {xs:List α} (h:Enc.Is v xs) (H:Heap):∃ rows,All2 Enc.Is rows xs∧View H (Enc.sz α) v rows:=by
 rcases h.cases with ⟨rfl,rfl⟩ | ⟨fl,rows,rfl,hr⟩
 ·exact ⟨[], .nil,by simp, .inl ⟨rfl,rfl⟩⟩
 ·exact ⟨rows,hr,ze71 hr, .inr (.inl ⟨fl,rfl⟩)⟩
theorem IsL.len {v:AV} {xs:List α} (h:Enc.Is v xs):lenA v=.val (.int .i64 xs.length):=by
 obtain ⟨rows,h1,h2⟩:=IsL.view h []
 rw [h2.len,h1.length]
theorem IsL.idx {v:AV} {xs:List α} (h:Enc.Is v xs) {j:Nat} {x:α} (hj:xs[j]? = some x):∃ fl r,Enc.Is r x∧idxA (Enc.sz α) v (.int .i64 (j:Int))=.val (.fptr fl r.cells 0):=by
 rcases h.cases with ⟨rfl,rfl⟩ | ⟨fl,rows,rfl,hr⟩
 ·simp at hj
 ·obtain ⟨r,h1,h2⟩:=hr.get hj
  have h0:(0:Int)≤(j:Int):=by omega
  exact ⟨fl,r,h2,by simp only [zow,h0,if_true,Int.toNat_natCast,h1,z01 (Enc.row h2)]⟩
end
theorem z3v {H:Heap} {v v':AV} (h:v.plain=true) (hr:reify H zw v=some v'):v'=v:=by rw [z6 h] at hr; exact (Option.some.inj hr).symm
theorem zf71 {α:Type} [Enc α] {f:FuncId} {af:AFunc} (ht:tbl f=some (.code af)) (hp:af.pure=true) {S:AV→Prop} (x:α)
 (hrun:∀ v:AV,Enc.Is v x→∃ r,zy (callW tbl) loopW af [v]=some r∧S r∧r.unlent=true) (v v':AV) (H:Heap) (hre:reify H zw v=some v') (hv:Enc.Is v' x):∃ r,callW tbl (.func f [] []) [v] H=some (r,H)∧S r:=by
 cases hpl:v.plain with
 | true=>
   have:=z3v hpl hre
   subst this
   by_cases hu:AV.unlents [v']=true
   ·obtain ⟨r,h1,h2,h3⟩:=hrun v' hv
    have:=zc5 (tbl:=tbl) (first:=[]) (captured:=[]) (args:=[v']) (H:=H) (r:=r) ht hp (by simp [hpl]) (by simpa [hu] using h1)
    exact ⟨r,by rw [this]; simp [h3],h2⟩
   ·obtain ⟨r,h1,h2,h3⟩:=hrun v'.lend (Enc.lend hv)
    have:=zc5 (tbl:=tbl) (first:=[]) (captured:=[]) (args:=[v']) (H:=H) (r:=r) ht hp (by simp [hpl]) (by simpa [hu,AV.lends] using h1)
    exact ⟨r,by rw [this]; simp [h3],h2⟩
 | false=>
   obtain ⟨r,h1,h2,h3⟩:=hrun v'.lend (Enc.lend hv)
   exact ⟨r,zwo (args':=[v']) ht hp (by simp [hpl]) (by simp [zx3,hre]) (by simpa [AV.lends] using h1) h3,h2⟩
end Go.Abs
