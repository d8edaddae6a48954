/- Abs: the arguments of a call, read from the world that it begins in, of bounded bulk. -/
import Derived.Test.YtddpdpjpfgnhmaaGreatG35x
import Derived.Test.YtddpdpjpfgnhmaaGreatG18x
set_option linter.unusedSimpArgs false
set_option linter.unusedVariables false
set_option maxHeartbeats 4000000
namespace Go.Abs
open Go.RowKit Go.ChangeShapes Go.WideShapes Go.Deep
mutual
/-- No text, and no slice, is longer than N. -/
def AV.small (N:Nat):AV→Bool
 | .str s=>decide (s.size≤N)
 | .fsl _ rows=>decide (rows.length≤N) && AV.smalls N rows
 | .agg cs=>AV.smalls N cs
 | _=>true
def AV.smalls (N:Nat):List AV→Bool
 | []=>true
 | v::vs=>v.small N && AV.smalls N vs
end
theorem z0b {N:Nat}:∀ {l:List AV},AV.smalls N l=true↔∀ x∈l,x.small N=true
 | []=>by simp [AV.smalls]
 | a::l=>by simp [AV.smalls,z0b (l:=l)]
theorem z2w {N:Nat} {r:AV} (h:AV.smalls N r.cells=true):r.small N=true:=by
 cases r <;> first | rfl | (simpa [AV.cells,AV.smalls] using h) | (simpa [AV.cells,AV.small] using h)
theorem z3w {N:Nat} {r:AV} (h:r.small N=true):AV.smalls N r.cells=true:=by
 cases r <;> first | rfl | (simpa [AV.cells,AV.smalls] using h) | (simpa [AV.cells,AV.small] using h)
structure Bulky {H:Type} (bk:DataW H→Nat):Prop where
 str:∀ bytes,bytes.length + 1≤bk (.lit (.string bytes))
 sl:∀ elems spare,elems.length + 1≤bk (.slice elems spare)∧∀ d∈elems,bk d≤bk (.slice elems spare)
 ag:∀ parts,∀ d∈parts,bk d≤bk (.agg parts)
variable {H:Type} {enc:TypeId×Value→H} {P:Program} {w:World} {bk:DataW H→Nat} {N:Nat}
theorem z0h (hbk:Bulky bk):∀ (k fuel:Nat) (t:TypeId) (cs:List Value) (x:DataW H×List MemPlace),flatB P k t=true→DataW.trod enc P w 0 (fun _=>true) true fuel t cs=some x→bk x.1≤N →
 ∃ xs,Shape P t xs∧VRs (froz w) [] xs cs∧AV.smalls N xs=true
 | 0,fuel,t,cs,x,hk,h,hN=>by simp [flatB] at hk
 | k + 1,fuel,t,cs,x,hk,h,hN=>by
   simp only [flatB] at hk
   split at hk
   ·rename_i ht
    cases fuel with
    | zero=>simp [DataW.trod] at h
    | succ n=>
      unfold DataW.trod at h
      rw [ht] at h
      split at h <;> simp_all
      exact ⟨[.bool _], .bool ht _,VRs.cons (.bool _) .nil,rfl⟩
   ·rename_i ik ht
    cases fuel with
    | zero=>simp [DataW.trod] at h
    | succ n=>
      unfold DataW.trod at h
      rw [ht] at h
      split at h <;> simp_all
      exact ⟨[.int _ _], .int ht _ h.1.2,VRs.cons (.int _ _) .nil,rfl⟩
   ·rename_i ht
    cases fuel with
    | zero=>simp [DataW.trod] at h
    | succ n=>
      unfold DataW.trod at h
      rw [ht] at h
      split at h <;> simp_all
      obtain ⟨hs,rfl⟩:=h
      rename_i s0
      have h1:=hbk.str s0.data.toList
      have h2:s0.data.toList.length=s0.size:=by rw [Array.length_toList]; rfl
      simp only at hN
      exact ⟨[.str s0], .str ht _ hs,VRs.cons (.str _) .nil,by simp [AV.smalls,AV.small]; omega⟩
   ·rename_i e ht
    simp only [Bool.and_eq_true,decide_eq_true_eq] at hk
    rcases open_slice ht h with ⟨rfl,_⟩ | ⟨a,len,cap,m,n,D,Pl,rfl,_,hlc,hcm,hm,hxe,hx⟩
    ·exact ⟨[.fsl false []], .fsl ht [] (by simp) (fun r hr=>by simp at hr) (fun r hr=>by simp at hr),VRs.cons .fslNil .nil,by simp [AV.smalls,AV.small]⟩
    ·simp only [if_true] at hm
     subst hm
     by_cases hc0:m=0
     ·have:len=0:=by omega
      subst this; subst hc0
      exact ⟨[.fsl false []], .fsl ht [] (by simp) (fun r hr=>by simp at hr) (fun r hr=>by simp at hr),VRs.cons .fslNil .nil,by simp [AV.smalls,AV.small]⟩
     ·obtain ⟨cs0,h0,h0'⟩:=hx 0 (by omega)
      have hs:a.spot=none:=by
       obtain ⟨g1,g2⟩:=zro h0
       have:=g2 0 (by omega)
       rw [List.getElem?_eq_getElem (by omega)] at this
       have:=(z5s this).1
       simp only [Addr.add] at this
       split at this <;> simp_all
      obtain ⟨b,o,sp⟩:=a
      simp only at hs
      subst hs
      have hsl:=hbk.sl ((List.range len).map D) ((List.range (m - len)).map fun j=>D (len + j))
      rw [hxe] at hN
      simp only at hN
      have hlN:len + 1≤N:=by have:=hsl.1; simp at this; omega
      have hDN:∀ i,i < len→bk (D i)≤N:=fun i hi=>Nat.le_trans (hsl.2 (D i) (List.mem_map.2 ⟨i,by simpa using hi,rfl⟩)) hN
      obtain ⟨rows,hl,hrows⟩:=zbg (p:=fun i r=>Shape P e r.cells∧(if ((P.underlying e).map TypeDesc.isAgg)=some true then ∃ cs,r=AV.agg cs else r.isCell=true)∧AV.smalls N r.cells=true∧∃ cs',cs'.length=P.cellsOf e∧VRs (froz w) [] r.cells cs'∧∀ j,j < P.cellsOf e→fcell (froz w) false b (o + i * P.cellsOf e + j)=cs'[j]?) len (fun i hi=>by
       obtain ⟨cs',h1,h2⟩:=hx i (by omega)
       obtain ⟨xs,g1,g2,g3⟩:=z0h hbk k n e cs' _ hk.2 h2 (hDN i hi)
       obtain ⟨f1,f2⟩:=zro h1
       have hcell:∀ j,j < P.cellsOf e→fcell (froz w) false b (o + i * P.cellsOf e + j)=cs'[j]? := by
        intro j hj
        have:=f2 j hj
        rw [List.getElem?_eq_getElem (by omega)] at this ⊢
        have:=(z5s this).2
        have e1:((({ block:=b,off:=o }:Addr).add (i * P.cellsOf e)).add j)=⟨b,o + i * P.cellsOf e + j,none⟩:=by
         unfold Addr.add
         by_cases hi0:i * P.cellsOf e=0 <;> by_cases hj0:j=0 <;> simp [hi0,hj0]
        rw [e1] at this
        exact this
       by_cases hagg:((P.underlying e).map TypeDesc.isAgg)=some true
       ·exact ⟨.agg xs,g1,by rw [if_pos hagg]; exact ⟨xs,rfl⟩,g3,cs',f1,g2,hcell⟩
       ·-- one cell
        have:∃ x,xs=[x]:=by
         cases g1 with
         | bool _ b=>exact ⟨_,rfl⟩
         | int _ n _=>exact ⟨_,rfl⟩
         | str _ s _=>exact ⟨_,rfl⟩
         | fsl _ rows _ _ _=>exact ⟨_,rfl⟩
         | struct h _ _ _ _=>rw [h] at hagg; exact absurd rfl hagg
        obtain ⟨x,rfl⟩:=this
        have hxc:=g1.cell x (by simp)
        have hxx:x.cells=[x]:=by cases x <;> first | rfl | (simp [AV.isCell] at hxc; done)
        exact ⟨x,by rw [hxx]; exact g1,by rw [if_neg hagg]; exact hxc,by rw [hxx]; exact g3,cs',f1,by rw [hxx]; exact g2,hcell⟩)
      have hrow:∀ r∈rows,∃ i,rows[i]? = some r:=fun r hr=>List.mem_iff_getElem?.1 hr
      refine ⟨[.fsl false rows], .fsl ht rows (by omega) (fun r hr=>let ⟨i,hi⟩:=hrow r hr; (hrows i r hi).1) (fun r hr=>let ⟨i,hi⟩:=hrow r hr; (hrows i r hi).2.1),VRs.cons ?_ .nil,?_⟩
      rotate_left
      ·simp only [AV.smalls,AV.small,Bool.and_true,Bool.and_eq_true,decide_eq_true_eq]
       exact ⟨by omega,z0b.2 fun r hr=>let ⟨i,hi⟩:=hrow r hr; z2w (hrows i r hi).2.2.1⟩
      refine .fsl (sz:=P.cellsOf e) (fun i j=>(fcell (froz w) false b (o + i * P.cellsOf e + j)).getD undef) hl (fun r hr=>?_) (fun i r j y h1 h2=>?_) (fun i r j y h1 h2=>?_) hlc
      ·obtain ⟨i,hi⟩:=hrow r hr
       obtain ⟨g1,_,_,cs',f1,f2,_⟩:=hrows i r hi
       unfold AV.rowok
       rw [f2.1,f1]
       simp only [beq_self_eq_true,Bool.true_and,List.all_eq_true]
       exact g1.cell
      ·obtain ⟨g1,_,_,cs',f1,f2,f3⟩:=hrows i r h1
       have hj:j < P.cellsOf e:=by rw [← f1,← f2.1]; exact (List.getElem?_eq_some_iff.1 h2).1
       have:=f3 j hj
       rw [List.getElem?_eq_getElem (by omega)] at this
       rw [this]; rfl
      ·obtain ⟨g1,_,_,cs',f1,f2,f3⟩:=hrows i r h1
       have hj:j < P.cellsOf e:=by rw [← f1,← f2.1]; exact (List.getElem?_eq_some_iff.1 h2).1
       have:=f3 j hj
       rw [List.getElem?_eq_getElem (by omega)] at this
       rw [this]
       exact f2.2 j y _ h2 (List.getElem?_eq_getElem (by omega))
   ·rename_i fs ht
    simp only [Bool.and_eq_true,beq_iff_eq,List.all_eq_true] at hk
    obtain ⟨ys,n,rfl,rfl,hlen,hyl,hy⟩:=DataW.trod_struct ht h
    have hcut:=zqo cs hk.1 hlen
    simp only [List.drop_zero] at hcut
    obtain ⟨xss,h1,h2⟩:=zbg (p:=fun i xs=>∀ f,fs[i]? = some f→Shape P f.type xs∧VRs (froz w) [] xs ((cs.drop f.offset).take (P.cellsOf f.type))∧AV.smalls N xs=true) fs.size (fun i hi=>by
     have hf:fs[i]? = some fs[i]:=Array.getElem?_eq_getElem hi
     have:=hy i fs[i] hf
     rw [List.getElem?_eq_getElem (by omega)] at this
     have hb:=hbk.ag (ys.map (·.1)) (ys[i]'(by omega)).1 (List.mem_map.2 ⟨_,List.getElem_mem _,rfl⟩)
     obtain ⟨xs,g1,g2,g3⟩:=z0h hbk k n _ _ _ (hk.2 fs[i] (by simp)) this (Nat.le_trans hb hN)
     exact ⟨xs,fun f hf'=>by rw [hf] at hf'; cases hf'; exact ⟨g1,g2,g3⟩⟩)
    refine ⟨xss.flatten, .struct ht xss rfl h1 (fun i f ys hf hys=>(h2 i ys hys f hf).1),?_,?_⟩
    rotate_left
    ·refine z0b.2 fun x hx=>?_
     obtain ⟨ys',hy1,hy2⟩:=List.mem_flatten.1 hx
     obtain ⟨i,hi⟩:=List.mem_iff_getElem?.1 hy1
     have hlt:=(List.getElem?_eq_some_iff.1 hi).1
     exact z0b.1 (h2 i ys' hi _ (Array.getElem?_eq_getElem (by omega))).2.2 x hy2
    rw [hcut]
    refine VRs.flatten (by simp [h1]) (fun i xs vs g1 g2=>?_)
    simp only [List.getElem?_map,Option.map_eq_some_iff] at g2
    obtain ⟨f,hf,rfl⟩:=g2
    exact (h2 i xs g1 f (by simpa using hf)).2.1
   ·simp at hk
theorem zyt (hbk:Bulky bk) {k:Nat} {t:TypeId} {v:Value} {d:DataW H} {ps:List MemPlace} {base:Nat} (hk:flatB P k t=true) (hok:Value.okWide P w .any base t v) (h:DataW.Trod enc P w 0 (fun _=>true) true t v d ps) (hN:bk d≤N) :
 ∃ x,zgl P t x∧VR (froz w) [] x v∧x.small N=true:=by
 obtain ⟨fuel,h⟩:=h
 obtain ⟨xs,h1,h2,h3⟩:=z0h hbk k fuel t _ _ hk h hN
 by_cases hagg:((P.underlying t).map TypeDesc.isAgg)=some true
 ·have:∃ cs,v=.agg cs:=by
   unfold Value.okWide at hok
   split at hok
   ·obtain ⟨cs,h,_⟩:=hok; exact ⟨cs,h⟩
   ·obtain ⟨cs,h,_⟩:=hok; exact ⟨cs,h⟩
   ·rename_i n1 n2
    cases hu:P.underlying t with
    | none=>rw [hu] at hagg; simp at hagg
    | some d=>cases d <;> rw [hu] at hagg <;> simp [TypeDesc.isAgg] at hagg <;> first | exact absurd hu (n1 _) | exact absurd hu (n2 _ _)
  obtain ⟨cs,rfl⟩:=this
  refine ⟨.agg xs,⟨h1,by rw [if_pos hagg]; exact ⟨xs,rfl⟩⟩,?_,h3⟩
  have:=VR.agg (φ:=froz w) (μ:=[]) h2.1 h2.2
  simpa [Value.cells] using this
 ·have hx:∃ x,xs=[x]:=by
   cases h1 with
   | bool _ b=>exact ⟨_,rfl⟩
   | int _ n _=>exact ⟨_,rfl⟩
   | str _ s _=>exact ⟨_,rfl⟩
   | fsl _ rows _ _ _=>exact ⟨_,rfl⟩
   | struct h _ _ _ _=>rw [h] at hagg; exact absurd rfl hagg
  obtain ⟨x,rfl⟩:=hx
  have hxc:=h1.cell x (by simp)
  have hxx:x.cells=[x]:=by cases x <;> first | rfl | (simp [AV.isCell] at hxc; done)
  have hv:v.cells.toList=[v]:=by
   cases v <;> first | rfl | skip
   exfalso
   rename_i cells
   have hcell:Cell.okWide P w .any base t (.agg cells):=by
    unfold Value.okWide at hok
    split at hok
    ·rename_i hu; rw [hu] at hagg; exact absurd rfl hagg
    ·rename_i hu; rw [hu] at hagg; exact absurd rfl hagg
    ·exact hok
   cases h1 <;> rename_i hu <;> simp_all [Cell.okWide,Cell.ok]
  rw [hv] at h2
  exact ⟨x,⟨by rw [hxx]; exact h1,by rw [if_neg hagg]; exact hxc⟩,h2.2 0 x v rfl rfl,by simpa [AV.smalls] using h3⟩
variable {W:World}
theorem zli (hbk:Bulky bk) {k:Nat} {base:Nat}:∀ {ts:List TypeId} {vs:List Value} {ds:List (DataW H)} {ps:List MemPlace},(ts.all fun t=>flatB P k t)=true→(∀ (j:Nat) t v,ts[j]? = some t→vs[j]? = some v→Value.okWide P W .any base t v) →
 DataW.TrodAll enc P W 0 (fun _=>true) true ts vs ds ps→(∀ d∈ds,bk d≤N)→∃ xs,zhl P ts xs∧VRs (froz W) [] xs vs∧AV.smalls N xs=true
 | [],[],ds,ps,_,_,h,_=>⟨[], .nil,VRs.nil,rfl⟩
 | [],_::_,ds,ps,_,_,h,_=>by simp [DataW.TrodAll] at h
 | t::ts,[],ds,ps,_,_,h,_=>by cases ds <;> simp [DataW.TrodAll] at h
 | t::ts,v::vs,[],ps,_,_,h,_=>by simp [DataW.TrodAll] at h
 | t::ts,v::vs,d::ds,ps,hf,hv,h,hN=>by
   obtain ⟨p,q,h1,h2,_⟩:=h
   simp only [List.all_cons,Bool.and_eq_true] at hf
   obtain ⟨x,g1,g2,g5⟩:=zyt hbk hf.1 (hv 0 t v rfl rfl) h1 (hN d (by simp))
   obtain ⟨xs,g3,g4,g6⟩:=zli hbk hf.2 (fun j t v e1 e2=>hv (j + 1) t v (by simpa using e1) (by simpa using e2)) h2 (fun d hd=>hN d (by simp [hd]))
   exact ⟨x::xs, .cons g1 g3,VRs.cons g2 g4,by simp [AV.smalls,g5,g6]⟩
def zcx (N:Nat) (P:Program) (tbl:FuncId→Option AFun) (f:FuncId) (ts:List TypeId):Prop:=
 ∀ xs,zhl P ts xs→AV.smalls N xs=true→∃ k H',callK tbl k (.func f [] []) xs []=some (.bool true,H')
theorem zhk (hbk:Bulky bk) {tbl:FuncId→Option AFun} (ht:TblOk P tbl) (hlaid:laidOutB P=true) {f:FuncId} {fn:Func} {s:ChangeSpec} (hvars:s.vars=[]) {tb:TypeId} (hres:fn.resultTypes=#[tb]) (htb:P.underlying tb=some .bool) {k:Nat}
 (hflat:(fn.params.toList.all fun t=>flatB P k t)=true) (hpar:(fn.params.toList.all fun t=>P.readableRec t && decide (t < P.types.size))=true)
 (hfn:∀ ds:List (DataW H),ds.length=fn.params.toList.length→(s.fn H ds).results=[.lit (.bool true)]∧(s.fn H ds).args=ds∧(s.fn H ds).vars=[])
 (hlaw:zcx N P tbl f fn.params.toList) {base:Nat} {args:Array Value} {ds gs:List (DataW H)} {before:List MemPlace}
 (hval:∀ (j:Nat) t v,fn.params[j]? = some t→args[j]? = some v→Value.okWide P W .any base t v)
 (hW:DataW.Whole enc P fn.params.toList s.vars false W args.toList ds gs before) (hN:∀ d∈ds,bk d≤N) :
 Calls P f args W fun e W'=>∃ v,e=.returned v∧s.post enc P fn false true false false W args v W':=by
 have hW0:=hW
 have hlt:=hW.lt
 obtain ⟨p,q,hA,hV,rfl,hfz,hnd⟩:=hW
 rw [hvars] at hV
 have hgs:gs=[]∧q=[]:=by
  cases gs with
  | nil=>exact ⟨rfl,hV⟩
  | cons _ _=>exact hV.elim
 obtain ⟨rfl,rfl⟩:=hgs
 obtain ⟨xs,hx,hvr,hsm⟩:=zli hbk hflat (fun j t v e1 e2=>hval j t v (by simpa using e1) (by simpa using e2)) hA hN
 obtain ⟨k,H',hk⟩:=hlaw xs hx hsm
 have hlen:∀ {ts:List TypeId} {vs:List Value} {ds:List (DataW H)} {ps:List MemPlace},DataW.TrodAll enc P W 0 (fun _=>true) true ts vs ds ps→ds.length=ts.length:=by
  intro ts
  induction ts with
  | nil=>intro vs ds ps h; cases vs <;> cases ds <;> simp [DataW.TrodAll] at h ⊢
  | cons t ts ih=>
    intro vs ds ps h
    cases vs <;> cases ds <;> simp only [DataW.TrodAll] at h
    obtain ⟨_,_,_,h2,_⟩:=h
    simp [ih h2]
 obtain ⟨s1,s2,s3⟩:=hfn ds (hlen hA)
 refine (zmu ht hk (φ:=froz W) (fun _ b o h=>h) (fun b o h=>h) hvr).mono ?_
 rintro e W' ⟨v,rfl,hb,φ',μ',hv⟩
 cases hv
 refine ⟨.bool true,rfl,ds,[],p++[],[],p,[],hW0,?_,?_,?_,?_,fun h=>by simp at h⟩
 ·rw [hres,List.append_nil,s1]
  exact trodAll_mk1 (shut_bool htb _)
 ·rw [List.append_nil,s2]
  exact zch hlaid hb hpar hA (fun x hx=>hlt x (by simp [hx]))
 ·rw [hvars,List.append_nil,s3]; rfl
 ·exact hb.frame _
end Go.Abs
