/- Abs 26: what leads out of a call: read-out values, cut heaps, base worlds. -/
import Derived.Test.YtddpdpjpfgnhmaaGreatG14x
set_option linter.unusedSimpArgs false
set_option linter.unusedVariables false
set_option maxHeartbeats 4000000
namespace Go.Abs
open Go.RowKit
variable {CR:CRel} {P:Program} {W:BaseW} {w:World} {φ ψ:Frz} {μ ν:List Loc} {H H':Heap} {call:CallF}
theorem zr7 {f:AV→Option AV}:∀ {l r:List AV},zx3 f l=some r→r.length=l.length∧∀ (i:Nat) (x:AV),l[i]? = some x→∃ y,r[i]? = some y∧f x=some y
 | [],r,h=>by simp only [zx3,Option.some.injEq] at h; subst h; exact ⟨rfl,fun i x h=>by simp at h⟩
 | a::l,r,h=>by
   simp only [zx3] at h
   split at h
   ·rename_i v' vs' h1 h2
    simp only [Option.some.injEq] at h; subst h
    obtain ⟨e1,e2⟩:=zr7 h2
    refine ⟨by simp [e1],fun i x hx=>?_⟩
    cases i with
    | zero=>simp at hx; subst hx; exact ⟨v',rfl,h1⟩
    | succ i=>simp at hx; obtain ⟨y,g1,g2⟩:=e2 i x hx; exact ⟨y,by simpa using g1,g2⟩
   ·simp at h
theorem zb7 {f:AV→Option AV} {l r:List AV} (h:zx3 f l=some r) {i:Nat} {y:AV} (hy:r[i]? = some y):∃ x,l[i]? = some x∧f x=some y:=by
 obtain ⟨e1,e2⟩:=zr7 h
 have hi:i < l.length:=by rw [← e1]; exact (List.getElem?_eq_some_iff.1 hy).1
 obtain ⟨y',h1,h2⟩:=e2 i _ (List.getElem?_eq_getElem hi)
 rw [hy] at h1; cases h1
 exact ⟨_,List.getElem?_eq_getElem hi,h2⟩
theorem zpo {k:Nat} {x y:AV} (h:reify H k x=some y):x.isCell=true→y.isCell=true∧x.cells=[x]∧y.cells=[y]:=by
 intro hc
 cases k with
 | zero=>simp [reify] at h
 | succ k=>
   simp only [reify] at h
   split at h
   ·simp only [Option.some.injEq] at h; subst h
    cases x <;> first | (simp [AV.isCell] at hc; done) | exact ⟨rfl,rfl,rfl⟩
   ·split at h
    ·split at h
     ·split at h
      ·split at h
       ·simp only [Option.some.injEq] at h; subst h; exact ⟨rfl,rfl,rfl⟩
       ·simp at h
      ·simp at h
     ·simp at h
    ·simp [AV.isCell] at hc
    ·simp [AV.isCell] at hc
    ·split at h
     ·simp only [Option.some.injEq] at h; subst h; exact ⟨rfl,rfl,rfl⟩
     ·simp at h
    ·simp at h
theorem zde {k sz:Nat} {r r':AV} (h:reify H k r=some r') (hr:r.rowok sz=true) :
 r'.rowok sz=true∧∀ (j:Nat) (y:AV),r'.cells[j]? = some y→∃ x k',r.cells[j]? = some x∧k'≤k∧((x=y∧x.plain=true)∨reify H k' x=some y):=by
 by_cases hp:r.plain=true
 ·cases k with
  | zero=>simp [reify] at h
  | succ k=>
    simp only [reify,hp,if_true,Option.some.injEq] at h
    subst h
    exact ⟨hr,fun j y hy=>⟨y,0,hy,by omega, .inl ⟨rfl,zvk hp hy⟩⟩⟩
 ·have single:r.isCell=true→r.cells=[r]→r'.rowok sz=true∧∀ (j:Nat) (y:AV),r'.cells[j]? = some y→∃ x k',r.cells[j]? = some x∧k'≤k∧((x=y∧x.plain=true)∨reify H k' x=some y):=by
   intro hc _
   obtain ⟨h1,h2,h3⟩:=zpo h hc
   refine ⟨?_,fun j y hy=>?_⟩
   ·unfold AV.rowok at hr ⊢
    rw [h2] at hr; rw [h3]
    simpa [h1,hc] using hr
   ·rw [h3] at hy; rw [h2]
    cases j with
    | zero=>simp at hy; subst hy; exact ⟨r,k,rfl,Nat.le_refl _, .inr h⟩
    | succ j=>simp at hy
  cases r <;> first
   | exact single rfl rfl
   | (simp [AV.rowok,AV.cells,AV.isCell] at hr; done)
   | skip
  rename_i cs
  cases k with
  | zero=>simp [reify] at h
  | succ k=>
    simp only [reify,hp] at h
    simp only [Bool.false_eq_true,if_false] at h
    split at h
    ·rename_i cs' hcs
     simp only [Option.some.injEq] at h; subst h
     obtain ⟨e1,e2⟩:=zr7 hcs
     simp only [AV.rowok,AV.cells,Bool.and_eq_true,beq_iff_eq,List.all_eq_true] at hr ⊢
     refine ⟨⟨by omega,fun y hy=>?_⟩,fun j y hy=>?_⟩
     ·obtain ⟨i,hi⟩:=List.mem_iff_getElem?.1 hy
      obtain ⟨x,g1,g2⟩:=zb7 hcs hi
      exact (zpo g2 (hr.2 x (List.mem_of_getElem? g1))).1
     ·obtain ⟨x,g1,g2⟩:=zb7 hcs hy
      exact ⟨x,k,g1,by omega, .inr g2⟩
    ·simp at h
theorem zdl {Hr:Heap} (hw:WR CR W φ μ H w) (hf:FExt φ ψ) (hr0:∀ (id:Nat) (B:Blk),Hr[id]? = some B→B.live=true→H[id]? = some B) (ho:∀ (id:Nat) (B:Blk) (l:Loc),Hr[id]? = some B→μ[id]? = some l→B.live=true→ψ false l.b=w.heap[l.b]?) :
 ∀ (k:Nat) (x y:AV) (v:Value),reify Hr k x=some y→VR φ μ x v→VR ψ ν y v:=by
 intro k
 induction k using Nat.strongRecOn with
 | _ k ih=>
 intro x y v h hv
 cases k with
 | zero=>simp [reify] at h
 | succ k=>
   by_cases hp:x.plain=true
   ·simp only [reify,hp,if_true,Option.some.injEq] at h
    subst h
    exact (hv.mono hf (MExt.refl μ)).plainly hp
   ·have hcell:∀ {k' sz:Nat} {r r':AV},k' < k + 1→reify Hr k' r=some r'→r.rowok sz=true→∀ (j:Nat) (y:AV),r'.cells[j]? = some y→∃ x,r.cells[j]? = some x∧∀ v,VR φ μ x v→VR ψ ν y v:=by
     intro k' sz r r' hk hr hok j y hy
     obtain ⟨x,k'',g1,g2,g3⟩:=(zde hr hok).2 j y hy
     refine ⟨x,g1,fun v hv=>?_⟩
     rcases g3 with ⟨rfl,g3⟩ | g3
     ·exact (hv.mono hf (MExt.refl μ)).plainly g3
     ·exact ih k'' (by omega) x y v g3 hv
    simp only [reify,hp] at h
    simp only [Bool.false_eq_true,if_false] at h
    split at h
    ·rename_i id gen off len
     split at h
     ·rename_i g sz rows hBr
      have hB:=hr0 id _ hBr rfl
      split at h
      ·rename_i hcond
       obtain ⟨hg,hle⟩:=hcond
       split at h
       ·rename_i rs hrs
        simp only [Option.some.injEq] at h; subst h
        obtain ⟨e1,e2⟩:=zr7 hrs
        have hlen:rs.length=len:=by rw [e1]; simp; omega
        cases hv with
        | sl hl hgl hlc ha=>
          rename_i cap l a
          have eg:g=l.gen:=hw.gen id _ l hB hl
          obtain ⟨ha1,ha2⟩:=ha (by omega)
          by_cases hc0:cap=0
          ·have:len=0:=by omega
           subst this; subst hc0
           have:rs=[]:=List.length_eq_zero_iff.1 hlen
           subst this
           exact .fslNil
          ·have:=ha1 hc0
           subst this
           cases hw.blk id _ l hB hl with
           | arr hs harr=>
             obtain ⟨c,t,hm,hsz,hcells⟩:=harr.mem
             have hψ:ψ false l.b=some (.cells c t (0,0)):=by rw [ho id _ l hBr hl rfl]; exact hm
             have hrow:∀ (i:Nat) (r':AV),rs[i]? = some r'→∃ r,rows[off + i]? = some r∧reify Hr k r=some r'∧r.rowok l.sz=true:=by
              intro i r' hr'
              obtain ⟨r,g1,g2⟩:=zb7 hrs hr'
              rw [List.getElem?_take] at g1
              split at g1
              ·rw [List.getElem?_drop] at g1
               exact ⟨r,g1,g2,harr.ok r (List.mem_of_getElem? g1)⟩
              ·simp at g1
             refine .fsl (sz:=l.sz) (fun i j=>c.getD (l.o + (off + i) * l.sz + j) undef) hlen (fun r' hr'=>?_) (fun i r' j y' h1 h2=>?_) (fun i r' j y' h1 h2=>?_) hlc
             ·obtain ⟨i,hi⟩:=List.mem_iff_getElem?.1 hr'
              obtain ⟨r,g1,g2,g3⟩:=hrow i r' hi
              exact (zde g2 g3).1
             ·obtain ⟨r,g1,g2,g3⟩:=hrow i r' h1
              obtain ⟨x',k',f1,_⟩:=(zde g2 g3).2 j y' h2
              obtain ⟨v',f2,f3⟩:=hcells _ r j x' g1 f1
              unfold fcell
              rw [hψ]
              simp only
              have:l.o + off * l.sz + i * l.sz + j=l.o + (off + i) * l.sz + j:=by rw [Nat.add_mul]; omega
              rw [this,f2]
              simp [f2]
             ·obtain ⟨r,g1,g2,g3⟩:=hrow i r' h1
              obtain ⟨x',f1,f2⟩:=hcell (by omega) g2 g3 j y' h2
              obtain ⟨v',f3,f4⟩:=hcells _ r j x' g1 f1
              have:c.getD (l.o + (off + i) * l.sz + j) undef=v':=by simp [f3]
              rw [this]
              exact f2 v' f4
       ·simp at h
      ·simp at h
     ·simp at h
    ·rename_i cs
     split at h
     ·rename_i cs' hcs
      simp only [Option.some.injEq] at h; subst h
      cases hv with
      | agg hl hvs=>
        refine .agg (by rw [(zr7 hcs).1]; exact hl) (fun i y v h1 h2=>?_)
        obtain ⟨x,g1,g2⟩:=zb7 hcs h1
        exact ih k (by omega) x y v g2 (hvs i x v g1 h2)
     ·simp at h
    ·rename_i cs
     split at h
     ·rename_i cs' hcs
      simp only [Option.some.injEq] at h; subst h
      cases hv with
      | tuple hl hvs=>
        refine .tuple (by rw [(zr7 hcs).1]; exact hl) (fun i y v h1 h2=>?_)
        obtain ⟨x,g1,g2⟩:=zb7 hcs h1
        exact ih k (by omega) x y v g2 (hvs i x v g1 h2)
     ·simp at h
    ·rename_i kk rows
     split at h
     ·rename_i rs hrs
      simp only [Option.some.injEq] at h; subst h
      obtain ⟨e1,e2⟩:=zr7 hrs
      cases hv with
      | fslNil=>have:rs=[]:=List.length_eq_zero_iff.1 (by simpa using e1); subst this; exact .fslNil
      | fsl vs hn hr hc hvv hcap=>
        rename_i sz b o n cap
        have hrow:∀ (i:Nat) (r':AV),rs[i]? = some r'→∃ r,rows[i]? = some r∧reify Hr k r=some r'∧r.rowok sz=true:=by
         intro i r' hr'
         obtain ⟨r,g1,g2⟩:=zb7 hrs hr'
         exact ⟨r,g1,g2,hr r (List.mem_of_getElem? g1)⟩
        refine .fsl (sz:=sz) vs (by omega) (fun r' hr'=>?_) (fun i r' j y' h1 h2=>?_) (fun i r' j y' h1 h2=>?_) hcap
        ·obtain ⟨i,hi⟩:=List.mem_iff_getElem?.1 hr'
         obtain ⟨r,g1,g2,g3⟩:=hrow i r' hi
         exact (zde g2 g3).1
        ·obtain ⟨r,g1,g2,g3⟩:=hrow i r' h1
         obtain ⟨x',k',f1,_⟩:=(zde g2 g3).2 j y' h2
         exact zni hf (hc i r j x' g1 f1)
        ·obtain ⟨r,g1,g2,g3⟩:=hrow i r' h1
         obtain ⟨x',f1,f2⟩:=hcell (by omega) g2 g3 j y' h2
         exact f2 _ (hvv i r j x' g1 f1)
     ·simp at h
    ·simp at h
theorem z9q {n:Nat}:∀ {t:Tm},t.under n=true→∀ m,(t.get m).under n=true
 | .leaf,_,m=>rfl
 | .node v l r,h,m=>by
   simp only [Tm.under,Bool.and_eq_true] at h
   simp only [Tm.get]
   split
   ·exact h.1.1
   ·split
    ·exact z9q h.1.2 _
    ·exact z9q h.2 _
theorem BR.cut {n:Nat} (hμ:∀ i:Nat,i < n→ν[i]? = μ[i]?) {l:Loc} {B:Blk} (h:BR CR φ μ w l B) (hu:B.under n=true):BR CR φ ν w l B:=by
 cases h with
 | dead g=>exact .dead g
 | arr hs h=>
   obtain ⟨p,ok,cap,c,t,hc,hsz,hv⟩:=h
   simp only [Blk.under] at hu
   exact .arr hs ⟨p,ok,cap,c,t,hc,hsz,fun i r j x h1 h2=>let ⟨v,e,hx⟩:=hv i r j x h1 h2; ⟨v,e,hx.cut hμ (zuk (z66 hu h1) h2)⟩⟩
 | map h he=>
   simp only [Blk.under,List.all_eq_true,Bool.and_eq_true] at hu
   exact .map h ⟨he.1,fun i e f h1 h2=>let k:=he.2 i e f h1 h2; ⟨k.key.cut hμ (hu e (List.mem_of_getElem? h1)).1,k.val.cut hμ (hu e (List.mem_of_getElem? h1)).2,k.born⟩⟩
 | loop h hl=>
   simp only [Blk.under] at hu
   exact .loop h ⟨hl.st,hl.pend,fun t=>(hl.slots t).cut hμ (z9q hu t),hl.params,hl.code⟩
 | defr h=>exact .defr h
 | iterNil h ho=>exact .iterNil h ho
 | iter h hv ho=>simp only [Blk.under] at hu; exact .iter h (hv.cut hμ hu) ho
theorem z3s {n:Nat} {r r':AV} (ht:trunc n r H=(r',H')) (hw:WR CR W φ ν H w) {v:Value} (hv:VR φ ν r v) (hn:μ.length=n) (hm:MExt μ ν):∃ μ',MExt μ μ'∧WR CR W φ μ' H' w∧VR φ μ' r' v:=by
 unfold trunc at ht
 split at ht
 ·rename_i hc
  simp only [Prod.mk.injEq] at ht
  obtain ⟨rfl,rfl⟩:=ht
  simp only [Bool.and_eq_true,List.all_eq_true] at hc
  have hμ:∀ i:Nat,i < n→(ν.take n)[i]? = ν[i]? := fun i hi=>by rw [List.getElem?_take,if_pos hi]
  have hgH:∀ {i:Nat} {B:Blk},(H.take n)[i]? = some B→H[i]? = some B:=fun {i B} h=>by
   rw [List.getElem?_take] at h
   split at h
   ·exact h
   ·simp at h
  have hgν:∀ {i:Nat} {l:Loc},(ν.take n)[i]? = some l→ν[i]? = some l:=fun {i B} h=>by
   rw [List.getElem?_take] at h
   split at h
   ·exact h
   ·simp at h
  refine ⟨ν.take n,⟨by have:=hm.1; simp; omega,fun id l hl=>?_⟩,⟨hw.below,hw.base,hw.frz,hw.sub,by simp [hw.len],fun id B l h1 h2=>hw.gen id B l (hgH h1) (hgν h2),fun id B l h1 h2 h3=>hw.own id B l (hgH h1) (hgν h2) h3,
   fun id B l h1 h2=>(hw.blk id B l (hgH h1) (hgν h2)).cut hμ (hc.2 B (List.mem_of_getElem? h1)),fun i j Bi Bj li lj hij h1 h2 h3 h4 h5 h6=>hw.apart i j Bi Bj li lj hij (hgH h1) (hgH h2) (hgν h3) (hgν h4) h5 h6⟩,hv.cut hμ hc.1⟩
  obtain ⟨l',h1,h2,h3⟩:=hm.2 id l hl
  have:id < n:=by rw [← hn]; exact (List.getElem?_eq_some_iff.1 hl).1
  exact ⟨l',by rw [hμ id this]; exact h1,h2,h3⟩
 ·simp only [Prod.mk.injEq] at ht
  obtain ⟨rfl,rfl⟩:=ht
  exact ⟨ν,hm,hw,hv⟩
open Classical in
theorem zxx {n:Nat} {r r':AV} (ht:freeze n r H=some (r',H')) (hw:WR CR W φ ν H w) {v:Value} (hv:VR φ ν r v) (hn:μ.length=n) (hm:MExt μ ν) :
 ∃ φ' μ',FExt φ φ'∧MExt μ μ'∧WR CR W φ' μ' H' w∧VR φ' μ' r' v:=by
 unfold freeze at ht
 split at ht
 ·rename_i hc
  split at ht
  ·rename_i r0 hre
   simp only [Option.some.injEq,Prod.mk.injEq] at ht
   obtain ⟨rfl,rfl⟩:=ht
   simp only [List.all_eq_true] at hc
   have hnH:n≤H.length:=by rw [← hw.len]; rw [← hn]; exact hm.1
   have hμ:∀ i:Nat,i < n→(ν.take n)[i]? = ν[i]? := fun i hi=>by rw [List.getElem?_take,if_pos hi]
   have hgH:∀ {i:Nat} {B:Blk},(H.take n)[i]? = some B→H[i]? = some B∧i < n:=fun {i B} h=>by
    rw [List.getElem?_take] at h
    split at h
    ·rename_i hi; exact ⟨h,hi⟩
    ·simp at h
   have hgν:∀ {i:Nat} {l:Loc},(ν.take n)[i]? = some l→ν[i]? = some l:=fun {i B} h=>by
    rw [List.getElem?_take] at h
    split at h
    ·exact h
    ·simp at h
   have hnew:∀ (id:Nat) (B:Blk),(zs8 n H)[id]? = some B→B.live=true→H[id]? = some B∧n≤id:=fun id B h hl=>by
    unfold zs8 at h
    rw [List.getElem?_append] at h
    split at h
    ·rename_i hlt
     rw [List.getElem?_replicate] at h
     split at h
     ·simp only [Option.some.injEq] at h; subst h; simp [Blk.live] at hl
     ·simp at h
    ·rename_i hge
     simp only [List.length_replicate,List.getElem?_drop] at h hge
     rw [show n + (id - n)=id by omega] at h
     exact ⟨h,by omega⟩
   refine ⟨fun k b=>if ∃ (id:Nat) (B:Blk) (l:Loc),n≤id∧H[id]? = some B∧ν[id]? = some l∧B.live=true∧l.b=b then w.heap[b]? else φ k b,ν.take n,?_,?_,?_,?_⟩
   ·intro k b o h
    simp only
    split
    ·exact hw.frz k b o h
    ·exact h
   ·refine ⟨by have:=hm.1; simp; omega,fun id l hl=>?_⟩
    obtain ⟨l',h1,h2,h3⟩:=hm.2 id l hl
    have:id < n:=by rw [← hn]; exact (List.getElem?_eq_some_iff.1 hl).1
    exact ⟨l',by rw [hμ id this]; exact h1,h2,h3⟩
   ·have hfe:FExt φ (fun k b=>if ∃ (id:Nat) (B:Blk) (l:Loc),n≤id∧H[id]? = some B∧ν[id]? = some l∧B.live=true∧l.b=b then w.heap[b]? else φ k b):=by
     intro k b o h
     simp only
     split
     ·exact hw.frz k b o h
     ·exact h
    refine ⟨hw.below,fun k b hb=>?_,fun k b o h=>?_,fun b o h=>?_,by simp [hw.len],fun id B l h1 h2=>hw.gen id B l (hgH h1).1 (hgν h2),fun id B l h1 h2 h3=>?_,
     fun id B l h1 h2=>((hw.blk id B l (hgH h1).1 (hgν h2)).mono hfe (MExt.refl _) rfl).cut hμ (hc B (List.mem_of_getElem? h1)),
     fun i j Bi Bj li lj hij h1 h2 h3 h4 h5 h6=>hw.apart i j Bi Bj li lj hij (hgH h1).1 (hgH h2).1 (hgν h3) (hgν h4) h5 h6⟩
    ·rw [if_neg]
     ·exact hw.base k b hb
     ·rintro ⟨id,B,l,g1,g2,g3,g4,rfl⟩
      have:=(hw.own id B l g2 g3 g4).1
      omega
    ·split at h
     ·exact h
     ·exact hw.frz k b o h
    ·split at h
     ·rename_i hx; rw [if_pos hx]; exact h
     ·rename_i hx; rw [if_neg hx]; exact hw.sub b o h
    ·obtain ⟨f1,f2⟩:=hgH h1
     obtain ⟨o1,o2,o3⟩:=hw.own id B l f1 (hgν h2) h3
     refine ⟨o1,o2,fun k=>?_⟩
     rw [if_neg]
     ·exact o3 k
     ·rintro ⟨id',B',l',g1,g2,g3,g4,g5⟩
      exact hw.apart id' id B' B l' l (by omega) g2 f1 g3 (hgν h2) g4 h3 g5
   ·refine zdl (Hr:=zs8 n H) hw (fun k b o h=>?_) (fun id B h hl=>(hnew id B h hl).1) (fun id B l h1 h2 h3=>?_) zw r r0 v hre hv
    ·split
     ·exact hw.frz k b o h
     ·exact h
    ·obtain ⟨f1,f2⟩:=hnew id B h1 h3
     rw [if_pos ⟨id,B,l,f2,f1,h2,h3,rfl⟩]
  ·simp at ht
 ·simp at ht
theorem zvn {n:Nat} {b:Bool} {r r':AV} (ht:zj b n r H=(r',H')) (hw:WR CR W φ ν H w) {v:Value} (hv:VR φ ν r v) (hn:μ.length=n) (hm:MExt μ ν) :
 ∃ φ' μ',FExt φ φ'∧MExt μ μ'∧WR CR W φ' μ' H' w∧VR φ' μ' r' v:=by
 have htr:∀ {r':AV} {H':Heap},trunc n r H=(r',H')→∃ φ' μ',FExt φ φ'∧MExt μ μ'∧WR CR W φ' μ' H' w∧VR φ' μ' r' v:=fun h=>
  let ⟨μ',g1,g2,g3⟩:=z3s h hw hv hn hm
  ⟨φ,μ',FExt.refl φ,g1,g2,g3⟩
 unfold zj at ht
 split at ht
 ·split at ht
  ·rename_i hx; subst ht; exact zxx hx hw hv hn hm
  ·exact htr ht
 ·exact htr ht
theorem z44:∀ l:List AV,(AV.lends l).length=l.length
 | []=>rfl
 | a::l=>by simp [AV.lends,z44 l]
theorem z54:∀ {l:List AV} {i:Nat} {y:AV},(AV.lends l)[i]? = some y→∃ x,l[i]? = some x∧y=x.lend
 | [],i,y,h=>by simp [AV.lends] at h
 | a::l,0,y,h=>by simp [AV.lends] at h; exact ⟨a,rfl,h.symm⟩
 | a::l,i + 1,y,h=>by
   simp [AV.lends] at h
   obtain ⟨x,h1,h2⟩:=z54 h
   exact ⟨x,by simpa using h1,h2⟩
theorem zlu (a:AV):a.lend.isCell=a.isCell:=by cases a <;> simp [AV.lend,AV.isCell]
theorem zwi (a:AV):a.lend.cells=AV.lends a.cells:=by cases a <;> simp [AV.lend,AV.cells,AV.lends]
theorem zel:∀ l:List AV,(AV.lends l).all AV.isCell=l.all AV.isCell
 | []=>rfl
 | a::l=>by simp [AV.lends,zlu,zel l]
theorem zyx {sz:Nat} (a:AV):a.lend.rowok sz=a.rowok sz:=by
 unfold AV.rowok
 rw [zwi,z44,zel]
theorem VR.lendTo (hs:∀ k b o,φ k b=some o→ψ true b=some o) {a:AV} {v:Value} (h:VR φ μ a v):VR ψ μ a.lend v:=by
 have hc:∀ {k:Bool} {b o:Nat} {v:Value},fcell φ k b o=some v→fcell ψ true b o=some v:=by
  intro k b o v h
  unfold fcell at *
  cases hb:φ k b with
  | none=>rw [hb] at h; simp at h
  | some ob=>rw [hb] at h; rw [hs k b ob hb]; exact h
 induction h with
 | undef v=>exact .undef v
 | bool b=>exact .bool b
 | int k n=>exact .int k n
 | str s=>exact .str s
 | nilptr=>exact .nilptr
 | ptr hl hg ha=>exact .ptr hl hg ha
 | fptr vs hk hcc _ ih=>
   refine .fptr vs (by rw [zel]; exact hk) (fun i y hy=>?_) (fun i y hy=>?_)
   ·obtain ⟨x,h1,rfl⟩:=z54 hy; exact hc (hcc i x h1)
   ·obtain ⟨x,h1,rfl⟩:=z54 hy; exact ih i x h1
 | nilsl=>exact .nilsl
 | fslNil=>exact .fslNil
 | @fsl k rows sz b o n cap vs hn hr hcc _ hcap ih=>
   refine .fsl (sz:=sz) vs (by rw [z44]; exact hn) (fun r hr'=>?_) (fun i r j y h1 h2=>?_) (fun i r j y h1 h2=>?_) hcap
   ·obtain ⟨i,hi⟩:=List.mem_iff_getElem?.1 hr'
    obtain ⟨x,h1,rfl⟩:=z54 hi
    rw [zyx]; exact hr x (List.mem_of_getElem? h1)
   ·obtain ⟨x,g1,rfl⟩:=z54 h1
    rw [zwi] at h2
    obtain ⟨z,g2,rfl⟩:=z54 h2
    exact hc (hcc i x j z g1 g2)
   ·obtain ⟨x,g1,rfl⟩:=z54 h1
    rw [zwi] at h2
    obtain ⟨z,g2,rfl⟩:=z54 h2
    exact ih i x j z g1 g2
 | sl hl hg hlc ha=>exact .sl hl hg hlc ha
 | nilmap=>exact .nilmap
 | map hl hg ha=>exact .map hl hg ha
 | nilfunc=>exact .nilfunc
 | func la lb _ _ iha ihb=>
   refine .func (by rw [z44]; exact la) (by rw [z44]; exact lb) (fun i y v h1 h2=>?_) (fun i y v h1 h2=>?_)
   ·obtain ⟨x,g1,rfl⟩:=z54 h1; exact iha i x v g1 h2
   ·obtain ⟨x,g1,rfl⟩:=z54 h1; exact ihb i x v g1 h2
 | yieldf hl hg ha=>exact .yieldf hl hg ha
 | niliface=>exact .niliface
 | iface hx _ ih=>exact .iface (fun e=>hx (by rename_i x _ _; cases x <;> simp [AV.lend] at e ⊢)) ih
 | agg hl _ ih=>
   refine .agg (by rw [z44]; exact hl) (fun i y v h1 h2=>?_)
   obtain ⟨x,g1,rfl⟩:=z54 h1; exact ih i x v g1 h2
 | tuple hl _ ih=>
   refine .tuple (by rw [z44]; exact hl) (fun i y v h1 h2=>?_)
   obtain ⟨x,g1,rfl⟩:=z54 h1; exact ih i x v g1 h2
theorem VR.lend (hs:∀ b o,φ false b=some o→φ true b=some o) {a:AV} {v:Value} (h:VR φ μ a v):VR φ μ a.lend v:=
 h.lendTo (fun k b o hb=>by cases k with
  | true=>exact hb
  | false=>exact hs b o hb)
theorem VRs.lends (hs:∀ b o,φ false b=some o→φ true b=some o) {l:List AV} {vs:List Value} (h:VRs φ μ l vs):VRs φ μ (AV.lends l) vs:=
 ⟨by rw [z44]; exact h.1,fun i y v h1 h2=>let ⟨x,g1,g2⟩:=z54 h1; g2 ▸ (h.2 i x v g1 h2).lend hs⟩
theorem zs5:∀ {l:List AV} {i:Nat} {x:AV},AV.unlents l=true→l[i]? = some x→x.unlent=true
 | [],i,x,_,h=>by simp at h
 | a::l,0,x,h,hx=>by simp [AV.unlents] at h hx; subst hx; exact h.1
 | a::l,i + 1,x,h,hx=>by
   simp [AV.unlents] at h hx
   exact zs5 h.2 hx
theorem z4s {r:AV} (h:r.unlent=true) {j:Nat} {x:AV} (hx:r.cells[j]? = some x):x.unlent=true:=by
 cases r <;> first
  | (simp only [AV.cells] at hx; cases j with
   | zero=>simp at hx; subst hx; exact h
   | succ j=>simp at hx)
  | (simp only [AV.cells] at hx; simp only [AV.unlent] at h; exact zs5 h hx)
theorem VR.unlently (hs:∀ b o,φ false b=some o→ψ false b=some o) {a:AV} {v:Value} (h:VR φ μ a v):a.unlent=true→VR ψ ν a v:=by
 have hc:∀ {b o:Nat} {v:Value},fcell φ false b o=some v→fcell ψ false b o=some v:=by
  intro b o v h
  unfold fcell at *
  cases hb:φ false b with
  | none=>rw [hb] at h; simp at h
  | some ob=>rw [hb] at h; rw [hs b ob hb]; exact h
 induction h with
 | undef v=>exact fun _=>.undef v
 | bool b=>exact fun _=>.bool b
 | int k n=>exact fun _=>.int k n
 | str s=>exact fun _=>.str s
 | nilptr=>exact fun _=>.nilptr
 | nilsl=>exact fun _=>.nilsl
 | fslNil=>exact fun _=>.fslNil
 | nilmap=>exact fun _=>.nilmap
 | nilfunc=>exact fun _=>.nilfunc
 | niliface=>exact fun _=>.niliface
 | @fptr k cs off b o vs hk hcc _ ih=>
   intro hu
   cases k with
   | true=>simp [AV.unlent] at hu
   | false=>
     simp only [AV.unlent,Bool.not_false,Bool.true_and] at hu
     exact .fptr vs hk (fun i x hx=>hc (hcc i x hx)) (fun i x hx=>ih i x hx (zs5 hu hx))
 | @fsl k rows sz b o n cap vs hn hr hcc _ hcap ih=>
   intro hu
   cases k with
   | true=>simp [AV.unlent] at hu
   | false=>
     simp only [AV.unlent,Bool.not_false,Bool.true_and] at hu
     exact .fsl vs hn hr (fun i r j x h1 h2=>hc (hcc i r j x h1 h2)) (fun i r j x h1 h2=>ih i r j x h1 h2 (z4s (zs5 hu h1) h2)) hcap
 | func la lb _ _ iha ihb=>
   intro hu; simp [AV.unlent] at hu
   exact .func la lb (fun i x v h1 h2=>iha i x v h1 h2 (zs5 hu.1 h1)) (fun i x v h1 h2=>ihb i x v h1 h2 (zs5 hu.2 h1))
 | iface hx _ ih=>intro hu; simp only [AV.unlent] at hu; exact .iface hx (ih hu)
 | agg hl _ ih=>intro hu; simp only [AV.unlent] at hu; exact .agg hl (fun i x v h1 h2=>ih i x v h1 h2 (zs5 hu h1))
 | tuple hl _ ih=>intro hu; simp only [AV.unlent] at hu; exact .tuple hl (fun i x v h1 h2=>ih i x v h1 h2 (zs5 hu h1))
 | _=>intro hu; simp [AV.unlent] at hu
end Go.Abs
