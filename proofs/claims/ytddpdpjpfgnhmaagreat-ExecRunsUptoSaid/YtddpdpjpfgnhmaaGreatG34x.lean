/- Exec: the order of values and of tuples; the sort at them. -/
import Derived.Test.YtddpdpjpfgnhmaaGreatG32x
import Derived.Test.YtddpdpjpfgnhmaaGreatG33x
set_option linter.unusedSimpArgs false
set_option linter.unusedVariables false
set_option maxHeartbeats 4000000
namespace Go.Abs.Plan
open Enc (Is)
open Go.Sort (SWO)
theorem z4i (x y:ByteArray):(cmpS x y < 0↔x.toList < y.toList)∧(cmpS x y=0↔x=y)∧(0 < cmpS x y↔y.toList < x.toList):=by
 unfold cmpS
 by_cases k1:x.toList < y.toList
 ·have k2:¬ y.toList < x.toList:=fun h=>List.lt_irrefl _ (List.lt_trans k1 h)
  have k3:x≠y:=by rintro rfl; exact List.lt_irrefl _ k1
  simp [k1,k2,k3]
 ·by_cases k2:y.toList < x.toList
  ·have k3:x≠y:=by rintro rfl; exact List.lt_irrefl _ k2
   simp [k1,k2,k3]
  ·have k3:x=y:=zo7 (List.le_antisymm (List.not_lt.1 k2) (List.not_lt.1 k1))
   subst k3
   simp [List.lt_irrefl]
theorem z5i (x y:Int):(cmpI x y < 0↔x < y)∧(cmpI x y=0↔x=y)∧(0 < cmpI x y↔y < x):=by
 unfold cmpI
 by_cases k1:x < y
 ·simp [k1]; omega
 ·by_cases k2:y < x
  ·simp [k1,k2]; omega
  ·have:x=y:=by omega
   simp [k1,k2,this]
structure Lin {α:Type} (c:α→α→Int):Prop where
 eq:∀ a b,c a b=0↔a=b
 flip:∀ a b,c a b < 0↔0 < c b a
 trans:∀ a b d,c a b < 0→c b d < 0→c a d < 0
theorem z2x:Lin cmpI where
 eq a b:=(z5i a b).2.1
 flip a b:=by rw [(z5i a b).1,(z5i b a).2.2]
 trans a b d h1 h2:=by rw [(z5i _ _).1] at *; omega
theorem z251:Lin cmpS where
 eq a b:=(z4i a b).2.1
 flip a b:=by rw [(z4i a b).1,(z4i b a).2.2]
 trans a b d h1 h2:=by rw [(z4i _ _).1] at *; exact List.lt_trans h1 h2
theorem zw11 {α β γ:Type} {f:β→β→Int} {g:γ→γ→Int} (hf:Lin f) (hg:Lin g) (p:α→β) (q:α→γ) (hpq:∀ a b,p a=p b→q a=q b→a=b):Lin fun a b=>if f (p a) (p b)≠0 then f (p a) (p b) else g (q a) (q b) where
 eq a b:=by
  by_cases h:f (p a) (p b)=0
  ·simp only [h,ne_eq,not_true,if_false]
   rw [hg.eq]
   exact ⟨fun h2=>hpq a b ((hf.eq _ _).1 h) h2,fun h2=>by rw [h2]⟩
  ·simp only [ne_eq,h,not_false_iff,if_true]
   exact ⟨False.elim,fun h2=>by subst h2; exact absurd ((hf.eq _ _).2 rfl) h⟩
 flip a b:=by
  have e:f (p a) (p b)=0↔f (p b) (p a)=0:=by rw [hf.eq,hf.eq]; exact eq_comm
  by_cases h:f (p a) (p b)=0
  ·have h':=e.1 h
   simp only [h,h',ne_eq,not_true,if_false]
   exact hg.flip _ _
  ·have h':¬ f (p b) (p a)=0:=fun k=>h (e.2 k)
   simp only [ne_eq,h,h',not_false_iff,if_true]
   exact hf.flip _ _
 trans a b d h1 h2:=by
  by_cases k1:f (p a) (p b)=0
  ·simp only [k1,ne_eq,not_true,if_false] at h1
   have e1:=(hf.eq _ _).1 k1
   rw [e1]
   by_cases k2:f (p b) (p d)=0
   ·simp only [k2,ne_eq,not_true,if_false] at h2 ⊢
    exact hg.trans _ _ _ h1 h2
   ·simp only [ne_eq,k2,not_false_iff,if_true] at h2 ⊢
    exact h2
  ·simp only [ne_eq,k1,not_false_iff,if_true] at h1
   by_cases k2:f (p b) (p d)=0
   ·have e2:=(hf.eq _ _).1 k2
    rw [← e2]
    simp only [ne_eq,k1,not_false_iff,if_true]
    exact h1
   ·simp only [ne_eq,k2,not_false_iff,if_true] at h2
    have h3:=hf.trans _ _ _ h1 h2
    have k3:¬ f (p a) (p d)=0:=by omega
    simp only [ne_eq,k3,not_false_iff,if_true]
    exact h3
theorem zd9:Lin vcmp:=
 zw11 (α:=Val) (β:=Int) (γ:=Int×ByteArray) z2x (zw11 (α:=Int×ByteArray) z2x z251 (fun x=>x.1) (fun x=>x.2) (fun a b h1 h2=>Prod.ext h1 h2)) (fun v=>v.kind) (fun v=>(v.n,v.s))
  (fun a b h1 h2=>by cases a; cases b; simp only [Prod.mk.injEq] at h1 h2; simp only [Val.mk.injEq]; exact ⟨h1,h2.1,h2.2⟩)
theorem z8c:∀ t u:Tup,tcmp t u=0↔t=u
 | [],[]=>by simp [tcmp]
 | [],_::_=>by simp [tcmp]
 | _::_,[]=>by simp [tcmp]
 | a::t,b::u=>by
   simp only [tcmp,List.cons.injEq]
   by_cases h:vcmp a b=0
   ·have:=(zd9.eq a b).1 h
    simp only [h,ne_eq,not_true,if_false]
    rw [z8c t u]
    simp [this]
   ·have h2:a≠b:=fun e=>h ((zd9.eq a b).2 e)
    simp only [ne_eq,h,not_false_iff,if_true,h2,false_and]
theorem zxs:∀ t u:Tup,tcmp t u < 0↔0 < tcmp u t
 | [],[]=>by simp [tcmp]
 | [],_::_=>by simp [tcmp]
 | _::_,[]=>by simp [tcmp]
 | a::t,b::u=>by
   have e:vcmp a b=0↔vcmp b a=0:=by rw [zd9.eq,zd9.eq]; exact eq_comm
   simp only [tcmp]
   by_cases h:vcmp a b=0
   ·have h':=e.1 h
    simp only [h,h',ne_eq,not_true,if_false]
    exact zxs t u
   ·have h':¬ vcmp b a=0:=fun k=>h (e.2 k)
    simp only [ne_eq,h,h',not_false_iff,if_true]
    exact zd9.flip a b
theorem z08:∀ t u w:Tup,tcmp t u < 0→tcmp u w < 0→tcmp t w < 0
 | [],u,[],h1,h2=>by cases u <;> simp [tcmp] at h1 h2
 | [],_,_::_,_,_=>by simp [tcmp]
 | a::t,[],_,h1,_=>by simp [tcmp] at h1
 | a::t,b::u,[],_,h2=>by simp [tcmp] at h2
 | a::t,b::u,d::w,h1,h2=>by
   simp only [tcmp] at h1 h2 ⊢
   by_cases k1:vcmp a b=0
   ·simp only [k1,ne_eq,not_true,if_false] at h1
    have e1:=(zd9.eq _ _).1 k1
    subst e1
    by_cases k2:vcmp a d=0
    ·simp only [k2,ne_eq,not_true,if_false] at h2 ⊢
     exact z08 t u w h1 h2
    ·simp only [ne_eq,k2,not_false_iff,if_true] at h2 ⊢
     exact h2
   ·simp only [ne_eq,k1,not_false_iff,if_true] at h1
    by_cases k2:vcmp b d=0
    ·have e2:=(zd9.eq _ _).1 k2
     subst e2
     simp only [ne_eq,k1,not_false_iff,if_true]
     exact h1
    ·simp only [ne_eq,k2,not_false_iff,if_true] at h2
     have h3:=zd9.trans _ _ _ h1 h2
     have k3:¬ vcmp a d=0:=by omega
     simp only [ne_eq,k3,not_false_iff,if_true]
     exact h3
def TLt (t u:Tup):Prop:=tcmp t u < 0
theorem TLt.irrefl (t:Tup):¬ TLt t t:=by unfold TLt; rw [(z8c t t).2 rfl]; omega
theorem TLt.asymm {t u:Tup} (h:TLt t u):¬ TLt u t:=fun h2=>TLt.irrefl t (z08 _ _ _ h h2)
theorem TLt.tri (t u:Tup):TLt t u∨t=u∨TLt u t:=by
 unfold TLt
 by_cases h1:tcmp t u < 0
 ·exact .inl h1
 ·by_cases h2:tcmp t u=0
  ·exact .inr (.inl ((z8c t u).1 h2))
  ·refine .inr (.inr ((zxs u t).2 (by omega)))
theorem ztg {α:Type} {R:α→α→Prop} (ha:∀ a b,R a b→¬ R b a):∀ {l m:List α},l.Pairwise R→m.Pairwise R→l.Perm m→l=m
 | [],m,_,_,h=>(List.nil_perm.1 h).symm
 | a::l,[],_,_,h=>absurd h.symm (by simp)
 | a::l,b::m,h1,h2,h=>by
   rw [List.pairwise_cons] at h1 h2
   have hab:a=b:=by
    have ham:a∈b::m:=h.subset (by simp)
    have hbl:b∈a::l:=h.symm.subset (by simp)
    rcases List.mem_cons.1 ham with e | ham
    ·exact e
    ·rcases List.mem_cons.1 hbl with e | hbl
     ·exact e.symm
     ·exact absurd (h2.1 a ham) (ha _ _ (h1.1 b hbl))
   subst hab
   rw [ztg ha h1.2 h2.2 (List.Perm.cons_inv h)]
theorem zi61 {α:Type} {c:α→α→Int} (h:∀ a,¬ c a a < 0) (htr:∀ a b d,c a b < 0→c b d < 0→c a d < 0) (hn:∀ a b d,¬ c a b < 0→¬ c b d < 0→¬ c a d < 0):SWO (fun a b=>decide (c a b < 0)) where
 irrefl x:=by simpa using h x
 trans x y z h1 h2:=by
  have h1:=of_decide_eq_true h1
  have h2:=of_decide_eq_true h2
  exact decide_eq_true (htr _ _ _ h1 h2)
 ntrans x y z h1 h2:=by
  have h1:=of_decide_eq_false h1
  have h2:=of_decide_eq_false h2
  exact decide_eq_false (hn _ _ _ h1 h2)
theorem zug (a b d:Tup) (h1:¬ tcmp a b < 0) (h2:¬ tcmp b d < 0):¬ tcmp a d < 0:=by
 intro h
 rcases TLt.tri a b with k | k | k
 ·exact h1 k
 ·subst k; exact h2 h
 ·exact h2 (z08 _ _ _ k h)
end Go.Abs.Plan
namespace Go.Abs.Plan
open Enc (Is)
open Go.Sort (SWO)
theorem set_same {H:Heap} {b:Nat} {B:Blk} (h:H[b]? = some B):H.set b B=H:=by
 apply List.ext_getElem?
 intro i
 rw [List.getElem?_set]
 split
 ·rename_i e
  subst e
  rw [if_pos (lt_of h),h]
 ·rfl
theorem laidT:Sort.Laid tbl idsT false 1:=⟨rfl,rfl,rfl,rfl,rfl,rfl,rfl,rfl,rfl,rfl,rfl,rfl,rfl,rfl,rfl,rfl,rfl,rfl⟩
theorem laidC:Sort.Laid tbl idsC true 2:=⟨rfl,rfl,rfl,rfl,rfl,rfl,rfl,rfl,rfl,rfl,rfl,rfl,rfl,rfl,rfl,rfl,rfl,rfl⟩
abbrev TupB:={ t:Tup // t.length≤2 ^ 30 }
instance:Inhabited TupB:=⟨⟨[],by simp⟩⟩
theorem z18 (t:Tup):AV.plains (t.map Val.enc)=true:=by
 induction t with
 | nil=>rfl
 | cons x t ih=>simpa [AV.plains,AV.plain] using ih
theorem zxa (t:Tup):(tupA t).plain=true:=by simp [tupA,AV.plain,z18]
def CmpT (fv:AV):Prop:=∀ (t u:Tup),t.length≤2 ^ 30→u.length≤2 ^ 30→∀ H,callW tbl fv [tupA t,tupA u] H=some (.int .i64 (tcmp t u),H)
def envT (fv:AV) (h:CmpT fv):Sort.Env tbl TupB where
 I:=idsT
 ag:=false
 sz:=1
 row x:=tupA x.1
 fv:=fv
 cmp x y:=tcmp x.1 y.1
 laid:=laidT
 rowok:=fun _=>rfl
 part:=fun _=>rfl
 plain:=fun x=>zxa x.1
 call:=fun x y H=>h x.1 y.1 x.2 y.2 H
theorem swoT (fv:AV) (h:CmpT fv):SWO (envT fv h).lt:=
 zi61 (c:=fun x y:TupB=>tcmp x.1 y.1) (fun a=>TLt.irrefl a.1) (fun a b d=>z08 a.1 b.1 d.1) (fun a b d=>zug a.1 b.1 d.1)
theorem zep (fv:AV) (h:CmpT fv) (H:Heap) (hok:HOK H) (id g:Nat) (l:List Tup) (hl0:∀ t∈l,t.length≤2 ^ 30) (hb:H[id]? = some (.arr g 1 (l.map tupA))) (hl:l.length < 2 ^ 40) :
 ∃ l':List Tup,callW tbl (.func z82 [] []) [.sl id g 0 l.length,fv] H=some (.tuple [],H.set id (.arr g 1 (l'.map tupA)))∧l'.Perm l∧l'.Pairwise fun a b=>¬ TLt b a:=by
 have hlt:=lt_of hb
 obtain ⟨L,rfl⟩:∃ L:List TupB,l=L.map (·.1):=⟨l.pmap Subtype.mk hl0,by rw [List.map_pmap]; simp⟩
 have hsz:L.toArray.size=L.length:=by simp
 have hll:(L.map (·.1)).length=L.length:=by simp
 rw [hll] at hl ⊢
 have hbl:Go.Sort.bitsLen L.length≤60:=(Go.Sort.bitsLen_le_iff _ 60).2 (by omega)
 obtain ⟨D,hc,hP,hS⟩:=Go.Abs.Sort.pdq_call (envT fv h) (swoT fv h) id g H hok hlt L.toArray (by omega) (Go.Sort.bitsLen L.length) (by omega)
 have hrows:(L.map (·.1)).map tupA=(envT fv h).rws L.toArray:=by simp [Sort.Env.rws,envT]
 have hset:H.set id ((envT fv h).blk g L.toArray)=H:=set_same (by rw [hb,hrows]; rfl)
 rw [hset,hsz] at hc
 have hDs:D.size=L.length:=by rw [hP.1]; simp
 refine ⟨D.toList.map (·.1),?_,?_,?_⟩
 ·have hlen:=Go.Abs.Sort.len_call laidT L.length (by omega)
  have w1:IntKind.u64.wrap (L.length:Int)=(L.length:Int):=Go.Abs.Sort.wrapU rfl (by omega)
  refine callB zj1 rfl rfl rfl (fun F hF=>?_)
  have hlen':callW tbl (.func z33 [] []) [.int .u64 (L.length:Int)] H=some (.int .i64 ((Go.Sort.bitsLen L.length:Nat):Int),H):=hlen H
  have hc':callW tbl (.func z92 [] []) [.sl id g 0 L.length, .int .i64 0, .int .i64 (L.length:Int), .int .i64 ((Go.Sort.bitsLen L.length:Nat):Int),fv] H=some (.tuple [],H.set id ((envT fv h).blk g D)):=hc
  have hfin:H.set id ((envT fv h).blk g D)=H.set id (.arr g 1 ((D.toList.map (·.1)).map tupA)):=by
   have:(D.toList.map (·.1)).map tupA=(envT fv h).rws D:=by simp [Sort.Env.rws,envT]
   rw [this]; rfl
  rw [hfin] at hc'
  have hlen2:(H.set id (.arr g 1 ((D.toList.map (·.1)).map tupA))).length=H.length:=by simp
  generalize H.set id (.arr g 1 ((D.toList.map (·.1)).map tupA))=H2 at hc' hF hlen2
  simp [zj1,ze3,w1,hlen',hc']
  exact hF _ _ (ze hlen2.symm)
 ·obtain ⟨_,_,hperm⟩:=hP
  have e1:D.extract 0 L.toArray.size=D:=by rw [hsz,← hDs]; exact Array.extract_size
  rw [e1,Array.extract_size] at hperm
  exact List.Perm.map _ hperm
 ·rw [List.pairwise_map,List.pairwise_iff_getElem]
  intro i j hi hj hij hlt
  have hi':i < D.size:=by simpa using hi
  have hj':j < D.size:=by simpa using hj
  have:=hS i j (Nat.zero_le _) hij (by rw [hsz,← hDs]; exact hj')
  rw [getElem!_pos D j hj',getElem!_pos D i hi'] at this
  have h2:(envT fv h).lt D[j] D[i]=true:=decide_eq_true hlt
  rw [this] at h2
  cases h2
theorem zys (fv:AV) (H:Heap):callW tbl (.func z82 [] []) [.nilsl,fv] H=some (.tuple [],H):=by
 refine callB zj1 rfl rfl rfl (fun F hF=>?_)
 have hlen:callW tbl (.func z33 [] []) [.int .u64 0] H=some (.int .i64 0,H):=Go.Abs.Sort.len_call laidT 0 (by omega) H
 have hp:callW tbl (.func z92 [] []) [.nilsl, .int .i64 0, .int .i64 0, .int .i64 0,fv] H=some (.tuple [],H):=Go.Abs.Sort.pdq_nil laidT _ 0 H
 have w1:IntKind.u64.wrap 0=0:=by decide
 simp [zj1,ze3,w1,hlen,hp]
 exact hF _ _ (ze rfl)
end Go.Abs.Plan
namespace Go.Abs.Plan
open Enc (Is)
def insT (x:Tup):List Tup→List Tup
 | []=>[x]
 | y::l=>if tcmp y x < 0 then y::insT x l else if tcmp y x=0 then y::l else x::y::l
def sortT (l:List Tup):List Tup:=l.foldl (fun o x=>insT x o) []
theorem z0r {x y:Tup}:∀ {l:List Tup},y∈insT x l↔y=x∨y∈l
 | []=>by simp [insT]
 | a::l=>by
   unfold insT
   split
   ·simp only [List.mem_cons,z0r (l:=l)]
    constructor
    ·rintro (h | h | h)
     ·exact .inr (.inl h)
     ·exact .inl h
     ·exact .inr (.inr h)
    ·rintro (h | h | h)
     ·exact .inr (.inl h)
     ·exact .inl h
     ·exact .inr (.inr h)
   ·split
    ·rename_i h
     have:=(z8c a x).1 h
     subst this
     simp
    ·simp
theorem zum {x:Tup}:∀ {l:List Tup},l.Pairwise TLt→(insT x l).Pairwise TLt
 | [],_=>by simp [insT]
 | a::l,h=>by
   rw [List.pairwise_cons] at h
   unfold insT
   split
   ·rename_i h1
    rw [List.pairwise_cons]
    refine ⟨fun y hy=>?_,zum h.2⟩
    rcases z0r.1 hy with rfl | hy
    ·exact h1
    ·exact h.1 y hy
   ·split
    ·rw [List.pairwise_cons]; exact h
    ·rename_i h1 h2
     have hxa:TLt x a:=by
      rcases TLt.tri a x with k | k | k
      ·exact absurd k h1
      ·exact absurd ((z8c a x).2 k) h2
      ·exact k
     rw [List.pairwise_cons,List.pairwise_cons]
     refine ⟨fun y hy=>?_,h⟩
     rcases List.mem_cons.1 hy with rfl | hy
     ·exact hxa
     ·exact z08 _ _ _ hxa (h.1 y hy)
theorem zt4 (l:List Tup):(sortT l).Pairwise TLt∧∀ y,y∈sortT l↔y∈l:=by
 unfold sortT
 suffices ∀ o:List Tup,o.Pairwise TLt→(l.foldl (fun o x=>insT x o) o).Pairwise TLt∧∀ y,y∈l.foldl (fun o x=>insT x o) o↔y∈l∨y∈o by
  have:=this [] List.Pairwise.nil
  exact ⟨this.1,fun y=>by rw [this.2 y]; simp⟩
 induction l with
 | nil=>intro o ho; exact ⟨ho,fun y=>by simp⟩
 | cons x l ih=>
   intro o ho
   obtain ⟨h1,h2⟩:=ih (insT x o) (zum ho)
   refine ⟨h1,fun y=>?_⟩
   simp only [List.foldl_cons]
   rw [h2 y,z0r,List.mem_cons]
   constructor
   ·rintro (h | h | h)
    ·exact .inl (.inr h)
    ·exact .inl (.inl h)
    ·exact .inr h
   ·rintro ((h | h) | h)
    ·exact .inr (.inl h)
    ·exact .inl h
    ·exact .inr (.inr h)
theorem z6i {l:List Tup} (h:l.Pairwise TLt):l.Nodup:=h.imp (fun hab e=>by subst e; exact TLt.irrefl _ hab)
theorem z1r {l D:List Tup} (hs:D.Pairwise TLt) (hm:∀ y,y∈D↔y∈l):D=sortT l:=by
 obtain ⟨h1,h2⟩:=zt4 l
 refine ztg (fun a b=>TLt.asymm) hs h1 ?_
 exact zrg (z6i hs) (z6i h1) (fun y=>by rw [hm y,h2 y])
def relA (D:List Tup):AV:=if D=[] then .nilsl else .fsl false (D.map tupA)
theorem z2r (D:List Tup):Is (relA D) D:=by
 unfold relA
 split
 ·rename_i h; subst h; exact IsL.nil
 ·exact IsL.fsl (zr6 (fun t=>zg4 t) D)
def valOf:AV→Val
 | .agg [.int _ k, .int _ n, .str s]=>⟨k,n,s⟩
 | _=>zi
def tupOf:AV→Tup
 | .fsl _ rows=>rows.map valOf
 | _=>[]
@[simp] theorem z591 (t:Tup):tupOf (tupA t)=t:=by
  show (t.map Val.enc).map valOf=t
  rw [List.map_map]
  have:valOf ∘ Val.enc=id:=by funext v; rfl
  rw [this,List.map_id]
def entT (e:MEnt):Tup:=tupOf e.val
theorem zeb {L:List Tup} {e:MEnt} (h:e∈tEnts L):∃ u∈L,e.key=.str (keyS u)∧e.val=tupA u∧entT e=u∧e.born < L.length:=by
 have:∀ (l:List Tup) (i:Nat),e∈sEnts (tupL l) i→∃ u∈l,e.key=.str (keyS u)∧e.val=tupA u∧entT e=u∧e.born < i + l.length:=by
  intro l
  induction l with
  | nil=>intro i h; simp [tupL,sEnts] at h
  | cons a l ih=>
    intro i h
    simp only [tupL,List.map_cons,sEnts,List.mem_cons] at h
    rcases h with rfl | h
    ·exact ⟨a,by simp,rfl,rfl,by simp [entT],by simp⟩
    ·obtain ⟨u,h1,h2,h3,h4,h5⟩:=ih (i + 1) h
     exact ⟨u,by simp [h1],h2,h3,h4,by simp; omega⟩
 obtain ⟨u,h1,h2,h3,h4,h5⟩:=this L 0 h
 exact ⟨u,h1,h2,h3,h4,by omega⟩
theorem zvm (L:List Tup):(tEnts L).map entT=L:=by
 have:∀ (l:List Tup) (i:Nat),(sEnts (tupL l) i).map entT=l:=by
  intro l
  induction l with
  | nil=>intro i; rfl
  | cons a l ih=>
    intro i
    simp only [tupL,List.map_cons,sEnts] at ih ⊢
    rw [ih (i + 1)]; simp [entT]
 exact this L 0
theorem z4j (L:List Tup):((tEnts L).map (·.born)).Nodup:=by
 have:∀ (l:List (ByteArray×AV)) (i:Nat),(sEnts l i).map (·.born)=List.range' i l.length:=by
  intro l
  induction l with
  | nil=>intro i; rfl
  | cons a l ih=>intro i; simp only [sEnts,List.map_cons,ih,List.length_cons,List.range'_succ]
 unfold tEnts
 rw [this]
 exact List.nodup_range'
theorem zzs (L:List Tup):(tEnts L).length=L.length:=by
 have:=congrArg List.length (zvm L)
 simpa using this
theorem z0t (u:Tup) (L:List Tup):∃ z,zm6 false [.str] .nilsl (.str (keyS u)) true (tEnts L)=some (.tuple [z, .bool (decide (u∈L))]):=by
 unfold zm6
 rw [zcp]
 cases hf:L.findIdx? (fun m=>decide (u=m)) with
 | none=>
   have:=z5f.1 hf
   exact ⟨.nilsl,by simp [this]⟩
 | some j=>
   have:u∈L:=by
    by_cases h:u∈L
    ·exact h
    ·rw [z5f.2 h] at hf; cases hf
   exact ⟨tupA u,by simp [this]⟩
theorem zx11:CmpT (.func zhd [] []):=by
 intro t u ht hu H
 obtain ⟨r,h1,rfl⟩:∃ r,zy (callW tbl) loopW zh6 [tupA t,tupA u]=some r∧r=i64 (tcmp t u):=by
  refine pureK zh6 rfl (fun F hF=>?_)
  have h1:=zi8 t u (tupA t) (tupA u) (zg4 t) (zg4 u) (by omega) (by omega) []
  simp [zh6,zwh,h1]
  exact hF _ _ _ (z6 rfl) rfl
 exact Go.Abs.Sort.pureA (f:=zhd) (af:=zh6) rfl rfl (by simp [AV.plains,zxa]) (by simp [AV.unlents,AV.unlent,tupA,zk7]) h1 H
theorem subN:TSub tbl tblN:=by
 intro f x h
 unfold tblN
 have h12:tbl 12=none:=rfl
 have h14:tbl 14=none:=rfl
 have h18:tbl 18=none:=rfl
 split
 ·rename_i e; subst e; rw [h12] at h; cases h
 ·split
  ·rename_i e; subst e; rw [h14] at h; cases h
  ·split
   ·rename_i e; subst e; rw [h18] at h; cases h
   ·exact h
end Go.Abs.Plan
