/- Exec: less, whatever way it runs. -/
import Derived.Test.YtddpdpjpfgnhmaaGreatG34x
import Derived.Test.YtddpdpjpfgnhmaaGreatG35x
import Derived.Test.YtddpdpjpfgnhmaaGreatG32x
import Derived.KernelRfl
set_option linter.unusedSimpArgs false
set_option linter.unusedVariables false
set_option maxHeartbeats 4000000
namespace Go.Abs.Plan
open Enc (Is)
def outOf (Lb:List Tup) (done:List MEnt):List Tup:=(done.map entT).filter fun t=>decide (t∉Lb)
theorem z1t {l:List Tup}:AV.plains (l.map tupA)=true:=by
 induction l with
 | nil=>rfl
 | cons t l ih=>simp [AV.plains,zxa] at ih ⊢; exact ih
theorem zqy {La Lb:List Tup} {done:List MEnt} (h:done.Perm (tEnts La)):(outOf Lb done).Perm (La.filter fun t=>decide (t∉Lb)):=by
 have:=(h.map entT).filter (fun t=>decide (t∉Lb))
 rw [zvm] at this
 exact this
theorem z2t {l D:List Tup} (hnd:l.Nodup) (hp:D.Perm l) (hs:D.Pairwise fun a b=>¬ TLt b a):D=sortT l:=by
 refine z1r ?_ (fun y=>hp.mem_iff)
 have hn:D.Nodup:=hp.nodup_iff.2 hnd
 refine (List.Pairwise.and hs hn).imp (fun {a b} h=>?_)
 rcases TLt.tri a b with k | k | k
 ·exact k
 ·exact absurd k h.2
 ·exact absurd k h.1
theorem z3t (k:Nat) (H:Heap) (hok:HOK H) (ia ib:Nat) (La Lb:List Tup) (ha:H[ia]? = some (.map 0 (tEnts La) La.length)) (hb:H[ib]? = some (.map 0 (tEnts Lb) Lb.length))
 (hla:La.length≤2 ^ 30) (hto:∀ t∈La,t.length≤2 ^ 30) (hnd:La.Nodup) :
 NW tblN (k + 1) (.func zhg [] []) [.map ia 0, .map ib 0] H (fun r H'=>r=relA (sortT (La.filter fun t=>decide (t∉Lb)))∧H'=H):=by
 have lia:=lt_of ha
 have lib:=lt_of hb
 refine zap znd rfl rfl rfl (fun F hF=>?_)
 simp [znd,zem]
 rw [zpg ha]
 simp
 unfold zwf
 refine z4f (es:=tEnts La) (mid:=ia) (mg:=0) (id:=H.length) (gen:=0) (clock:=La.length) (fun e he=>(zeb he).choose_spec.2.2.2.2) (z4j La)
  (fun done s=>s.dfr=[]∧s.tm.get 1=.map ib 0∧s.tm.get 11=.ptr H.length 0 0 0∧Acc (H++[iterB 0 ia 0 La.length done]) 1 (s.tm.get 5) s.heap ((outOf Lb done).map tupA)) ?_ ?_ ?_ ?_
 ·rintro done s ⟨q2,f1,f11,hacc⟩
  refine ⟨f11,?_,?_⟩
  ·rw [hacc.get (by simp)]; simp
  ·rw [hacc.get (by simp; omega),List.getElem?_append_left lia]; exact ha
 ·exact ⟨rfl,by simp,by simp,by simp; exact Acc.nil⟩
 ·rintro done e s F' ⟨q2,f1,f11,hacc⟩ he hed hsub hdn hgo1 hgo2 hx
  obtain ⟨u,hu,hkey,hval,hent,hborn⟩:=zeb he
  have hacc':=hacc.set (b:=H.length) (by simp) (iterB 0 ia 0 La.length (done++[e]))
  have hset:(H++[iterB 0 ia 0 La.length done]).set H.length (iterB 0 ia 0 La.length (done++[e]))=H++[iterB 0 ia 0 La.length (done++[e])]:=by simp
  rw [hset] at hacc'
  generalize s.heap.set H.length (iterB 0 ia 0 La.length (done++[e]))=H2 at hacc'
  have g1:H2[H.length]? = some (iterB 0 ia 0 La.length (done++[e])):=by rw [hacc'.get (by simp)]; simp
  have g2:H2[ia]? = some (.map 0 (tEnts La) La.length):=by rw [hacc'.get (by simp; omega),List.getElem?_append_left lia]; exact ha
  have g3:H2[ib]? = some (.map 0 (tEnts Lb) Lb.length):=by rw [hacc'.get (by simp; omega),List.getElem?_append_left lib]; exact hb
  have k3:=ze1 g3
  obtain ⟨z,hlk⟩:=z0t u Lb
  have hout:outOf Lb (done++[e])=outOf Lb done++if u∈Lb then [] else [u]:=by
   simp only [outOf,List.map_append,List.map_cons,List.map_nil,List.filter_append,hent]
   by_cases h:u∈Lb <;> simp [h]
  simp [f11]
  rw [zqg g1 g2 (z4j La) he]
  simp [hkey,hval]
  by_cases h:u∈Lb
  ·rw [if_pos h,List.append_nil] at hout
   rw [← hout] at hacc'
   simp [h] at hlk
   simp [f1,k3,hlk]
   exact hgo1 _ ⟨by simp [q2],by simp [f1],by simp [f11],by simp; exact hacc'⟩
  ·rw [if_neg h] at hout
   simp [h] at hlk
   have hol:(outOf Lb done).length≤2 ^ 30:=by
    have h1:(outOf Lb done).length≤done.length:=by simp [outOf]; exact Nat.le_trans (List.length_filter_le _ _) (by simp)
    have h2:done.length≤(tEnts La).length:=by classical exact za4 hdn hsub
    rw [zzs] at h2; omega
   obtain ⟨v',Hs',hacc2,happ⟩:=hacc'.oneN (tbl:=tblN) (k:=k) (bytes:=24) (r:=tupA u) (fl:=false) rfl (by simp; omega)
   have hout2:(outOf Lb done).map tupA++[tupA u]=(outOf Lb (done++[e])).map tupA:=by rw [hout]; simp
   rw [hout2] at hacc2
   have hro:AV.rowok 1 (tupA u)=true:=rfl
   simp [f1,k3,hlk,hro,zr]
   rw [happ _ _ _ _ _ _ _ (by simp)]
   simp
   exact hgo1 _ ⟨by simp [q2],by simp [f1],by simp [f11],by simp; exact hacc2⟩
 ·rintro done s ⟨q2,f1,f11,hacc⟩ hperm
  have hpm:=zqy (Lb:=Lb) hperm
  have hndf:(La.filter fun t=>decide (t∉Lb)).Nodup:=hnd.filter _
  have hok1:HOK (H++[iterB 0 ia 0 La.length done]):=hok.push (by simp [iterB,Blk.under,AV.under]; omega)
  simp
  rcases hacc with ⟨h1,h2,h3⟩ | ⟨g,h1,h2,h3⟩
  ·have hnil:sortT (La.filter fun t=>decide (t∉Lb))=[]:=by
    have h4:outOf Lb done=[]:=by simpa using h1
    rw [h4] at hpm
    rw [List.nil_perm.1 hpm]; rfl
   refine zr4 (zm1 subN (by rw [h2,h3]; exact zys _ _)) ?_
   simp [h2,h3,q2]
   refine hF _ _ ?_
   show (zj true _ _ _).1=_∧(zj true _ _ _).2=_
   rw [zi9 hok rfl (z6 rfl)]
   exact ⟨by rw [hnil]; rfl,rfl⟩
  ·have hol:∀ t∈outOf Lb done,t.length≤2 ^ 30:=fun t ht=>hto t (List.mem_filter.1 (hpm.mem_iff.1 ht)).1
   have hol2:(outOf Lb done).length≤La.length:=by rw [hpm.length_eq]; exact List.length_filter_le _ _
   obtain ⟨D,hc,hDp,hDs⟩:=zep _ zx11 s.heap (Acc.hok (.inr ⟨g,h1,h2,h3⟩) hok1 z1t) (H++[iterB 0 ia 0 La.length done]).length g (outOf Lb done) hol (by rw [h3]; simp) (by omega)
   have hD:D=sortT (La.filter fun t=>decide (t∉Lb)):=z2t hndf (hDp.trans hpm) hDs
   rw [List.length_map] at h2
   refine zr4 (zm1 subN (by rw [h2]; exact hc)) ?_
   have hset:s.heap.set (H++[iterB 0 ia 0 La.length done]).length (.arr g 1 (D.map tupA))=H++[iterB 0 ia 0 La.length done, .arr g 1 (D.map tupA)]:=by rw [h3]; simp
   rw [hset]
   simp [h2,q2]
   have hDne:D≠[]:=by rintro rfl; exact h1 (by rw [List.nil_perm.1 hDp]; rfl)
   refine hF _ _ ?_
   have hlen:D.length=(outOf Lb done).length:=hDp.length_eq
   have hre:reify (zs8 H.length (H++[iterB 0 ia 0 La.length done, .arr g 1 (D.map tupA)])) zw (.sl (H.length + 1) g 0 (outOf Lb done).length)=some (.fsl false (D.map tupA)):=
    zd5 (sz:=1) (R:=D.map tupA) (xs:=D) (by rw [zeg]; rfl) (by simp [hlen]) (by rw [← hlen]; simp [List.take_of_length_le]) (zr6 (fun t=>zg4 t) D)
   show (zj true _ _ _).1=_∧(zj true _ _ _).2=_
   rw [zi9 hok rfl hre]
   exact ⟨by rw [← hD]; simp [relA,hDne],rfl⟩
end Go.Abs.Plan
namespace Go.Abs.Plan
open Enc (Is)
theorem zwm (l:List Term) (hl:l.length≤2 ^ 20) (rel:List Tup) (ht:∀ t∈rel,TupOk t):(seenL l rel).length≤rel.length∧(seenL l rel).Nodup∧∀ t∈seenL l rel,TupOk t:=by
 unfold seenL
 suffices ∀ (o:List Tup) (m:Nat),o.length≤m→o.Nodup→(∀ t∈o,TupOk t)→(rel.foldl (z97 l) o).length≤m + rel.length∧(rel.foldl (z97 l) o).Nodup∧∀ t∈rel.foldl (z97 l) o,TupOk t by
  have:=this [] 0 (by simp) List.nodup_nil (by simp)
  simpa using this
 induction rel with
 | nil=>intro o m h1 h2 h3; exact ⟨h1,h2,h3⟩
 | cons t rel ih=>
   intro o m h1 h2 h3
   have key:(z97 l o t).length≤m + 1∧(z97 l o t).Nodup∧∀ t'∈z97 l o t,TupOk t':=by
    unfold z97
    split
    ·rename_i u hu
     have hu2:=zdp hu (ht t (by simp)) hl
     unfold addT
     split
     ·exact ⟨by omega,h2,h3⟩
     ·rename_i hn
      refine ⟨by simp; omega,?_,?_⟩
      ·rw [List.nodup_append]
       exact ⟨h2,by simp,fun a ha b hb=>by simp at hb; subst hb; exact fun e=>hn (by rw [← e]; exact ha)⟩
      ·intro t' h'
       rcases List.mem_append.1 h' with h' | h'
       ·exact h3 t' h'
       ·simp at h'; subst h'; exact hu2
    ·exact ⟨by omega,h2,h3⟩
   have:=ih (fun t h=>ht t (by simp [h])) (z97 l o t) (m + 1) key.1 key.2.1 key.2.2
   simp only [List.foldl_cons,List.length_cons]
   exact ⟨by omega,this.2⟩
def zfp (a b:List Tup):List Tup:=sortT (a.filter fun t=>decide (t∉b))
def z7i (l:Lit) (old now:List Tup):List Tup×List Tup:=
 if l.kind=1 then (zfp (seenL l.atom.args now) (seenL l.atom.args old),zfp (seenL l.atom.args old) (seenL l.atom.args now))
 else if l.kind=2 then (zfp (seenL l.atom.args old) (seenL l.atom.args now),zfp (seenL l.atom.args now) (seenL l.atom.args old))
 else ([],[])
def zvd (l:Lit) (old now:List Tup):AV:=.tuple [relA (z7i l old now).1,relA (z7i l old now).2]
theorem zlf (D:List Tup):(relA D).plain=true:=Enc.plain (z2r D)
theorem zxm (D:List Tup):(relA D).unlent=true:=by
 unfold relA
 split
 ·rfl
 ·have:∀ l:List Tup,AV.unlents (l.map tupA)=true:=by
   intro l
   induction l with
   | nil=>rfl
   | cons t l ih=>simp [AV.unlents,AV.unlent,tupA,zk7] at ih ⊢; exact ih
  simpa [AV.unlent] using this D
theorem zgp (k:Nat) (l:Lit) (old now:List Tup) (v w x:AV) (hv:Is v l) (hw:Is w old) (hx:Is x now) (hl:l.atom.args.length≤2 ^ 20)
 (ho:old.length≤2 ^ 20) (hn:now.length≤2 ^ 20) (hto:∀ t∈old,TupOk t) (htn:∀ t∈now,TupOk t) :
 NPURE (callW tblN) (NW tblN (k + 1)) zf3 [v,w,x] (fun r=>r=zvd l old now):=by
 obtain ⟨va,hva,rfl⟩:=hv
 have c1:=fun H=>zm1 subN (zus l.atom.args old va w hva hw hl ho hto H)
 have c2:=fun H=>zm1 subN (zus l.atom.args now va x hva hx hl hn htn H)
 obtain ⟨so1,so2,so3⟩:=zwm l.atom.args hl old hto
 obtain ⟨sn1,sn2,sn3⟩:=zwm l.atom.args hl now htn
 have so4:∀ t∈seenL l.atom.args old,t.length≤2 ^ 30:=fun t ht=>Nat.le_trans (so3 t ht).len (by omega)
 have sn4:∀ t∈seenL l.atom.args now,t.length≤2 ^ 30:=fun t ht=>Nat.le_trans (sn3 t ht).len (by omega)
 have k1:∀ z:Int,(l.kind == z)=decide (l.kind=z):=fun _=>rfl
 refine zn11 zf3 rfl (fun F hF=>?_)
 have hcell:=zb hva
 have hokH:HOK [Blk.map 0 (tEnts (seenL l.atom.args old)) (seenL l.atom.args old).length,Blk.map 0 (tEnts (seenL l.atom.args now)) (seenL l.atom.args now).length]:=by
  have hm:∀ (L:List Tup) (n m:Nat),Blk.under n (.map 0 (tEnts L) m)=true:=by
   intro L n m
   simp only [Blk.under,List.all_eq_true]
   intro e he
   obtain ⟨u,_,h1,h2,_⟩:=zeb he
   rw [h1,h2,zu5 _ (zxa u)]
   rfl
  intro B hB
  simp only [List.mem_cons,List.not_mem_nil,or_false] at hB
  rcases hB with rfl | rfl <;> exact hm _ _ _
 have l1:=z3t k _ hokH 1 0 (seenL l.atom.args now) (seenL l.atom.args old) rfl rfl (by omega) sn4 sn2
 have l2:=z3t k _ hokH 0 1 (seenL l.atom.args old) (seenL l.atom.args now) rfl rfl (by omega) so4 so2
 by_cases h1:l.kind=1
 ·have h2:¬ l.kind=2:=by omega
  simp [zf3,zia,AV.rowok,hcell,h1]
  refine zsq ?_
  simp [hcell,h1,c1,c2]
  refine zh8 l1 ?_
  rintro r H' ⟨rfl,rfl⟩
  simp
  refine zh8 l2 ?_
  rintro r H' ⟨rfl,rfl⟩
  simp
  exact hF _ _ _ (z6 (by simp [AV.plain,AV.plains,zlf])) (by simp [zvd,z7i,h1,zfp])
 ·by_cases h2:l.kind=2
  ·simp [zf3,zia,AV.rowok,hcell,h1,h2]
   refine zsq ?_
   simp [hcell,h1,h2,c1,c2]
   refine zh8 l2 ?_
   rintro r H' ⟨rfl,rfl⟩
   simp
   refine zh8 l1 ?_
   rintro r H' ⟨rfl,rfl⟩
   simp
   exact hF _ _ _ (z6 (by simp [AV.plain,AV.plains,zlf])) (by simp [zvd,z7i,h2,zfp])
  ·have h:zvd l old now=.tuple [.nilsl, .nilsl]:=by simp [zvd,z7i,h1,h2,relA]
   simp [zf3,zia,AV.rowok,hcell,h1,h2]
   exact hF _ _ _ (z6 rfl) h.symm
theorem z3o (l:Lit) (old now:List Tup):(zvd l old now).unlent=true:=by simp [zvd,AV.unlent,AV.unlents,zxm]
theorem zfv (k:Nat) (l:Lit) (old now:List Tup) (v w x:AV) (hv:Is v l) (hw:Is w old) (hx:Is x now) (hl:l.atom.args.length≤2 ^ 20)
 (ho:old.length≤2 ^ 20) (hn:now.length≤2 ^ 20) (hto:∀ t∈old,TupOk t) (htn:∀ t∈now,TupOk t) (H:Heap) :
 NW tblN (k + 2) (.func zdd [] []) [v,w,x] H (fun r H'=>r=zvd l old now∧H'=H):=by
 refine zo11 (af:=zf3) rfl rfl (by simp [AV.plains,Enc.plain hv,Enc.plain hw,Enc.plain hx]) ?_
 split
 ·have:=zgp k l old now v w x hv hw hx hl ho hn hto htn
  simpa using this
 ·have:=zgp k l old now v.lend w.lend x.lend (Enc.lend hv) (Enc.lend hw) (Enc.lend hx) hl ho hn hto htn
  refine zwc (z3a _) this ?_
  rintro r rfl
  simp [z3o]
end Go.Abs.Plan
namespace Go.Abs
open Enc (Is)
theorem zwd {tbl:FuncId→Option AFun} {f:FuncId} {af:AFunc} (ht:tbl f=some (.code af)) (hp:af.pure=true) {R:List AV→Prop} {S:AV→Prop} (hle:∀ a,R a→R (AV.lends a))
 (hrun:∀ a,R a→∃ r,zy (callW tbl) loopW af a=some r∧S r∧r.unlent=true) (a a':List AV) (H:Heap) (hre:zx3 (reify H zw) a=some a') (ha:R a'):∃ r,callW tbl (.func f [] []) a H=some (r,H)∧S r:=by
 cases hpl:AV.plains a with
 | true=>
   have hid:∀ (l l':List AV),AV.plains l=true→zx3 (reify H zw) l=some l'→l'=l:=by
    intro l
    induction l with
    | nil=>intro l' _ h; simp only [zx3,Option.some.injEq] at h; exact h.symm
    | cons x l ih=>
      intro l' h1 h2
      simp only [AV.plains,Bool.and_eq_true] at h1
      simp only [zx3,z6 h1.1] at h2
      split at h2
      ·rename_i v' vs' e1 e2
       simp only [Option.some.injEq] at e1 h2
       subst e1; subst h2
       rw [ih _ h1.2 e2]
      ·simp at h2
   have:=hid a a' hpl hre
   subst this
   by_cases hu:AV.unlents a'=true
   ·obtain ⟨r,h1,h2,h3⟩:=hrun a' ha
    have:=zc5 (tbl:=tbl) (first:=[]) (captured:=[]) (args:=a') (H:=H) (r:=r) ht hp (by simpa using hpl) (by simpa [hu] using h1)
    exact ⟨r,by rw [this]; simp [h3],h2⟩
   ·obtain ⟨r,h1,h2,h3⟩:=hrun _ (hle _ ha)
    have:=zc5 (tbl:=tbl) (first:=[]) (captured:=[]) (args:=a') (H:=H) (r:=r) ht hp (by simpa using hpl) (by simpa [hu] using h1)
    exact ⟨r,by rw [this]; simp [h3],h2⟩
 | false=>
   obtain ⟨r,h1,h2,h3⟩:=hrun _ (hle _ ha)
   exact ⟨r,zwo (args':=a') ht hp (by simpa using hpl) (by simpa using hre) h1 h3,h2⟩
theorem z3r {H T:Heap} {id g off len n:Nat} (h:HOK H) (hn:n=H.length) (hid:id < H.length):zj true n (.sl id g off len) (H++T)=(.sl id g off len,H):=by
 subst hn
 have hre:reify (zs8 H.length (H++T)) zw (.sl id g off len)=none:=by
  have:(zs8 H.length (H++T))[id]? = some (.dead 0):=by
   unfold zs8
   rw [List.getElem?_append_left (by simpa using hid)]
   simp [hid]
  unfold zw reify
  simp only [AV.plain,Bool.false_eq_true,if_false,this]
 simp only [zj,if_true,freeze]
 rw [List.take_left' rfl,h.all,hre]
 simp only [if_true,trunc]
 rw [List.take_left' rfl,h.all]
 simp [AV.under,hid]
end Go.Abs
namespace Go.Abs.Plan
open Enc (Is)
theorem z6a1 (a b:Val):binA .eql (.cells [.int, .int, .str]) a.enc b.enc=some (.bool (decide (a=b))):=by
 show (some (AV.bool ((a.kind == b.kind) && ((a.n == b.n) && ((a.s.toList == b.s.toList) && true)))):Option AV)=_
 congr 2
 obtain ⟨k1,n1,s1⟩:=a
 obtain ⟨k2,n2,s2⟩:=b
 have hs:(s1.toList=s2.toList)↔s1=s2:=⟨zo7,fun h=>by rw [h]⟩
 by_cases h1:k1=k2 <;> by_cases h2:n1=n2 <;> by_cases h3:s1=s2 <;> simp [h1,h2,h3,hs]
theorem zy11 (a:Val):vcmp a a=0:=zd9.eq a a |>.2 rfl
def zt1 (op:Int) (a b:Val):Bool:=
 if op=1 then decide (vcmp a b=0) else if op=2 then decide (vcmp a b≠0) else if op=3 then decide (vcmp a b < 0) else if op=4 then decide (vcmp a b≤0) else if op=5 then decide (0 < vcmp a b) else if op=6 then decide (0≤vcmp a b) else false
theorem sgn (z:Int):(z < 0∧¬ z=0∧z≤0∧¬ 0 < z∧¬ 0≤z)∨(¬ z < 0∧z=0∧z≤0∧¬ 0 < z∧0≤z)∨(¬ z < 0∧¬ z=0∧¬ z≤0∧0 < z∧0≤z):=by omega
theorem zz11 (op:Int) (a b:Val):∃ r,zy (callW tbl) loopW zn [i64 op,a.enc,b.enc]=some r∧r=.tuple [.bool (zt1 op a b),i64 (if 1≤op∧op≤6 then 0 else 1)]:=by
 have hc:=fun H=>zxb a b H
 have hra:AV.rowok 3 a.enc=true:=rfl
 have hrb:AV.rowok 3 b.enc=true:=rfl
 have hz:∃ z,z=vcmp a b:=⟨_,rfl⟩
 obtain ⟨z,hz⟩:=hz
 rw [← hz] at hc
 refine pureK zn rfl (fun F hF=>?_)
 have hop:∀ n:Int,1≤n→n≤6→op=n→(1≤op∧op≤6):=by intro n h1 h2 h3; omega
 rcases sgn z with ⟨k1,k2,k3,k4,k5⟩ | ⟨k1,k2,k3,k4,k5⟩ | ⟨k1,k2,k3,k4,k5⟩
 ·by_cases h2:op=2
  ·subst h2; simp [zn,zt,hra,hrb,hc,k1,k2,k3,k4,k5]; exact hF _ _ _ (z6 rfl) (by simp [zt1,← hz,k1,k2,k3,k4,k5])
  by_cases h5:op=5
  ·subst h5; simp [zn,zt,hra,hrb,hc,k1,k2,k3,k4,k5]; exact hF _ _ _ (z6 rfl) (by simp [zt1,← hz,k1,k2,k3,k4,k5])
  by_cases h6:op=6
  ·subst h6; simp [zn,zt,hra,hrb,hc,k1,k2,k3,k4,k5]; exact hF _ _ _ (z6 rfl) (by simp [zt1,← hz,k1,k2,k3,k4,k5])
  by_cases h4:op=4
  ·subst h4; simp [zn,zt,hra,hrb,hc,k1,k2,k3,k4,k5]; exact hF _ _ _ (z6 rfl) (by simp [zt1,← hz,k1,k2,k3,k4,k5])
  by_cases h1:op=1
  ·subst h1; simp [zn,zt,hra,hrb,hc,k1,k2,k3,k4,k5]; exact hF _ _ _ (z6 rfl) (by simp [zt1,← hz,k1,k2,k3,k4,k5])
  by_cases h3:op=3
  ·subst h3; simp [zn,zt,hra,hrb,hc,k1,k2,k3,k4,k5]; exact hF _ _ _ (z6 rfl) (by simp [zt1,← hz,k1,k2,k3,k4,k5])
  have hno:¬ (1≤op∧op≤6):=by omega
  simp [zn,zt,hra,hrb,hc,h1,h2,h3,h4,h5,h6]
  exact hF _ _ _ (z6 rfl) (by rw [if_neg hno]; simp [zt1,h1,h2,h3,h4,h5,h6])
 ·by_cases h2:op=2
  ·subst h2; simp [zn,zt,hra,hrb,hc,k1,k2,k3,k4,k5]; exact hF _ _ _ (z6 rfl) (by simp [zt1,← hz,k1,k2,k3,k4,k5])
  by_cases h5:op=5
  ·subst h5; simp [zn,zt,hra,hrb,hc,k1,k2,k3,k4,k5]; exact hF _ _ _ (z6 rfl) (by simp [zt1,← hz,k1,k2,k3,k4,k5])
  by_cases h6:op=6
  ·subst h6; simp [zn,zt,hra,hrb,hc,k1,k2,k3,k4,k5]; exact hF _ _ _ (z6 rfl) (by simp [zt1,← hz,k1,k2,k3,k4,k5])
  by_cases h4:op=4
  ·subst h4; simp [zn,zt,hra,hrb,hc,k1,k2,k3,k4,k5]; exact hF _ _ _ (z6 rfl) (by simp [zt1,← hz,k1,k2,k3,k4,k5])
  by_cases h1:op=1
  ·subst h1; simp [zn,zt,hra,hrb,hc,k1,k2,k3,k4,k5]; exact hF _ _ _ (z6 rfl) (by simp [zt1,← hz,k1,k2,k3,k4,k5])
  by_cases h3:op=3
  ·subst h3; simp [zn,zt,hra,hrb,hc,k1,k2,k3,k4,k5]; exact hF _ _ _ (z6 rfl) (by simp [zt1,← hz,k1,k2,k3,k4,k5])
  have hno:¬ (1≤op∧op≤6):=by omega
  simp [zn,zt,hra,hrb,hc,h1,h2,h3,h4,h5,h6]
  exact hF _ _ _ (z6 rfl) (by rw [if_neg hno]; simp [zt1,h1,h2,h3,h4,h5,h6])
 ·by_cases h2:op=2
  ·subst h2; simp [zn,zt,hra,hrb,hc,k1,k2,k3,k4,k5]; exact hF _ _ _ (z6 rfl) (by simp [zt1,← hz,k1,k2,k3,k4,k5])
  by_cases h5:op=5
  ·subst h5; simp [zn,zt,hra,hrb,hc,k1,k2,k3,k4,k5]; exact hF _ _ _ (z6 rfl) (by simp [zt1,← hz,k1,k2,k3,k4,k5])
  by_cases h6:op=6
  ·subst h6; simp [zn,zt,hra,hrb,hc,k1,k2,k3,k4,k5]; exact hF _ _ _ (z6 rfl) (by simp [zt1,← hz,k1,k2,k3,k4,k5])
  by_cases h4:op=4
  ·subst h4; simp [zn,zt,hra,hrb,hc,k1,k2,k3,k4,k5]; exact hF _ _ _ (z6 rfl) (by simp [zt1,← hz,k1,k2,k3,k4,k5])
  by_cases h1:op=1
  ·subst h1; simp [zn,zt,hra,hrb,hc,k1,k2,k3,k4,k5]; exact hF _ _ _ (z6 rfl) (by simp [zt1,← hz,k1,k2,k3,k4,k5])
  by_cases h3:op=3
  ·subst h3; simp [zn,zt,hra,hrb,hc,k1,k2,k3,k4,k5]; exact hF _ _ _ (z6 rfl) (by simp [zt1,← hz,k1,k2,k3,k4,k5])
  have hno:¬ (1≤op∧op≤6):=by omega
  simp [zn,zt,hra,hrb,hc,h1,h2,h3,h4,h5,h6]
  exact hF _ _ _ (z6 rfl) (by rw [if_neg hno]; simp [zt1,h1,h2,h3,h4,h5,h6])
theorem zry (op:Int) (a b:Val) (H:Heap):callW tbl (.func zb8 [] []) [i64 op,a.enc,b.enc] H=some (.tuple [.bool (zt1 op a b),i64 (if 1≤op∧op≤6 then 0 else 1)],H):=by
 obtain ⟨r,h,rfl⟩:=zz11 op a b
 exact zt7 rfl rfl rfl rfl h H
def zo1 (c:Col) (t:Tup):Val:=if c.use=1 then c.v else t.getD c.var.toNat zi
def ColIn (n:Nat) (c:Col):Prop:=c.use=1∨(0≤c.var∧c.var.toNat < n)
theorem z021 (c:Col) (t:Tup) (w:AV) (hw:Is w t) (hc:ColIn t.length c):∃ r,zy (callW tbl) loopW zv7 [c.enc,w]=some r∧r=(zo1 c t).enc:=by
 have hra:AV.rowok 5 c.enc=true:=rfl
 refine pureK zv7 rfl (fun F hF=>?_)
 by_cases h1:c.use=1
 ·simp [zv7,z0j,hra,h1,AV.rowok,zz]
  exact hF _ _ _ (z6 rfl) (by simp [zo1,h1])
 ·rcases hc with hc | ⟨h2,h3⟩
  ·exact absurd hc h1
  obtain ⟨j,hj⟩:∃ j:Nat,c.var=(j:Int):=⟨c.var.toNat,by omega⟩
  rw [hj,Int.toNat_natCast] at h3
  have hg:t[j]? = some t[j]:=by simp [h3]
  obtain ⟨fl,r,rfl,hidx⟩:=IsL.idx hw hg
  simp only [show Enc.sz Val=3 from rfl] at hidx
  simp [zv7,z0j,hra,h1,hj,hidx,AV.rowok,zz]
  refine hF _ _ _ (z6 rfl) ?_
  have:zo1 c t=t[j]:=by simp [zo1,h1,hj,h3]
  rw [this]
def TS (H:Heap) (v:AV) (t:Tup):Prop:=∃ id g,v=.sl id g 0 t.length∧H[id]? = some (.arr g 3 (t.map Val.enc))
theorem TS.reify {H:Heap} {v:AV} {t:Tup} (h:TS H v t):Go.Abs.reify H zw v=some (tupA t):=by
 obtain ⟨id,g,rfl,hB⟩:=h
 exact zd5 (sz:=3) (R:=t.map Val.enc) (xs:=t) hB (by simp) (by simp [List.take_of_length_le]) (zr6 (fun _=>rfl) t)
theorem z8i (c:Col) (t:Tup) (v:AV) (H:Heap) (hv:TS H v t) (hc:ColIn t.length c):callW tbl (.func zm4 [] []) [c.enc,v] H=some ((zo1 c t).enc,H):=by
 obtain ⟨r,h,rfl⟩:=zwd (tbl:=tbl) (f:=zm4) (af:=zv7) rfl rfl (R:=fun a=>∃ w,a=[c.enc,w]∧Is w t) (S:=fun r=>r=(zo1 c t).enc) (by rintro _ ⟨w,rfl,hw⟩; exact ⟨w.lend,rfl,Enc.lend hw⟩)
  (by rintro _ ⟨w,rfl,hw⟩; obtain ⟨r,h1,rfl⟩:=z021 c t w hw hc; exact ⟨_,h1,rfl,rfl⟩) [c.enc,v] [c.enc,tupA t] H (by simp [zx3,hv.reify,z6 (v:=c.enc) rfl]) ⟨_,rfl,zg4 t⟩
 exact h
theorem z451 (c:Col) (t:Tup) (v:AV) (H:Heap) (hv:Is v t) (hc:ColIn t.length c):callW tbl (.func zm4 [] []) [c.enc,v] H=some ((zo1 c t).enc,H):=by
 obtain ⟨r,h,rfl⟩:=zwd (tbl:=tbl) (f:=zm4) (af:=zv7) rfl rfl (R:=fun a=>∃ w,a=[c.enc,w]∧Is w t) (S:=fun r=>r=(zo1 c t).enc) (by rintro _ ⟨w,rfl,hw⟩; exact ⟨w.lend,rfl,Enc.lend hw⟩)
  (by rintro _ ⟨w,rfl,hw⟩; obtain ⟨r,h1,rfl⟩:=z021 c t w hw hc; exact ⟨_,h1,rfl,rfl⟩) [c.enc,v] [c.enc,v] H (by simp [zx3,z6 (Enc.plain hv),z6 (v:=c.enc) rfl]) ⟨_,rfl,hv⟩
 exact h
def AccD (H0:Heap) (b:AV) (Hs:Heap) (l:List UInt8):Prop:=(l=[]∧b=.nilsl∧Hs=H0)∨∃ g T,b=.sl H0.length g 0 l.length∧Hs=H0++.arr g 1 (bcells l)::T
theorem AccD.close {H0 H':Heap} {w:AV} {l:List UInt8} {n:Nat} (h:AccD H0 w H' l) (hw:w≠.nilsl):AccD H0 (zj false n w H').1 (zj false n w H').2 l:=by
 rcases h with ⟨_,rfl,_⟩ | ⟨g,T,rfl,rfl⟩
 ·exact absurd rfl hw
 ·simp only [zj,Bool.false_eq_true,if_false,trunc]
  split
  ·rename_i hu
   simp only [Bool.and_eq_true,AV.under,decide_eq_true_eq] at hu
   refine .inr ⟨g,T.take (n - H0.length - 1),rfl,?_⟩
   have:n=H0.length + ((n - H0.length - 1) + 1):=by omega
   conv=>lhs; rw [this]
   rw [List.take_length_add_append,List.take_succ_cons]
  ·exact .inr ⟨g,T,rfl,rfl⟩
theorem zhp (v:Val) (hv:ValOk v) (b:AV) (l:List UInt8) (H0 H:Heap) (hb:AccD H0 b H l) (hl:l.length < 2 ^ 45) :
 ∃ r H',callW tbl (.func zc7 [] []) [b,v.enc] H=some (r,H')∧AccD H0 r H' (l++valB v):=by
 have hp1:=zoa v.kind hv.k1 hv.k2
 have hp2:=zoa v.n hv.n1 hv.n2
 have hp3:=zyf v.s.data.toList (by have:=hv.s; omega)
 have n1:=zi6 (zsm hv.k1 hv.k2)
 have n2:=zi6 (zsm hv.n1 hv.n2)
 have m1:(numB (zig v.kind)).length≠0:=by have:=z69 (zig v.kind); simpa using this
 have m2:(numB (zig v.n)).length≠0:=by have:=z69 (zig v.n); simpa using this
 have hcells:cellsOf v.s=bcells v.s.data.toList:=rfl
 have key:∃ w H',(w≠.nilsl∧AccD H0 w H' (l++valB v))∧callW tbl (.func zc7 [] []) [b,v.enc] H=some (zj false H.length w H'):=by
  refine callE (fun w H'=>w≠.nilsl∧AccD H0 w H' (l++valB v)) z06 rfl rfl rfl (fun F hF=>?_)
  have hrow:AV.rowok 3 v.enc=true:=rfl
  have hcl:v.enc.cells=[i64 v.kind,i64 v.n, .str v.s]:=rfl
  have hT:(bcells (textB v.s.data.toList)).length≠0:=by rw [zk1]; simp [textB,z69]
  have hTl:(textB v.s.data.toList).length≠0:=by simp [textB,z69]
  have hTb:=z1i hv
  generalize hA:numB (zig v.kind)=A at *
  generalize hB:numB (zig v.n)=B at *
  generalize hC:textB v.s.data.toList=C at *
  have hval:valB v=A++B++C:=by rw [← hA,← hB,← hC]; rfl
  have hvl:(A++B++C).length≤2 ^ 20 + 30:=by rw [← hval]; exact hTb
  simp only [List.length_append] at hvl
  have r1:A.length≤140737488355328:=by omega
  have r2:A.length + B.length≤140737488355328:=by omega
  have r3:¬ (A.length + B.length≤A.length):=by omega
  have r4:¬ (B.length=0):=m2
  rcases hb with ⟨rfl,rfl,rfl⟩ | ⟨g,T,rfl,hH⟩
  ·have r5:A.length + B.length + C.length≤140737488355328:=by omega
   have r6:¬ (A.length + B.length + C.length≤A.length + B.length):=by omega
   have t0:List.take (A.length + B.length) (bcells (A++B))=bcells (A++B):=List.take_of_length_le (by simp [zk1])
   simp [z06,zcb,hrow,hcl,hp1,hp2,hcells,zh1,zg3,zi1,zk1,m1,m2,room,zkf,r1,r2,r3,r4,ztm,← zb4,hp3,hTl,r5,r6,t0]
   refine hF _ _ ⟨by simp, .inr ⟨3,[.dead 0],by rw [hval]; simp [Nat.add_assoc],?_⟩⟩
   rw [hval]; simp
  ·have hBk:H[H0.length]? = some (.arr g 1 (bcells l)):=by rw [hH]; simp
   have hset:∀ (X:Blk) (D:Heap),(H++D).set H0.length X=H0++X::(T++D):=fun X D=>by rw [hH]; simp
   have k0:=ze1 hBk
   have k1:=lt_of hBk
   obtain ⟨id,hid⟩:∃ id,id=H0.length:=⟨_,rfl⟩
   rw [← hid] at k0 k1 hset ⊢
   have s1:l.length + A.length≤140737488355328:=by omega
   have s2:l.length + A.length + B.length≤140737488355328:=by omega
   have s5:id < H.length + 2:=by omega
   have s6:l.length + A.length + B.length + C.length≤140737488355328:=by omega
   have s7:¬ (l.length + A.length + B.length + C.length≤l.length + A.length + B.length):=by omega
   have s8:¬ (C.length=0):=hTl
   have t1:List.take (l.length + A.length) (bcells (l++A))=bcells (l++A):=List.take_of_length_le (by simp [zk1])
   have t2:List.take (l.length + A.length + B.length) (bcells (l++(A++B)))=bcells (l++(A++B)):=List.take_of_length_le (by simp [zk1]; omega)
   have s9:l.length + A.length + B.length≤l.length + (A.length + B.length):=by omega
   have s10:¬ (l.length + A.length + B.length + C.length≤l.length + (A.length + B.length)):=by omega
   have s3:¬ (l.length + A.length≤l.length):=by omega
   have s4:¬ (l.length + A.length + B.length≤l.length + A.length):=by omega
   simp [z06,zcb,hrow,hcl,hp1,hp2,hcells,zh1,zg3,zi1,zk1,m1,m2,room,zkf,r1,r2,r3,r4,s1,s2,s3,s4,s5,s6,s7,s8,s9,s10,hTl,hp3,k0,k1,t1,t2,ztm,← zb4]
   refine hF _ _ ⟨by simp, .inr ⟨g + 1 + 1 + 1,T++[.dead 0, .dead 0],by rw [hval]; simp [Nat.add_assoc]; exact hid,?_⟩⟩
   rw [hval,hid,hH]
   simp
 obtain ⟨w,H',⟨hne,hP⟩,hc⟩:=key
 exact ⟨(zj false H.length w H').1,(zj false H.length w H').2,hc,hP.close hne⟩
end Go.Abs.Plan
namespace Go.Abs.Plan
open Enc (Is)
def opOk (op:Int):Prop:=op=1∨op=2∨op=3∨op=4∨op=5∨op=6
instance (op:Int):Decidable (opOk op):=by unfold opOk; exact inferInstance
theorem compare0:zy (callK tbl 30) (lpK 30) zs3 [zi.enc,zi.enc]=some (i64 0):=by kernel_rfl
theorem z4r (H:Heap):callW tbl (.func zo3 [] []) [zi.enc,zi.enc] H=some (i64 0,H):=zt7 rfl rfl rfl rfl (zsf compare0) H
theorem zsy (op:Int):∃ r,zy (callW tbl) loopW zn [i64 op,zi.enc,zi.enc]=some r∧∃ b,r=.tuple [.bool b,i64 (if opOk op then 0 else 1)]:=by
 have hc:=fun H=>z4r H
 simp only [Val.enc,zi] at hc
 refine pureK zn rfl (fun F hF=>?_)
 by_cases h2:op=2
 ·subst h2; simp [zn,zt,AV.rowok,zi,hc]; exact hF _ _ _ (z6 rfl) ⟨_,rfl⟩
 by_cases h5:op=5
 ·subst h5; simp [zn,zt,AV.rowok,zi,hc]; exact hF _ _ _ (z6 rfl) ⟨_,rfl⟩
 by_cases h6:op=6
 ·subst h6; simp [zn,zt,AV.rowok,zi,hc]; exact hF _ _ _ (z6 rfl) ⟨_,rfl⟩
 by_cases h4:op=4
 ·subst h4; simp [zn,zt,AV.rowok,zi,hc]; exact hF _ _ _ (z6 rfl) ⟨_,rfl⟩
 by_cases h1:op=1
 ·subst h1; simp [zn,zt,AV.rowok,zi,hc]; exact hF _ _ _ (z6 rfl) ⟨_,rfl⟩
 by_cases h3:op=3
 ·subst h3; simp [zn,zt,AV.rowok,zi,hc]; exact hF _ _ _ (z6 rfl) ⟨_,rfl⟩
 ·simp [zn,zt,AV.rowok,zi,hc,h1,h2,h3,h4,h5,h6]
  exact hF _ _ _ (z6 rfl) ⟨false,by simp [opOk,h1,h2,h3,h4,h5,h6]⟩
theorem zym (op:Int) (H:Heap):∃ b,callW tbl (.func zb8 [] []) [i64 op,zi.enc,zi.enc] H=some (.tuple [.bool b,i64 (if opOk op then 0 else 1)],H):=by
 obtain ⟨r,h,b,rfl⟩:=zsy op
 exact ⟨b,zt7 rfl rfl rfl rfl h H⟩
end Go.Abs.Plan
namespace Go.Abs.Plan
open Enc (Is)
theorem z8 {cs:List AV}:zpf cs []=some (.agg cs):=rfl
theorem z26 {cs:List AV} {off sz:Nat} {v:AV} {r:List (Nat×Nat×AV)}:zpf cs ((off,sz,v)::r)=if v.rowok sz=true∧off + sz≤cs.length then zpf (splice cs off v.cells) r else none:=rfl
end Go.Abs.Plan
namespace Go.Abs
open Enc (Is)
variable {call:CallF} {lp:LoopF}
def SlAt (lo sz:Nat) (H:Heap) (v:AV) (rows:List AV):Prop:=(v=.nilsl∧rows=[])∨∃ sid sg,lo≤sid∧v=.sl sid sg 0 rows.length∧H[sid]? = some (.arr sg sz rows)
theorem SlAt.nil {lo sz:Nat} {H:Heap}:SlAt lo sz H .nilsl []:=.inl ⟨rfl,rfl⟩
theorem SlAt.mono {lo sz:Nat} {H H':Heap} {v:AV} {rows:List AV} (h:SlAt lo sz H v rows) (hH:∀ (j:Nat) (B:Blk),lo≤j→H[j]? = some B→H'[j]? = some B):SlAt lo sz H' v rows:=by
 rcases h with h | ⟨sid,sg,h1,h2,h3⟩
 ·exact .inl h
 ·exact .inr ⟨sid,sg,h1,h2,hH _ _ h1 h3⟩
theorem SlAt.one {lo sz bytes:Nat} {H:Heap} {v r:AV} {rows:List AV} {fl:Bool} (h:SlAt lo sz H v rows) (hl:lo≤H.length) (hy:r.rowok sz=true) (hb:(rows.length + 1) * bytes≤140737488355328) :
 ∃ v' H',SlAt lo sz H' v' (rows++[r])∧H.length≤H'.length∧(∀ j,j < lo→H'[j]? = H[j]?)∧∀ (dst:Option Nat) (keep:Bool) (os:List AOper) (loc:List (Nat×AV)) (s:St) (ks:List KF) (R:AExit→St→Prop),s.heap=H →
   ACTK call lp (zh1 sz bytes v (.fsl fl [r])) dst keep os loc s ks R=ACTK call lp (.val v') dst keep os loc { s with heap:=H' } ks R:=by
 rcases h with ⟨rfl,rfl⟩ | ⟨sid,sg,h1,rfl,h3⟩
 ·refine ⟨.sl H.length 0 0 1,H++[.arr 0 sz [r]], .inr ⟨H.length,0,hl,by simp,by simp⟩,by simp,fun j hj=>by rw [List.getElem?_append_left (by omega)],fun dst keep os loc s ks R hs=>?_⟩
  subst hs
  have hb':bytes≤140737488355328:=by simpa using hb
  simp [zh1,zg3,room,hb',hy]
 ·have hlt:=lt_of h3
  have hh:=ze1 h3
  refine ⟨.sl sid (sg + 1) 0 (rows.length + 1),H.set sid (.arr (sg + 1) sz (rows++[r])), .inr ⟨sid,sg + 1,h1,by simp,by simp [hlt]⟩,by simp,fun j hj=>by rw [List.getElem?_set_ne (by omega)],fun dst keep os loc s ks R hs=>?_⟩
  subst hs
  have hfit:¬ (0 + rows.length + 1≤rows.length):=by omega
  have hb':(rows.length + 1) * bytes≤140737488355328:=by simpa using hb
  have hnn:¬ (rows.length + 1≤rows.length):=by omega
  simp [zh1,zi1,room,hb',hy,hh,hlt,hnn]
end Go.Abs
namespace Go.Abs.Plan
open Enc (Is)
end Go.Abs.Plan
namespace Go.Abs.Plan
open Enc (Is)
def okCol (n B:Nat) (w sk:Bool) (c:Col):Option Nat:=
 if c.use=1 then (if c.var=0 then some B else none)
 else if c.use=2 then (if sk=true∧c.var=0∧c.v=zi then some B else none)
 else if c.use=3 then (if c.v=zi∧0≤c.var∧c.var.toNat < n∧w=true∧B.testBit c.var.toNat=false then some (B ||| 2 ^ c.var.toNat) else none)
 else if c.use=4 then (if c.v=zi∧0≤c.var∧c.var.toNat < n∧B.testBit c.var.toNat=true then some B else none)
 else none
def zc4 (n B:Nat):List AV:=(List.range n).map fun i=>.bool (B.testBit i)
theorem zya (n B:Nat):(zc4 n B).length=n:=by simp [zc4]
theorem zjp {n B j:Nat} (h:j < n):(zc4 n B).set j (.bool true)=zc4 n (B ||| 2 ^ j):=by
 apply List.ext_getElem
 ·simp [zc4]
 ·intro i h1 h2
  simp only [zc4,List.getElem_set,List.getElem_map,List.getElem_range,Nat.testBit_or,Nat.testBit_two_pow]
  by_cases e:j=i
  ·subst e; simp
  ·simp [e]
def zw2 (g n B:Nat):Blk:=.arr g 1 (zc4 n B)
def zy3 (g n B:Nat):Blk:=.arr g 2 [.agg [i64 n, .int .u64 B]]
theorem zzm (g b n B B':Nat) (H:Heap) (c:Col) (w:Bool) (hb:H[b]? = some (zw2 g n B)) (hn:n≤64) (h:okCol n B w true c=some B') :
 callW tbl (.func zid [] []) [c.enc, .sl b g 0 n, .bool w] H=some (.bool true,H.set b (zw2 g n B')):=by
 have hlt:=lt_of hb
 have hh:=ze1 hb
 refine callB z11 rfl rfl rfl (fun F hF=>?_)
 obtain ⟨use,var,val⟩:=c
 unfold okCol at h
 simp only at h
 by_cases h1:use=1
 ·subst h1
  simp at h
  obtain ⟨rfl,rfl⟩:=h
  simp [z11,zb1,AV.rowok,z8]
  refine hF _ _ ?_
  rw [show (z11.frz)=false from rfl,ze rfl,set_same hb]
 by_cases h2:use=2
 ·subst h2
  simp at h
  obtain ⟨⟨rfl,rfl⟩,rfl⟩:=h
  simp [z11,zb1,AV.rowok,z8,zi]
  refine hF _ _ ?_
  rw [show (z11.frz)=false from rfl,ze rfl,set_same hb]
 by_cases h3:use=3
 ·subst h3
  simp at h
  obtain ⟨⟨rfl,hv0,hvn,rfl,hbit⟩,rfl⟩:=h
  obtain ⟨j,rfl⟩:∃ j:Nat,var=(j:Int):=⟨var.toNat,by omega⟩
  simp only [Int.toNat_natCast] at hvn hbit
  have hneg:¬ (j:Int) < 0:=by omega
  have hge:¬ (n:Int)≤(j:Int):=by omega
  have hbs:=zjp (B:=B) hvn
  have hbl:=zya n B
  have hbg:(zc4 n B)[j]=.bool (B.testBit j):=by simp [zc4]
  simp [z11,zb1,AV.rowok,z8,zi,hh,zw2,hneg,hge,hvn,hlt,hbl,hbg,hbit,zz]
  refine hF _ _ ?_
  rw [show (z11.frz)=false from rfl,ze (by simp),hbs]; rfl
 by_cases h4:use=4
 ·subst h4
  simp at h
  obtain ⟨⟨rfl,hv0,hvn,hbit⟩,rfl⟩:=h
  obtain ⟨j,rfl⟩:∃ j:Nat,var=(j:Int):=⟨var.toNat,by omega⟩
  simp only [Int.toNat_natCast] at hvn hbit
  have hlt':(j:Int) < n:=by omega
  have hbl:=zya n B
  have hbg:(zc4 n B)[j]'(by omega)=.bool (B.testBit j):=by simp [zc4]
  simp [z11,zb1,AV.rowok,z8,zi,hh,zw2,hlt',hvn,hlt,hbl,hbg,hbit,zz]
  refine hF _ _ ?_
  rw [show (z11.frz)=false from rfl,ze rfl,set_same hb]
 ·simp [h1,h2,h3,h4] at h
theorem zxc (g b n B B':Nat) (H:Heap) (c:Col) (w sk:Bool) (hb:H[b]? = some (zy3 g n B)) (hn:n≤64) (hB:B < 2 ^ 64) (h:okCol n B w sk c=some B') :
 callW tbl (.func zu2 [] []) [.ptr b g 0 0,c.enc, .bool w, .bool sk] H=some (.bool true,H.set b (zy3 g n B')):=by
 have hlt:=lt_of hb
 have hh:=ze1 hb
 refine callB zf rfl rfl rfl (fun F hF=>?_)
 obtain ⟨use,var,val⟩:=c
 unfold okCol at h
 simp only at h
 by_cases h1:use=1
 ·subst h1
  simp at h
  obtain ⟨rfl,rfl⟩:=h
  simp [zf,zl,AV.rowok,z8]
  refine hF _ _ ?_
  rw [show (zf.frz)=false from rfl,ze rfl,set_same hb]
 by_cases h2:use=2
 ·subst h2
  simp at h
  obtain ⟨⟨rfl,rfl,rfl⟩,rfl⟩:=h
  simp [zf,zl,AV.rowok,z8,zi]
  refine hF _ _ ?_
  rw [show (zf.frz)=false from rfl,ze rfl,set_same hb]
 by_cases h3:use=3
 ·subst h3
  simp at h
  obtain ⟨⟨rfl,hv0,hvn,rfl,hbit⟩,rfl⟩:=h
  obtain ⟨j,rfl⟩:∃ j:Nat,var=(j:Int):=⟨var.toNat,by omega⟩
  simp only [Int.toNat_natCast] at hvn hbit ⊢
  have hneg:¬ (j:Int) < 0:=by omega
  have hge:¬ (n:Int)≤(j:Int):=by omega
  have hs:=zev (B:=B) (j:=j) (by omega) .no
  have ha:=zyq (n:=B >>> j) (by rw [Nat.shiftRight_eq_div_pow]; exact Nat.lt_of_le_of_lt (Nat.div_le_self ..) hB) .no
  have ht:=zt11 B j
  have hpow:2 ^ j < 2 ^ 64:=Nat.pow_lt_pow_right (by decide) (by omega)
  have hsl:=zu11 (j:=j) (by omega) .no
  have ho:=zh61 hB hpow .no
  generalize (B >>> j) % 2=q at ha ht
  generalize B >>> j=p at hs ha
  have he:binA .eql .no (.int .u64 (q:Int)) (.int .u64 1)=some (.bool false):=by
   have:¬ (q:Int)=1:=by simp [hbit] at ht; omega
   simp [this]
  generalize hq:2 ^ j=qq at hsl ho
  generalize ho':B ||| qq=r at ho
  simp [zf,zl,AV.rowok,z8,zi,hh,zy3,hneg,hge,hlt,hs,ha,he,hsl,ho,splice,zz]
  refine hF _ _ ?_
  rw [show (zf.frz)=false from rfl,ze (by simp),← ho',← hq]; rfl
 by_cases h4:use=4
 ·subst h4
  simp at h
  obtain ⟨⟨rfl,hv0,hvn,hbit⟩,rfl⟩:=h
  obtain ⟨j,rfl⟩:∃ j:Nat,var=(j:Int):=⟨var.toNat,by omega⟩
  simp only [Int.toNat_natCast] at hvn hbit
  have hneg:¬ (j:Int) < 0:=by omega
  have hge:¬ (n:Int)≤(j:Int):=by omega
  have hs:=zev (B:=B) (j:=j) (by omega) .no
  have ha:=zyq (n:=B >>> j) (by rw [Nat.shiftRight_eq_div_pow]; exact Nat.lt_of_le_of_lt (Nat.div_le_self ..) hB) .no
  have ht:=zt11 B j
  generalize (B >>> j) % 2=q at ha ht
  generalize B >>> j=p at hs ha
  have he:binA .eql .no (.int .u64 (q:Int)) (.int .u64 1)=some (.bool true):=by
   have:(q:Int)=1:=by simp [hbit] at ht; omega
   simp [this]
  simp [zf,zl,AV.rowok,z8,zi,hh,zy3,hneg,hge,hlt,hs,ha,he,splice,zz]
  refine hF _ _ ?_
  rw [show (zf.frz)=false from rfl,ze rfl]
  exact congrArg (Prod.mk _) (set_same hb).symm
 ·simp [h1,h2,h3,h4] at h
def z72 (n:Nat) (w sk:Bool):Nat→List Col→Option Nat
 | B,[]=>some B
 | B,c::cs=>match okCol n B w sk c with
   | some B'=>z72 n w sk B' cs
   | none=>none
theorem z5r {n B B':Nat} {w sk:Bool} {c:Col} (hn:n≤64) (hB:B < 2 ^ 64) (h:okCol n B w sk c=some B'):B' < 2 ^ 64:=by
 unfold okCol at h
 repeat' split at h
 all_goals first
  | (simp only [Option.some.injEq] at h; subst h; exact hB)
  | (simp only [Option.some.injEq] at h; subst h; rename_i hc; exact Nat.or_lt_two_pow hB (Nat.pow_lt_pow_right (by decide) (by omega)))
  | simp at h
theorem z79 {n:Nat} {w sk:Bool}:∀ {cs:List Col} {B:Nat} {c:Col},z72 n w sk B (cs++[c])=(z72 n w sk B cs).bind fun B'=>okCol n B' w sk c
 | [],B,c=>by simp [z72]; cases okCol n B w sk c <;> rfl
 | x::cs,B,c=>by
   simp only [List.cons_append,z72]
   cases okCol n B w sk x with
   | none=>rfl
   | some B'=>exact z79
theorem zvg {n:Nat} {w sk:Bool} {cs:List Col} {B B':Nat} (h:z72 n w sk B cs=some B'):∀ j,∃ B1,z72 n w sk B (cs.take j)=some B1:=by
 intro j
 induction cs generalizing B j with
 | nil=>exact ⟨B,by simp [z72]⟩
 | cons c cs ih=>
   simp only [z72] at h
   split at h
   ·rename_i B2 h2
    cases j with
    | zero=>exact ⟨B,rfl⟩
    | succ j=>
      obtain ⟨B1,h1⟩:=ih h j
      exact ⟨B1,by simp only [List.take_succ_cons,z72,h2]; exact h1⟩
   ·simp at h
theorem z6f {n:Nat} {w sk:Bool} (hn:n≤64):∀ {cs:List Col} {B B':Nat},B < 2 ^ 64→z72 n w sk B cs=some B'→B' < 2 ^ 64
 | [],B,B',hB,h=>by simp [z72] at h; omega
 | c::cs,B,B',hB,h=>by
   simp only [z72] at h
   split at h
   ·rename_i B2 h2; exact z6f hn (z5r hn hB h2) h
   ·simp at h
def z05 (n B:Nat) (first:Bool) (s:Step):Option Nat:=
 if s.op=3 then (if s.pred=⟨#[]⟩∧s.cols=[]∧s.old=false∧1≤s.cmp∧s.cmp≤6 then (match okCol n B false false s.a with
  | some B1=>okCol n B1 false false s.b
  | none=>none) else none)
 else if (s.op=1∨s.op=2∨(s.op=4∧first=true∧s.old=false))∧s.cmp=0∧s.a=zf1∧s.b=zf1∧s.cols.length≤8 then z72 n (decide (s.op≠2)) true B s.cols
 else none
end Go.Abs.Plan
namespace Go.Abs.Plan
open Enc (Is)
def zl7 (B:Nat) (c:Col):Bool:=decide (c.use=1) || (decide (c.use=4) && B.testBit c.var.toNat)
def zd1 (B:Nat):Nat→List Col→List Int
 | _,[]=>[]
 | i,c::cs=>if zl7 B c then (i:Int)::zd1 B (i + 1) cs else zd1 B (i + 1) cs
def bindC (B:Nat) (c:Col):Nat:=if c.use=3 then B ||| 2 ^ c.var.toNat else B
def bindB (B:Nat) (cs:List Col):Nat:=cs.foldl bindC B
def zt3:Nat→List Step→List (List Int)
 | _,[]=>[]
 | B,s::ss=>zd1 B 0 s.cols::zt3 (bindB B s.cols) ss
def zwg (ss:List Step):Nat:=ss.foldl (fun B s=>bindB B s.cols) 0
theorem zzf (B:Nat):∀ (cs:List Col) (i:Nat) (c:Col),zd1 B i (cs++[c])=zd1 B i cs++(if zl7 B c then [((i + cs.length:Nat):Int)] else [])
 | [],i,c=>by simp [zd1]
 | x::cs,i,c=>by
   simp only [List.cons_append,zd1,zzf B cs (i + 1) c,List.length_cons]
   have:i + 1 + cs.length=i + (cs.length + 1):=by omega
   rw [this]
   split <;> simp
theorem z5k:∀ (ss:List Step) (B:Nat) (s:Step),zt3 B (ss++[s])=zt3 B ss++[zd1 (ss.foldl (fun B s=>bindB B s.cols) B) 0 s.cols]
 | [],B,s=>rfl
 | x::ss,B,s=>by simp only [List.cons_append,zt3,z5k ss,List.foldl_cons]
theorem zpa (B:Nat):∀ (cs:List Col) (i:Nat),(zd1 B i cs).length≤cs.length
 | [],i=>by simp [zd1]
 | c::cs,i=>by
   simp only [zd1]
   have:=zpa B cs (i + 1)
   split <;> simp <;> omega
theorem z0n:∀ (ss:List Step) (B:Nat),(zt3 B ss).length=ss.length
 | [],B=>rfl
 | s::ss,B=>by simp [zt3,z0n ss]
def intsA (l:List Int):AV:=if l=[] then .nilsl else .fsl false (l.map i64)
theorem z551 (l:List Int):Is (intsA l) l:=by
 unfold intsA
 split
 ·rename_i h; subst h; exact IsL.nil
 ·exact IsL.fsl (zr6 (fun _=>rfl) l)
theorem zgv (l:List Int):AV.plains (l.map i64)=true:=by
 induction l with
 | nil=>rfl
 | cons a l ih=>simpa [AV.plains,AV.plain] using ih
def ColN (n:Nat) (c:Col):Prop:=c.use=3∨c.use=4→0≤c.var∧c.var.toNat < n
theorem z121 (p:Plan) (v:AV) (hv:Is v p) (hn:p.vars.length≤2 ^ 20) (hs:p.steps.length≤2 ^ 20) (hc:∀ s∈p.steps,s.cols.length≤2 ^ 20∧∀ c∈s.cols,ColN p.vars.length c) :
 ∃ r,zy (callW tbl) loopW zx7 [v]=some r∧(Is r (zt3 0 p.steps)∧r.unlent=true):=by
 obtain ⟨a,b,c,ha,hb,hcc,rfl⟩:=hv
 have ca:=zb ha
 have cb:=zb hb
 have cc:=zb hcc
 obtain ⟨n,hnn⟩:∃ n,n=p.vars.length:=⟨_,rfl⟩
 have hb0:List.replicate n (AV.bool false)=zc4 n 0:=by
  apply List.ext_getElem
  ·simp [zc4]
  ·intro i h1 h2; simp [zc4]
 have m1:n * 1≤2 ^ 47:=by omega
 have m2:n≤140737488355328:=by omega
 refine pureK zx7 rfl (fun F hF=>?_)
 simp [zx7,zzj,AV.rowok,ca,cb,cc,IsL.len ha,IsL.len hb,← hnn,hb0,m2]
 refine zb2 p.steps.length (fun j s=>∃ w,SlAt 1 1 s.heap w ((zt3 0 (p.steps.take j)).map intsA)∧s.heap[0]? = some (.arr 0 1 (zc4 n (zwg (p.steps.take j))))∧s.dfr=[]∧s.tm.get 3=.sl 0 0 0 n∧s.tm.get 4=w∧s.tm.get 17=b∧s.tm.get 18=i64 p.steps.length∧s.tm.get 19=i64 j)
  0 (by omega) ⟨.nilsl,SlAt.nil,by simp [zwg],by simp,by simp,by simp,by simp,by simp,by simp⟩ (by omega) (by rintro j s ⟨w,h⟩; exact ⟨h.2.2.2.2.2.2.2,h.2.2.2.2.2.2.1⟩) ?_ ?_
 ·rintro j s B hj ⟨w,g1,g2,g3,g4,g5,g6,g7,g8⟩ hgo hx
  have hg:p.steps[j]? = some p.steps[j]:=by simp [hj]
  obtain ⟨fl',sv,⟨la,hla,rfl⟩,hidx⟩:=IsL.idx hb hg
  simp only [show Enc.sz Step=16 from rfl] at hidx
  obtain ⟨hcl,hcn⟩:=hc _ (List.getElem_mem hj)
  have hcs:=zb hla
  have htk:p.steps.take (j + 1)=p.steps.take j++[p.steps[j]]:=by rw [List.take_add_one,hg]; rfl
  simp [g6,g8,hidx,AV.rowok,hcs,IsL.len hla]
  generalize hst:p.steps[j]=st at *
  generalize hbb:zwg (p.steps.take j)=bb at *
  refine zb2 st.cols.length (fun i s'=>Acc s.heap 1 (s'.tm.get 7) s'.heap ((zd1 bb 0 (st.cols.take i)).map i64)∧s'.dfr=[]∧s'.tm.get 3=.sl 0 0 0 n∧s'.tm.get 4=w∧s'.tm.get 17=b∧s'.tm.get 18=i64 p.steps.length∧s'.tm.get 19=i64 j∧s'.tm.get 6=.fptr false (st.encW la).cells 0∧s'.tm.get 24=la∧s'.tm.get 25=i64 st.cols.length∧s'.tm.get 26=i64 i)
   0 (by omega) ⟨by simp [zd1]; exact Acc.nil,by simp [g3],by simp [g4],by simp [g5],by simp [g6],by simp [g7],by simp [g8],by simp,by simp,by simp,by simp⟩ (by omega) (by rintro i s h; exact ⟨h.2.2.2.2.2.2.2.2.2.2,h.2.2.2.2.2.2.2.2.2.1⟩) ?_ ?_
  ·rintro i s' B' hi ⟨hacc,q2,f3,f4,f17,f18,f19,f6,f24,f25,f26⟩ hgo' hx'
   have hgc:st.cols[i]? = some st.cols[i]:=by simp [hi]
   obtain ⟨fl2,cv,rfl,hidc⟩:=IsL.idx hla hgc
   simp only [show Enc.sz Col=5 from rfl] at hidc
   have hci:=hcn _ (List.getElem_mem hi)
   have hti:st.cols.take (i + 1)=st.cols.take i++[st.cols[i]]:=by rw [List.take_add_one,hgc]; rfl
   have hks:=zzf bb (st.cols.take i) 0 st.cols[i]
   rw [← hti,List.length_take_of_le (by omega),Nat.zero_add] at hks
   generalize hcx:st.cols[i]=cx at *
   have h0:s'.heap[0]? = some (.arr 0 1 (zc4 n bb)):=by rw [hacc.get (lt_of g2)]; exact g2
   have k0:=ze1 h0
   have n0:=lt_of h0
   have hrl:(zd1 bb 0 (st.cols.take i)).length≤i:=Nat.le_trans (zpa _ _ _) (by simp; omega)
   obtain ⟨v',Hs',hacc2,happ⟩:=hacc.one (call:=callW tbl) (lp:=loopW) (bytes:=8) (r:=i64 i) (fl:=false) rfl (by simp; omega)
   by_cases h1:cx.use=1
   ·have hk:zl7 bb cx=true:=by simp [zl7,h1]
    simp [f24,f26,hidc,AV.rowok,h1,zr]
    rw [happ _ _ _ _ _ _ _ (by simp)]
    simp
    refine hgo' _ _ (.inl rfl) (by simp [f26]) ⟨?_,by simp [q2],by simp [f3],by simp [f4],by simp [f17],by simp [f18],by simp [f19],by simp [f6],by simp [f24],by simp [f25],by simp⟩
    simp [hks,hk]
    simpa using hacc2
   by_cases h4:cx.use=4
   ·obtain ⟨hv0,hvn⟩:=hci (.inr h4)
    obtain ⟨m,hm⟩:∃ m:Nat,cx.var=(m:Int):=⟨cx.var.toNat,by omega⟩
    rw [hm,Int.toNat_natCast,← hnn] at hvn
    have hbl:=zya n bb
    have hbg:(zc4 n bb)[m]'(by omega)=.bool (bb.testBit m):=by simp [zc4]
    have hm0:(0:Int)≤(m:Int):=by omega
    cases hbit:bb.testBit m with
    | true=>
    have hk:zl7 bb cx=true:=by simp [zl7,h4,hm,hbit]
    simp [f24,f26,f3,hidc,AV.rowok,h1,h4,hm,hm0,k0,n0,hvn,hbl,hbg,hbit,zr]
    rw [happ _ _ _ _ _ _ _ (by simp)]
    simp
    refine hgo' _ _ (.inl rfl) (by simp [f26]) ⟨?_,by simp [q2],by simp [f3],by simp [f4],by simp [f17],by simp [f18],by simp [f19],by simp [f6],by simp [f24],by simp [f25],by simp⟩
    simp [hks,hk]
    simpa using hacc2
    | false=>
    have hk:zl7 bb cx=false:=by simp [zl7,h1,hm,hbit]
    simp [f24,f26,f3,hidc,AV.rowok,h1,h4,hm,hm0,k0,n0,hvn,hbl,hbg,hbit,zr]
    refine hgo' _ _ (.inl rfl) (by simp [f26]) ⟨?_,by simp [q2],by simp [f3],by simp [f4],by simp [f17],by simp [f18],by simp [f19],by simp [f6],by simp [f24],by simp [f25],by simp⟩
    simp [hks,hk]
    exact hacc
   ·have hk:zl7 bb cx=false:=by simp [zl7,h1,h4]
    simp [f24,f26,f3,hidc,AV.rowok,h1,h4]
    refine hgo' _ _ (.inl rfl) (by simp [f26]) ⟨?_,by simp [q2],by simp [f3],by simp [f4],by simp [f17],by simp [f18],by simp [f19],by simp [f6],by simp [f24],by simp [f25],by simp⟩
    simp [hks,hk]
    exact hacc
  ·rintro s' ⟨hacc,q2,f3,f4,f17,f18,f19,f6,f24,f25,f26⟩
   rw [List.take_length] at hacc
   have h0:s'.heap[0]? = some (.arr 0 1 (zc4 n bb)):=by rw [hacc.get (lt_of g2)]; exact g2
   have n0:=lt_of h0
   obtain ⟨x7,hx7⟩:∃ x,x=s'.tm.get 7:=⟨_,rfl⟩
   rw [← hx7] at hacc
   generalize hH1:s'.heap=H1 at *
   simp [f6,IsL.len hla]
   refine zb2 st.cols.length (fun i s'=>s'.heap=H1.set 0 (.arr 0 1 (zc4 n (bindB bb (st.cols.take i))))∧s'.dfr=[]∧s'.tm.get 3=.sl 0 0 0 n∧s'.tm.get 4=w∧s'.tm.get 17=b∧s'.tm.get 18=i64 p.steps.length∧s'.tm.get 19=i64 j∧s'.tm.get 7=x7∧s'.tm.get 52=la∧s'.tm.get 53=i64 st.cols.length∧s'.tm.get 54=i64 i)
    0 (by omega) ⟨by simp [bindB,hH1,set_same h0],by simp [q2],by simp [f3],by simp [f4],by simp [f17],by simp [f18],by simp [f19],by simp [hx7],by simp,by simp,by simp⟩ (by omega) (by rintro i s h; exact ⟨h.2.2.2.2.2.2.2.2.2.2,h.2.2.2.2.2.2.2.2.2.1⟩) ?_ ?_
   ·rintro i s2 B' hi ⟨e1,e2,e3,e4,e17,e18,e19,e7,e52,e53,e54⟩ hgo' hx'
    have hgc:st.cols[i]? = some st.cols[i]:=by simp [hi]
    obtain ⟨fl2,cv,rfl,hidc⟩:=IsL.idx hla hgc
    simp only [show Enc.sz Col=5 from rfl] at hidc
    have hci:=hcn _ (List.getElem_mem hi)
    have hbs:bindB bb (st.cols.take (i + 1))=bindC (bindB bb (st.cols.take i)) st.cols[i]:=by rw [List.take_add_one,hgc]; simp only [bindB,Option.toList,List.foldl_append,List.foldl_cons,List.foldl_nil]
    generalize hcx:st.cols[i]=cx at *
    generalize hB2:bindB bb (st.cols.take i)=B2 at *
    by_cases h3:cx.use=3
    ·obtain ⟨hv0,hvn⟩:=hci (.inl h3)
     obtain ⟨m,hm⟩:∃ m:Nat,cx.var=(m:Int):=⟨cx.var.toNat,by omega⟩
     rw [hm,Int.toNat_natCast,← hnn] at hvn
     have hbl:=zya n B2
     have hm0:(0:Int)≤(m:Int):=by omega
     have hset:=zjp (B:=B2) hvn
     have hbg:(zc4 n B2)[m]'(by omega)=.bool (B2.testBit m):=by simp [zc4]
     simp [e1,e3,e52,e54,hidc,AV.rowok,h3,hm,hm0,n0,hvn,hbl,hbg,zz,hset]
     refine hgo' _ _ (.inl rfl) (by simp [e54]) ⟨?_,by simp [e2],by simp [e3],by simp [e4],by simp [e17],by simp [e18],by simp [e19],by simp [e7],by simp [e52],by simp [e53],by simp⟩
     simp [hbs,bindC,h3,hm]
    ·simp [e1,e52,e54,hidc,AV.rowok,h3]
     refine hgo' _ _ (.inl rfl) (by simp [e54]) ⟨?_,by simp [e2],by simp [e3],by simp [e4],by simp [e17],by simp [e18],by simp [e19],by simp [e7],by simp [e52],by simp [e53],by simp⟩
     simp [hbs,bindC,h3]
   ·rintro s2 ⟨e1,e2,e3,e4,e17,e18,e19,e7,e52,e53,e54⟩
    rw [List.take_length] at e1
    have hbnd:zwg (p.steps.take (j + 1))=bindB bb st.cols:=by rw [htk,← hbb]; simp [zwg]
    have hkn:(zt3 0 (p.steps.take (j + 1))).map intsA=(zt3 0 (p.steps.take j)).map intsA++[intsA (zd1 bb 0 st.cols)]:=by
     rw [htk,z5k,List.map_append]
     have:List.foldl (fun B s=>bindB B s.cols) 0 (List.take j p.steps)=bb:=hbb
     rw [this]; rfl
    have hrl:((zt3 0 (p.steps.take j)).map intsA).length≤j:=by simp [z0n]; omega
    rcases hacc with ⟨k1,k2,k3⟩ | ⟨g,k1,k2,k3⟩
    ·have hk0:zd1 bb 0 st.cols=[]:=by simpa using k1
     have hS:SlAt 1 1 s2.heap w ((zt3 0 (p.steps.take j)).map intsA):=g1.mono (fun i X hi h=>by rw [e1,List.getElem?_set_ne (by omega),k3]; exact h)
     obtain ⟨w',H',hS',hl',hlo',happ⟩:=hS.one (call:=callW tbl) (lp:=loopW) (bytes:=24) (r:=.nilsl) (fl:=false) (by rw [e1]; simp; omega) rfl (by omega)
     simp [e4,e7,k2,zr,AV.rowok]
     rw [happ _ _ _ _ _ _ _ (by simp)]
     simp
     refine hgo _ _ (.inl rfl) (by simp [e19]) ⟨w',?_,?_,by simp [e2],by simp [e3],by simp,by simp [e17],by simp [e18],by simp⟩
     ·rw [hkn,hk0]; exact hS'
     ·simp only [hbnd]
      rw [hlo' 0 (by omega),e1]; simp [n0]
    ·have hpl:AV.plains ((zd1 bb 0 st.cols).map i64)=true:=zgv _
     have hk0:¬ zd1 bb 0 st.cols=[]:=by simpa using k1
     have hbk:s2.heap[s.heap.length]? = some (.arr g 1 ((zd1 bb 0 st.cols).map i64)):=by
      have:0 < s.heap.length:=lt_of g2
      rw [e1,List.getElem?_set_ne (by omega),k3]; simp
     have hs1:1≤s.heap.length:=lt_of g2
     have kb:=ze1 hbk
     have nb:=lt_of hbk
     obtain ⟨H3,hH3⟩:∃ H3,H3=s2.heap.set s.heap.length (.dead g):=⟨_,rfl⟩
     have hS:SlAt 1 1 H3 w ((zt3 0 (p.steps.take j)).map intsA):=g1.mono (fun i X hi h=>by
      have:=lt_of h
      rw [hH3,List.getElem?_set_ne (by omega),e1,List.getElem?_set_ne (by omega),k3,List.getElem?_append_left (by omega)]; exact h)
     obtain ⟨w',H',hS',hl',hlo',happ⟩:=hS.one (call:=callW tbl) (lp:=loopW) (bytes:=24) (r:=.fsl false ((zd1 bb 0 st.cols).map i64)) (fl:=false) (by rw [hH3]; simp; omega) rfl (by omega)
     have hlt':(zd1 bb 0 st.cols).length≤(zd1 bb 0 st.cols).length:=Nat.le_refl _
     simp [e4,e7,k2,zr,AV.rowok,zw3,kb,nb,List.take_of_length_le,hpl]
     rw [← hH3,happ _ _ _ _ _ _ _ (by simp)]
     simp
     refine hgo _ _ (.inl rfl) (by simp [e19]) ⟨w',?_,?_,by simp [e2],by simp [e3],by simp,by simp [e17],by simp [e18],by simp⟩
     ·rw [hkn]; simpa [intsA,hk0] using hS'
     ·simp only [hbnd]
      rw [hlo' 0 (by omega),hH3,List.getElem?_set_ne (by omega),e1]; simp [n0]
 ·rintro s ⟨w,g1,g2,g3,g4,g5,g6,g7,g8⟩
  rw [List.take_length] at g1
  simp [g3,g5]
  have hall:∀ l:List (List Int),All2 Is (l.map intsA) l:=zr6 (fun l=>z551 l)
  have hun:AV.unlents ((zt3 0 p.steps).map intsA)=true:=by
   have:∀ l:List (List Int),AV.unlents (l.map intsA)=true:=by
    intro l
    induction l with
    | nil=>rfl
    | cons a l ih=>
      have ha:(intsA a).unlent=true:=by
       unfold intsA
       split
       ·rfl
       ·have:∀ l:List Int,AV.unlents (l.map i64)=true:=by
         intro l
         induction l with
         | nil=>rfl
         | cons a l ih=>simpa [AV.unlents,AV.unlent] using ih
        simpa [AV.unlent] using this a
      simp [AV.unlents,ha] at ih ⊢; exact ih
   exact this _
  rcases g1 with ⟨rfl,h1⟩ | ⟨sid,sg,_,rfl,hb1⟩
  ·have hnil:zt3 0 p.steps=[]:=by simpa using h1
   exact hF _ _ _ (z6 rfl) ⟨by rw [hnil]; exact IsL.nil,rfl⟩
  ·exact hF _ _ _ (zd5 hb1 (by simp) (by simp [List.take_of_length_le]) (hall _)) ⟨IsL.fsl (hall _),by simpa [AV.unlent] using hun⟩
end Go.Abs.Plan
namespace Go.Abs.Plan
open Enc (Is)
def z0c (c:Col) (y:Val) (x:Tup):Option Tup:=
 if c.use=3 then some (x.set c.var.toNat y) else if c.use=2 then some x else if zo1 c x=y then some x else none
def z41:List Col→Tup→Tup→Option Tup
 | c::cs,y::ys,x=>match z0c c y x with
   | some x'=>z41 cs ys x'
   | none=>none
 | _,_,x=>some x
def zkp (n:Nat) (c:Col):Prop:=c.use=1∨c.use=2∨(0≤c.var∧c.var.toNat < n)
theorem zlp {c:Col} {y:Val} {x x':Tup} (h:z0c c y x=some x'):x'.length=x.length:=by
 unfold z0c at h
 split at h
 ·simp at h; subst h; simp
 ·split at h
  ·simp at h; subst h; rfl
  ·split at h
   ·simp at h; subst h; rfl
   ·simp at h
theorem zty (cs:List Col) (t x0:Tup) (la tv:AV) (hla:Is la cs) (htv:Is tv t) (H:Heap) (id g:Nat) (hB:H[id]? = some (.arr g 3 (x0.map Val.enc))) (hl:cs.length=t.length) (hlen:cs.length≤2 ^ 20)
 (hc:∀ c∈cs,zkp x0.length c) :
 ∃ (b:Bool) (x':Tup),callW tbl (.func zre [] []) [la,tv, .sl id g 0 x0.length] H=some (.bool b,H.set id (.arr g 3 (x'.map Val.enc)))∧z41 cs t x0=(if b then some x' else none)∧x'.length=x0.length:=by
 have hid:=lt_of hB
 obtain ⟨r,H',⟨b,x',rfl,rfl,h1,h2⟩,hcall⟩:=callE (tbl:=tbl) (f:=zre) (first:=[]) (captured:=[]) (args:=[la,tv, .sl id g 0 x0.length]) (H:=H)
  (fun r H'=>∃ (b:Bool) (x':Tup),r=.bool b∧H'=H.set id (.arr g 3 (x'.map Val.enc))∧z41 cs t x0=(if b then some x' else none)∧x'.length=x0.length) zq9 rfl rfl rfl (fun F hF=>by
  simp [zq9,z0k,IsL.len hla]
  refine zb2 cs.length (fun j s=>∃ x:Tup,x.length=x0.length∧z41 (cs.drop j) (t.drop j) x=z41 cs t x0∧s.heap=H.set id (.arr g 3 (x.map Val.enc))∧s.dfr=[]∧s.tm.get 1=tv∧s.tm.get 2=.sl id g 0 x0.length∧s.tm.get 9=la∧s.tm.get 10=i64 cs.length∧s.tm.get 11=i64 j)
   0 (by omega) ⟨x0,rfl,rfl,by simp [set_same hB],by simp,by simp,by simp,by simp,by simp,by simp⟩ (by omega) (by rintro j s ⟨x,h⟩; exact ⟨h.2.2.2.2.2.2.2.2,h.2.2.2.2.2.2.2.1⟩) ?_ ?_
  ·rintro j s B hj ⟨x,hx,hag,hH,q2,f1,f2,f9,f10,f11⟩ hgo hxx
   have hg:cs[j]? = some cs[j]:=by simp [hj]
   obtain ⟨fl,cv,rfl,hidx⟩:=IsL.idx hla hg
   simp only [show Enc.sz Col=5 from rfl] at hidx
   have hjt:j < t.length:=by omega
   have hgt:t[j]? = some t[j]:=by simp [hjt]
   obtain ⟨fl2,yv,rfl,hidt⟩:=IsL.idx htv hgt
   simp only [show Enc.sz Val=3 from rfl] at hidt
   have hcj:=hc _ (List.getElem_mem hj)
   rw [List.drop_eq_getElem_cons hj,List.drop_eq_getElem_cons hjt,z41] at hag
   generalize hcx:cs[j]=c at *
   generalize htx:t[j]=y at *
   have hkH:s.heap[id]? = some (.arr g 3 (x.map Val.enc)):=by rw [hH]; simp [hid]
   have k0:=ze1 hkH
   have n0:=lt_of hkH
   have hset:∀ X:Blk,s.heap.set id X=H.set id X:=fun X=>by rw [hH]; simp
   by_cases h3:c.use=3
   ·have hb:0≤c.var∧c.var.toNat < x0.length:=by rcases hcj with h | h | h; omega; omega; exact h
    obtain ⟨m,hm⟩:∃ m:Nat,c.var=(m:Int):=⟨c.var.toNat,by omega⟩
    rw [hm,Int.toNat_natCast] at hb
    have hmx:m < x.length:=by omega
    simp [z0c,h3,hm] at hag
    simp [f1,f2,f9,f11,hidx,hidt,h3,hm,AV.rowok,k0,n0,hb,hmx,zz,hset]
    refine hgo _ _ (.inl rfl) (by simp [f11]) ⟨x.set m y,by simp [hx],hag,?_,by simp [q2],by simp [f1],by simp [f2],by simp [f9],by simp [f10],by simp⟩
    simp [List.map_set]
   ·by_cases h2:c.use=2
    ·simp [z0c,h2] at hag
     simp [f9,f11,hidx,h2,AV.rowok]
     exact hgo _ _ (.inl rfl) (by simp [f11]) ⟨x,hx,hag,by simpa using hH,by simp [q2],by simp [f1],by simp [f2],by simp [f9],by simp [f10],by simp⟩
    ·have hci:ColIn x.length c:=by rcases hcj with h | h | h; exact .inl h; exact absurd h h2; exact .inr (by rw [hx]; exact h)
     have hval:=z8i c x (.sl id g 0 x0.length) s.heap ⟨id,g,by rw [hx],hkH⟩ hci
     simp [f1,f2,f9,f11,hidx,hidt,h3,h2,AV.rowok,hval,zrs]
     have heq:(¬(zo1 c x).kind=y.kind∨¬(zo1 c x).n=y.n∨¬(zo1 c x).s=y.s)↔¬ zo1 c x=y:=by
      generalize zo1 c x=z
      obtain ⟨z1,z2,z3⟩:=z
      obtain ⟨y1,y2,y3⟩:=y
      simp only [Val.mk.injEq]
      constructor
      ·rintro (h | h | h) ⟨a,b,c⟩
       ·exact h a
       ·exact h b
       ·exact h c
      ·intro h
       by_cases a:z1=y1
       ·by_cases b:z2=y2
        ·exact .inr (.inr fun c=>h ⟨a,b,c⟩)
        ·exact .inr (.inl b)
       ·exact .inl a
     by_cases he:zo1 c x=y
     ·rw [if_neg (by rw [heq]; exact fun h=>h he)]
      simp [z0c,h3,h2,he] at hag
      exact hgo _ _ (.inl rfl) (by simp [f11]) ⟨x,hx,hag,by simpa using hH,by simp [q2],by simp [f1],by simp [f2],by simp [f9],by simp [f10],by simp⟩
     ·rw [if_pos (heq.2 he)]
      simp [z0c,h3,h2,he] at hag
      refine hxx _ _ (by simp) (by simp) ?_
      simp [q2]
      exact hF _ _ ⟨false,x,rfl,hH,by simp [hag],hx⟩
  ·rintro s ⟨x,hx,hag,hH,q2,f1,f2,f9,f10,f11⟩
   have e1:z41 (cs.drop cs.length) (t.drop cs.length) x=some x:=by simp [z41]
   rw [e1] at hag
   simp [q2]
   exact hF _ _ ⟨true,x,rfl,hH,by simp [hag],hx⟩)
 exact ⟨b,x',by rw [hcall,show zq9.frz=false from rfl,ze (by simp)],h1,h2⟩
def ofL (l:List RelOf) (nm:ByteArray):List Tup:=((l.find? fun r=>decide (r.name=nm)).map (·.rel)).getD []
theorem z7a1 (l:List RelOf) (nm:ByteArray) (v:AV) (hv:Is v l) (hl:l.length≤2 ^ 30):∃ r,zy (callW tbl) loopW zva [v, .str nm]=some r∧Is r (ofL l nm):=by
 refine pureK zva rfl (fun F hF=>?_)
 simp [zva,z5p,IsL.len hv]
 refine zb2 l.length (fun j s=>((l.take j).find? fun r=>decide (r.name=nm))=none∧s.dfr=[]∧s.tm.get 1=.str nm∧s.tm.get 7=v∧s.tm.get 8=i64 l.length∧s.tm.get 9=i64 j)
  0 (by omega) ⟨by simp,by simp,by simp,by simp,by simp,by simp⟩ (by omega) (by rintro j s h; exact ⟨h.2.2.2.2.2,h.2.2.2.2.1⟩) ?_ ?_
 ·rintro j s B hj ⟨hnone,q2,f1,f7,f8,f9⟩ hgo hx
  have hg:l[j]? = some l[j]:=by simp [hj]
  obtain ⟨fl,rv,⟨ra,hra,rfl⟩,hidx⟩:=IsL.idx hv hg
  simp only [show Enc.sz RelOf=2 from rfl] at hidx
  have hcr:=zb hra
  have htk:l.take (j + 1)=l.take j++[l[j]]:=by rw [List.take_add_one,hg]; rfl
  have hspl:l=l.take j++l[j]::l.drop (j + 1):=by rw [← List.drop_eq_getElem_cons hj,List.take_append_drop]
  generalize hr:l[j]=r at *
  by_cases he:r.name=nm
  ·have hf:l.find? (fun r=>decide (r.name=nm))=some r:=by
    rw [hspl,List.find?_append,hnone]; simp [he]
   simp [f1,f7,f9,hidx,AV.rowok,hcr,he]
   refine hx _ _ (by simp) (by simp) ?_
   simp [q2]
   exact hF _ _ _ (z6 (Enc.plain hra)) (by simpa [ofL,hf] using hra)
  ·have hne:¬ r.name.toList=nm.toList:=fun e=>he (zo7 e)
   simp [f1,f7,f9,hidx,AV.rowok,hcr,he,hne]
   refine hgo _ _ (.inl rfl) (by simp [f9]) ⟨by rw [htk,List.find?_append,hnone]; simp [he],by simp [q2],by simp [f1],by simp [f7],by simp [f8],by simp⟩
 ·rintro s ⟨hnone,q2,f1,f7,f8,f9⟩
  rw [List.take_length] at hnone
  simp [q2]
  exact hF _ _ _ (z6 rfl) (by simp only [ofL,hnone,Option.map_none,Option.getD_none]; exact IsL.nil)
theorem z221 (l:List RelOf) (nm:ByteArray) (v:AV) (hv:Is v l) (hl:l.length≤2 ^ 30) (H:Heap):∃ r,callW tbl (.func zta [] []) [v, .str nm] H=some (r,H)∧Is r (ofL l nm):=
 z76 (f:=zta) (af:=zva) rfl rfl (R:=fun a=>∃ v,a=[v, .str nm]∧Is v l) (S:=fun r=>Is r (ofL l nm)) (by rintro _ ⟨v,rfl,h⟩; simp [AV.plains,Enc.plain h,AV.plain]) (by rintro _ ⟨v,rfl,h⟩; exact ⟨v.lend,rfl,Enc.lend h⟩)
  (fun r h=>Enc.lend h) (by rintro _ ⟨v,rfl,h⟩; exact z7a1 l nm v h hl) _ H ⟨v,rfl,hv⟩
theorem zuy (t:Tup) (id g:Nat) (H:Heap) (hB:H[id]? = some (.arr g 3 (t.map Val.enc))) (hok:HOK H) (hl:t.length≤2 ^ 20) :
 ∃ g',callW tbl (.func zz3 [] []) [.sl id g 0 t.length] H=some (.sl H.length g' 0 t.length,H++[.arr g' 3 (t.map Val.enc)]):=by
 have k0:=ze1 hB
 have n0:=lt_of hB
 obtain ⟨r,H',⟨g',rfl,rfl⟩,hcall⟩:=callE (tbl:=tbl) (f:=zz3) (first:=[]) (captured:=[]) (args:=[.sl id g 0 t.length]) (H:=H)
  (fun r H'=>∃ g',r=.sl H.length g' 0 t.length∧H'=H++[.arr g' 3 (t.map Val.enc)]) zn1 rfl rfl rfl (fun F hF=>by
  have hroom:t.length * 32≤140737488355328:=by omega
  have htk:List.take t.length (t.map Val.enc)=t.map Val.enc:=List.take_of_length_le (by simp)
  have hrow:∀ x∈t.map Val.enc,AV.rowok 3 x=true:=by intro x hx; obtain ⟨y,_,rfl⟩:=List.mem_map.1 hx; rfl
  have hnl:∀ n,binA .eql .slice (.sl id g 0 n) .nilsl=some (.bool false):=fun _=>rfl
  by_cases h0:t.length=0
  ·have:t=[]:=List.length_eq_zero_iff.1 h0
   subst this
   have ha0:∀ a b c d ids src,zg5 3 32 (.sl a b c d) 0 ids src=.val (.sl a b c d):=fun _ _ _ _ _ _=>rfl
   simp [zn1,z04,zh1,ha0,k0,n0,room,zr,hnl]
   exact hF _ _ ⟨_,rfl,rfl⟩
  ·simp [zn1,z04,zh1,zi1,k0,n0,room,zr,hroom,h0,hnl,zw3,htk]
   have hrow':∀ a∈t,AV.rowok 3 a.enc=true:=fun _ _=>rfl
   rw [if_pos hrow']
   simp
   exact hF _ _ ⟨_,rfl,rfl⟩)
 refine ⟨g',?_⟩
 rw [hcall,show zn1.frz=false from rfl]
 have:zj false H.length (.sl H.length g' 0 t.length) (H++[.arr g' 3 (t.map Val.enc)])=(.sl H.length g' 0 t.length,H++[.arr g' 3 (t.map Val.enc)]):=by
  simp [zj,trunc,AV.under]
 rw [this]
end Go.Abs.Plan
namespace Go.Abs.Plan
open Enc (Is)
def RB (a b:AV) (pred:ByteArray) (c rels bnd:AV) (idm:Nat):Blk:=.arr 1 7 [.agg [a,b, .str pred,c,rels,bnd, .map idm 1]]
def z4a (ks:List Int) (t:Tup):List UInt8:=ks.flatMap fun k=>valB (t.getD k.toNat zi)
def z5a (ks:List Int) (t:Tup):ByteArray:=⟨⟨z4a ks t⟩⟩
theorem zhv (ks:List Int) (t:Tup) (ht:TupOk t) (hk:∀ k∈ks,k.toNat < t.length):(z4a ks t).length≤ks.length * (2 ^ 20 + 30):=by
 induction ks with
 | nil=>simp [z4a]
 | cons k ks ih=>
   have h1:=hk k (by simp)
   have h2:=ih (fun k h=>hk k (by simp [h]))
   have hv:ValOk (t.getD k.toNat zi):=by
    rw [List.getD_eq_getElem?_getD,List.getElem?_eq_getElem h1]; exact ht.val _ (List.getElem_mem h1)
   have h3:=z1i hv
   simp only [z4a,List.flatMap_cons,List.length_append,List.length_cons] at h2 ⊢
   rw [Nat.add_mul]; omega
theorem z4t (ks:List Int) (k:Int) (t:Tup):z4a (ks++[k]) t=z4a ks t++valB (t.getD k.toNat zi):=by simp [z4a]
theorem ziv (a b c rels bnd:AV) (pred:ByteArray) (idm idr:Nat) (H:Heap) (hok:HOK H) (hB:H[idr]? = some (RB a b pred c rels bnd idm)) (L:List (List Int)) (hbd:Is bnd L) (i:Nat) (ks:List Int) (hi:L[i]? = some ks)
 (t:Tup) (tv:AV) (htv:Is tv t) (ht:TupOk t) (hks:ks.length≤2 ^ 20) (hk:∀ k∈ks,0≤k∧k.toNat < t.length) :
 callW tbl (.func zn6 [] []) [.ptr idr 1 0 0,i64 i,tv] H=some (.str (z5a ks t),H):=by
 have k0:=ze1 hB
 have n0:=lt_of hB
 have cb:=zb hbd
 obtain ⟨fl,bv,hbv,hidb⟩:=IsL.idx hbd hi
 simp only [show Enc.sz (List Int)=1 from rfl] at hidb
 have cbv:=zb hbv
 refine callB zp2 rfl rfl rfl (fun F hF=>?_)
 simp [zp2,z8a,k0,n0,RB,hidb,cbv,IsL.len hbv]
 refine zb2 ks.length (fun j s=>AccD H (s.tm.get 7) s.heap (z4a (ks.take j) t)∧s.dfr=[]∧s.tm.get 2=tv∧s.tm.get 16=bv∧s.tm.get 17=i64 ks.length∧s.tm.get 18=i64 j)
  0 (by omega) ⟨by simp [z4a]; exact .inl ⟨rfl,rfl,rfl⟩,by simp,by simp,by simp,by simp,by simp⟩ (by omega) (by rintro j s h; exact ⟨h.2.2.2.2.2,h.2.2.2.2.1⟩) ?_ ?_
 ·rintro j s B hj ⟨hacc,q2,f2,f16,f17,f18⟩ hgo hx
  have hg:ks[j]? = some ks[j]:=by simp [hj]
  obtain ⟨fl2,kv,rfl,hidk⟩:=IsL.idx hbv hg
  simp only [show Enc.sz Int=1 from rfl] at hidk
  obtain ⟨hk0,hkl⟩:=hk _ (List.getElem_mem hj)
  have htk:ks.take (j + 1)=ks.take j++[ks[j]]:=by rw [List.take_add_one,hg]; rfl
  have hsn:=z4t (ks.take j) ks[j] t
  rw [← htk] at hsn
  have hbl:=zhv (ks.take j) t ht (fun k h=>(hk k (List.mem_of_mem_take h)).2)
  have hjl:(ks.take j).length≤2 ^ 20:=by simp; omega
  obtain ⟨m,hm⟩:∃ m:Nat,ks[j]=(m:Int):=⟨ks[j].toNat,by omega⟩
  rw [hm] at hkl hidk hsn
  rw [Int.toNat_natCast] at hkl hsn
  have hgt:t[m]? = some t[m]:=by simp [hkl]
  obtain ⟨fl3,yv,rfl,hidt⟩:=IsL.idx htv hgt
  simp only [show Enc.sz Val=3 from rfl] at hidt
  have hgd:t.getD m zi=t[m]:=by rw [List.getD_eq_getElem?_getD,hgt]; rfl
  rw [hgd] at hsn
  obtain ⟨r,H',hc,hG⟩:=zhp t[m] (ht.val _ (List.getElem_mem hkl)) (s.tm.get 7) _ H s.heap hacc (by omega)
  simp [f2,f16,f18,hidk,hidt,hc,AV.rowok]
  exact hgo _ _ (.inl rfl) (by simp [f18]) ⟨by simp [hsn]; exact hG,by simp [q2],by simp [f2],by simp [f16],by simp [f17],by simp⟩
 ·rintro s ⟨hacc,q2,f2,f16,f17,f18⟩
  rw [List.take_length] at hacc
  simp [q2]
  rcases hacc with ⟨h1,h2,h3⟩ | ⟨g,T,h2,h3⟩
  ·simp [h2,zsd,q2]
   refine hF _ _ ?_
   rw [show zp2.frz=false from rfl,h3,ze rfl]
   simp [z5a,h1]
  ·have hb:s.heap[H.length]? = some (.arr g 1 (bcells (z4a ks t))):=by rw [h3]; simp
   have kb:=ze1 hb
   have nb:=lt_of hb
   simp [h2,zsd,kb,nb,zw3,zk1,ztm,zwq,q2]
   refine hF _ _ ?_
   rw [show zp2.frz=false from rfl,h3,zhc hok rfl rfl]
   rfl
theorem AccD.get {H0 Hs:Heap} {b:AV} {l:List UInt8} (h:AccD H0 b Hs l) {j:Nat} (hj:j < H0.length):Hs[j]? = H0[j]? := by
 rcases h with ⟨_,_,rfl⟩ | ⟨g,T,_,rfl⟩
 ·rfl
 ·rw [List.getElem?_append_left hj]
theorem TS.mono {H H':Heap} {v:AV} {t:Tup} (h:TS H v t) (hH:∀ j,j < H.length→H'[j]? = H[j]?):TS H' v t:=by
 obtain ⟨id,g,rfl,hB⟩:=h
 exact ⟨id,g,rfl,by rw [hH id (lt_of hB)]; exact hB⟩
def keyB2 (ks:List Int) (cols:List Col) (x:Tup):List UInt8:=ks.flatMap fun k=>valB (zo1 (cols.getD k.toNat zf1) x)
def keyS2 (ks:List Int) (cols:List Col) (x:Tup):ByteArray:=⟨⟨keyB2 ks cols x⟩⟩
theorem zvy (ks:List Int) (k:Int) (cols:List Col) (x:Tup):keyB2 (ks++[k]) cols x=keyB2 ks cols x++valB (zo1 (cols.getD k.toNat zf1) x):=by simp [keyB2]
def ValIn (cols:List Col) (x:Tup) (k:Int):Prop:=0≤k∧k.toNat < cols.length∧ColIn x.length (cols.getD k.toNat zf1)∧ValOk (zo1 (cols.getD k.toNat zf1) x)
theorem z321 (ks:List Int) (cols:List Col) (x:Tup) (hk:∀ k∈ks,ValIn cols x k):(keyB2 ks cols x).length≤ks.length * (2 ^ 20 + 30):=by
 induction ks with
 | nil=>simp [keyB2]
 | cons k ks ih=>
   have h1:=hk k (by simp)
   have h2:=ih (fun k h=>hk k (by simp [h]))
   have h3:=z1i h1.2.2.2
   simp only [keyB2,List.flatMap_cons,List.length_append,List.length_cons] at h2 ⊢
   rw [Nat.add_mul]; omega
theorem z5j (i:Nat) (k:ByteArray):zpf [.int .i64 0, .str ⟨#[]⟩] [(0,1,i64 i),(1,1, .str k)]=some (.agg [i64 i, .str k]):=rfl
theorem z6r (i:Nat) (k:ByteArray):keyOk true [.int, .str] (.agg [i64 i, .str k])=true:=by simp [keyOk,AV.isAgg]
theorem z421 (a b c rels bnd:AV) (pred:ByteArray) (idm idr:Nat) (H:Heap) (hok:HOK H) (hB:H[idr]? = some (RB a b pred c rels bnd idm)) (L:List (List Int)) (hbd:Is bnd L) (i:Nat) (ks:List Int) (hi:L[i]? = some ks)
 (steps:List Step) (hsb:Is b steps) (st:Step) (hst:steps[i]? = some st) (v:AV) (x:Tup) (hv:TS H v x) (hks:ks.length≤2 ^ 20) (hk:∀ k∈ks,ValIn st.cols x k)
 (ents:List MEnt) (clock:Nat) (hM:H[idm]? = some (.map 1 ents clock)) (z:AV) (hlk:zm6 true [.int, .str] .nilsl (.agg [i64 i, .str (keyS2 ks st.cols x)]) false ents=some z)
 (hz:z=.nilsl∨∃ id g off len,z=.sl id g off len∧id < H.length) :
 callW tbl (.func zc8 [] []) [.ptr idr 1 0 0,i64 i,v] H=some (z,H):=by
 have k0:=ze1 hB
 have n0:=lt_of hB
 have nm:=lt_of hM
 obtain ⟨idv,gv,hvid,hvB⟩:=hv
 have cbd:=zb hbd
 obtain ⟨fl,bv,hbv,hidb⟩:=IsL.idx hbd hi
 simp only [show Enc.sz (List Int)=1 from rfl] at hidb
 have cbv:=zb hbv
 obtain ⟨fl',sv,⟨la,hla,rfl⟩,hids⟩:=IsL.idx hsb hst
 simp only [show Enc.sz Step=16 from rfl] at hids
 have cla:=zb hla
 refine callB z73 rfl rfl rfl (fun F hF=>?_)
 simp [z73,zsb,k0,n0,RB,hidb,cbv,IsL.len hbv]
 refine zb2 ks.length (fun j s=>AccD H (s.tm.get 7) s.heap (keyB2 (ks.take j) st.cols x)∧s.dfr=[]∧s.tm.get 0=.ptr idr 1 0 0∧s.tm.get 1=i64 i∧s.tm.get 2=v∧s.tm.get 16=bv∧s.tm.get 17=i64 ks.length∧s.tm.get 18=i64 j)
  0 (by omega) ⟨by simp [keyB2]; exact .inl ⟨rfl,rfl,rfl⟩,by simp,by simp,by simp,by simp,by simp,by simp,by simp⟩ (by omega) (by rintro j s h; exact ⟨h.2.2.2.2.2.2.2,h.2.2.2.2.2.2.1⟩) ?_ ?_
 ·rintro j s B hj ⟨hacc,q2,f0,f1,f2,f16,f17,f18⟩ hgo hx
  have hg:ks[j]? = some ks[j]:=by simp [hj]
  obtain ⟨fl2,kv,rfl,hidk⟩:=IsL.idx hbv hg
  simp only [show Enc.sz Int=1 from rfl] at hidk
  have hvi:=hk _ (List.getElem_mem hj)
  have htk:ks.take (j + 1)=ks.take j++[ks[j]]:=by rw [List.take_add_one,hg]; rfl
  have hsn:=zvy (ks.take j) ks[j] st.cols x
  rw [← htk] at hsn
  have hbl:=z321 (ks.take j) st.cols x (fun k h=>hk k (List.mem_of_mem_take h))
  have hjl:(ks.take j).length≤2 ^ 20:=by simp; omega
  obtain ⟨hk0,hkl,hci,hvo⟩:=hvi
  obtain ⟨m,hm⟩:∃ m:Nat,ks[j]=(m:Int):=⟨ks[j].toNat,by omega⟩
  rw [hm] at hkl hidk hsn hci hvo
  rw [Int.toNat_natCast] at hkl hsn hci hvo
  have hgc:st.cols[m]? = some st.cols[m]:=by simp [hkl]
  obtain ⟨fl3,cv,rfl,hidc⟩:=IsL.idx hla hgc
  simp only [show Enc.sz Col=5 from rfl] at hidc
  have hgd:st.cols.getD m zf1=st.cols[m]:=by rw [List.getD_eq_getElem?_getD,hgc]; rfl
  rw [hgd] at hsn hci hvo
  have hsr:s.heap[idr]? = some (RB a b pred c rels bnd idm):=by rw [hacc.get n0]; exact hB
  have kr:=ze1 hsr
  have nr:=lt_of hsr
  have hval:=z8i st.cols[m] x v s.heap (TS.mono (H:=H) ⟨idv,gv,hvid,hvB⟩ (fun j hj=>hacc.get hj)) hci
  obtain ⟨r,H',hc,hG⟩:=zhp (zo1 st.cols[m] x) hvo (s.tm.get 7) _ H s.heap hacc (by omega)
  generalize hcc:st.cols[m]=cc at *
  simp [f0,f1,f2,f16,f18,kr,nr,RB,hids,hidk,hidc,hc,hval,AV.rowok]
  exact hgo _ _ (.inl rfl) (by simp [f18]) ⟨by simp [hsn]; exact hG,by simp [q2],by simp [f0],by simp [f1],by simp [f2],by simp [f16],by simp [f17],by simp⟩
 ·rintro s ⟨hacc,q2,f0,f1,f2,f16,f17,f18⟩
  rw [List.take_length] at hacc
  have hsr:s.heap[idr]? = some (RB a b pred c rels bnd idm):=by rw [hacc.get n0]; exact hB
  have hsm:s.heap[idm]? = some (.map 1 ents clock):=by rw [hacc.get nm]; exact hM
  have kr:=ze1 hsr
  have nr:=lt_of hsr
  have km:=ze1 hsm
  have nm':=lt_of hsm
  have hfin:∀ T,s.heap=H++T→zj true H.length z s.heap=(z,H):=by
   intro T hT
   rw [hT]
   rcases hz with rfl | ⟨id,g,off,len,rfl,hlt⟩
   ·exact zi9 hok rfl (z6 rfl)
   ·exact z3r hok rfl hlt
  have hext:∃ T,s.heap=H++T:=by
   rcases hacc with ⟨_,_,h⟩ | ⟨g,T,_,h⟩
   ·exact ⟨[],by simp [h]⟩
   ·exact ⟨_,h⟩
  obtain ⟨T,hT⟩:=hext
  have hcl:=hfin T hT
  rcases hacc with ⟨h1,h2,h3⟩ | ⟨g,T,h2,h3⟩
  ·have hkey:keyS2 ks st.cols x=⟨#[]⟩:=by simp [keyS2,h1]
   rw [hkey] at hlk
   simp [f0,f1,kr,nr,RB,h2,zsd,km,nm',hlk,q2,z5j,z6r]
   exact hF _ _ (by rw [show z73.frz=true from rfl]; exact hcl)
  ·have hb:s.heap[H.length]? = some (.arr g 1 (bcells (keyB2 ks st.cols x))):=by rw [h3]; simp
   have kb:=ze1 hb
   have nb:=lt_of hb
   have hkey:(⟨⟨keyB2 ks st.cols x⟩⟩:ByteArray)=keyS2 ks st.cols x:=rfl
   simp [f0,f1,kr,nr,RB,h2,zsd,kb,nb,zw3,zk1,ztm,zwq,km,nm',hkey,hlk,q2,z5j,z6r]
   exact hF _ _ (by rw [show z73.frz=true from rfl]; exact hcl)
end Go.Abs.Plan
namespace Go.Abs.Plan
open Enc (Is)
structure Grp where
 i:Nat
 k:ByteArray
 rows:List AV
 id:Nat
 g:Nat
abbrev Grp.val (x:Grp):AV:=.sl x.id x.g 0 x.rows.length
def gEnts:List Grp→Nat→List MEnt
 | [],_=>[]
 | x::l,q=>{ key:=.agg [i64 x.i, .str x.k],val:=x.val,born:=q }::gEnts l (q + 1)
def isG (i:Nat) (k:ByteArray) (x:Grp):Bool:=decide (x.i=i∧x.k=k)
theorem zx71 (i i':Nat) (k k':ByteArray):keyEq true [.int, .str] (.agg [i64 i, .str k]) (.agg [i64 i', .str k'])=some (decide (i'=i∧k'=k)):=by
 have h1:((i:Int) == (i':Int))=decide (i'=i):=by
  rw [Bool.eq_iff_iff]; simp; omega
 by_cases hi:i'=i
 ·subst hi
  by_cases hk:k'=k
  ·subst hk; simp [keyEq,AV.isAgg]
  ·have:¬ k=k':=fun e=>hk e.symm
   simp [keyEq,AV.isAgg,hk,this]
 ·have:¬ (i:Int)=(i':Int):=by omega
  simp [keyEq,AV.isAgg,hi,this]
theorem z6j (i:Nat) (k:ByteArray):∀ (G:List Grp) (q n:Nat),findE true [.int, .str] (.agg [i64 i, .str k]) (gEnts G q) n =
 some ((G.findIdx? (isG i k)).map fun j=>(j + n,{ key:=.agg [i64 i, .str k],val:=(G[j]?.map Grp.val).getD .nilsl,born:=j + q }))
 | [],q,n=>rfl
 | x::l,q,n=>by
   simp only [gEnts,findE,zx71,List.findIdx?_cons]
   by_cases h:x.i=i∧x.k=k
   ·obtain ⟨rfl,rfl⟩:=h
    simp [isG]
   ·have h2:isG i k x=false:=by simp [isG,h]
    simp only [h,decide_false,h2,z6j i k l (q + 1) (n + 1)]
    cases l.findIdx? (isG i k) <;> simp <;> omega
theorem zmp (x:Grp):∀ (G:List Grp) (q:Nat),gEnts (G++[x]) q=gEnts G q++[{ key:=.agg [i64 x.i, .str x.k],val:=x.val,born:=q + G.length }]
 | [],q=>rfl
 | y::l,q=>by simp [gEnts,zmp x l (q + 1)]; omega
theorem z1n:∀ (G:List Grp) (q:Nat),(gEnts G q).length=G.length
 | [],q=>rfl
 | x::l,q=>by simp [gEnts,z1n l]
theorem z5t {e:MEnt}:∀ {G:List Grp} {q:Nat},e∈gEnts G q→∃ x∈G,e.key=.agg [i64 x.i, .str x.k]∧e.val=x.val
 | [],q,h=>by simp [gEnts] at h
 | x::l,q,h=>by
   simp only [gEnts,List.mem_cons] at h
   rcases h with rfl | h
   ·exact ⟨x,by simp,rfl,rfl⟩
   ·obtain ⟨y,h1,h2⟩:=z5t h
    exact ⟨y,by simp [h1],h2⟩
theorem z3x:∀ (G:List Grp) (q j:Nat),j < G.length→(gEnts G q).findIdx? (fun e=>(e.born:Int) == ((j + q:Nat):Int))=some j
 | [],q,j,h=>by simp at h
 | x::l,q,0,h=>by simp [gEnts,List.findIdx?_cons]
 | x::l,q,j + 1,h=>by
   have h1:¬ ((q:Int) == ((j + 1 + q:Nat):Int))=true:=by simp; omega
   have h2:=z3x l (q + 1) j (by simpa using h)
   have h3:j + (q + 1)=j + 1 + q:=by omega
   rw [h3] at h2
   simp only [gEnts,List.findIdx?_cons,h1,h2]
   simp
theorem z6k (y:Grp):∀ (G:List Grp) (q j:Nat) (x:Grp),G[j]? = some x→y.i=x.i→y.k=x.k→(gEnts G q).modify j (fun e=>{ e with val:=y.val })=gEnts (G.set j y) q
 | [],q,j,x,h,_,_=>by simp at h
 | z::l,q,0,x,h,h1,h2=>by simp at h; subst h; simp [gEnts,h1,h2]
 | z::l,q,j + 1,x,h,h1,h2=>by simp at h; simp [gEnts,z6k y l (q + 1) j x h h1 h2]
def z36 (G:List Grp) (i:Nat) (k:ByteArray):List AV:=((G.find? (isG i k)).map (·.rows)).getD []
structure NR (H:Heap) (a b:AV) (pred:ByteArray) (c bnd:AV) (G:List Grp) (n:Nat):Prop where
 map:H[0]? = some (.map 1 (gEnts G 0) G.length)
 run:∃ rels R,R.length=n∧H[1]? = some (RB a b pred c rels bnd 0)∧AV.plains R=true∧((R=[]∧rels=.nilsl)∨∃ sid sg,rels=.sl sid sg 0 R.length∧H[sid]? = some (.arr sg 1 R)∧2≤sid∧∀ x∈G,x.id≠sid)
 blk:∀ x∈G,2≤x.id∧H[x.id]? = some (.arr x.g 1 x.rows)∧AV.plains x.rows=true
 nod:(G.map (·.id)).Nodup
 one:G.Pairwise fun x y=>¬ (x.i=y.i∧x.k=y.k)
 hok:HOK H
end Go.Abs.Plan
namespace Go.Abs.Plan
open Enc (Is)
theorem z6t:∀ (G:List Grp) (q n:Nat),q + G.length≤n→(gEnts G q).findIdx? (fun e=>(e.born:Int) == (n:Int))=none
 | [],q,n,_=>rfl
 | x::l,q,n,h=>by
   have h1:¬ ((q:Int) == (n:Int))=true:=by simp at h ⊢; omega
   have h2:=z6t l (q + 1) n (by simp at h; omega)
   simp only [gEnts,List.findIdx?_cons,h1,h2]
   rfl
theorem z2n {α:Type} (f:α→α) (e:α):∀ l:List α,(l++[e]).modify l.length f=l++[f e]
 | []=>rfl
 | a::l=>by simp [z2n f e l]
abbrev newG (i:Nat) (k:ByteArray) (tv:AV) (id:Nat):Grp:=⟨i,k,[tv],id,1⟩
abbrev Grp.more (x:Grp) (tv:AV):Grp:=⟨x.i,x.k,x.rows++[tv],x.id,x.g + 1⟩
def insG (G:List Grp) (i:Nat) (k:ByteArray) (tv:AV) (id:Nat):List Grp:=match G.findIdx? (isG i k) with
 | none=>G++[newG i k tv id]
 | some q=>match G[q]? with
   | some x=>G.set q (x.more tv)
   | none=>G
theorem z3n {n:Nat} {G:List Grp} {q m:Nat} (h:∀ x∈G,x.id < n):Blk.under n (.map 1 (gEnts G q) m)=true:=by
 simp only [Blk.under,List.all_eq_true]
 intro e he
 obtain ⟨x,h1,h2,h3⟩:=z5t he
 rw [h2,h3]
 simp [AV.under,AV.unders,h x h1]
theorem NR.add {H:Heap} {a b c bnd tv:AV} {pred:ByteArray} {G:List Grp} {n i:Nat} {k:ByteArray} (hN:NR H a b pred c bnd G n) (hpl:tv.plain=true) (hq:G.findIdx? (isG i k)=none) {H':Heap}
 (hH:H'=((H++[Blk.arr 1 1 [tv]])++[Blk.arr 1 1 [tv]]).set 0 (.map 1 (gEnts (G++[newG i k tv (H.length + 1)]) 0) (G++[newG i k tv (H.length + 1)]).length)):NR H' a b pred c bnd (G++[newG i k tv (H.length + 1)]) n:=by
 have n0:=lt_of hN.map
 have hlt:∀ x∈G,x.id < H.length:=fun x hx=>lt_of (hN.blk x hx).2.1
 have hsame:∀ j B,j≠0→H[j]? = some B→H'[j]? = some B:=fun j B hj h=>by
  have:=lt_of h
  rw [hH,List.getElem?_set_ne (Ne.symm hj),List.append_assoc,List.getElem?_append_left this]; exact h
 have htv:AV.plains [tv]=true:=by simp [AV.plains,hpl]
 subst hH
 refine ⟨by simp,?_,?_,?_,?_,?_⟩
 ·obtain ⟨rels,R,h1,h2,h3,h4⟩:=hN.run
  refine ⟨rels,R,h1,hsame 1 _ (by omega) h2,h3,?_⟩
  rcases h4 with h4 | ⟨sid,sg,e1,e2,e3,e4⟩
  ·exact .inl h4
  ·refine .inr ⟨sid,sg,e1,hsame sid _ (by omega) e2,e3,fun x hx=>?_⟩
   have:=lt_of e2
   rcases List.mem_append.1 hx with hx | hx
   ·exact e4 x hx
   ·simp at hx; subst hx; simp only; omega
 ·intro x hx
  rcases List.mem_append.1 hx with hx | hx
  ·obtain ⟨h1,h2,h3⟩:=hN.blk x hx
   exact ⟨h1,hsame _ _ (by omega) h2,h3⟩
  ·simp at hx; subst hx
   exact ⟨by simp only; omega,by simp,htv⟩
 ·rw [List.map_append,List.nodup_append]
  refine ⟨hN.nod,by simp,fun u hu v hv=>?_⟩
  obtain ⟨x,hx,rfl⟩:=List.mem_map.1 hu
  simp at hv; subst hv
  have:=hlt x hx
  omega
 ·rw [List.pairwise_append]
  refine ⟨hN.one,by simp,fun x hx y hy=>?_⟩
  simp at hy; subst hy
  have:=List.findIdx?_eq_none_iff.1 hq x hx
  simpa [isG] using this
 ·have h1:HOK ((H++[Blk.arr 1 1 [tv]])++[Blk.arr 1 1 [tv]]):=(hN.hok.push (B:=Blk.arr 1 1 [tv]) (z31 _ htv)).push (B:=Blk.arr 1 1 [tv]) (z31 _ htv)
  refine h1.set (z3n (fun x hx=>?_))
  rcases List.mem_append.1 hx with hx | hx
  ·have:=hlt x hx
   simp; omega
  ·simp at hx; subst hx; simp
theorem NR.upd {H:Heap} {a b c bnd tv:AV} {pred:ByteArray} {G:List Grp} {n q:Nat} {x:Grp} (hN:NR H a b pred c bnd G n) (hpl:tv.plain=true) (hx:G[q]? = some x) {H':Heap}
 (hH:H'=(((H++[Blk.arr 1 1 [tv]])++[Blk.dead 0]).set x.id (.arr (x.g + 1) 1 (x.rows++[tv]))).set 0 (.map 1 (gEnts (G.set q (x.more tv)) 0) G.length)) :
 NR H' a b pred c bnd (G.set q (x.more tv)) n:=by
 have n0:=lt_of hN.map
 have hlt:∀ x∈G,x.id < H.length:=fun x hx=>lt_of (hN.blk x hx).2.1
 have hxm:x∈G:=List.mem_of_getElem? hx
 have hxl:=hlt x hxm
 have hq:q < G.length:=(List.getElem?_eq_some_iff.1 hx).1
 have hxq:G[q]=x:=by rw [List.getElem?_eq_getElem hq] at hx; exact Option.some.inj hx
 obtain ⟨hx2,hxB,hxp⟩:=hN.blk x hxm
 have hsame:∀ j B,j≠0→j≠x.id→H[j]? = some B→H'[j]? = some B:=fun j B hj hj2 h=>by
  have:=lt_of h
  rw [hH,List.getElem?_set_ne (Ne.symm hj),List.getElem?_set_ne (Ne.symm hj2),List.append_assoc,List.getElem?_append_left this]; exact h
 have htv:AV.plains [tv]=true:=by simp [AV.plains,hpl]
 have hrows:AV.plains (x.rows++[tv])=true:=by
  have:∀ l:List AV,AV.plains l=true→AV.plains (l++[tv])=true:=by
   intro l
   induction l with
   | nil=>intro _; exact htv
   | cons y l ih=>intro h; simp only [AV.plains,Bool.and_eq_true,List.cons_append] at h ⊢; exact ⟨h.1,ih h.2⟩
  exact this _ hxp
 have hids:(G.set q (x.more tv)).map (·.id)=G.map (·.id):=by
  rw [List.map_set]
  apply List.ext_getElem?
  intro i
  rw [List.getElem?_set]
  split
  ·rename_i e; subst e; simp [hq,hxq]
  ·rfl
 have hmem:∀ y∈G.set q (x.more tv),y.id < H.length:=fun y hy=>by
  have:y.id∈G.map (·.id):=by rw [← hids]; exact List.mem_map.2 ⟨y,hy,rfl⟩
  obtain ⟨z,hz,hzy⟩:=List.mem_map.1 this
  rw [← hzy]; exact hlt z hz
 subst hH
 refine ⟨by simp,?_,?_,by rw [hids]; exact hN.nod,?_,?_⟩
 ·obtain ⟨rels,R,h1,h2,h3,h4⟩:=hN.run
  refine ⟨rels,R,h1,hsame 1 _ (by omega) (by omega) h2,h3,?_⟩
  rcases h4 with h4 | ⟨sid,sg,e1,e2,e3,e4⟩
  ·exact .inl h4
  ·refine .inr ⟨sid,sg,e1,hsame sid _ (by omega) (fun e=>e4 x hxm e.symm) e2,e3,fun y hy=>?_⟩
   have:y.id∈G.map (·.id):=by rw [← hids]; exact List.mem_map.2 ⟨y,hy,rfl⟩
   obtain ⟨z,hz,hzy⟩:=List.mem_map.1 this
   rw [← hzy]; exact e4 z hz
 ·intro y hy
  obtain ⟨i,hi,rfl⟩:=List.mem_iff_getElem.1 hy
  rw [List.getElem_set]
  split
  ·exact ⟨hx2,by rw [List.getElem?_set_ne (show (0:Nat)≠x.id by omega),List.getElem?_set_self (by simp; omega)],hrows⟩
  ·rename_i hne
   have hil:i < G.length:=by simpa using hi
   obtain ⟨h1,h2,h3⟩:=hN.blk G[i] (List.getElem_mem hil)
   refine ⟨h1,hsame _ _ (by omega) (fun e=>?_) h2,h3⟩
   have h5:(G.map (·.id))[i]'(by simpa using hil)=(G.map (·.id))[q]'(by simpa using hq):=by simp [hxq,e]
   have hp:=List.pairwise_iff_getElem.1 hN.nod
   rcases Nat.lt_or_gt_of_ne hne with h | h
   ·exact hp q i (by simpa using hq) (by simpa using hil) h h5.symm
   ·exact hp i q (by simpa using hil) (by simpa using hq) h h5
 ·rw [List.pairwise_iff_getElem]
  have ho:=List.pairwise_iff_getElem.1 hN.one
  intro i j hi hj hij
  have hi':i < G.length:=by simpa using hi
  have hj':j < G.length:=by simpa using hj
  have hk:∀ (m:Nat) (hm:m < G.length) (hm':m < (G.set q (x.more tv)).length),(G.set q (x.more tv))[m].i=G[m].i∧(G.set q (x.more tv))[m].k=G[m].k:=by
   intro m hm hm'
   rw [List.getElem_set]
   split
   ·rename_i e; subst e; rw [hxq]; exact ⟨rfl,rfl⟩
   ·exact ⟨rfl,rfl⟩
  rw [(hk i hi' hi).1,(hk i hi' hi).2,(hk j hj' hj).1,(hk j hj' hj).2]
  exact ho i j hi' hj' hij
 ·have h1:HOK ((H++[Blk.arr 1 1 [tv]])++[Blk.dead 0]):=(hN.hok.push (B:=Blk.arr 1 1 [tv]) (z31 _ htv)).push (B:=Blk.dead 0) rfl
  have h2:=h1.set (b:=x.id) (B:=.arr (x.g + 1) 1 (x.rows++[tv])) (z31 _ hrows)
  refine h2.set (z3n (fun y hy=>?_))
  have:=hmem y hy
  simp; omega
def k_ins:ACode:=.draw [mV 79 9,uu 80 (.nilCheck (tt 79)),fA 81 6 80,lD 82 81,uu 83 (.load true 2 (tt 15)),mV 85 14,uu 86 (.buildSlice .nilsl 1 [(0,(tt 85))]),uu 87 (.mapEntry true [.int, .str] .nilsl (tt 82) (tt 83)),uu 84 (.extract (tt 87) 0),uu 88 (.append 1 24 (tt 84) (tt 86)),uu 89 (.extract (tt 87) 1),nn (.entryStore (tt 82) (tt 89) (tt 88))] [(3,6),(4,6)]
theorem z651 {B:AExit→St→Prop} {a b c bnd tv:AV} {pred:ByteArray} {G:List Grp} {n:Nat} (i:Nat) (k:ByteArray) (s:St) (hN:NR s.heap a b pred c bnd G n) (f9:s.tm.get 9=.ptr 1 1 0 0) (f15:s.tm.get 15=.fptr false [i64 i, .str k] 0) (f14:s.tm.get 14=tv) (hcell:tv.isCell=true∧tv.cells=[tv]) (hpl:tv.plain=true)
 (hlen:∀ x∈G,x.rows.length≤2 ^ 30)
 (hgo:∀ H' id,NR H' a b pred c bnd (insG G i k tv id) n→B .normal { s with heap:=H' }) :
 EXEC (callW tbl) loopW k_ins [] s B:=by
 unfold k_ins
 have k0:=ze1 hN.map
 have n0:=lt_of hN.map
 obtain ⟨rels,R,hRn,hrun,hRp,hrels⟩:=hN.run
 have k1:=ze1 hrun
 have n1:=lt_of hrun
 have hfind:=z6j i k G 0 0
 cases hq:G.findIdx? (isG i k) with
 | none=>
   rw [hq] at hfind
   have hout:=z6t G 0 G.length (by omega)
   have hnl:¬ s.heap.length=1:=by omega
   have hmd:∀ (v:AV) (f:MEnt→MEnt),(gEnts G 0++[({ key:=.agg [i64 i, .str k],val:=v,born:=G.length }:MEnt)]).modify G.length f=gEnts G 0++[f { key:=.agg [i64 i, .str k],val:=v,born:=G.length }]:=by
    intro v f
    have:=z2n f { key:=.agg [i64 i, .str k],val:=v,born:=G.length } (gEnts G 0)
    rw [z1n] at this
    exact this
   simp [f9,f14,f15,k0,n0,k1,n1,RB,AV.rowok,z6r,hfind,zr,hcell,zh1,zg3,zw3,room,hout,z1n,hmd,hnl]
   have hins:∀ id,insG G i k tv id=G++[newG i k tv id]:=fun id=>by simp [insG,hq]
   refine hgo _ (s.heap.length + 1) ?_
   rw [hins]
   exact hN.add hpl hq (by simp [zmp,n0]; rfl)
 | some q=>
   obtain ⟨hql,hqx,_⟩:=List.findIdx?_eq_some_iff_getElem.1 hq
   have hg:G[q]? = some G[q]:=by simp [hql]
   rw [hq] at hfind
   simp only [Option.map_some,hg,Option.getD_some,Nat.add_zero] at hfind
   have hmemx:G[q]∈G:=List.getElem_mem hql
   have hat1:=z3x G 0 q hql
   rw [Nat.add_zero] at hat1
   have hmod:=z6k (G[q].more tv) G 0 q G[q] hg rfl rfl
   obtain ⟨b1,b2,b3⟩:=hN.blk _ hmemx
   have kx:=ze1 b2
   have nx:=lt_of b2
   have hlx:=hlen _ hmemx
   have hins:∀ id,insG G i k tv id=G.set q (G[q].more tv):=fun id=>by simp [insG,hq,hg]
   generalize hx:G[q]=x at *
   have hx0:¬ x.id=0:=by omega
   have hx1:¬ x.id=1:=by omega
   have hx2:¬ 0=x.id:=by omega
   have hx3:¬ 1=x.id:=by omega
   have hnl:¬ s.heap.length=1:=by omega
   have hnx:¬ s.heap.length=x.id:=by omega
   have hnx2:¬ x.id=s.heap.length:=by omega
   have nx2:x.id < s.heap.length + 2:=by omega
   have hr:(x.rows.length + 1) * 24≤140737488355328:=by omega
   have hno:¬ (x.rows.length + 1≤x.rows.length):=by omega
   simp [f9,f14,f15,k0,n0,k1,n1,RB,AV.rowok,z6r,hfind,zr,hcell,zh1,zi1,zw3,room,hat1,hmod,kx,nx,hx0,hx1,hx2,hx3,hnl,hnx,hnx2,nx2,hr,hno]
   refine hgo _ 0 ?_
   rw [hins]
   refine hN.upd hpl hg ?_
   rw [← hmod]
   simp [n0,nx,hx0]
   have hval:(x.more tv).val=.sl x.id (x.g + 1) 0 (x.rows.length + 1):=by simp [Grp.val]
   rw [List.set_comm _ _ hx2,List.set_set,hval]
end Go.Abs.Plan
namespace Go.Abs.Plan
open Enc (Is)
theorem znk {α:Type} (p:α→Bool):∀ (l:List α) (q:Nat) (x y:α),l[q]? = some x→p y=p x→(l.set q y).find? p=if l.findIdx? p=some q then some y else l.find? p
 | [],q,x,y,h,_=>by simp at h
 | a::l,0,x,y,h,hp=>by
   simp at h; subst h
   simp only [List.set_cons_zero,List.find?_cons,List.findIdx?_cons,hp]
   cases hpa:p a
   ·simp
   ·simp
 | a::l,q + 1,x,y,h,hp=>by
   simp at h
   simp only [List.set_cons_succ,List.find?_cons,List.findIdx?_cons]
   cases hpa:p a
   ·have:=znk p l q x y h hp
    simp [this]
   ·simp
theorem zy71 {i i':Nat} {k k':ByteArray} {x:Grp} (h:isG i k x=true) (h':isG i' k' x=true):i'=i∧k'=k:=by
 simp [isG] at h h'
 exact ⟨by omega,h'.2.symm.trans h.2⟩
theorem z7j (G:List Grp) (i i':Nat) (k k':ByteArray) (tv:AV) (id:Nat):z36 (insG G i k tv id) i' k'=if i'=i∧k'=k then z36 G i k++[tv] else z36 G i' k':=by
 unfold insG
 cases hq:G.findIdx? (isG i k) with
 | none=>
   have hnone:G.find? (isG i k)=none:=by
    rw [List.find?_eq_none]; intro x hx; have:=List.findIdx?_eq_none_iff.1 hq x hx; simp [this]
   simp only [z36,List.find?_append]
   by_cases h:i'=i∧k'=k
   ·obtain ⟨rfl,rfl⟩:=h
    simp [hnone,isG]
   ·have h2:isG i' k' (newG i k tv id)=false:=by
     simp only [isG,decide_eq_false_iff_not]; rintro ⟨rfl,rfl⟩; exact h ⟨rfl,rfl⟩
    rw [if_neg h]
    simp [h2]
 | some q=>
   obtain ⟨hql,hqx,_⟩:=List.findIdx?_eq_some_iff_getElem.1 hq
   have hg:G[q]? = some G[q]:=by simp [hql]
   simp only [hg]
   simp only [z36]
   rw [znk (isG i' k') G q G[q] (G[q].more tv) hg rfl]
   have hfind:G.find? (isG i k)=some G[q]:=by
    have:=znk (isG i k) G q G[q] G[q] hg rfl
    rw [hq,if_pos rfl] at this
    have e:G.set q G[q]=G:=List.set_getElem_self hql
    rw [e] at this; exact this
   by_cases h:i'=i∧k'=k
   ·obtain ⟨rfl,rfl⟩:=h
    simp [hq,hfind]
   ·rw [if_neg h,if_neg]
    intro hq'
    obtain ⟨_,hqx',_⟩:=List.findIdx?_eq_some_iff_getElem.1 hq'
    exact h (zy71 hqx hqx')
theorem zwy {G:List Grp} (ho:G.Pairwise fun x y=>¬ (x.i=y.i∧x.k=y.k)) {x:Grp} (hx:x∈G):z36 G x.i x.k=x.rows:=by
 have:G.find? (isG x.i x.k)=some x:=by
  induction G with
  | nil=>simp at hx
  | cons y l ih=>
    rw [List.pairwise_cons] at ho
    rcases List.mem_cons.1 hx with rfl | hx
    ·simp [isG]
    ·have:isG x.i x.k y=false:=by simp only [isG,decide_eq_false_iff_not]; exact ho.1 x hx
     rw [List.find?_cons,this]
     exact ih ho.2 hx
 simp [z36,this]
theorem z7r {n:Nat} {a b c rels bnd:AV} {pred:ByteArray} (hp:AV.plains [a,b,c,bnd]=true) (hr:rels.under n=true) (hn:0 < n):(RB a b pred c rels bnd 0).under n=true:=by
 simp only [AV.plains,Bool.and_eq_true] at hp
 obtain ⟨h1,h2,h3,h4,_⟩:=hp
 simp [RB,Blk.under,AV.unders,AV.under,zu5 _ h1,zu5 _ h2,zu5 _ h3,zu5 _ h4,hr,hn]
theorem NR.rel {H:Heap} {a b c bnd rv rels:AV} {pred:ByteArray} {G:List Grp} {n:Nat} (hN:NR H a b pred c bnd G n) (hpl:AV.plains [a,b,c,bnd]=true) (hrv:rv.plain=true) (hrun:H[1]? = some (RB a b pred c rels bnd 0)) {H':Heap}
 (hH:(rels=.nilsl∧H'=(H++[Blk.arr 0 1 [rv]]).set 1 (RB a b pred c (.sl H.length 0 0 1) bnd 0))∨∃ sid sg R,rels=.sl sid sg 0 R.length∧H[sid]? = some (.arr sg 1 R)∧H'=(H.set sid (.arr (sg + 1) 1 (R++[rv]))).set 1 (RB a b pred c (.sl sid (sg + 1) 0 (R.length + 1)) bnd 0)):NR H' a b pred c bnd G (n + 1):=by
 obtain ⟨rels',R',h1,h2,h3,h4⟩:=hN.run
 rw [hrun] at h2
 have e:rels'=rels:=by
  simp only [RB,Option.some.injEq,Blk.arr.injEq,List.cons.injEq,AV.agg.injEq] at h2
  exact h2.2.2.1.2.2.2.2.1.symm
 subst e
 have n0:=lt_of hN.map
 have n1:=lt_of hrun
 have hlt:∀ x∈G,x.id < H.length:=fun x hx=>lt_of (hN.blk x hx).2.1
 rcases hH with ⟨rfl,rfl⟩ | ⟨sid,sg,R,rfl,hs,rfl⟩
 ·have hR:R'=[]:=by
   rcases h4 with h4 | ⟨sid,sg,e1,_⟩
   ·exact h4.1
   ·cases e1
  subst hR
  refine ⟨?_,⟨.sl H.length 0 0 1,[rv],by rw [← h1]; rfl,by rw [List.getElem?_set_self (by simp; omega)],by simp [AV.plains,hrv], .inr ⟨H.length,0,rfl,?_,by omega,fun x hx=>by have:=hlt x hx; omega⟩⟩,fun x hx=>?_,hN.nod,hN.one,?_⟩
  ·rw [List.getElem?_set_ne (by omega),List.getElem?_append_left n0]; exact hN.map
  ·rw [List.getElem?_set_ne (by omega)]; simp
  ·obtain ⟨g1,g2,g3⟩:=hN.blk x hx
   exact ⟨g1,by rw [List.getElem?_set_ne (by omega),List.getElem?_append_left (hlt x hx)]; exact g2,g3⟩
  ·refine (hN.hok.push (B:=Blk.arr 0 1 [rv]) (z31 _ (by simp [AV.plains,hrv]))).set (z7r hpl (by simp [AV.under]) (by simp))
 ·rcases h4 with ⟨_,h4⟩ | ⟨sid',sg',e1,e2,e3,e4⟩
  ·cases h4
  ·simp only [AV.sl.injEq] at e1
   obtain ⟨rfl,rfl,_,hlen⟩:=e1
   rw [hs] at e2
   simp only [Option.some.injEq,Blk.arr.injEq,true_and] at e2
   subst e2
   have hsl:=lt_of hs
   have hpR:AV.plains (R++[rv])=true:=by
    have:∀ l:List AV,AV.plains l=true→AV.plains (l++[rv])=true:=by
     intro l
     induction l with
     | nil=>intro _; simp [AV.plains,hrv]
     | cons y l ih=>intro h; simp only [AV.plains,Bool.and_eq_true,List.cons_append] at h ⊢; exact ⟨h.1,ih h.2⟩
    exact this _ h3
   refine ⟨?_,⟨.sl sid (sg + 1) 0 (R.length + 1),R++[rv],by rw [List.length_append,h1]; rfl,by rw [List.getElem?_set_self (by simp; omega)],hpR, .inr ⟨sid,sg + 1,by simp,?_,e3,e4⟩⟩,fun x hx=>?_,hN.nod,hN.one,?_⟩
   ·rw [List.getElem?_set_ne (by omega),List.getElem?_set_ne (by omega)]; exact hN.map
   ·rw [List.getElem?_set_ne (by omega)]; simp [hsl]
   ·obtain ⟨g1,g2,g3⟩:=hN.blk x hx
    exact ⟨g1,by rw [List.getElem?_set_ne (by omega),List.getElem?_set_ne (fun e=>e4 x hx e.symm)]; exact g2,g3⟩
   ·exact (hN.hok.set (b:=sid) (B:=Blk.arr (sg + 1) 1 (R++[rv])) (z31 _ hpR)).set (z7r hpl (by simp [AV.under]; omega) (by simp; omega))
end Go.Abs.Plan
namespace Go.Abs.Plan
open Enc (Is)
def relT (st:Step) (old now:List RelOf) (delta:List Tup):List Tup:=if st.op=4 then delta else if st.old=true then ofL old st.pred else ofL now st.pred
def grpT (st:Step) (ks:List Int) (rel:List Tup) (k:ByteArray):List Tup:=if st.op=3 then [] else rel.filter fun t=>decide (t.length=st.cols.length) && decide (z5a ks t=k)
def ksAt (p:Plan) (i:Nat):List Int:=zd1 (zwg (p.steps.take i)) 0 ((p.steps.getD i default).cols)
def expT (p:Plan) (old now:List RelOf) (delta:List Tup) (i:Nat) (k:ByteArray):List Tup:=grpT (p.steps.getD i default) (ksAt p i) (relT (p.steps.getD i default) old now delta) k
theorem zxg:∀ (ss:List Step) (B i:Nat),i < ss.length→(zt3 B ss)[i]? = some (zd1 ((ss.take i).foldl (fun B s=>bindB B s.cols) B) 0 ((ss.getD i default).cols))
 | [],B,i,h=>by simp at h
 | s::ss,B,0,h=>by simp [zt3]
 | s::ss,B,i + 1,h=>by
   have:=zxg ss (bindB B s.cols) i (by simpa using h)
   simpa [zt3] using this
theorem z9i {B:Nat}:∀ {cs:List Col} {i:Nat} {k:Int},k∈zd1 B i cs→(i:Int)≤k∧k < ((i + cs.length:Nat):Int)
 | [],i,k,h=>by simp [zd1] at h
 | c::cs,i,k,h=>by
   simp only [zd1] at h
   have key:k∈zd1 B (i + 1) cs→(i:Int)≤k∧k < ((i + (c::cs).length:Nat):Int):=fun h=>by
    have:=z9i h
    simp only [List.length_cons]
    omega
   split at h
   ·rcases List.mem_cons.1 h with rfl | h
    ·simp only [List.length_cons]; omega
    ·exact key h
   ·exact key h
theorem z521 (st:Step) (ks:List Int) (l:List Tup) (t:Tup) (k:ByteArray):grpT st ks (l++[t]) k=grpT st ks l k++(if ¬ st.op=3∧t.length=st.cols.length∧k=z5a ks t then [t] else []):=by
 unfold grpT
 by_cases h3:st.op=3
 ·simp [h3]
 ·rw [if_neg h3,if_neg h3,List.filter_append]
  congr 1
  by_cases hl:t.length=st.cols.length
  ·by_cases hk:k=z5a ks t
   ·subst hk; simp [h3,hl]
   ·have:¬ z5a ks t=k:=fun e=>hk e.symm
    simp [hl,hk,this]
  ·simp [hl]
theorem z8r (st:Step) (ks:List Int) (l:List Tup) (k:ByteArray):(grpT st ks l k).length≤l.length:=by
 unfold grpT
 split
 ·simp
 ·exact List.length_filter_le _ _
structure zk6 (l:List RelOf):Prop where
 len:l.length≤2 ^ 20
 rel:∀ r∈l,r.rel.length≤2 ^ 20∧∀ t∈r.rel,TupOk t
theorem zk6.of {l:List RelOf} (h:zk6 l) (nm:ByteArray):(ofL l nm).length≤2 ^ 20∧∀ t∈ofL l nm,TupOk t:=by
 unfold ofL
 cases hf:l.find? (fun r=>decide (r.name=nm)) with
 | none=>simp
 | some r=>exact h.rel r (List.mem_of_find?_eq_some hf)
theorem zxy (p:Plan) (v:AV) (hv:Is v p) (hn:p.vars.length≤2 ^ 20) (hs:p.steps.length≤2 ^ 20) (hc:∀ s∈p.steps,s.cols.length≤2 ^ 20∧∀ c∈s.cols,ColN p.vars.length c) (H:Heap) :
 ∃ r,callW tbl (.func zqe [] []) [v] H=some (r,H)∧Is r (zt3 0 p.steps):=
 z76 (f:=zqe) (af:=zx7) rfl rfl (R:=fun a=>∃ v,a=[v]∧Is v p) (S:=fun r=>Is r (zt3 0 p.steps)) (by rintro _ ⟨v,rfl,h⟩; simp [AV.plains,Enc.plain h]) (by rintro _ ⟨v,rfl,h⟩; exact ⟨v.lend,rfl,Enc.lend h⟩)
  (fun r h=>Enc.lend h) (by rintro _ ⟨v,rfl,h⟩; obtain ⟨r,h1,h2,_⟩:=z121 p v h hn hs hc; exact ⟨r,h1,h2⟩) _ H ⟨v,rfl,hv⟩
structure RunOk (H:Heap) (p:Plan) (old now:List RelOf) (delta:List Tup) (a b c rels bnd:AV) (G:List Grp):Prop where
 isA:Is a p.vars
 isB:Is b p.steps
 isK:Is bnd (zt3 0 p.steps)
 map:H[0]? = some (.map 1 (gEnts G 0) G.length)
 run:H[1]? = some (RB a b p.pred c rels bnd 0)
 blk:∀ x∈G,H[x.id]? = some (.arr x.g 1 x.rows)
 rows:∀ i k,i < p.steps.length→All2 Is (z36 G i k) (expT p old now delta i k)
 one:G.Pairwise fun x y=>¬ (x.i=y.i∧x.k=y.k)
 hok:HOK H
def zyg:ACode:=(SS (RR [mV 46 9,mV 47 9,uu 48 (.nilCheck (tt 47)),fA 49 4 48,lD 50 49,mV 51 12,uu 52 (.buildSliceF .nilsl 1 [(0,(tt 51))]),uu 53 (.append 1 24 (tt 50) (tt 52)),uu 54 (.nilCheck (tt 46)),fA 55 4 54,nn (.store 1 (tt 55) (tt 53))])
 (SS (RR [kM 56 12,kk 57 (.len .slice (tt 56)),kk 58 (.move (ii 0))])
 (.block 3 (.loop zq3))))
theorem z4o (p:Plan) (old now:List RelOf) (delta:List Tup) (vp vo vn vd:AV) (hp:Is vp p) (ho:Is vo old) (hnw:Is vn now) (hd:Is vd delta)
 (hn:p.vars.length≤2 ^ 20) (hs:p.steps.length≤2 ^ 20) (hc:∀ s∈p.steps,s.cols.length≤2 ^ 20∧∀ c∈s.cols,ColN p.vars.length c) (oko:zk6 old) (okn:zk6 now) (okd:delta.length≤2 ^ 20∧∀ t∈delta,TupOk t) :
 ∃ H',callW tbl (.func zy9 [] []) [vp,vo,vn,vd] []=some (.ptr 1 1 0 0,H')∧∃ a b c rels bnd G,RunOk H' p old now delta a b c rels bnd G:=by
 obtain ⟨a,b,c,ha,hb,hcc,rfl⟩:=hp
 have ca:=zb ha
 have cb:=zb hb
 have cc:=zb hcc
 have hkn:=zxy p (.agg [a,b, .str p.pred,c]) ⟨a,b,c,ha,hb,hcc,rfl⟩ hn hs hc []
 have key:∃ r H',(r=.ptr 1 1 0 0∧∃ a b c rels bnd G,RunOk H' p old now delta a b c rels bnd G)∧callW tbl (.func zy9 [] []) [.agg [a,b, .str p.pred,c],vo,vn,vd] []=some (zj false 0 r H'):=by
  refine callE (fun r H'=>r=.ptr 1 1 0 0∧∃ a b c rels bnd G,RunOk H' p old now delta a b c rels bnd G) z67 rfl rfl rfl (fun F hF=>?_)
  simp [z67,z3e,AV.rowok,ca,cb,cc]
  refine zay (by simp [AV.plain,AV.plains,Enc.plain ha,Enc.plain hb,Enc.plain hcc]) hkn (fun r h=>Enc.plain h) (fun bnd hbd=>?_)
  have cbd:=zb hbd
  simp [z26,z8,splice,cbd,ca,cb,cc,AV.rowok,IsL.len hb]
  have hpl:AV.plains [a,b,c,bnd]=true:=by simp [AV.plains,Enc.plain ha,Enc.plain hb,Enc.plain hcc,Enc.plain hbd]
  refine zb2 p.steps.length (fun j s=>∃ G,NR s.heap a b p.pred c bnd G j∧(∀ i k,i < j→All2 Is (z36 G i k) (expT p old now delta i k))∧(∀ i k,j≤i→z36 G i k=[])∧s.dfr=[] ∧
   s.tm.get 1=vo∧s.tm.get 2=vn∧s.tm.get 3=vd∧s.tm.get 9=.ptr 1 1 0 0∧s.tm.get 23=b∧s.tm.get 24=i64 p.steps.length∧s.tm.get 25=i64 j)
   0 (by omega) ⟨[],⟨rfl,⟨.nilsl,[],rfl,rfl,rfl, .inl ⟨rfl,rfl⟩⟩,by simp,by simp,by simp,?_⟩,by simp,by simp [z36],by simp,by simp,by simp,by simp,by simp,by simp,by simp,by simp⟩ (by omega) (by rintro j s ⟨G,h⟩; exact ⟨h.2.2.2.2.2.2.2.2.2.2,h.2.2.2.2.2.2.2.2.2.1⟩) ?_ ?_
  ·intro B hB
   simp only [List.mem_cons,List.not_mem_nil,or_false] at hB
   rcases hB with rfl | rfl
   ·rfl
   ·exact z7r (a:=a) (b:=b) (c:=c) (bnd:=bnd) (pred:=p.pred) hpl (by rfl) (by simp)
  ·rintro j s B hj ⟨G,hN,hlt,hge,q2,f1,f2,f3,f9,f23,f24,f25⟩ hgo hx
   have hg:p.steps[j]? = some p.steps[j]:=by simp [hj]
   obtain ⟨fl',sv,⟨la,hla,rfl⟩,hidx⟩:=IsL.idx hb hg
   simp only [show Enc.sz Step=16 from rfl] at hidx
   obtain ⟨hcl,hcn⟩:=hc _ (List.getElem_mem hj)
   have hcs:=zb hla
   have hgD:p.steps.getD j default=p.steps[j]:=by rw [List.getD_eq_getElem?_getD,hg]; rfl
   have hkg:(zt3 0 p.steps)[j]? = some (ksAt p j):=by rw [zxg _ _ _ hj]; rfl
   have hexp:∀ k,expT p old now delta j k=grpT p.steps[j] (ksAt p j) (relT p.steps[j] old now delta) k:=fun k=>by rw [expT,hgD]
   have hkl:(ksAt p j).length≤2 ^ 20:=by rw [ksAt,hgD]; exact Nat.le_trans (zpa _ _ _) hcl
   have hkm:∀ k∈ksAt p j,0≤k∧k < (p.steps[j].cols.length:Int):=fun k hk=>by
    rw [ksAt,hgD] at hk
    have:=z9i hk
    simp at this; omega
   generalize hst:p.steps[j]=st at *
   change EXEC (callW tbl) loopW (SS (RR [mV 27 25,iX 28 16 23 25,uu 29 (.load true 16 (tt 28)),kM 10 27,kk 11 (.boxF 16 (tt 29))])
 (SS (RR [mV 30 3,kM 12 30])
 (SS (.block 2 (SS (RR [fA 36 0 11,lD 37 36,uu 38 (.bin .eql .no (tt 37) (ii 4)),kM 35 38])
 (.cond (tt 35) .skip (SS (RR [fA 40 3 11,lD 41 40,kM 39 41])
 (.cond (tt 39) (RR [mV 42 1,fA 43 2 11,lD 44 43,uu 45 (.call (.func zta) [(tt 42),(tt 44)]),kM 12 45]) (RR [mV 31 2,fA 32 2 11,lD 33 32,uu 34 (.call (.func zta) [(tt 31),(tt 33)]),kM 12 34]))))))
 zyg))) [] _ B
   have tail:∀ (rv:AV) (s':St),Is rv (relT st old now delta)→s'.heap=s.heap→s'.dfr=[]→s'.tm.get 1=vo→s'.tm.get 2=vn→s'.tm.get 3=vd→s'.tm.get 9=.ptr 1 1 0 0→s'.tm.get 10=i64 j→s'.tm.get 11=.fptr false (st.encW la).cells 0→s'.tm.get 12=rv→s'.tm.get 23=b→s'.tm.get 24=i64 p.steps.length→s'.tm.get 25=i64 j →
    EXEC (callW tbl) loopW zyg [] s' B:=by
    intro rv s' hrv e0 e00 e1 e2 e3 e9 e10 e11 e12 e23 e24 e25
    have hrel:(relT st old now delta).length≤2 ^ 20∧∀ t∈relT st old now delta,TupOk t:=by
     unfold relT
     split
     ·exact okd
     ·split
      ·exact oko.of _
      ·exact okn.of _
    generalize relT st old now delta=rel at *
    have hrcell:=zb hrv
    have hrp:=Enc.plain hrv
    rw [← e0] at hN
    obtain ⟨rels,R,hR1,hR2,hR3,hR4⟩:=hN.run
    have k1:=ze1 hR2
    have n1:=lt_of hR2
    have inner:∀ s'':St,NR s''.heap a b p.pred c bnd G (j + 1)→s''.dfr=[]→s''.tm.get 1=vo→s''.tm.get 2=vn→s''.tm.get 3=vd→s''.tm.get 9=.ptr 1 1 0 0→s''.tm.get 10=i64 j→s''.tm.get 11=.fptr false (st.encW la).cells 0→s''.tm.get 12=rv→s''.tm.get 23=b→s''.tm.get 24=i64 p.steps.length→s''.tm.get 25=i64 j →
     EXEC (callW tbl) loopW (SS (RR [kM 56 12,kk 57 (.len .slice (tt 56)),kk 58 (.move (ii 0))]) (.block 3 (.loop zq3))) [] s'' B:=by
     intro s'' hN' e00 e1 e2 e3 e9 e10 e11 e12 e23 e24 e25
     clear hN hR1 hR2 hR3 hR4 k1 n1
     simp [e12,IsL.len hrv]
     refine zb2 rel.length (fun m s=>∃ G,NR s.heap a b p.pred c bnd G (j + 1)∧(∀ i k,i < j→All2 Is (z36 G i k) (expT p old now delta i k))∧(∀ i k,j < i→z36 G i k=[])∧(∀ k,All2 Is (z36 G j k) (grpT st (ksAt p j) (rel.take m) k))∧s.dfr=[] ∧
      s.tm.get 1=vo∧s.tm.get 2=vn∧s.tm.get 3=vd∧s.tm.get 9=.ptr 1 1 0 0∧s.tm.get 10=i64 j∧s.tm.get 11=.fptr false (st.encW la).cells 0∧s.tm.get 23=b∧s.tm.get 24=i64 p.steps.length∧s.tm.get 25=i64 j∧s.tm.get 56=rv∧s.tm.get 57=i64 rel.length∧s.tm.get 58=i64 m)
      0 (by omega) ⟨G,by simpa using hN',hlt,fun i k h=>hge i k (by omega),fun k=>by rw [hge j k (by omega)]; simp [grpT]; exact .nil,by simp [e00],by simp [e1],by simp [e2],by simp [e3],by simp [e9],by simp [e10],by simp [e11],by simp [e23],by simp [e24],by simp [e25],by simp,by simp,by simp⟩ (by omega) (by rintro j s ⟨G,h⟩; exact ⟨h.2.2.2.2.2.2.2.2.2.2.2.2.2.2.2.2,h.2.2.2.2.2.2.2.2.2.2.2.2.2.2.2.1⟩) ?_ ?_
     ·rintro m s2 B2 hm ⟨G2,hN2,hlt2,hgt2,hrow2,q2,f1,f2,f3,f9,f10,f11,f23,f24,f25,f56,f57,f58⟩ hgo2 hx2
      have hgm:rel[m]? = some rel[m]:=by simp [hm]
      obtain ⟨fl5,tv,htv,hidt⟩:=IsL.idx hrv hgm
      simp only [show Enc.sz Tup=1 from rfl] at hidt
      have hct:=zb htv
      have htk:rel.take (m + 1)=rel.take m++[rel[m]]:=by rw [List.take_add_one,hgm]; rfl
      have htok:=hrel.2 _ (List.getElem_mem hm)
      have hml:(rel.take m).length≤2 ^ 20:=by simp; omega
      generalize rel[m]=t at *
      have hgs:=fun k=>z521 st (ksAt p j) (rel.take m) t k
      rw [← htk] at hgs
      change EXEC (callW tbl) loopW (SS (RR [iX 60 1 56 58,lD 61 60,kM 14 61])
 (SS (RR [fA 62 0 11,lD 63 62,uu 64 (.bin .neq .no (tt 63) (ii 3)),mV 65 64,gV 66 14 65 true,ug 67 (.len .slice (tt 66)) 65 true,ug 68 (.fieldAddr 4 (tt 11)) 65 true,ug 69 (.load false 1 (tt 68)) 65 true,ug 70 (.len .slice (tt 69)) 65 true,ug 71 (.bin .eql .no (tt 67) (tt 70)) 65 true,kk 72 (.pick (tt 65) (tt 71) (.const (.bool false)))])
 (.cond (tt 72) (SS (RR [mV 73 10,mV 74 9,mV 75 10,mV 76 14,uu 77 (.call (.func zn6) [(tt 74),(tt 75),(tt 76)]),uu 78 (.build [(.int .i64 0),(.str ⟨#[]⟩)] [(0,1,(tt 73)),(1,1,(tt 77))]),kk 15 (.boxF 2 (tt 78))])
 k_ins) .skip))) [] _ B2
      by_cases h3:st.op=3
      ·simp [f11,f56,f58,hidt,hct,AV.rowok,h3]
       refine hgo2 _ _ (.inl rfl) (by simp [f58]) ⟨G2,by simpa using hN2,hlt2,hgt2,fun k=>?_,by simp [q2],by simp [f1],by simp [f2],by simp [f3],by simp [f9],by simp [f10],by simp [f11,h3],by simp [f23],by simp [f24],by simp [f25],by simp [f56],by simp [f57],by simp⟩
       rw [hgs k,if_neg (fun h=>h.1 h3),List.append_nil]
       exact hrow2 k
      ·by_cases hlen:t.length=st.cols.length
       ·have hleni:(t.length:Int)=(st.cols.length:Int):=by omega
        obtain ⟨rels2,R2,_,hR2',_,_⟩:=hN2.run
        have hsc:=ziv a b c rels2 bnd p.pred 0 1 s2.heap hN2.hok hR2' _ hbd j (ksAt p j) hkg t tv htv htok hkl (fun k hk=>by have:=hkm k hk; exact ⟨this.1,by omega⟩)
        simp [f9,f10,f11,f56,f58,hidt,hct,AV.rowok,h3,IsL.len htv,IsL.len hla,hleni,hsc,z5j]
        refine z651 (G:=G2) (n:=j + 1) (tv:=tv) j (z5a (ksAt p j) t) _ (by simpa using hN2) (by simp [f9]) (by simp) (by simp) hct (Enc.plain htv) (fun x hx=>?_) (fun H' id hN3=>?_)
        ·have hr:=zwy hN2.one hx
         have hl1:(z36 G2 x.i x.k).length≤2 ^ 20:=by
          rcases Nat.lt_trichotomy x.i j with h | h | h
          ·rw [(hlt2 x.i x.k h).length]
           refine Nat.le_trans (z8r _ _ _ _) ?_
           unfold relT
           split
           ·exact okd.1
           ·split
            ·exact (oko.of _).1
            ·exact (okn.of _).1
          ·rw [h,(hrow2 x.k).length]
           exact Nat.le_trans (z8r _ _ _ _) hml
          ·rw [hgt2 x.i x.k h]; simp
         rw [← hr]; omega
        ·refine hgo2 _ _ (.inl rfl) (by simp [f58]) ⟨insG G2 j (z5a (ksAt p j) t) tv id,by simpa using hN3,fun i k hi=>?_,fun i k hi=>?_,fun k=>?_,by simp [q2],by simp [f1],by simp [f2],by simp [f3],by simp [f9],by simp [f10],by simp [f11],by simp [f23],by simp [f24],by simp [f25],by simp [f56],by simp [f57],by simp⟩
         ·rw [z7j,if_neg (fun h=>by omega)]; exact hlt2 i k hi
         ·rw [z7j,if_neg (fun h=>by omega)]; exact hgt2 i k hi
         ·rw [z7j,hgs k]
          by_cases hk:k=z5a (ksAt p j) t
          ·subst hk
           rw [if_pos ⟨rfl,rfl⟩,if_pos ⟨h3,hlen,rfl⟩]
           exact (hrow2 _).append (.cons htv .nil)
          ·rw [if_neg (fun h=>hk h.2),if_neg (fun h=>hk h.2.2),List.append_nil]
           exact hrow2 k
       ·have hleni:¬ (t.length:Int)=(st.cols.length:Int):=by omega
        simp [f11,f56,f58,hidt,hct,AV.rowok,h3,IsL.len htv,IsL.len hla,hleni]
        refine hgo2 _ _ (.inl rfl) (by simp [f58]) ⟨G2,by simpa using hN2,hlt2,hgt2,fun k=>?_,by simp [q2],by simp [f1],by simp [f2],by simp [f3],by simp [f9],by simp [f10],by simp [f11],by simp [f23],by simp [f24],by simp [f25],by simp [f56],by simp [f57],by simp⟩
        rw [hgs k,if_neg (fun h=>hlen h.2.1),List.append_nil]
        exact hrow2 k
     ·rintro s2 ⟨G2,hN2,hlt2,hgt2,hrow2,q2,f1,f2,f3,f9,f10,f11,f23,f24,f25,f56,f57,f58⟩
      rw [List.take_length] at hrow2
      simp
      refine hgo _ _ (.inl rfl) (by simp [f25]) ⟨G2,by simpa using hN2,fun i k hi=>?_,fun i k hi=>hgt2 i k (by omega),by simp [q2],by simp [f1],by simp [f2],by simp [f3],by simp [f9],by simp [f23],by simp [f24],by simp⟩
      by_cases hij:i < j
      ·exact hlt2 i k hij
      ·have:i=j:=by omega
       subst this
       rw [hexp k]; exact hrow2 k
    have hcode:zyg=SS (RR [mV 46 9,mV 47 9,uu 48 (.nilCheck (tt 47)),fA 49 4 48,lD 50 49,mV 51 12,uu 52 (.buildSliceF .nilsl 1 [(0,(tt 51))]),uu 53 (.append 1 24 (tt 50) (tt 52)),uu 54 (.nilCheck (tt 46)),fA 55 4 54,nn (.store 1 (tt 55) (tt 53))]) (SS (RR [kM 56 12,kk 57 (.len .slice (tt 56)),kk 58 (.move (ii 0))]) (.block 3 (.loop zq3))):=rfl
    rw [hcode]
    generalize (SS (RR [kM 56 12,kk 57 (.len .slice (tt 56)),kk 58 (.move (ii 0))]) (.block 3 (.loop zq3)))=rest at *
    have hrelc:rels.isCell=true∧rels.cells=[rels]:=by
     rcases hR4 with ⟨_,rfl⟩ | ⟨sid,sg,rfl,_⟩ <;> exact ⟨rfl,rfl⟩
    rcases hR4 with ⟨hR5,rfl⟩ | ⟨sid,sg,rfl,hs1,hs2,hs3⟩
    ·simp [e9,e12,k1,n1,RB,AV.rowok,hrcell,hrelc,zr,zh1,zg3,room,zz,splice]
     exact ⟨by omega,inner _ (hN.rel hpl hrp hR2 (.inl ⟨rfl,by simp [RB,n1]⟩)) (by simp [e00]) (by simp [e1]) (by simp [e2]) (by simp [e3]) (by simp [e9]) (by simp [e10]) (by simp [e11]) (by simp [e12]) (by simp [e23]) (by simp [e24]) (by simp [e25])⟩
    ·have ks:=ze1 hs1
     have ns:=lt_of hs1
     have hne:¬ sid=1:=by omega
     have hne':¬ 1=sid:=by omega
     have hrl:(R.length + 1) * 24≤140737488355328:=by omega
     have hno:¬ (R.length + 1≤R.length):=by omega
     simp [e9,e12,k1,n1,RB,AV.rowok,hrcell,hrelc,zr,zh1,zi1,room,zz,splice,ks,ns,hne,hne',hrl,hno]
     exact inner _ (hN.rel hpl hrp hR2 (.inr ⟨sid,sg,R,rfl,hs1,by simp [RB]⟩)) (by simp [e00]) (by simp [e1]) (by simp [e2]) (by simp [e3]) (by simp [e9]) (by simp [e10]) (by simp [e11]) (by simp [e12]) (by simp [e23]) (by simp [e24]) (by simp [e25])
   by_cases h4:st.op=4
   ·have hrv:Is vd (relT st old now delta):=by simp only [relT,h4,if_true]; exact hd
    simp [f3,f23,f25,hidx,AV.rowok,hcs,h4]
    exact tail vd _ hrv (by simp) (by simp [q2]) (by simp [f1]) (by simp [f2]) (by simp [f3]) (by simp [f9]) (by simp) (by simp [h4]) (by simp) (by simp [f23]) (by simp [f24]) (by simp [f25])
   ·by_cases hold:st.old=true
    ·obtain ⟨rv,hcall,hrv⟩:=z221 old st.pred vo ho (by have:=oko.len; omega) s.heap
     simp [f1,f3,f23,f25,hidx,AV.rowok,hcs,h4,hold,hcall]
     exact tail rv _ (by simp only [relT,h4,if_false,hold,if_true]; exact hrv) (by simp) (by simp [q2]) (by simp [f1]) (by simp [f2]) (by simp [f3]) (by simp [f9]) (by simp) (by simp [hold]) (by simp) (by simp [f23]) (by simp [f24]) (by simp [f25])
    ·have hold':st.old=false:=by simpa using hold
     obtain ⟨rv,hcall,hrv⟩:=z221 now st.pred vn hnw (by have:=okn.len; omega) s.heap
     simp [f2,f3,f23,f25,hidx,AV.rowok,hcs,h4,hold',hcall]
     exact tail rv _ (by simp [relT,h4,hold']; exact hrv) (by simp) (by simp [q2]) (by simp [f1]) (by simp [f2]) (by simp [f3]) (by simp [f9]) (by simp) (by simp [hold']) (by simp) (by simp [f23]) (by simp [f24]) (by simp [f25])
  ·rintro s ⟨G,hN,hlt,hge,q2,f1,f2,f3,f9,f23,f24,f25⟩
   simp [f9,q2]
   obtain ⟨rels,R,h1,h2,h3,h4⟩:=hN.run
   exact hF _ _ ⟨rfl,a,b,c,rels,bnd,G,⟨ha,hb,hbd,hN.map,h2,fun x hx=>(hN.blk x hx).2.1,fun i k hi=>hlt i k hi,hN.one,hN.hok⟩⟩
 obtain ⟨r,H',⟨rfl,h⟩,hcall⟩:=key
 exact ⟨H',by rw [hcall]; simp [zj,trunc,AV.under],h⟩
end Go.Abs.Plan
namespace Go.Abs.Plan
open Enc (Is)
def goL (rowsF:Nat→Tup→List Tup):Nat→List Step→Tup→List Tup
 | _,[],x=>[x]
 | i,s::ss,x=>if s.op=3 then (if zt1 s.cmp (zo1 s.a x) (zo1 s.b x) then goL rowsF (i + 1) ss x else [])
   else if s.op=2 then (if (rowsF i x).any (fun t=>(z41 s.cols t x).isSome) then [] else goL rowsF (i + 1) ss x)
   else (rowsF i x).flatMap fun t=>((z41 s.cols t x).map (goL rowsF (i + 1) ss)).getD []
def zl1 (p:Plan) (old now:List RelOf) (delta:List Tup) (i:Nat) (x:Tup):List Tup:=expT p old now delta i (keyS2 (ksAt p i) ((p.steps.getD i default).cols) x)
def addsT (L M:List Tup):List Tup:=M.foldl addT L
structure Al (Hb:Heap) (Lr Fb:Blk) (m:Nat) (H:Heap) (L:List Tup):Prop where
 hok:HOK H
 len:m + 4≤H.length
 base:∀ j,j < m→H[j]? = Hb[j]?
 map:H[m]? = some (.map 0 (tEnts L) L.length)
 lrec:H[m + 2]? = some Lr
 fb:H[m + 3]? = some Fb
theorem zxd (n:Nat) (L:List Tup) (c:Nat):Blk.under n (.map 0 (tEnts L) c)=true:=by
 simp only [Blk.under,List.all_eq_true]
 intro e he
 obtain ⟨u,_,h1,h2,_⟩:=zeb he
 rw [h1,h2,zu5 _ (zxa u)]
 rfl
variable {Hb:Heap} {Lr Fb:Blk} {m:Nat}
def Kp (m id:Nat) (H H':Heap):Prop:=H.length≤H'.length∧∀ j,j < H.length→j≠m→H'[j]? = H[j]? ∨ (j=id∧∃ g,H'[j]? = some (.dead g))
theorem Kp.refl {m id:Nat} {H:Heap}:Kp m id H H:=⟨Nat.le_refl _,fun j _ _=>.inl rfl⟩
theorem Kp.get {m id:Nat} {H H':Heap} (h:Kp m id H H') {j:Nat} (hj:j < H.length) (h1:j≠m) (h2:j≠id):H'[j]? = H[j]? := by
 rcases h.2 j hj h1 with h | ⟨h,_⟩
 ·exact h
 ·exact absurd h h2
theorem Al.back {H H':Heap} {L L':List Tup} {id:Nat} (h:Al Hb Lr Fb m H L) (h':Al Hb Lr Fb m H' L') (hk:Kp m id H H') {r:AV} (hr:r.under H.length=true) :
 zj false H.length r H'=(r,H'.take H.length)∧Al Hb Lr Fb m (H'.take H.length) L'∧(H'.take H.length).length=H.length∧Kp m id H (H'.take H.length):=by
 have hlen:=h.len
 have hle:=hk.1
 have hget:∀ j,j < H.length→(H'.take H.length)[j]? = H'[j]? := fun j hj=>by rw [List.getElem?_take,if_pos hj]
 have htl:(H'.take H.length).length=H.length:=by simp; omega
 have hund:∀ B∈H'.take H.length,Blk.under H.length B=true:=by
  intro B hB
  obtain ⟨j,hj⟩:=List.mem_iff_getElem?.1 hB
  have hjl:j < H.length:=by have:=lt_of hj; omega
  rw [hget j hjl] at hj
  by_cases hjm:j=m
  ·subst hjm
   rw [h'.map] at hj
   simp only [Option.some.injEq] at hj
   subst hj
   exact zxd _ _ _
  ·rcases hk.2 j hjl hjm with e | ⟨_,g,e⟩
   ·rw [e] at hj
    exact h.hok B (List.mem_of_getElem? hj)
   ·rw [e] at hj
    simp only [Option.some.injEq] at hj
    subst hj; rfl
 refine ⟨?_,⟨?_,?_,?_,?_,?_,?_⟩,htl,by omega,fun j hj hjm=>?_⟩
 ·simp only [zj,Bool.false_eq_true,if_false,trunc,hr,Bool.true_and]
  rw [if_pos (List.all_eq_true.2 hund)]
 ·intro B hB
  rw [htl]; exact hund B hB
 ·omega
 ·intro j hj; rw [hget j (by omega)]; exact h'.base j hj
 ·rw [hget m (by omega)]; exact h'.map
 ·rw [hget _ (by omega)]; exact h'.lrec
 ·rw [hget _ (by omega)]; exact h'.fb
 ·rw [hget j hj]; exact hk.2 j hj hjm
theorem Al.push {H:Heap} {L:List Tup} (h:Al Hb Lr Fb m H L) (T:Heap) (hT:HOK (H++T)):Al Hb Lr Fb m (H++T) L:=by
 have hlen:=h.len
 have hget:∀ j,j < H.length→(H++T)[j]? = H[j]? := fun j hj=>List.getElem?_append_left hj
 refine ⟨hT,by simp; omega,fun j hj=>?_,?_,?_,?_⟩
 ·rw [hget j (by omega)]; exact h.base j hj
 ·rw [hget m (by omega)]; exact h.map
 ·rw [hget _ (by omega)]; exact h.lrec
 ·rw [hget _ (by omega)]; exact h.fb
theorem Al.set {H:Heap} {L:List Tup} (h:Al Hb Lr Fb m H L) {j:Nat} (hj:m + 4≤j) (B:Blk) (hB:B.under H.length=true):Al Hb Lr Fb m (H.set j B) L:=by
 have hlen:=h.len
 have hget:∀ i,i < m + 4→(H.set j B)[i]? = H[i]? := fun i hi=>List.getElem?_set_ne (by omega)
 refine ⟨h.hok.set hB,by simp; omega,fun i hi=>?_,?_,?_,?_⟩
 ·rw [hget i (by omega)]; exact h.base i hi
 ·rw [hget m (by omega)]; exact h.map
 ·rw [hget _ (by omega)]; exact h.lrec
 ·rw [hget _ (by omega)]; exact h.fb
def YOk (Hb:Heap) (Lr Fb:Blk) (m:Nat) (y:AV):Prop:=∀ (H:Heap) (L:List Tup) (x:Tup) (id g:Nat),Al Hb Lr Fb m H L→m + 4≤id→H[id]? = some (.arr g 3 (x.map Val.enc))→TupOk x →
 ∃ H',callW tbl y [.sl id g 0 x.length] H=some (.bool true,H')∧Al Hb Lr Fb m H' (addT L x)∧H'.length=H.length∧Kp m id H H'
structure z4n (n:Nat) (s:Step):Prop where
 len:s.cols.length≤2 ^ 20
 col:∀ c∈s.cols,zkp n c
 val:∀ c∈s.cols,ValOk c.v
 tst:s.op=3→ColIn n s.a∧ColIn n s.b
theorem z7t {n:Nat} {c:Col} {x:Tup} (hc:ValOk c.v) (hx:TupOk x) (hi:ColIn x.length c):ValOk (zo1 c x):=by
 unfold zo1
 split
 ·exact hc
 ·rcases hi with h | ⟨h1,h2⟩
  ·exact absurd h (by assumption)
  ·rw [List.getD_eq_getElem?_getD,List.getElem?_eq_getElem h2]; exact hx.val _ (List.getElem_mem h2)
theorem z7f:∀ {cs:List Col} {t x x':Tup},z41 cs t x=some x'→(∀ v∈t,ValOk v)→TupOk x→TupOk x'∧x'.length=x.length
 | [],t,x,x',h,ht,hx=>by simp [z41] at h; subst h; exact ⟨hx,rfl⟩
 | c::cs,[],x,x',h,ht,hx=>by simp [z41] at h; subst h; exact ⟨hx,rfl⟩
 | c::cs,y::ys,x,x',h,ht,hx=>by
   simp only [z41] at h
   split at h
   ·rename_i x1 h1
    have hl:=zlp h1
    have hx1:TupOk x1:=by
     unfold z0c at h1
     split at h1
     ·simp at h1; subst h1
      refine ⟨by simp; exact hx.len,fun v hv=>?_⟩
      rcases List.mem_or_eq_of_mem_set hv with hv | rfl
      ·exact hx.val v hv
      ·exact ht v (by simp)
     ·split at h1
      ·simp at h1; subst h1; exact hx
      ·split at h1
       ·simp at h1; subst h1; exact hx
       ·simp at h1
    obtain ⟨g1,g2⟩:=z7f h (fun v hv=>ht v (by simp [hv])) hx1
    exact ⟨g1,by omega⟩
   ·simp at h
end Go.Abs.Plan
namespace Go.Abs.Plan
open Enc (Is)
def k_fr3:ACode:=(SS (RR [fA 87 0 8,lD 88 87,uu 89 (.bin .neq .no (tt 88) (ii 2)),mV 90 89,gV 91 11 90 false,uu 92 (.pick (tt 90) (.const (.bool true)) (tt 91)),mV 93 92,ug 94 (.load false 1 (tt 4)) 93 false,gV 95 0 93 false,ug 96 (.bin .add .no (tt 95) (ii 1)) 93 false,gV 97 1 93 false,ug 98 (.call (tt 94) [(tt 96),(tt 97)]) 93 false,uu 99 (.pick (tt 93) (.const (.bool true)) (tt 98)),kM 7 99])
 .ret)
def k_fr2:ACode:=(SS (RR [kk 11 (.move (.const (.bool false)))])
 (SS (SS (RR [lD 60 2,mV 61 0,mV 62 1,kk 63 (.call (.func zc8) [(tt 60),(tt 61),(tt 62)]),kk 64 (.len .slice (tt 63)),kk 65 (.move (ii 0))])
 (.block 0 (.loop zy7)))
 k_fr3))
theorem zai:zp9=(SS (RR [kk 7 (.move (.const (.bool false)))])
 (SS (SS (RR [mV 15 0,lD 16 2,uu 17 (.nilCheck (tt 16)),fA 18 0 17,fA 19 1 18,lD 20 19,lN 21 20,kk 22 (.bin .eql .no (tt 15) (tt 21))])
 (.cond (tt 22) (SS (RR [lD 23 3,mV 24 1,uu 25 (.call (tt 23) [(tt 24)]),kM 7 25])
 .ret) .skip))
 (SS (RR [lD 26 2,uu 27 (.nilCheck (tt 26)),fA 28 0 27,fA 29 1 28,lD 30 29,mV 31 0,iX 32 16 30 31,uu 33 (.load true 16 (tt 32)),kk 8 (.boxF 16 (tt 33))])
 (SS (SS (RR [fA 34 0 8,lD 35 34,kk 36 (.bin .eql .no (tt 35) (ii 3))])
 (.cond (tt 36) (SS (.draw [fA 38 5 8,lD 39 38,fA 40 6 8,uu 41 (.load true 5 (tt 40)),mV 42 1,uu 43 (.call (.func zm4) [(tt 41),(tt 42)]),fA 44 11 8,uu 45 (.load true 5 (tt 44)),mV 46 1,uu 47 (.call (.func zm4) [(tt 45),(tt 46)]),uu 48 (.call (.func zb8) [(tt 39),(tt 43),(tt 47)]),mV 37 48,uu 49 (.extract (tt 37) 0),uu 50 (.extract (tt 37) 1),kM 9 49,mV 10 50] [(1,5),(5,7),(1,9)])
 (SS (RR [mV 51 9,uu 52 (.un .not (tt 51)),mV 53 52,ug 54 (.load false 1 (tt 4)) 53 false,gV 55 0 53 false,ug 56 (.bin .add .no (tt 55) (ii 1)) 53 false,gV 57 1 53 false,ug 58 (.call (tt 54) [(tt 56),(tt 57)]) 53 false,uu 59 (.pick (tt 53) (.const (.bool true)) (tt 58)),kM 7 59])
 .ret)) .skip))
 k_fr2)))):=rfl
structure z8j (p:Plan) (old now:List RelOf) (delta:List Tup) (Hb:Heap) (a b c rels bnd:AV) (G:List Grp) (Lr:Blk) (m gF:Nat) (fl:Bool) (y:AV):Prop where
 run:RunOk Hb p old now delta a b c rels bnd G
 hm:m=Hb.length
 y:YOk Hb Lr (.arr gF 1 [.func zc2 [] [.fptr fl [.ptr 1 1 0 0] 0, .fptr false [y] 0, .ptr (m + 3) gF 0 0]]) m y
 fit:∀ s∈p.steps,z4n p.vars.length s
 n:p.vars.length≤2 ^ 20
 s:p.steps.length≤2 ^ 20
 rel:∀ s∈p.steps,(relT s old now delta).length≤2 ^ 20∧∀ t∈relT s old now delta,TupOk t
abbrev fromF (fl:Bool) (y:AV) (m gF:Nat):AV:=.func zc2 [] [.fptr fl [.ptr 1 1 0 0] 0, .fptr false [y] 0, .ptr (m + 3) gF 0 0]
def z5n (p:Plan) (old now:List RelOf) (delta:List Tup) (Hb:Heap) (Lr:Blk) (m gF:Nat) (fl:Bool) (y:AV) (i:Nat) (ss:List Step):Prop:=∀ (H:Heap) (L:List Tup) (x:Tup) (id g:Nat),
 Al Hb Lr (.arr gF 1 [fromF fl y m gF]) m H L→m + 4≤id→H[id]? = some (.arr g 3 (x.map Val.enc))→x.length=p.vars.length→TupOk x →
 ∃ H',callW tbl (fromF fl y m gF) [i64 i, .sl id g 0 x.length] H=some (.bool true,H')∧Al Hb Lr (.arr gF 1 [fromF fl y m gF]) m H' (addsT L (goL (zl1 p old now delta) i ss x))∧H'.length=H.length∧Kp m id H H'
theorem lookG (G:List Grp) (i:Nat) (k:ByteArray) {Hb:Heap} (hB:∀ x∈G,Hb[x.id]? = some (.arr x.g 1 x.rows)):∃ z,zm6 true [.int, .str] .nilsl (.agg [i64 i, .str k]) false (gEnts G 0)=some z ∧
 ((z=.nilsl∧z36 G i k=[])∨∃ id g,z=.sl id g 0 (z36 G i k).length∧Hb[id]? = some (.arr g 1 (z36 G i k))):=by
 have hfind:=z6j i k G 0 0
 unfold zm6
 rw [hfind]
 cases hq:G.findIdx? (isG i k) with
 | none=>
   have hnone:G.find? (isG i k)=none:=by
    rw [List.find?_eq_none]; intro x hx; have:=List.findIdx?_eq_none_iff.1 hq x hx; simp [this]
   exact ⟨.nilsl,by simp, .inl ⟨rfl,by simp [z36,hnone]⟩⟩
 | some q=>
   obtain ⟨hql,hqx,_⟩:=List.findIdx?_eq_some_iff_getElem.1 hq
   have hg:G[q]? = some G[q]:=by simp [hql]
   have hf:G.find? (isG i k)=some G[q]:=by
    have:=znk (isG i k) G q G[q] G[q] hg rfl
    rw [hq,if_pos rfl,List.set_getElem_self hql] at this
    exact this
   refine ⟨G[q].val,by simp [hql], .inr ⟨G[q].id,G[q].g,?_,?_⟩⟩
   ·simp [z36,hf]
   ·simp [z36,hf]; exact hB _ (List.getElem_mem hql)
end Go.Abs.Plan
namespace Go.Abs.Plan
open Enc (Is)
variable {p:Plan} {old now:List RelOf} {delta:List Tup} {Hb:Heap} {a b c rels bnd:AV} {G:List Grp} {Lr:Blk} {m gF:Nat} {fl:Bool} {y:AV}
theorem Al.heads {H:Heap} {L:List Tup} {Fb:Blk} (h:Al Hb Lr Fb m H L) (hR:RunOk Hb p old now delta a b c rels bnd G) (hm:m=Hb.length) :
 H[0]? = some (.map 1 (gEnts G 0) G.length)∧H[1]? = some (RB a b p.pred c rels bnd 0):=by
 have h0:=lt_of hR.map
 have h1:=lt_of hR.run
 exact ⟨by rw [h.base 0 (by omega)]; exact hR.map,by rw [h.base 1 (by omega)]; exact hR.run⟩
theorem z751 (X:z8j p old now delta Hb a b c rels bnd G Lr m gF fl y):z5n p old now delta Hb Lr m gF fl y p.steps.length []:=by
 intro H L x id g hA hid hB hx hok
 obtain ⟨h0,h1⟩:=hA.heads X.run X.hm
 have k1:=ze1 h1
 have n1:=lt_of h1
 have cb:=zb X.run.isB
 obtain ⟨H',hc,hA',hl',hk'⟩:=X.y H L x id g hA hid hB hok
 obtain ⟨r,H1,⟨rfl,rfl⟩,hcall⟩:=callE (tbl:=tbl) (f:=zc2) (first:=[]) (captured:=[.fptr fl [.ptr 1 1 0 0] 0, .fptr false [y] 0, .ptr (m + 3) gF 0 0]) (args:=[i64 p.steps.length, .sl id g 0 x.length]) (H:=H) (fun r H1=>r=.bool true∧H1=H') zc1 rfl rfl rfl (fun F hF=>by
  simp [zc1,zai,k1,n1,RB,cb,IsL.len X.run.isB,hc]
  exact hF _ _ ⟨rfl,rfl⟩)
 obtain ⟨b1,b2,b3,b4⟩:=hA.back hA' hk' (r:=.bool true) rfl
 refine ⟨H1.take H.length,by rw [hcall,show zc1.frz=false from rfl,b1],?_,b3,b4⟩
 simpa [goL,addsT] using b2
theorem z621 (X:z8j p old now delta Hb a b c rels bnd G Lr m gF fl y) {i:Nat} {s:Step} {ss:List Step} (hi:i < p.steps.length) (hst:p.steps[i]=s) (h3:s.op=3) (ih:z5n p old now delta Hb Lr m gF fl y (i + 1) ss):z5n p old now delta Hb Lr m gF fl y i (s::ss):=by
 intro H L x id g hA hid hB hx hok
 obtain ⟨h0,h1⟩:=hA.heads X.run X.hm
 have k1:=ze1 h1
 have n1:=lt_of h1
 have kF:=ze1 hA.fb
 have nF:=lt_of hA.fb
 have cb:=zb X.run.isB
 have hg:p.steps[i]? = some s:=by simp [hi,hst]
 have hsm:s∈p.steps:=by rw [← hst]; exact List.getElem_mem hi
 obtain ⟨fl',sv,⟨la,hla,rfl⟩,hidx⟩:=IsL.idx X.run.isB hg
 simp only [show Enc.sz Step=16 from rfl] at hidx
 have hcs:=zb hla
 have hil:¬ (i:Int)=(p.steps.length:Int):=by omega
 have hs2:=X.s
 have hw:IntKind.i64.wrap ((i:Int) + 1)=((i + 1:Nat):Int):=z61 (by omega) (by omega)
 obtain ⟨ta,tb⟩:=(X.fit s hsm).tst h3
 rw [← hx] at ta tb
 have va:=fun T=>z8i s.a x (.sl id g 0 x.length) (H++T) ⟨id,g,rfl,by rw [List.getElem?_append_left (lt_of hB)]; exact hB⟩ ta
 have vb:=fun T=>z8i s.b x (.sl id g 0 x.length) (H++T) ⟨id,g,rfl,by rw [List.getElem?_append_left (lt_of hB)]; exact hB⟩ tb
 have va0:=va []
 have vb0:=vb []
 rw [List.append_nil] at va0 vb0
 have hh:=fun H=>zry s.cmp (zo1 s.a x) (zo1 s.b x) H
 have key:∃ r H1,(r=.bool true∧Al Hb Lr (.arr gF 1 [fromF fl y m gF]) m H1 (addsT L (goL (zl1 p old now delta) i (s::ss) x))∧Kp m id H H1)∧callW tbl (fromF fl y m gF) [i64 i, .sl id g 0 x.length] H=some (zj false H.length r H1):=by
  refine callE (tbl:=tbl) (f:=zc2) (first:=[]) (captured:=[.fptr fl [.ptr 1 1 0 0] 0, .fptr false [y] 0, .ptr (m + 3) gF 0 0]) (args:=[i64 i, .sl id g 0 x.length]) (H:=H) (fun r H1=>r=.bool true∧Al Hb Lr (.arr gF 1 [fromF fl y m gF]) m H1 (addsT L (goL (zl1 p old now delta) i (s::ss) x))∧Kp m id H H1) zc1 rfl rfl rfl (fun F hF=>?_)
  cases hho:zt1 s.cmp (zo1 s.a x) (zo1 s.b x) with
  | true=>
    obtain ⟨H',hc,hA',hl',hk'⟩:=ih H L x id g hA hid hB hx hok
    rw [show ((i + 1:Nat):Int)=(i:Int) + 1 by omega] at hc
    simp [zc1,zai,k1,n1,RB,cb,IsL.len X.run.isB,hil,hidx,AV.rowok,hcs,h3,va0,vb0,hh,hho,kF,nF,hw,hc]
    exact hF _ _ ⟨rfl,by simpa [goL,h3,hho] using hA',hk'⟩
  | false=>
    simp [zc1,zai,k1,n1,RB,cb,IsL.len X.run.isB,hil,hidx,AV.rowok,hcs,h3,va0,vb0,hh,hho,kF,nF,hw]
    exact hF _ _ ⟨rfl,by simpa [goL,h3,hho,addsT] using hA,Kp.refl⟩
 obtain ⟨r,H1,⟨rfl,h2,h4⟩,hcall⟩:=key
 obtain ⟨b1,b2,b3,b4⟩:=hA.back h2 h4 (r:=.bool true) rfl
 exact ⟨H1.take H.length,by rw [hcall,b1],b2,b3,b4⟩
end Go.Abs.Plan
namespace Go.Abs.Plan
open Enc (Is)
variable {p:Plan} {old now:List RelOf} {delta:List Tup} {Hb:Heap} {a b c rels bnd:AV} {G:List Grp} {Lr:Blk} {m gF:Nat} {fl:Bool} {y:AV}
theorem z8f {B:Nat}:∀ {cs:List Col} {i:Nat} {k:Int},k∈zd1 B i cs→∃ c,cs[k.toNat - i]? = some c∧zl7 B c=true∧(i:Int)≤k
 | [],i,k,h=>by simp [zd1] at h
 | c::cs,i,k,h=>by
   simp only [zd1] at h
   have key:k∈zd1 B (i + 1) cs→∃ c',(c::cs)[k.toNat - i]? = some c'∧zl7 B c'=true∧(i:Int)≤k:=fun h=>by
    obtain ⟨c',h1,h2,h3⟩:=z8f h
    have e:k.toNat - i=(k.toNat - (i + 1)) + 1:=by omega
    exact ⟨c',by rw [e,List.getElem?_cons_succ]; exact h1,h2,by omega⟩
   split at h
   ·rename_i hk
    rcases List.mem_cons.1 h with rfl | h
    ·exact ⟨c,by simp,hk,by omega⟩
    ·exact key h
   ·exact key h
theorem Kp.trans {m id:Nat} {H H' H'':Heap} (h:Kp m id H H') (h':Kp m id H' H''):Kp m id H H'':=by
 refine ⟨Nat.le_trans h.1 h'.1,fun j hj hm=>?_⟩
 rcases h'.2 j (Nat.lt_of_lt_of_le hj h.1) hm with e | ⟨e1,e2⟩
 ·rw [e]; exact h.2 j hj hm
 ·exact .inr ⟨e1,e2⟩
theorem z8t {i:Nat} {s:Step} {ss:List Step} {la:AV} (hsz:p.steps.length≤2 ^ 20) (hi:i < p.steps.length) (ih:z5n p old now delta Hb Lr m gF fl y (i + 1) ss) (H:Heap) (L Lj:List Tup) (x:Tup) (id g:Nat)
 (hid:m + 4≤id) (hx:x.length=p.vars.length) (hok:TupOk x) (found:Bool) (st:St) (F:AV→Heap→Prop)
 (hA:Al Hb Lr (.arr gF 1 [fromF fl y m gF]) m st.heap Lj) (hk:Kp m id H st.heap) (hB:st.heap[id]? = some (.arr g 3 (x.map Val.enc))) (q:st.dfr=[])
 (f0:st.tm.get 0=i64 i) (f1:st.tm.get 1=.sl id g 0 x.length) (f4:st.tm.get 4=.ptr (m + 3) gF 0 0) (f8:st.tm.get 8=.fptr false (s.encW la).cells 0) (f11:st.tm.get 11=.bool found)
 (hF:∀ H1,Al Hb Lr (.arr gF 1 [fromF fl y m gF]) m H1 (if s.op=2∧found=false then addsT Lj (goL (zl1 p old now delta) (i + 1) ss x) else Lj)→Kp m id H H1→F (.bool true) H1) :
 EXEC (callW tbl) loopW k_fr3 [] st (FINQ [.tmp 7] F):=by
 have kF:=ze1 hA.fb
 have nF:=lt_of hA.fb
 have hw:IntKind.i64.wrap ((i:Int) + 1)=((i + 1:Nat):Int):=z61 (by omega) (by omega)
 unfold k_fr3
 by_cases h2:s.op=2
 ·cases found with
  | true=>
    simp [f8,f11,h2,q]
    exact hF _ (by simpa using hA) hk
  | false=>
    obtain ⟨H',hc,hA',hl',hk'⟩:=ih st.heap Lj x id g hA hid hB hx hok
    rw [show ((i + 1:Nat):Int)=(i:Int) + 1 by omega] at hc
    simp [f0,f1,f4,f8,f11,h2,q,kF,nF,hw,hc]
    exact hF _ (by simpa [h2] using hA') (hk.trans hk')
 ·simp [f8,f11,h2,q]
  exact hF _ (by simpa [h2] using hA) hk
theorem z721 (X:z8j p old now delta Hb a b c rels bnd G Lr m gF fl y) {i:Nat} {s:Step} {ss:List Step} (hi:i < p.steps.length) (hst:p.steps[i]=s) (h3:¬ s.op=3) (ih:z5n p old now delta Hb Lr m gF fl y (i + 1) ss):z5n p old now delta Hb Lr m gF fl y i (s::ss):=by
 intro H L x id g hA hid hB hx hok
 obtain ⟨h0,h1⟩:=hA.heads X.run X.hm
 have hHl:=hA.len
 have k1:=ze1 h1
 have n1:=lt_of h1
 have nid:=lt_of hB
 have cb:=zb X.run.isB
 have hg:p.steps[i]? = some s:=by simp [hi,hst]
 have hgD:p.steps.getD i default=s:=by rw [List.getD_eq_getElem?_getD,hg]; rfl
 have hsm:s∈p.steps:=by rw [← hst]; exact List.getElem_mem hi
 obtain ⟨fl',sv,⟨la,hla,rfl⟩,hidx⟩:=IsL.idx X.run.isB hg
 simp only [show Enc.sz Step=16 from rfl] at hidx
 have hcs:=zb hla
 have hil:¬ (i:Int)=(p.steps.length:Int):=by omega
 have hs2:=X.s
 have hn2:=X.n
 have hfit:=X.fit s hsm
 have hrel:=X.rel s hsm
 have hkg:(zt3 0 p.steps)[i]? = some (ksAt p i):=by rw [zxg _ _ _ hi]; rfl
 have hkl:(ksAt p i).length≤2 ^ 20:=by rw [ksAt,hgD]; exact Nat.le_trans (zpa _ _ _) hfit.len
 have hkv:∀ k∈ksAt p i,ValIn s.cols x k:=fun k hk=>by
  rw [ksAt,hgD] at hk
  obtain ⟨cc,e1,e2,e3⟩:=z8f hk
  rw [Nat.sub_zero] at e1
  have e4:=(List.getElem?_eq_some_iff.1 e1).1
  have e5:s.cols.getD k.toNat zf1=cc:=by rw [List.getD_eq_getElem?_getD,e1]; rfl
  have e6:cc∈s.cols:=List.mem_of_getElem? e1
  have e7:ColIn x.length cc:=by
   simp only [zl7,Bool.or_eq_true,decide_eq_true_eq,Bool.and_eq_true] at e2
   rcases e2 with e2 | ⟨e2,_⟩
   ·exact .inl e2
   ·rcases hfit.col cc e6 with h | h | h
    ·omega
    ·omega
    ·exact .inr (by rw [hx]; exact h)
  exact ⟨by omega,e4,by rw [e5]; exact e7,by rw [e5]; exact z7t (n:=0) (hfit.val cc e6) hok e7⟩
 obtain ⟨z,hlk,hz⟩:=lookG G i (keyS2 (ksAt p i) s.cols x) X.run.blk
 have hrows:All2 Is (z36 G i (keyS2 (ksAt p i) s.cols x)) (zl1 p old now delta i x):=by
  have:=X.run.rows i (keyS2 (ksAt p i) s.cols x) hi
  rw [zl1,hgD]; exact this
 have hzH:z=.nilsl∨∃ id g off len,z=.sl id g off len∧id < H.length:=by
  rcases hz with ⟨h,_⟩ | ⟨id,g,h,h'⟩
  ·exact .inl h
  ·have:=lt_of h'; have:=X.hm; exact .inr ⟨id,g,0,_,h,by omega⟩
 have hrc:=z421 a b c rels bnd p.pred 0 1 H hA.hok h1 _ X.run.isK i (ksAt p i) hkg p.steps X.run.isB s hg (.sl id g 0 x.length) x ⟨id,g,rfl,hB⟩ hkl hkv (gEnts G 0) G.length h0 z hlk hzH
 have hzlen:lenA z=.val (.int .i64 (zl1 p old now delta i x).length):=by
  rcases hz with ⟨rfl,h⟩ | ⟨id,g,rfl,_⟩
  ·have:(zl1 p old now delta i x).length=0:=by rw [← hrows.length,h]; rfl
   rw [this]; rfl
  ·rw [hrows.length]; rfl
 have hpl:(zl1 p old now delta i x).length≤2 ^ 20:=by
  refine Nat.le_trans (z8r _ _ _ _) ?_
  rw [hgD]; exact hrel.1
 have hpm:∀ t∈zl1 p old now delta i x,t.length=s.cols.length∧TupOk t:=fun t ht=>by
  rw [zl1,expT,hgD,grpT,if_neg h3,List.mem_filter] at ht
  have h5:=ht.2
  simp only [Bool.and_eq_true,decide_eq_true_eq] at h5
  exact ⟨h5.1,hrel.2 t ht.1⟩
 obtain ⟨RT,hRT⟩:∃ RT,RT=zl1 p old now delta i x:=⟨_,rfl⟩
 have hgo0:goL (zl1 p old now delta) i (s::ss) x=if s.op=2 then (if RT.any (fun t=>(z41 s.cols t x).isSome) then [] else goL (zl1 p old now delta) (i + 1) ss x)
  else RT.flatMap fun t=>((z41 s.cols t x).map (goL (zl1 p old now delta) (i + 1) ss)).getD []:=by rw [goL,if_neg h3,hRT]
 rw [← hRT] at hrows hzlen hpl hpm
 generalize hRG:z36 G i (keyS2 (ksAt p i) s.cols x)=RG at *
 obtain ⟨fT,hfT⟩:∃ fT:Tup→List Tup,fT=fun t=>((z41 s.cols t x).map (goL (zl1 p old now delta) (i + 1) ss)).getD []:=⟨_,rfl⟩
 rw [← hfT] at hgo0
 have key:∃ r H1,(r=.bool true∧Al Hb Lr (.arr gF 1 [fromF fl y m gF]) m H1 (addsT L (goL (zl1 p old now delta) i (s::ss) x))∧Kp m id H H1)∧callW tbl (fromF fl y m gF) [i64 i, .sl id g 0 x.length] H=some (zj false H.length r H1):=by
  refine callE (tbl:=tbl) (f:=zc2) (first:=[]) (captured:=[.fptr fl [.ptr 1 1 0 0] 0, .fptr false [y] 0, .ptr (m + 3) gF 0 0]) (args:=[i64 i, .sl id g 0 x.length]) (H:=H) (fun r H1=>r=.bool true∧Al Hb Lr (.arr gF 1 [fromF fl y m gF]) m H1 (addsT L (goL (zl1 p old now delta) i (s::ss) x))∧Kp m id H H1) zc1 rfl rfl rfl (fun F hF=>?_)
  simp [zc1,zai,k1,n1,RB,cb,IsL.len X.run.isB,hil,hidx,AV.rowok,hcs,h3]
  unfold k_fr2
  simp [hrc,hzlen]
  refine zb2 RT.length (fun j st=>∃ Lj,Al Hb Lr (.arr gF 1 [fromF fl y m gF]) m st.heap Lj∧H.length≤st.heap.length∧(∀ q,q < H.length→q≠m→st.heap[q]? = H[q]?)∧Lj=(if s.op=2 then L else addsT L ((RT.take j).flatMap fT))∧(s.op=2→((RT.take j).any fun t=>(z41 s.cols t x).isSome)=false)∧(∃ fd,st.tm.get 11=.bool fd∧(s.op=2→fd=false))∧st.dfr=[] ∧
   st.tm.get 0=i64 i∧st.tm.get 1=.sl id g 0 x.length∧st.tm.get 4=.ptr (m + 3) gF 0 0∧st.tm.get 8=.fptr false (s.encW la).cells 0∧st.tm.get 63=z∧st.tm.get 64=i64 RT.length∧st.tm.get 65=i64 j)
   0 (by omega) ⟨L,by simpa using hA,by simp,by simp,by simp [addsT],by simp,⟨false,by simp,by simp⟩,by simp,by simp,by simp,by simp,by simp,by simp,by simp,by simp⟩ (by omega) (by rintro j st ⟨Lj,h⟩; exact ⟨h.2.2.2.2.2.2.2.2.2.2.2.2.2,h.2.2.2.2.2.2.2.2.2.2.2.2.1⟩) ?_ ?_
  ·rintro j st B hj ⟨Lj,hAj,hle,hsame,hLj,hno,⟨fd,f11,hfd⟩,q2,f0,f1,f4,f8,f63,f64,f65⟩ hgo hxx
   have hgt:RT[j]? = some RT[j]:=by simp [hj]
   obtain ⟨rv,hgr,hrv⟩:=hrows.get hgt
   have crv:=zb hrv
   have hjl:j < RG.length:=by rw [hrows.length]; exact hj
   have hgr':RG[j]=rv:=by rw [List.getElem?_eq_getElem hjl] at hgr; exact Option.some.inj hgr
   obtain ⟨idz,gz,rfl,hbz⟩:∃ id g,z=.sl id g 0 RG.length∧Hb[id]? = some (.arr g 1 RG):=by
    rcases hz with ⟨_,h⟩ | h
    ·rw [h] at hjl; simp at hjl
    ·exact h
   have hbz':st.heap[idz]? = some (.arr gz 1 RG):=by rw [hAj.base idz (by rw [X.hm]; exact lt_of hbz)]; exact hbz
   have kz:=ze1 hbz'
   have nz:=lt_of hbz'
   have hBs:st.heap[id]? = some (.arr g 3 (x.map Val.enc)):=by rw [hsame id nid (by omega)]; exact hB
   obtain ⟨htl,hto⟩:=hpm _ (List.getElem_mem hj)
   have htk:RT.take (j + 1)=RT.take j++[RT[j]]:=by rw [List.take_add_one,hgt]; rfl
   generalize RT[j]=t at *
   obtain ⟨g',hclone⟩:=zuy x id g st.heap hBs hAj.hok hok.len
   obtain ⟨bb,x',hag,hagF,hxl⟩:=zty s.cols t x la rv hla hrv (st.heap++[.arr g' 3 (x.map Val.enc)]) st.heap.length g' (by simp) htl.symm hfit.len (fun cc hcc=>by rw [hx]; exact hfit.col cc hcc)
   have hset:(st.heap++[Blk.arr g' 3 (x.map Val.enc)]).set st.heap.length (.arr g' 3 (x'.map Val.enc))=st.heap++[.arr g' 3 (x'.map Val.enc)]:=by simp
   rw [hset] at hag
   have hw:IntKind.i64.wrap ((i:Int) + 1)=((i + 1:Nat):Int):=z61 (by omega) (by omega)
   have hokp:HOK (st.heap++[.arr g' 3 (x'.map Val.enc)]):=hAj.hok.push (z31 _ (z18 x'))
   have hAp:=hAj.push [.arr g' 3 (x'.map Val.enc)] hokp
   have hnx:∀ q,q < H.length→(st.heap++[Blk.arr g' 3 (x'.map Val.enc)])[q]? = st.heap[q]? := fun q hq=>List.getElem?_append_left (by omega)
   have kF:=ze1 hAp.fb
   have nF:=lt_of hAp.fb
   cases bb with
   | false=>
     simp at hagF
     simp [f1,f8,f63,f65,kz,nz,hgr,hgr',hjl,crv,hclone,hag]
     refine hgo _ _ (.inr rfl) (by simp [f65]) ⟨Lj,hAp,by simp; omega,fun q hq hm=>by rw [hnx q hq]; exact hsame q hq hm,?_,fun h2=>?_,⟨fd,by simp [f11],hfd⟩,by simp [q2],by simp [f0],by simp [f1],by simp [f4],by simp [f8],by simp [f63],by simp [f64],by simp⟩
     ·rw [hLj,htk,List.flatMap_append]
      simp [hfT,hagF]
     ·rw [htk,List.any_append,hno h2]; simp [hagF]
   | true=>
     simp at hagF
     by_cases h2:s.op=2
     ·simp [f1,f8,f63,f65,kz,nz,hgr,hgr',hjl,crv,hclone,hag,h2]
      refine hxx _ _ (by simp) (by simp) ?_
      simp
      refine z8t (s:=s) (la:=la) (Lj:=Lj) X.s hi ih H L x id g hid hx hok true _ F hAp ⟨by simp; omega,fun q hq hm=>.inl (by rw [hnx q hq]; exact hsame q hq hm)⟩ (by rw [hnx id nid]; exact hBs) (by simp [q2]) (by simp [f0]) (by simp [f1]) (by simp [f4]) (by simp [f8]) (by simp) (fun H1 hA1 hK1=>hF _ _ ⟨rfl,?_,hK1⟩)
      have hany:(RT.any fun t=>(z41 s.cols t x).isSome)=true:=by
       rw [List.any_eq_true]
       refine ⟨t,List.mem_of_getElem? hgt,by rw [hagF]; rfl⟩
      rw [hgo0,if_pos h2,if_pos hany]
      rw [if_neg (by simp),hLj,if_pos h2] at hA1
      simpa [addsT] using hA1
     ·obtain ⟨hok',hxl2⟩:=z7f hagF (fun v hv=>hto.val v hv) hok
      obtain ⟨H',hc,hA',hl',hk'⟩:=ih (st.heap++[.arr g' 3 (x'.map Val.enc)]) Lj x' st.heap.length g' hAp (by have:=hAj.len; omega) (by simp) (by rw [hxl2]; exact hx) hok'
      rw [show ((i + 1:Nat):Int)=(i:Int) + 1 by omega,hxl2] at hc
      simp [f0,f1,f4,f8,f63,f65,kz,nz,hgr,hgr',hjl,crv,hclone,hag,h2,kF,nF,hw,hc]
      refine hgo _ _ (.inl rfl) (by simp [f65]) ⟨addsT Lj (goL (zl1 p old now delta) (i + 1) ss x'),hA',by simp at hl' ⊢; omega,fun q hq hm=>?_,?_,fun h=>absurd h h2,⟨true,by simp,fun h=>absurd h h2⟩,by simp [q2],by simp [f0],by simp [f1],by simp [f4],by simp [f8],by simp [f63],by simp [f64],by simp⟩
      ·rw [hk'.get (by simp; omega) hm (by omega),hnx q hq]; exact hsame q hq hm
      ·rw [if_neg h2] at hLj ⊢
       rw [hLj,htk,List.flatMap_append]
       simp [hfT,hagF,addsT]
  ·rintro st ⟨Lj,hAj,hle,hsame,hLj,hno,⟨fd,f11,hfd⟩,q2,f0,f1,f4,f8,f63,f64,f65⟩
   rw [List.take_length] at hLj hno
   simp
   refine z8t (s:=s) (la:=la) (Lj:=Lj) X.s hi ih H L x id g hid hx hok fd _ F hAj ⟨hle,fun q hq hm=>.inl (hsame q hq hm)⟩ (by have:=hsame id nid (by omega); simpa [this] using hB) (by simp [q2]) (by simp [f0]) (by simp [f1]) (by simp [f4]) (by simp [f8]) (by simp [f11]) (fun H1 hA1 hK1=>hF _ _ ⟨rfl,?_,hK1⟩)
   rw [hgo0]
   by_cases h2:s.op=2
   ·rw [if_pos h2,hno h2]
    rw [if_pos ⟨h2,hfd h2⟩,hLj,if_pos h2] at hA1
    simpa using hA1
   ·rw [if_neg h2]
    rw [if_neg (fun h=>h2 h.1),hLj,if_neg h2] at hA1
    exact hA1
 obtain ⟨r,H1,⟨rfl,h2,h4⟩,hcall⟩:=key
 obtain ⟨b1,b2,b3,b4⟩:=hA.back h2 h4 (r:=.bool true) rfl
 exact ⟨H1.take H.length,by rw [hcall,b1],b2,b3,b4⟩
end Go.Abs.Plan
namespace Go.Abs
variable {tbl:FuncId→Option AFun}
end Go.Abs
namespace Go.Abs.Plan
open Enc (Is)
variable {p:Plan} {old now:List RelOf} {delta:List Tup} {Hb:Heap} {a b c rels bnd:AV} {G:List Grp} {Lr:Blk} {m gF:Nat} {fl:Bool} {y:AV}
theorem z4x (X:z8j p old now delta Hb a b c rels bnd G Lr m gF fl y):∀ (ss:List Step) (i:Nat),p.steps.drop i=ss→i≤p.steps.length→z5n p old now delta Hb Lr m gF fl y i ss
 | [],i,h,hi=>by
   have:i=p.steps.length:=by
    have:=congrArg List.length h; simp at this; omega
   subst this
   exact z751 X
 | s::ss,i,h,hi=>by
   have hlt:i < p.steps.length:=by
    have:=congrArg List.length h; simp at this; omega
   rw [List.drop_eq_getElem_cons hlt] at h
   simp only [List.cons.injEq] at h
   have ih:=z4x X ss (i + 1) h.2 hlt
   by_cases h3:s.op=3
   ·exact z621 X hlt h.1 h3 ih
   ·exact z721 X hlt h.1 h3 ih
def zeros (n:Nat):Tup:=List.replicate n zi
theorem zok {n:Nat} (h:n≤2 ^ 20):TupOk (zeros n):=⟨by simp [zeros]; exact h,fun v hv=>by
 have:=List.eq_of_mem_replicate hv
 subst this
 exact ⟨by decide,by decide,by decide,by decide,by decide⟩⟩
theorem z821 (L0:List Tup) (df:Blk) (X:z8j p old now delta Hb a b c rels bnd G Lr m 0 fl y) (H:Heap) (hHe:H=Hb++[.map 0 (tEnts L0) L0.length,df,Lr]) (hok:HOK H) (hyc:y.isCell=true∧y.cells=[y]) (hyu:y.under (m + 4)=true) :
 callW tbl (.func zw1 [] [.fptr fl [.ptr 1 1 0 0] 0]) [y] H=some (.tuple [],Hb++[.map 0 (tEnts (addsT L0 (goL (zl1 p old now delta) 0 p.steps (zeros p.vars.length)))) (addsT L0 (goL (zl1 p old now delta) 0 p.steps (zeros p.vars.length))).length,df,Lr]):=by
 have hm:=X.hm
 have hl:H.length=m + 3:=by rw [hHe,hm]; simp
 have h1:H[1]? = some (RB a b p.pred c rels bnd 0):=by
  have:=lt_of X.run.run
  rw [hHe,List.getElem?_append_left this]; exact X.run.run
 have hm1:1 < m:=by rw [hm]; exact lt_of X.run.run
 have k1:=ze1 h1
 have n1:=lt_of h1
 have ca:=zb X.run.isA
 have hnv:=X.n
 have hroom:p.vars.length≤140737488355328:=by omega
 have hroom2:p.vars.length * 32≤140737488355328:=by omega
 have hzl:(zeros p.vars.length).length=p.vars.length:=by simp [zeros]
 have hzr:List.replicate p.vars.length (AV.agg [.int .i64 0, .int .i64 0, .str ⟨#[]⟩])=(zeros p.vars.length).map Val.enc:=by simp [zeros,zi]
 obtain ⟨H1,hH1⟩:∃ H1,H1=H++[Blk.arr 0 1 [fromF fl y m 0], .arr 1 3 ((zeros p.vars.length).map Val.enc)]:=⟨_,rfl⟩
 have hl1:H1.length=m + 5:=by rw [hH1]; simp [hl]
 have hg1:∀ j,j < m + 3→H1[j]? = H[j]? := fun j hj=>by rw [hH1,List.getElem?_append_left (by omega)]
 have hgH:∀ j,j < m→H[j]? = Hb[j]? := fun j hj=>by rw [hHe,List.getElem?_append_left (by omega)]
 have hgm:H[m]? = some (.map 0 (tEnts L0) L0.length):=by rw [hHe,hm]; simp
 have hgl:H[m + 2]? = some Lr:=by rw [hHe,hm]; simp
 have hgd:H[m + 1]? = some df:=by rw [hHe,hm]; simp
 have hFu:(Blk.arr 0 1 [fromF fl y m 0]).under (m + 4)=true:=by
  simp [Blk.under,AV.unders,AV.under,hyu]
 have hok1:HOK H1:=by
  have e:H1=(H++[Blk.arr 0 1 [fromF fl y m 0]])++[.arr 1 3 ((zeros p.vars.length).map Val.enc)]:=by rw [hH1]; simp
  rw [e]
  exact (hok.push (B:=Blk.arr 0 1 [fromF fl y m 0]) (by rw [hl]; exact hFu)).push (B:=Blk.arr 1 3 ((zeros p.vars.length).map Val.enc)) (z31 _ (z18 _))
 have hA1:Al Hb Lr (.arr 0 1 [fromF fl y m 0]) m H1 L0:=by
  refine ⟨hok1,by omega,fun j hj=>?_,?_,?_,?_⟩
  ·rw [hg1 j (by omega)]; exact hgH j hj
  ·rw [hg1 m (by omega)]; exact hgm
  ·rw [hg1 _ (by omega)]; exact hgl
  ·rw [hH1,← hl,List.getElem?_append_right (Nat.le_refl _)]; simp
 obtain ⟨H',hc,hA',hl',hk'⟩:=z4x X p.steps 0 rfl (Nat.zero_le _) H1 L0 (zeros p.vars.length) (m + 4) 1 hA1 (Nat.le_refl _) (by rw [hH1,show m + 4=H.length + 1 by omega,List.getElem?_append_right (by omega)]; simp) hzl (zok X.n)
 have key:∃ r H2,(r=.tuple []∧H2=H')∧callW tbl (.func zw1 [] [.fptr fl [.ptr 1 1 0 0] 0]) [y] H=some (zj false H.length r H2):=by
  refine callE (fun r H2=>r=.tuple []∧H2=H') z65 rfl rfl rfl (fun F hF=>?_)
  rw [hzl,hH1] at hc
  simp only [fromF,← hl,show m + 4=H.length + 1 by omega] at hc
  simp only [Int.natCast_zero] at hc
  simp [z65,zbb,k1,n1,RB,ca,IsL.len X.run.isA,hroom,hroom2,hzr,AV.rowok,hyc,zz,splice,hc]
  exact hF _ _ ⟨rfl,rfl⟩
 obtain ⟨r,H2,⟨rfl,rfl⟩,hcall⟩:=key
 rw [hcall]
 have hget:∀ j,j < m + 3→j≠m→H2[j]? = H[j]? := fun j hj hjm=>by rw [hk'.get (by omega) hjm (by omega),hg1 j hj]
 have hfin:H2.take H.length=Hb++[.map 0 (tEnts (addsT L0 (goL (zl1 p old now delta) 0 p.steps (zeros p.vars.length)))) (addsT L0 (goL (zl1 p old now delta) 0 p.steps (zeros p.vars.length))).length,df,Lr]:=by
  apply List.ext_getElem?
  intro j
  by_cases hj:j < m + 3
  ·rw [List.getElem?_take,if_pos (by omega)]
   by_cases hjm:j=m
   ·rw [hjm,hA'.map,hm]; simp
   ·rw [hget j hj hjm,hHe]
    by_cases hj2:j < m
    ·rw [List.getElem?_append_left (by omega),List.getElem?_append_left (by omega)]
    ·have hj3:j=m + 1∨j=m + 2:=by omega
     rcases hj3 with rfl | rfl <;> (rw [hm]; simp)
  ·rw [List.getElem?_eq_none (by simp; omega),List.getElem?_eq_none (by simp; omega)]
 have hund:∀ B∈H2.take H.length,Blk.under H.length B=true:=by
  rw [hfin]
  intro B hB
  obtain ⟨j,hj⟩:=List.mem_iff_getElem?.1 hB
  rw [← hfin,List.getElem?_take] at hj
  split at hj
  ·rename_i hjl
   by_cases hjm:j=m
   ·subst hjm
    rw [hA'.map] at hj
    simp only [Option.some.injEq] at hj
    subst hj
    exact zxd _ _ _
   ·rw [hget j (by omega) hjm] at hj
    exact hok B (List.mem_of_getElem? hj)
  ·simp at hj
 rw [← hfin]
 simp only [zj,Bool.false_eq_true,if_false,trunc]
 rw [if_pos (by rw [List.all_eq_true.2 hund]; rfl)]
end Go.Abs.Plan
namespace Go.Abs.Plan
open Enc (Is)
variable {Hb:Heap} {Fb:Blk} {m:Nat}
abbrev onceL (tm:Tm):Blk:=.loop 0 .ready none tm [7] (RR [kk 4 (.frzM (tt 7))]) ze5
theorem zyy (tm:Tm) (h3:tm.get 3=.fptr false [.map m 0] 0):YOk Hb (onceL tm) Fb m (.yieldf (m + 2) 0):=by
 intro H L x id g hA hid hB hok
 have hlen:=hA.len
 have kl:=ze1 hA.lrec
 have nl:=lt_of hA.lrec
 have km:=ze1 hA.map
 have nm:=lt_of hA.map
 have kx:=ze1 hB
 have nx:=lt_of hB
 have hkey:=fun H'=>zxw x hok (tupA x) (zg4 x) H'
 have hne1:¬ m + 2=id:=by omega
 have hne2:¬ id=m + 2:=by omega
 have hne3:¬ m=id:=by omega
 have hne4:¬ id=m:=by omega
 have hne5:¬ m=m + 2:=by omega
 have hne6:¬ m + 2=m:=by omega
 have htk:List.take x.length (x.map Val.enc)=x.map Val.enc:=List.take_of_length_le (by simp)
 have hpl:=z18 x
 have hp:tm.puts [7] [.sl id g 0 x.length]=tm.put 7 (.sl id g 0 x.length):=rfl
 have htb:(x.map Val.enc)=(x.map Val.enc):=rfl
 have hkey2:∀ H',callW tbl (.func z86 [] []) [.fsl false (x.map Val.enc)] H'=some (.str (keyS x),H'):=hkey
 have hrnd:=zpw (tbl:=tbl) (l:=m + 2) (it:=[.sl id g 0 x.length]) (H:=H) (tm:=tm) (ps:=[7]) (a:=RR [kk 4 (.frzM (tt 7))]) (b:=ze5) (st:=.ready) (pd:=none)
  (fun v H'=>v=.bool true∧H'=(H.set id (.dead g)).set m (.map 0 (tEnts (addT L x)) (addT L x).length)) nl kl rfl (fun F hF=>by
   simp [hp,h3,hkey2,kx,nx,km,nm,zw3,htk,hpl,hne1,hne2,hne3,hne4,hne5,hne6,kl,nl]
   have r2:∀ (s:St) (F:AV→Heap→Prop),RND2K (.loop 0 .busy none tm [7] (RR [kk 4 (.frzM (tt 7))]) ze5) (m + 2) .normal s F=F (.bool true) (s.heap.set (m + 2) (onceL tm)):=fun s F=>zv01
   obtain ⟨Lb,hLb⟩:∃ Lb,Lb=Blk.loop 0 .busy none tm [7] (RR [kk 4 (.frzM (tt 7))]) ze5:=⟨_,rfl⟩
   rw [← hLb] at r2 ⊢
   clear hLb
   have hfin:((((H.set id (.dead g)).set (m + 2) Lb).set m (.map 0 (tEnts (addT L x)) (addT L x).length)).set (m + 2) (onceL tm))=(H.set id (.dead g)).set m (.map 0 (tEnts (addT L x)) (addT L x).length):=by
    have e1:(H.set id (.dead g))[m + 2]? = some (onceL tm):=by rw [List.getElem?_set_ne hne2]; exact hA.lrec
    rw [List.set_comm Lb _ hne6,List.set_set,set_same]
    rw [List.getElem?_set_ne hne5]; exact e1
   have htA:AV.fsl false (x.map Val.enc)=tupA x:=rfl
   unfold ze5
   rcases zts x L with ⟨e1,e2,e3⟩ | ⟨i,e1,e2,e3⟩
   ·simp [h3,hkey2,km,nm,hne1,hne2,hne3,hne4,hne5,hne6,kl,nl,e1,e2,e3,r2]
    rw [htA,e2,hfin]
    exact hF _ _ ⟨rfl,rfl⟩
   ·simp [h3,hkey2,km,nm,hne1,hne2,hne3,hne4,hne5,hne6,kl,nl,e1,e2,e3,r2]
    rw [htA,e2,hfin]
    exact hF _ _ ⟨rfl,rfl⟩)
 obtain ⟨v,H',⟨rfl,rfl⟩,hcall⟩:=hrnd
 have hA2:Al Hb (onceL tm) Fb m ((H.set id (.dead g)).set m (.map 0 (tEnts (addT L x)) (addT L x).length)) (addT L x):=by
  have h1:=hA.set hid (.dead g) rfl
  have hl1:(H.set id (.dead g)).length=H.length:=by simp
  refine ⟨h1.hok.set (zxd _ _ _),by simp; omega,fun j hj=>?_,?_,?_,?_⟩
  ·rw [List.getElem?_set_ne (by omega)]; exact h1.base j hj
  ·rw [List.getElem?_set_self (by simp; omega)]
  ·rw [List.getElem?_set_ne (by omega)]; exact h1.lrec
  ·rw [List.getElem?_set_ne (by omega)]; exact h1.fb
 refine ⟨_,by rw [hcall]; simp only [trunc]; rw [if_pos (by simp only [AV.under,Bool.true_and]; rw [List.take_of_length_le (by simp)]; have:=hA2.hok.all; simpa using this),List.take_of_length_le (by simp)],hA2,by simp,by simp,fun j hj hjm=>?_⟩
 by_cases hji:j=id
 ·subst hji
  exact .inr ⟨rfl,g,by rw [List.getElem?_set_ne (by omega),List.getElem?_set_self hj]⟩
 ·exact .inl (by rw [List.getElem?_set_ne (by omega),List.getElem?_set_ne (by omega)])
end Go.Abs.Plan
namespace Go.Abs
variable {tbl:FuncId→Option AFun} {k:Nat}
theorem zbi {f:AOperand} {ps:List Nat} {a b:ACode} {s:St} {ks:List KF} {R:AExit→St→Prop} (hrnd:s.rnd=none) (fv:AV) (hf:evalA [] s.tm f=fv) (hfn:ztk fv=true)
 (h:NW tbl k fv [.yieldf (s.heap.length + 1) 0] (s.heap++[.defr 0, .loop 0 .ready none s.tm ps a b]) (fun r H3=>H3[s.heap.length + 1]? = some (.loop 0 .ready none s.tm ps a b) ∧
  NKON tbl k ks .normal { s with heap:=H3.set (s.heap.length + 1) (.dead 1),dfr:=(s.heap.length,0)::s.dfr } R)):NEX tbl k (.rangeFunc f ps a b) ks s R:=by
 subst hf
 have hlen1:(s.heap++[Blk.defr 0]).length=s.heap.length + 1:=by simp
 have e:s.heap++[Blk.defr 0]++[Blk.loop 0 .ready none s.tm ps a b]=s.heap++[.defr 0, .loop 0 .ready none s.tm ps a b]:=by simp
 have e1:zn3 s=s.heap++[.defr 0]:=by unfold zn3; rw [hrnd]
 have e2:zba s=(s.heap.length,0)::s.dfr:=by unfold zba; rw [hrnd]
 refine ⟨hfn,by rw [hrnd]; rfl,?_⟩
 rw [e1,e2,hlen1,e]
 refine z3a k _ _ _ _ _ h (fun r H3 hr=>?_)
 simp only [hr.1]
 exact ⟨by simp,hr.2⟩
end Go.Abs
namespace Go.Abs.Plan
open Enc (Is)
abbrev apL (tm:Tm):Blk:=.loop 0 .ready none tm [7] (RR [kM 5 7]) z81
theorem z851 (H0:Heap) (tm:Tm) (h2:tm.get 2=.ptr H0.length 0 0 0) (I:Blk) (v:AV) (Hs:Heap) (rows:List AV) (r:AV) (hA:Acc (H0++[.arr 0 1 [v], .defr 0,apL tm,I]) 1 v Hs rows) (hr:r.isCell=true∧r.cells=[r]) (hlen:rows.length≤2 ^ 30) :
 ∃ v' Hs',callW tbl (.yieldf (H0.length + 2) 0) [r] Hs=some (.bool true,Hs')∧Acc (H0++[.arr 0 1 [v'], .defr 0,apL tm,I]) 1 v' Hs' (rows++[r]):=by
 have hl4:(H0++[.arr 0 1 [v], .defr 0,apL tm,I]).length=H0.length + 4:=by simp
 have g0:Hs[H0.length]? = some (.arr 0 1 [v]):=by rw [hA.get (by omega)]; simp
 have g2:Hs[H0.length + 2]? = some (apL tm):=by rw [hA.get (by omega)]; simp
 have k0:=ze1 g0
 have n0:=lt_of g0
 have k2:=ze1 g2
 have n2:=lt_of g2
 have hp:tm.puts [7] [r]=tm.put 7 r:=rfl
 have hcell:=hA.cell
 have hro:r.rowok 1=true:=by simp [AV.rowok,hr]
 obtain ⟨Lb,hLb⟩:∃ Lb,Lb=Blk.loop 0 .busy none tm [7] (RR [kM 5 7]) z81:=⟨_,rfl⟩
 have hAb:=(hA.set (b:=H0.length + 2) (by omega) Lb)
 obtain ⟨v',Hs',hA',happ⟩:=hAb.one (call:=callW tbl) (lp:=loopW) (bytes:=24) (r:=r) (fl:=false) hro (by omega)
 have hst:(H0++[.arr 0 1 [v], .defr 0,apL tm,I]).set (H0.length + 2) Lb=H0++[.arr 0 1 [v], .defr 0,Lb,I]:=by simp
 rw [hst] at hA'
 have hl4':(H0++[.arr 0 1 [v], .defr 0,Lb,I]).length=H0.length + 4:=by simp
 have j0:Hs'[H0.length]? = some (.arr 0 1 [v]):=by rw [hA'.get (by omega)]; simp
 have j2:Hs'[H0.length + 2]? = some Lb:=by rw [hA'.get (by omega)]; simp
 have kj0:=ze1 j0
 have nj0:=lt_of j0
 have kj2:=ze1 j2
 have nj2:=lt_of j2
 have hcell':=hA'.cell
 have hne:¬ H0.length + 2=H0.length:=by omega
 have hne':¬ H0.length=H0.length + 2:=by omega
 have hrnd:=zpw (tbl:=tbl) (l:=H0.length + 2) (it:=[r]) (H:=Hs) (tm:=tm) (ps:=[7]) (a:=RR [kM 5 7]) (b:=z81) (st:=.ready) (pd:=none)
  (fun w H'=>w=.bool true∧H'=(Hs'.set H0.length (.arr 0 1 [v'])).set (H0.length + 2) (apL tm)) n2 k2 rfl (fun F hF=>by
   simp [hp,k2,n2]
   have r2:∀ (s:St) (F:AV→Heap→Prop),RND2K (.loop 0 .busy none tm [7] (RR [kM 5 7]) z81) (H0.length + 2) .normal s F=F (.bool true) (s.heap.set (H0.length + 2) (apL tm)):=fun s F=>zv01
   rw [← hLb] at r2 ⊢
   unfold z81
   simp [h2,k0,n0,hne,hne',hcell,hr,zr,AV.rowok]
   rw [happ _ _ _ _ _ _ _ (by simp)]
   simp [h2,kj0,nj0,kj2,nj2,hne,hne',hcell,hcell',zz,AV.rowok,r2]
   exact hF _ _ ⟨rfl,rfl⟩)
 obtain ⟨w,H',⟨rfl,rfl⟩,hcall⟩:=hrnd
 have hA2:=(hA'.set (b:=H0.length) (by omega) (.arr 0 1 [v'])).set (b:=H0.length + 2) (by simp) (apL tm)
 have hst2:(((H0++[.arr 0 1 [v], .defr 0,Lb,I]).set H0.length (.arr 0 1 [v'])).set (H0.length + 2) (apL tm))=H0++[.arr 0 1 [v'], .defr 0,apL tm,I]:=by simp
 rw [hst2] at hA2
 refine ⟨v',_,?_,hA2⟩
 rw [hcall]
 have htr:=zw01 (r:=.bool true) hA hA2 (n:=Hs.length) (i:=H0.length) (by simp) rfl (by omega) (B:=.arr 0 1 [v']) (by rw [List.getElem?_set_ne (by omega),List.getElem?_set_self nj0]) (fun n h=>by simp [Blk.under,AV.unders,h]) (fun _=>by simp)
 have htr2:∀ (n:Nat) (v:AV) (H:Heap),trunc n v H=(v,(trunc n v H).2):=fun n v H=>by unfold trunc; split <;> rfl
 rw [htr2,htr]
theorem zjv (k:Nat) (H0:Heap) (tm:Tm) (h2:tm.get 2=.ptr H0.length 0 0 0) (mm:Nat) (es:List MEnt) (clock:Nat) (fl:Bool) (hM:H0[mm]? = some (.map 0 es clock)) (hb:∀ e∈es,e.born < clock) (hnd:(es.map (·.born)).Nodup)
 (hv:∀ e∈es,e.val.isCell=true∧e.val.cells=[e.val]) (hlen:es.length≤2 ^ 30) (hok:HOK (H0++[.arr 0 1 [.nilsl], .defr 0,apL tm])) :
 NW tblN (k + 1) (.func zo [] [.fptr fl [.map mm 0] 0]) [.yieldf (H0.length + 2) 0] (H0++[.arr 0 1 [.nilsl], .defr 0,apL tm])
  (fun r H'=>∃ done:List MEnt,done.Perm es∧((done=[]∧H'=H0++[.arr 0 1 [.nilsl], .defr 0,apL tm])∨∃ g I,done≠[]∧H'=H0++[.arr 0 1 [.sl (H0.length + 4) g 0 done.length], .defr 0,apL tm,I, .arr g 1 (done.map (·.val))]∧∀ n,I.under n=decide (mm < n))):=by
 have lm:=lt_of hM
 refine zap zu rfl rfl rfl (fun F hF=>?_)
 simp [zu,zd2]
 rw [zpg (es:=es) (clock:=clock) (by simp only [List.getElem?_append_left lm]; exact hM)]
 simp
 unfold z42
 refine z4f (it:=6) (nx:=7) (more:=8) (out:=0) (next:=1) (es:=es) (mid:=mm) (mg:=0) (id:=H0.length + 3) (gen:=0) (clock:=clock) hb hnd
  (fun done s=>s.dfr=[]∧s.tm.get 0=.yieldf (H0.length + 2) 0∧s.tm.get 6=.ptr (H0.length + 3) 0 0 0∧∃ v,Acc (H0++[.arr 0 1 [v], .defr 0,apL tm,iterB 0 mm 0 clock done]) 1 v s.heap (done.map (·.val))) ?_ ?_ ?_ ?_
 ·rintro done s ⟨q2,f0,f6,v,hacc⟩
  refine ⟨f6,?_,?_⟩
  ·rw [hacc.get (by simp)]; simp
  ·rw [hacc.get (by simp; omega),List.getElem?_append_left lm]; exact hM
 ·exact ⟨rfl,by simp,by simp, .nilsl,by simp; exact Acc.nil⟩
 ·rintro done e s F' ⟨q2,f0,f6,v,hacc⟩ he hed hsub hdn hgo1 hgo2 hx
  have hacc':=hacc.set (b:=H0.length + 3) (by simp) (iterB 0 mm 0 clock (done++[e]))
  have hset:(H0++[.arr 0 1 [v], .defr 0,apL tm,iterB 0 mm 0 clock done]).set (H0.length + 3) (iterB 0 mm 0 clock (done++[e]))=H0++[.arr 0 1 [v], .defr 0,apL tm,iterB 0 mm 0 clock (done++[e])]:=by simp
  rw [hset] at hacc'
  generalize s.heap.set (H0.length + 3) (iterB 0 mm 0 clock (done++[e]))=H2 at hacc'
  have g1:H2[H0.length + 3]? = some (iterB 0 mm 0 clock (done++[e])):=by rw [hacc'.get (by simp)]; simp
  have g2:H2[mm]? = some (.map 0 es clock):=by rw [hacc'.get (by simp; omega),List.getElem?_append_left lm]; exact hM
  have hdl:done.length≤es.length:=by classical exact za4 hdn hsub
  obtain ⟨v',Hs',hc,hacc2⟩:=z851 H0 tm h2 _ v H2 (done.map (·.val)) e.val hacc' (hv e he) (by simp; omega)
  simp [f6]
  rw [zqg g1 g2 hnd he]
  simp [f0]
  refine zr4 (zm1 subN hc) ?_
  simp
  exact hgo1 _ ⟨by simp [q2],by simp [f0],by simp [f6],v',by simpa using hacc2⟩
 ·rintro done s ⟨q2,f0,f6,v,hacc⟩ hperm
  simp [q2]
  refine hF _ _ ⟨done,hperm,?_⟩
  rcases hacc with ⟨h1,h3,h4⟩ | ⟨g,h1,h3,h4⟩
  ·have hd:done=[]:=by simpa using h1
   subst hd
   subst h3
   refine .inl ⟨rfl,?_⟩
   rw [show zu.frz=false from rfl,h4]
   have e:H0++[.arr 0 1 [.nilsl], .defr 0,apL tm,iterB 0 mm 0 clock []]=(H0++[.arr 0 1 [.nilsl], .defr 0,apL tm])++[iterB 0 mm 0 clock []]:=by simp
   rw [e,zhc hok (by simp) rfl]
  ·have hd:done≠[]:=by rintro rfl; exact h1 rfl
   refine .inr ⟨g,iterB 0 mm 0 clock done,hd,?_,fun n=>rfl⟩
   have hl4:(H0++[.arr 0 1 [v], .defr 0,apL tm,iterB 0 mm 0 clock done]).length=H0.length + 4:=by simp
   rw [hl4,List.length_map] at h3
   subst h3
   rw [show zu.frz=false from rfl,h4]
   simp only [zj,Bool.false_eq_true,if_false,trunc]
   rw [if_neg]
   ·simp
   ·intro hc
    simp only [Bool.and_eq_true,List.all_eq_true] at hc
    have:=hc.2 (.arr 0 1 [.sl (H0.length + 4) g 0 done.length]) (List.mem_of_getElem? (i:=H0.length) (by rw [List.getElem?_take,if_pos (by simp)]; simp))
    simp [Blk.under,AV.unders,AV.under] at this
end Go.Abs.Plan
namespace Go.Abs
theorem zyc {n:Nat} {x:AV} (hx:x.under n=true):∀ (d:Nat) (t:Tm) (i:Nat),t.under n=true→(Tm.putD d t i x).under n=true
 | 0,t,i,ht=>ht
 | d + 1, .leaf,i,ht=>by
   unfold Tm.putD
   split
   ·simp [Tm.under,hx]
   ·split
    ·simp [Tm.under,AV.under,zyc hx d .leaf _ rfl]
    ·simp [Tm.under,AV.under,zyc hx d .leaf _ rfl]
 | d + 1, .node v l r,i,ht=>by
   simp only [Tm.under,Bool.and_eq_true] at ht
   unfold Tm.putD
   split
   ·simp [Tm.under,hx,ht]
   ·split
    ·simp [Tm.under,ht,zyc hx d l _ ht.1.2]
    ·simp [Tm.under,ht,zyc hx d r _ ht.2]
theorem zk8 {n i:Nat} {x:AV} {t:Tm} (ht:t.under n=true) (hx:x.under n=true):(t.put i x).under n=true:=zyc hx 12 t i ht
end Go.Abs
namespace Go.Abs.Plan
open Enc (Is)
theorem z5o (k:Nat) (H:Heap) (mm:Nat) (es:List MEnt) (clock:Nat) (fl:Bool) (hM:H[mm]? = some (.map 0 es clock)) (hb:∀ e∈es,e.born < clock) (hnd:(es.map (·.born)).Nodup)
 (hv:∀ e∈es,e.val.isCell=true∧e.val.cells=[e.val]) (hlen:es.length≤2 ^ 30) (hok:HOK H) :
 NW tblN (k + 2) (.func zw4 [] []) [.nilsl, .func zo [] [.fptr fl [.map mm 0] 0]] H
  (fun r H'=>∃ done:List MEnt,done.Perm es∧((done=[]∧r=.nilsl∧H'=H)∨∃ g I,done≠[]∧r=.sl (H.length + 4) g 0 done.length∧H'=H++[.arr 0 1 [.sl (H.length + 4) g 0 done.length], .dead 1, .dead 1,I, .arr g 1 (done.map (·.val))]∧∀ n,I.under n=decide (mm < n))):=by
 refine zap zg1 rfl rfl rfl (fun F hF=>?_)
 simp [zg1,zz4,AV.rowok]
 refine zbi rfl (.func zo [] [.fptr fl [.map mm 0] 0]) (by simp) rfl ?_
 simp
 have hok2:∀ tm:Tm,tm.under (H.length + 3)=true→HOK (H++[.arr 0 1 [.nilsl], .defr 0,apL tm]):=by
  intro tm htm
  have e:H++[.arr 0 1 [.nilsl], .defr 0,apL tm]=((H++[Blk.arr 0 1 [.nilsl]])++[.defr 0])++[apL tm]:=by simp
  rw [e]
  exact ((hok.push (B:=Blk.arr 0 1 [.nilsl]) rfl).push (B:=.defr 0) rfl).push (B:=apL tm) (by simpa [Blk.under] using htm)
 refine z3a _ _ _ _ _ _ (zjv k H _ (by simp) mm es clock fl hM hb hnd hv hlen (hok2 _ ?_)) (fun r H3 hr=>?_)
 ·have lm:=lt_of hM
  refine zk8 (zk8 (zk8 (zk8 (zk8 rfl rfl) ?_) ?_) rfl) ?_
  ·simp [AV.under,AV.unders]; omega
  ·simp [AV.under]
  ·simp [AV.under,AV.unders]; omega
 ·obtain ⟨done,hperm,h⟩:=hr
  rcases h with ⟨rfl,rfl⟩ | ⟨g,I,hd,rfl,hI⟩
  ·simp
   refine ⟨by rw [List.getElem_append_right (by omega)]; simp [show H.length + 1 + 1 - H.length=2 by omega],?_⟩
   refine hF _ _ ⟨[],hperm, .inl ⟨rfl,?_⟩⟩
   rw [show zg1.frz=false from rfl,zhc hok rfl rfl]
   exact ⟨rfl,rfl⟩
  ·simp
   refine ⟨by rw [List.getElem_append_right (by omega)]; simp [show H.length + 1 + 1 - H.length=2 by omega],?_⟩
   refine hF _ _ ⟨done,hperm, .inr ⟨g,I,hd,?_⟩⟩
   rw [show zg1.frz=false from rfl]
   have hno:¬ (H.length + 4 < H.length∧∀ x∈H,Blk.under H.length x=true):=fun h=>by omega
   simp [zj,trunc,AV.under,hno]
   exact hI
theorem z9t (k:Nat) (H:Heap) (mm:Nat) (es:List MEnt) (clock:Nat) (fl:Bool) (hM:H[mm]? = some (.map 0 es clock)) (hb:∀ e∈es,e.born < clock) (hnd:(es.map (·.born)).Nodup)
 (hv:∀ e∈es,e.val.isCell=true∧e.val.cells=[e.val]) (hlen:es.length≤2 ^ 30) (hok:HOK H) :
 NW tblN (k + 3) (.func zp8 [] []) [.func zo [] [.fptr fl [.map mm 0] 0]] H
  (fun r H'=>∃ done:List MEnt,done.Perm es∧((done=[]∧r=.nilsl∧H'=H)∨∃ g I,done≠[]∧r=.sl (H.length + 4) g 0 done.length∧H'=H++[.arr 0 1 [.sl (H.length + 4) g 0 done.length], .dead 1, .dead 1,I, .arr g 1 (done.map (·.val))]∧∀ n,I.under n=decide (mm < n))):=by
 refine zap zs2 rfl rfl rfl (fun F hF=>?_)
 simp [zs2,zr8]
 refine zh8 (z5o k H mm es clock fl hM hb hnd hv hlen hok) (fun r H' hr=>?_)
 simp
 refine hF _ _ ?_
 obtain ⟨done,hperm,h⟩:=hr
 refine ⟨done,hperm,?_⟩
 rw [show zs2.frz=false from rfl]
 rcases h with ⟨rfl,rfl,rfl⟩ | ⟨g,I,hd,rfl,rfl,hI⟩
 ·exact .inl ⟨rfl,by rw [ze rfl]; exact ⟨rfl,rfl⟩⟩
 ·refine .inr ⟨g,I,hd,?_⟩
  have hno:¬ (H.length + 4 < H.length∧∀ x∈H,Blk.under H.length x=true):=fun h=>by omega
  simp [zj,trunc,AV.under,hno]
  exact hI
theorem zat {L:List Tup} {done:List MEnt} (h:done.Perm (tEnts L)):done.map (·.val)=(done.map entT).map tupA:=by
 rw [List.map_map]
 apply List.map_congr_left
 intro e he
 obtain ⟨u,_,_,h2,h3,_⟩:=zeb (h.mem_iff.1 he)
 simp [h2,h3]
theorem z921:CmpT (.func zda [] []):=by
 intro t u ht hu H
 obtain ⟨r,h1,rfl⟩:∃ r,zy (callW tbl) loopW zg6 [tupA t,tupA u]=some r∧r=i64 (tcmp t u):=by
  refine pureK zg6 rfl (fun F hF=>?_)
  have h1:=zi8 t u (tupA t) (tupA u) (zg4 t) (zg4 u) (by omega) (by omega) []
  simp [zg6,zvh,h1]
  exact hF _ _ _ (z6 rfl) rfl
 exact Go.Abs.Sort.pureA (f:=zda) (af:=zg6) rfl rfl (by simp [AV.plains,zxa]) (by simp [AV.unlents,AV.unlent,tupA,zk7]) h1 H
theorem z6n (k:Nat) (H:Heap) (mm:Nat) (L:List Tup) (fl:Bool) (hM:H[mm]? = some (.map 0 (tEnts L) L.length)) (hL:L.Nodup) (hlen:L.length≤2 ^ 30) (hto:∀ t∈L,t.length≤2 ^ 30) (hok:HOK H) :
 NW tblN (k + 4) (.func zs6 [] []) [.func zo [] [.fptr fl [.map mm 0] 0], .func zda [] []] H (fun r H'=>r=relA (sortT L)∧H'=H):=by
 have lm:=lt_of hM
 refine zap zq1 rfl rfl rfl (fun F hF=>?_)
 simp [zq1,z07]
 refine zh8 (z9t k H mm (tEnts L) L.length fl hM (fun e he=>(zeb he).choose_spec.2.2.2.2) (z4j L) (fun e he=>?_) (by rw [zzs]; exact hlen) hok) (fun r H' hr=>?_)
 ·obtain ⟨u,_,_,h2,_⟩:=zeb he
  rw [h2]; exact ⟨rfl,rfl⟩
 obtain ⟨done,hperm,h⟩:=hr
 have hpm:(done.map entT).Perm L:=by have:=hperm.map entT; rwa [zvm] at this
 rcases h with ⟨rfl,rfl,rfl⟩ | ⟨g,I,hd,rfl,rfl,hI⟩
 ·have hLn:L=[]:=List.nil_perm.1 hpm
  subst hLn
  simp
  refine zr4 (zm1 subN (zys _ _)) ?_
  simp
  refine hF _ _ ?_
  have e:=zi9 (T:=[]) (r:=.nilsl) hok rfl (z6 rfl)
  rw [List.append_nil] at e
  rw [show zq1.frz=true from rfl,e]
  exact ⟨rfl,rfl⟩
 ·simp
  rw [zat hperm]
  have hdl:(done.map entT).length=done.length:=by simp
  have hok2:HOK (H++[.arr 0 1 [.sl (H.length + 4) g 0 done.length], .dead 1, .dead 1,I, .arr g 1 ((done.map entT).map tupA)]):=by
   intro B hB
   rcases List.mem_append.1 hB with hB | hB
   ·exact zgh (by simp) (hok B hB)
   ·simp only [List.mem_cons,List.not_mem_nil,or_false] at hB
    rcases hB with rfl | rfl | rfl | rfl | rfl
    ·simp [Blk.under,AV.unders,AV.under]
    ·rfl
    ·rfl
    ·rw [hI]; simp; omega
    ·exact z31 _ z1t
  obtain ⟨D,hc,hDp,hDs⟩:=zep _ z921 _ hok2 (H.length + 4) g (done.map entT) (fun t ht=>hto t (hpm.mem_iff.1 ht)) (by simp) (by rw [hpm.length_eq]; omega)
  have hD:D=sortT L:=z2t hL (hDp.trans hpm) hDs
  rw [hdl] at hc
  refine zr4 (zm1 subN hc) ?_
  simp
  refine hF _ _ ?_
  have hDl:D.length=done.length:=by rw [hDp.length_eq,hdl]
  have hDne:D≠[]:=by rintro rfl; exact hd (List.length_eq_zero_iff.1 hDl.symm)
  have hre:reify (zs8 H.length (H++[.arr 0 1 [.sl (H.length + 4) g 0 done.length], .dead 1, .dead 1,I, .arr g 1 (D.map tupA)])) zw (.sl (H.length + 4) g 0 done.length)=some (.fsl false (D.map tupA)):=
   zd5 (sz:=1) (R:=D.map tupA) (xs:=D) (by rw [zeg]; rfl) (by simp [hDl]) (by rw [← hDl]; simp [List.take_of_length_le]) (zr6 (fun t=>zg4 t) D)
  rw [show zq1.frz=true from rfl,zi9 hok rfl hre]
  exact ⟨by rw [← hD]; simp [relA,hDne],rfl⟩
end Go.Abs.Plan
namespace Go.Abs.Plan
open Enc (Is)
theorem z951 {n B B':Nat} {w:Bool} {c:Col} (h:okCol n B w false c=some B'):okCol n B w true c=some B'∧c.use≠2:=by
 unfold okCol at h ⊢
 by_cases h2:c.use=2
 ·simp [h2] at h
 ·simp only [h2,if_false] at h ⊢; exact ⟨h,h2⟩
theorem zj6 {n B B':Nat} {sk:Bool} {c:Col} (h:okCol n B false sk c=some B'):B'=B:=by
 unfold okCol at h
 repeat' split at h
 all_goals first
  | (simp only [Option.some.injEq] at h; exact h.symm)
  | (simp at h; done)
  | (rename_i hc; simp at hc)
theorem z9r (g b n B B':Nat) (H:Heap) (c:Col) (hb:H[b]? = some (zw2 g n B)) (hn:n≤64) (h:okCol n B false false c=some B') :
 callW tbl (.func zk9 [] []) [c.enc, .sl b g 0 n] H=some (.bool true,H):=by
 have hs:=zj6 h
 subst hs
 obtain ⟨h1,h2⟩:=z951 h
 have hcol:=zzm g b n B' B' H c false hb hn h1
 rw [set_same hb] at hcol
 have c2:(c.use != 2)=true:=by simpa using h2
 refine callB zy4 rfl rfl rfl (fun F hF=>?_)
 simp only [Col.enc] at hcol
 simp [zy4,ztb,AV.rowok,c2,hcol]
 refine hF _ _ ?_
 rw [show (zy4.frz)=false from rfl,ze rfl]
theorem z9f (g b n B B':Nat) (H:Heap) (st:Step) (cv:AV) (w:Bool) (hcv:Is cv st.cols) (hb:H[b]? = some (zw2 g n B)) (hn:n≤64) (hl:st.cols.length≤8) (hw:(st.op != 2)=w) (h:z72 n w true B st.cols=some B') (s:St) (ks:List KF) (R:AExit→St→Prop)
 (e1:s.heap=H) (e2:s.dfr=[]) (e3:s.tm.get 2=.sl b g 0 n) (e4:s.tm.get 3=.fptr false (st.encW cv).cells 0) (e5:s.tm.get 8=i64 0)
 (hexit:∀ s':St,s'.heap=H.set b (zw2 g n B')→s'.dfr=[]→KONT (callW tbl) loopW ks (.exit 1) s' R) :
 EXEC (callW tbl) loopW (.loop zr3) ks s R:=by
 have hc:=zb hcv
 have hln:=IsL.len hcv
 refine zg (fun k s=>∃ (j B1:Nat),j + k=st.cols.length∧z72 n w true B (st.cols.take j)=some B1∧s.heap=H.set b (zw2 g n B1)∧s.dfr=[]∧s.tm.get 2=.sl b g 0 n∧s.tm.get 3=.fptr false (st.encW cv).cells 0∧s.tm.get 8=i64 j) st.cols.length
  ⟨0,B,by simp,by simp [z72],by rw [e1,set_same hb],e2,e3,e4,e5⟩ ?_
 rintro k s Q ⟨j,B1,h0,h1,h2,h3,h4,h5,h6⟩ hn' hx
 simp only [AV.cells] at h5
 by_cases hj:j < st.cols.length
 ·have hj':(j:Int) < st.cols.length:=by omega
  have hg:st.cols[j]? = some st.cols[j]:=by simp [hj]
  obtain ⟨fl',lv,rfl,hidx⟩:=IsL.idx hcv hg
  simp only [show Enc.sz Col=5 from rfl] at hidx
  have htk:st.cols.take (j + 1)=st.cols.take j++[st.cols[j]]:=by rw [List.take_add_one,hg]; rfl
  obtain ⟨B2,hB2⟩:=zvg h (j + 1)
  rw [htk,z79,h1,Option.bind_some] at hB2
  have hb1:s.heap[b]? = some (zw2 g n B1):=by rw [h2]; simp [lt_of hb]
  have hcol:=zzm g b n B1 B2 s.heap st.cols[j] w hb1 hn hB2
  simp only [Col.enc] at hcol
  simp [zr3,h4,h5,h6,hln,hj',hidx,AV.rowok,hc,hw,hcol]
  have hwr:IntKind.i64.wrap ((j:Int) + 1)=((j + 1:Nat):Int):=by rw [z61 (by omega) (by omega)]; push_cast; rfl
  rw [hwr]
  refine hn' _ (k - 1) (by omega) ⟨j + 1,B2,by omega,by rw [htk,z79,h1,Option.bind_some]; exact hB2,by simp [h2],h3,by simp [h4],by simp [h5],by simp⟩
 ·have hj':¬ (j:Int) < st.cols.length:=by omega
  simp [zr3,h4,h5,h6,hln,hj',AV.rowok,hc]
  rw [List.take_of_length_le (by omega)] at h1
  have:B1=B':=by rw [h1] at h; simpa using h
  subst this
  exact hx _ _ (by simp) (hexit _ h2 h3)
theorem zzy (g b n B B':Nat) (H:Heap) (first:Bool) (s:Step) (sv:AV) (hs:Is sv s) (hb:H[b]? = some (zw2 g n B)) (hn:n≤64) (h:z05 n B first s=some B') :
 callW tbl (.func zqb [] []) [sv, .bool first, .sl b g 0 n] H=some (.bool true,H.set b (zw2 g n B')):=by
 obtain ⟨cv,hcv,rfl⟩:=hs
 have hc:=zb hcv
 have hln:=IsL.len hcv
 refine callB zp rfl rfl rfl (fun F hF=>?_)
 unfold z05 at h
 by_cases h3:s.op=3
 ·rw [if_pos h3] at h
  split at h
  ·rename_i hh
   obtain ⟨hp,hcs,ho,hlo,hhi⟩:=hh
   split at h
   ·rename_i B1 hB1
    have e1:=zj6 hB1
    subst e1
    have e2:=zj6 h
    subst e2
    have t1:=z9r g b n B' B' H s.a hb hn hB1
    have t2:=z9r g b n B' B' H s.b hb hn h
    simp only [Col.enc] at t1 t2
    rw [hcs] at hln
    simp only [List.length_nil] at hln
    simp [zp,zx,AV.rowok,hc,h3,hp,ho,hln,hlo,hhi,t1,t2,z8]
    refine hF _ _ ?_
    rw [show (zp.frz)=false from rfl,ze rfl,set_same hb]
   ·simp at h
  ·simp at h
 ·rw [if_neg h3] at h
  split at h
  ·rename_i hh
   obtain ⟨hop,hcmp,ha,hb0,h8⟩:=hh
   have h8':¬ (8:Int) < s.cols.length:=by omega
   have c3:(s.op == 3)=false:=by simp [h3]
   have hexit:∀ s':St,s'.heap=H.set b (zw2 g n B')→s'.dfr=[]→∀ ks,KONT (callW tbl) loopW ([KF.block 1,KF.seq ((ACode.region [{ dst:=some 6,keep:=true,op:=AOp.move (AOperand.const (AV.bool true)),guard:=none }]).seq ACode.ret),KF.block 0,KF.seq ks]) (.exit 1) s' (FINQ [AResult.tmp 6] F):=by
    intro s' g1 g2 ks
    simp [g1,g2]
    refine hF _ _ ?_
    rw [show (zp.frz)=false from rfl,ze (by simp)]
   rcases hop with hop | hop | ⟨hop,hf,ho⟩
   ·simp [zp,zx,AV.rowok,hc,hop,hcmp,ha,hb0,hln,h8',z8,zf1,zi]
    refine z9f g b n B B' H s cv (decide (s.op≠2)) hcv hb hn h8 (by simp [hop]) h _ _ _ rfl rfl (by simp) (by simp [hop,hcmp,ha,hb0,zf1,zi]) (by simp) (fun s' g1 g2=>hexit s' g1 g2 _)
   ·simp [zp,zx,AV.rowok,hc,hop,hcmp,ha,hb0,hln,h8',z8,zf1,zi]
    refine z9f g b n B B' H s cv (decide (s.op≠2)) hcv hb hn h8 (by simp [hop]) h _ _ _ rfl rfl (by simp) (by simp [hop,hcmp,ha,hb0,zf1,zi]) (by simp) (fun s' g1 g2=>hexit s' g1 g2 _)
   ·simp [zp,zx,AV.rowok,hc,hop,hf,ho,hcmp,ha,hb0,hln,h8',z8,zf1,zi]
    refine z9f g b n B B' H s cv (decide (s.op≠2)) hcv hb hn h8 (by simp [hop]) h _ _ _ rfl rfl (by simp) (by simp [hop,ho,hcmp,ha,hb0,zf1,zi]) (by simp) (fun s' g1 g2=>hexit s' g1 g2 _)
  ·simp at h
end Go.Abs.Plan
namespace Go.Abs.Plan
open Enc (Is)
theorem zaf (g b n B B':Nat) (H:Heap) (st:Step) (cv:AV) (w:Bool) (hcv:Is cv st.cols) (hb:H[b]? = some (zy3 g n B)) (hn:n≤64) (hB:B < 2 ^ 64) (hl:st.cols.length≤8) (hw:(st.op != 2)=w) (h:z72 n w true B st.cols=some B') (s:St) (ks:List KF) (R:AExit→St→Prop)
 (e1:s.heap=H) (e2:s.dfr=[]) (e3:s.tm.get 0=.ptr b g 0 0) (e4:s.tm.get 4=.fptr false (st.encW cv).cells 0) (e5:s.tm.get 103=cv) (e6:s.tm.get 104=i64 st.cols.length) (e7:s.tm.get 105=i64 0)
 (hexit:∀ s':St,s'.heap=H.set b (zy3 g n B')→s'.dfr=[]→KONT (callW tbl) loopW ks (.exit 0) s' R) :
 EXEC (callW tbl) loopW (.loop zz5) ks s R:=by
 have hc:=zb hcv
 have hln:=IsL.len hcv
 refine zb2 st.cols.length (fun j s=>∃ (B1:Nat),z72 n w true B (st.cols.take j)=some B1∧s.heap=H.set b (zy3 g n B1)∧s.dfr=[]∧s.tm.get 0=.ptr b g 0 0∧s.tm.get 4=.fptr false (st.encW cv).cells 0∧s.tm.get 103=cv∧s.tm.get 104=i64 st.cols.length∧s.tm.get 105=i64 j)
  0 (by omega) ⟨B,by simp [z72],by simp [e1,set_same hb],by simp [e2],by simp [e3],by simp [e4],by simp [e5],by simp [e6],by simp [e7]⟩ (by omega) (by simp; grind) ?_ ?_
 ·rintro j s' Q hj ⟨B1,h1,h2,h3,h4,h5,h6,h7,h8⟩ hn' hx
  simp only [AV.cells] at h5
  have hg:st.cols[j]? = some st.cols[j]:=by simp [hj]
  obtain ⟨fl',lv,rfl,hidx⟩:=IsL.idx hcv hg
  simp only [show Enc.sz Col=5 from rfl] at hidx
  have htk:st.cols.take (j + 1)=st.cols.take j++[st.cols[j]]:=by rw [List.take_add_one,hg]; rfl
  obtain ⟨B2,hB2⟩:=zvg h (j + 1)
  rw [htk,z79,h1,Option.bind_some] at hB2
  have hb1:s'.heap[b]? = some (zy3 g n B1):=by rw [h2]; simp [lt_of hb]
  have hcol:=zxc g b n B1 B2 s'.heap st.cols[j] w true hb1 hn (z6f hn hB h1) hB2
  simp only [Col.enc] at hcol
  simp [h4,h5,h6,h8,hln,hidx,AV.rowok,hc,hw,hcol]
  refine hn' _ _ (.inl rfl) (by simp [h8]) ⟨B2,by rw [htk,z79,h1,Option.bind_some]; exact hB2,by simp [h2],h3,by simp [h4],by simp [h5],by simp [h6],by simp [h7],by simp⟩
 ·rintro s' ⟨B1,h1,h2,h3,h4,h5,h6,h7,h8⟩
  rw [List.take_of_length_le (by omega)] at h1
  have:B1=B':=by rw [h1] at h; simpa using h
  subst this
  exact hexit _ h2 h3
theorem z0z (g b n B B':Nat) (H:Heap) (first:Bool) (s:Step) (sv:AV) (hs:Is sv s) (hb:H[b]? = some (zy3 g n B)) (hn:n≤64) (hB:B < 2 ^ 64) (h:z05 n B first s=some B') :
 callW tbl (.func zj5 [] []) [.ptr b g 0 0,sv, .bool first] H=some (.bool true,H.set b (zy3 g n B')):=by
 obtain ⟨cv,hcv,rfl⟩:=hs
 have hc:=zb hcv
 have hln:=IsL.len hcv
 refine callB zc rfl rfl rfl (fun F hF=>?_)
 unfold z05 at h
 by_cases h3:s.op=3
 ·rw [if_pos h3] at h
  split at h
  ·rename_i hh
   obtain ⟨hp,hcs,ho,hlo,hhi⟩:=hh
   split at h
   ·rename_i B1 hB1
    have e1:=zj6 hB1
    subst e1
    have e2:=zj6 h
    subst e2
    have t1:=zxc g b n B' B' H s.a false false hb hn hB hB1
    have t2:=zxc g b n B' B' H s.b false false hb hn hB h
    rw [set_same hb] at t1 t2
    simp only [Col.enc] at t1 t2
    rw [hcs] at hln
    simp only [List.length_nil] at hln
    have hop:opOk s.cmp:=by unfold opOk; omega
    obtain ⟨hb0,hh⟩:=zym s.cmp H
    simp only [Val.enc,zi] at hh
    simp [zc,zh,AV.rowok,hc,h3,hp,ho,hln,hlo,hhi,t1,t2,z8,hh,hop]
    refine hF _ _ ?_
    rw [show (zc.frz)=false from rfl,ze rfl,set_same hb]
   ·simp at h
  ·simp at h
 ·rw [if_neg h3] at h
  split at h
  ·rename_i hh
   obtain ⟨hop,hcmp,ha,hb0,h8⟩:=hh
   have h8':¬ (8:Int) < s.cols.length:=by omega
   have hexit:∀ s':St,s'.heap=H.set b (zy3 g n B')→s'.dfr=[]→KONT (callW tbl) loopW ([KF.block 0,KF.seq ((ACode.region [{ dst:=some 6,keep:=true,op:=AOp.move (AOperand.const (AV.bool true)),guard:=none }]).seq ACode.ret)]) (.exit 0) s' (FINQ [AResult.tmp 6] F):=by
    intro s' g1 g2
    simp [g1,g2]
    refine hF _ _ ?_
    rw [show (zc.frz)=false from rfl,ze (by simp)]
   rcases hop with hop | hop | ⟨hop,hf,ho⟩
   ·simp [zc,zh,AV.rowok,hc,hop,hcmp,ha,hb0,hln,h8',z8,zf1,zi]
    refine zaf g b n B B' H s cv (decide (s.op≠2)) hcv hb hn hB h8 (by simp [hop]) h _ _ _ rfl rfl (by simp) (by simp [hop,hcmp,ha,hb0,zf1,zi]) (by simp) (by simp) (by simp) (fun s' g1 g2=>hexit s' g1 g2)
   ·simp [zc,zh,AV.rowok,hc,hop,hcmp,ha,hb0,hln,h8',z8,zf1,zi]
    refine zaf g b n B B' H s cv (decide (s.op≠2)) hcv hb hn hB h8 (by simp [hop]) h _ _ _ rfl rfl (by simp) (by simp [hop,hcmp,ha,hb0,zf1,zi]) (by simp) (by simp) (by simp) (fun s' g1 g2=>hexit s' g1 g2)
   ·simp [zc,zh,AV.rowok,hc,hop,hf,ho,hcmp,ha,hb0,hln,h8',z8,zf1,zi]
    refine zaf g b n B B' H s cv (decide (s.op≠2)) hcv hb hn hB h8 (by simp [hop]) h _ _ _ rfl rfl (by simp) (by simp [hop,ho,hcmp,ha,hb0,zf1,zi]) (by simp) (by simp) (by simp) (fun s' g1 g2=>hexit s' g1 g2)
  ·simp at h
end Go.Abs.Plan
namespace Go.Abs.Plan
open Enc (Is)
def zx2 (n:Nat):Bool→Nat→List Step→Option Nat
 | _,B,[]=>some B
 | f,B,s::ss=>match z05 n B f s with
   | some B'=>zx2 n false B' ss
   | none=>none
theorem z7k {n:Nat}:∀ {ss:List Step} {f:Bool} {B:Nat} {s:Step},zx2 n f B (ss++[s])=(zx2 n f B ss).bind fun B'=>z05 n B' (f && ss.isEmpty) s
 | [],f,B,s=>by simp [zx2]; cases z05 n B f s <;> rfl
 | x::ss,f,B,s=>by
   simp only [List.cons_append,zx2]
   cases z05 n B f x with
   | none=>rfl
   | some B'=>simp [z7k]
theorem zbt {n:Nat} {ss:List Step} {f:Bool} {B B':Nat} (h:zx2 n f B ss=some B'):∀ j,∃ B1,zx2 n f B (ss.take j)=some B1:=by
 intro j
 induction ss generalizing f B j with
 | nil=>exact ⟨B,by simp [zx2]⟩
 | cons c cs ih=>
   simp only [zx2] at h
   split at h
   ·rename_i B2 h2
    cases j with
    | zero=>exact ⟨B,rfl⟩
    | succ j=>
      obtain ⟨B1,h1⟩:=ih h j
      exact ⟨B1,by simp only [List.take_succ_cons,zx2,h2]; exact h1⟩
   ·simp at h
theorem za21 {n B B':Nat} {f:Bool} {s:Step} (hn:n≤64) (hB:B < 2 ^ 64) (h:z05 n B f s=some B'):B' < 2 ^ 64:=by
 unfold z05 at h
 split at h
 ·split at h
  ·split at h
   ·rename_i B1 h1; exact z5r hn (z5r hn hB h1) h
   ·simp at h
  ·simp at h
 ·split at h
  ·exact z6f hn hB h
  ·simp at h
theorem zmf {n:Nat} (hn:n≤64):∀ {ss:List Step} {f:Bool} {B B':Nat},B < 2 ^ 64→zx2 n f B ss=some B'→B' < 2 ^ 64
 | [],f,B,B',hB,h=>by simp [zx2] at h; omega
 | c::cs,f,B,B',hB,h=>by
   simp only [zx2] at h
   split at h
   ·rename_i B2 h2; exact zmf hn (za21 hn hB h2) h
   ·simp at h
structure zu3 (p:Plan):Prop where
 vars:p.vars.length≤64
 head:p.head.length≤8
 len:p.steps.length < 2 ^ 40
 ok:∃ B B',zx2 p.vars.length true 0 p.steps=some B∧z72 p.vars.length false false B p.head=some B'
end Go.Abs.Plan
namespace Go.Abs.Plan
open Enc (Is)
theorem zkv (n:Nat):zc4 n 0=List.replicate n (.bool false):=by
 apply List.ext_getElem
 ·simp [zc4]
 ·intro i h1 h2; simp [zc4]
end Go.Abs.Plan
namespace Go.Abs.Plan
open Enc (Is)
def bound (ns:List ByteArray) (B:Nat) (t:Term):Prop:=t.kind=1→B.testBit (plN ns t.name)=true
end Go.Abs.Plan
namespace Go.Abs.Plan
open Enc (Is)
def binds (cs:List Col) (j:Nat):Nat:=cs.countP fun c=>decide (c.use=3∧c.var=(j:Int))
end Go.Abs.Plan
namespace Go.Abs.Plan
open Enc (Is)
theorem nz {v:Val} (h:v≠zi):v.kind≠0∨(v.kind=0∧v.n≠0)∨(v.kind=0∧v.n=0∧v.s≠⟨#[]⟩):=by
 by_cases k1:v.kind=0
 ·by_cases k2:v.n=0
  ·by_cases k3:v.s=⟨#[]⟩
   ·exact absurd (by obtain ⟨a,b,c⟩:=v; simp only at k1 k2 k3; subst k1; subst k2; subst k3; rfl) h
   ·exact .inr (.inr ⟨k1,k2,k3⟩)
  ·exact .inr (.inl ⟨k1,k2⟩)
 ·exact .inl k1
theorem zct (g b n B:Nat) (H:Heap) (c:Col) (w:Bool) (hb:H[b]? = some (zw2 g n B)) (hn:n≤64) (h:okCol n B w true c=none) :
 callW tbl (.func zid [] []) [c.enc, .sl b g 0 n, .bool w] H=some (.bool false,H):=by
 have hlt:=lt_of hb
 have hh:=ze1 hb
 refine callB z11 rfl rfl rfl (fun F hF=>?_)
 obtain ⟨use,var,val⟩:=c
 unfold okCol at h
 simp only at h
 by_cases h1:use=1
 ·subst h1
  have hv0:¬ var=0:=by intro e; simp [e] at h
  have hv0b:(var == 0)=false:=by simp [hv0]
  simp [z11,zb1,AV.rowok,z8,hv0,hv0b]
  exact hF _ _ (ze rfl)
 by_cases h2:use=2
 ·subst h2
  by_cases hv0:var=0
  ·have hv:val≠zi:=by intro e; simp [e,hv0] at h
   rcases nz hv with k1 | ⟨k1,k2⟩ | ⟨k1,k2,k3⟩
   ·have k1b:(val.kind == 0)=false:=by simp [k1]
    simp [z11,zb1,AV.rowok,z8,hv0,k1,k1b]
    exact hF _ _ (ze rfl)
   ·have k2b:(val.n == 0)=false:=by simp [k2]
    simp [z11,zb1,AV.rowok,z8,hv0,k1,k2,k2b]
    exact hF _ _ (ze rfl)
   ·simp [z11,zb1,AV.rowok,z8,hv0,k1,k2,k3]
    exact hF _ _ (ze rfl)
  ·simp [z11,zb1,AV.rowok,z8,hv0]
   exact hF _ _ (ze rfl)
 by_cases h3:use=3
 ·subst h3
  cases w with
  | false=>
    simp [z11,zb1,AV.rowok,z8]
    exact hF _ _ (ze rfl)
  | true=>
    by_cases hv:val=zi
    ·subst hv
     by_cases hneg:var < 0
     ·simp [z11,zb1,AV.rowok,z8,zi,hneg]
      exact hF _ _ (ze rfl)
     ·obtain ⟨j,rfl⟩:∃ j:Nat,var=(j:Int):=⟨var.toNat,by omega⟩
      by_cases hge:(n:Int)≤(j:Int)
      ·simp [z11,zb1,AV.rowok,z8,zi,hneg,hge]
       exact hF _ _ (ze rfl)
      ·have hvn:j < n:=by omega
       have hbit:B.testBit j=true:=by
        cases hb:B.testBit j with
        | true=>rfl
        | false=>simp [hvn,hb] at h
       have hbl:=zya n B
       have hbg:(zc4 n B)[j]=.bool (B.testBit j):=by simp [zc4]
       simp [z11,zb1,AV.rowok,z8,zi,hh,zw2,hneg,hge,hvn,hlt,hbl,hbg,hbit]
       exact hF _ _ (ze rfl)
    ·have hv:val≠zi:=hv
     rcases nz hv with k1 | ⟨k1,k2⟩ | ⟨k1,k2,k3⟩
     ·have k1b:(val.kind == 0)=false:=by simp [k1]
      simp [z11,zb1,AV.rowok,z8,k1,k1b]
      exact hF _ _ (ze rfl)
     ·have k2b:(val.n == 0)=false:=by simp [k2]
      simp [z11,zb1,AV.rowok,z8,k1,k2,k2b]
      exact hF _ _ (ze rfl)
     ·simp [z11,zb1,AV.rowok,z8,k1,k2,k3]
      exact hF _ _ (ze rfl)
 by_cases h4:use=4
 ·subst h4
  by_cases hv:val=zi
  ·subst hv
   by_cases hneg:var < 0
   ·have hneg':¬ 0≤var:=by omega
    simp [z11,zb1,AV.rowok,z8,zi,hneg']
    exact hF _ _ (ze rfl)
   ·obtain ⟨j,rfl⟩:∃ j:Nat,var=(j:Int):=⟨var.toNat,by omega⟩
    by_cases hvn:j < n
    ·have hlt':(j:Int) < n:=by omega
     have hbit:B.testBit j=false:=by
      cases hb:B.testBit j with
      | false=>rfl
      | true=>simp [hvn,hb] at h
     have hbl:=zya n B
     have hbg:(zc4 n B)[j]=.bool (B.testBit j):=by simp [zc4]
     simp [z11,zb1,AV.rowok,z8,zi,hh,zw2,hlt',hvn,hlt,hbl,hbg,hbit]
     exact hF _ _ (ze rfl)
    ·have hlt':¬ (j:Int) < n:=by omega
     simp [z11,zb1,AV.rowok,z8,zi,hlt',hvn]
     exact hF _ _ (ze rfl)
  ·have hv:val≠zi:=hv
   rcases nz hv with k1 | ⟨k1,k2⟩ | ⟨k1,k2,k3⟩
   ·have k1b:(val.kind == 0)=false:=by simp [k1]
    simp [z11,zb1,AV.rowok,z8,k1,k1b]
    exact hF _ _ (ze rfl)
   ·have k2b:(val.n == 0)=false:=by simp [k2]
    simp [z11,zb1,AV.rowok,z8,k1,k2,k2b]
    exact hF _ _ (ze rfl)
   ·simp [z11,zb1,AV.rowok,z8,k1,k2,k3]
    exact hF _ _ (ze rfl)
 ·simp [z11,zb1,AV.rowok,z8,h1,h2,h3,h4]
  exact hF _ _ (ze rfl)
theorem zlv (g b n B:Nat) (H:Heap) (c:Col) (hb:H[b]? = some (zw2 g n B)) (hn:n≤64) (h:okCol n B false false c=none) :
 callW tbl (.func zk9 [] []) [c.enc, .sl b g 0 n] H=some (.bool false,H):=by
 refine callB zy4 rfl rfl rfl (fun F hF=>?_)
 by_cases h2:c.use=2
 ·simp [zy4,ztb,AV.rowok,h2]
  exact hF _ _ (ze rfl)
 ·have h':okCol n B false true c=none:=by unfold okCol at h ⊢; simpa [h2] using h
  have hcol:=zct g b n B H c false hb hn h'
  simp only [Col.enc] at hcol
  simp [zy4,ztb,AV.rowok,h2,hcol]
  exact hF _ _ (ze rfl)
end Go.Abs.Plan
namespace Go.Abs.Plan
open Enc (Is)
theorem zci (g b n B:Nat) (H:Heap) (c:Col) (w sk:Bool) (hb:H[b]? = some (zy3 g n B)) (hn:n≤64) (hB:B < 2 ^ 64) (h:okCol n B w sk c=none) :
 ∃ B',callW tbl (.func zu2 [] []) [.ptr b g 0 0,c.enc, .bool w, .bool sk] H=some (.bool false,H.set b (zy3 g n B')):=by
 have hlt:=lt_of hb
 have hh:=ze1 hb
 suffices hq:∃ v H',(v=.bool false∧∃ B',H'=H.set b (zy3 g n B'))∧callW tbl (.func zu2 [] []) [.ptr b g 0 0,c.enc, .bool w, .bool sk] H=some (zj false H.length v H') by
  obtain ⟨v,H',⟨rfl,B',rfl⟩,hc⟩:=hq
  rw [ze (by simp)] at hc
  exact ⟨B',hc⟩
 refine callE (fun v H'=>v=.bool false∧∃ B',H'=H.set b (zy3 g n B')) zf rfl rfl rfl (fun F hF=>?_)
 have hS:F (.bool false) H:=hF _ _ ⟨rfl,B,(set_same hb).symm⟩
 obtain ⟨use,var,val⟩:=c
 unfold okCol at h
 simp only at h
 by_cases h1:use=1
 ·subst h1
  have hv0:¬ var=0:=by intro e; simp [e] at h
  have hv0b:(var == 0)=false:=by simp [hv0]
  simp [zf,zl,AV.rowok,z8,splice,zz,hv0,hv0b]
  exact hS
 by_cases h2:use=2
 ·subst h2
  cases sk with
  | false=>
    simp [zf,zl,AV.rowok,z8,splice,zz]
    exact hS
  | true=>
    by_cases hv0:var=0
    ·have hv:val≠zi:=by intro e; simp [e,hv0] at h
     rcases nz hv with k1 | ⟨k1,k2⟩ | ⟨k1,k2,k3⟩
     ·have k1b:(val.kind == 0)=false:=by simp [k1]
      simp [zf,zl,AV.rowok,z8,splice,zz,hv0,k1,k1b]
      exact hS
     ·have k2b:(val.n == 0)=false:=by simp [k2]
      simp [zf,zl,AV.rowok,z8,splice,zz,hv0,k1,k2,k2b]
      exact hS
     ·simp [zf,zl,AV.rowok,z8,splice,zz,hv0,k1,k2,k3]
      exact hS
    ·simp [zf,zl,AV.rowok,z8,splice,zz,hv0]
     exact hS
 by_cases h34:use=3∨use=4
 ·have hnv:val≠zi→EXEC (callW tbl) loopW zf.body [] { tm:=Tm.ofArgs .leaf 0 ([]++[.ptr b g 0 0,(Col.mk use var val).enc, .bool w, .bool sk]++[]),heap:=H,dfr:=[],rnd:=none } (FINQ zf.results F):=by
   intro hv
   rcases h34 with rfl | rfl
   ·skip
    rcases nz hv with k1 | ⟨k1,k2⟩ | ⟨k1,k2,k3⟩
    ·have k1b:(val.kind == 0)=false:=by simp [k1]
     simp [zf,zl,AV.rowok,z8,splice,zz,k1,k1b]
     exact hS
    ·have k2b:(val.n == 0)=false:=by simp [k2]
     simp [zf,zl,AV.rowok,z8,splice,zz,k1,k2,k2b]
     exact hS
    ·simp [zf,zl,AV.rowok,z8,splice,zz,k1,k2,k3]
     exact hS
   ·skip
    rcases nz hv with k1 | ⟨k1,k2⟩ | ⟨k1,k2,k3⟩
    ·have k1b:(val.kind == 0)=false:=by simp [k1]
     simp [zf,zl,AV.rowok,z8,splice,zz,k1,k1b]
     exact hS
    ·have k2b:(val.n == 0)=false:=by simp [k2]
     simp [zf,zl,AV.rowok,z8,splice,zz,k1,k2,k2b]
     exact hS
    ·simp [zf,zl,AV.rowok,z8,splice,zz,k1,k2,k3]
     exact hS
  by_cases hv:val=zi
  ·subst hv
   clear hnv
   by_cases hneg:var < 0
   ·rcases h34 with rfl | rfl
    ·simp [zf,zl,AV.rowok,z8,splice,zz,zi,hneg]
     exact hS
    ·simp [zf,zl,AV.rowok,z8,splice,zz,zi,hneg]
     exact hS
   ·obtain ⟨j,rfl⟩:∃ j:Nat,var=(j:Int):=⟨var.toNat,by omega⟩
    by_cases hge:(n:Int)≤(j:Int)
    ·rcases h34 with rfl | rfl
     ·simp [zf,zl,AV.rowok,z8,splice,zz,zi,hneg,hge,hh,zy3,hlt]
      exact hS
     ·simp [zf,zl,AV.rowok,z8,splice,zz,zi,hneg,hge,hh,zy3,hlt]
      exact hS
    ·have hvn:j < n:=by omega
     have hs:=zev (B:=B) (j:=j) (by omega) .no
     have ha:=zyq (n:=B >>> j) (by rw [Nat.shiftRight_eq_div_pow]; exact Nat.lt_of_le_of_lt (Nat.div_le_self ..) hB) .no
     have ht:=zt11 B j
     have hpow:2 ^ j < 2 ^ 64:=Nat.pow_lt_pow_right (by decide) (by omega)
     have hsl:=zu11 (j:=j) (by omega) .no
     have ho:=zh61 hB hpow .no
     generalize (B >>> j) % 2=q at ha ht
     generalize B >>> j=p at hs ha
     have he:binA .eql .no (.int .u64 (q:Int)) (.int .u64 1)=some (.bool (B.testBit j)):=by
      cases hb:B.testBit j with
      | true=>
        have:(q:Int)=1:=by simp [hb] at ht; omega
        simp [this]
      | false=>
        have:¬ (q:Int)=1:=by simp [hb] at ht; omega
        simp [this]
     rcases h34 with rfl | rfl
     ·generalize hq:2 ^ j=qq at hsl ho
      generalize ho':B ||| qq=r at ho
      have hwb:(w && !B.testBit j)=false:=by
       cases w with
       | false=>rfl
       | true=>
         cases hb:B.testBit j with
         | true=>rfl
         | false=>simp [hvn,hb] at h
      cases w with
      | false=>
        simp [zf,zl,AV.rowok,z8,splice,zz,zi,hneg,hge,hh,zy3,hlt,hs,ha,he,hsl,ho]
        exact hF _ _ ⟨rfl,r,rfl⟩
      | true=>
        have hbit:B.testBit j=true:=by simpa using hwb
        rw [hbit] at he
        simp [zf,zl,AV.rowok,z8,splice,zz,zi,hneg,hge,hh,zy3,hlt,hs,ha,he,hsl,ho]
        exact hF _ _ ⟨rfl,r,rfl⟩
     ·have hbit:B.testBit j=false:=by
       cases hb:B.testBit j with
       | false=>rfl
       | true=>simp [hvn,hb] at h
      rw [hbit] at he
      simp [zf,zl,AV.rowok,z8,splice,zz,zi,hneg,hge,hh,zy3,hlt,hs,ha,he,hsl,ho]
      exact hS
  ·exact hnv hv
 ·have h3:¬ use=3:=fun e=>h34 (.inl e)
  have h4:¬ use=4:=fun e=>h34 (.inr e)
  simp [zf,zl,AV.rowok,z8,splice,zz,h1,h2,h3,h4]
  exact hS
end Go.Abs.Plan
