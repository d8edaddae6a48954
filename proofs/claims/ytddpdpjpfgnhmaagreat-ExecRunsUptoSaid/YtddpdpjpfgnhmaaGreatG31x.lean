/- Abs: ranges over maps as loops: the entries one after the other, in some order. -/
import Derived.Test.YtddpdpjpfgnhmaaGreatG30x
set_option linter.unusedSimpArgs false
set_option linter.unusedVariables false
set_option maxHeartbeats 4000000
namespace Go.Abs
variable {tbl:FuncId→Option AFun} {k:Nat} {R:AExit→St→Prop} {s:St} {ks:List KF} {loc:List (Nat×AV)} {os:List AOper} {dst:Option Nat} {keep:Bool}
def iterB (gen mid mg clock:Nat) (done:List MEnt):Blk:=.iter gen (.map mid mg) clock (done.map (·.born)) clock
theorem zpm {es:List MEnt} (hnd:(es.map (·.born)).Nodup) {e:MEnt} (he:e∈es):es.find? (fun x=>x.born == e.born)=some e:=by
 induction es with
 | nil=>simp at he
 | cons a es ih=>
   simp only [List.map_cons,List.nodup_cons] at hnd
   rcases List.mem_cons.1 he with rfl | he
   ·simp
   ·have:a.born≠e.born:=fun h=>hnd.1 (by rw [h]; exact List.mem_map.2 ⟨e,he,rfl⟩)
    rw [List.find?_cons_of_neg (by simpa using this)]
    exact ih hnd.2 he
theorem zpg {mid mg clock:Nat} {es:List MEnt} (hM:s.heap[mid]? = some (.map mg es clock)) :
 NMAPK tbl k z7l (.map mid mg) dst keep os loc s ks R=NVALK tbl k (.ptr s.heap.length 0 0 0) dst keep os loc { s with heap:=s.heap++[iterB 0 mid mg clock []] } ks R:=by
 simp only [NMAPK,z7l,hM,true_and]
 rfl
theorem zqg {id gen mid mg clock:Nat} {es done:List MEnt} {e:MEnt} (hB:s.heap[id]? = some (iterB gen mid mg clock (done++[e]))) (hM:s.heap[mid]? = some (.map mg es clock)) (hnd:(es.map (·.born)).Nodup) (he:e∈es) :
 NMAPK tbl k z8l (.ptr id gen 0 0) dst keep os loc s ks R=NVALK tbl k (.tuple [e.key,e.val]) dst keep os loc s ks R:=by
 simp only [NMAPK,z8l,hB,iterB,hM,List.map_append,List.map_cons,List.map_nil,List.getLast?_append,List.getLast?_singleton,Option.some_or,true_and,zpm hnd he,Option.some.injEq]
 exact propext ⟨fun ⟨_,rfl,h⟩=>h,fun h=>⟨_,rfl,h⟩⟩
theorem zbp {es:List MEnt} {seen:List Nat} {e:MEnt}:e∈z6l es seen↔e∈es∧e.born∉seen:=by
 unfold z6l
 rw [List.mem_filter]
 simp
theorem z4k {α β:Type} {f:α→β}:∀ {l:List α},(l.map f).Nodup→l.Nodup
 | [],_=>List.nodup_nil
 | a::l,h=>by
   simp only [List.map_cons,List.nodup_cons] at h ⊢
   exact ⟨fun hm=>h.1 (List.mem_map.2 ⟨a,hm,rfl⟩),z4k h.2⟩
theorem zrg {α:Type} [DecidableEq α]:∀ {l m:List α},l.Nodup→m.Nodup→(∀ x,x∈l↔x∈m)→l.Perm m:=fun hl hm h=>(List.perm_ext_iff_of_nodup hl hm).2 h
theorem za4 {α:Type} [DecidableEq α]:∀ {l m:List α},l.Nodup→(∀ x∈l,x∈m)→l.length≤m.length
 | [],m,_,_=>Nat.zero_le _
 | a::l,m,hn,hs=>by
   simp only [List.nodup_cons] at hn
   have ha:=hs a (by simp)
   have ih:=za4 (m:=m.erase a) hn.2 (fun x hx=>by
    have hne:x≠a:=fun h=>hn.1 (by rw [← h]; exact hx)
    exact (List.mem_erase_of_ne hne).2 (hs x (by simp [hx])))
   rw [List.length_erase_of_mem ha] at ih
   have:=List.length_pos_of_mem ha
   simp only [List.length_cons]; omega
theorem z4f {it nx more out next id gen mid mg clock:Nat} {es:List MEnt} {assign body:ACode} (hb:∀ e∈es,e.born < clock) (hnd:(es.map (·.born)).Nodup)
 (I:List MEnt→St→Prop) (hI:∀ done s,I done s→s.tm.get it=.ptr id gen 0 0∧s.heap[id]? = some (iterB gen mid mg clock done)∧s.heap[mid]? = some (.map mg es clock))
 (h0:I [] s)
 (hstep:∀ done e s1 F,I done s1→e∈es→e∉done→(∀ x∈done,x∈es)→done.Nodup→(∀ s2,I (done++[e]) s2→F .normal s2)→(∀ s2,I (done++[e]) s2→F (.exit next) s2) →
  (∀ ex s2,ex≠.normal→ex≠.exit next→NKON tbl k ks ex s2 R→F ex s2) →
  NEX tbl k (.seq assign body) [] { s1 with tm:=s1.tm.put more (.bool true),heap:=s1.heap.set id (iterB gen mid mg clock (done++[e])) } F)
 (hexit:∀ done s1,I done s1→done.Perm es→NKON tbl k ks (.exit out) { s1 with tm:=s1.tm.put more (.bool false) } R) (hm:more < 4000:=by decide) :
 NEX tbl k (.loop (.seq (.region [⟨some nx,false, .nextM (.tmp it),none⟩,⟨some more,true, .extract (.tmp nx) 0,none⟩]) (.seq (.cond (.tmp more) .skip (.exit out)) (.block next (.seq assign body))))) ks s R:=by
 refine zms (fun n s=>∃ done,I done s∧done.Nodup∧(∀ x∈done,x∈es)∧done.length + n=es.length) es.length ⟨[],h0,List.nodup_nil,by simp,by simp⟩ (fun n s1 F hI1 hF1 hF2=>?_)
 obtain ⟨done,hd,hdn,hsub,hlen⟩:=hI1
 obtain ⟨g1,g2,g3⟩:=hI done s1 hd
 rw [ze11,z8p,z9p]
 simp only [evalA,look,g1]
 unfold NMAPK
 simp only [nextN,g2,iterB,g3,true_and]
 have hesn:es.Nodup:=z4k hnd
 refine ⟨?_,fun hleft=>?_,fun e he=>?_⟩
 ·cases hes:es with
  | nil=>simp
  | cons a l=>
    have:=hb a (by rw [hes]; simp)
    have h2:¬ clock≤a.born:=by omega
    simp [h2]
 ·have hall:∀ x∈es,x∈done:=by
   intro x hx
   by_cases hxd:x∈done
   ·exact hxd
   ·have:x∈(z6l es (done.map (·.born))).filter (fun e=>decide (e.born < clock)):=by
     refine List.mem_filter.2 ⟨zbp.2 ⟨hx,fun hm=>?_⟩,by simpa using hb x hx⟩
     obtain ⟨y,hy,hyb⟩:=List.mem_map.1 hm
     have h1:=zpm hnd hx
     have h2:=zpm hnd (hsub y hy)
     rw [hyb,h1] at h2
     simp only [Option.some.injEq] at h2
     exact hxd (by rw [h2]; exact hy)
    rw [hleft] at this
    simp at this
  have hperm:done.Perm es:=by
   classical
   exact zrg hdn hesn (fun x=>⟨hsub x,hall x⟩)
  have:=hexit done s1 hd hperm
  simp [actOf,evalA,look,Action.ofOption,Tm.get_put,hm]
  refine hF2 (.exit out) _ (by simp) ?_
  exact this
 ·obtain ⟨he1,he2⟩:=zbp.1 he
  have hed:e∉done:=fun h=>he2 (List.mem_map.2 ⟨e,h,rfl⟩)
  simp [actOf,evalA,look,Action.ofOption,Tm.get_put,hm]
  have hdn':(done++[e]).Nodup:=by
   rw [List.nodup_append]
   exact ⟨hdn,by simp,fun a ha b hb=>by simp at hb; subst hb; exact fun h=>hed (by rw [← h]; exact ha)⟩
  have hsub':∀ x∈done++[e],x∈es:=by
   intro x hx
   rcases List.mem_append.1 hx with h | h
   ·exact hsub x h
   ·simp at h; subst h; exact he1
  have hle:(done++[e]).length≤es.length:=by classical exact za4 hdn' hsub'
  have hnext:∀ s2,I (done++[e]) s2→F .normal s2:=fun s2 hI2=>by
   simp at hle
   exact hF1 (n - 1) s2 (by omega) ⟨done++[e],hI2,hdn',hsub',by simp; omega⟩
  have key:=hstep done e s1 (fun ex s2=>NKON tbl k [.block next] ex s2 F) hd he1 hed hsub hdn (fun s2 h=>by simp; exact hnext s2 h) (fun s2 h=>by simp; exact hnext s2 h) (fun ex s2 h1 h2 hk=>by
   cases ex with
   | normal=>exact absurd rfl h1
   | ret=>simp; exact hF2 _ _ (by simp) hk
   | exit j=>
     have hj:j≠next:=fun h=>h2 (by rw [h])
     simp [hj]; exact hF2 _ _ (by simp) hk)
  have e1:∀ (c:ACode) (s:St),NEX tbl k c [] s (fun ex s2=>NKON tbl k [.block next] ex s2 F)=NEX tbl k c [.block next] s F:=fun c s=>rfl
  rw [e1] at key
  simpa [iterB] using key
end Go.Abs
