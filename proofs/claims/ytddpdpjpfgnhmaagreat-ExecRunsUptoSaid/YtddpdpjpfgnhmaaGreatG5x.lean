/- Abs 17: code, converted; slots as a function; what an operation looks at. -/
import Derived.Test.YtddpdpjpfgnhmaaGreatG4x
set_option linter.unusedSimpArgs false
set_option linter.unusedVariables false
set_option maxHeartbeats 4000000
namespace Go.Abs
open Go.RowKit
def AOp.operands:AOp→List AOperand
 | .move x | .box _ x | .boxF _ x | .load _ _ x | .nilCheck x | .un _ x | .toInt _ x | .runeStr x | .strStr x | .fieldAddr _ x | .field _ _ _ x
 | .makeInterface _ x | .extract x _ | .len _ x | .ofBytes x | .toBytes x | .toBytesF x | .frzM x | .rangeM x | .nextM x | .entryM x=>[x]
 | .pick a b c | .mapUpdate _ _ a b c | .entryStore a b c=>[a,b,c]
 | .alloc _ | .makeMap | .bad=>[]
 | .build _ ps=>ps.map (·.2.2)
 | .buildSlice _ _ ps | .buildSliceF _ _ ps=>ps.map (·.2)
 | .store _ a b | .bin _ _ a b | .makeSlice _ _ a b | .indexAddr _ a b | .index a b | .lookup _ _ _ a b _ | .mapEntry _ _ _ a b | .append _ _ a b | .delete _ _ a b=>[a,b]
 | .makeFunc _ xs ys=>xs++ys
 | .slice _ x lo hi=>x::lo.toList++hi.toList
 | .call f xs | .pcall f xs | .invoke _ f xs=>f::xs
 | .maxI xs=>xs
theorem zdu {ρ ρ':AOperand→AV} {op:AOp} (h:∀ x∈op.operands,ρ x=ρ' x):actOf ρ op=actOf ρ' op:=by
 cases op <;> simp only [AOp.operands,List.mem_cons,List.not_mem_nil,or_false,forall_eq_or_imp,forall_eq] at h <;> simp only [actOf] <;>
  (try (simp only [h]; done)) <;> (try (first | rw [h.1,h.2] | rw [h.1,h.2.1,h.2.2]))
 case build ps=>
  congr 2
  apply List.map_congr_left
  intro p hp
  simp only [h p.2.2 (List.mem_map.2 ⟨p,hp,rfl⟩)]
 case buildSlice l ps=>
  have:(ps.map fun (p:Nat×AOperand)=>(p.1,ρ p.2))=ps.map fun p=>(p.1,ρ' p.2):=by
   apply List.map_congr_left
   intro p hp
   simp only [h p.2 (List.mem_map.2 ⟨p,hp,rfl⟩)]
  simp only [this]
 case buildSliceF z l ps=>
  have:(ps.map fun (p:Nat×AOperand)=>(p.1,ρ p.2))=ps.map fun p=>(p.1,ρ' p.2):=by
   apply List.map_congr_left
   intro p hp
   simp only [h p.2 (List.mem_map.2 ⟨p,hp,rfl⟩)]
  simp only [this]
 case makeFunc f xs ys=>
  have h1:xs.map ρ=xs.map ρ':=List.map_congr_left fun x hx=>h x (List.mem_append.2 (.inl hx))
  have h2:ys.map ρ=ys.map ρ':=List.map_congr_left fun x hx=>h x (List.mem_append.2 (.inr hx))
  rw [h1,h2]
 case slice sz x lo hi=>
  have h1:ρ x=ρ' x:=h x (by simp)
  have h2:lo.map ρ=lo.map ρ':=by
   cases lo with
   | none=>rfl
   | some v=>simp only [Option.map_some]; rw [h v (by simp)]
  have h3:hi.map ρ=hi.map ρ':=by
   cases hi with
   | none=>rfl
   | some v=>simp only [Option.map_some]; rw [h v (by simp)]
  rw [h1,h2,h3]
 case call f xs=>
  have h2:xs.map ρ=xs.map ρ':=List.map_congr_left fun x hx=>h.2 x hx
  rw [h.1,h2]
 case pcall f xs=>
  have h2:xs.map ρ=xs.map ρ':=List.map_congr_left fun x hx=>h.2 x hx
  rw [h.1,h2]
 case invoke f xs=>
  have h2:xs.map ρ=xs.map ρ':=List.map_congr_left fun x hx=>h.2 x hx
  rw [h.1,h2]
 case maxI xs=>
  have h2:xs.map ρ=xs.map ρ':=List.map_congr_left fun x hx=>h x hx
  rw [h2]
def AOper.looks (o:AOper):List Nat:=
 (o.op.operands.filterMap fun | .tmp t=>some t | _=>none)++(match o.guard with | some (g,_)=>[g] | none=>[])
def AOper.apart (x y:AOper):Bool:=
 (match x.dst with | some d => !y.looks.contains d && y.dst != some d | none=>true) &&
 (match y.dst with | some d => !x.looks.contains d | none=>true)
def AOp.cls:AOp→Nat
 | .move _ | .pick .. | .build .. | .nilCheck _ | .bin .. | .un .. | .toInt .. | .runeStr _ | .strStr _ | .makeFunc .. | .fieldAddr .. | .field .. | .index .. | .makeInterface .. | .extract .. | .maxI .. | .bad=>0
 | .load .. | .slice .. | .indexAddr .. | .lookup .. | .len .. | .ofBytes ..=>1
 | _=>2
def AOper.harmless (x y:AOper):Bool:=x.op.cls == 0 || y.op.cls == 0 || (x.op.cls == 1 && y.op.cls == 1)
def z35 (o:Oper):List Nat:=(o.after.toList.filter fun e=>Region.binds .any e).map (·.on)
def zrr (m:List Nat) (ps:List Nat):Nat:=ps.foldl (fun s p=>s ||| 2 ^ p ||| m.getD p 0) 0
def z6g (pss:List (List Nat)):List Nat:=pss.foldl (fun acc ps=>acc++[zrr acc ps]) []
def z4h (m:List Nat) (n:Nat):List (Nat×Nat):=
 (List.range n).flatMap fun j=>((List.range j).filter fun i => !(m.getD j 0).testBit i).map fun i=>(i,j)
def zpz (l:List AOper) (f:AOper→AOper→Bool) (p:Nat×Nat):Bool:=
 match l[p.1]?,l[p.2]? with
 | some x,some y=>f x y
 | _,_=>false
def za2 (P:Program) (kept:Nat→Bool) (ops:Array Oper):List AOper:=ops.toList.map (zm P kept ops)
def boxOf (P:Program) (kept:Nat→Bool) (ops:Array Oper) (o:Oper):Option AOper:=
 match o.dst with
 | some d=>if kept (d + 4000) then match (zm P kept ops o).op with
  | .alloc z=>some { zm P kept ops o with op:=.boxF z.cells.length (.const z) }
  | .box n v=>some { zm P kept ops o with op:=.boxF n v }
  | .buildSlice z len ps=>some { zm P kept ops o with op:=.buildSliceF z len ps }
  | .toBytes v=>some { zm P kept ops o with op:=.toBytesF v }
  | .move v=>some { zm P kept ops o with op:=.frzM v }
  | _=>none else none
 | none=>none
def zjo (d:Nat):Operand→Bool
 | .tmp e=>e != d
 | _=>true
def zgc (P:Program) (kept:Nat→Bool) (o1 o2:Oper):Option AOper:=
 match o1.dst,o1.guard,o2.dst,o2.guard,o1.op,o2.op with
 | some d,none,none,none, .alloc t, .store t' (.tmp d') y=>
   if d=d'∧kept (d + 4000)=true∧zjo d y=true then match ze9 P t,z68 P t',z7 y with
    | some z,some (_,n),some v=>if z.cells.length=n then some ⟨some d,kept d, .boxF n v,none⟩ else none
    | _,_,_=>none else none
 | _,_,_,_,_,_=>none
def zcw:Op→Option Operand
 | .move x | .assign x=>some x
 | _=>none
def zik (P:Program) (kept:Nat→Bool) (o1 o2 o3:Oper):Option AOper:=
 match o1.dst,o2.dst,o2.guard,zcw o2.op with
 | some d,some d2,none,some x=>if (d != d2 && zjo d x && (z7 x).isSome)=true then zgc P kept o1 o3 else none
 | _,_,_,_=>none
def zo8 (P:Program) (kept:Nat→Bool) (ops:Array Oper):List Oper→List AOper
 | []=>[]
 | [o]=>[(boxOf P kept ops o).getD (zm P kept ops o)]
 | [o1,o2]=>match zgc P kept o1 o2 with
   | some x=>[x]
   | none=>(boxOf P kept ops o1).getD (zm P kept ops o1)::zo8 P kept ops [o2]
 | o1::o2::o3::os=>match zgc P kept o1 o2 with
   | some x=>x::zo8 P kept ops (o3::os)
   | none=>match zik P kept o1 o2 o3 with
     | some x=>zm P kept ops o2::x::zo8 P kept ops os
     | none=>(boxOf P kept ops o1).getD (zm P kept ops o1)::zo8 P kept ops (o2::o3::os)
def zj2 (nt:Nat) (o:AOper):Bool:=match o.dst with
 | some d=>decide (d < nt) && decide (nt < 4000)
 | none=>true
def z5h (l:List AOper) (ops:Array Oper):List (Nat×Nat):=
 (z4h (z6g (ops.toList.map z35)) ops.size).filter fun p => !zpz l AOper.harmless p
def zdw (mixed:Bool) (l:List AOper) (ops:Array Oper):Bool:=
 let pss:=ops.toList.map z35
 let m:=z6g pss
 (mixed || !Region.departs ops) && (pss.zipIdx.all fun (ps,i)=>ps.all fun p=>decide (p < i)) && (pss.map (zrr m) == m) &&
 (z4h m ops.size).all fun p=>zpz l AOper.apart p
def ze2 (P:Program) (nt:Nat) (kept:Nat→Bool):Code→ACode
 | .skip=>.skip
 | .region _ ops false=>if (za2 P kept ops).all (zj2 nt) then .region (zo8 P kept ops ops.toList) else .bad
 | .region _ ops true=>if (za2 P kept ops).all (zj2 nt) && zdw (P.follows .mixedOrders) (za2 P kept ops) ops then .draw (za2 P kept ops) (z5h (za2 P kept ops) ops) else .bad
 | .seq a b=>.seq (ze2 P nt kept a) (ze2 P nt kept b)
 | .cond c a b=>match z7 c with
   | some x=>.cond x (ze2 P nt kept a) (ze2 P nt kept b)
   | none=>.bad
 | .block id a=>.block id (ze2 P nt kept a)
 | .loop a=>.loop (ze2 P nt kept a)
 | .rangeFunc f ps a b=>match z7 f with
   | some x=>if ps.toList.all (fun t=>decide (t < nt) && decide (nt < 4000) && kept t) then .rangeFunc x ps.toList (ze2 P nt kept a) (ze2 P nt kept b) else .bad
   | none=>.bad
 | .exit id=>.exit id
 | .ret=>.ret
 | _=>.bad
def zqa (P:Program):ResultVar→Option AResult
 | .tmp t=>some (.tmp t)
 | .cell t ty=>match z68 P ty with
   | some (g,n)=>some (.cell t g n)
   | none=>none
def z9 (P:Program) (pure frz:Bool) (keptL:List Nat) (fn:Func):Option AFunc:=
 match fn.body,zdc (zqa P) fn.results.toList with
 | some c, some rs => if fn.ntmps < 4000 && (List.range (fn.params.size + fn.nfree)).all (fun i => keptL.contains i) && fn.params.size + fn.nfree ≤ fn.ntmps && fn.name != "runtime.NumGoroutine" then
  some { nargs:=fn.params.size + fn.nfree,pure,frz,results:=rs,body:=ze2 P fn.ntmps (fun t=>keptL.contains t) c } else none
 | _,_=>none
theorem Tm.get_putD:∀ (d:Nat) (t:Tm) (n:Nat) (x:AV) (m:Nat),n + 2≤2 ^ d→(Tm.putD d t n x).get m=if m=n then x else t.get m
 | 0,t,n,x,m,h=>by simp at h
 | d + 1,t,n,x,m,h=>by
   have hd:2 ^ (d + 1)=2 * 2 ^ d:=by rw [Nat.pow_succ]; omega
   have ih1:=fun t=>Tm.get_putD d t (n / 2) x
   have ih2:=fun t=>Tm.get_putD d t (n / 2 - 1) x
   cases t with
   | leaf=>
     unfold Tm.putD
     split
     ·rename_i h0; subst h0
      by_cases hm:m=0
      ·subst hm; simp [Tm.get]
      ·simp [Tm.get,hm]
     ·rename_i h0
      split
      ·rename_i h1
       simp only [Tm.get]
       by_cases hm:m=0
       ·subst hm; simp; omega
       ·simp only [if_neg hm]
        by_cases hm1:m % 2=1
        ·simp only [if_pos hm1]
         rw [ih1 _ _ (by omega)]
         by_cases e:m=n
         ·subst e; simp
         ·rw [if_neg (by omega),if_neg e]; simp [Tm.get]
        ·simp only [if_neg hm1]; rw [if_neg (by omega)]
      ·rename_i h1
       simp only [Tm.get]
       by_cases hm:m=0
       ·subst hm; simp; omega
       ·simp only [if_neg hm]
        by_cases hm1:m % 2=1
        ·simp only [if_pos hm1]; rw [if_neg (by omega)]
        ·simp only [if_neg hm1]
         rw [ih2 _ _ (by omega)]
         by_cases e:m=n
         ·subst e; simp
         ·rw [if_neg (by omega),if_neg e]; simp [Tm.get]
   | node v l r=>
     unfold Tm.putD
     split
     ·rename_i h0; subst h0
      by_cases hm:m=0
      ·subst hm; simp [Tm.get]
      ·simp [Tm.get,hm]
     ·rename_i h0
      split
      ·rename_i h1
       simp only [Tm.get]
       by_cases hm:m=0
       ·subst hm; simp; omega
       ·simp only [if_neg hm]
        by_cases hm1:m % 2=1
        ·simp only [if_pos hm1]
         rw [ih1 _ _ (by omega)]
         by_cases e:m=n
         ·subst e; simp
         ·rw [if_neg (by omega),if_neg e]
        ·simp only [if_neg hm1]; rw [if_neg (by omega)]
      ·rename_i h1
       simp only [Tm.get]
       by_cases hm:m=0
       ·subst hm; simp; omega
       ·simp only [if_neg hm]
        by_cases hm1:m % 2=1
        ·simp only [if_pos hm1]; rw [if_neg (by omega)]
        ·simp only [if_neg hm1]
         rw [ih2 _ _ (by omega)]
         by_cases e:m=n
         ·subst e; simp
         ·rw [if_neg (by omega),if_neg e]
theorem Tm.get_put {t:Tm} {n:Nat} {x:AV} (m:Nat) (h:n < 4000):(t.put n x).get m=if m=n then x else t.get m:=
 Tm.get_putD 12 t n x m (by simp; omega)
def upd (e:Nat→AV) (dst:Option Nat) (v:AV):Nat→AV:=
 match dst with
 | none=>e
 | some d=>fun t=>if t=d then v else e t
def RInv (kept:Nat→Bool) (s:RSt):Prop:=∀ p∈s.loc,kept p.1=false
theorem zix {L:List (Nat×AV)} {T:Tm} {t:Nat} (h:∀ p∈L,p.1≠t):look L T t=T.get t:=by
 induction L with
 | nil=>rfl
 | cons p L ih=>
   obtain ⟨u,v⟩:=p
   simp only [look]
   rw [if_neg (h (u,v) (by simp))]
   exact ih (fun q hq=>h q (by simp [hq]))
theorem zeu {L:List (Nat×AV)} {T:Tm} {d:Nat} {v:AV} (hd:d < 4000) (h:∀ p∈L,p.1≠d) (t:Nat):look L (T.put d v) t=if t=d then v else look L T t:=by
 induction L with
 | nil=>simp only [look]; exact Tm.get_put t hd
 | cons p L ih=>
   obtain ⟨u,x⟩:=p
   simp only [look]
   by_cases hu:u=t
   ·subst hu; simp [h (u,x) (by simp)]
   ·rw [if_neg hu,if_neg hu]; exact ih (fun q hq=>h q (by simp [hq]))
theorem RSt.look_put {kept:Nat→Bool} {s:RSt} {o:AOper} {v:AV} {H:Heap} (hi:RInv kept s) (hk:o.keep=(o.dst.map kept).getD true) {nt:Nat} (hs:zj2 nt o=true) :
 (fun t=>look (s.put o v H).loc (s.put o v H).tm t)=upd (fun t=>look s.loc s.tm t) o.dst v∧(s.put o v H).heap=H∧RInv kept (s.put o v H):=by
 unfold RSt.put upd
 cases hd:o.dst with
 | none=>exact ⟨rfl,rfl,hi⟩
 | some d=>
   rw [hd] at hk
   simp only [Option.map_some,Option.getD_some] at hk
   simp only [zj2,hd,Bool.and_eq_true,decide_eq_true_eq] at hs
   simp only
   split
   ·rename_i hkk
    rw [hkk] at hk
    refine ⟨?_,rfl,hi⟩
    funext t
    exact zeu (by omega) (fun p hp e=>by have:=hi p hp; rw [e,← hk] at this; simp at this) t
   ·rename_i hkk
    refine ⟨?_,rfl,?_⟩
    ·funext t
     simp only [look]
     by_cases e:d=t
     ·subst e; simp
     ·rw [if_neg e,if_neg (Ne.symm e)]
    ·intro p hp
     simp only [List.mem_cons] at hp
     rcases hp with rfl | hp
     ·simp only; rw [← hk]; simpa using hkk
     ·exact hi p hp
def z88 (e:Nat→AV) (o:AOper):Option Bool:=
 match o.guard with
 | none=>some true
 | some (t,w)=>match e t with
   | .bool b=>some (b == w)
   | .tuple []=>some false
   | _=>none
def stepE (call:CallF) (slot:Option Nat) (o:AOper) (e:Nat→AV) (H:Heap):Option ((Nat→AV)×Heap×AV):=
 match z88 e o with
 | some true=>match zd call slot H (actOf (zk e) o.op) with
   | some (v,H')=>some (upd e o.dst v,H',v)
   | none=>none
 | some false=>some (upd e o.dst .skipped,H, .skipped)
 | none=>none
theorem zjb (L:List (Nat×AV)) (T:Tm):evalA L T=zk (look L T):=by funext x; cases x <;> rfl
end Go.Abs
