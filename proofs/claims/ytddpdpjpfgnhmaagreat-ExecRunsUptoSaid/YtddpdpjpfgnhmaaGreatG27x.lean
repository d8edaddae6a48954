/- The sort of the library, walked: what its elements are; swaps. -/
import Derived.Test.YtddpdpjpfgnhmaaGreatG26x
import Derived.Sort.AssemblyPlain
set_option linter.unusedSimpArgs false
set_option linter.unusedVariables false
set_option maxHeartbeats 4000000
namespace Go.Abs.Sort
open Go Go.Abs Go.Sort
structure Env (tbl:FuncId→Option AFun) (α:Type) where
 I:Ids
 ag:Bool
 sz:Nat
 row:α→AV
 fv:AV
 cmp:α→α→Int
 laid:Laid tbl I ag sz
 rowok:∀ x,(row x).rowok sz=true
 part:∀ x,part ag sz 0 (row x).cells=some (row x)
 plain:∀ x,(row x).plain=true
 call:∀ x y H,callW tbl fv [row x,row y] H=some (.int .i64 (cmp x y),H)
set_option linter.unusedSectionVars false
variable {tbl:FuncId→Option AFun} {α:Type} [Inhabited α]
def Env.lt (E:Env tbl α) (x y:α):Bool:=decide (E.cmp x y < 0)
def Env.rws (E:Env tbl α) (d:Array α):List AV:=d.toList.map E.row
def el (d:Array α) (i:Nat):α:=d[i]!
theorem Env.len (E:Env tbl α) (d:Array α):(E.rws d).length=d.size:=by simp [Env.rws]
theorem Env.get' (E:Env tbl α) {d:Array α} {i:Nat} (h:i < (E.rws d).length):(E.rws d)[i]=E.row (el d i):=by
 have h':i < d.size:=by simpa [Env.len] using h
 simp [Env.rws,h',el]
theorem Env.set (E:Env tbl α) (d:Array α) (i:Nat) (x:α):(E.rws d).set i (E.row x)=E.rws (d.setIfInBounds i x):=by
 simp [Env.rws]
theorem Env.cells (E:Env tbl α) (x:α):(E.row x).cells.length=E.sz:=by
 have:=E.rowok x
 simp [AV.rowok] at this
 exact this.1
theorem Env.ld (E:Env tbl α) (x:α):(if E.ag=true then some (AV.agg (List.take E.sz (E.row x).cells)) else (E.row x).cells[0]?)=some (E.row x):=by
 have:=E.part x
 simpa [Go.Abs.part,E.cells] using this
theorem Env.put (E:Env tbl α) (x y:α):zz (E.row y) 0 (E.row x)=E.row x:=by simp [zz,E.cells]
theorem zu1 (d:Array α) (i j:Nat):(swp d i j).size=d.size:=by simp [swp]
abbrev Env.blk (E:Env tbl α) (g:Nat) (d:Array α):Blk:=.arr g E.sz (E.rws d)
abbrev ii (n:Nat):AV:=.int .i64 (n:Int)
def Fr (s:St):List (Nat×AV)→Prop
 | []=>True
 | p::L=>s.tm.get p.1=p.2∧Fr s L
theorem zh3 (s:St):Fr s []=True:=rfl
theorem z62 (s:St) (p:Nat×AV) (L:List (Nat×AV)):Fr s (p::L)=(s.tm.get p.1=p.2∧Fr s L):=rfl
def At (E:Env tbl α) (H:Heap) (id g:Nat) (d:Array α) (s:St) (L:List (Nat×AV)):Prop:=s.heap=H.set id (E.blk g d)∧s.dfr=[]∧Fr s L
theorem zy01 (E:Env tbl α) (id g n a i b:Nat) (H:Heap) (hid:id < H.length) (hn:n < 2 ^ 60) (ks:List KF) (R:AExit→St→Prop) (D:Array α)
 (hexit:∀ s':St,At E H id g D s' [(0, .sl id g 0 n),(1,ii a),(2,ii b),(3,E.fv),(8,ii i)]→KONT (callW tbl) loopW ks (.exit 2) s' R)
 (j:Nat) (d:Array α) (s:St) (h1:d.size=n) (h2:j < n) (h3:insInner E.lt a j d=D) (h4:At E H id g d s [(0, .sl id g 0 n),(1,ii a),(2,ii b),(3,E.fv),(8,ii i),(9,ii j)]) :
 EXEC (callW tbl) loopW (.loop (zhh E.I E.ag E.sz)) ks s R:=by
 refine zg (fun j s=>∃ d:Array α,d.size=n∧j < n∧insInner E.lt a j d=D∧At E H id g d s [(0, .sl id g 0 n),(1,ii a),(2,ii b),(3,E.fv),(8,ii i),(9,ii j)]) j ⟨d,h1,h2,h3,h4⟩ ?_
 rintro j s B ⟨d,h1,h2,h3,e1,e2,f⟩ hgo hx
 simp only [z62,zh3,and_true] at f
 by_cases hc:a < j
 ·obtain ⟨p,hp⟩:∃ p,j=p + 1:=⟨j - 1,by omega⟩
  have hci:(a:Int) < (j:Int):=by omega
  have hw:IntKind.i64.wrap ((j:Int) - 1)=(p:Int):=by rw [z61 (by omega) (by omega)]; omega
  have hj0:(0:Int)≤(j:Int):=by omega
  have hp0:(0:Int)≤(p:Int):=by omega
  have hpn:p < n:=by omega
  have hcall:=E.call (el d j) (el d p)
  by_cases hl:E.cmp (el d j) (el d p) < 0
  ·have hins:insInner E.lt a p (swp d j p)=D:=by
    rw [← h3,hp]
    have:E.lt d[p + 1]! d[p]! = true:=by rw [← hp]; exact decide_eq_true hl
    simp [insInner,this,show a < p + 1 by omega]
   simp [zhh,e1,e2,f,hci,hw,hj0,hp0,hid,E.get',hcall,E.len,h1,h2,hpn,E.ld,E.cells,hl,E.rowok,E.put,E.set]
   exact hgo _ p (by omega) ⟨swp d j p,by simp [zu1,h1],hpn,hins,rfl,rfl,by simp [Fr,f]⟩
  ·have hins:d=D:=by
    rw [← h3,hp]
    have:E.lt d[p + 1]! d[p]! = false:=by rw [← hp]; exact decide_eq_false hl
    simp [insInner,this]
   simp [zhh,e1,e2,f,hci,hw,hj0,hp0,hid,E.get',hcall,E.len,h1,h2,hpn,E.ld,E.cells,hl]
   exact hx _ _ (by simp) (hexit _ ⟨by rw [hins],rfl,by simp [Fr,f]⟩)
 ·have hci:¬ (a:Int) < (j:Int):=by omega
  have hins:d=D:=by
   rw [← h3]
   cases j with
   | zero=>rfl
   | succ p=>simp [insInner,show ¬ a < p + 1 by omega]
  simp [zhh,e1,e2,f,hci]
  exact hx _ _ (by simp) (hexit _ ⟨by rw [hins],rfl,by simp [Fr,f]⟩)
theorem zlh (lt:α→α→Bool) (a:Nat):∀ (j:Nat) (d:Array α),(insInner lt a j d).size=d.size
 | 0,d=>rfl
 | j + 1,d=>by
   simp only [insInner]
   split
   ·rw [zlh lt a j,zu1]
   ·rfl
theorem zh41 (E:Env tbl α) (id g a b:Nat) (H:Heap) (d:Array α) (hid:id < H.length) (hn:d.size < 2 ^ 60) (hb:b≤d.size) (ha:a < 2 ^ 60) :
 callW tbl (.func E.I.ins [] []) [.sl id g 0 d.size,ii a,ii b,E.fv] (H.set id (E.blk g d))=some (.tuple [],H.set id (E.blk g (insertionSort E.lt d a b))):=by
 refine callB (a_ins E.I E.ag E.sz) E.laid.ins rfl rfl (fun F hF=>?_)
 have hw:IntKind.i64.wrap ((a:Int) + 1)=((a + 1:Nat):Int):=by rw [z61 (by omega) (by omega)]; push_cast; rfl
 simp [a_ins,c_ins]
 rw [hw]
 generalize hD:insertionSort E.lt d a b=D at *
 generalize hn0:d.size=n at *
 refine zg (fun k s=>∃ (i:Nat) (d:Array α),k=b - i∧a < i∧i≤max b (a + 1)∧d.size=n∧insOuter E.lt a b i d=D∧At E H id g d s [(0, .sl id g 0 n),(1,ii a),(2,ii b),(3,E.fv),(8,ii i)]) (b - (a + 1)) ⟨a + 1,d,rfl,by omega,by omega,hn0,hD,rfl,rfl,by simp [Fr]⟩ ?_
 rintro k s B ⟨i,d,h0,h1,h2,h3,h4,e1,e2,f⟩ hgo hx
 simp only [z62,zh3,and_true] at f
 by_cases hc:i < b
 ·have hci:(i:Int) < (b:Int):=by omega
  have hwi:IntKind.i64.wrap ((i:Int) + 1)=((i + 1:Nat):Int):=by rw [z61 (by omega) (by omega)]; push_cast; rfl
  simp [zkk,e1,e2,f,hci]
  refine zy01 E id g n a i b H hid hn _ _ (insInner E.lt a i d) ?_ i d _ h3 (by omega) rfl ⟨rfl,rfl,by simp [Fr,f]⟩
  rintro s' ⟨e1,e2,f⟩
  simp only [z62,zh3,and_true] at f
  simp [e1,e2,f]
  rw [hwi]
  rw [insOuter,if_pos hc] at h4
  exact hgo _ (b - (i + 1)) (by omega) ⟨i + 1,insInner E.lt a i d,rfl,by omega,by omega,by rw [zlh,h3],h4,rfl,rfl,by simp [Fr,f]⟩
 ·have hci:¬ (i:Int) < (b:Int):=by omega
  rw [insOuter,if_neg hc] at h4
  simp [zkk,e1,e2,f,hci]
  refine hx _ _ (by simp) ?_
  simp
  exact hF _ _ (by rw [h4]; exact ze (by simp))
end Go.Abs.Sort
set_option linter.unusedSectionVars false
namespace Go.Abs.Sort
open Go Go.Abs Go.Sort
variable {tbl:FuncId→Option AFun} {α:Type} [Inhabited α]
theorem wrapN {x:Int} {n:Nat} (h:x=(n:Int)) (hn:n < 2 ^ 63):IntKind.i64.wrap x=(n:Int):=by subst h; exact z61 (by omega) (by omega)
theorem zi41 (E:Env tbl α) (id g a b:Nat) (H:Heap) (d:Array α) (hid:id < H.length) (hn:d.size < 2 ^ 60) (hb:b≤d.size) (ha:a < b) :
 callW tbl (.func E.I.rev [] []) [.sl id g 0 d.size,ii a,ii b,E.fv] (H.set id (E.blk g d))=some (.tuple [],H.set id (E.blk g (reverseRange d a b))):=by
 refine callB (a_rev E.I E.ag E.sz) E.laid.rev rfl rfl (fun F hF=>?_)
 have hw:IntKind.i64.wrap ((b:Int) - 1)=((b - 1:Nat):Int):=wrapN (by omega) (by omega)
 simp [a_rev,c_rev]
 rw [hw]
 have hD0:reverseLoop a (b - 1) d=reverseRange d a b:=rfl
 generalize reverseRange d a b=D at *
 generalize hn0:d.size=n at *
 refine zg (fun k s=>∃ (i j:Nat) (d:Array α),k=j - i∧j < n∧d.size=n∧i < 2 ^ 60∧reverseLoop i j d=D∧At E H id g d s [(0, .sl id g 0 n),(8,ii i),(9,ii j)]) (b - 1 - a) ⟨a,b - 1,d,rfl,by omega,hn0,by omega,hD0,rfl,rfl,by simp [Fr]⟩ ?_
 rintro k s B ⟨i,j,d,h0,h1,h2,h3,h4,e1,e2,f⟩ hgo hx
 simp only [z62,zh3,and_true] at f
 by_cases hc:i < j
 ·have hci:(i:Int) < (j:Int):=by omega
  have hwi:IntKind.i64.wrap ((i:Int) + 1)=((i + 1:Nat):Int):=wrapN (by omega) (by omega)
  have hwj:IntKind.i64.wrap ((j:Int) - 1)=((j - 1:Nat):Int):=wrapN (by omega) (by omega)
  have hin:i < n:=by omega
  have hi0:(0:Int)≤(i:Int):=by omega
  have hj0:(0:Int)≤(j:Int):=by omega
  simp [zhq,e1,e2,f,hci,hi0,hj0,hid,E.get',E.len,h1,h2,hin,E.ld,E.cells,E.rowok,E.put,E.set]
  rw [hwi,hwj]
  rw [reverseLoop,if_pos hc] at h4
  exact hgo _ (j - 1 - (i + 1)) (by omega) ⟨i + 1,j - 1,swp d i j,rfl,by omega,by rw [zu1,h2],by omega,h4,rfl,rfl,by simp [Fr,f]⟩
 ·have hci:¬ (i:Int) < (j:Int):=by omega
  rw [reverseLoop,if_neg hc] at h4
  simp [zhq,e1,e2,f,hci]
  refine hx _ _ (by simp) ?_
  simp
  exact hF _ _ (by rw [h4]; exact ze (by simp))
theorem zcs (E:Env tbl α) (id g lo hi first:Nat) (H:Heap) (d:Array α) (hid:id < H.length) (hn:d.size < 2 ^ 60) (hb:first + hi≤d.size) (hlo:lo < 2 ^ 60) :
 callW tbl (.func E.I.sift [] []) [.sl id g 0 d.size,ii lo,ii hi,ii first,E.fv] (H.set id (E.blk g d))=some (.tuple [],H.set id (E.blk g (siftDown E.lt hi first lo d))):=by
 refine callB (zsl E.I E.ag E.sz) E.laid.sift rfl rfl (fun F hF=>?_)
 simp [zsl,za61]
 generalize hD:siftDown E.lt hi first lo d=D at *
 generalize hn0:d.size=n at *
 refine zg (fun k s=>∃ (r:Nat) (d:Array α),k=hi - r∧r < 2 ^ 60∧d.size=n∧siftDown E.lt hi first r d=D∧At E H id g d s [(0, .sl id g 0 n),(2,ii hi),(3,ii first),(4,E.fv),(10,ii r)]) (hi - lo) ⟨lo,d,rfl,by omega,hn0,hD,rfl,rfl,by simp [Fr]⟩ ?_
 rintro k s B ⟨r,d,h0,h1,h2,h4,e1,e2,f⟩ hgo hx
 simp only [z62,zh3,and_true] at f
 obtain ⟨c,hcd⟩:∃ c,c=2 * r + 1:=⟨_,rfl⟩
 obtain ⟨r2,hr2⟩:∃ x,x=2 * r:=⟨_,rfl⟩
 have w1:IntKind.i64.wrap (2 * (r:Int))=(r2:Int):=wrapN (by omega) (by omega)
 have w2:IntKind.i64.wrap ((r2:Int) + 1)=(c:Int):=wrapN (by omega) (by omega)
 rw [siftDown] at h4
 by_cases hc:hi≤c
 ·have hci:(hi:Int)≤(c:Int):=by omega
  rw [dif_pos (show 2 * r + 1≥hi by omega)] at h4
  simp [zj9,e1,e2,f,w1,w2,hci]
  refine hx _ _ (by simp) ?_
  simp
  exact hF _ _ (by rw [h4]; exact ze (by simp))
 ·have hci:¬ (hi:Int)≤(c:Int):=by omega
  rw [dif_neg (show ¬ 2 * r + 1≥hi by omega)] at h4
  obtain ⟨fr,hfr⟩:∃ x,x=first + r:=⟨_,rfl⟩
  obtain ⟨fc,hfc⟩:∃ x,x=first + c:=⟨_,rfl⟩
  obtain ⟨c1,hc1⟩:∃ x,x=c + 1:=⟨_,rfl⟩
  obtain ⟨fc1,hfc1⟩:∃ x,x=fc + 1:=⟨_,rfl⟩
  have w3:IntKind.i64.wrap ((c:Int) + 1)=(c1:Int):=wrapN (by omega) (by omega)
  have w4:IntKind.i64.wrap ((first:Int) + (c:Int))=(fc:Int):=wrapN (by omega) (by omega)
  have w5:IntKind.i64.wrap ((fc:Int) + 1)=(fc1:Int):=wrapN (by omega) (by omega)
  have w6:IntKind.i64.wrap ((first:Int) + (r:Int))=(fr:Int):=wrapN (by omega) (by omega)
  have w7:IntKind.i64.wrap ((first:Int) + (c1:Int))=(fc1:Int):=wrapN (by omega) (by omega)
  have z1:(0:Int)≤(fc:Int):=by omega
  have z2:(0:Int)≤(fc1:Int):=by omega
  have z3:(0:Int)≤(fr:Int):=by omega
  have l1:fc < n:=by omega
  have l3:fr < n:=by omega
  rw [show first + (2 * r + 1)=fc by omega,show fc + 1=fc1 by omega,show first + (2 * r + 2)=fc1 by omega,show first + r=fr by omega] at h4
  have b1:(E.lt d[fc]! d[fc1]!)=decide (E.cmp (el d fc) (el d fc1) < 0):=rfl
  have b2:(E.lt d[fr]! d[fc]!)=decide (E.cmp (el d fr) (el d fc) < 0):=rfl
  have b3:(E.lt d[fr]! d[fc1]!)=decide (E.cmp (el d fr) (el d fc1) < 0):=rfl
  rw [b1,b2,b3] at h4
  have q1:=E.call (el d fc) (el d fc1)
  have q2:=E.call (el d fr) (el d fc)
  have q3:=E.call (el d fr) (el d fc1)
  by_cases hh:c1 < hi
  ·have hhi:(c1:Int) < (hi:Int):=by omega
   have l2:fc1 < n:=by omega
   have hh':2 * r + 1 + 1 < hi:=by omega
   by_cases k1:E.cmp (el d fc) (el d fc1) < 0
   ·rw [if_pos (by simp [hh',k1])] at h4
    by_cases k2:E.cmp (el d fr) (el d fc1) < 0
    ·simp [zj9,e1,e2,f,w1,w2,w3,w4,w5,w6,z1,z2,z3,l1,l3,q1,q2,q3,hid,E.get',E.len,h2,E.ld,E.cells,E.rowok,E.put,E.set,w7,k1,k2,hci,hhi,l2]
     simp [k2,show 2 * r + 2 < hi by omega] at h4
     exact hgo _ (hi - c1) (by omega) ⟨c1,swp d fr fc1,rfl,by omega,by rw [zu1,h2],by rw [show c1=2 * r + 2 by omega]; exact h4,rfl,rfl,by simp [Fr,f]⟩
    ·simp [zj9,e1,e2,f,w1,w2,w3,w4,w5,w6,z1,z2,z3,l1,l3,q1,q2,q3,hid,E.get',E.len,h2,E.ld,E.cells,E.rowok,E.put,E.set,w7,k1,k2,hci,hhi,l2]
     simp [k2] at h4
     refine hx _ _ (by simp) ?_
     simp
     exact hF _ _ (by rw [h4]; exact ze (by simp))
   ·rw [if_neg (by simp [k1])] at h4
    by_cases k2:E.cmp (el d fr) (el d fc) < 0
    ·simp [zj9,e1,e2,f,w1,w2,w3,w4,w5,w6,z1,z2,z3,l1,l3,q1,q2,q3,hid,E.get',E.len,h2,E.ld,E.cells,E.rowok,E.put,E.set,k1,k2,hci,hhi,l2]
     simp [k2] at h4
     exact hgo _ (hi - c) (by omega) ⟨c,swp d fr fc,rfl,by omega,by rw [zu1,h2],by rw [show c=2 * r + 1 by omega]; exact h4,rfl,rfl,by simp [Fr,f]⟩
    ·simp [zj9,e1,e2,f,w1,w2,w3,w4,w5,w6,z1,z2,z3,l1,l3,q1,q2,q3,hid,E.get',E.len,h2,E.ld,E.cells,E.rowok,E.put,E.set,k1,k2,hci,hhi,l2]
     simp [k2] at h4
     refine hx _ _ (by simp) ?_
     simp
     exact hF _ _ (by rw [h4]; exact ze (by simp))
  ·have hhi:¬ (c1:Int) < (hi:Int):=by omega
   have hh':¬ 2 * r + 1 + 1 < hi:=by omega
   rw [if_neg (by simp [hh'])] at h4
   by_cases k2:E.cmp (el d fr) (el d fc) < 0
   ·simp [zj9,e1,e2,f,w1,w2,w3,w4,w5,w6,z1,z2,z3,l1,l3,q1,q2,q3,hid,E.get',E.len,h2,E.ld,E.cells,E.rowok,E.put,E.set,k2,hci,hhi]
    simp [k2] at h4
    exact hgo _ (hi - c) (by omega) ⟨c,swp d fr fc,rfl,by omega,by rw [zu1,h2],by rw [show c=2 * r + 1 by omega]; exact h4,rfl,rfl,by simp [Fr,f]⟩
   ·simp [zj9,e1,e2,f,w1,w2,w3,w4,w5,w6,z1,z2,z3,l1,l3,q1,q2,q3,hid,E.get',E.len,h2,E.ld,E.cells,E.rowok,E.put,E.set,k2,hci,hhi]
    simp [k2] at h4
    refine hx _ _ (by simp) ?_
    simp
    exact hF _ _ (by rw [h4]; exact ze (by simp))
end Go.Abs.Sort
set_option linter.unusedSectionVars false
namespace Go.Abs.Sort
open Go Go.Abs Go.Sort
variable {tbl:FuncId→Option AFun} {α:Type} [Inhabited α]
theorem zmh (lt:α→α→Bool) (hi first:Nat):∀ (k r:Nat) (d:Array α),hi - r≤k→(siftDown lt hi first r d).size=d.size:=by
 intro k
 induction k with
 | zero=>
   intro r d hk
   rw [siftDown,dif_pos (by omega)]
 | succ k ih=>
   intro r d hk
   rw [siftDown]
   split
   ·rfl
   ·split
    ·split
     ·rfl
     ·split
      ·rw [ih _ _ (by omega),zu1]
      ·rfl
    ·split
     ·rfl
     ·rw [ih _ _ (by omega),zu1]
theorem zz01 (E:Env tbl α) (id g a b:Nat) (H:Heap) (d:Array α) (hid:id < H.length) (hn:d.size < 2 ^ 60) (hb:b≤d.size) (ha:a < b) :
 callW tbl (.func E.I.heap [] []) [.sl id g 0 d.size,ii a,ii b,E.fv] (H.set id (E.blk g d))=some (.tuple [],H.set id (E.blk g (heapSort E.lt d a b))):=by
 refine callB (zul E.I E.ag E.sz) E.laid.heap rfl rfl (fun F hF=>?_)
 obtain ⟨m,hm⟩:∃ m,m=b - a:=⟨_,rfl⟩
 have w1:IntKind.i64.wrap ((b:Int) - (a:Int))=(m:Int):=wrapN (by omega) (by omega)
 have w2:IntKind.i64.wrap ((m:Int) - 1)=((m - 1:Nat):Int):=wrapN (by omega) (by omega)
 have w3:binA .quo .no (.int .i64 ((m - 1:Nat):Int)) (.int .i64 2)=some (.int .i64 (((m - 1) / 2:Nat):Int)):=by
  have:(((m - 1:Nat):Int).tdiv 2)=(((m - 1) / 2:Nat):Int):=by
   rw [Int.tdiv_eq_ediv_of_nonneg (by omega)]; rfl
  have w:=wrapN (n:=(m - 1) / 2) rfl (by omega)
  simp only [binA,intOp,this,w]
  simp
 simp [zul,zb61,w1]
 rw [w2,w3]
 simp
 have hD:heapPop E.lt a m (heapBuild E.lt m a ((m - 1) / 2 + 1) d)=heapSort E.lt d a b:=by unfold heapSort; rw [hm]
 generalize heapSort E.lt d a b=D at *
 generalize hn0:d.size=n at *
 have second:∀ (s:St) (d1:Array α),d1.size=n→heapPop E.lt a m d1=D→At E H id g d1 s [(0, .sl id g 0 n),(3,E.fv),(8,ii a),(9,ii 0),(12, .int .i64 ((m:Int) - 1))]→EXEC (callW tbl) loopW (.loop (zih E.I E.ag E.sz)) [.block 2] s (FINQ [] F):=by
  rintro s d1 h1 h2 h3
  refine zg (fun k s=>∃ (d1:Array α),k≤m∧d1.size=n∧heapPop E.lt a k d1=D∧At E H id g d1 s [(0, .sl id g 0 n),(3,E.fv),(8,ii a),(9,ii 0),(12, .int .i64 ((k:Int) - 1))]) m ⟨d1,Nat.le_refl _,h1,h2,h3⟩ ?_
  rintro k s B ⟨d,h0,h1,h2,e1,e2,f⟩ hgo hx
  simp only [z62,zh3,and_true] at f
  cases k with
  | zero=>
    have f12:s.tm.get 12=.int .i64 (-1):=f.2.2.2.2
    simp [zih,e1,e2,f.1,f.2.1,f.2.2.1,f12]
    refine hx _ _ (by simp) ?_
    simp
    exact hF _ _ (by rw [← h2]; exact ze (by simp))
  | succ k=>
    have f12:s.tm.get 12=.int .i64 (k:Int):=by rw [f.2.2.2.2]; congr 1; omega
    obtain ⟨ak,hak⟩:∃ x,x=a + k:=⟨_,rfl⟩
    have w4:IntKind.i64.wrap ((a:Int) + (k:Int))=(ak:Int):=wrapN (by omega) (by omega)
    have w5:IntKind.i64.wrap ((k:Int) - 1)=(k:Int) - 1:=z61 (by omega) (by omega)
    have z0:(0:Int)≤(k:Int):=by omega
    have z1:(0:Int)≤(ak:Int):=by omega
    have z2:(0:Int)≤(a:Int):=by omega
    have l1:a < n:=by omega
    have l2:ak < n:=by omega
    have hcall:=zcs E id g 0 k a H (swp d a ak) hid (by rw [zu1]; omega) (by rw [zu1]; omega) (by omega)
    rw [zu1,h1] at hcall
    unfold swp at hcall
    have hsw:∀ i j,(d.setIfInBounds i d[j]!).setIfInBounds j d[i]! = (d.setIfInBounds i (el d j)).setIfInBounds j (el d i):=fun _ _=>rfl
    rw [hsw] at hcall
    have f0:=f.1; have f3:=f.2.1; have f8:=f.2.2.1; have f9:=f.2.2.2.1
    simp [zih,e1,e2,f0,f3,f8,f9,f12,w4,w5,z0,z1,z2,l1,l2,hid,E.get',E.len,h1,E.ld,E.cells,E.rowok,E.put,E.set,hcall]
    refine hgo _ k (by omega) ⟨siftDown E.lt k a 0 (swp d a ak),by omega,by rw [zmh _ _ _ _ _ _ (Nat.le_refl _),zu1,h1],?_,rfl,rfl,by simp [Fr,f0,f3,f8,f9]⟩
    rw [← h2,hak]; rfl
 refine zg (fun k s=>∃ (d1:Array α),k≤(m - 1) / 2 + 1∧d1.size=n∧heapPop E.lt a m (heapBuild E.lt m a k d1)=D∧At E H id g d1 s [(0, .sl id g 0 n),(3,E.fv),(8,ii a),(9,ii 0),(10,ii m),(11, .int .i64 ((k:Int) - 1))]) ((m - 1) / 2 + 1) ⟨d,Nat.le_refl _,hn0,hD,rfl,rfl,by simp [Fr]⟩ ?_
 rintro k s B ⟨d,h0,h1,h2,e1,e2,f⟩ hgo hx
 simp only [z62,zh3,and_true] at f
 obtain ⟨f0,f3,f8,f9,f10,f11⟩:=f
 cases k with
 | zero=>
   have f11:s.tm.get 11=.int .i64 (-1):=f11
   have w5:IntKind.i64.wrap ((m:Int) - 1)=(m:Int) - 1:=z61 (by omega) (by omega)
   simp [ztl,e1,e2,f0,f3,f8,f9,f10,f11]
   refine hx _ _ (by simp) ?_
   simp [f10,w5]
   exact second _ d h1 h2 ⟨rfl,rfl,by simp [Fr,f0,f3,f8,f9]⟩
 | succ k=>
   have f11:s.tm.get 11=.int .i64 (k:Int):=by rw [f11]; congr 1; omega
   have w5:IntKind.i64.wrap ((k:Int) - 1)=(k:Int) - 1:=z61 (by omega) (by omega)
   have z0:(0:Int)≤(k:Int):=by omega
   have hcall:=zcs E id g k m a H d hid (by omega) (by omega) (by omega)
   rw [h1] at hcall
   simp [ztl,e1,e2,f0,f3,f8,f9,f10,f11,w5,z0,hcall]
   exact hgo _ k (by omega) ⟨siftDown E.lt m a k d,by omega,by rw [zmh _ _ _ _ _ _ (Nat.le_refl _),h1],h2,rfl,rfl,by simp [Fr,f0,f3,f8,f9,f10]⟩
end Go.Abs.Sort
set_option linter.unusedSectionVars false
namespace Go.Abs.Sort
open Go Go.Abs Go.Sort
variable {tbl:FuncId→Option AFun} {α:Type} [Inhabited α]
abbrev hp (E:Env tbl α) (H:Heap) (id g:Nat) (d:Array α) (sw:Nat):Heap:=H.set id (E.blk g d)++[.arr 0 1 [ii sw]]
abbrev swPtr (H:Heap):AV:=.ptr H.length 0 0 0
theorem zjq (E:Env tbl α) (id g a b sw:Nat) (H:Heap) (d:Array α) (hid:id < H.length) (ha:a < d.size) (hb:b < d.size) (hn:d.size < 2 ^ 60) (hsw:sw < 2 ^ 60) :
 callW tbl (.func E.I.ord [] []) [.sl id g 0 d.size,ii a,ii b,swPtr H,E.fv] (hp E H id g d sw)=some (.tuple [ii (order2 E.lt d a b sw).1,ii (order2 E.lt d a b sw).2.1],hp E H id g d (order2 E.lt d a b sw).2.2):=by
 refine callB (a_ord E.I E.ag E.sz) E.laid.ord rfl rfl (fun F hF=>?_)
 have z1:(0:Int)≤(a:Int):=by omega
 have z2:(0:Int)≤(b:Int):=by omega
 have hcall:=E.call (el d b) (el d a)
 have hb1:E.lt d[b]! d[a]! = decide (E.cmp (el d b) (el d a) < 0):=rfl
 have hw:IntKind.i64.wrap ((sw:Int) + 1)=((sw + 1:Nat):Int):=wrapN (by omega) (by omega)
 have hne:¬ H.length=id:=by omega
 have hid':id < H.length + 1:=by omega
 have hr:order2 E.lt d a b sw=if E.cmp (el d b) (el d a) < 0 then (b,a,sw + 1) else (a,b,sw):=by
  unfold order2; rw [hb1]; by_cases k:E.cmp (el d b) (el d a) < 0 <;> simp [k]
 rw [hr] at hF
 by_cases k:E.cmp (el d b) (el d a) < 0
 ·simp [a_ord,c_ord,z1,z2,hid,hid',ha,hb,E.get',E.len,E.ld,E.cells,hcall,k,hw,zz]
  refine hF _ _ ?_
  rw [show (a_ord E.I E.ag E.sz).frz=false from rfl,ze (by simp)]
  simp [k]
 ·simp [a_ord,c_ord,z1,z2,hid,hid',ha,hb,E.get',E.len,E.ld,E.cells,hcall,k]
  refine hF _ _ ?_
  rw [show (a_ord E.I E.ag E.sz).frz=false from rfl,ze rfl]
  simp [k]
theorem zne (lt:α→α→Bool) (d:Array α) (a b sw:Nat):(order2 lt d a b sw).2.2≤sw + 1:=by unfold order2; split <;> simp
theorem zkq (E:Env tbl α) (id g a b c sw:Nat) (H:Heap) (d:Array α) (hid:id < H.length) (ha:a < d.size) (hb:b < d.size) (hc:c < d.size) (hn:d.size < 2 ^ 60) (hsw:sw + 3 < 2 ^ 60) :
 callW tbl (.func E.I.med [] []) [.sl id g 0 d.size,ii a,ii b,ii c,swPtr H,E.fv] (hp E H id g d sw)=some (ii (median E.lt d a b c sw).1,hp E H id g d (median E.lt d a b c sw).2):=by
 refine callB (a_med E.I E.ag E.sz) E.laid.med rfl rfl (fun F hF=>?_)
 have h1:=zjq E id g a b sw H d hid ha hb hn (by omega)
 have m1:=order2_mem E.lt d a b sw
 have t1:=zne E.lt d a b sw
 have hm:median E.lt d a b c sw=((order2 E.lt d (order2 E.lt d a b sw).1 (order2 E.lt d (order2 E.lt d a b sw).2.1 c (order2 E.lt d a b sw).2.2).1 (order2 E.lt d (order2 E.lt d a b sw).2.1 c (order2 E.lt d a b sw).2.2).2.2).2.1,
  (order2 E.lt d (order2 E.lt d a b sw).1 (order2 E.lt d (order2 E.lt d a b sw).2.1 c (order2 E.lt d a b sw).2.2).1 (order2 E.lt d (order2 E.lt d a b sw).2.1 c (order2 E.lt d a b sw).2.2).2.2).2.2):=rfl
 rw [hm] at hF
 generalize order2 E.lt d a b sw=r1 at *
 have h2:=zjq E id g r1.2.1 c r1.2.2 H d hid (by omega) hc hn (by omega)
 have m2:=order2_mem E.lt d r1.2.1 c r1.2.2
 have t2:=zne E.lt d r1.2.1 c r1.2.2
 generalize order2 E.lt d r1.2.1 c r1.2.2=r2 at *
 have h3:=zjq E id g r1.1 r2.1 r2.2.2 H d hid (by omega) (by omega) hn (by omega)
 generalize order2 E.lt d r1.1 r2.1 r2.2.2=r3 at *
 simp [a_med,c_med,h1,h2,h3]
 exact hF _ _ (by rw [show (a_med E.I E.ag E.sz).frz=false from rfl,ze (by simp)])
theorem zzl (lt:α→α→Bool) (d:Array α) (a b c sw:Nat):(median lt d a b c sw).2≤sw + 3:=by
 have h1:=zne lt d a b sw
 have h2:=zne lt d (order2 lt d a b sw).2.1 c (order2 lt d a b sw).2.2
 have h3:=zne lt d (order2 lt d a b sw).1 (order2 lt d (order2 lt d a b sw).2.1 c (order2 lt d a b sw).2.2).1 (order2 lt d (order2 lt d a b sw).2.1 c (order2 lt d a b sw).2.2).2.2
 show (order2 lt d (order2 lt d a b sw).1 (order2 lt d (order2 lt d a b sw).2.1 c (order2 lt d a b sw).2.2).1 (order2 lt d (order2 lt d a b sw).2.1 c (order2 lt d a b sw).2.2).2.2).2.2≤_
 omega
theorem z0m (E:Env tbl α) (id g a sw:Nat) (H:Heap) (d:Array α) (hid:id < H.length) (ha0:0 < a) (ha:a + 1 < d.size) (hn:d.size < 2 ^ 60) (hsw:sw + 3 < 2 ^ 60) :
 callW tbl (.func E.I.madj [] []) [.sl id g 0 d.size,ii a,swPtr H,E.fv] (hp E H id g d sw)=some (ii (medianAdjacent E.lt d a sw).1,hp E H id g d (medianAdjacent E.lt d a sw).2):=by
 refine callB (zvj E.I E.ag E.sz) E.laid.madj rfl rfl (fun F hF=>?_)
 have h1:=zkq E id g (a - 1) a (a + 1) sw H d hid (by omega) (by omega) ha hn hsw
 have hm:medianAdjacent E.lt d a sw=median E.lt d (a - 1) a (a + 1) sw:=rfl
 rw [hm] at hF
 generalize median E.lt d (a - 1) a (a + 1) sw=r at *
 have w1:IntKind.i64.wrap ((a:Int) - 1)=((a - 1:Nat):Int):=wrapN (by omega) (by omega)
 have w2:IntKind.i64.wrap ((a:Int) + 1)=((a + 1:Nat):Int):=wrapN (by omega) (by omega)
 rw [show ii (a - 1)=.int .i64 (IntKind.i64.wrap ((a:Int) - 1)) by rw [w1],show ii (a + 1)=.int .i64 (IntKind.i64.wrap ((a:Int) + 1)) by rw [w2]] at h1
 simp [zvj,z961,h1]
 exact hF _ _ (by rw [show (zvj E.I E.ag E.sz).frz=false from rfl,ze (by simp)])
end Go.Abs.Sort
set_option linter.unusedSectionVars false
namespace Go.Abs.Sort
open Go Go.Abs Go.Sort
variable {tbl:FuncId→Option AFun} {α:Type} [Inhabited α]
def hintZ:Hint→Int
 | .unknown=>0
 | .increasing=>1
 | .decreasing=>2
def zds (sw:Nat):Hint:=if sw=0 then .increasing else if sw=12 then .decreasing else .unknown
theorem quoN {x:Nat} {y:Nat} (hx:x < 2 ^ 62):binA .quo .no (.int .i64 (x:Int)) (.int .i64 ((y + 1:Nat):Int))=some (.int .i64 ((x / (y + 1):Nat):Int)):=by
 have e:((x:Int).tdiv ((y + 1:Nat):Int))=((x / (y + 1):Nat):Int):=by rw [Int.tdiv_eq_ediv_of_nonneg (by omega)]; rfl
 have h0:¬ (((y + 1:Nat):Int)=0):=by omega
 have hle:x / (y + 1)≤x:=Nat.div_le_self _ _
 have w:=wrapN (n:=x / (y + 1)) rfl (by omega)
 simp only [binA,intOp,h0,if_false,e,w]
 simp
theorem zx8 {H:Heap} {B:Blk} {x y:Int} {n:Nat} (h:HOK H) (hn:n=H.length):zj false n (.tuple [.int .i64 x, .int .i64 y]) (H++[B])=(.tuple [.int .i64 x, .int .i64 y],H):=zhc h hn rfl
theorem E_hok (E:Env tbl α) {H:Heap} (hH:HOK H) (id g:Nat) (d:Array α):HOK (H.set id (E.blk g d)):=by
 refine hH.set (z31 _ ?_)
 unfold Env.rws
 induction d.toList with
 | nil=>rfl
 | cons a l ih=>simp [ih,E.plain a]
theorem zj41 (E:Env tbl α) (id g a b:Nat) (H:Heap) (d:Array α) (hH:HOK H) (hid:id < H.length) (hn:d.size < 2 ^ 60) (hb:b≤d.size) (ha:a < b) :
 callW tbl (.func E.I.piv [] []) [.sl id g 0 d.size,ii a,ii b,E.fv] (H.set id (E.blk g d))=some (.tuple [ii (choosePivot E.lt d a b).1, .int .i64 (hintZ (choosePivot E.lt d a b).2)],H.set id (E.blk g d)):=by
 refine callB (a_piv E.I E.ag E.sz) E.laid.piv rfl rfl (fun F hF=>?_)
 have hok:=E_hok E hH id g d
 obtain ⟨l,hl⟩:∃ x,x=b - a:=⟨_,rfl⟩
 obtain ⟨q,hq⟩:∃ x,x=l / 4:=⟨_,rfl⟩
 obtain ⟨i,hi⟩:∃ x,x=a + q * 1:=⟨_,rfl⟩
 obtain ⟨q2,hq2⟩:∃ x,x=q * 2:=⟨_,rfl⟩
 obtain ⟨j,hj⟩:∃ x,x=a + q2:=⟨_,rfl⟩
 obtain ⟨q3,hq3⟩:∃ x,x=q * 3:=⟨_,rfl⟩
 obtain ⟨k,hk⟩:∃ x,x=a + q3:=⟨_,rfl⟩
 have w1:IntKind.i64.wrap ((b:Int) - (a:Int))=(l:Int):=wrapN (by omega) (by omega)
 have w2:binA .quo .no (.int .i64 (l:Int)) (.int .i64 4)=some (.int .i64 (q:Int)):=by rw [hq]; exact quoN (y:=3) (by omega)
 have w3:IntKind.i64.wrap ((q:Int))=(q:Int):=wrapN (by omega) (by omega)
 have w4:IntKind.i64.wrap ((a:Int) + (q:Int))=(i:Int):=wrapN (by omega) (by omega)
 have w5:IntKind.i64.wrap ((q:Int) * 2)=(q2:Int):=wrapN (by omega) (by omega)
 have w6:IntKind.i64.wrap ((a:Int) + (q2:Int))=(j:Int):=wrapN (by omega) (by omega)
 have w7:IntKind.i64.wrap ((q:Int) * 3)=(q3:Int):=wrapN (by omega) (by omega)
 have w8:IntKind.i64.wrap ((a:Int) + (q3:Int))=(k:Int):=wrapN (by omega) (by omega)
 have hfold:choosePivot E.lt d a b=(fun r:Nat×Nat=>(r.1,zds r.2)) (if l≥8 then (if l≥50 then
  median E.lt d (medianAdjacent E.lt d i 0).1 (medianAdjacent E.lt d j (medianAdjacent E.lt d i 0).2).1 (medianAdjacent E.lt d k (medianAdjacent E.lt d j (medianAdjacent E.lt d i 0).2).2).1 (medianAdjacent E.lt d k (medianAdjacent E.lt d j (medianAdjacent E.lt d i 0).2).2).2
  else median E.lt d i j k 0) else (j,0)):=by
  rw [hi,hj,hk,hq2,hq3,hq,hl]
  unfold choosePivot zds
  rfl
 by_cases c8:8≤l
 ·have c8i:(8:Int)≤(l:Int):=by omega
  rw [if_pos c8] at hfold
  by_cases c50:50≤l
  ·have c50i:(50:Int)≤(l:Int):=by omega
   rw [if_pos c50] at hfold
   have h1:callW tbl (.func E.I.madj [] []) [.sl id g 0 d.size,ii i,swPtr H,E.fv] (H.set id (E.blk g d)++[.arr 0 1 [.int .i64 0]])=_:=z0m E id g i 0 H d hid (by omega) (by omega) hn (by omega)
   have m1:=medianAdjacent_mem E.lt d i 0
   have t1:=zzl E.lt d (i - 1) i (i + 1) 0
   rw [show median E.lt d (i - 1) i (i + 1) 0=medianAdjacent E.lt d i 0 from rfl] at t1
   generalize medianAdjacent E.lt d i 0=r1 at *
   have b1:r1.1 < d.size:=by omega
   clear m1
   have h2:=z0m E id g j r1.2 H d hid (by omega) (by omega) hn (by omega)
   have m2:=medianAdjacent_mem E.lt d j r1.2
   have t2:=zzl E.lt d (j - 1) j (j + 1) r1.2
   rw [show median E.lt d (j - 1) j (j + 1) r1.2=medianAdjacent E.lt d j r1.2 from rfl] at t2
   generalize medianAdjacent E.lt d j r1.2=r2 at *
   have b2:r2.1 < d.size:=by omega
   clear m2
   have h3:=z0m E id g k r2.2 H d hid (by omega) (by omega) hn (by omega)
   have m3:=medianAdjacent_mem E.lt d k r2.2
   have t3:=zzl E.lt d (k - 1) k (k + 1) r2.2
   rw [show median E.lt d (k - 1) k (k + 1) r2.2=medianAdjacent E.lt d k r2.2 from rfl] at t3
   generalize medianAdjacent E.lt d k r2.2=r3 at *
   have b3:r3.1 < d.size:=by omega
   clear m3
   have h4:=zkq E id g r1.1 r2.1 r3.1 r3.2 H d hid b1 b2 b3 hn (by omega)
   generalize median E.lt d r1.1 r2.1 r3.1 r3.2=r at *
   have hR:(choosePivot E.lt d a b).2=if r.2=0 then .increasing else if r.2=12 then .decreasing else .unknown:=by simp only [hfold,zds]
   have hR1:(choosePivot E.lt d a b).1=r.1:=by simp only [hfold]
   rw [hR1] at hF
   by_cases k0:r.2=0
   ·simp [a_piv,c_piv,w1,w2,w3,w4,w5,w6,w7,w8,c8i,c50i,h1,h2,h3,h4,hid,k0]
    refine hF _ _ ?_
    rw [hR,if_pos k0]
    exact zx8 hok (by simp)
   ·by_cases k12:r.2=12
    ·simp [a_piv,c_piv,w1,w2,w3,w4,w5,w6,w7,w8,c8i,c50i,h1,h2,h3,h4,hid,k12]
     refine hF _ _ ?_
     rw [hR,if_neg k0,if_pos k12]
     exact zx8 hok (by simp)
    ·have k12i:¬ ((r.2:Nat):Int)=12:=by omega
     simp [a_piv,c_piv,w1,w2,w3,w4,w5,w6,w7,w8,c8i,c50i,h1,h2,h3,h4,hid,k0,k12,k12i]
     refine hF _ _ ?_
     rw [hR,if_neg k0,if_neg k12]
     exact zx8 hok (by simp)
  ·have c50i:¬ (50:Int)≤(l:Int):=by omega
   rw [if_neg c50] at hfold
   have h4:callW tbl (.func E.I.med [] []) [.sl id g 0 d.size,ii i,ii j,ii k,swPtr H,E.fv] (H.set id (E.blk g d)++[.arr 0 1 [.int .i64 0]])=_:=zkq E id g i j k 0 H d hid (by omega) (by omega) (by omega) hn (by omega)
   generalize median E.lt d i j k 0=r at *
   have hR:(choosePivot E.lt d a b).2=if r.2=0 then .increasing else if r.2=12 then .decreasing else .unknown:=by simp only [hfold,zds]
   have hR1:(choosePivot E.lt d a b).1=r.1:=by simp only [hfold]
   rw [hR1] at hF
   by_cases k0:r.2=0
   ·simp [a_piv,c_piv,w1,w2,w3,w4,w5,w6,w7,w8,c8i,c50i,h4,hid,k0]
    refine hF _ _ ?_
    rw [hR,if_pos k0]
    exact zx8 hok (by simp)
   ·by_cases k12:r.2=12
    ·simp [a_piv,c_piv,w1,w2,w3,w4,w5,w6,w7,w8,c8i,c50i,h4,hid,k12]
     refine hF _ _ ?_
     rw [hR,if_neg k0,if_pos k12]
     exact zx8 hok (by simp)
    ·have k12i:¬ ((r.2:Nat):Int)=12:=by omega
     simp [a_piv,c_piv,w1,w2,w3,w4,w5,w6,w7,w8,c8i,c50i,h4,hid,k0,k12,k12i]
     refine hF _ _ ?_
     rw [hR,if_neg k0,if_neg k12]
     exact zx8 hok (by simp)
 ·have c8i:¬ (8:Int)≤(l:Int):=by omega
  rw [if_neg c8] at hfold
  have hR:(choosePivot E.lt d a b).2=.increasing:=by simp only [hfold,zds,if_true]
  have hR1:(choosePivot E.lt d a b).1=j:=by simp only [hfold]
  rw [hR1] at hF
  simp [a_piv,c_piv,w1,w2,w3,w4,w5,w6,w7,w8,c8i]
  refine hF _ _ ?_
  rw [hR]
  exact zx8 hok (by simp)
end Go.Abs.Sort
set_option linter.unusedSectionVars false
namespace Go.Abs.Sort
open Go Go.Abs Go.Sort
variable {tbl:FuncId→Option AFun} {α:Type} [Inhabited α]
theorem zk41 (E:Env tbl α) (id g n a:Nat) (H:Heap) (hid:id < H.length) (hn:n < 2 ^ 60) (d:Array α) (hd:d.size=n) (ha:a < n) (j:Nat) (hj:j < n) (ks:List KF) (R:AExit→St→Prop) (Z:Nat)
 (hexit:∀ s':St,At E H id g d s' [(0, .sl id g 0 n),(1,ii a),(4,E.fv),(12,ii (Z)),(13,ii (j))]→KONT (callW tbl) loopW ks (.exit 0) s' R)
 (i:Nat) (s:St) (hi:i < 2 ^ 60) (hZ:scanUp (fun x=>E.lt x d[a]!) d j i=Z) (h4:At E H id g d s [(0, .sl id g 0 n),(1,ii a),(4,E.fv),(12,ii (i)),(13,ii (j))]) :
 EXEC (callW tbl) loopW (.loop (zje E.I E.ag E.sz)) ks s R:=by
 refine zg (fun k s=>∃ i:Nat,k=j + 1 - i∧i < 2 ^ 60∧scanUp (fun x=>E.lt x d[a]!) d j i=Z∧At E H id g d s [(0, .sl id g 0 n),(1,ii a),(4,E.fv),(12,ii (i)),(13,ii (j))]) (j + 1 - i) ⟨i,rfl,hi,hZ,h4⟩ ?_
 rintro k s B ⟨i,h0,h1,h3,e1,e2,f⟩ hgo hx
 simp only [z62,zh3,and_true] at f
 rw [scanUp] at h3
 by_cases hc:i≤j
 ·have hci:(i:Int)≤(j:Int):=by omega
  have hw:IntKind.i64.wrap ((i:Int) + 1)=((i + 1:Nat):Int):=wrapN (by omega) (by omega)
  have z1:(0:Int)≤(i:Int):=by omega
  have z2:(0:Int)≤(a:Int):=by omega
  have hin:i < n:=by omega
  have hcall:=E.call (el d i) (el d a)
  have b1:E.lt d[i]! d[a]! = decide (E.cmp (el d i) (el d a) < 0):=rfl
  by_cases hl:E.cmp (el d i) (el d a) < 0
  ·rw [if_pos (by simp [hc,b1,hl])] at h3
   simp [zje,e1,e2,f,hci,z1,z2,hid,hin,ha,hd,E.get',hcall,E.len,E.ld,E.cells,hl]
   rw [hw]
   exact hgo _ (j + 1 - (i + 1)) (by omega) ⟨i + 1,rfl,by omega,h3,rfl,rfl,by simp [Fr,f]⟩
  ·rw [if_neg (by simp [b1,hl])] at h3
   simp [zje,e1,e2,f,hci,z1,z2,hid,hin,ha,hd,E.get',hcall,E.len,E.ld,E.cells,hl]
   exact hx _ _ (by simp) (hexit _ ⟨rfl,rfl,by simp [Fr,f,h3]⟩)
 ·have hci:¬ (i:Int)≤(j:Int):=by omega
  rw [if_neg (by simp [hc])] at h3
  simp [zje,e1,e2,f,hci]
  exact hx _ _ (by simp) (hexit _ ⟨rfl,rfl,by simp [Fr,f,h3]⟩)
theorem zl41 (E:Env tbl α) (id g n a:Nat) (H:Heap) (hid:id < H.length) (hn:n < 2 ^ 60) (d:Array α) (hd:d.size=n) (ha:a < n) (i:Nat) (hi:0 < i) (ks:List KF) (R:AExit→St→Prop) (Z:Nat)
 (hexit:∀ s':St,At E H id g d s' [(0, .sl id g 0 n),(1,ii a),(4,E.fv),(12,ii (i)),(13,ii (Z))]→KONT (callW tbl) loopW ks (.exit 2) s' R)
 (j:Nat) (s:St) (hj:j < n) (hZ:scanDown (fun x => !E.lt x d[a]!) d i j=Z) (h4:At E H id g d s [(0, .sl id g 0 n),(1,ii a),(4,E.fv),(12,ii (i)),(13,ii (j))]) :
 EXEC (callW tbl) loopW (.loop (zke E.I E.ag E.sz)) ks s R:=by
 refine zg (fun j s=>j < n∧scanDown (fun x => !E.lt x d[a]!) d i j=Z∧At E H id g d s [(0, .sl id g 0 n),(1,ii a),(4,E.fv),(12,ii (i)),(13,ii (j))]) j ⟨hj,hZ,h4⟩ ?_
 rintro j s B ⟨h1,h3,e1,e2,f⟩ hgo hx
 simp only [z62,zh3,and_true] at f
 by_cases hc:i≤j
 ·obtain ⟨p,hp⟩:∃ p,j=p + 1:=⟨j - 1,by omega⟩
  have hsd:scanDown (fun x => !E.lt x d[a]!) d i j=if i≤j && (fun x => !E.lt x d[a]!) d[j]! then scanDown (fun x => !E.lt x d[a]!) d i p else j:=by rw [hp]; rfl
  rw [hsd] at h3
  have hci:(i:Int)≤(j:Int):=by omega
  have hw:IntKind.i64.wrap ((j:Int) - 1)=(p:Int):=wrapN (by omega) (by omega)
  have z1:(0:Int)≤(j:Int):=by omega
  have z2:(0:Int)≤(a:Int):=by omega
  have hcall:=E.call (el d j) (el d a)
  have b1:E.lt d[j]! d[a]! = decide (E.cmp (el d j) (el d a) < 0):=rfl
  by_cases hl:E.cmp (el d j) (el d a) < 0
  ·rw [if_neg (by simp [b1,hl])] at h3
   simp [zke,e1,e2,f,hci,z1,z2,hid,h1,ha,hd,E.get',hcall,E.len,E.ld,E.cells,hl]
   exact hx _ _ (by simp) (hexit _ ⟨rfl,rfl,by simp [Fr,f,h3]⟩)
  ·rw [if_pos (by simp [hc,b1,hl])] at h3
   simp [zke,e1,e2,f,hci,z1,z2,hid,h1,ha,hd,E.get',hcall,E.len,E.ld,E.cells,hl]
   rw [hw]
   exact hgo _ p (by omega) ⟨by omega,h3,rfl,rfl,by simp [Fr,f]⟩
 ·have hci:¬ (i:Int)≤(j:Int):=by omega
  have hz:j=Z:=by
   rw [← h3]
   cases j with
   | zero=>rfl
   | succ p=>simp [scanDown,hc]
  simp [zke,e1,e2,f,hci]
  exact hx _ _ (by simp) (hexit _ ⟨rfl,rfl,by simp [Fr,f,hz]⟩)
theorem zm41 (E:Env tbl α) (id g n a:Nat) (H:Heap) (hid:id < H.length) (hn:n < 2 ^ 60) (d:Array α) (hd:d.size=n) (ha:a < n) (j:Nat) (hj:j < n) (ks:List KF) (R:AExit→St→Prop) (Z:Nat)
 (hexit:∀ s':St,At E H id g d s' [(0, .sl id g 0 n),(1,ii a),(4,E.fv),(12,ii (Z)),(13,ii (j))]→KONT (callW tbl) loopW ks (.exit 6) s' R)
 (i:Nat) (s:St) (hi:i < 2 ^ 60) (hZ:scanUp (fun x=>E.lt x d[a]!) d j i=Z) (h4:At E H id g d s [(0, .sl id g 0 n),(1,ii a),(4,E.fv),(12,ii (i)),(13,ii (j))]) :
 EXEC (callW tbl) loopW (.loop (zle E.I E.ag E.sz)) ks s R:=by
 refine zg (fun k s=>∃ i:Nat,k=j + 1 - i∧i < 2 ^ 60∧scanUp (fun x=>E.lt x d[a]!) d j i=Z∧At E H id g d s [(0, .sl id g 0 n),(1,ii a),(4,E.fv),(12,ii (i)),(13,ii (j))]) (j + 1 - i) ⟨i,rfl,hi,hZ,h4⟩ ?_
 rintro k s B ⟨i,h0,h1,h3,e1,e2,f⟩ hgo hx
 simp only [z62,zh3,and_true] at f
 rw [scanUp] at h3
 by_cases hc:i≤j
 ·have hci:(i:Int)≤(j:Int):=by omega
  have hw:IntKind.i64.wrap ((i:Int) + 1)=((i + 1:Nat):Int):=wrapN (by omega) (by omega)
  have z1:(0:Int)≤(i:Int):=by omega
  have z2:(0:Int)≤(a:Int):=by omega
  have hin:i < n:=by omega
  have hcall:=E.call (el d i) (el d a)
  have b1:E.lt d[i]! d[a]! = decide (E.cmp (el d i) (el d a) < 0):=rfl
  by_cases hl:E.cmp (el d i) (el d a) < 0
  ·rw [if_pos (by simp [hc,b1,hl])] at h3
   simp [zle,e1,e2,f,hci,z1,z2,hid,hin,ha,hd,E.get',hcall,E.len,E.ld,E.cells,hl]
   rw [hw]
   exact hgo _ (j + 1 - (i + 1)) (by omega) ⟨i + 1,rfl,by omega,h3,rfl,rfl,by simp [Fr,f]⟩
  ·rw [if_neg (by simp [b1,hl])] at h3
   simp [zle,e1,e2,f,hci,z1,z2,hid,hin,ha,hd,E.get',hcall,E.len,E.ld,E.cells,hl]
   exact hx _ _ (by simp) (hexit _ ⟨rfl,rfl,by simp [Fr,f,h3]⟩)
 ·have hci:¬ (i:Int)≤(j:Int):=by omega
  rw [if_neg (by simp [hc])] at h3
  simp [zle,e1,e2,f,hci]
  exact hx _ _ (by simp) (hexit _ ⟨rfl,rfl,by simp [Fr,f,h3]⟩)
theorem zn41 (E:Env tbl α) (id g n a:Nat) (H:Heap) (hid:id < H.length) (hn:n < 2 ^ 60) (d:Array α) (hd:d.size=n) (ha:a < n) (i:Nat) (hi:0 < i) (ks:List KF) (R:AExit→St→Prop) (Z:Nat)
 (hexit:∀ s':St,At E H id g d s' [(0, .sl id g 0 n),(1,ii a),(4,E.fv),(12,ii (i)),(13,ii (Z))]→KONT (callW tbl) loopW ks (.exit 8) s' R)
 (j:Nat) (s:St) (hj:j < n) (hZ:scanDown (fun x => !E.lt x d[a]!) d i j=Z) (h4:At E H id g d s [(0, .sl id g 0 n),(1,ii a),(4,E.fv),(12,ii (i)),(13,ii (j))]) :
 EXEC (callW tbl) loopW (.loop (zme E.I E.ag E.sz)) ks s R:=by
 refine zg (fun j s=>j < n∧scanDown (fun x => !E.lt x d[a]!) d i j=Z∧At E H id g d s [(0, .sl id g 0 n),(1,ii a),(4,E.fv),(12,ii (i)),(13,ii (j))]) j ⟨hj,hZ,h4⟩ ?_
 rintro j s B ⟨h1,h3,e1,e2,f⟩ hgo hx
 simp only [z62,zh3,and_true] at f
 by_cases hc:i≤j
 ·obtain ⟨p,hp⟩:∃ p,j=p + 1:=⟨j - 1,by omega⟩
  have hsd:scanDown (fun x => !E.lt x d[a]!) d i j=if i≤j && (fun x => !E.lt x d[a]!) d[j]! then scanDown (fun x => !E.lt x d[a]!) d i p else j:=by rw [hp]; rfl
  rw [hsd] at h3
  have hci:(i:Int)≤(j:Int):=by omega
  have hw:IntKind.i64.wrap ((j:Int) - 1)=(p:Int):=wrapN (by omega) (by omega)
  have z1:(0:Int)≤(j:Int):=by omega
  have z2:(0:Int)≤(a:Int):=by omega
  have hcall:=E.call (el d j) (el d a)
  have b1:E.lt d[j]! d[a]! = decide (E.cmp (el d j) (el d a) < 0):=rfl
  by_cases hl:E.cmp (el d j) (el d a) < 0
  ·rw [if_neg (by simp [b1,hl])] at h3
   simp [zme,e1,e2,f,hci,z1,z2,hid,h1,ha,hd,E.get',hcall,E.len,E.ld,E.cells,hl]
   exact hx _ _ (by simp) (hexit _ ⟨rfl,rfl,by simp [Fr,f,h3]⟩)
  ·rw [if_pos (by simp [hc,b1,hl])] at h3
   simp [zme,e1,e2,f,hci,z1,z2,hid,h1,ha,hd,E.get',hcall,E.len,E.ld,E.cells,hl]
   rw [hw]
   exact hgo _ p (by omega) ⟨by omega,h3,rfl,rfl,by simp [Fr,f]⟩
 ·have hci:¬ (i:Int)≤(j:Int):=by omega
  have hz:j=Z:=by
   rw [← h3]
   cases j with
   | zero=>rfl
   | succ p=>simp [scanDown,hc]
  simp [zme,e1,e2,f,hci]
  exact hx _ _ (by simp) (hexit _ ⟨rfl,rfl,by simp [Fr,f,hz]⟩)
theorem zh71 (E:Env tbl α) (id g n a:Nat) (H:Heap) (hid:id < H.length) (hn:n < 2 ^ 60) (d:Array α) (hd:d.size=n) (ha:a < n) (j:Nat) (hj:j < n) (ks:List KF) (R:AExit→St→Prop) (Z:Nat)
 (hexit:∀ s':St,At E H id g d s' [(0, .sl id g 0 n),(1,ii a),(4,E.fv),(11,ii (Z)),(12,ii (j))]→KONT (callW tbl) loopW ks (.exit 2) s' R)
 (i:Nat) (s:St) (hi:i < 2 ^ 60) (hZ:scanUp (fun x => !E.lt d[a]! x) d j i=Z) (h4:At E H id g d s [(0, .sl id g 0 n),(1,ii a),(4,E.fv),(11,ii (i)),(12,ii (j))]) :
 EXEC (callW tbl) loopW (.loop (zjh E.I E.ag E.sz)) ks s R:=by
 refine zg (fun k s=>∃ i:Nat,k=j + 1 - i∧i < 2 ^ 60∧scanUp (fun x => !E.lt d[a]! x) d j i=Z∧At E H id g d s [(0, .sl id g 0 n),(1,ii a),(4,E.fv),(11,ii (i)),(12,ii (j))]) (j + 1 - i) ⟨i,rfl,hi,hZ,h4⟩ ?_
 rintro k s B ⟨i,h0,h1,h3,e1,e2,f⟩ hgo hx
 simp only [z62,zh3,and_true] at f
 rw [scanUp] at h3
 by_cases hc:i≤j
 ·have hci:(i:Int)≤(j:Int):=by omega
  have hw:IntKind.i64.wrap ((i:Int) + 1)=((i + 1:Nat):Int):=wrapN (by omega) (by omega)
  have z1:(0:Int)≤(i:Int):=by omega
  have z2:(0:Int)≤(a:Int):=by omega
  have hin:i < n:=by omega
  have hcall:=E.call (el d a) (el d i)
  have b1:E.lt d[a]! d[i]! = decide (E.cmp (el d a) (el d i) < 0):=rfl
  by_cases hl:E.cmp (el d a) (el d i) < 0
  ·rw [if_neg (by simp [b1,hl])] at h3
   simp [zjh,e1,e2,f,hci,z1,z2,hid,hin,ha,hd,E.get',hcall,E.len,E.ld,E.cells,hl]
   exact hx _ _ (by simp) (hexit _ ⟨rfl,rfl,by simp [Fr,f,h3]⟩)
  ·rw [if_pos (by simp [hc,b1,hl])] at h3
   simp [zjh,e1,e2,f,hci,z1,z2,hid,hin,ha,hd,E.get',hcall,E.len,E.ld,E.cells,hl]
   rw [hw]
   exact hgo _ (j + 1 - (i + 1)) (by omega) ⟨i + 1,rfl,by omega,h3,rfl,rfl,by simp [Fr,f]⟩
 ·have hci:¬ (i:Int)≤(j:Int):=by omega
  rw [if_neg (by simp [hc])] at h3
  simp [zjh,e1,e2,f,hci]
  exact hx _ _ (by simp) (hexit _ ⟨rfl,rfl,by simp [Fr,f,h3]⟩)
theorem zi71 (E:Env tbl α) (id g n a:Nat) (H:Heap) (hid:id < H.length) (hn:n < 2 ^ 60) (d:Array α) (hd:d.size=n) (ha:a < n) (i:Nat) (hi:0 < i) (ks:List KF) (R:AExit→St→Prop) (Z:Nat)
 (hexit:∀ s':St,At E H id g d s' [(0, .sl id g 0 n),(1,ii a),(4,E.fv),(11,ii (i)),(12,ii (Z))]→KONT (callW tbl) loopW ks (.exit 4) s' R)
 (j:Nat) (s:St) (hj:j < n) (hZ:scanDown (fun x=>E.lt d[a]! x) d i j=Z) (h4:At E H id g d s [(0, .sl id g 0 n),(1,ii a),(4,E.fv),(11,ii (i)),(12,ii (j))]) :
 EXEC (callW tbl) loopW (.loop (zkh E.I E.ag E.sz)) ks s R:=by
 refine zg (fun j s=>j < n∧scanDown (fun x=>E.lt d[a]! x) d i j=Z∧At E H id g d s [(0, .sl id g 0 n),(1,ii a),(4,E.fv),(11,ii (i)),(12,ii (j))]) j ⟨hj,hZ,h4⟩ ?_
 rintro j s B ⟨h1,h3,e1,e2,f⟩ hgo hx
 simp only [z62,zh3,and_true] at f
 by_cases hc:i≤j
 ·obtain ⟨p,hp⟩:∃ p,j=p + 1:=⟨j - 1,by omega⟩
  have hsd:scanDown (fun x=>E.lt d[a]! x) d i j=if i≤j && (fun x=>E.lt d[a]! x) d[j]! then scanDown (fun x=>E.lt d[a]! x) d i p else j:=by rw [hp]; rfl
  rw [hsd] at h3
  have hci:(i:Int)≤(j:Int):=by omega
  have hw:IntKind.i64.wrap ((j:Int) - 1)=(p:Int):=wrapN (by omega) (by omega)
  have z1:(0:Int)≤(j:Int):=by omega
  have z2:(0:Int)≤(a:Int):=by omega
  have hcall:=E.call (el d a) (el d j)
  have b1:E.lt d[a]! d[j]! = decide (E.cmp (el d a) (el d j) < 0):=rfl
  by_cases hl:E.cmp (el d a) (el d j) < 0
  ·rw [if_pos (by simp [hc,b1,hl])] at h3
   simp [zkh,e1,e2,f,hci,z1,z2,hid,h1,ha,hd,E.get',hcall,E.len,E.ld,E.cells,hl]
   rw [hw]
   exact hgo _ p (by omega) ⟨by omega,h3,rfl,rfl,by simp [Fr,f]⟩
  ·rw [if_neg (by simp [b1,hl])] at h3
   simp [zkh,e1,e2,f,hci,z1,z2,hid,h1,ha,hd,E.get',hcall,E.len,E.ld,E.cells,hl]
   exact hx _ _ (by simp) (hexit _ ⟨rfl,rfl,by simp [Fr,f,h3]⟩)
 ·have hci:¬ (i:Int)≤(j:Int):=by omega
  have hz:j=Z:=by
   rw [← h3]
   cases j with
   | zero=>rfl
   | succ p=>simp [scanDown,hc]
  simp [zkh,e1,e2,f,hci]
  exact hx _ _ (by simp) (hexit _ ⟨rfl,rfl,by simp [Fr,f,hz]⟩)
end Go.Abs.Sort
set_option linter.unusedSectionVars false
namespace Go.Abs.Sort
open Go Go.Abs Go.Sort
variable {tbl:FuncId→Option AFun} {α:Type} [Inhabited α]
theorem zgy (E:Env tbl α) (id g n a:Nat) (H:Heap) (hid:id < H.length) (hn:n < 2 ^ 60) (ha:a < n) (ks:List KF) (R:AExit→St→Prop) (Z:Nat×Array α)
 (hexit:∀ s':St,Z.1 < n→Z.2.size=n→At E H id g Z.2 s' [(0, .sl id g 0 n),(1,ii a),(4,E.fv),(13,ii Z.1)]→KONT (callW tbl) loopW ks (.exit 4) s' R)
 (i j:Nat) (d:Array α) (s:St) (hd:d.size=n) (hi0:0 < i) (hi:i < 2 ^ 60) (hj:j < n) (hZ:partLoop E.lt a i j d=Z) (h4:At E H id g d s [(0, .sl id g 0 n),(1,ii a),(4,E.fv),(12,ii i),(13,ii j)]) :
 EXEC (callW tbl) loopW (.loop (zxl E.I E.ag E.sz)) ks s R:=by
 refine zg (fun k s=>∃ (i j:Nat) (d:Array α),k=j + 1 - i∧d.size=n∧0 < i∧i < 2 ^ 60∧j < n∧partLoop E.lt a i j d=Z∧At E H id g d s [(0, .sl id g 0 n),(1,ii a),(4,E.fv),(12,ii i),(13,ii j)]) (j + 1 - i) ⟨i,j,d,rfl,hd,hi0,hi,hj,hZ,h4⟩ ?_
 rintro k s B ⟨i,j,d,h0,hd,hi0,hi,hj,hZ,h4⟩ hgo hx
 rw [partLoop_eq] at hZ
 have g1:=scanUp_ge (fun x=>E.lt x d[a]!) d j i
 generalize hi2:scanUp (fun x=>E.lt x d[a]!) d j i=i2 at *
 have g2:=scanDown_le (fun x => !E.lt x d[a]!) d i2 j
 generalize hj2:scanDown (fun x => !E.lt x d[a]!) d i2 j=j2 at *
 simp [zxl]
 refine zm41 E id g n a H hid hn d hd ha j hj _ _ i2 ?_ i _ hi hi2 h4
 intro s1 h5
 simp
 refine zn41 E id g n a H hid hn d hd ha i2 (by omega) _ _ j2 ?_ j _ hj hj2 h5
 rintro s2 ⟨e1,e2,f⟩
 simp only [z62,zh3,and_true] at f
 by_cases hc:i2 > j2
 ·have hci:(j2:Int) < (i2:Int):=by omega
  rw [if_pos hc] at hZ
  simp [e1,e2,f,hci]
  exact hx _ _ (by simp) (hexit _ (by rw [← hZ]; show j2 < n; omega) (by rw [← hZ]; exact hd) (by rw [← hZ]; exact ⟨rfl,rfl,by simp [Fr,f]⟩))
 ·have hci:¬ (j2:Int) < (i2:Int):=by omega
  rw [if_neg hc] at hZ
  have z1:(0:Int)≤(i2:Int):=by omega
  have z2:(0:Int)≤(j2:Int):=by omega
  have l1:i2 < n:=by omega
  have l2:j2 < n:=by omega
  have w1:IntKind.i64.wrap ((i2:Int) + 1)=((i2 + 1:Nat):Int):=wrapN (by omega) (by omega)
  have w2:IntKind.i64.wrap ((j2:Int) - 1)=((j2 - 1:Nat):Int):=wrapN (by omega) (by omega)
  simp [e1,e2,f,hci,z1,z2,l1,l2,hid,hd,E.get',E.len,E.ld,E.cells,E.rowok,E.put,E.set]
  rw [w1,w2]
  exact hgo _ (j2 - 1 + 1 - (i2 + 1)) (by omega) ⟨i2 + 1,j2 - 1,swp d i2 j2,rfl,by rw [zu1,hd],by omega,by omega,by omega,hZ,rfl,rfl,by simp [Fr,f]⟩
theorem z011 (E:Env tbl α) (id g a b pivot:Nat) (H:Heap) (d:Array α) (hid:id < H.length) (hn:d.size < 2 ^ 60) (hb:b≤d.size) (ha:a < b) (hp:pivot < d.size) :
 callW tbl (.func E.I.part [] []) [.sl id g 0 d.size,ii a,ii b,ii pivot,E.fv] (H.set id (E.blk g d))=some (.tuple [ii (partition E.lt d a b pivot).1, .bool (partition E.lt d a b pivot).2.1],H.set id (E.blk g (partition E.lt d a b pivot).2.2)):=by
 refine callB (zyl E.I E.ag E.sz) E.laid.part rfl rfl (fun F hF=>?_)
 generalize hn0:d.size=n at *
 have z1:(0:Int)≤(a:Int):=by omega
 have z2:(0:Int)≤(pivot:Int):=by omega
 have l1:a < n:=by omega
 have w1:IntKind.i64.wrap ((a:Int) + 1)=((a + 1:Nat):Int):=wrapN (by omega) (by omega)
 have w2:IntKind.i64.wrap ((b:Int) - 1)=((b - 1:Nat):Int):=wrapN (by omega) (by omega)
 simp [zyl,zd61,z1,z2,l1,hp,hn0,hid,E.get',E.len,E.ld,E.cells,E.rowok,E.put,E.set]
 rw [w1,w2]
 obtain ⟨d1,hd1⟩:∃ x,x=swp d a pivot:=⟨_,rfl⟩
 have hs1:d1.size=n:=by rw [hd1,zu1,hn0]
 have hP:partition E.lt d a b pivot=(if scanUp (fun x=>E.lt x d1[a]!) d1 (b - 1) (a + 1) > scanDown (fun x => !E.lt x d1[a]!) d1 (scanUp (fun x=>E.lt x d1[a]!) d1 (b - 1) (a + 1)) (b - 1) then
  (scanDown (fun x => !E.lt x d1[a]!) d1 (scanUp (fun x=>E.lt x d1[a]!) d1 (b - 1) (a + 1)) (b - 1),true,swp d1 (scanDown (fun x => !E.lt x d1[a]!) d1 (scanUp (fun x=>E.lt x d1[a]!) d1 (b - 1) (a + 1)) (b - 1)) a) else
  ((partLoop E.lt a (scanUp (fun x=>E.lt x d1[a]!) d1 (b - 1) (a + 1) + 1) (scanDown (fun x => !E.lt x d1[a]!) d1 (scanUp (fun x=>E.lt x d1[a]!) d1 (b - 1) (a + 1)) (b - 1) - 1) (swp d1 (scanUp (fun x=>E.lt x d1[a]!) d1 (b - 1) (a + 1)) (scanDown (fun x => !E.lt x d1[a]!) d1 (scanUp (fun x=>E.lt x d1[a]!) d1 (b - 1) (a + 1)) (b - 1)))).1,false,
   swp (partLoop E.lt a (scanUp (fun x=>E.lt x d1[a]!) d1 (b - 1) (a + 1) + 1) (scanDown (fun x => !E.lt x d1[a]!) d1 (scanUp (fun x=>E.lt x d1[a]!) d1 (b - 1) (a + 1)) (b - 1) - 1) (swp d1 (scanUp (fun x=>E.lt x d1[a]!) d1 (b - 1) (a + 1)) (scanDown (fun x => !E.lt x d1[a]!) d1 (scanUp (fun x=>E.lt x d1[a]!) d1 (b - 1) (a + 1)) (b - 1)))).2
    (partLoop E.lt a (scanUp (fun x=>E.lt x d1[a]!) d1 (b - 1) (a + 1) + 1) (scanDown (fun x => !E.lt x d1[a]!) d1 (scanUp (fun x=>E.lt x d1[a]!) d1 (b - 1) (a + 1)) (b - 1) - 1) (swp d1 (scanUp (fun x=>E.lt x d1[a]!) d1 (b - 1) (a + 1)) (scanDown (fun x => !E.lt x d1[a]!) d1 (scanUp (fun x=>E.lt x d1[a]!) d1 (b - 1) (a + 1)) (b - 1)))).1 a)):=by
  rw [hd1]; rfl
 have g1:=scanUp_ge (fun x=>E.lt x d1[a]!) d1 (b - 1) (a + 1)
 generalize hi2:scanUp (fun x=>E.lt x d1[a]!) d1 (b - 1) (a + 1)=i2 at *
 have g2:=scanDown_le (fun x => !E.lt x d1[a]!) d1 i2 (b - 1)
 generalize hj2:scanDown (fun x => !E.lt x d1[a]!) d1 i2 (b - 1)=j2 at *
 refine zk41 E id g n a H hid hn d1 hs1 l1 (b - 1) (by omega) _ _ i2 ?_ (a + 1) _ (by omega) hi2 ⟨by rw [hd1]; rfl,rfl,by simp [Fr]⟩
 intro s1 h5
 simp
 refine zl41 E id g n a H hid hn d1 hs1 l1 i2 (by omega) _ _ j2 ?_ (b - 1) _ (by omega) hj2 h5
 rintro s2 ⟨e1,e2,f⟩
 simp only [z62,zh3,and_true] at f
 have z4:(0:Int)≤(j2:Int):=by omega
 have l4:j2 < n:=by omega
 by_cases hc:i2 > j2
 ·have hci:(j2:Int) < (i2:Int):=by omega
  rw [if_pos hc] at hP
  simp [e1,e2,f,hci,z1,z4,l1,l4,hid,hs1,E.get',E.len,E.ld,E.cells,E.rowok,E.put,E.set]
  refine hF _ _ ?_
  rw [hP]
  exact ze (by simp)
 ·have hci:¬ (j2:Int) < (i2:Int):=by omega
  rw [if_neg hc] at hP
  have z3:(0:Int)≤(i2:Int):=by omega
  have l3:i2 < n:=by omega
  have w3:IntKind.i64.wrap ((i2:Int) + 1)=((i2 + 1:Nat):Int):=wrapN (by omega) (by omega)
  have w4:IntKind.i64.wrap ((j2:Int) - 1)=((j2 - 1:Nat):Int):=wrapN (by omega) (by omega)
  simp [e1,e2,f,hci,z1,z3,z4,l1,l3,l4,hid,hs1,E.get',E.len,E.ld,E.cells,E.rowok,E.put,E.set]
  rw [w3,w4]
  refine zgy E id g n a H hid hn l1 _ _ _ ?_ (i2 + 1) (j2 - 1) (swp d1 i2 j2) _ (by rw [zu1,hs1]) (by omega) (by omega) (by omega) rfl ⟨rfl,rfl,by simp [Fr,f]⟩
  generalize partLoop E.lt a (i2 + 1) (j2 - 1) (swp d1 i2 j2)=Z at *
  rintro s3 q1 q2 ⟨e1,e2,f⟩
  simp only [z62,zh3,and_true] at f
  have z5:(0:Int)≤(Z.1:Int):=by omega
  simp [e1,e2,f,z1,z5,l1,q1,q2,hid,E.get',E.len,E.ld,E.cells,E.rowok,E.put,E.set]
  refine hF _ _ ?_
  rw [hP]
  exact ze (by simp)
theorem z111 (E:Env tbl α) (id g n a:Nat) (H:Heap) (hid:id < H.length) (hn:n < 2 ^ 60) (ha:a < n) (ks:List KF) (R:AExit→St→Prop) (Z:Nat×Array α)
 (hexit:∀ s':St,At E H id g Z.2 s' [(0, .sl id g 0 n),(1,ii a),(4,E.fv),(11,ii Z.1)]→KONT (callW tbl) loopW ks (.exit 0) s' R)
 (i j:Nat) (d:Array α) (s:St) (hd:d.size=n) (hi0:0 < i) (hi:i < 2 ^ 60) (hj:j < n) (hZ:partEqLoop E.lt a i j d=Z) (h4:At E H id g d s [(0, .sl id g 0 n),(1,ii a),(4,E.fv),(11,ii i),(12,ii j)]) :
 EXEC (callW tbl) loopW (.loop (ziq E.I E.ag E.sz)) ks s R:=by
 refine zg (fun k s=>∃ (i j:Nat) (d:Array α),k=j + 1 - i∧d.size=n∧0 < i∧i < 2 ^ 60∧j < n∧partEqLoop E.lt a i j d=Z∧At E H id g d s [(0, .sl id g 0 n),(1,ii a),(4,E.fv),(11,ii i),(12,ii j)]) (j + 1 - i) ⟨i,j,d,rfl,hd,hi0,hi,hj,hZ,h4⟩ ?_
 rintro k s B ⟨i,j,d,h0,hd,hi0,hi,hj,hZ,h4⟩ hgo hx
 rw [partEqLoop_eq] at hZ
 have g1:=scanUp_ge (fun x => !E.lt d[a]! x) d j i
 generalize hi2:scanUp (fun x => !E.lt d[a]! x) d j i=i2 at *
 have g2:=scanDown_le (fun x=>E.lt d[a]! x) d i2 j
 generalize hj2:scanDown (fun x=>E.lt d[a]! x) d i2 j=j2 at *
 simp [ziq]
 refine zh71 E id g n a H hid hn d hd ha j hj _ _ i2 ?_ i _ hi hi2 h4
 intro s1 h5
 simp
 refine zi71 E id g n a H hid hn d hd ha i2 (by omega) _ _ j2 ?_ j _ hj hj2 h5
 rintro s2 ⟨e1,e2,f⟩
 simp only [z62,zh3,and_true] at f
 by_cases hc:i2 > j2
 ·have hci:(j2:Int) < (i2:Int):=by omega
  rw [if_pos hc] at hZ
  simp [e1,e2,f,hci]
  exact hx _ _ (by simp) (hexit _ (by rw [← hZ]; exact ⟨rfl,rfl,by simp [Fr,f]⟩))
 ·have hci:¬ (j2:Int) < (i2:Int):=by omega
  rw [if_neg hc] at hZ
  have z1:(0:Int)≤(i2:Int):=by omega
  have z2:(0:Int)≤(j2:Int):=by omega
  have l1:i2 < n:=by omega
  have l2:j2 < n:=by omega
  have w1:IntKind.i64.wrap ((i2:Int) + 1)=((i2 + 1:Nat):Int):=wrapN (by omega) (by omega)
  have w2:IntKind.i64.wrap ((j2:Int) - 1)=((j2 - 1:Nat):Int):=wrapN (by omega) (by omega)
  simp [e1,e2,f,hci,z1,z2,l1,l2,hid,hd,E.get',E.len,E.ld,E.cells,E.rowok,E.put,E.set]
  rw [w1,w2]
  exact hgo _ (j2 - 1 + 1 - (i2 + 1)) (by omega) ⟨i2 + 1,j2 - 1,swp d i2 j2,rfl,by rw [zu1,hd],by omega,by omega,by omega,hZ,rfl,rfl,by simp [Fr,f]⟩
theorem zo41 (E:Env tbl α) (id g a b pivot:Nat) (H:Heap) (d:Array α) (hid:id < H.length) (hn:d.size < 2 ^ 60) (hb:b≤d.size) (ha:a < b) (hp:pivot < d.size) :
 callW tbl (.func E.I.peq [] []) [.sl id g 0 d.size,ii a,ii b,ii pivot,E.fv] (H.set id (E.blk g d))=some (ii (partitionEqual E.lt d a b pivot).1,H.set id (E.blk g (partitionEqual E.lt d a b pivot).2)):=by
 refine callB (a_peq E.I E.ag E.sz) E.laid.peq rfl rfl (fun F hF=>?_)
 generalize hn0:d.size=n at *
 have z1:(0:Int)≤(a:Int):=by omega
 have z2:(0:Int)≤(pivot:Int):=by omega
 have l1:a < n:=by omega
 have w1:IntKind.i64.wrap ((a:Int) + 1)=((a + 1:Nat):Int):=wrapN (by omega) (by omega)
 have w2:IntKind.i64.wrap ((b:Int) - 1)=((b - 1:Nat):Int):=wrapN (by omega) (by omega)
 simp [a_peq,c_peq,z1,z2,l1,hp,hn0,hid,E.get',E.len,E.ld,E.cells,E.rowok,E.put,E.set]
 rw [w1,w2]
 have hP:partitionEqual E.lt d a b pivot=partEqLoop E.lt a (a + 1) (b - 1) (swp d a pivot):=rfl
 rw [hP] at hF
 refine z111 E id g n a H hid hn l1 _ _ _ ?_ (a + 1) (b - 1) (swp d a pivot) _ (by rw [zu1,hn0]) (by omega) (by omega) (by omega) rfl ⟨rfl,rfl,by simp [Fr]⟩
 generalize partEqLoop E.lt a (a + 1) (b - 1) (swp d a pivot)=Z at *
 rintro s3 ⟨e1,e2,f⟩
 simp only [z62,zh3,and_true] at f
 simp [e1,e2,f]
 exact hF _ _ (ze (by simp))
end Go.Abs.Sort
set_option linter.unusedSectionVars false
namespace Go.Abs.Sort
open Go Go.Abs Go.Sort
variable {tbl:FuncId→Option AFun} {α:Type} [Inhabited α]
theorem zxn (lt:α→α→Bool) (d:Array α) (b:Nat):∀ (k i:Nat),b - i≤k→i≤scanSorted lt d b i∧scanSorted lt d b i≤max i b:=by
 intro k
 induction k with
 | zero=>
   intro i hk
   rw [scanSorted,if_neg (by simp; omega)]; omega
 | succ k ih=>
   intro i hk
   rw [scanSorted]
   split
   ·rename_i h
    have hib:i < b:=by simp at h; exact h.1
    have:=ih (i + 1) (by omega)
    omega
   ·omega
theorem ztf (lt:α→α→Bool):∀ (j:Nat) (d:Array α),(shiftDown lt j d).size=d.size
 | 0,d=>rfl
 | j + 1,d=>by
   simp only [shiftDown]
   split
   ·rfl
   ·rw [ztf lt j,zu1]
theorem zwj (lt:α→α→Bool) (b:Nat):∀ (k j:Nat) (d:Array α),b - j≤k→(shiftUp lt b j d).size=d.size:=by
 intro k
 induction k with
 | zero=>
   intro j d hk
   rw [shiftUp,if_neg (by omega)]
 | succ k ih=>
   intro j d hk
   rw [shiftUp]
   split
   ·split
    ·rfl
    ·rw [ih _ _ (by omega),zu1]
   ·rfl
theorem z211 (E:Env tbl α) (id g n a b t:Nat) (H:Heap) (hid:id < H.length) (hn:n < 2 ^ 60) (d:Array α) (hd:d.size=n) (hb:b≤n) (ks:List KF) (R:AExit→St→Prop) (Z:Nat)
 (hexit:∀ s':St,At E H id g d s' [(0, .sl id g 0 n),(1,ii a),(2,ii b),(3,E.fv),(9,ii Z),(10,ii t)]→KONT (callW tbl) loopW ks (.exit 2) s' R)
 (i:Nat) (s:St) (hi0:0 < i) (hi:i < 2 ^ 60) (hZ:scanSorted E.lt d b i=Z) (h4:At E H id g d s [(0, .sl id g 0 n),(1,ii a),(2,ii b),(3,E.fv),(9,ii i),(10,ii t)]) :
 EXEC (callW tbl) loopW (.loop (zhe E.I E.ag E.sz)) ks s R:=by
 refine zg (fun k s=>∃ i:Nat,k=b - i∧0 < i∧i < 2 ^ 60∧scanSorted E.lt d b i=Z∧At E H id g d s [(0, .sl id g 0 n),(1,ii a),(2,ii b),(3,E.fv),(9,ii i),(10,ii t)]) (b - i) ⟨i,rfl,hi0,hi,hZ,h4⟩ ?_
 rintro k s B ⟨i,h0,hi0,h1,h3,e1,e2,f⟩ hgo hx
 simp only [z62,zh3,and_true] at f
 rw [scanSorted] at h3
 by_cases hc:i < b
 ·obtain ⟨p,hp⟩:∃ p,i=p + 1:=⟨i - 1,by omega⟩
  have hci:(i:Int) < (b:Int):=by omega
  have hw:IntKind.i64.wrap ((i:Int) + 1)=((i + 1:Nat):Int):=wrapN (by omega) (by omega)
  have hw2:IntKind.i64.wrap ((i:Int) - 1)=(p:Int):=wrapN (by omega) (by omega)
  have z1:(0:Int)≤(i:Int):=by omega
  have z2:(0:Int)≤(p:Int):=by omega
  have hin:i < n:=by omega
  have hpn:p < n:=by omega
  have hcall:=E.call (el d i) (el d p)
  have b1:E.lt d[i]! d[i - 1]! = decide (E.cmp (el d i) (el d p) < 0):=by rw [show i - 1=p by omega]; rfl
  by_cases hl:E.cmp (el d i) (el d p) < 0
  ·rw [if_neg (by rw [b1]; simp [hl])] at h3
   simp [zhe,e1,e2,f,hci,hw2,z1,z2,hid,hin,hpn,hd,E.get',hcall,E.len,E.ld,E.cells,hl]
   exact hx _ _ (by simp) (hexit _ ⟨rfl,rfl,by simp [Fr,f,h3]⟩)
  ·rw [if_pos (by rw [b1]; simp [hl,hc])] at h3
   simp [zhe,e1,e2,f,hci,hw2,z1,z2,hid,hin,hpn,hd,E.get',hcall,E.len,E.ld,E.cells,hl]
   rw [hw]
   exact hgo _ (b - (i + 1)) (by omega) ⟨i + 1,rfl,by omega,by omega,h3,rfl,rfl,by simp [Fr,f]⟩
 ·have hci:¬ (i:Int) < (b:Int):=by omega
  rw [if_neg (by simp [hc])] at h3
  simp [zhe,e1,e2,f,hci]
  exact hx _ _ (by simp) (hexit _ ⟨rfl,rfl,by simp [Fr,f,h3]⟩)
theorem z311 (E:Env tbl α) (id g n a b t i:Nat) (H:Heap) (hid:id < H.length) (hn:n < 2 ^ 60) (ks:List KF) (R:AExit→St→Prop) (D:Array α)
 (hexit:∀ s':St,At E H id g D s' [(0, .sl id g 0 n),(1,ii a),(2,ii b),(3,E.fv),(9,ii i),(10,ii t)]→KONT (callW tbl) loopW ks (.exit 4) s' R)
 (j:Nat) (d:Array α) (s:St) (h1:d.size=n) (h2:j < n) (h3:shiftDown E.lt j d=D) (h4:At E H id g d s [(0, .sl id g 0 n),(1,ii a),(2,ii b),(3,E.fv),(9,ii i),(10,ii t),(11,ii j)]) :
 EXEC (callW tbl) loopW (.loop (zie E.I E.ag E.sz)) ks s R:=by
 refine zg (fun j s=>∃ d:Array α,d.size=n∧j < n∧shiftDown E.lt j d=D∧At E H id g d s [(0, .sl id g 0 n),(1,ii a),(2,ii b),(3,E.fv),(9,ii i),(10,ii t),(11,ii j)]) j ⟨d,h1,h2,h3,h4⟩ ?_
 rintro j s B ⟨d,h1,h2,h3,e1,e2,f⟩ hgo hx
 simp only [z62,zh3,and_true] at f
 by_cases hc:1≤j
 ·obtain ⟨p,hp⟩:∃ p,j=p + 1:=⟨j - 1,by omega⟩
  have hci:(1:Int)≤(j:Int):=by omega
  have hw:IntKind.i64.wrap ((j:Int) - 1)=(p:Int):=wrapN (by omega) (by omega)
  have hj0:(0:Int)≤(j:Int):=by omega
  have hp0:(0:Int)≤(p:Int):=by omega
  have hpn:p < n:=by omega
  have hcall:=E.call (el d j) (el d p)
  by_cases hl:E.cmp (el d j) (el d p) < 0
  ·have hins:shiftDown E.lt p (swp d j p)=D:=by
    rw [← h3,hp]
    have:E.lt d[p + 1]! d[p]! = true:=by rw [← hp]; exact decide_eq_true hl
    simp [shiftDown,this]
   simp [zie,e1,e2,f,hci,hw,hj0,hp0,hid,E.get',hcall,E.len,h1,h2,hpn,E.ld,E.cells,hl,E.rowok,E.put,E.set]
   exact hgo _ p (by omega) ⟨swp d j p,by simp [zu1,h1],hpn,hins,rfl,rfl,by simp [Fr,f]⟩
  ·have hins:d=D:=by
    rw [← h3,hp]
    have:E.lt d[p + 1]! d[p]! = false:=by rw [← hp]; exact decide_eq_false hl
    simp [shiftDown,this]
   simp [zie,e1,e2,f,hci,hw,hj0,hp0,hid,E.get',hcall,E.len,h1,h2,hpn,E.ld,E.cells,hl]
   exact hx _ _ (by simp) (hexit _ ⟨by rw [hins],rfl,by simp [Fr,f]⟩)
 ·have hci:¬ (1:Int)≤(j:Int):=by omega
  have hins:d=D:=by
   rw [← h3,show j=0 by omega]; rfl
  simp [zie,e1,e2,f,hci]
  exact hx _ _ (by simp) (hexit _ ⟨by rw [hins],rfl,by simp [Fr,f]⟩)
theorem z411 (E:Env tbl α) (id g n a b t i:Nat) (H:Heap) (hid:id < H.length) (hn:n < 2 ^ 60) (hb:b≤n) (ks:List KF) (R:AExit→St→Prop) (D:Array α)
 (hexit:∀ s':St,At E H id g D s' [(0, .sl id g 0 n),(1,ii a),(2,ii b),(3,E.fv),(9,ii i),(10,ii t)]→KONT (callW tbl) loopW ks (.exit 6) s' R)
 (j:Nat) (d:Array α) (s:St) (h1:d.size=n) (hj0:0 < j) (h2:j < 2 ^ 60) (h3:shiftUp E.lt b j d=D) (h4:At E H id g d s [(0, .sl id g 0 n),(1,ii a),(2,ii b),(3,E.fv),(9,ii i),(10,ii t),(12,ii j)]) :
 EXEC (callW tbl) loopW (.loop (zic E.I E.ag E.sz)) ks s R:=by
 refine zg (fun k s=>∃ (j:Nat) (d:Array α),k=b - j∧d.size=n∧0 < j∧j < 2 ^ 60∧shiftUp E.lt b j d=D∧At E H id g d s [(0, .sl id g 0 n),(1,ii a),(2,ii b),(3,E.fv),(9,ii i),(10,ii t),(12,ii j)]) (b - j) ⟨j,d,rfl,h1,hj0,h2,h3,h4⟩ ?_
 rintro k s B ⟨j,d,h0,h1,hj0,h2,h3,e1,e2,f⟩ hgo hx
 simp only [z62,zh3,and_true] at f
 rw [shiftUp] at h3
 by_cases hc:j < b
 ·obtain ⟨p,hp⟩:∃ p,j=p + 1:=⟨j - 1,by omega⟩
  rw [if_pos hc,show j - 1=p by omega] at h3
  have hci:(j:Int) < (b:Int):=by omega
  have hw:IntKind.i64.wrap ((j:Int) - 1)=(p:Int):=wrapN (by omega) (by omega)
  have hw2:IntKind.i64.wrap ((j:Int) + 1)=((j + 1:Nat):Int):=wrapN (by omega) (by omega)
  have z0:(0:Int)≤(j:Int):=by omega
  have hp0:(0:Int)≤(p:Int):=by omega
  have hpn:p < n:=by omega
  have hjn:j < n:=by omega
  have hcall:=E.call (el d j) (el d p)
  have b1:E.lt d[j]! d[p]! = decide (E.cmp (el d j) (el d p) < 0):=rfl
  by_cases hl:E.cmp (el d j) (el d p) < 0
  ·rw [if_neg (by simp [b1,hl])] at h3
   simp [zic,e1,e2,f,hci,hw,z0,hp0,hid,E.get',hcall,E.len,h1,hjn,hpn,E.ld,E.cells,hl,E.rowok,E.put,E.set]
   rw [hw2]
   exact hgo _ (b - (j + 1)) (by omega) ⟨j + 1,swp d j p,rfl,by simp [zu1,h1],by omega,by omega,h3,rfl,rfl,by simp [Fr,f]⟩
  ·rw [if_pos (by simp [b1,hl])] at h3
   simp [zic,e1,e2,f,hci,hw,z0,hp0,hid,E.get',hcall,E.len,h1,hjn,hpn,E.ld,E.cells,hl]
   exact hx _ _ (by simp) (hexit _ ⟨by rw [h3],rfl,by simp [Fr,f]⟩)
 ·have hci:¬ (j:Int) < (b:Int):=by omega
  rw [if_neg hc] at h3
  simp [zic,e1,e2,f,hci]
  exact hx _ _ (by simp) (hexit _ ⟨by rw [h3],rfl,by simp [Fr,f]⟩)
theorem z511 (E:Env tbl α) (id g a b:Nat) (H:Heap) (d:Array α) (hid:id < H.length) (hn:d.size < 2 ^ 60) (hb:b≤d.size) (ha:a < b) :
 callW tbl (.func E.I.pins [] []) [.sl id g 0 d.size,ii a,ii b,E.fv] (H.set id (E.blk g d))=some (.bool (partialInsertionSort E.lt d a b).2,H.set id (E.blk g (partialInsertionSort E.lt d a b).1)):=by
 refine callB (zwl E.I E.ag E.sz) E.laid.pins rfl rfl (fun F hF=>?_)
 generalize hn0:d.size=n at *
 have w1:IntKind.i64.wrap ((a:Int) + 1)=((a + 1:Nat):Int):=wrapN (by omega) (by omega)
 simp [zwl,zc61]
 rw [w1]
 have hZ0:partialIns E.lt a b 5 (a + 1) d=partialInsertionSort E.lt d a b:=rfl
 generalize partialInsertionSort E.lt d a b=Z at *
 refine zg (fun k s=>∃ (t i:Nat) (d:Array α),t + k=5∧d.size=n∧a < i∧i≤b∧partialIns E.lt a b k i d=Z∧At E H id g d s [(0, .sl id g 0 n),(1,ii a),(2,ii b),(3,E.fv),(9,ii i),(10,ii t)]) 5 ⟨0,a + 1,d,by omega,hn0,by omega,by omega,hZ0,rfl,rfl,by simp [Fr]⟩ ?_
 rintro k s B ⟨t,i,d,h0,hd,hi0,hi,h3,e1,e2,f⟩ hgo hx
 simp only [z62,zh3,and_true] at f
 cases k with
 | zero=>
   have hti:¬ (t:Int) < 5:=by omega
   simp [zvl,e1,e2,f,hti]
   refine hx _ _ (by simp) ?_
   simp
   exact hF _ _ (by rw [← h3]; exact ze (by simp))
 | succ k=>
   have hti:(t:Int) < 5:=by omega
   have hwt:IntKind.i64.wrap ((t:Int) + 1)=((t + 1:Nat):Int):=wrapN (by omega) (by omega)
   rw [partialIns_succ] at h3
   have g1:=zxn E.lt d b _ i (Nat.le_refl _)
   simp [zvl,e1,e2,f,hti]
   refine z211 E id g n a b t H hid hn d hd hb _ _ (scanSorted E.lt d b i) ?_ i _ (by omega) (by omega) rfl ⟨rfl,rfl,by simp [Fr,f]⟩
   generalize scanSorted E.lt d b i=i2 at *
   rintro s1 ⟨e1,e2,f⟩
   simp only [z62,zh3,and_true] at f
   by_cases c1:i2=b
   ·rw [if_pos c1] at h3
    have c1i:(i2:Int)=(b:Int):=by omega
    simp [e1,e2,f,c1i]
    refine hx _ _ (by simp) ?_
    simp
    exact hF _ _ (by rw [← h3]; exact ze (by simp))
   ·rw [if_neg c1] at h3
    have c1i:¬ (i2:Int)=(b:Int):=by omega
    obtain ⟨m,hm⟩:∃ m,m=b - a:=⟨_,rfl⟩
    have w2:IntKind.i64.wrap ((b:Int) - (a:Int))=(m:Int):=wrapN (by omega) (by omega)
    by_cases c2:b - a < 50
    ·have c2i:(m:Int) < 50:=by omega
     rw [if_pos c2] at h3
     simp [e1,e2,f,c1i,w2,c2i]
     refine hx _ _ (by simp) ?_
     simp
     exact hF _ _ (by rw [← h3]; exact ze (by simp))
    ·have c2i:¬ (m:Int) < 50:=by omega
     rw [if_neg c2] at h3
     unfold fixUp fixDown at h3
     obtain ⟨p,hp⟩:∃ p,p=i2 - 1:=⟨_,rfl⟩
     rw [← hp] at h3
     obtain ⟨u,hu⟩:∃ u,u=i2 - a:=⟨_,rfl⟩
     obtain ⟨v,hv⟩:∃ v,v=b - i2:=⟨_,rfl⟩
     have w3:IntKind.i64.wrap ((i2:Int) - 1)=(p:Int):=wrapN (by omega) (by omega)
     have w4:IntKind.i64.wrap ((i2:Int) - (a:Int))=(u:Int):=wrapN (by omega) (by omega)
     have w5:IntKind.i64.wrap ((b:Int) - (i2:Int))=(v:Int):=wrapN (by omega) (by omega)
     have w6:IntKind.i64.wrap ((i2:Int) + 1)=((i2 + 1:Nat):Int):=wrapN (by omega) (by omega)
     have z1:(0:Int)≤(i2:Int):=by omega
     have z2:(0:Int)≤(p:Int):=by omega
     have l1:i2 < n:=by omega
     have l2:p < n:=by omega
     have last:∀ (s:St) (d2:Array α),d2.size=n→partialIns E.lt a b k i2 (if b - i2≥2 then shiftUp E.lt b (i2 + 1) d2 else d2)=Z→At E H id g d2 s [(0, .sl id g 0 n),(1,ii a),(2,ii b),(3,E.fv),(9,ii i2),(10,ii t)] →
      EXEC (callW tbl) loopW (.seq (.region [mV 101 2,mV 102 9,uu 103 (.bin .sub .no (tt 101) (tt 102)),kk 104 (.bin .geq .no (tt 103) (.const (.int .i64 2)))])
       (.cond (tt 104) (.seq (.region [mV 105 9,uu 106 (.bin .add .no (tt 105) (.const (.int .i64 1))),kM 12 106]) (.block 6 (.loop (zic E.I E.ag E.sz)))) .skip))
       [.block 1, .seq (.region [mV 17 10,uu 18 (.bin .add .no (tt 17) (.const (.int .i64 1))),kM 10 18])] s B:=by
      rintro s d2 q1 q2 ⟨e1,e2,f⟩
      simp only [z62,zh3,and_true] at f
      by_cases c4:2≤v
      ·have c4i:(2:Int)≤(v:Int):=by omega
       rw [if_pos (by omega)] at q2
       simp [e1,e2,f,w5,c4i]
       rw [w6]
       refine z411 E id g n a b t i2 H hid hn hb _ _ _ ?_ (i2 + 1) d2 _ q1 (by omega) (by omega) rfl ⟨rfl,rfl,by simp [Fr,f]⟩
       rintro s3 ⟨e1,e2,f⟩
       simp only [z62,zh3,and_true] at f
       simp [e1,e2,f]
       rw [hwt]
       exact hgo _ k (by omega) ⟨t + 1,i2,_,by omega,by rw [zwj _ _ _ _ _ (Nat.le_refl _),q1],by omega,by omega,q2,rfl,rfl,by simp [Fr,f]⟩
      ·have c4i:¬ (2:Int)≤(v:Int):=by omega
       rw [if_neg (by omega)] at q2
       simp [e1,e2,f,w5,c4i]
       rw [hwt]
       exact hgo _ k (by omega) ⟨t + 1,i2,d2,by omega,q1,by omega,by omega,q2,rfl,rfl,by simp [Fr,f]⟩
     by_cases c3:2≤u
     ·have c3i:(2:Int)≤(u:Int):=by omega
      rw [if_pos (show i2 - a≥2 by omega)] at h3
      simp [e1,e2,f,c1i,w2,c2i,w3,w4,z1,z2,l1,l2,c3i,hid,hd,E.get',E.len,E.ld,E.cells,E.rowok,E.put,E.set]
      refine z311 E id g n a b t i2 H hid hn _ _ _ ?_ p (swp d i2 p) _ (by rw [zu1,hd]) l2 rfl ⟨rfl,rfl,by simp [Fr,f]⟩
      intro s3 h5
      simp only [zol,zpl,if_true]
      exact last s3 _ (by rw [ztf,zu1,hd]) h3 h5
     ·have c3i:¬ (2:Int)≤(u:Int):=by omega
      rw [if_neg (show ¬ i2 - a≥2 by omega)] at h3
      by_cases c4:2≤v
      ·have c4i:(2:Int)≤(v:Int):=by omega
       rw [if_pos (show b - i2≥2 by omega)] at h3
       simp [e1,e2,f,c1i,w2,c2i,w3,w4,z1,z2,l1,l2,c3i,w5,c4i,hid,hd,E.get',E.len,E.ld,E.cells,E.rowok,E.put,E.set]
       rw [w6]
       refine z411 E id g n a b t i2 H hid hn hb _ _ _ ?_ (i2 + 1) (swp d i2 p) _ (by rw [zu1,hd]) (by omega) (by omega) rfl ⟨rfl,rfl,by simp [Fr,f]⟩
       rintro s3 ⟨e1,e2,f⟩
       simp only [z62,zh3,and_true] at f
       simp [e1,e2,f]
       rw [hwt]
       exact hgo _ k (by omega) ⟨t + 1,i2,_,by omega,by rw [zwj _ _ _ _ _ (Nat.le_refl _),zu1,hd],by omega,by omega,h3,rfl,rfl,by simp [Fr,f]⟩
      ·have c4i:¬ (2:Int)≤(v:Int):=by omega
       rw [if_neg (show ¬ b - i2≥2 by omega)] at h3
       simp [e1,e2,f,c1i,w2,c2i,w3,w4,z1,z2,l1,l2,c3i,w5,c4i,hid,hd,E.get',E.len,E.ld,E.cells,E.rowok,E.put,E.set]
       rw [hwt]
       exact hgo _ k (by omega) ⟨t + 1,i2,swp d i2 p,by omega,by rw [zu1,hd],by omega,by omega,h3,rfl,rfl,by simp [Fr,f]⟩
end Go.Abs.Sort
set_option linter.unusedSectionVars false
namespace Go.Abs.Sort
open Go Go.Abs Go.Sort
variable {tbl:FuncId→Option AFun} {α:Type} [Inhabited α]
theorem wrapU {x:Int} {n:Nat} (h:x=(n:Int)) (hn:n < 2 ^ 64):IntKind.u64.wrap x=(n:Int):=by
 subst h
 simp [IntKind.wrap,IntKind.bits,IntKind.signed]
 omega
theorem wrapB {n:Nat} (hn:n < 256):IntKind.u8.wrap (n:Int)=(n:Int):=by
 simp [IntKind.wrap,IntKind.bits,IntKind.signed]
 omega
theorem shrU {B j:Nat} (hj:j < 64) (k:IntKind):binA .shr .no (.int .u64 (B:Int)) (.int k (j:Int))=some (.int .u64 ((B / 2 ^ j:Nat):Int)):=by
 have h0:¬ ((j:Int) < 0):=by omega
 have e:min j 64=j:=by omega
 have hf:((B:Int).fdiv (2 ^ j))=((B / 2 ^ j:Nat):Int):=by
  rw [Int.fdiv_eq_ediv_of_nonneg _ (Int.pow_nonneg (by decide))]; simp
 simp only [binA,h0,if_false,Int.toNat_natCast,IntKind.bits,e,hf]
theorem z45 {x k:Nat} (h:2 ^ k≤x):bitsLen x=k + bitsLen (x / 2 ^ k):=by
 have key:∀ m,bitsLen x≤m↔k + bitsLen (x / 2 ^ k)≤m:=by
  intro m
  rw [bitsLen_le_iff]
  by_cases hm:k≤m
  ·obtain ⟨j,rfl⟩:∃ j,m=k + j:=⟨m - k,by omega⟩
   rw [Nat.add_le_add_iff_left,bitsLen_le_iff,Nat.div_lt_iff_lt_mul (Nat.two_pow_pos k),Nat.pow_add,Nat.mul_comm]
  ·have h2:2 ^ m≤2 ^ k:=Nat.pow_le_pow_right (by decide) (by omega)
   constructor
   ·intro hx; omega
   ·intro hx; omega
 exact Nat.le_antisymm ((key _).2 (Nat.le_refl _)) ((key _).1 (Nat.le_refl _))
def ze61:ByteArray:=⟨#[0,1,2,2,3,3,3,3,4,4,4,4,4,4,4,4,5,5,5,5,5,5,5,5,5,5,5,5,5,5,5,5,6,6,6,6,6,6,6,6,6,6,6,6,6,6,6,6,6,6,6,6,6,6,6,6,6,6,6,6,6,6,6,6,7,7,7,7,7,7,7,7,7,7,7,7,7,7,7,7,7,7,7,7,7,7,7,7,7,7,7,7,7,7,7,7,7,7,7,7,7,7,7,7,7,7,7,7,7,7,7,7,7,7,7,7,7,7,7,7,7,7,7,7,7,7,7,7,8,8,8,8,8,8,8,8,8,8,8,8,8,8,8,8,8,8,8,8,8,8,8,8,8,8,8,8,8,8,8,8,8,8,8,8,8,8,8,8,8,8,8,8,8,8,8,8,8,8,8,8,8,8,8,8,8,8,8,8,8,8,8,8,8,8,8,8,8,8,8,8,8,8,8,8,8,8,8,8,8,8,8,8,8,8,8,8,8,8,8,8,8,8,8,8,8,8,8,8,8,8,8,8,8,8,8,8,8,8,8,8,8,8,8,8,8,8,8,8,8,8,8,8,8,8,8,8]⟩
theorem zhy:∀ y < 256,ze61[y]? = some (UInt8.ofNat (bitsLen y)):=by decide +kernel
def z1m:ACode:=(.seq (.region [mV 19 2,mV 20 0,uu 21 (.toInt .u8 (tt 20)),uu 22 (.index (.const (.str ze61)) (tt 21)),uu 23 (.toInt .i64 (tt 22)),uu 24 (.bin .add .no (tt 19) (tt 23)),kM 2 24])
 .ret)
theorem zu7 (I:Ids) (ag:Bool) (sz:Nat):zx01 I ag sz=(.seq (.region [kk 2 (.move (.const (.int .i64 0)))])
 (.seq (.seq (.region [mV 3 0,kk 4 (.bin .geq .no (tt 3) (.const (.int .u64 4294967296)))])
 (.cond (tt 4) (.seq (.region [mV 5 0,uu 6 (.bin .shr .no (tt 5) (.const (.int .u64 32))),kM 0 6])
 (.region [kk 2 (.move (.const (.int .i64 32)))])) .skip))
 (.seq (.seq (.region [mV 7 0,kk 8 (.bin .geq .no (tt 7) (.const (.int .u64 65536)))])
 (.cond (tt 8) (.seq (.region [mV 9 0,uu 10 (.bin .shr .no (tt 9) (.const (.int .u64 16))),kM 0 10])
 (.region [mV 11 2,uu 12 (.bin .add .no (tt 11) (.const (.int .i64 16))),kM 2 12])) .skip))
 (.seq (.seq (.region [mV 13 0,kk 14 (.bin .geq .no (tt 13) (.const (.int .u64 256)))])
 (.cond (tt 14) (.seq (.region [mV 15 0,uu 16 (.bin .shr .no (tt 15) (.const (.int .u64 8))),kM 0 16])
 (.region [mV 17 2,uu 18 (.bin .add .no (tt 17) (.const (.int .i64 8))),kM 2 18])) .skip))
 z1m)))):=rfl
theorem zoe (s:St) (y n:Nat) (hy:y < 256) (hn:n≤56) (h0:s.tm.get 0=.int .u64 (y:Int)) (h2:s.tm.get 2=.int .i64 (n:Int)) (F:AV→Heap→Prop) (hF:F (.int .i64 ((n + bitsLen y:Nat):Int)) s.heap) (hd:s.dfr=[]) :
 EXEC (callW tbl) loopW z1m [] s (FINQ [.tmp 2] F):=by
 have hb:bitsLen y≤8:=(bitsLen_le_iff y 8).2 (by omega)
 have ht:=zhy y hy
 have hy0:(0:Int)≤(y:Int):=by omega
 have hm:((bitsLen y:Nat):Int) % 256=((bitsLen y:Nat):Int):=by omega
 have w1:IntKind.i64.wrap ((bitsLen y:Nat):Int)=((bitsLen y:Nat):Int):=wrapN rfl (by omega)
 have w2:IntKind.i64.wrap ((n:Int) + ((bitsLen y:Nat):Int))=((n + bitsLen y:Nat):Int):=wrapN (by omega) (by omega)
 simp [z1m,h0,h2,wrapB hy,ht,hy0,hd]
 rw [hm,w1,w2]
 exact hF
theorem z611 (I:Ids) (ag:Bool) (sz:Nat) (x:Nat) (hx:x < 2 ^ 64):∃ r,zy (callW tbl) loopW (zw8 I ag sz) [.int .u64 (x:Int)]=some r∧r=.int .i64 ((bitsLen x:Nat):Int):=by
 refine pureK (zw8 I ag sz) rfl (fun F hF=>?_)
 have hF':∀ z:Nat,z=bitsLen x→F (.int .i64 (z:Int)) []:=fun z hz=>hF _ _ _ (z6 rfl) (by rw [hz])
 have p32:(2:Nat) ^ 32=4294967296:=by decide
 have p16:(2:Nat) ^ 16=65536:=by decide
 have p8:(2:Nat) ^ 8=256:=by decide
 by_cases h32:2 ^ 32≤x
 ·have s32:=z45 h32
  have r32:binA .shr .no (.int .u64 (x:Int)) (.int .u64 32)=some (.int .u64 ((x / 2 ^ 32:Nat):Int)):=shrU (by decide) .u64
  have c32:(4294967296:Int)≤(x:Int):=by omega
  have d32:x / 2 ^ 32 < 2 ^ 32:=by omega
  generalize x / 2 ^ 32=y32 at *
  have w32:IntKind.i64.wrap (0 + 32)=32:=by decide
  by_cases h16:2 ^ 16≤y32
  ·have s16:=z45 h16
   have r16:binA .shr .no (.int .u64 (y32:Int)) (.int .u64 16)=some (.int .u64 ((y32 / 2 ^ 16:Nat):Int)):=shrU (by decide) .u64
   have c16:(65536:Int)≤(y32:Int):=by omega
   have d16:y32 / 2 ^ 16 < 65536:=by omega
   generalize y32 / 2 ^ 16=y16 at *
   have w16:IntKind.i64.wrap (32 + 16)=48:=by decide
   by_cases h8:2 ^ 8≤y16
   ·have s8:=z45 h8
    have r8:binA .shr .no (.int .u64 (y16:Int)) (.int .u64 8)=some (.int .u64 ((y16 / 2 ^ 8:Nat):Int)):=shrU (by decide) .u64
    have c8:(256:Int)≤(y16:Int):=by omega
    have d8:y16 / 2 ^ 8 < 256:=by omega
    generalize y16 / 2 ^ 8=y8 at *
    have w8:IntKind.i64.wrap (48 + 8)=56:=by decide
    simp [zw8,zu7,r32,c32,w32,r16,c16,w16,r8,c8,w8]
    refine zoe _ y8 56 (by omega) (by omega) (by simp) (by simp <;> decide) F (hF' _ (by omega)) rfl
   ·have c8:¬ (256:Int)≤(y16:Int):=by omega
    simp [zw8,zu7,r32,c32,w32,r16,c16,w16,c8]
    refine zoe _ y16 48 (by omega) (by omega) (by simp) (by simp <;> decide) F (hF' _ (by omega)) rfl
  ·have c16:¬ (65536:Int)≤(y32:Int):=by omega
   by_cases h8:2 ^ 8≤y32
   ·have s8:=z45 h8
    have r8:binA .shr .no (.int .u64 (y32:Int)) (.int .u64 8)=some (.int .u64 ((y32 / 2 ^ 8:Nat):Int)):=shrU (by decide) .u64
    have c8:(256:Int)≤(y32:Int):=by omega
    have d8:y32 / 2 ^ 8 < 256:=by omega
    generalize y32 / 2 ^ 8=y8 at *
    have w8:IntKind.i64.wrap (32 + 8)=40:=by decide
    simp [zw8,zu7,r32,c32,w32,c16,r8,c8,w8]
    refine zoe _ y8 40 (by omega) (by omega) (by simp) (by simp <;> decide) F (hF' _ (by omega)) rfl
   ·have c8:¬ (256:Int)≤(y32:Int):=by omega
    simp [zw8,zu7,r32,c32,w32,c16,c8]
    refine zoe _ y32 32 (by omega) (by omega) (by simp) (by simp <;> decide) F (hF' _ (by omega)) rfl
 ·have c32:¬ (4294967296:Int)≤(x:Int):=by omega
  by_cases h16:2 ^ 16≤x
  ·have s16:=z45 h16
   have r16:binA .shr .no (.int .u64 (x:Int)) (.int .u64 16)=some (.int .u64 ((x / 2 ^ 16:Nat):Int)):=shrU (by decide) .u64
   have c16:(65536:Int)≤(x:Int):=by omega
   have d16:x / 2 ^ 16 < 65536:=by omega
   generalize x / 2 ^ 16=y16 at *
   have w16:IntKind.i64.wrap (0 + 16)=16:=by decide
   by_cases h8:2 ^ 8≤y16
   ·have s8:=z45 h8
    have r8:binA .shr .no (.int .u64 (y16:Int)) (.int .u64 8)=some (.int .u64 ((y16 / 2 ^ 8:Nat):Int)):=shrU (by decide) .u64
    have c8:(256:Int)≤(y16:Int):=by omega
    have d8:y16 / 2 ^ 8 < 256:=by omega
    generalize y16 / 2 ^ 8=y8 at *
    have w8:IntKind.i64.wrap (16 + 8)=24:=by decide
    simp [zw8,zu7,c32,r16,c16,w16,r8,c8,w8]
    refine zoe _ y8 24 (by omega) (by omega) (by simp) (by simp <;> decide) F (hF' _ (by omega)) rfl
   ·have c8:¬ (256:Int)≤(y16:Int):=by omega
    simp [zw8,zu7,c32,r16,c16,w16,c8]
    refine zoe _ y16 16 (by omega) (by omega) (by simp) (by simp <;> decide) F (hF' _ (by omega)) rfl
  ·have c16:¬ (65536:Int)≤(x:Int):=by omega
   by_cases h8:2 ^ 8≤x
   ·have s8:=z45 h8
    have r8:binA .shr .no (.int .u64 (x:Int)) (.int .u64 8)=some (.int .u64 ((x / 2 ^ 8:Nat):Int)):=shrU (by decide) .u64
    have c8:(256:Int)≤(x:Int):=by omega
    have d8:x / 2 ^ 8 < 256:=by omega
    generalize x / 2 ^ 8=y8 at *
    have w8:IntKind.i64.wrap (0 + 8)=8:=by decide
    simp [zw8,zu7,c32,c16,r8,c8,w8]
    refine zoe _ y8 8 (by omega) (by omega) (by simp) (by simp <;> decide) F (hF' _ (by omega)) rfl
   ·have c8:¬ (256:Int)≤(x:Int):=by omega
    simp [zw8,zu7,c32,c16,c8]
    refine zoe _ x 0 (by omega) (by omega) (by simp) (by simp <;> decide) F (hF' _ (by omega)) rfl
theorem pureA {f:FuncId} {af:AFunc} (ht:tbl f=some (.code af)) (hp:af.pure=true) {a:List AV} {r:AV} (hpl:AV.plains a=true) (hu:AV.unlents a=true) (hr:zy (callW tbl) loopW af a=some r) (H:Heap) :
 callW tbl (.func f [] []) a H=some (r,H):=by
 have:=zc5 (tbl:=tbl) (first:=[]) (captured:=[]) (args:=a) (H:=H) (r:=r) ht hp (by simpa using hpl) (by simpa [hu] using hr)
 rw [this]; simp [hu]
theorem ziy {I:Ids} {ag:Bool} {sz:Nat} (L:Laid tbl I ag sz) (x:Nat) (hx:x < 2 ^ 64) (H:Heap):callW tbl (.func I.len64 [] []) [.int .u64 (x:Int)] H=some (.int .i64 ((bitsLen x:Nat):Int),H):=by
 obtain ⟨r,h1,rfl⟩:=z611 (tbl:=tbl) I ag sz x hx
 exact pureA L.len64 rfl rfl rfl h1 H
theorem len_call {I:Ids} {ag:Bool} {sz:Nat} (L:Laid tbl I ag sz) (x:Nat) (hx:x < 2 ^ 64) (H:Heap):callW tbl (.func I.len [] []) [.int .u64 (x:Int)] H=some (.int .i64 ((bitsLen x:Nat):Int),H):=by
 obtain ⟨r,h1,rfl⟩:∃ r,zy (callW tbl) loopW (a_len I ag sz) [.int .u64 (x:Int)]=some r∧r=.int .i64 ((bitsLen x:Nat):Int):=by
  refine pureK (a_len I ag sz) rfl (fun F hF=>?_)
  have h:=ziy L x hx
  simp [a_len,c_len,h]
  exact hF _ _ _ (z6 rfl) rfl
 exact pureA L.len rfl rfl rfl h1 H
theorem z711 {I:Ids} {ag:Bool} {sz:Nat} (L:Laid tbl I ag sz) (n:Nat) (hn:n < 2 ^ 60) (H:Heap):callW tbl (.func I.npow [] []) [.int .i64 (n:Int)] H=some (.int .u64 ((1 <<< bitsLen n:Nat):Int),H):=by
 obtain ⟨r,h1,rfl⟩:∃ r,zy (callW tbl) loopW (z1p I ag sz) [.int .i64 (n:Int)]=some r∧r=.int .u64 ((1 <<< bitsLen n:Nat):Int):=by
  refine pureK (z1p I ag sz) rfl (fun F hF=>?_)
  have h:=len_call L n (by omega)
  have w1:IntKind.u64.wrap (n:Int)=(n:Int):=wrapU rfl (by omega)
  have hb:bitsLen n≤60:=(bitsLen_le_iff n 60).2 hn
  have hsh:binA .shl .no (.int .u64 1) (.int .i64 ((bitsLen n:Nat):Int))=some (.int .u64 ((1 <<< bitsLen n:Nat):Int)):=by
   have h0:¬ (((bitsLen n:Nat):Int) < 0):=by omega
   have e:min (bitsLen n) 64=bitsLen n:=by omega
   have hp:2 ^ bitsLen n≤2 ^ 60:=Nat.pow_le_pow_right (by decide) hb
   have h2:((2:Int) ^ bitsLen n)=((2 ^ bitsLen n:Nat):Int):=by simp
   simp only [binA,h0,if_false,Int.toNat_natCast,IntKind.bits,e,Int.one_mul,h2,Nat.one_shiftLeft]
   rw [wrapU rfl (by omega)]
  generalize 1 <<< bitsLen n=m at *
  simp [z1p,z761,w1,h,hsh]
  exact hF _ _ _ (z6 rfl) rfl
 exact pureA L.npow rfl rfl rfl h1 H
end Go.Abs.Sort
set_option linter.unusedSectionVars false
namespace Go.Abs.Sort
open Go Go.Abs Go.Sort
variable {tbl:FuncId→Option AFun} {α:Type} [Inhabited α]
def uA (r:UInt64):AV:=.int .u64 (r.toNat:Int)
theorem zj71 (r:UInt64):(uA r).isCell=true:=rfl
theorem zp41 (r:UInt64):(uA r).cells=[uA r]:=rfl
theorem bvU (r:UInt64):BitVec.ofInt 64 (r.toNat:Int)=r.toBitVec:=by
 apply BitVec.eq_of_toNat_eq
 have:=r.toNat_lt
 simp
theorem ltU (r:UInt64):r.toNat < 2 ^ 64:=r.toNat_lt
theorem shlU (r:UInt64) (k:Nat) (hk:k < 64):binA .shl .no (uA r) (.int .u64 (k:Int))=some (uA (r <<< UInt64.ofNat k)):=by
 have h0:¬ ((k:Int) < 0):=by omega
 have e:min k 64=k:=by omega
 have h2:((2:Int) ^ k)=((2 ^ k:Nat):Int):=by simp
 have hu:(r <<< UInt64.ofNat k).toNat=(r.toNat * 2 ^ k) % 2 ^ 64:=by
  rw [UInt64.toNat_shiftLeft,Nat.shiftLeft_eq]
  have:(UInt64.ofNat k).toNat % 64=k:=by simp; omega
  rw [this]
 unfold uA
 simp only [binA,h0,if_false,Int.toNat_natCast,IntKind.bits,e,h2,hu]
 congr 2
theorem shrU2 (r:UInt64) (k:Nat) (hk:k < 64):binA .shr .no (uA r) (.int .u64 (k:Int))=some (uA (r >>> UInt64.ofNat k)):=by
 have hu:(r >>> UInt64.ofNat k).toNat=r.toNat / 2 ^ k:=by
  rw [UInt64.toNat_shiftRight,Nat.shiftRight_eq_div_pow]
  have:(UInt64.ofNat k).toNat % 64=k:=by simp; omega
  rw [this]
 unfold uA
 rw [shrU hk,hu]
theorem xorU (a b:UInt64):binA .xor .no (uA a) (uA b)=some (uA (a ^^^ b)):=by
 show some (AV.int .u64 (IntKind.u64.wrap (((BitVec.ofInt 64 (a.toNat:Int) ^^^ BitVec.ofInt 64 (b.toNat:Int)).toNat:Nat):Int)))=_
 rw [bvU,bvU]
 have:(a.toBitVec ^^^ b.toBitVec).toNat=(a ^^^ b).toNat:=rfl
 rw [this,wrapU rfl (ltU _)]
 rfl
theorem andU (a:UInt64) (m:Nat) (hm:m < 2 ^ 64):binA .and .no (uA a) (.int .u64 (m:Int))=some (.int .u64 ((a.toNat &&& m:Nat):Int)):=by
 show some (AV.int .u64 (IntKind.u64.wrap (((BitVec.ofInt 64 (a.toNat:Int) &&& BitVec.ofInt 64 (m:Int)).toNat:Nat):Int)))=_
 rw [bvU]
 have:(a.toBitVec &&& BitVec.ofInt 64 (m:Int)).toNat=a.toNat &&& m:=by
  rw [BitVec.toNat_and]
  congr 1
  simp
  omega
 rw [this,wrapU rfl (Nat.lt_of_le_of_lt Nat.and_le_right hm)]
theorem z811 {I:Ids} {ag:Bool} {sz:Nat} (L:Laid tbl I ag sz) (H:Heap) (r:UInt64) (b:Nat) (hb:H[b]? = some (.arr 0 1 [uA r])) :
 callW tbl (.func I.next [] []) [.ptr b 0 0 0] H=some (uA (xorNext r),H.set b (.arr 0 1 [uA (xorNext r)])):=by
 refine callB (zbs I ag sz) L.next rfl rfl (fun F hF=>?_)
 have kb:=ze1 hb
 have lb:=lt_of hb
 have s1:binA .shl .no (uA r) (.int .u64 13)=_:=shlU r 13 (by decide)
 have x1:=xorU r (r <<< UInt64.ofNat 13)
 obtain ⟨r1,h1⟩:∃ x,x=r ^^^ (r <<< UInt64.ofNat 13):=⟨_,rfl⟩
 rw [← h1] at x1
 have s2:binA .shr .no (uA r1) (.int .u64 7)=_:=shrU2 r1 7 (by decide)
 have x2:=xorU r1 (r1 >>> UInt64.ofNat 7)
 obtain ⟨r2,h2⟩:∃ x,x=r1 ^^^ (r1 >>> UInt64.ofNat 7):=⟨_,rfl⟩
 rw [← h2] at x2
 have s3:binA .shl .no (uA r2) (.int .u64 17)=_:=shlU r2 17 (by decide)
 have x3:=xorU r2 (r2 <<< UInt64.ofNat 17)
 have h3:r2 ^^^ (r2 <<< UInt64.ofNat 17)=xorNext r:=by rw [h2,h1]; rfl
 rw [h3] at x3
 generalize r <<< UInt64.ofNat 13=t1 at *
 generalize r1 >>> UInt64.ofNat 7=t2 at *
 generalize r2 <<< UInt64.ofNat 17=t3 at *
 simp [zbs,z861,kb,lb,s1,x1,s2,x2,s3,x3,zj71,zp41,AV.rowok,zz]
 exact hF _ _ (ze (by simp))
def brkN (a l m:Nat):Nat→UInt64×Array α→Nat→UInt64×Array α
 | 0,st,_=>st
 | k + 1,st,idx=>brkN a l m k (breakStep a l m st idx) (idx + 1)
theorem zjy {H T:Heap} {n:Nat} (h:HOK H) (hn:n=H.length):zj false n (.tuple []) (H++T)=(.tuple [],H):=zhc h hn rfl
theorem zq41 (E:Env tbl α) (id g a b:Nat) (H:Heap) (d:Array α) (hH:HOK H) (hid:id < H.length) (hn:d.size < 2 ^ 60) (hb:b≤d.size) (ha:a + 8≤b) :
 callW tbl (.func E.I.brk [] []) [.sl id g 0 d.size,ii a,ii b,E.fv] (H.set id (E.blk g d))=some (.tuple [],H.set id (E.blk g (breakPatterns d a b))):=by
 refine callB (a_brk E.I E.ag E.sz) E.laid.brk rfl rfl (fun F hF=>?_)
 generalize hn0:d.size=n at *
 obtain ⟨l,hl⟩:∃ x,x=b - a:=⟨_,rfl⟩
 obtain ⟨q,hq⟩:∃ x,x=l / 4:=⟨_,rfl⟩
 obtain ⟨q2,hq2⟩:∃ x,x=q * 2:=⟨_,rfl⟩
 obtain ⟨j,hj⟩:∃ x,x=a + q2:=⟨_,rfl⟩
 obtain ⟨j0,hj0⟩:∃ x,x=j - 1:=⟨_,rfl⟩
 obtain ⟨j1,hj1⟩:∃ x,x=j + 1:=⟨_,rfl⟩
 obtain ⟨m,hm⟩:∃ x,x=1 <<< bitsLen l:=⟨_,rfl⟩
 have hm2:m≤2 * l:=by rw [hm,Nat.one_shiftLeft]; exact two_pow_bitsLen_le (by omega)
 have hm0:0 < m:=by rw [hm,Nat.one_shiftLeft]; exact Nat.two_pow_pos _
 have w1:IntKind.i64.wrap ((b:Int) - (a:Int))=(l:Int):=wrapN (by omega) (by omega)
 have w2:binA .quo .no (.int .i64 (l:Int)) (.int .i64 4)=some (.int .i64 (q:Int)):=by rw [hq]; exact quoN (y:=3) (by omega)
 have w5:IntKind.i64.wrap ((q:Int) * 2)=(q2:Int):=wrapN (by omega) (by omega)
 have w6:IntKind.i64.wrap ((a:Int) + (q2:Int))=(j:Int):=wrapN (by omega) (by omega)
 have w7:IntKind.i64.wrap ((j:Int) - 1)=(j0:Int):=wrapN (by omega) (by omega)
 have w8:IntKind.i64.wrap ((j:Int) + 1)=(j1:Int):=wrapN (by omega) (by omega)
 have w9:IntKind.u64.wrap (l:Int)=(l:Int):=wrapU rfl (by omega)
 have hul:AV.int .u64 (l:Int)=uA (UInt64.ofNat l):=by
  have:(UInt64.ofNat l).toNat=l:=by simp; omega
  unfold uA; rw [this]
 have wm:IntKind.u64.wrap ((m:Int) - 1)=((m - 1:Nat):Int):=wrapU (by omega) (by omega)
 have hnp:=z711 E.laid l (by omega)
 rw [← hm] at hnp
 have c8:(8:Int)≤(l:Int):=by omega
 have hD:(brkN a l m 3 (UInt64.ofNat l,d) j0).2=breakPatterns d a b:=by
  unfold breakPatterns
  rw [if_pos (show b - a≥8 by omega),hm,hj0,hj,hq2,hq,hl]
  rfl
 rw [← hD] at hF
 have hok:=fun d=>E_hok E hH id g d
 simp [a_brk,c_brk,w1,c8,w2,w5,w6,w7,hnp,w9,AV.rowok,zz]
 rw [hul]
 refine zg (fun k s=>∃ (idx:Nat) (st:UInt64×Array α),idx + k=j1 + 1∧j0≤idx∧st.2.size=n∧(brkN a l m k st idx).2=(brkN a l m 3 (UInt64.ofNat l,d) j0).2∧s.heap=H.set id (E.blk g st.2)++[.arr 0 1 [uA st.1]]∧s.dfr=[] ∧
  Fr s [(0, .sl id g 0 n),(1,ii a),(8,ii l),(9, .ptr H.length 0 0 0),(10, .int .u64 (m:Int)),(11,ii idx)]) 3 ⟨j0,(UInt64.ofNat l,d),by omega,by omega,hn0,rfl,rfl,rfl,by simp [Fr]⟩ ?_
 rintro k s B ⟨idx,st,h0,h1,h2,h3,e1,e2,f⟩ hgo hx
 simp only [z62,zh3,and_true] at f
 cases k with
 | zero=>
   have c:¬ (idx:Int)≤(j1:Int):=by omega
   simp [zlk,e1,e2,f,w2,w5,w6,w8,c]
   refine hx _ _ (by simp) ?_
   simp
   refine hF _ _ ?_
   rw [← h3]
   exact zjy (hok _) (by simp)
 | succ k=>
   have c:(idx:Int)≤(j1:Int):=by omega
   obtain ⟨o,ho⟩:∃ x,x=(xorNext st.1).toNat &&& (m - 1):=⟨_,rfl⟩
   have hom:o≤m - 1:=by rw [ho]; exact Nat.and_le_right
   have hand:=andU (xorNext st.1) (m - 1) (by omega)
   rw [← ho] at hand
   have hnx:=z811 E.laid (H.set id (E.blk g st.2)++[.arr 0 1 [uA st.1]]) st.1 H.length (by simp)
   simp at hnx
   have wo:IntKind.i64.wrap (o:Int)=(o:Int):=wrapN rfl (by omega)
   have wi:IntKind.i64.wrap ((idx:Int) + 1)=((idx + 1:Nat):Int):=wrapN (by omega) (by omega)
   have z1:(0:Int)≤(idx:Int):=by omega
   have l1:idx < n:=by omega
   have hid':id < H.length + 1:=by omega
   by_cases co:l≤o
   ·have coi:(l:Int)≤(o:Int):=by omega
    obtain ⟨p,hp⟩:∃ x,x=o - l:=⟨_,rfl⟩
    obtain ⟨ap,hap⟩:∃ x,x=a + p:=⟨_,rfl⟩
    have wp:IntKind.i64.wrap ((o:Int) - (l:Int))=(p:Int):=wrapN (by omega) (by omega)
    have wap:IntKind.i64.wrap ((a:Int) + (p:Int))=(ap:Int):=wrapN (by omega) (by omega)
    have z2:(0:Int)≤(ap:Int):=by omega
    have l2:ap < n:=by omega
    have hst:breakStep a l m st idx=(xorNext st.1,swp st.2 idx ap):=by
     unfold breakStep
     simp only []
     rw [← ho,if_pos (show o≥l from co),← hp,← hap]
    simp [zlk,e1,e2,f,w2,w5,w6,w8,c,hnx,wm,hand,wo,coi,wp,wap,z1,z2,l1,l2,hid,hid',h2,E.get',E.len,E.ld,E.cells,E.rowok,E.put,E.set]
    rw [wi]
    exact hgo _ k (by omega) ⟨idx + 1,(xorNext st.1,swp st.2 idx ap),by omega,by omega,by rw [zu1,h2],by rw [← h3,← hst]; rfl,rfl,rfl,by simp [Fr,f]⟩
   ·have coi:¬ (l:Int)≤(o:Int):=by omega
    obtain ⟨ap,hap⟩:∃ x,x=a + o:=⟨_,rfl⟩
    have wap:IntKind.i64.wrap ((a:Int) + (o:Int))=(ap:Int):=wrapN (by omega) (by omega)
    have z2:(0:Int)≤(ap:Int):=by omega
    have l2:ap < n:=by omega
    have hst:breakStep a l m st idx=(xorNext st.1,swp st.2 idx ap):=by
     unfold breakStep
     simp only []
     rw [← ho,if_neg (show ¬ o≥l from co),← hap]
    simp [zlk,e1,e2,f,w2,w5,w6,w8,c,hnx,wm,hand,wo,coi,wap,z1,z2,l1,l2,hid,hid',h2,E.get',E.len,E.ld,E.cells,E.rowok,E.put,E.set]
    rw [wi]
    exact hgo _ k (by omega) ⟨idx + 1,(xorNext st.1,swp st.2 idx ap),by omega,by omega,by rw [zu1,h2],by rw [← h3,← hst]; rfl,rfl,rfl,by simp [Fr,f]⟩
end Go.Abs.Sort
set_option linter.unusedSectionVars false
namespace Go.Abs.Sort
open Go Go.Abs Go.Sort
variable {tbl:FuncId→Option AFun} {α:Type} [Inhabited α]
def kq_8 (I:Ids) (ag:Bool) (sz:Nat):ACode:=(.seq (.region [mV 106 0,mV 107 1,mV 108 2,mV 109 13,mV 110 4,uu 111 (.call (.func I.part) [(tt 106),(tt 107),(tt 108),(tt 109),(tt 110)]),mV 105 111,uu 112 (.extract (tt 105) 0),uu 113 (.extract (tt 105) 1),kM 16 112,kM 17 113])
 (.seq (.region [mV 114 17,kM 11 114])
 (.seq (.region [mV 115 16,mV 116 1,uu 117 (.bin .sub .no (tt 115) (tt 116)),mV 118 2,mV 119 16,uu 120 (.bin .sub .no (tt 118) (tt 119)),kM 18 117,kM 19 120])
 (.seq (.region [mV 121 12,uu 122 (.bin .quo .no (tt 121) (.const (.int .i64 8))),kM 20 122])
 (.seq (.region [mV 123 18,mV 124 19,kk 125 (.bin .lss .no (tt 123) (tt 124))])
 (.cond (tt 125) (.seq (.region [mV 126 18,mV 127 20,uu 128 (.bin .geq .no (tt 126) (tt 127)),kM 10 128])
 (.seq (.region [mV 129 0,mV 130 1,mV 131 16,mV 132 3,mV 133 4,uu 134 (.call (.func I.pdq) [(tt 129),(tt 130),(tt 131),(tt 132),(tt 133)])])
 (.region [mV 135 16,uu 136 (.bin .add .no (tt 135) (.const (.int .i64 1))),kM 1 136]))) (.seq (.region [mV 137 19,mV 138 20,uu 139 (.bin .geq .no (tt 137) (tt 138)),kM 10 139])
 (.seq (.region [mV 140 0,mV 141 16,uu 142 (.bin .add .no (tt 141) (.const (.int .i64 1))),mV 143 2,mV 144 3,mV 145 4,uu 146 (.call (.func I.pdq) [(tt 140),(tt 142),(tt 143),(tt 144),(tt 145)])])
 (.region [mV 147 16,kM 2 147])))))))))
def kq_7 (I:Ids) (ag:Bool) (sz:Nat):ACode:=(.seq (.seq (.draw [mV 81 1,uu 82 (.bin .gtr .no (tt 81) (.const (.int .i64 0))),mV 83 82,gV 84 4 83 true,gV 85 0 83 true,gV 86 1 83 true,ug 87 (.bin .sub .no (tt 86) (.const (.int .i64 1))) 83 true,ug 88 (.indexAddr sz (tt 85) (tt 87)) 83 true,ug 89 (.load ag sz (tt 88)) 83 true,gV 90 0 83 true,gV 91 13 83 true,ug 92 (.indexAddr sz (tt 90) (tt 91)) 83 true,ug 93 (.load ag sz (tt 92)) 83 true,ug 94 (.call (tt 84) [(tt 89),(tt 93)]) 83 true,ug 95 (.bin .lss .no (tt 94) (.const (.int .i64 0))) 83 true,ug 96 (.un .not (tt 95)) 83 true,kk 97 (.pick (tt 83) (tt 96) (.const (.bool false)))] [])
 (.cond (tt 97) (.seq (.region [mV 98 0,mV 99 1,mV 100 2,mV 101 13,mV 102 4,uu 103 (.call (.func I.peq) [(tt 98),(tt 99),(tt 100),(tt 101),(tt 102)]),kM 15 103])
 (.seq (.region [mV 104 15,kM 1 104])
 (.exit 1))) .skip))
 (kq_8 I ag sz))
def kq_6 (I:Ids) (ag:Bool) (sz:Nat):ACode:=(.seq (.seq (.region [mV 68 10,mV 69 68,gV 70 11 69 true,uu 71 (.pick (tt 69) (tt 70) (.const (.bool false))),mV 72 71,gV 73 14 72 true,ug 74 (.bin .eql .no (tt 73) (.const (.int .i64 1))) 72 true,kk 75 (.pick (tt 72) (tt 74) (.const (.bool false)))])
 (.cond (tt 75) (.seq (.region [mV 76 0,mV 77 1,mV 78 2,mV 79 4,kk 80 (.call (.func I.pins) [(tt 76),(tt 77),(tt 78),(tt 79)])])
 (.cond (tt 80) .ret .skip)) .skip))
 (kq_7 I ag sz))
def kq_4 (I:Ids) (ag:Bool) (sz:Nat):ACode:=(.seq (.region [mV 48 0,mV 49 1,mV 50 2,mV 51 4,uu 52 (.call (.func I.piv) [(tt 48),(tt 49),(tt 50),(tt 51)]),mV 47 52,uu 53 (.extract (tt 47) 0),uu 54 (.extract (tt 47) 1),kM 13 53,kM 14 54])
 (.seq (.seq (.region [mV 55 14,kk 56 (.bin .eql .no (tt 55) (.const (.int .i64 2)))])
 (.cond (tt 56) (.seq (.region [mV 57 0,mV 58 1,mV 59 2,mV 60 4,uu 61 (.call (.func I.rev) [(tt 57),(tt 58),(tt 59),(tt 60)])])
 (.seq (.region [mV 62 2,uu 63 (.bin .sub .no (tt 62) (.const (.int .i64 1))),mV 64 13,mV 65 1,uu 66 (.bin .sub .no (tt 64) (tt 65)),uu 67 (.bin .sub .no (tt 63) (tt 66)),kM 13 67])
 (.region [kk 14 (.move (.const (.int .i64 1)))]))) .skip))
 (kq_6 I ag sz)))
theorem z5b (I:Ids) (ag:Bool) (sz:Nat):zqw I ag sz=(.block 1 (.seq (.region [mV 21 2,mV 22 1,uu 23 (.bin .sub .no (tt 21) (tt 22)),kM 12 23])
 (.seq (.seq (.region [mV 24 12,kk 25 (.bin .leq .no (tt 24) (.const (.int .i64 12)))])
 (.cond (tt 25) (.seq (.region [mV 26 0,mV 27 1,mV 28 2,mV 29 4,uu 30 (.call (.func I.ins) [(tt 26),(tt 27),(tt 28),(tt 29)])])
 .ret) .skip))
 (.seq (.seq (.region [mV 31 3,kk 32 (.bin .eql .no (tt 31) (.const (.int .i64 0)))])
 (.cond (tt 32) (.seq (.region [mV 33 0,mV 34 1,mV 35 2,mV 36 4,uu 37 (.call (.func I.heap) [(tt 33),(tt 34),(tt 35),(tt 36)])])
 .ret) .skip))
 (.seq (.seq (.region [mV 38 10,kk 39 (.un .not (tt 38))])
 (.cond (tt 39) (.seq (.region [mV 40 0,mV 41 1,mV 42 2,mV 43 4,uu 44 (.call (.func I.brk) [(tt 40),(tt 41),(tt 42),(tt 43)])])
 (.region [mV 45 3,uu 46 (.bin .sub .no (tt 45) (.const (.int .i64 1))),kM 3 46])) .skip))
 (kq_4 I ag sz)))))):=rfl
def Sorts (E:Env tbl α) (id g n:Nat) (H:Heap) (a b:Nat):Prop:=∀ (limit:Nat) (d:Array α),d.size=n→b≤n→a≤b→limit < 2 ^ 60→Below E.lt a b d →
 ∃ D,callW tbl (.func E.I.pdq [] []) [.sl id g 0 n,ii a,ii b,ii limit,E.fv] (H.set id (E.blk g d))=some (.tuple [],H.set id (E.blk g D))∧PermIn a b d D∧SortedIn E.lt a b D
structure Round (E:Env tbl α) (id g n:Nat) (H:Heap) (K:Nat) (B:AExit→St→Prop) (Good:Array α→Prop):Prop where
 go:∀ (a b limit:Nat) (wb wp:Bool) (d:Array α) (s:St),b - a < K→d.size=n→b≤n→a≤b→limit < 2 ^ 60→Below E.lt a b d→(∀ R,PermIn a b d R→SortedIn E.lt a b R→Good R) →
  At E H id g d s [(0, .sl id g 0 n),(1,ii a),(2,ii b),(3,ii limit),(4,E.fv),(10, .bool wb),(11, .bool wp)]→B .normal s
 ret:∀ (d:Array α) (s:St),Good d→s.heap=H.set id (E.blk g d)→s.dfr=[]→B .ret s
abbrev FrP (E:Env tbl α) (id g n a b limit l:Nat) (wp:Bool) (pivot:Nat):List (Nat×AV):=[(0, .sl id g 0 n),(1,ii a),(2,ii b),(3,ii limit),(4,E.fv),(11, .bool wp),(12,ii l),(13,ii pivot)]
theorem quo8 {l:Nat} (h:l < 2 ^ 60):binA .quo .no (.int .i64 (l:Int)) (.int .i64 8)=some (.int .i64 ((l / 8:Nat):Int)):=quoN (y:=7) (by omega)
theorem pdq_8 (E:Env tbl α) (hS:SWO E.lt) (id g n:Nat) (H:Heap) (hid:id < H.length) (hn:n < 2 ^ 60) (K:Nat) (B:AExit→St→Prop) (Good:Array α→Prop) (hR:Round E id g n H K B Good)
 (a b limit l:Nat) (wb wp:Bool) (pivot:Nat) (d:Array α) (s:St) (hK:b - a=K) (hl:l=b - a) (hd:d.size=n) (hb:b≤n) (hp1:a≤pivot) (hp2:pivot < b) (hlim:limit < 2 ^ 60) (hB:Below E.lt a b d) (hG:∀ R,PermIn a b d R→SortedIn E.lt a b R→Good R)
 (ih:∀ a' b',b' - a' < K→Sorts E id g n H a' b')
 (h4:At E H id g d s ((10, .bool wb)::FrP E id g n a b limit l wp pivot)):EXEC (callW tbl) loopW (kq_8 E.I E.ag E.sz) [.block 1] s B:=by
 obtain ⟨e1,e2,f⟩:=h4
 simp only [z62,zh3,and_true] at f
 have hcall:=z011 E id g a b pivot H d hid (by omega) (by omega) (by omega) (by omega)
 rw [hd] at hcall
 obtain ⟨mid,ap,d4,hx⟩:∃ mid ap d4,partition E.lt d a b pivot=(mid,ap,d4):=⟨_,_,_,rfl⟩
 rw [hx] at hcall
 simp only [] at hcall
 obtain ⟨g1,g2,hs4,hBa,hBr,hleft,hright⟩:=round_part hS (partition_holds E.lt) hp1 hp2 (by omega) hB hx
 obtain ⟨u,hu⟩:∃ x,x=mid - a:=⟨_,rfl⟩
 obtain ⟨v,hv⟩:∃ x,x=b - mid:=⟨_,rfl⟩
 obtain ⟨w,hw⟩:∃ x,x=l / 8:=⟨_,rfl⟩
 have w1:IntKind.i64.wrap ((mid:Int) - (a:Int))=(u:Int):=wrapN (by omega) (by omega)
 have w2:IntKind.i64.wrap ((b:Int) - (mid:Int))=(v:Int):=wrapN (by omega) (by omega)
 have w3:binA .quo .no (.int .i64 (l:Int)) (.int .i64 8)=some (.int .i64 (w:Int)):=by rw [hw]; exact quo8 (by omega)
 have w4:IntKind.i64.wrap ((mid:Int) + 1)=((mid + 1:Nat):Int):=wrapN (by omega) (by omega)
 by_cases c:u < v
 ·have ci:(u:Int) < (v:Int):=by omega
  obtain ⟨D,hc2,p1,p2⟩:=ih a mid (by omega) limit d4 (by omega) (by omega) g1 hlim hBa
  obtain ⟨hBL,hfin⟩:=hleft D p1 p2
  simp [kq_8,e1,e2,f,hcall,w1,w2,w3,ci,hc2]
  rw [w4]
  refine hR.go (mid + 1) b limit (decide (w≤u)) ap D _ (by omega) (by rw [p1.1,hs4,hd]) hb (by omega) hlim hBL (fun R r1 r2=>?_) ⟨rfl,rfl,by simp [Fr,f]⟩
  obtain ⟨q1,q2⟩:=hfin R r1 r2
  exact hG R q1 q2
 ·have ci:¬ (u:Int) < (v:Int):=by omega
  obtain ⟨D,hc2,p1,p2⟩:=ih (mid + 1) b (by omega) limit d4 (by omega) hb (by omega) hlim hBr
  rw [show ii (mid + 1)=.int .i64 (IntKind.i64.wrap ((mid:Int) + 1)) by rw [w4]] at hc2
  obtain ⟨hBL,hfin⟩:=hright D p1 p2
  simp [kq_8,e1,e2,f,hcall,w1,w2,w3,ci,hc2]
  refine hR.go a mid limit (decide (w≤v)) ap D _ (by omega) (by rw [p1.1,hs4,hd]) (by omega) g1 hlim hBL (fun R r1 r2=>?_) ⟨rfl,rfl,by simp [Fr,f]⟩
  obtain ⟨q1,q2⟩:=hfin R r1 r2
  exact hG R q1 q2
theorem pdq_7 (E:Env tbl α) (hS:SWO E.lt) (id g n:Nat) (H:Heap) (hid:id < H.length) (hn:n < 2 ^ 60) (K:Nat) (B:AExit→St→Prop) (Good:Array α→Prop) (hR:Round E id g n H K B Good)
 (a b limit l:Nat) (wb wp:Bool) (pivot:Nat) (d:Array α) (s:St) (hK:b - a=K) (hl:l=b - a) (hd:d.size=n) (hb:b≤n) (hp1:a≤pivot) (hp2:pivot < b) (hlim:limit < 2 ^ 60) (hB:Below E.lt a b d) (hG:∀ R,PermIn a b d R→SortedIn E.lt a b R→Good R)
 (ih:∀ a' b',b' - a' < K→Sorts E id g n H a' b')
 (h4:At E H id g d s ((10, .bool wb)::FrP E id g n a b limit l wp pivot)):EXEC (callW tbl) loopW (kq_7 E.I E.ag E.sz) [.block 1] s B:=by
 obtain ⟨e1,e2,f⟩:=h4
 simp only [z62,zh3,and_true] at f
 by_cases ha:0 < a
 ·obtain ⟨p,hp⟩:∃ x,x=a - 1:=⟨_,rfl⟩
  have c1:(0:Int) < (a:Int):=by omega
  have w1:IntKind.i64.wrap ((a:Int) - 1)=(p:Int):=wrapN (by omega) (by omega)
  have z1:(0:Int)≤(p:Int):=by omega
  have z2:(0:Int)≤(pivot:Int):=by omega
  have l1:p < n:=by omega
  have l2:pivot < n:=by omega
  have hcall:=E.call (el d p) (el d pivot)
  by_cases hl:E.cmp (el d p) (el d pivot) < 0
  ·simp [kq_7,e1,e2,f,ha,c1,w1,z1,z2,l1,l2,hid,hd,hcall,E.get',E.len,E.ld,E.cells,hl]
   refine pdq_8 E hS id g n H hid hn K B Good hR a b limit l wb wp pivot d _ hK (by assumption) hd hb hp1 hp2 hlim hB hG ih ⟨rfl,rfl,by simp [Fr,f]⟩
  ·have hnl:E.lt d[a - 1]! d[pivot]! = false:=by rw [← hp]; exact decide_eq_false hl
   have hc2:=zo41 E id g a b pivot H d hid (by omega) (by omega) (by omega) (by omega)
   rw [hd] at hc2
   obtain ⟨mid,d4,hx⟩:∃ mid d4,partitionEqual E.lt d a b pivot=(mid,d4):=⟨_,_,rfl⟩
   rw [hx] at hc2
   simp only [] at hc2
   obtain ⟨g1,g2,hs4,hB4,hfin⟩:=round_eq hS (partitionEqual_holds E.lt) ha hp1 hp2 (by omega) hB hnl hx
   simp [kq_7,e1,e2,f,ha,c1,w1,z1,z2,l1,l2,hid,hd,hcall,E.get',E.len,E.ld,E.cells,hl,hc2]
   refine hR.go mid b limit wb wp d4 _ (by omega) (by omega) hb g2 hlim hB4 (fun R r1 r2=>?_) ⟨rfl,rfl,by simp [Fr,f]⟩
   obtain ⟨q1,q2⟩:=hfin R r1 r2
   exact hG R q1 q2
 ·have c1:¬ (0:Int) < (a:Int):=by omega
  simp [kq_7,e1,e2,f,ha,c1]
  refine pdq_8 E hS id g n H hid hn K B Good hR a b limit l wb wp pivot d _ hK (by assumption) hd hb hp1 hp2 hlim hB hG ih ⟨rfl,rfl,by simp [Fr,f]⟩
theorem pdq_6 (E:Env tbl α) (hS:SWO E.lt) (id g n:Nat) (H:Heap) (hid:id < H.length) (hn:n < 2 ^ 60) (K:Nat) (B:AExit→St→Prop) (Good:Array α→Prop) (hR:Round E id g n H K B Good)
 (a b limit l:Nat) (wb wp:Bool) (pivot:Nat) (hint:Int) (d:Array α) (s:St) (hK:b - a=K) (hl:l=b - a) (hd:d.size=n) (hb:b≤n) (hp1:a≤pivot) (hp2:pivot < b) (hlim:limit < 2 ^ 60) (hB:Below E.lt a b d) (hG:∀ R,PermIn a b d R→SortedIn E.lt a b R→Good R)
 (ih:∀ a' b',b' - a' < K→Sorts E id g n H a' b')
 (h4:At E H id g d s ((10, .bool wb)::(14, .int .i64 hint)::FrP E id g n a b limit l wp pivot)):EXEC (callW tbl) loopW (kq_6 E.I E.ag E.sz) [.block 1] s B:=by
 obtain ⟨e1,e2,f⟩:=h4
 simp only [z62,zh3,and_true] at f
 have f10:=f.1
 have f11:=f.2.2.2.2.2.2.2.1
 have next:∀ s':St,At E H id g d s' ((10, .bool wb)::FrP E id g n a b limit l wp pivot)→EXEC (callW tbl) loopW (kq_7 E.I E.ag E.sz) [.block 1] s' B:=
  fun s' h=>pdq_7 E hS id g n H hid hn K B Good hR a b limit l wb wp pivot d s' hK hl hd hb hp1 hp2 hlim hB hG ih h
 cases wb with
 | false=>
   simp [kq_6,e1,e2,f]
   exact next _ ⟨rfl,rfl,by simp [Fr,f]⟩
 | true=>
   cases wp with
   | false=>
     simp [kq_6,e1,e2,f]
     exact next _ ⟨rfl,rfl,by simp [Fr,f]⟩
   | true=>
     by_cases c:hint=1
     ·have hc:=z511 E id g a b H d hid (by omega) (by omega) (by omega)
      rw [hd] at hc
      have hpi:=partialInsertionSort_holds hS d a b (by omega) (by omega) hB
      generalize partialInsertionSort E.lt d a b=pi at *
      cases h2:pi.2 with
      | true=>
        rw [h2] at hc
        simp [kq_6,e1,e2,f,c,hc]
        exact hR.ret pi.1 _ (hG _ hpi.1 (hpi.2 h2)) rfl rfl
      | false=>
        rw [h2] at hc
        simp [kq_6,e1,e2,f,c,hc]
        refine pdq_7 E hS id g n H hid hn K B Good hR a b limit l true true pivot pi.1 _ hK hl (by rw [hpi.1.1,hd]) hb hp1 hp2 hlim (hB.perm (by omega) hpi.1) (fun R r1 r2=>hG R (permIn_trans _ _ _ a b hpi.1 r1) r2) ih ⟨rfl,rfl,by simp [Fr,f]⟩
     ·simp [kq_6,e1,e2,f,c]
      exact next _ ⟨rfl,rfl,by simp [Fr,f]⟩
theorem pdq_4 (E:Env tbl α) (hS:SWO E.lt) (id g n:Nat) (H:Heap) (hH:HOK H) (hid:id < H.length) (hn:n < 2 ^ 60) (K:Nat) (B:AExit→St→Prop) (Good:Array α→Prop) (hR:Round E id g n H K B Good)
 (a b limit l:Nat) (wb wp:Bool) (d:Array α) (s:St) (hK:b - a=K) (hl:l=b - a) (hd:d.size=n) (hb:b≤n) (hab:a < b) (hlim:limit < 2 ^ 60) (hB:Below E.lt a b d) (hG:∀ R,PermIn a b d R→SortedIn E.lt a b R→Good R)
 (ih:∀ a' b',b' - a' < K→Sorts E id g n H a' b')
 (h4:At E H id g d s [(10, .bool wb),(0, .sl id g 0 n),(1,ii a),(2,ii b),(3,ii limit),(4,E.fv),(11, .bool wp),(12,ii l)]):EXEC (callW tbl) loopW (kq_4 E.I E.ag E.sz) [.block 1] s B:=by
 obtain ⟨e1,e2,f⟩:=h4
 simp only [z62,zh3,and_true] at f
 have hc:=zj41 E id g a b H d hH hid (by omega) (by omega) hab
 rw [hd] at hc
 have hpr:=choosePivot_holds E.lt d a b hab
 obtain ⟨pv,hint,hx⟩:∃ x y,choosePivot E.lt d a b=(x,y):=⟨_,_,rfl⟩
 rw [hx] at hc hpr
 simp only [] at hc hpr
 by_cases c:hintZ hint=2
 ·have hc2:=zi41 E id g a b H d hid (by omega) (by omega) hab
  rw [hd] at hc2
  have hrv:=reverseRange_holds d a b (by omega) (by omega)
  generalize reverseRange d a b=d2 at *
  obtain ⟨x,hx1⟩:∃ x,x=b - 1:=⟨_,rfl⟩
  obtain ⟨y,hy1⟩:∃ x,x=pv - a:=⟨_,rfl⟩
  obtain ⟨pv2,hz1⟩:∃ z,z=x - y:=⟨_,rfl⟩
  have w1:IntKind.i64.wrap ((b:Int) - 1)=(x:Int):=wrapN (by omega) (by omega)
  have w2:IntKind.i64.wrap ((pv:Int) - (a:Int))=(y:Int):=wrapN (by omega) (by omega)
  have w3:IntKind.i64.wrap ((x:Int) - (y:Int))=(pv2:Int):=wrapN (by omega) (by omega)
  simp [kq_4,e1,e2,f,hc,c,hc2,w1,w2,w3]
  refine pdq_6 E hS id g n H hid hn K B Good hR a b limit l wb wp pv2 1 d2 _ hK hl (by rw [hrv.1,hd]) hb (by omega) (by omega) hlim (hB.perm (by omega) hrv) (fun R r1 r2=>hG R (permIn_trans _ _ _ a b hrv r1) r2) ih ⟨rfl,rfl,by simp [Fr,f]⟩
 ·simp [kq_4,e1,e2,f,hc,c]
  refine pdq_6 E hS id g n H hid hn K B Good hR a b limit l wb wp pv (hintZ hint) d _ hK hl hd hb hpr.1 hpr.2 hlim hB hG ih ⟨rfl,rfl,by simp [Fr,f]⟩
end Go.Abs.Sort
set_option linter.unusedSectionVars false
namespace Go.Abs.Sort
open Go Go.Abs Go.Sort
variable {tbl:FuncId→Option AFun} {α:Type} [Inhabited α]
theorem z911 (E:Env tbl α) (hS:SWO E.lt) (id g n:Nat) (H:Heap) (hH:HOK H) (hid:id < H.length) (hn:n < 2 ^ 60):∀ (k a b:Nat),b - a≤k→Sorts E id g n H a b:=by
 intro k
 induction k using Nat.strongRecOn with
 | ind k ihk=>
 intro a0 b0 hk limit0 d0 hd0 hb0 hab0 hlim0 hB0
 have ih:∀ K,K≤k→∀ a' b',b' - a' < K→Sorts E id g n H a' b':=fun K hK a' b' h=>ihk (b' - a') (by omega) a' b' (Nat.le_refl _)
 suffices h:∃ v H',(∃ D,v=.tuple []∧H'=H.set id (E.blk g D)∧PermIn a0 b0 d0 D∧SortedIn E.lt a0 b0 D)∧callW tbl (.func E.I.pdq [] []) [.sl id g 0 n,ii a0,ii b0,ii limit0,E.fv] (H.set id (E.blk g d0))=some (zj false (H.set id (E.blk g d0)).length v H') by
  obtain ⟨v,H',⟨D,rfl,rfl,p1,p2⟩,hc⟩:=h
  rw [ze (by simp)] at hc
  exact ⟨D,hc,p1,p2⟩
 refine callE (fun v H'=>∃ D,v=.tuple []∧H'=H.set id (E.blk g D)∧PermIn a0 b0 d0 D∧SortedIn E.lt a0 b0 D) (a_pdq E.I E.ag E.sz) E.laid.pdq rfl rfl (fun F hF=>?_)
 simp [a_pdq,c_pdq]
 refine zg (fun K s=>∃ (a b limit:Nat) (wb wp:Bool) (d:Array α),K=b - a∧K≤k∧d.size=n∧b≤n∧a≤b∧limit < 2 ^ 60∧Below E.lt a b d∧(∀ R,PermIn a b d R→SortedIn E.lt a b R→PermIn a0 b0 d0 R∧SortedIn E.lt a0 b0 R) ∧
  At E H id g d s [(0, .sl id g 0 n),(1,ii a),(2,ii b),(3,ii limit),(4,E.fv),(10, .bool wb),(11, .bool wp)]) (b0 - a0) ⟨a0,b0,limit0,true,true,d0,rfl,hk,hd0,hb0,hab0,hlim0,hB0,fun R h1 h2=>⟨h1,h2⟩,rfl,rfl,by simp [Fr]⟩ ?_
 rintro K s B ⟨a,b,limit,wb,wp,d,hK,hKk,hd,hb,hab,hlim,hB,hG,e1,e2,f⟩ hgo hx
 simp only [z62,zh3,and_true] at f
 have hret:∀ (D:Array α) (s:St),(PermIn a0 b0 d0 D∧SortedIn E.lt a0 b0 D)→s.heap=H.set id (E.blk g D)→s.dfr=[]→B .ret s:=by
  intro D s h1 h2 h3
  refine hx _ _ (by simp) ?_
  simp [h2,h3]
  exact hF _ _ ⟨D,rfl,rfl,h1.1,h1.2⟩
 have hR:Round E id g n H K B (fun R=>PermIn a0 b0 d0 R∧SortedIn E.lt a0 b0 R):=⟨fun a b limit wb wp d s q1 q2 q3 q4 q5 q6 q7 q8=>hgo s (b - a) q1 ⟨a,b,limit,wb,wp,d,rfl,by omega,q2,q3,q4,q5,q6,q7,q8⟩,hret⟩
 obtain ⟨l,hl⟩:∃ x,x=b - a:=⟨_,rfl⟩
 have w1:IntKind.i64.wrap ((b:Int) - (a:Int))=(l:Int):=wrapN (by omega) (by omega)
 by_cases c12:l≤12
 ·have c12i:(l:Int)≤12:=by omega
  have hc:=zh41 E id g a b H d hid (by omega) (by omega) (by omega)
  rw [hd] at hc
  have hi:=insertionSort_holds hS d a b hab (by omega)
  simp [z5b,e1,e2,f,w1,c12i,hc]
  exact hret _ _ (hG _ hi.1 hi.2) rfl rfl
 ·have c12i:¬ (l:Int)≤12:=by omega
  by_cases c0:limit=0
  ·have c0i:(limit:Int)=0:=by omega
   have hc:=zz01 E id g a b H d hid (by omega) (by omega) (by omega)
   rw [hd] at hc
   have hi:=heapSort_holds hS d a b hab (by omega)
   simp [z5b,e1,e2,f,w1,c12i,c0,hc]
   exact hret _ _ (hG _ hi.1 hi.2) rfl rfl
  ·have c0i:¬ (limit:Int)=0:=by omega
   cases wb with
   | true=>
     simp [z5b,e1,e2,f,w1,c12i,c0]
     exact pdq_4 E hS id g n H hH hid hn K B _ hR a b limit l true wp d _ hK.symm hl hd hb (by omega) hlim hB hG (ih K hKk) ⟨rfl,rfl,by simp [Fr,f]⟩
   | false=>
     have hc:=zq41 E id g a b H d hH hid (by omega) (by omega) (by omega)
     rw [hd] at hc
     have hi:=breakPatterns_holds d a b hab (by omega)
     generalize breakPatterns d a b=d1 at *
     have wl:IntKind.i64.wrap ((limit:Int) - 1)=((limit - 1:Nat):Int):=wrapN (by omega) (by omega)
     simp [z5b,e1,e2,f,w1,c12i,c0,hc]
     rw [wl]
     exact pdq_4 E hS id g n H hH hid hn K B _ hR a b (limit - 1) l false wp d1 _ hK.symm hl (by rw [hi.1,hd]) hb (by omega) (by omega) (hB.perm (by omega) hi) (fun R r1 r2=>hG R (permIn_trans _ _ _ a b hi r1) r2) (ih K hKk) ⟨rfl,rfl,by simp [Fr,f]⟩
theorem pdq_call (E:Env tbl α) (hS:SWO E.lt) (id g:Nat) (H:Heap) (hH:HOK H) (hid:id < H.length) (d:Array α) (hn:d.size < 2 ^ 60) (limit:Nat) (hl:limit < 2 ^ 60) :
 ∃ D,callW tbl (.func E.I.pdq [] []) [.sl id g 0 d.size,ii 0,ii d.size,ii limit,E.fv] (H.set id (E.blk g d))=some (.tuple [],H.set id (E.blk g D))∧PermIn 0 d.size d D∧SortedIn E.lt 0 d.size D:=
 z911 E hS id g d.size H hH hid hn (d.size - 0) 0 d.size (Nat.le_refl _) limit d rfl (Nat.le_refl _) (Nat.zero_le _) hl (.inl rfl)
theorem zk71 {I:Ids} {ag:Bool} {sz:Nat} (L:Laid tbl I ag sz) (fv:AV) (H:Heap):callW tbl (.func I.ins [] []) [.nilsl,AV.int .i64 0,AV.int .i64 0,fv] H=some (.tuple [],H):=by
 refine callB (a_ins I ag sz) L.ins rfl rfl (fun F hF=>?_)
 have w1:IntKind.i64.wrap (0 + 1)=1:=by decide
 simp [a_ins,c_ins,w1]
 refine zg (fun k s=>s.heap=H∧s.dfr=[]∧s.tm.get 2=.int .i64 0∧s.tm.get 8=.int .i64 1) 0 ⟨rfl,rfl,by simp,by simp [show IntKind.i64.wrap 1=1 by decide]⟩ ?_
 rintro k s B ⟨e1,e2,f2,f8⟩ hgo hx
 simp [zkk,e1,e2,f2,f8]
 refine hx _ _ (by simp) ?_
 simp
 exact hF _ _ (ze rfl)
theorem pdq_nil {I:Ids} {ag:Bool} {sz:Nat} (L:Laid tbl I ag sz) (fv:AV) (limit:Int) (H:Heap):callW tbl (.func I.pdq [] []) [.nilsl,AV.int .i64 0,AV.int .i64 0, .int .i64 limit,fv] H=some (.tuple [],H):=by
 refine callB (a_pdq I ag sz) L.pdq rfl rfl (fun F hF=>?_)
 have w1:IntKind.i64.wrap 0=0:=by decide
 have hi:=zk71 L fv H
 simp [a_pdq,c_pdq]
 refine zg (fun k s=>s.heap=H∧s.dfr=[]∧s.tm.get 0=.nilsl∧s.tm.get 1=.int .i64 0∧s.tm.get 2=.int .i64 0∧s.tm.get 4=fv) 0 ⟨rfl,rfl,by simp,by simp,by simp,by simp⟩ ?_
 rintro k s B ⟨e1,e2,f0,f1,f2,f4⟩ hgo hx
 simp [z5b,e1,e2,f0,f1,f2,f4,w1,hi]
 refine hx _ _ (by simp) ?_
 simp
 exact hF _ _ (ze rfl)
end Go.Abs.Sort
