/- Abs 1: an abstract, deterministic interpreter of the translated code: its values, its heap, its operations. Definitions alone. -/
import Derived.RangeFuncLeaves
import Derived.OrdersIn
import Derived.Below
import Derived.Laws.CopyRow
import Derived.Laws.Cells
import Derived.Laws.StructEq
import Derived.Laws.Pointers
import Derived.Laws.Cover3
import Derived.Laws.MakeOwn
import Derived.Laws.Append
import Derived.WideKeyRuns
set_option linter.unusedSimpArgs false
set_option linter.unusedVariables false
set_option maxHeartbeats 4000000
namespace Go.Abs
inductive AV where
 | undef
 | bool (b:Bool)
 | int (k:IntKind) (n:Int)
 | str (s:ByteArray)
 | nilptr
 | ptr (id gen row off:Nat)
 | fptr (lent:Bool) (cells:List AV) (off:Nat)
 | nilsl
 | fsl (lent:Bool) (rows:List AV)
 | sl (id gen off len:Nat)
 | nilmap
 | map (id gen:Nat)
 | nilfunc
 | func (f:FuncId) (first captured:List AV)
 | yieldf (id gen:Nat)
 | niliface
 | iface (t:TypeId) (v:AV)
 | agg (cells:List AV)
 | tuple (vs:List AV)
 deriving Inhabited
def AV.cells:AV→List AV
 | .agg cs=>cs
 | v=>[v]
def AV.isCell:AV→Bool
 | .undef | .agg _ | .tuple _=>false
 | _=>true
def AV.rowok (sz:Nat) (r:AV):Bool:=r.cells.length == sz && r.cells.all AV.isCell
mutual
/-- No way into the heap. -/
def AV.plain:AV→Bool
 | .undef=>false
 | .bool _ | .int _ _ | .str _ | .nilptr | .nilsl | .nilmap | .nilfunc | .niliface=>true
 | .ptr .. | .sl .. | .map .. | .yieldf ..=>false
 | .fptr _ cs _=>AV.plains cs
 | .fsl _ rs=>AV.plains rs
 | .func _ a b=>AV.plains a && AV.plains b
 | .iface _ v=>v.plain
 | .agg cs=>AV.plains cs
 | .tuple vs=>AV.plains vs
def AV.plains:List AV→Bool
 | []=>true
 | v::vs=>v.plain && AV.plains vs
end
mutual
/-- All ways into the heap lie below n. -/
def AV.under (n:Nat):AV→Bool
 | .undef | .bool _ | .int _ _ | .str _ | .nilptr | .nilsl | .nilmap | .nilfunc | .niliface=>true
 | .ptr id _ _ _ | .sl id _ _ _ | .map id _ | .yieldf id _=>decide (id < n)
 | .fptr _ cs _=>AV.unders n cs
 | .fsl _ rs=>AV.unders n rs
 | .func _ a b=>AV.unders n a && AV.unders n b
 | .iface _ v=>AV.under n v
 | .agg cs=>AV.unders n cs
 | .tuple vs=>AV.unders n vs
def AV.unders (n:Nat):List AV→Bool
 | []=>true
 | v::vs=>AV.under n v && AV.unders n vs
end
mutual
/-- Holds nothing that is lent. -/
def AV.unlent:AV→Bool
 | .undef | .bool _ | .int _ _ | .str _ | .nilptr | .nilsl | .nilmap | .nilfunc | .niliface=>true
 | .ptr .. | .sl .. | .map .. | .yieldf ..=>false
 | .fptr k cs _ => !k && AV.unlents cs
 | .fsl k rs => !k && AV.unlents rs
 | .func _ a b=>AV.unlents a && AV.unlents b
 | .iface _ v=>v.unlent
 | .agg cs=>AV.unlents cs
 | .tuple vs=>AV.unlents vs
def AV.unlents:List AV→Bool
 | []=>true
 | v::vs=>v.unlent && AV.unlents vs
end
mutual
/-- As lent: what it leads to stays as it is for a call's time. -/
def AV.lend:AV→AV
 | .fptr _ cs o=>.fptr true (AV.lends cs) o
 | .fsl _ rs=>.fsl true (AV.lends rs)
 | .func f a b=>.func f (AV.lends a) (AV.lends b)
 | .iface t v=>.iface t v.lend
 | .agg cs=>.agg (AV.lends cs)
 | .tuple vs=>.tuple (AV.lends vs)
 | v=>v
def AV.lends:List AV→List AV
 | []=>[]
 | v::vs=>v.lend::AV.lends vs
end
mutual
def AV.beq:AV→AV→Bool
 | .undef, .undef=>true
 | .bool a, .bool b=>a == b
 | .int k a, .int j b=>k == j && a == b
 | .str a, .str b=>a == b
 | .nilptr, .nilptr=>true
 | .ptr a b c d, .ptr e f g h=>a == e && b == f && c == g && d == h
 | .fptr k cs o, .fptr l ds p=>k == l && AV.beqs cs ds && o == p
 | .nilsl, .nilsl=>true
 | .fsl k a, .fsl l b=>k == l && AV.beqs a b
 | .sl a b c d, .sl e f g h=>a == e && b == f && c == g && d == h
 | .nilmap, .nilmap=>true
 | .map a b, .map c d=>a == c && b == d
 | .nilfunc, .nilfunc=>true
 | .func f a b, .func g c d=>f == g && AV.beqs a c && AV.beqs b d
 | .yieldf a b, .yieldf c d=>a == c && b == d
 | .niliface, .niliface=>true
 | .iface t v, .iface u w=>t == u && AV.beq v w
 | .agg a, .agg b=>AV.beqs a b
 | .tuple a, .tuple b=>AV.beqs a b
 | _,_=>false
def AV.beqs:List AV→List AV→Bool
 | [],[]=>true
 | a::as,b::bs=>AV.beq a b && AV.beqs as bs
 | _,_=>false
end
inductive Tm where
 | leaf
 | node (v:AV) (l r:Tm)
 deriving Inhabited
def Tm.get:Tm→Nat→AV
 | .leaf,_=>.undef
 | .node v l r,n=>if n=0 then v else if n % 2=1 then l.get (n / 2) else r.get (n / 2 - 1)
def Tm.putD:Nat→Tm→Nat→AV→Tm
 | 0,t,_,_=>t
 | d + 1, .leaf,n,x=>
   if n=0 then .node x .leaf .leaf else if n % 2=1 then .node .undef (Tm.putD d .leaf (n / 2) x) .leaf
   else .node .undef .leaf (Tm.putD d .leaf (n / 2 - 1) x)
 | d + 1, .node v l r,n,x=>
   if n=0 then .node x l r else if n % 2=1 then .node v (Tm.putD d l (n / 2) x) r
   else .node v l (Tm.putD d r (n / 2 - 1) x)
def Tm.put (t:Tm) (n:Nat) (x:AV):Tm:=Tm.putD 12 t n x
def Tm.puts (t:Tm):List Nat→List AV→Tm
 | n::ns,x::xs=>(t.put n x).puts ns xs
 | _,_=>t
def Tm.ofArgs (t:Tm) (i:Nat):List AV→Tm
 | []=>t
 | x::xs=>(t.put i x).ofArgs (i + 1) xs
def Tm.under (n:Nat):Tm→Bool
 | .leaf=>true
 | .node v l r=>v.under n && l.under n && r.under n
inductive AOperand where
 | tmp (t:Nat)
 | const (v:AV)
 | func (f:FuncId)
 deriving Inhabited
inductive CK where
 | bool | int | str
 deriving DecidableEq,Inhabited
inductive z6a where
 | no | bool | ptr | iface | slice | map | func
 | cells (ks:List CK)
 deriving Inhabited
inductive LenK where
 | str | slice | map
 deriving DecidableEq,Inhabited
inductive AOp where
 | move (x:AOperand)
 | pick (c a b:AOperand)
 | alloc (z:AV)
 | box (n:Nat) (v:AOperand)
 | build (z:List AV) (parts:List (Nat×Nat×AOperand))
 | buildSlice (z:AV) (len:Nat) (parts:List (Nat×AOperand))
 | load (agg:Bool) (n:Nat) (a:AOperand)
 | store (n:Nat) (a v:AOperand)
 | nilCheck (x:AOperand)
 | bin (op:BinOp) (eq:z6a) (x y:AOperand)
 | un (op:UnOp) (x:AOperand)
 | toInt (k:IntKind) (x:AOperand)
 | runeStr (x:AOperand)
 | strStr (x:AOperand)
 | makeFunc (f:FuncId) (first captured:List AOperand)
 | makeMap
 | makeSlice (z:AV) (bytes:Nat) (len cap:AOperand)
 | slice (sz:Nat) (x:AOperand) (lo hi:Option AOperand)
 | fieldAddr (off:Nat) (x:AOperand)
 | field (agg:Bool) (n off:Nat) (x:AOperand)
 | indexAddr (sz:Nat) (x i:AOperand)
 | index (x i:AOperand)
 | lookup (agg:Bool) (ks:List CK) (z:AV) (m k:AOperand) (ok:Bool)
 | mapUpdate (agg:Bool) (ks:List CK) (m k v:AOperand)
 | mapEntry (agg:Bool) (ks:List CK) (z:AV) (m k:AOperand)
 | entryStore (m s v:AOperand)
 | makeInterface (t:TypeId) (x:AOperand)
 | extract (x:AOperand) (i:Nat)
 | len (k:LenK) (x:AOperand)
 | append (sz bytes:Nat) (x y:AOperand)
 | delete (agg:Bool) (ks:List CK) (m k:AOperand)
 | call (f:AOperand) (args:List AOperand)
 | pcall (f:AOperand) (args:List AOperand)
 | boxF (n:Nat) (v:AOperand)
 | frzM (x:AOperand)
 | buildSliceF (z:AV) (len:Nat) (parts:List (Nat×AOperand))
 | maxI (xs:List AOperand)
 | ofBytes (x:AOperand)
 | toBytes (x:AOperand)
 | toBytesF (x:AOperand)
 | invoke (ms:List (TypeId×FuncId)) (x:AOperand) (args:List AOperand)
 | rangeM (x:AOperand)
 | nextM (x:AOperand)
 | entryM (x:AOperand)
 | bad
 deriving Inhabited
structure AOper where
 dst:Option Nat
 keep:Bool
 op:AOp
 guard:Option (Nat×Bool)
 deriving Inhabited
inductive AExit where
 | normal
 | exit (id:Nat)
 | ret
 deriving DecidableEq,Inhabited
inductive ACode where
 | skip
 | region (ops:List AOper)
 | draw (ops:List AOper) (pairs:List (Nat×Nat))
 | seq (a b:ACode)
 | cond (c:AOperand) (thn els:ACode)
 | block (id:Nat) (body:ACode)
 | loop (body:ACode)
 | rangeFunc (f:AOperand) (params:List Nat) (assign body:ACode)
 | exit (id:Nat)
 | ret
 | bad
 deriving Inhabited
inductive AResult where
 | tmp (t:Nat)
 | cell (t:Nat) (agg:Bool) (n:Nat)
 deriving Inhabited
structure AFunc where
 nargs:Nat
 pure:Bool
 frz:Bool
 results:List AResult
 body:ACode
 deriving Inhabited
structure MEnt where
 key:AV
 val:AV
 born:Nat
 deriving Inhabited
inductive Blk where
 | dead (gen:Nat)
 | arr (gen sz:Nat) (rows:List AV)
 | map (gen:Nat) (ents:List MEnt) (clock:Nat)
 | loop (gen:Nat) (st:LoopState) (pend:Option AExit) (tm:Tm) (params:List Nat) (assign body:ACode)
 | defr (gen:Nat)
 | iter (gen:Nat) (mv:AV) (since:Nat) (seen:List Nat) (last:Nat)
 deriving Inhabited
def Blk.gen:Blk→Nat
 | .dead g | .arr g _ _ | .map g _ _ | .loop g .. | .defr g | .iter g ..=>g
def Blk.under (n:Nat):Blk→Bool
 | .dead _ | .defr _=>true
 | .arr _ _ rows=>AV.unders n rows
 | .map _ ents _=>ents.all fun e=>e.key.under n && e.val.under n
 | .loop _ _ _ tm _ _ _=>tm.under n
 | .iter _ mv _ _ _=>mv.under n
abbrev Heap:=List Blk
inductive Action where
 | bad
 | val (v:AV)
 | rd (ids:List Nat) (f:List Blk→Option AV)
 | md (ids:List Nat) (id:Nat) (f:List Blk→Option (AV×Blk))
 | nw (ids:List Nat) (f:List Blk→Nat→Nat→Option (AV×Blk))
 | call (f:AV) (args:List AV)
 | pcall (f:AV) (args:List AV)
def Action.ofOption:Option AV→Action
 | some v=>.val v
 | none=>.bad
def part (agg:Bool) (n off:Nat) (cs:List AV):Option AV:=
 if agg then (if off + n≤cs.length then some (.agg ((cs.drop off).take n)) else none) else cs[off]?
def splice (cs:List AV) (off:Nat) (new:List AV):List AV:=cs.take off++new++cs.drop (off + new.length)
def zz (r:AV) (off:Nat) (v:AV):AV:=
 if v.cells.length=r.cells.length then v else .agg (splice r.cells off v.cells)
def loadA (agg:Bool) (n:Nat):AV→Action
 | .ptr id gen row off=>.rd [id] fun
   | [.arr g _ rows]=>if g=gen then match rows[row]? with
     | some r=>part agg n off r.cells
     | none=>none else none
   | _=>none
 | .fptr _ cs off=>.ofOption (part agg n off cs)
 | _=>.bad
def z5w (n:Nat) (v:AV):AV→Action
 | .ptr id gen row off=>.md [id] id fun
   | [.arr g sz rows]=>if g=gen then match rows[row]? with
     | some r=>if v.rowok n=true∧off + n≤r.cells.length then some (.undef, .arr g sz (rows.set row (zz r off v))) else none
     | none=>none else none
   | _=>none
 | _=>.bad
def bytesLess:List UInt8→List UInt8→Bool
 | _,[]=>false
 | [],_::_=>true
 | a::x,b::y=>a < b || (a == b && bytesLess x y)
def strOp (op:BinOp) (x y:ByteArray):Option AV:=
 match op with
 | .add=>if x.size + y.size≤2 ^ 47 then some (.str (x++y)) else none
 | .eql=>some (.bool (x.toList == y.toList))
 | .neq=>some (.bool !(x.toList == y.toList))
 | .lss=>some (.bool (Op.bytesLess x.toList y.toList))
 | .leq=>some (.bool (Op.bytesLess x.toList y.toList || x.toList == y.toList))
 | .gtr=>some (.bool !(Op.bytesLess x.toList y.toList || x.toList == y.toList))
 | .geq=>some (.bool !(Op.bytesLess x.toList y.toList))
 | _=>none
def intOp (op:BinOp) (k:IntKind) (x y:Int):Option AV:=
 match op with
 | .add=>some (.int k (k.wrap (x + y)))
 | .sub=>some (.int k (k.wrap (x - y)))
 | .mul=>some (.int k (k.wrap (x * y)))
 | .quo=>if y=0 then none else some (.int k (k.wrap (x.tdiv y)))
 | .rem=>if y=0 then none else some (.int k (x.tmod y))
 | .and=>some (.int k (k.wrap (BitVec.ofInt k.bits x &&& BitVec.ofInt k.bits y).toNat))
 | .or=>some (.int k (k.wrap (BitVec.ofInt k.bits x ||| BitVec.ofInt k.bits y).toNat))
 | .xor=>some (.int k (k.wrap (BitVec.ofInt k.bits x ^^^ BitVec.ofInt k.bits y).toNat))
 | .andNot=>some (.int k (k.wrap (BitVec.ofInt k.bits x &&& ~~~(BitVec.ofInt k.bits y)).toNat))
 | .eql=>some (.bool (x == y))
 | .neq=>some (.bool (x != y))
 | .lss=>some (.bool (decide (x < y)))
 | .leq=>some (.bool (decide (x≤y)))
 | .gtr=>some (.bool (decide (x > y)))
 | .geq=>some (.bool (decide (x≥y)))
 | _=>none
def zl3:CK→AV→AV→Option Bool
 | .bool, .bool a, .bool b=>some (a == b)
 | .int, .int k a, .int j b=>if k=j then some (a == b) else none
 | .str, .str a, .str b=>some (a.toList == b.toList)
 | _,_,_=>none
def z21:List CK→List AV→List AV→Option Bool
 | [],[],[]=>some true
 | k::ks,a::as,b::bs=>match zl3 k a b,z21 ks as bs with
   | some x,some y=>some (x && y)
   | _,_=>none
 | _,_,_=>none
def eqOp (eq:z6a) (x y:AV):Option Bool:=
 match eq,x,y with
 | .bool, .bool a, .bool b=>some (a == b)
 | .cells ks, .agg a, .agg b=>z21 ks a b
 | .ptr, .nilptr, .nilptr=>some true
 | .ptr, .ptr .., .nilptr | .ptr, .nilptr, .ptr .. | .ptr, .fptr .., .nilptr | .ptr, .nilptr, .fptr ..=>some false
 | .func, .nilfunc, .nilfunc=>some true
 | .func, .func .., .nilfunc | .func, .nilfunc, .func .. | .func, .yieldf .., .nilfunc | .func, .nilfunc, .yieldf ..=>some false
 | .iface, .niliface, .niliface=>some true
 | .iface, .iface .., .niliface | .iface, .niliface, .iface ..=>some false
 | .map, .nilmap, .nilmap=>some true
 | .map, .map .., .nilmap | .map, .nilmap, .map ..=>some false
 | .slice, .nilsl, .nilsl=>some true
 | .slice, .sl .., .nilsl | .slice, .nilsl, .sl .. | .slice, .fsl _ (_::_), .nilsl | .slice, .nilsl, .fsl _ (_::_)=>some false
 | _,_,_=>none
def binA (op:BinOp) (eq:z6a) (x y:AV):Option AV:=
 match op,x,y with
 | .shl, .int k a, .int _ b=>if b < 0 then none else some (.int k (k.wrap (a * 2 ^ (min b.toNat k.bits))))
 | .shr, .int k a, .int _ b=>if b < 0 then none else some (.int k (a.fdiv (2 ^ (min b.toNat k.bits))))
 | op, .int k a, .int j b=>if k=j then intOp op k a b else none
 | op, .str a, .str b=>strOp op a b
 | .eql,x,y=>(eqOp eq x y).map .bool
 | .neq,x,y=>(eqOp eq x y).map fun b=>.bool !b
 | _,_,_=>none
def unA (op:UnOp) (x:AV):Option AV:=
 match op,x with
 | .neg, .int k n=>some (.int k (k.wrap (0 - n)))
 | .xor, .int k n=>some (.int k (k.wrap (BitVec.ofInt k.bits (if k.signed then -1 else k.max) ^^^ BitVec.ofInt k.bits n).toNat))
 | .not, .bool b=>some (.bool !b)
 | _,_=>none
def zpf (cs:List AV):List (Nat×Nat×AV)→Option AV
 | []=>some (.agg cs)
 | (off,sz,v)::r=>if v.rowok sz=true∧off + sz≤cs.length then zpf (splice cs off v.cells) r else none
def zr (sz:Nat) (rows:List AV):List (Nat×AV)→Option (List AV)
 | []=>some rows
 | (i,v)::r=>if v.rowok sz=true∧i < rows.length then zr sz (rows.set i v) r else none
def bound (d:Nat) (top:Nat):Option AV→Option Nat
 | none=>some d
 | some (.int _ i)=>if 0≤i∧i≤top then some i.toNat else none
 | _=>none
def zij (sz:Nat) (lo hi:Option AV):AV→Option AV
 | .str s=>if sz=0 then match bound s.size s.size hi with
   | some h=>match bound 0 h lo with
     | some l=>some (.str (s.extract l h))
     | none=>none
   | none=>none else none
 | .nilsl=>if sz=0 then none else match bound 0 0 hi with
   | some h=>match bound 0 h lo with
     | some _=>some .nilsl
     | none=>none
   | none=>none
 | .fsl k rows=>if sz=0 then none else match bound rows.length rows.length hi with
   | some h=>match bound 0 h lo with
     | some l=>if rows.all (fun r=>r.cells.length == sz) then some (.fsl k ((rows.drop l).take (h - l))) else none
     | none=>none
   | none=>none
 | _=>none
def AV.isAgg:AV→Bool
 | .agg _=>true
 | _=>false
def keyOk (agg:Bool) (ks:List CK) (k:AV):Bool:=k.isAgg == agg && (z21 ks k.cells k.cells == some true)
def keyEq (agg:Bool) (ks:List CK) (a b:AV):Option Bool:=if b.isAgg == agg then z21 ks a.cells b.cells else none
def findE (agg:Bool) (ks:List CK) (k:AV):List MEnt→Nat→Option (Option (Nat×MEnt))
 | [],_=>some none
 | e::es,i=>match keyEq agg ks k e.key with
   | some true=>some (some (i,e))
   | some false=>findE agg ks k es (i + 1)
   | none=>none
def zm6 (agg:Bool) (ks:List CK) (z:AV) (k:AV) (ok:Bool) (es:List MEnt):Option AV:=
 match findE agg ks k es 0 with
 | some (some (_,e))=>some (if ok then .tuple [e.val, .bool true] else e.val)
 | some none=>some (if ok then .tuple [z, .bool false] else z)
 | none=>none
def zw3 (gen off len:Nat):Blk→Option (List AV)
 | .arr g _ rows=>if g=gen∧off + len≤rows.length then some ((rows.drop off).take len) else none
 | _=>none
def room (n bytes:Nat):Bool:=n * bytes≤140737488355328
def zg5 (sz bytes:Nat) (x:AV) (n:Nat) (ids:List Nat) (src:List Blk→Option (List AV)):Action:=
 if n=0 then (match x with
  | .nilsl | .sl .. | .fsl ..=>.val x
  | _=>.bad)
 else match x with
 | .nilsl=>if room n bytes then .nw ids fun bs id g=>match src bs with
  | some ys=>if ys.all (AV.rowok sz) then some (.sl id g 0 n, .arr g sz ys) else none
  | none=>none else .bad
 | .sl id gen off len=>if room (len + n) bytes then .md (id::ids) id fun
  | b::bs=>match b,src bs with
    | .arr g s rows,some ys=>
      if g=gen∧s=sz∧off + len≤rows.length∧ys.all (AV.rowok sz)=true then
       if off + len + n≤rows.length then some (.sl id gen off (len + n), .arr g sz (splice rows (off + len) ys))
       else some (.sl id (gen + 1) 0 (len + n), .arr (gen + 1) sz ((rows.drop off).take len++ys))
      else none
    | _,_=>none
  | _=>none else .bad
 | _=>.bad
def zh1 (sz bytes:Nat) (x:AV):AV→Action
 | .nilsl=>zg5 sz bytes x 0 [] fun _=>some []
 | .fsl _ rows=>zg5 sz bytes x rows.length [] fun _=>some rows
 | .sl id gen off len=>zg5 sz bytes x len [id] fun
   | [b]=>zw3 gen off len b
   | _=>none
 | _=>.bad
def maxF:AV→List AV→Option AV
 | .int k a,[]=>some (.int k a)
 | .int k a,y::l=>match y with
   | .int j b=>if k=j then maxF (.int k (if b > a then b else a)) l else none
   | _=>none
 | _,_=>none
def maxA:List AV→Option AV
 | []=>none
 | x::l=>maxF x l
def zt9:List AV→Option (List UInt8)
 | []=>some []
 | .int .u8 n::l=>match zt9 l with
   | some bs=>some (UInt8.ofNat n.toNat::bs)
   | none=>none
 | _=>none
def z7e (rows:List AV):Option AV:=match zt9 rows with
 | some bs=>some (.str ⟨⟨bs⟩⟩)
 | none=>none
def cellsOf (s:ByteArray):List AV:=s.data.toList.map fun b=>.int .u8 b.toNat
def actOf (ρ:AOperand→AV):AOp→Action
 | .move x=>.val (ρ x)
 | .pick c a b=>match ρ c with
   | .bool t=>.val (if t then ρ a else ρ b)
   | _=>.bad
 | .alloc z=>.nw [] fun _ id g=>if z.cells.all AV.isCell then some (.ptr id g 0 0, .arr g z.cells.length [z]) else none
 | .box n x=>.nw [] fun _ id g=>if (ρ x).rowok n then some (.ptr id g 0 0, .arr g n [ρ x]) else none
 | .build z parts=>.ofOption (zpf z (parts.map fun (o,s,x)=>(o,s,ρ x)))
 | .buildSlice z len parts=>.nw [] fun _ id g=>
   if z.cells.all AV.isCell then match zr z.cells.length (List.replicate len z) (parts.map fun (i,x)=>(i,ρ x)) with
   | some rows=>some (.sl id g 0 len, .arr g z.cells.length rows)
   | none=>none else none
 | .load agg n a=>loadA agg n (ρ a)
 | .store n a v=>z5w n (ρ v) (ρ a)
 | .nilCheck x=>match ρ x with
   | .ptr a b c d=>.val (.ptr a b c d)
   | .fptr k cs o=>.val (.fptr k cs o)
   | .func f a b=>.val (.func f a b)
   | .yieldf a b=>.val (.yieldf a b)
   | _=>.bad
 | .bin op eq x y=>.ofOption (binA op eq (ρ x) (ρ y))
 | .un op x=>.ofOption (unA op (ρ x))
 | .toInt k x=>match ρ x with
   | .int _ n=>.val (.int k (k.wrap n))
   | _=>.bad
 | .runeStr x=>match ρ x with
   | .int _ n=>.val (.str (Utf8.encode n))
   | _=>.bad
 | .strStr x=>match ρ x with
   | .str s=>.val (.str s)
   | _=>.bad
 | .makeFunc f first captured=>.val (.func f (first.map ρ) (captured.map ρ))
 | .makeMap=>.nw [] fun _ id g=>some (.map id g, .map g [] 0)
 | .makeSlice z bytes l c=>match ρ l,ρ c with
   | .int _ n, .int _ m=>
     if 0≤n∧n≤m∧(m.toNat * bytes≤2 ^ 47)∧m.toNat≤2 ^ 47 then
      .nw [] fun _ id g=>if z.cells.all AV.isCell then some (.sl id g 0 n.toNat, .arr g z.cells.length (List.replicate n.toNat z)) else none
     else .bad
   | _,_=>.bad
 | .slice sz x lo hi=>match ρ x with
   | .sl id gen off len=>.rd [id] fun
     | [.arr g s rows]=>if g=gen∧off + len≤rows.length∧s=sz∧1≤sz then match bound len len (hi.map ρ) with
      | some h=>match bound 0 h (lo.map ρ) with
        | some l=>some (.sl id gen (off + l) (h - l))
        | none=>none
      | none=>none else none
     | _=>none
   | v=>.ofOption (zij sz (lo.map ρ) (hi.map ρ) v)
 | .fieldAddr off x=>match ρ x with
   | .ptr id g r o=>.val (.ptr id g r (o + off))
   | .fptr k cs o=>.val (.fptr k cs (o + off))
   | _=>.bad
 | .field agg n off x=>match ρ x with
   | .agg cs=>.ofOption (part agg n off cs)
   | _=>.bad
 | .indexAddr sz x i=>match ρ i with
   | .int _ j=>if 0≤j then match ρ x with
     | .fsl k rows=>match rows[j.toNat]? with
       | some r=>if r.cells.length=sz then .val (.fptr k r.cells 0) else .bad
       | none=>.bad
     | .sl id gen off len=>.rd [id] fun
       | [.arr g s _]=>if g=gen∧j.toNat < len∧s=sz then some (.ptr id gen (off + j.toNat) 0) else none
       | _=>none
     | _=>.bad
     else .bad
   | _=>.bad
 | .index x i=>match ρ x,ρ i with
   | .str s, .int _ j=>if 0≤j then match s[j.toNat]? with
     | some b=>.val (.int .u8 b.toNat)
     | none=>.bad
     else .bad
   | _,_=>.bad
 | .lookup agg ks z m k ok=>if keyOk agg ks (ρ k) then match ρ m with
   | .nilmap=>.val (if ok then .tuple [z, .bool false] else z)
   | .map id gen=>.rd [id] fun
     | [.map g es _]=>if g=gen then zm6 agg ks z (ρ k) ok es else none
     | _=>none
   | _=>.bad
   else .bad
 | .mapUpdate agg ks m k v=>if keyOk agg ks (ρ k) then match ρ m with
   | .map id gen=>.md [id] id fun
     | [.map g es c]=>if g=gen then match findE agg ks (ρ k) es 0 with
       | some (some (i,e))=>some (.undef, .map g (es.set i { e with val:=ρ v }) c)
       | some none=>some (.undef, .map g (es++[{ key:=ρ k,val:=ρ v,born:=c }]) (c + 1))
       | none=>none else none
     | _=>none
   | _=>.bad
   else .bad
 | .mapEntry agg ks z m k=>if keyOk agg ks (ρ k) then match ρ m with
   | .map id gen=>.md [id] id fun
     | [.map g es c]=>if g=gen then match findE agg ks (ρ k) es 0 with
       | some (some (_,e))=>some (.tuple [e.val, .int .i64 e.born], .map g es c)
       | some none=>some (.tuple [z, .int .i64 c], .map g (es++[{ key:=ρ k,val:=z,born:=c }]) (c + 1))
       | none=>none else none
     | _=>none
   | _=>.bad
   else .bad
 | .entryStore m s v=>match ρ m,ρ s with
   | .map id gen, .int _ b=>.md [id] id fun
     | [.map g es c]=>if g=gen then match es.findIdx? (fun e=>(e.born:Int) == b) with
       | some i=>some (.undef, .map g (es.modify i fun e=>{ e with val:=ρ v }) c)
       | none=>none else none
     | _=>none
   | _,_=>.bad
 | .makeInterface t x=>match ρ x with
   | .undef=>.bad
   | v=>.val (.iface t v)
 | .extract x i=>match ρ x with
   | .tuple vs=>.ofOption vs[i]?
   | _=>.bad
 | .len k x=>match k,ρ x with
   | .str, .str s=>.val (.int .i64 s.size)
   | .slice, .nilsl | .map, .nilmap=>.val (.int .i64 0)
   | .slice, .fsl _ rows=>.val (.int .i64 rows.length)
   | .slice, .sl _ _ _ n=>.val (.int .i64 n)
   | .map, .map id gen=>.rd [id] fun
     | [.map g es _]=>if g=gen then some (.int .i64 es.length) else none
     | _=>none
   | _,_=>.bad
 | .append sz bytes x y=>zh1 sz bytes (ρ x) (ρ y)
 | .delete agg ks m k=>if keyOk agg ks (ρ k) then match ρ m with
   | .nilmap=>.val (.tuple [])
   | .map id gen=>.md [id] id fun
     | [.map g es c]=>if g=gen then match findE agg ks (ρ k) es 0 with
       | some (some (i,_))=>some (.tuple [], .map g (es.eraseIdx i) c)
       | some none=>some (.tuple [], .map g es c)
       | none=>none else none
     | _=>none
   | _=>.bad
   else .bad
 | .call f args=>.call (ρ f) (args.map ρ)
 | .pcall f args=>.pcall (ρ f) (args.map ρ)
 | .boxF n x=>if (ρ x).rowok n then .val (.fptr false (ρ x).cells 0) else .bad
 | .frzM x=>match ρ x with
   | .sl id gen off len=>.md [id] id fun
     | [b]=>match zw3 gen off len b with
       | some rows=>if AV.plains rows then some (.fsl false rows, .dead gen) else none
       | none=>none
     | _=>none
   | v=>.val v
 | .buildSliceF z len parts=>if z.cells.all AV.isCell then match zr z.cells.length (List.replicate len z) (parts.map fun (i,x)=>(i,ρ x)) with
   | some rows=>.val (.fsl false rows)
   | none=>.bad
   else .bad
 | .maxI xs=>.ofOption (maxA (xs.map ρ))
 | .ofBytes x=>match ρ x with
   | .nilsl=>.val (.str ⟨#[]⟩)
   | .fsl _ rows=>.ofOption (z7e rows)
   | .sl id gen off len=>.rd [id] fun
     | [b]=>match zw3 gen off len b with
       | some rows=>z7e rows
       | none=>none
     | _=>none
   | _=>.bad
 | .toBytesF x=>match ρ x with
   | .str s=>.val (.fsl false (cellsOf s))
   | _=>.bad
 | .invoke ms x args=>match ρ x with
   | .iface t v=>match ms.lookup t with
     | some f=>.call (.func f [] []) (v::args.map ρ)
     | none=>.bad
   | _=>.bad
 | .toBytes _ | .rangeM _ | .nextM _ | .entryM _=>.bad
 | .bad=>.bad
abbrev CallF:=AV→List AV→Heap→Option (AV×Heap)
def blks (H:Heap) (ids:List Nat):List Blk:=ids.map fun i=>H.getD i (.dead 0)
def zd (call:CallF) (slot:Option Nat) (H:Heap):Action→Option (AV×Heap)
 | .bad=>none
 | .val v=>some (v,H)
 | .rd ids f=>match f (blks H ids) with
   | some v=>some (v,H)
   | none=>none
 | .md ids id f=>if id < H.length then match f (blks H ids) with
   | some (v,b)=>some (v,H.set id b)
   | none=>none else none
 | .nw ids f=>match slot with
   | none=>match f (blks H ids) H.length 0 with
     | some (v,b)=>some (v,H++[b])
     | none=>none
   | some s=>match H[s]? with
     | some (.dead g)=>match f (blks H ids) s (g + 1) with
       | some (v,b)=>some (v,H.set s b)
       | none=>none
     | _=>none
 | .call f args=>call f args H
 | .pcall f args=>match (if f.plain && AV.plains args then call f args [] else none) with
   | some (v,[])=>if v.plain then some (v,H) else none
   | _=>none
def look (L:List (Nat×AV)) (T:Tm) (t:Nat):AV:=
 match L with
 | []=>T.get t
 | (u,v)::L=>if u=t then v else look L T t
def evalA (L:List (Nat×AV)) (T:Tm):AOperand→AV
 | .tmp t=>look L T t
 | .const v=>v
 | .func f=>.func f [] []
structure RSt where
 loc:List (Nat×AV)
 tm:Tm
 heap:Heap
def RSt.put (s:RSt) (o:AOper) (v:AV) (H:Heap):RSt:=
 match o.dst with
 | none=>{ s with heap:=H }
 | some d=>if o.keep then { s with tm:=s.tm.put d v,heap:=H } else { s with loc:=(d,v)::s.loc,heap:=H }
abbrev AV.skipped:AV:=.tuple []
def z93 (s:RSt) (o:AOper):Option Bool:=
 match o.guard with
 | none=>some true
 | some (t,w)=>match look s.loc s.tm t with
   | .bool b=>some (b == w)
   | .tuple []=>some false
   | _=>none
def stepA (call:CallF) (slot:Option Nat) (o:AOper) (s:RSt):Option RSt:=
 match z93 s o with
 | some true=>match zd call slot s.heap (actOf (evalA s.loc s.tm) o.op) with
   | some (v,H)=>some (s.put o v H)
   | none=>none
 | some false=>some (s.put o .skipped s.heap)
 | none=>none
def zo5 (call:CallF):List AOper→RSt→Option RSt
 | [],s=>some s
 | o::os,s=>match stepA call none o s with
   | some s'=>zo5 call os s'
   | none=>none
structure St where
 tm:Tm
 heap:Heap
 dfr:List (Nat×Nat)
 rnd:Option (Nat×Nat)
inductive Rec where
 | none
 | act (rd:List Nat) (wr:Option Nat) (again:Heap→Option AV) (v:AV) (one:Blk→Option AV) (turn:Option (Blk×Blk))
 | call (pre post:Heap)
def recOf (slot:Nat) (H H':Heap) (v:AV):Action→Rec
 | .bad | .val _ | .pcall _ _=>.none
 | .rd ids f=>.act ids none (fun h=>f (blks h ids)) v (fun b=>f [b]) none
 | .md ids id _=>.act ids (some id) (fun _=>none) v (fun _=>none) (some (H.getD id (.dead 0),H'.getD id (.dead 0)))
 | .nw ids _=>.act ids (some slot) (fun _=>none) v (fun _=>none) none
 | .call _ _=>.call H H'
def zsk:Option AV→AV→Bool
 | some a,b=>a.beq b
 | none,_=>false
def z1d (one:Blk→Option AV) (v:AV):Option (Blk×Blk)→Bool
 | some (b0,b1)=>zsk (one b0) v && zsk (one b1) v
 | none=>false
def Rec.indep:Rec→Rec→Bool
 | .none,_ | _, .none=>true
 | .act r w _ v one c, .act r' w' _ v' one' c'=>
   ((match w with | .some i => !r'.contains i && w' != .some i | .none=>true) && (match w' with | .some i => !r.contains i | .none=>true)) ||
   (w.isNone && r == w'.toList && z1d one v c') || (w'.isNone && r' == w.toList && z1d one' v' c)
 | .act _ w again v _ _, .call pre post | .call pre post, .act _ w again v _ _=>w.isNone && zsk (again pre) v && zsk (again post) v
 | .call .., .call ..=>false
def zf5 (call:CallF) (slot:Nat) (o:AOper) (s:RSt):Option (RSt×Rec):=
 match z93 s o with
 | some true=>match zd call (some slot) s.heap (actOf (evalA s.loc s.tm) o.op) with
   | some (v,H)=>some (s.put o v H,recOf slot s.heap H v (actOf (evalA s.loc s.tm) o.op))
   | none=>none
 | some false=>some (s.put o .skipped s.heap, .none)
 | none=>none
def AOp.makes:AOp→Bool
 | .alloc _ | .box .. | .buildSlice .. | .makeMap | .makeSlice .. | .append ..=>true
 | _=>false
def z1c (base:Nat):List AOper→List Nat
 | []=>[]
 | o::os=>base::z1c (if o.op.makes then base + 1 else base) os
def z2c (ops:List AOper):Nat:=(ops.filter fun o=>o.op.makes).length
def zr2 (call:CallF):List (Nat×AOper)→RSt→Option (RSt×List Rec)
 | [],s=>some (s,[])
 | (i,o)::os,s=>match zf5 call i o s with
   | some (s',r)=>match zr2 call os s' with
     | some (s'',rs)=>some (s'',r::rs)
     | none=>none
   | none=>none
def zu9 (rs:List Rec):List (Nat×Nat)→Bool
 | []=>true
 | (i,j)::ps=>(match rs[i]?,rs[j]? with | some a,some b=>a.indep b | _,_=>false) && zu9 rs ps
def aloop (f:St→Option (AExit×St)):Nat→St→Option (AExit×St)
 | 0,_=>none
 | n + 1,s=>match f s with
   | some (.normal,s')=>aloop f n s'
   | r=>r
def z1h:AV→Option Bool
 | .bool b=>some b
 | _=>none
def ztk:AV→Bool
 | .func ..=>true
 | _=>false
def zmi (H:Heap):Option (Nat×Nat)→Bool
 | none=>true
 | some (id,g)=>match H[id]? with
   | some (.loop g' ..)=>g == g'
   | _=>false
def exec (call:CallF) (lp:(St→Option (AExit×St))→St→Option (AExit×St)):ACode→St→Option (AExit×St)
 | .skip,s=>some (.normal,s)
 | .region ops,s=>match zo5 call ops { loc:=[],tm:=s.tm,heap:=s.heap } with
   | some r=>some (.normal,{ s with tm:=r.tm,heap:=r.heap })
   | none=>none
 | .draw ops pairs,s=>
   match zr2 call ((z1c s.heap.length ops).zip ops) { loc:=[],tm:=s.tm,heap:=s.heap++List.replicate (z2c ops) (.dead 0) } with
   | some (r,rs)=>if zu9 rs pairs then some (.normal,{ s with tm:=r.tm,heap:=r.heap }) else none
   | none=>none
 | .seq a b,s=>match exec call lp a s with
   | some (.normal,s')=>exec call lp b s'
   | r=>r
 | .cond c a b,s=>match z1h (evalA [] s.tm c) with
   | some true=>exec call lp a s
   | some false=>exec call lp b s
   | none=>none
 | .block id a,s=>match exec call lp a s with
   | some (.exit j,s')=>if j=id then some (.normal,s') else some (.exit j,s')
   | r=>r
 | .loop a,s=>lp (exec call lp a) s
 | .rangeFunc f ps a b,s=>
   let H1:=match s.rnd with | some _=>s.heap | none=>s.heap++[.defr 0]
   let D:=match s.rnd with | some _=>s.dfr | none=>(s.heap.length,0)::s.dfr
   let l:=H1.length
   match (if ztk (evalA [] s.tm f) && zmi s.heap s.rnd then call (evalA [] s.tm f) [.yieldf l 0] (H1++[.loop 0 .ready none s.tm ps a b]) else none) with
   | some (_,H3)=>match H3[l]? with
     | some (.loop 0 st pend _ _ _ _)=>if st=.busy then none else
      match pend with
      | none=>some (.normal,{ s with heap:=H3.set l (.dead 1),dfr:=D })
      | some e=>some (e,{ s with heap:=H3.set l (.dead 1),dfr:=D })
     | _=>none
   | none=>none
 | .exit id,s=>some (.exit id,s)
 | .ret,s=>some (.ret,s)
 | .bad,_=>none
def zx3 (f:AV→Option AV):List AV→Option (List AV)
 | []=>some []
 | v::vs=>match f v,zx3 f vs with
   | some v',some vs'=>some (v'::vs')
   | _,_=>none
def reify (H:Heap):Nat→AV→Option AV
 | 0,_=>none
 | k + 1,v=>if v.plain then some v else match v with
   | .sl id gen off len=>match H[id]? with
     | some (.arr g _ rows)=>if g=gen∧off + len≤rows.length then match zx3 (reify H k) ((rows.drop off).take len) with
       | some rs=>some (.fsl false rs)
       | none=>none else none
     | _=>none
   | .agg cs=>match zx3 (reify H k) cs with
     | some cs'=>some (.agg cs')
     | none=>none
   | .tuple vs=>match zx3 (reify H k) vs with
     | some vs'=>some (.tuple vs')
     | none=>none
   | .fsl l rs=>match zx3 (reify H k) rs with
     | some rs'=>some (.fsl l rs')
     | none=>none
   | _=>none
def zw:Nat:=12
def trunc (n:Nat) (r:AV) (H:Heap):AV×Heap:=
 if r.under n && (H.take n).all (Blk.under n) then (r,H.take n) else (r,H)
def zs8 (n:Nat) (H:Heap):Heap:=List.replicate n (.dead 0)++H.drop n
def freeze (n:Nat) (r:AV) (H:Heap):Option (AV×Heap):=
 if (H.take n).all (Blk.under n) then match reify (zs8 n H) zw r with
  | some r'=>some (r',H.take n)
  | none=>none else none
def zj (frz:Bool) (n:Nat) (r:AV) (H:Heap):AV×Heap:=if frz then match freeze n r H with
 | some x=>x
 | none=>trunc n r H else trunc n r H
def zcc (s:St):AResult→Option AV
 | .tmp t=>some (s.tm.get t)
 | .cell t agg n=>match s.tm.get t with
   | .ptr id gen row off=>match s.heap[id]? with
     | some (.arr g _ rows)=>if g=gen then match rows[row]? with
       | some r=>part agg n off r.cells
       | none=>none else none
     | _=>none
   | _=>none
def zm3 (s:St):List AResult→Option (List AV)
 | []=>some []
 | r::rs=>match zcc s r,zm3 s rs with
   | some v,some vs=>some (v::vs)
   | _,_=>none
def zn7:List AV→AV
 | [v]=>v
 | vs=>.tuple vs
def z89 (H:Heap):List (Nat×Nat)→Option Heap
 | []=>some H
 | (i,g)::ds=>match H[i]? with
   | some (.defr g')=>if g=g' then z89 (H.set i (.dead (g + 1))) ds else none
   | _=>none
abbrev LoopF:=(St→Option (AExit×St))→St→Option (AExit×St)
def z58 (call:CallF) (lp:LoopF) (af:AFunc) (args:List AV) (H:Heap):Option (AV×Heap):=
 if args.length=af.nargs then
  match exec call lp af.body { tm:=Tm.ofArgs .leaf 0 args,heap:=H,dfr:=[],rnd:=none } with
  | some (e,s)=>if e=.normal∨e=.ret then match z89 s.heap s.dfr with
    | some H'=>match zm3 { s with heap:=H' } af.results with
      | some vs=>some (zn7 vs,H')
      | none=>none
    | none=>none else none
  | none=>none
 else none
def zy (call:CallF) (lp:LoopF) (af:AFunc) (args:List AV):Option AV:=
 match z58 call lp af args [] with
 | some (r,H')=>reify H' zw r
 | none=>none
def zh5 (call:CallF) (lp:LoopF) (id gen:Nat) (args:List AV) (H:Heap):Option (AV×Heap):=
 match H[id]? with
 | some (.loop g _ _ tm ps a b)=>
   if g=gen∧args.length=ps.length then
    match exec call lp a { tm:=tm.puts ps args,heap:=H,dfr:=[],rnd:=some (id,gen) } with
    | some (.normal,s)=>match s.heap[id]? with
      | some (.loop g' .ready pd' tm' ps' a' b')=>if g'=gen then
        match exec call lp b { s with heap:=s.heap.set id (.loop g' .busy pd' tm' ps' a' b') } with
        | some (e,s')=>match s'.heap[id]? with
          | some (.loop g'' _ _ tm'' ps'' a'' b'')=>if g''=gen then
            (match e with
            | .normal=>some (.bool true,s'.heap.set id (.loop g'' .ready none tm'' ps'' a'' b''))
            | e=>some (.bool false,s'.heap.set id (.loop g'' .done (some e) tm'' ps'' a'' b'')))
            else none
          | _=>none
        | none=>none
        else none
      | _=>none
    | _=>none
   else none
 | _=>none
inductive AFun where
 | code (af:AFunc)
 | law (g:List AV→Option AV)
def z15 (tbl:FuncId→Option AFun) (call:CallF) (lp:LoopF):CallF:=fun fv args H=>
 match fv with
 | .func f first captured=>
   match tbl f with
   | some (.law g)=>if AV.plains (first++args++captured) then match g (first++args++captured) with
    | some r=>some (r,H)
    | none=>none else none
   | some (.code af)=>
     if af.pure then
      if AV.plains (first++args++captured) then
       if AV.unlents (first++args++captured) then match zy call lp af (first++args++captured) with
        | some r=>some (r,H)
        | none=>none
       else match zy call lp af (AV.lends (first++args++captured)) with
        | some r=>some (if r.unlent then r else r.lend,H)
        | none=>none
      else match zx3 (reify H zw) (first++args++captured) with
       | some args'=>match zy call lp af (AV.lends args') with
         | some r=>if r.unlent then some (r,H) else none
         | none=>none
       | none=>none
     else match z58 call lp af (first++args++captured) H with
      | some (r,H')=>some (zj af.frz H.length r H')
      | none=>none
   | none=>none
 | .yieldf id gen=>match zh5 call lp id gen args H with
   | some (r,H')=>some (trunc H.length r H')
   | none=>none
 | _=>none
def callK (tbl:FuncId→Option AFun):Nat→CallF
 | 0=>fun _ _ _=>none
 | k + 1=>z15 tbl (callK tbl k) (fun f=>aloop f k)
abbrev tt (n:Nat):AOperand:=.tmp n
abbrev ii (n:Int):AOperand:=.const (.int .i64 n)
abbrev uu (d:Nat) (o:AOp):AOper:=⟨some d,false,o,none⟩
abbrev kk (d:Nat) (o:AOp):AOper:=⟨some d,true,o,none⟩
abbrev nn (o:AOp):AOper:=⟨none,true,o,none⟩
abbrev ug (d:Nat) (o:AOp) (t:Nat) (b:Bool):AOper:=⟨some d,false,o,some (t,b)⟩
abbrev mV (d t:Nat):AOper:=⟨some d,false, .move (.tmp t),none⟩
abbrev kM (d t:Nat):AOper:=⟨some d,true, .move (.tmp t),none⟩
abbrev lD (d t:Nat):AOper:=⟨some d,false, .load false 1 (.tmp t),none⟩
abbrev fA (d n t:Nat):AOper:=⟨some d,false, .fieldAddr n (.tmp t),none⟩
abbrev iX (d n a b:Nat):AOper:=⟨some d,false, .indexAddr n (.tmp a) (.tmp b),none⟩
abbrev lN (d a:Nat):AOper:=⟨some d,false, .len .slice (.tmp a),none⟩
abbrev gV (d t g:Nat) (b:Bool):AOper:=⟨some d,false, .move (.tmp t),some (g,b)⟩
abbrev iC (d t:Nat):AOper:=⟨some d,false, .bin .add .no (.tmp t) (.const (.int .i64 1)),none⟩
abbrev RR:=ACode.region
abbrev SS:=ACode.seq
end Go.Abs
namespace Go.Abs
open Go.RowKit
structure Loc where
 b:Nat
 o:Nat
 sz:Nat
 cap:Nat
 gen:Nat
 deriving Inhabited
abbrev Frz:=Bool→Nat→Option Obj
def fcell (φ:Frz) (k:Bool) (b off:Nat):Option Value:=
 match φ k b with
 | some (.cells c _ _)=>c[off]?
 | _=>none
inductive VR (φ:Frz) (μ:List Loc):AV→Value→Prop
 | undef (v:Value):VR φ μ .undef v
 | bool (b:Bool):VR φ μ (.bool b) (.bool b)
 | int (k:IntKind) (n:Int):VR φ μ (.int k n) (.int k n)
 | str (s:ByteArray):VR φ μ (.str s) (.string s)
 | nilptr:VR φ μ .nilptr (.pointer none)
 | ptr {id gen row off:Nat} {l:Loc} {a:Addr} (hl:μ[id]? = some l) (hg:gen≤l.gen)
  (ha:l.gen=gen→a=⟨l.b,l.o + row * l.sz + off,none⟩):VR φ μ (.ptr id gen row off) (.pointer (some a))
 | fptr {lent:Bool} {cs:List AV} {off b o:Nat} (vs:Nat→Value) (hk:cs.all AV.isCell=true) (hc:∀ (i:Nat) (x:AV),cs[i]? = some x→fcell φ lent b (o + i)=some (vs i))
  (hv:∀ (i:Nat) (x:AV),cs[i]? = some x→VR φ μ x (vs i)):VR φ μ (.fptr lent cs off) (.pointer (some ⟨b,o + off,none⟩))
 | nilsl:VR φ μ .nilsl (.slice none 0 0)
 | fslNil {lent:Bool} {a:Option Addr}:VR φ μ (.fsl lent []) (.slice a 0 0)
 | fsl {lent:Bool} {rows:List AV} {sz b o n cap:Nat} (vs:Nat→Nat→Value) (hn:rows.length=n) (hr:∀ r∈rows,r.rowok sz=true)
  (hc:∀ (i:Nat) (r:AV) (j:Nat) (x:AV),rows[i]? = some r→r.cells[j]? = some x→fcell φ lent b (o + i * sz + j)=some (vs i j))
  (hv:∀ (i:Nat) (r:AV) (j:Nat) (x:AV),rows[i]? = some r→r.cells[j]? = some x→VR φ μ x (vs i j)) (hcap:n≤cap) :
  VR φ μ (.fsl lent rows) (.slice (some ⟨b,o,none⟩) n cap)
 | sl {id gen off len cap:Nat} {l:Loc} {a:Addr} (hl:μ[id]? = some l) (hg:gen≤l.gen) (hlc:len≤cap)
  (ha:l.gen=gen→(cap≠0→a=⟨l.b,l.o + off * l.sz,none⟩)∧cap + off=l.cap):VR φ μ (.sl id gen off len) (.slice (some a) len cap)
 | nilmap:VR φ μ .nilmap (.map none)
 | map {id gen r:Nat} {l:Loc} (hl:μ[id]? = some l) (hg:gen≤l.gen) (ha:l.gen=gen→r=l.b):VR φ μ (.map id gen) (.map (some r))
 | nilfunc:VR φ μ .nilfunc .nilFunc
 | func {f:FuncId} {a b:List AV} {va vb:List Value} (la:a.length=va.length) (lb:b.length=vb.length)
  (ha:∀ (i:Nat) (x:AV) (v:Value),a[i]? = some x→va[i]? = some v→VR φ μ x v) (hb:∀ (i:Nat) (x:AV) (v:Value),b[i]? = some x→vb[i]? = some v→VR φ μ x v) :
  VR φ μ (.func f a b) (.func (.func f) va.toArray vb.toArray)
 | yieldf {id gen r:Nat} {l:Loc} (hl:μ[id]? = some l) (hg:gen≤l.gen) (ha:l.gen=gen→r=l.b) :
  VR φ μ (.yieldf id gen) (.func (.yield r) #[] #[])
 | niliface:VR φ μ .niliface .nilIface
 | iface {t:TypeId} {x:AV} {v:Value} (hx:x≠.undef) (h:VR φ μ x v):VR φ μ (.iface t x) (.iface t v)
 | agg {cs:List AV} {vs:List Value} (hl:cs.length=vs.length) (h:∀ (i:Nat) (x:AV) (v:Value),cs[i]? = some x→vs[i]? = some v→VR φ μ x v) :
  VR φ μ (.agg cs) (.agg vs.toArray)
 | tuple {cs:List AV} {vs:List Value} (hl:cs.length=vs.length) (h:∀ (i:Nat) (x:AV) (v:Value),cs[i]? = some x→vs[i]? = some v→VR φ μ x v) :
  VR φ μ (.tuple cs) (.tuple vs.toArray)
def VRs (φ:Frz) (μ:List Loc) (l:List AV) (vs:List Value):Prop:=
 l.length=vs.length∧∀ (i:Nat) (x:AV) (v:Value),l[i]? = some x→vs[i]? = some v→VR φ μ x v
def MExt (μ μ':List Loc):Prop:=
 μ.length≤μ'.length∧∀ (id:Nat) (l:Loc),μ[id]? = some l→∃ l':Loc,μ'[id]? = some l'∧l.gen≤l'.gen∧(l'.gen=l.gen→l'=l)
def FExt (φ φ':Frz):Prop:=∀ k b o,φ k b=some o→φ' k b=some o
theorem MExt.refl (μ:List Loc):MExt μ μ:=⟨Nat.le_refl _,fun _ l h=>⟨l,h,Nat.le_refl _,fun _=>rfl⟩⟩
theorem FExt.refl (φ:Frz):FExt φ φ:=fun _ _ _ h=>h
theorem FExt.trans {a b c:Frz} (h:FExt a b) (h':FExt b c):FExt a c:=fun k x o hx=>h' k x o (h k x o hx)
theorem MExt.trans {a b c:List Loc} (h:MExt a b) (h':MExt b c):MExt a c:=by
 refine ⟨Nat.le_trans h.1 h'.1,fun id l hl=>?_⟩
 obtain ⟨l1,h1,g1,e1⟩:=h.2 id l hl
 obtain ⟨l2,h2,g2,e2⟩:=h'.2 id l1 h1
 refine ⟨l2,h2,by omega,fun he=>?_⟩
 have:l1.gen=l.gen:=by omega
 rw [e2 (by omega),e1 this]
theorem zni {φ φ':Frz} (h:FExt φ φ') {k:Bool} {b o:Nat} {v:Value} (hc:fcell φ k b o=some v):fcell φ' k b o=some v:=by
 unfold fcell at *
 cases hb:φ k b with
 | none=>rw [hb] at hc; simp at hc
 | some ob=>rw [hb] at hc; rw [h k b ob hb]; exact hc
theorem VR.mono {φ φ':Frz} {μ μ':List Loc} (hf:FExt φ φ') (hm:MExt μ μ') {a:AV} {v:Value} (h:VR φ μ a v):VR φ' μ' a v:=by
 induction h with
 | undef v=>exact .undef v
 | bool b=>exact .bool b
 | int k n=>exact .int k n
 | str s=>exact .str s
 | nilptr=>exact .nilptr
 | ptr hl hg ha=>
   obtain ⟨l',hl',g,e⟩:=hm.2 _ _ hl
   exact .ptr hl' (by omega) (fun he=>by have:=e (by omega); subst this; exact ha he)
 | fptr vs hk hc _ ih=>exact .fptr vs hk (fun i x hx=>zni hf (hc i x hx)) ih
 | nilsl=>exact .nilsl
 | fslNil=>exact .fslNil
 | fsl vs hn hr hc _ hcap ih=>exact .fsl vs hn hr (fun i r j x h1 h2=>zni hf (hc i r j x h1 h2)) ih hcap
 | sl hl hg hlc ha=>
   obtain ⟨l',hl',g,e⟩:=hm.2 _ _ hl
   exact .sl hl' (by omega) hlc (fun he=>by have:=e (by omega); subst this; exact ha he)
 | nilmap=>exact .nilmap
 | map hl hg ha=>
   obtain ⟨l',hl',g,e⟩:=hm.2 _ _ hl
   exact .map hl' (by omega) (fun he=>by have:=e (by omega); subst this; exact ha he)
 | nilfunc=>exact .nilfunc
 | func la lb _ _ iha ihb=>exact .func la lb iha ihb
 | yieldf hl hg ha=>
   obtain ⟨l',hl',g,e⟩:=hm.2 _ _ hl
   exact .yieldf hl' (by omega) (fun he=>by have:=e (by omega); subst this; exact ha he)
 | niliface=>exact .niliface
 | iface hx _ ih=>exact .iface hx ih
 | agg hl _ ih=>exact .agg hl ih
 | tuple hl _ ih=>exact .tuple hl ih
theorem z66 {n:Nat}:∀ {l:List AV} {i:Nat} {x:AV},AV.unders n l=true→l[i]? = some x→x.under n=true
 | [],i,x,_,h=>by simp at h
 | a::l,0,x,h,hx=>by simp [AV.unders] at h hx; subst hx; exact h.1
 | a::l,i + 1,x,h,hx=>by
   simp [AV.unders] at h hx
   exact z66 h.2 hx
theorem zb5:∀ {l:List AV} {i:Nat} {x:AV},AV.plains l=true→l[i]? = some x→x.plain=true
 | [],i,x,_,h=>by simp at h
 | a::l,0,x,h,hx=>by simp [AV.plains] at h hx; subst hx; exact h.1
 | a::l,i + 1,x,h,hx=>by
   simp [AV.plains] at h hx
   exact zb5 h.2 hx
theorem zuk {n:Nat} {r:AV} (h:r.under n=true) {j:Nat} {x:AV} (hx:r.cells[j]? = some x):x.under n=true:=by
 cases r <;> first
  | (simp only [AV.cells] at hx; cases j with
   | zero=>simp at hx; subst hx; exact h
   | succ j=>simp at hx)
  | (simp only [AV.cells] at hx; simp only [AV.under] at h; exact z66 h hx)
theorem zvk {r:AV} (h:r.plain=true) {j:Nat} {x:AV} (hx:r.cells[j]? = some x):x.plain=true:=by
 cases r <;> first
  | (simp only [AV.cells] at hx; cases j with
   | zero=>simp at hx; subst hx; exact h
   | succ j=>simp at hx)
  | (simp only [AV.cells] at hx; simp only [AV.plain] at h; exact zb5 h hx)
theorem VR.cut {φ:Frz} {μ μ':List Loc} {n:Nat} (hμ:∀ i:Nat,i < n→μ'[i]? = μ[i]?) {a:AV} {v:Value} (h:VR φ μ a v):a.under n=true→VR φ μ' a v:=by
 induction h with
 | undef v=>exact fun _=>.undef v
 | bool b=>exact fun _=>.bool b
 | int k n=>exact fun _=>.int k n
 | str s=>exact fun _=>.str s
 | nilptr=>exact fun _=>.nilptr
 | ptr hl hg ha=>intro hu; simp [AV.under] at hu; exact .ptr (by rw [hμ _ hu]; exact hl) hg ha
 | fptr vs hk hc _ ih=>intro hu; simp only [AV.under] at hu; exact .fptr vs hk hc (fun i x hx=>ih i x hx (z66 hu hx))
 | nilsl=>exact fun _=>.nilsl
 | fslNil=>exact fun _=>.fslNil
 | fsl vs hn hr hc _ hcap ih=>
   intro hu; simp only [AV.under] at hu
   exact .fsl vs hn hr hc (fun i r j x h1 h2=>ih i r j x h1 h2 (zuk (z66 hu h1) h2)) hcap
 | sl hl hg hlc ha=>intro hu; simp [AV.under] at hu; exact .sl (by rw [hμ _ hu]; exact hl) hg hlc ha
 | nilmap=>exact fun _=>.nilmap
 | map hl hg ha=>intro hu; simp [AV.under] at hu; exact .map (by rw [hμ _ hu]; exact hl) hg ha
 | nilfunc=>exact fun _=>.nilfunc
 | func la lb _ _ iha ihb=>
   intro hu; simp [AV.under] at hu
   exact .func la lb (fun i x v h1 h2=>iha i x v h1 h2 (z66 hu.1 h1)) (fun i x v h1 h2=>ihb i x v h1 h2 (z66 hu.2 h1))
 | yieldf hl hg ha=>intro hu; simp [AV.under] at hu; exact .yieldf (by rw [hμ _ hu]; exact hl) hg ha
 | niliface=>exact fun _=>.niliface
 | iface hx _ ih=>intro hu; simp only [AV.under] at hu; exact .iface hx (ih hu)
 | agg hl _ ih=>intro hu; simp only [AV.under] at hu; exact .agg hl (fun i x v h1 h2=>ih i x v h1 h2 (z66 hu h1))
 | tuple hl _ ih=>intro hu; simp only [AV.under] at hu; exact .tuple hl (fun i x v h1 h2=>ih i x v h1 h2 (z66 hu h1))
theorem VR.plainly {φ:Frz} {μ μ':List Loc} {a:AV} {v:Value} (h:VR φ μ a v):a.plain=true→VR φ μ' a v:=by
 induction h with
 | undef v=>exact fun _=>.undef v
 | bool b=>exact fun _=>.bool b
 | int k n=>exact fun _=>.int k n
 | str s=>exact fun _=>.str s
 | nilptr=>exact fun _=>.nilptr
 | ptr hl hg ha=>intro hu; simp [AV.plain] at hu
 | fptr vs hk hc _ ih=>intro hu; simp only [AV.plain] at hu; exact .fptr vs hk hc (fun i x hx=>ih i x hx (zb5 hu hx))
 | nilsl=>exact fun _=>.nilsl
 | fslNil=>exact fun _=>.fslNil
 | fsl vs hn hr hc _ hcap ih=>
   intro hu; simp only [AV.plain] at hu
   exact .fsl vs hn hr hc (fun i r j x h1 h2=>ih i r j x h1 h2 (zvk (zb5 hu h1) h2)) hcap
 | sl hl hg hlc ha=>intro hu; simp [AV.plain] at hu
 | nilmap=>exact fun _=>.nilmap
 | map hl hg ha=>intro hu; simp [AV.plain] at hu
 | nilfunc=>exact fun _=>.nilfunc
 | func la lb _ _ iha ihb=>
   intro hu; simp [AV.plain] at hu
   exact .func la lb (fun i x v h1 h2=>iha i x v h1 h2 (zb5 hu.1 h1)) (fun i x v h1 h2=>ihb i x v h1 h2 (zb5 hu.2 h1))
 | yieldf hl hg ha=>intro hu; simp [AV.plain] at hu
 | niliface=>exact fun _=>.niliface
 | iface hx _ ih=>intro hu; simp only [AV.plain] at hu; exact .iface hx (ih hu)
 | agg hl _ ih=>intro hu; simp only [AV.plain] at hu; exact .agg hl (fun i x v h1 h2=>ih i x v h1 h2 (zb5 hu h1))
 | tuple hl _ ih=>intro hu; simp only [AV.plain] at hu; exact .tuple hl (fun i x v h1 h2=>ih i x v h1 h2 (zb5 hu h1))
theorem VRs.nil {φ:Frz} {μ:List Loc}:VRs φ μ [] []:=⟨rfl,fun i x v h=>by simp at h⟩
theorem VRs.cons {φ:Frz} {μ:List Loc} {x:AV} {v:Value} {l:List AV} {vs:List Value} (h:VR φ μ x v) (hs:VRs φ μ l vs):VRs φ μ (x::l) (v::vs):=by
 refine ⟨by simp [hs.1],fun i y u h1 h2=>?_⟩
 cases i with
 | zero=>simp at h1 h2; subst h1; subst h2; exact h
 | succ i=>simp at h1 h2; exact hs.2 i y u h1 h2
theorem VRs.append {φ:Frz} {μ:List Loc}:∀ {l:List AV} {vs:List Value} {l':List AV} {vs':List Value},VRs φ μ l vs→VRs φ μ l' vs'→VRs φ μ (l++l') (vs++vs'):=by
 intro l vs l' vs' h h'
 refine ⟨by simp [h.1,h'.1],fun i y u h1 h2=>?_⟩
 by_cases hi:i < l.length
 ·rw [List.getElem?_append_left hi] at h1
  rw [List.getElem?_append_left (by rw [← h.1]; exact hi)] at h2
  exact h.2 i y u h1 h2
 ·rw [List.getElem?_append_right (by omega)] at h1
  rw [List.getElem?_append_right (by rw [← h.1]; omega),← h.1] at h2
  exact h'.2 _ y u h1 h2
theorem VR.cells {φ:Frz} {μ:List Loc} {x:AV} {v:Value} (h:VR φ μ x v) (hx:x.rowok x.cells.length=true):VRs φ μ x.cells v.cells.toList:=by
 cases h <;> first
  | (rename_i cs vs hl h; simp only [AV.cells,Value.cells,List.toList_toArray]; exact ⟨hl,h⟩)
  | (simp [AV.rowok,AV.cells,AV.isCell] at hx; done)
  | (simp only [AV.cells,Value.cells]; exact VRs.cons (by constructor <;> assumption) .nil)
theorem z7o {φ:Frz} {μ:List Loc} {x:AV} {v:Value} (h:VR φ μ x v) (hx:x.isCell=true):v.oneCell'=true:=by
 cases h <;> first
  | rfl
  | (simp [AV.isCell] at hx; done)
structure ArrR (φ:Frz) (μ:List Loc) (w:World) (rows:List AV) (l:Loc):Prop where
 pos:1≤l.sz
 ok:∀ r∈rows,r.rowok l.sz=true
 cap:rows.length≤l.cap
 mem:∃ c t,w.heap[l.b]? = some (.cells c t (0,0))∧l.o + l.cap * l.sz≤c.size ∧
  ∀ (i:Nat) (r:AV) (j:Nat) (x:AV),rows[i]? = some r→r.cells[j]? = some x→∃ v,c[l.o + i * l.sz + j]? = some v∧VR φ μ x v
structure EntR (φ:Frz) (μ:List Loc) (e:MEnt) (f:MapEntry):Prop where
 key:VR φ μ e.key f.key
 val:VR φ μ e.val f.val
 born:e.born=f.born
def EntsR (φ:Frz) (μ:List Loc) (es:List MEnt) (fs:List MapEntry):Prop:=
 es.length=fs.length∧∀ (i:Nat) (e:MEnt) (f:MapEntry),es[i]? = some e→fs[i]? = some f→EntR φ μ e f
def pendR:Option AExit→Option Code→Prop
 | none,none=>True
 | some .ret,some .ret=>True
 | some (.exit i),some (.exit j)=>i=j
 | _,_=>False
abbrev CRel:=Loop→Tm→List Nat→ACode→ACode→Prop
structure LoopR (CR:CRel) (φ:Frz) (μ:List Loc) (st:LoopState) (pend:Option AExit) (tm:Tm) (ps:List Nat) (a b:ACode) (lp:Loop):Prop where
 st:lp.state=st
 pend:pendR pend lp.pending
 slots:∀ t,VR φ μ (tm.get t) (lp.tmps.getD t undef)
 params:lp.params.toList=ps
 code:CR lp tm ps a b
inductive BR (CR:CRel) (φ:Frz) (μ:List Loc) (w:World) (l:Loc):Blk→Prop
 | dead (g:Nat):BR CR φ μ w l (.dead g)
 | arr {g sz:Nat} {rows:List AV} (hs:l.sz=sz) (h:ArrR φ μ w rows l):BR CR φ μ w l (.arr g sz rows)
 | map {g:Nat} {es:List MEnt} {clock:Nat} {fs:Array MapEntry} (h:w.heap[l.b]? = some (.map fs clock)) (he:EntsR φ μ es fs.toList):BR CR φ μ w l (.map g es clock)
 | loop {g:Nat} {st:LoopState} {pend:Option AExit} {tm:Tm} {ps:List Nat} {a b:ACode} {lp:Loop} (h:w.heap[l.b]? = some (.loop lp)) (hl:LoopR CR φ μ st pend tm ps a b lp) :
  BR CR φ μ w l (.loop g st pend tm ps a b)
 | defr {g:Nat} (h:w.heap[l.b]? = some (.deferred (some []))):BR CR φ μ w l (.defr g)
 | iterNil {g since last:Nat} {seen:List Nat} {s2 l2:Nat} {n2:Array Nat} (h:w.heap[l.b]? = some (.mapIter none s2 n2 l2)) (ho:l.o=0):BR CR φ μ w l (.iter g .nilmap since seen last)
 | iter {g since last:Nat} {seen:List Nat} {mv:AV} {m:Nat} (h:w.heap[l.b]? = some (.mapIter (some m) since seen.toArray last)) (hm:VR φ μ mv (.map (some m))) (ho:l.o=0):BR CR φ μ w l (.iter g mv since seen last)
def Blk.live:Blk→Bool
 | .dead _=>false
 | _=>true
structure BaseW extends World where
 φ0:Frz
structure WR (CR:CRel) (W:BaseW) (φ:Frz) (μ:List Loc) (H:Heap) (w:World):Prop where
 below:Below W.heap.size W.toWorld w
 base:∀ k b,b < W.heap.size→φ k b=W.φ0 k b
 frz:∀ k b o,φ k b=some o→w.heap[b]? = some o
 sub:∀ b o,φ false b=some o→φ true b=some o
 len:μ.length=H.length
 gen:∀ (id:Nat) (B:Blk) (l:Loc),H[id]? = some B→μ[id]? = some l→B.gen=l.gen
 own:∀ (id:Nat) (B:Blk) (l:Loc),H[id]? = some B→μ[id]? = some l→B.live=true→W.heap.size≤l.b∧l.b < w.heap.size∧∀ k,φ k l.b=none
 blk:∀ (id:Nat) (B:Blk) (l:Loc),H[id]? = some B→μ[id]? = some l→BR CR φ μ w l B
 apart:∀ (i j:Nat) (Bi Bj:Blk) (li lj:Loc),i≠j→H[i]? = some Bi→H[j]? = some Bj→μ[i]? = some li→μ[j]? = some lj→Bi.live=true→Bj.live=true→li.b≠lj.b
theorem ArrR.mono {φ φ':Frz} {μ μ':List Loc} {w w':World} {rows:List AV} {l:Loc} (hf:FExt φ φ') (hm:MExt μ μ') (hw:w'.heap[l.b]? = w.heap[l.b]?) (h:ArrR φ μ w rows l):ArrR φ' μ' w' rows l:=by
 obtain ⟨p,ok,cap,c,t,hc,hs,hv⟩:=h
 exact ⟨p,ok,cap,c,t,by rw [hw]; exact hc,hs,fun i r j x h1 h2=>let ⟨v,e,hx⟩:=hv i r j x h1 h2; ⟨v,e,hx.mono hf hm⟩⟩
theorem BR.mono {CR:CRel} {φ φ':Frz} {μ μ':List Loc} {w w':World} {B:Blk} {l:Loc} (hf:FExt φ φ') (hm:MExt μ μ') (hw:w'.heap[l.b]? = w.heap[l.b]?) (h:BR CR φ μ w l B):BR CR φ' μ' w' l B:=by
 cases h with
 | dead g=>exact .dead g
 | arr hs h=>exact .arr hs (h.mono hf hm hw)
 | map h he=>exact .map (by rw [hw]; exact h) ⟨he.1,fun i e f h1 h2=>let k:=he.2 i e f h1 h2; ⟨k.key.mono hf hm,k.val.mono hf hm,k.born⟩⟩
 | loop h hl=>exact .loop (by rw [hw]; exact h) ⟨hl.st,hl.pend,fun t=>(hl.slots t).mono hf hm,hl.params,hl.code⟩
 | defr h=>exact .defr (by rw [hw]; exact h)
 | iterNil h ho=>exact .iterNil (by rw [hw]; exact h) ho
 | iter h hv ho=>exact .iter (by rw [hw]; exact h) (hv.mono hf hm) ho
end Go.Abs
namespace Go.Abs
mutual
def za3:Value→Option AV
 | .bool b=>some (.bool b)
 | .int k n=>some (.int k n)
 | .string s=>some (.str s)
 | .pointer none=>some .nilptr
 | .slice none 0 0=>some .nilsl
 | .map none=>some .nilmap
 | .nilFunc=>some .nilfunc
 | .nilIface=>some .niliface
 | .agg ⟨cs⟩=>match z2h cs with
   | some l=>some (.agg l)
   | none=>none
 | .tuple ⟨[]⟩=>some (.tuple [])
 | _=>none
def z2h:List Value→Option (List AV)
 | []=>some []
 | v::vs=>match za3 v,z2h vs with
   | some x,some xs=>some (x::xs)
   | _,_=>none
end
def z7:Operand→Option AOperand
 | .tmp t=>some (.tmp t)
 | .const v=>match za3 v with
   | some x=>some (.const x)
   | none=>none
 | .func f=>some (.func f)
 | .global _=>none
def z32:List Operand→Option (List AOperand)
 | []=>some []
 | x::xs=>match z7 x,z32 xs with
   | some y,some ys=>some (y::ys)
   | _,_=>none
def TypeDesc.isAgg:TypeDesc→Bool
 | .struct _ | .array _ _=>true
 | _=>false
def z68 (P:Program) (t:TypeId):Option (Bool×Nat):=
 match P.underlying t,P.info? t with
 | some d,some i=>some (TypeDesc.isAgg d,i.size)
 | _,_=>none
def ze9 (P:Program) (t:TypeId):Option AV:=
 match P.info? t with
 | some i=>match i.zero with
   | some z=>match za3 z with
     | some x=>if x.cells.all AV.isCell && x.cells.length == i.size && 1≤i.size then some x else none
     | none=>none
   | none=>none
 | none=>none
mutual
/-- The kinds of a type's cells, if all are basic and '==' is theirs. -/
def z25 (P:Program):Nat→TypeId→Option (List CK)
 | 0,_=>none
 | d + 1,t=>match P.underlying t,P.info? t with
   | some .bool,some i=>if i.size=1 then some [.bool] else none
   | some (.int _),some i=>if i.size=1 then some [.int] else none
   | some .string,some i=>if i.size=1 then some [.str] else none
   | some (.struct fs),some i=>if P.stoodInHeld t=false then match zt2 P d fs.toList 0 with
     | some ks=>if ks.length=i.size then some ks else none
     | none=>none else none
   | _,_=>none
def zt2 (P:Program):Nat→List Field→Nat→Option (List CK)
 | 0,_,_=>none
 | _ + 1,[],_=>some []
 | d + 1, f :: fs, n => if f.offset = n ∧ f.name ≠ "_" then match z25 P d f.type, zt2 P (d + 1) fs (n + ((z25 P d f.type).getD []).length) with
   | some ks,some ls=>some (ks++ls)
   | _,_=>none else none
end
def zdc {α β:Type} (f:α→Option β):List α→Option (List β)
 | []=>some []
 | x::xs=>match f x,zdc f xs with
   | some y,some ys=>some (y::ys)
   | _,_=>none
def zf9 (k:TypeId→Option (List CK)):List Field→Nat→Option (List CK)
 | [],_=>some []
 | f :: fs, n => if f.offset = n ∧ f.name ≠ "_" then match k f.type, zf9 k fs (n + ((k f.type).getD []).length) with
   | some ks,some ls=>some (ks++ls)
   | _,_=>none else none
def zwk (P:Program):Nat→TypeId→Option (List CK)
 | 0,_=>none
 | 1,t=>match P.underlying t,P.info? t with
   | some .bool,some i=>if i.size=1 then some [.bool] else none
   | some (.int _),some i=>if i.size=1 then some [.int] else none
   | some .string,some i=>if i.size=1 then some [.str] else none
   | _,_=>none
 | d + 2,t=>match P.underlying t,P.info? t with
   | some .bool,some i=>if i.size=1 then some [.bool] else none
   | some (.int _),some i=>if i.size=1 then some [.int] else none
   | some .string,some i=>if i.size=1 then some [.str] else none
   | some (.struct fs),some i=>if P.stoodInHeld t=false then match zf9 (zwk P d) fs.toList 0 with
     | some ks=>if ks.length=i.size then some ks else none
     | none=>none else none
   | _,_=>none
theorem z8e {P:Program} {d:Nat} {k:TypeId→Option (List CK)} (hk:∀ t,k t=z25 P d t):∀ (fs:List Field) (n:Nat),zf9 k fs n=zt2 P (d + 1) fs n
 | [],n=>by simp [zf9,zt2]
 | f::fs,n=>by
   unfold zf9 zt2
   rw [hk,z8e hk fs]
theorem zxk (P:Program):∀ (d:Nat) (t:TypeId),zwk P d t=z25 P d t
 | 0,t=>by simp [zwk,z25]
 | 1,t=>by
   unfold zwk z25
   cases P.underlying t with
   | none=>rfl
   | some d=>cases d <;> cases P.info? t <;> simp [zt2]
 | d + 2,t=>by
   unfold zwk z25
   have:=fun fs n=>z8e (P:=P) (d:=d) (zxk P d) fs n
   simp only [this]
def zv9 (P:Program) (t:TypeId):Option (Bool×List CK):=
 match P.underlying t,zwk P 12 t with
 | some d,some ks=>some (TypeDesc.isAgg d,ks)
 | _,_=>none
def zjj (P:Program) (t:TypeId) (c:Bool):z6a:=
 match P.underlying t with
 | some .bool=>.bool
 | some (.pointer _)=>.ptr
 | some (.interface _)=>if c then .iface else .no
 | some (.slice _)=>.slice
 | some (.map _ _)=>.map
 | some (.func _ _ _)=>.func
 | some (.struct _)=>match zwk P 12 t with
   | some ks=>if P.eqGuardType P.depth t then .no else .cells ks
   | none=>.no
 | _=>.no
def z8o (P:Program) (fs:Array Field) (parts:List (Nat×Operand)):Option (List (Nat×Nat×AOperand)):=
 zdc (fun (p:Nat×Operand)=>match fs[p.1]?,z7 p.2 with
  | some f,some x=>match P.info? f.type with
    | some i=>some (f.offset,i.size,x)
    | none=>none
  | _,_=>none) parts
def z9o (P:Program) (e:TypeId):Bool:=match P.underlying e,P.info? e with
 | some (.int .u8),some i=>i.size == 1
 | _,_=>false
def zef (P:Program) (name:String) (t:TypeId):Option FuncId:=
 match P.underlying t,P.info? t with
 | some (.pointer _),some i=>match i.methods.find? (·.name == name) with
   | some m=>if m.path.isEmpty then match m.func with
     | some (f,true)=>some f
     | _=>none else none
   | none=>none
 | _,_=>none
def zyk (P:Program) (name:String):List (TypeId×FuncId):=
 (List.range P.types.size).filterMap fun t=>(zef P name t).map fun f=>(t,f)
def z53 (P:Program):Op→Option AOp
 | .move x | .assign x=>match z7 x with
   | some y=>some (.move y)
   | none=>none
 | .pick c a b=>match z7 c,z7 a,z7 b with
   | some c,some a,some b=>some (.pick c a b)
   | _,_,_=>none
 | .alloc t=>match ze9 P t with
   | some z=>some (.alloc z)
   | none=>none
 | .box t v=>match z68 P t,z7 v with
   | some (_,n),some x=>if 1≤n then some (.box n x) else none
   | _,_=>none
 | .build t parts=>match P.underlying t,ze9 P t with
   | some (.struct fs),some z=>match z8o P fs parts.toList with
     | some ps=>if fs.all (fun f=>(P.info? f.type).isSome) then some (.build z.cells ps) else none
     | none=>none
   | _,_=>none
 | .buildSlice t len parts=>match P.underlying t with
   | some (.slice e)=>match ze9 P e,zdc (fun (p:Nat×Operand)=>match z7 p.2 with
    | some x=>some (p.1,x)
    | none=>none) parts.toList with
     | some z,some ps=>if len * z.cells.length≤2 ^ 24 then some (.buildSlice z len ps) else none
     | _,_=>none
   | _=>none
 | .load t a=>match z68 P t,z7 a with
   | some (g,n),some x=>some (.load g n x)
   | _,_=>none
 | .store t a v=>match z68 P t,z7 a,z7 v with
   | some (_,n),some x,some y=>some (.store n x y)
   | _,_,_=>none
 | .nilCheck x=>match z7 x with
   | some y=>some (.nilCheck y)
   | none=>none
 | .binOp op t x y _=>match z7 x,z7 y with
   | some a,some b=>some (.bin op (zjj P t (Region.isConst x || Region.isConst y)) a b)
   | _,_=>none
 | .unOp op _ x=>match z7 x with
   | some y=>some (.un op y)
   | none=>none
 | .convert src dst x=>match P.underlying src,P.underlying dst,z7 x with
   | some (.int _),some (.int k),some y=>some (.toInt k y)
   | some .string,some .string,some y=>some (.strStr y)
   | some (.int _),some .string,some y=>some (.runeStr y)
   | some (.slice e),some .string,some y=>if z9o P e then some (.ofBytes y) else none
   | some .string,some (.slice e),some y=>if z9o P e then some (.toBytes y) else none
   | _,_,_=>none
 | .makeFunc (.func f) first captured=>match z32 first.toList,z32 captured.toList with
   | some a,some b=>some (.makeFunc f a b)
   | _,_=>none
 | .makeMap _ none=>some .makeMap
 | .makeSlice t l c=>match P.underlying t with
   | some (.slice e)=>match ze9 P e,P.info? e,z7 l,z7 c with
     | some z,some i,some a,some b=>some (.makeSlice z i.bytes a b)
     | _,_,_,_=>none
   | _=>none
 | .slice t x lo hi none=>match P.underlying t,z7 x,(match lo with | some v=>(z7 v).map some | none=>some none),(match hi with | some v=>(z7 v).map some | none=>some none) with
   | some .string,some y,some l,some h=>some (.slice 0 y l h)
   | some (.slice e),some y,some l,some h=>match P.info? e with
     | some i=>if 1≤i.size then some (.slice i.size y l h) else none
     | none=>none
   | _,_,_,_=>none
 | .fieldAddr s x f=>match P.underlying s,z7 x with
   | some (.struct fs),some y=>match fs[f]? with
     | some fd=>match P.info? fd.type with
       | some i=>if 1≤i.size then some (.fieldAddr fd.offset y) else none
       | none=>none
     | none=>none
   | _,_=>none
 | .field s x f=>match P.underlying s,z7 x with
   | some (.struct fs),some y=>match fs[f]? with
     | some fd=>match z68 P fd.type with
       | some (g,n)=>some (.field g n fd.offset y)
       | none=>none
     | none=>none
   | _,_=>none
 | .indexAddr t x i=>match P.underlying t,z7 x,z7 i with
   | some (.slice e),some y,some j=>match P.info? e with
     | some inf=>if 1≤inf.size then some (.indexAddr inf.size y j) else none
     | none=>none
   | _,_,_=>none
 | .index t x i=>match P.underlying t,z7 x,z7 i with
   | some .string,some y,some j=>some (.index y j)
   | _,_,_=>none
 | .lookup t m k ok=>match P.underlying t,z7 m,z7 k with
   | some (.map kt e),some x,some y=>match zv9 P kt,ze9 P e with
     | some (g,ks),some z=>some (.lookup g ks z x y ok)
     | _,_=>none
   | _,_,_=>none
 | .mapUpdate t m k v | .insert t m k v=>match P.underlying t,z7 m,z7 k,z7 v with
   | some (.map kt _),some x,some y,some z=>match zv9 P kt with
     | some (g,ks)=>some (.mapUpdate g ks x y z)
     | none=>none
   | _,_,_,_=>none
 | .mapEntry t m k=>match P.underlying t,z7 m,z7 k with
   | some (.map kt e),some x,some y=>match zv9 P kt,ze9 P e with
     | some (g,ks),some z=>some (.mapEntry g ks z x y)
     | _,_=>none
   | _,_,_=>none
 | .entryStore _ m s v=>match z7 m,z7 s,z7 v with
   | some x,some y,some z=>some (.entryStore x y z)
   | _,_,_=>none
 | .makeInterface t x=>match P.underlying t,z7 x with
   | some (.interface _),_=>none
   | some _,some y=>some (.makeInterface t y)
   | _,_=>none
 | .extract x i=>match z7 x with
   | some y=>some (.extract y i)
   | none=>none
 | .call c=>match c.callee with
   | .value f=>match z7 f,z32 c.args.toList with
     | some g,some as=>some (.call g as)
     | _,_=>none
   | .builtin .len=>match c.args.toList,c.argTypes.toList with
     | [x],[t]=>match z7 x,P.underlying t with
       | some y,some .string=>some (.len .str y)
       | some y,some (.slice _)=>some (.len .slice y)
       | some y,some (.map _ _)=>some (.len .map y)
       | _,_=>none
     | _,_=>none
   | .builtin .append=>match c.args.toList,c.argTypes.toList with
     | [x,y],[t,u]=>match z7 x,z7 y,P.underlying t,P.underlying u with
       | some a,some b,some (.slice e),some (.slice _)=>match P.info? e with
         | some i=>if 1≤i.size∧1≤i.bytes∧i.zero.any (fun z=>z.cells.size == i.size) then some (.append i.size i.bytes a b) else none
         | none=>none
       | _,_,_,_=>none
     | _,_=>none
   | .builtin .delete=>match c.args.toList,c.argTypes.toList with
     | [x,y],t::_=>match z7 x,z7 y,P.underlying t with
       | some a,some b,some (.map kt _)=>match zv9 P kt with
         | some (g,ks)=>some (.delete g ks a b)
         | none=>none
       | _,_,_=>none
     | _,_=>none
   | .builtin .max=>match z32 c.args.toList with
     | some xs=>some (.maxI xs)
     | none=>none
   | .invoke x name=>match z7 x,z32 c.args.toList with
     | some y,some xs=>some (.invoke (zyk P name) y xs)
     | _,_=>none
   | _=>none
 | .range t x=>match P.underlying t,z7 x with
   | some (.map _ _),some y=>some (.rangeM y)
   | _,_=>none
 | .next x false=>match z7 x with
   | some y=>some (.nextM y)
   | none=>none
 | .entry x=>match z7 x with
   | some y=>some (.entryM y)
   | none=>none
 | _=>none
def zao (p:Bool):AOp→AOp
 | .call f xs=>if p then .pcall f xs else .call f xs
 | o=>o
def zfz (kept:Nat→Bool):Option Nat→Bool
 | some d=>kept (d + 8000)
 | none=>false
theorem zkj (p:Bool) (o:AOp):zao p o=o∨∃ f xs,o=.call f xs∧zao p o=.pcall f xs:=by
 cases o <;> first | exact .inl rfl | skip
 rename_i f xs
 cases p
 ·exact .inl rfl
 ·exact .inr ⟨f,xs,rfl,rfl⟩
theorem zbo {p:Bool} {o:AOp} (h:zao p o≠.bad):o≠.bad:=by rintro rfl; exact h rfl
def zm (P:Program) (kept:Nat→Bool) (ops:Array Oper) (o:Oper):AOper:=
 match o.guard with
 | none=>{ dst:=o.dst,keep:=(o.dst.map kept).getD true,op:=zao (zfz kept o.dst) ((z53 P o.op).getD .bad),guard:=none }
 | some (j,w)=>match (ops[j]?).bind (·.dst) with
   | some d=>{ dst:=o.dst,keep:=(o.dst.map kept).getD true,op:=zao (zfz kept o.dst) ((z53 P o.op).getD .bad),guard:=some (d,w) }
   | none=>{ dst:=o.dst,keep:=(o.dst.map kept).getD true,op:=.bad,guard:=none }
end Go.Abs
namespace Go.Abs
open Go.RowKit
variable {CR:CRel} {P:Program} {W:BaseW} {w:World} {φ:Frz} {μ:List Loc} {H:Heap}
theorem WR.change {H':Heap} {μ':List Loc} {w':World} {k:Nat} {B:Blk} {l:Loc} (h:WR CR W φ μ H w)
 (hH:∀ id,id≠k→∀ b,H'[id]? = some b→H[id]? = some b) (hμ:∀ id:Nat,id≠k→∀ l,μ'[id]? = some l→μ[id]? = some l) (hk:H'[k]? = some B) (hlk:μ'[k]? = some l) (hlen:μ'.length=H'.length)
 (hext:MExt μ μ') (hbelow:Below W.heap.size w w') (hsame:∀ b,b < w.heap.size→b≠l.b→w'.heap[b]? = w.heap[b]?) (hfr:∀ k,φ k l.b=none)
 (hgen:B.gen=l.gen) (hown:W.heap.size≤l.b∧l.b < w'.heap.size) (hblk:BR CR φ μ' w' l B)
 (happ:∀ (id:Nat) (B':Blk) (l':Loc),id≠k→H[id]? = some B'→μ[id]? = some l'→B'.live=true→l'.b≠l.b):WR CR W φ μ' H' w':=by
 have hφ:∀ k b o,φ k b=some o→b≠l.b∧b < w.heap.size:=fun k b o hb=>by
  refine ⟨fun e=>by rw [e,hfr] at hb; simp at hb,?_⟩
  exact (Array.getElem?_eq_some_iff.1 (h.frz k b o hb)).1
 refine ⟨h.below.trans hbelow,h.base,fun k b o hb=>?_,h.sub,hlen,fun id B' l' h1 h2=>?_,fun id B' l' h1 h2 hv=>?_,fun id B' l' h1 h2=>?_,fun i j Bi Bj li lj hij h1 h2 h3 h4 h5 h6=>?_⟩
 ·rw [hsame b (hφ k b o hb).2 (hφ k b o hb).1]; exact h.frz k b o hb
 ·by_cases e:id=k
  ·subst e; rw [hk] at h1; rw [hlk] at h2; cases h1; cases h2; exact hgen
  ·exact h.gen id B' l' (hH id e _ h1) (hμ id e _ h2)
 ·by_cases e:id=k
  ·subst e; rw [hk] at h1; rw [hlk] at h2; cases h1; cases h2; exact ⟨hown.1,hown.2,hfr⟩
  ·have:=h.own id B' l' (hH id e _ h1) (hμ id e _ h2) hv
   exact ⟨this.1,Nat.lt_of_lt_of_le this.2.1 hbelow.size,this.2.2⟩
 ·by_cases e:id=k
  ·subst e; rw [hk] at h1; rw [hlk] at h2; cases h1; cases h2; exact hblk
  ·have hb:=h.blk id B' l' (hH id e _ h1) (hμ id e _ h2)
   by_cases hv:B'.live=true
   ·exact hb.mono (FExt.refl φ) hext (hsame _ (h.own id B' l' (hH id e _ h1) (hμ id e _ h2) hv).2.1 (happ id B' l' e (hH id e _ h1) (hμ id e _ h2) hv))
   ·cases hb <;> first | exact .dead _ | (simp [Blk.live] at hv; done)
 ·by_cases ei:i=k
  ·subst ei; rw [hk] at h1; rw [hlk] at h3; cases h1; cases h3
   have ej:j≠i:=fun e=>hij e.symm
   exact fun e=>happ j Bj lj ej (hH j ej _ h2) (hμ j ej _ h4) h6 e.symm
  ·by_cases ej:j=k
   ·subst ej; rw [hk] at h2; rw [hlk] at h4; cases h2; cases h4
    exact happ i Bi li ei (hH i ei _ h1) (hμ i ei _ h3) h5
   ·exact h.apart i j Bi Bj li lj hij (hH i ei _ h1) (hH j ej _ h2) (hμ i ei _ h3) (hμ j ej _ h4) h5 h6
theorem WR.world {w':World} (h:WR CR W φ μ H w) (hb:Below W.heap.size w w') (hh:w'.heap=w.heap):WR CR W φ μ H w':=by
 refine ⟨h.below.trans hb,h.base,fun k b o hb=>by rw [hh]; exact h.frz k b o hb,h.sub,h.len,h.gen,fun id B l h1 h2 h3=>by rw [hh]; exact h.own id B l h1 h2 h3,
  fun id B l h1 h2=>(h.blk id B l h1 h2).mono (FExt.refl φ) (MExt.refl μ) (by rw [hh]),h.apart⟩
theorem WR.fresh (h:WR CR W φ μ H w) (k:Bool):φ k w.heap.size=none:=by
 cases hb:φ k w.heap.size with
 | none=>rfl
 | some o=>have:=h.frz _ _ o hb; simp at this
inductive Place (H:Heap):Option Nat→Nat→Nat→Prop
 | back:Place H none H.length 0
 | kept {s g:Nat} (h:H[s]? = some (.dead g)):Place H (some s) s (g + 1)
def putAt (slot:Option Nat) (H:Heap) (b:Blk):Heap:=
 match slot with
 | none=>H++[b]
 | some s=>H.set s b
def locAt (slot:Option Nat) (μ:List Loc) (l:Loc):List Loc:=
 match slot with
 | none=>μ++[l]
 | some s=>μ.set s l
theorem zp5 (h:WR CR W φ μ H w) {slot:Option Nat} {k g:Nat} (hp:Place H slot k g) {l:Loc} (hg:l.gen=g):MExt μ (locAt slot μ l):=by
 cases hp with
 | back=>exact ⟨by simp [locAt],fun id l' hl=>⟨l',by simp [locAt,List.getElem?_append_left (List.getElem?_eq_some_iff.1 hl).1,hl],Nat.le_refl _,fun _=>rfl⟩⟩
 | kept hs=>
   rename_i g
   refine ⟨by simp [locAt],fun id l' hl=>?_⟩
   by_cases e:id=k
   ·subst e
    have:l'.gen=g:=(h.gen _ _ l' hs hl).symm
    refine ⟨l,by simp [locAt,(List.getElem?_eq_some_iff.1 hl).1],by omega,fun he=>by omega⟩
   ·exact ⟨l',by simp [locAt,Ne.symm e,hl],Nat.le_refl _,fun _=>rfl⟩
theorem WR.new (h:WR CR W φ μ H w) {slot:Option Nat} {k g:Nat} (hp:Place H slot k g) {B:Blk} {l:Loc} {o:Obj} (hg:l.gen=g) (hB:B.gen=g) (hb:l.b=w.heap.size)
 (hblk:BR CR φ (locAt slot μ l) { w with heap:=w.heap.push o } l B):WR CR W φ (locAt slot μ l) (putAt slot H B) { w with heap:=w.heap.push o }:=by
 have hk:(putAt slot H B)[k]? = some B∧(locAt slot μ l)[k]? = some l∧(locAt slot μ l).length=(putAt slot H B).length:=by
  cases hp with
  | back=>
    refine ⟨by simp [putAt],?_,by simp [putAt,locAt,h.len]⟩
    rw [← h.len]; simp [locAt]
  | kept hs=>
    have:=(List.getElem?_eq_some_iff.1 hs).1
    simp [putAt,locAt,this,h.len]
 have hW:=h.below.size
 refine h.change (k:=k) (B:=B) (l:=l) (fun id hid b hb'=>?_) (fun id hid l' hl'=>?_) hk.1 hk.2.1 hk.2.2 (zp5 h hp hg)
  ⟨rfl,rfl,rfl,by simp,fun i hi=>?_⟩ (fun b hb1 hb2=>?_) (by rw [hb]; exact h.fresh) (by rw [hB,hg]) (by rw [hb]; simp; omega) hblk (fun id B' l' _ h1 h2 h3=>?_)
 ·cases hp with
  | back=>
    simp only [putAt] at hb'
    rw [List.getElem?_append] at hb'
    split at hb'
    ·exact hb'
    ·rename_i hlt
     have:id=H.length:=by
      rcases Nat.lt_or_ge (id - H.length) 1 with hh | hh
      ·omega
      ·rw [List.getElem?_eq_none (by simpa using hh)] at hb'; simp at hb'
     exact absurd this hid
  | kept hs=>simpa [putAt,List.getElem?_set,Ne.symm hid] using hb'
 ·cases hp with
  | back=>
    simp only [locAt] at hl'
    rw [List.getElem?_append] at hl'
    split at hl'
    ·exact hl'
    ·rename_i hlt
     rw [h.len] at hl' hlt
     have:id=H.length:=by
      rcases Nat.lt_or_ge (id - H.length) 1 with hh | hh
      ·omega
      ·rw [List.getElem?_eq_none (by simpa using hh)] at hl'; simp at hl'
     exact absurd this hid
  | kept hs=>simpa [locAt,List.getElem?_set,Ne.symm hid] using hl'
 ·rw [Array.getElem?_push]; have:i≠w.heap.size:=by omega
  simp [this]
 ·rw [Array.getElem?_push]; have:b≠w.heap.size:=by omega
  simp [this]
 ·rw [hb]; have:=(h.own id B' l' h1 h2 h3).2.1; omega
mutual
theorem z2g:∀ {v:Value} {x:AV},za3 v=some x→VR φ μ x v
 | .bool b,x,h=>by simp [za3] at h; subst h; exact .bool b
 | .int k n,x,h=>by simp [za3] at h; subst h; exact .int k n
 | .string s,x,h=>by simp [za3] at h; subst h; exact .str s
 | .pointer none,x,h=>by simp [za3] at h; subst h; exact .nilptr
 | .pointer (some _),x,h=>by simp [za3] at h
 | .slice none 0 0,x,h=>by simp [za3] at h; subst h; exact .nilsl
 | .slice none 0 (_ + 1),x,h=>by simp [za3] at h
 | .slice none (_ + 1) _,x,h=>by simp [za3] at h
 | .slice (some _) _ _,x,h=>by simp [za3] at h
 | .map none,x,h=>by simp [za3] at h; subst h; exact .nilmap
 | .map (some _),x,h=>by simp [za3] at h
 | .nilFunc,x,h=>by simp [za3] at h; subst h; exact .nilfunc
 | .nilIface,x,h=>by simp [za3] at h; subst h; exact .niliface
 | .agg ⟨cs⟩,x,h=>by
   simp only [za3] at h
   split at h
   ·rename_i l hl
    simp at h; subst h
    have:=zlj hl
    exact .agg this.1 this.2
   ·simp at h
 | .tuple ⟨[]⟩,x,h=>by simp [za3] at h; subst h; exact .tuple (vs:=[]) rfl (fun i x v h=>by simp at h)
 | .tuple ⟨_::_⟩,x,h=>by simp [za3] at h
 | .float _ _,x,h=>by simp [za3] at h
 | .complex _ _ _,x,h=>by simp [za3] at h
 | .chan _,x,h=>by simp [za3] at h
 | .func _ _ _,x,h=>by simp [za3] at h
 | .iface _ _,x,h=>by simp [za3] at h
theorem zlj:∀ {vs:List Value} {xs:List AV},z2h vs=some xs→VRs φ μ xs vs
 | [],xs,h=>by simp [z2h] at h; subst h; exact VRs.nil
 | v::vs,xs,h=>by
   simp only [z2h] at h
   split at h
   ·rename_i x ys h1 h2
    simp at h; subst h
    exact VRs.cons (z2g h1) (zlj h2)
   ·simp at h
end
structure EnvR (φ:Frz) (μ:List Loc) (look:Nat→AV) (a:Act):Prop where
 at_:∀ t,VR φ μ (look t) (a.tmps.getD t undef)
def zk (look:Nat→AV):AOperand→AV
 | .tmp t=>look t
 | .const v=>v
 | .func f=>.func f [] []
theorem za {look:Nat→AV} {a:Act} (h:EnvR φ μ look a) {x:Operand} {y:AOperand} (hc:z7 x=some y):VR φ μ (zk look y) (a.eval x):=by
 cases x with
 | tmp t=>simp [z7] at hc; subst hc; exact h.at_ t
 | const v=>
   simp only [z7] at hc
   split at hc
   ·rename_i x hx; simp at hc; subst hc; exact z2g hx
   ·simp at hc
 | global g=>simp [z7] at hc
 | func f=>simp [z7] at hc; subst hc; exact VR.func (va:=[]) (vb:=[]) rfl rfl (fun i x v h=>by simp at h) (fun i x v h=>by simp at h)
theorem z14 {look:Nat→AV} {a:Act} (h:EnvR φ μ look a):∀ {xs:List Operand} {ys:List AOperand},z32 xs=some ys→VRs φ μ (ys.map (zk look)) (xs.map a.eval)
 | [],ys,hc=>by simp [z32] at hc; subst hc; exact VRs.nil
 | x::xs,ys,hc=>by
   simp only [z32] at hc
   split at hc
   ·rename_i y ys' h1 h2
    simp at hc; subst hc
    exact VRs.cons (za h h1) (z14 h h2)
   ·simp at hc
theorem z6w {agg:Bool} {n off:Nat} {cs:List AV} {r:AV} (hp:part agg n off cs=some r) {vs:List Value} (hv:VRs φ μ cs vs) :
 if agg then VR φ μ r (.agg ((vs.drop off).take n).toArray) else ∃ v,vs[off]? = some v∧VR φ μ r v:=by
 unfold part at hp
 cases agg with
 | true=>
   simp only [if_true] at hp ⊢
   split at hp
   ·simp at hp; subst hp
    refine VR.agg (by simp [hv.1]) (fun i x v h1 h2=>?_)
    rw [List.getElem?_take] at h1 h2
    split at h1
    ·rename_i hi
     simp only [hi,if_true] at h2
     rw [List.getElem?_drop] at h1 h2
     exact hv.2 _ x v h1 h2
    ·simp at h1
   ·simp at hp
 | false=>
   simp only [Bool.false_eq_true,if_false] at hp ⊢
   have hlt:=(List.getElem?_eq_some_iff.1 hp).1
   have hlt':off < vs.length:=by rw [← hv.1]; exact hlt
   have:vs[off]? = some vs[off]:=List.getElem?_eq_getElem hlt'
   exact ⟨_,this,hv.2 off r _ hp this⟩
theorem zec {t:TypeId} {g:Bool} {n:Nat} (h:z68 P t=some (g,n)) (w:World):(isAgg t).run P w=.ok g w∧(sizeOf t).run P w=.ok n w:=by
 unfold z68 at h
 split at h
 ·rename_i d i hd hi
  simp at h
  obtain ⟨rfl,rfl⟩:=h
  constructor
  ·simp only [isAgg,Sem.run_bind,run_underlying hd,Result.andThen_ok]
   cases d <;> rfl
  ·simp [sizeOf,typeInfo,hi]
 ·simp at h
theorem zw9 {t:TypeId} {g:Bool} {n off b o:Nat} {cs:List AV} {r:AV} (ht:z68 P t=some (g,n)) (hp:part g n off cs=some r)
 (hc:∀ (i:Nat) (x:AV),cs[i]? = some x→∃ v,w.cell? ⟨b,o + i,none⟩=some v∧VR φ μ x v) :
 ∃ v,(loadVar t ⟨b,o + off,none⟩).run P w=.ok v w∧VR φ μ r v:=by
 obtain ⟨h1,h2⟩:=zec ht w
 unfold part at hp
 cases g with
 | true=>
   simp only [if_true] at hp
   split at hp
   ·rename_i hle
    simp at hp; subst hp
    have key:∀ j,j < n→∃ v,w.cell? ((⟨b,o + off,none⟩:Addr).add j)=some v∧∀ x,cs[off + j]? = some x→VR φ μ x v:=by
     intro j hj
     have hlt:off + j < cs.length:=by omega
     obtain ⟨v,hv1,hv2⟩:=hc (off + j) cs[off + j] (List.getElem?_eq_getElem hlt)
     refine ⟨v,?_,fun x hx=>by rw [List.getElem?_eq_getElem hlt] at hx; cases hx; exact hv2⟩
     have:(⟨b,o + off,none⟩:Addr).add j=⟨b,o + (off + j),none⟩:=by unfold Addr.add; split <;> simp_all [Nat.add_assoc]
     rw [this]; exact hv1
    let f:Nat→Value:=fun j=>if hj:j < n then Classical.choose (key j hj) else undef
    have hf:∀ j (hj:j < n),w.cell? ((⟨b,o + off,none⟩:Addr).add j)=some (f j)∧∀ x,cs[off + j]? = some x→VR φ μ x (f j):=by
     intro j hj; simp only [f,hj,dif_pos]; exact Classical.choose_spec (key j hj)
    refine ⟨.agg ((List.range n).map f).toArray,?_,?_⟩
    ·simp only [loadVar,Sem.run_bind,h1,Result.andThen_ok,if_true,h2,Sem.run_pure]
     rw [run_loadCells w _ n f (fun j hj=>(hf j hj).1)]
     rfl
    ·refine VR.agg (by simp; omega) (fun i x v e1 e2=>?_)
     rw [List.getElem?_take] at e1
     split at e1
     ·rename_i hi
      rw [List.getElem?_drop] at e1
      simp [hi] at e2
      subst e2
      exact (hf i hi).2 x e1
     ·simp at e1
   ·simp at hp
 | false=>
   simp only [Bool.false_eq_true,if_false] at hp
   obtain ⟨v,hv1,hv2⟩:=hc off r hp
   exact ⟨v,by simp [loadVar,h1,hv1],hv2⟩
theorem WR.row (h:WR CR W φ μ H w) {id g sz row:Nat} {rows:List AV} {l:Loc} {r:AV} (hB:H[id]? = some (.arr g sz rows)) (hl:μ[id]? = some l) (hr:rows[row]? = some r) :
 ∀ (i:Nat) (x:AV),r.cells[i]? = some x→∃ v,w.cell? ⟨l.b,l.o + row * l.sz + i,none⟩=some v∧VR φ μ x v:=by
 intro i x hx
 cases h.blk id _ l hB hl with
 | arr _ ha=>
   obtain ⟨c,t,hc,_,hv⟩:=ha.mem
   obtain ⟨v,e,hx'⟩:=hv row r i x hr hx
   exact ⟨v,by simp [World.cell?,hc,e],hx'⟩
theorem z2d (hf:∀ k b o,φ k b=some o→w.heap[b]? = some o) {k:Bool} {b o:Nat} {v:Value} (h:fcell φ k b o=some v):w.cell? ⟨b,o,none⟩=some v:=by
 unfold fcell at h
 split at h
 ·rename_i c _ _ hb
  simp [World.cell?,hf k b _ hb,h]
 ·simp at h
end Go.Abs
namespace Go.Abs
open Go.RowKit
variable {CR:CRel} {P:Program} {W:BaseW} {w:World} {φ:Frz} {μ:List Loc} {H:Heap}
def SimR (CR:CRel) (P:Program) (W:BaseW) (φ:Frz) (μ:List Loc) (o:Oper) (ρ:Operand→Value) (w:World) (r:AV) (H':Heap):Prop:=
 ∃ v w' μ',((execOp ρ o).run P w=.ok (.value v) w'∨(v=undef∧(execOp ρ o).run P w=.ok .skip w'))∧WR CR W φ μ' H' w'∧MExt μ μ'∧VR φ μ' r v
theorem zi2 (hw:WR CR W φ μ H w) {o:Oper} {ρ:Operand→Value} {r:AV} {v:Value} (h:(execOp ρ o).run P w=.ok (.value v) w) (hv:VR φ μ r v):SimR CR P W φ μ o ρ w r H:=
 ⟨v,w,μ, .inl h,hw,MExt.refl μ,hv⟩
theorem z24 {call:CallF} {slot:Option Nat} {x:Option AV} {r:AV} {H':Heap} (h:zd call slot H (Action.ofOption x)=some (r,H')):x=some r∧H'=H:=by
 cases x with
 | none=>simp [Action.ofOption,zd] at h
 | some v=>simp [Action.ofOption,zd] at h; exact ⟨by rw [h.1],h.2.symm⟩
theorem zf2 {call:CallF} {slot:Option Nat} {v r:AV} {H':Heap} (h:zd call slot H (.val v)=some (r,H')):v=r∧H'=H:=by
 simp [zd] at h; exact ⟨h.1,h.2.symm⟩
theorem zoi {k:CK} {x y:AV} {u v:Value} {b:Bool} (h:zl3 k x y=some b) (hx:VR φ μ x u) (hy:VR φ μ y v) {t:TypeId} (d:Nat)
 (ht:match k with | .bool=>P.underlying t=some .bool | .int=>∃ j,P.underlying t=some (.int j) | .str=>P.underlying t=some .string) :
 (Op.equalIn (d + 1) t u v).run P w=.ok b w:=by
 cases k <;> cases x <;> (try (simp [zl3] at h; done)) <;> cases y <;> (try (simp [zl3] at h; done))
 ·cases hx; cases hy; simp [zl3] at h; subst h; exact run_equalIn_bool w d t _ _ ht
 ·cases hx; cases hy
  obtain ⟨j,hj⟩:=ht
  simp [zl3] at h
  obtain ⟨rfl,rfl⟩:=h
  simp [Op.equalIn,run_underlying hj]
 ·cases hx; cases hy; simp [zl3] at h; subst h; exact run_equalIn_string w d t _ _ ht
theorem z3c:∀ {ks:List CK} {xs ys:List AV} {b:Bool},z21 ks xs ys=some b→xs.length=ks.length∧ys.length=ks.length
 | [],[],[],_,_=>⟨rfl,rfl⟩
 | k::ks,x::xs,y::ys,b,h=>by
   simp only [z21] at h
   split at h
   ·rename_i h1 h2
    have:=z3c h2
    simp [this.1,this.2]
   ·simp at h
 | [],[],_::_,_,h=>by simp [z21] at h
 | [],_::_,_,_,h=>by simp [z21] at h
 | _::_,[],_,_,h=>by simp [z21] at h
 | _::_,_::_,[],_,h=>by simp [z21] at h
theorem z4c:∀ {ks ls:List CK} {xs ys:List AV} {b:Bool},z21 (ks++ls) xs ys=some b →
 ∃ c d,z21 ks (xs.take ks.length) (ys.take ks.length)=some c∧z21 ls (xs.drop ks.length) (ys.drop ks.length)=some d∧b=(c && d)
 | [],ls,xs,ys,b,h=>⟨true,b,by simp [z21],by simpa using h,by simp⟩
 | k::ks,ls,[],_,b,h=>by simp [z21] at h
 | k::ks,ls,_::_,[],b,h=>by simp [z21] at h
 | k::ks,ls,x::xs,y::ys,b,h=>by
   simp only [List.cons_append,z21] at h
   split at h
   ·rename_i p q h1 h2
    simp at h; subst h
    obtain ⟨c,d,e1,e2,e3⟩:=z4c h2
    refine ⟨p && c,d,?_,by simpa using e2,by rw [e3,Bool.and_assoc]⟩
    simp [z21,h1,e1]
   ·simp at h
theorem z2u {k:CK} {x y:AV} {b:Bool} (h:zl3 k x y=some b):zl3 k x x=some true∧zl3 k y y=some true:=by
 cases k <;> cases x <;> (try (simp [zl3] at h; done)) <;> cases y <;> (try (simp [zl3] at h; done)) <;> simp [zl3]
theorem z9e:∀ {ks:List CK} {xs ys:List AV} {b:Bool},z21 ks xs ys=some b→z21 ks xs xs=some true∧z21 ks ys ys=some true
 | [],[],[],_,_=>by simp [z21]
 | k::ks,x::xs,y::ys,b,h=>by
   simp only [z21] at h
   split at h
   ·rename_i h1 h2
    have a:=z2u h1
    have c:=z9e h2
    simp [z21,a.1,a.2,c.1,c.2]
   ·simp at h
 | [],[],_::_,_,h=>by simp [z21] at h
 | [],_::_,_,_,h=>by simp [z21] at h
 | _::_,[],_,_,h=>by simp [z21] at h
 | _::_,_::_,[],_,h=>by simp [z21] at h
theorem zpi {d:Nat} {t:TypeId} {ks:List CK} (hk:z25 P d t=some ks) {cs:List AV} {us:List Value} {off:Nat} (hl:off + ks.length≤cs.length) (hv:VRs φ μ cs us)
 (hs:z21 ks ((cs.drop off).take ks.length) ((cs.drop off).take ks.length)=some true) :
 ∃ x v,(Go.part t us.toArray off).run P w=.ok v w∧VR φ μ x v∧(x.isAgg=(P.underlying t).any TypeDesc.isAgg)∧x.cells=(cs.drop off).take ks.length:=by
 have ht:∃ g,z68 P t=some (g,ks.length)∧g=(P.underlying t).any TypeDesc.isAgg∧(g=false→∃ k,ks=[k]):=by
  cases d with
  | zero=>simp [z25] at hk
  | succ d=>
    unfold z25 at hk
    split at hk <;> rename_i hu hi
    ·split at hk
     ·simp at hk; subst hk; exact ⟨false,by simp [z68,hu,hi,TypeDesc.isAgg, *],by simp [hu,TypeDesc.isAgg],fun _=>⟨_,rfl⟩⟩
     ·simp at hk
    ·split at hk
     ·simp at hk; subst hk; exact ⟨false,by simp [z68,hu,hi,TypeDesc.isAgg, *],by simp [hu,TypeDesc.isAgg],fun _=>⟨_,rfl⟩⟩
     ·simp at hk
    ·split at hk
     ·simp at hk; subst hk; exact ⟨false,by simp [z68,hu,hi,TypeDesc.isAgg, *],by simp [hu,TypeDesc.isAgg],fun _=>⟨_,rfl⟩⟩
     ·simp at hk
    ·split at hk
     ·split at hk
      ·split at hk
       ·simp at hk; subst hk; exact ⟨true,by simp [z68,hu,hi,TypeDesc.isAgg, *],by simp [hu,TypeDesc.isAgg],fun h=>by simp at h⟩
       ·simp at hk
      ·simp at hk
     ·simp at hk
    ·simp at hk
 obtain ⟨g,ht,hg,h1⟩:=ht
 obtain ⟨r1,r2⟩:=zec ht w
 cases g with
 | true=>
   refine ⟨.agg ((cs.drop off).take ks.length), .agg (us.toArray.extract off (off + ks.length)),by simp [Go.part,r1,r2],?_,by simp [AV.isAgg,← hg],rfl⟩
   have:=z6w (φ:=φ) (μ:=μ) (agg:=true) (n:=ks.length) (off:=off) (cs:=cs) (r:=.agg ((cs.drop off).take ks.length)) (by simp [part,hl]) hv
   have e:(us.toArray.extract off (off + ks.length))=((us.drop off).take ks.length).toArray:=by
    apply Array.ext'
    simp [List.extract]
   rw [e]; simpa using this
 | false=>
   obtain ⟨k,rfl⟩:=h1 rfl
   simp at hl
   have hlt:off < cs.length:=by omega
   have hlt':off < us.length:=by rw [← hv.1]; exact hlt
   have hseg:(cs.drop off).take 1=[cs[off]]:=by rw [List.drop_eq_getElem_cons hlt]; rfl
   have hb:cs[off].isAgg=false:=by
    simp only [List.length_singleton,hseg,z21] at hs
    generalize cs[off]=x at hs
    cases x <;> first | rfl | (cases k <;> simp [zl3] at hs)
   refine ⟨cs[off],us[off],by simp [Go.part,r1,hlt'],hv.2 off _ _ (List.getElem?_eq_getElem hlt) (List.getElem?_eq_getElem hlt'),by rw [hb,← hg],?_⟩
   simp only [List.length_singleton,hseg]
   generalize cs[off]=x at hb
   cases x <;> first | rfl | (simp [AV.isAgg] at hb)
mutual
theorem z3g:∀ (d e:Nat) {t:TypeId} {ks:List CK} {x y:AV} {u v:Value} {b:Bool},z25 P d t=some ks →
 (x.isAgg=(P.underlying t).any TypeDesc.isAgg)→(y.isAgg=(P.underlying t).any TypeDesc.isAgg) →
 z21 ks x.cells y.cells=some b→VR φ μ x u→VR φ μ y v→(Op.equalIn (e + d) t u v).run P w=.ok b w
 | 0,_,t,ks,x,y,u,v,b,hk,_,_,_,_,_=>by simp [z25] at hk
 | d + 1,e,t,ks,x,y,u,v,b,hk,gx,gy,hc,hx,hy=>by
   have plain:∀ (k:CK),ks=[k]→x.isAgg=false→y.isAgg=false→zl3 k x y=some b:=by
    intro k hk' ax ay
    subst hk'
    have ex:x.cells=[x]:=by cases x <;> first | rfl | (simp [AV.isAgg] at ax)
    have ey:y.cells=[y]:=by cases y <;> first | rfl | (simp [AV.isAgg] at ay)
    rw [ex,ey] at hc
    simp only [z21] at hc
    split at hc
    ·rename_i h1 h2; simp at h2 hc; rw [h1]; simp [← hc,← h2]
    ·simp at hc
   unfold z25 at hk
   split at hk
   ·rename_i hu hi
    split at hk
    ·simp at hk
     exact zoi (plain .bool hk.symm (by simpa [hu,TypeDesc.isAgg] using gx) (by simpa [hu,TypeDesc.isAgg] using gy)) hx hy (e + d) hu
    ·simp at hk
   ·rename_i hu hi
    split at hk
    ·simp at hk
     exact zoi (plain .int hk.symm (by simpa [hu,TypeDesc.isAgg] using gx) (by simpa [hu,TypeDesc.isAgg] using gy)) hx hy (e + d) ⟨_,hu⟩
    ·simp at hk
   ·rename_i hu hi
    split at hk
    ·simp at hk
     exact zoi (plain .str hk.symm (by simpa [hu,TypeDesc.isAgg] using gx) (by simpa [hu,TypeDesc.isAgg] using gy)) hx hy (e + d) hu
    ·simp at hk
   ·rename_i fs i hu hi
    split at hk
    ·rename_i hs
     split at hk
     ·rename_i ks' hf
      split at hk
      ·rename_i hlen
       simp at hk; subst hk
       cases hx <;> simp [AV.isAgg,hu,TypeDesc.isAgg] at gx
       cases hy <;> simp [AV.isAgg,hu,TypeDesc.isAgg] at gy
       rename_i xs us lx hx ys vs ly hy
       simp only [AV.cells] at hc
       have hfs:P.fieldsOf t=fs:=by simp [Program.fieldsOf,hu]
       rw [show e + (d + 1)=(e + d) + 1 from rfl,run_equalIn_struct (P:=P) w (e + d) t _ _ (by rw [hfs]; exact hu) hs,hfs]
       have hl:=z3c hc
       exact zmj d e (n:=0) hf (by simpa using hc) (by simpa using hl.1) (by simpa using hl.2) ⟨lx,hx⟩ ⟨ly,hy⟩
      ·simp at hk
     ·simp at hk
    ·simp at hk
   ·simp at hk
theorem zmj:∀ (d e:Nat) {fs:List Field} {n:Nat} {ks:List CK} {xs ys:List AV} {us vs:List Value} {b:Bool},zt2 P d fs n=some ks →
 z21 ks (xs.drop n) (ys.drop n)=some b→xs.length=n + ks.length→ys.length=n + ks.length→VRs φ μ xs us→VRs φ μ ys vs →
 (Op.eqFields (e + d) us.toArray vs.toArray fs).run P w=.ok b w
 | 0,_,fs,n,ks,xs,ys,us,vs,b,hk,_,_,_,_,_=>by simp [zt2] at hk
 | d + 1,e,[],n,ks,xs,ys,us,vs,b,hk,hc,lx,ly,_,_=>by
   simp [zt2] at hk; subst hk
   have h1:xs.drop n=[]:=by apply List.drop_eq_nil_of_le; simp at lx; omega
   have h2:ys.drop n=[]:=by apply List.drop_eq_nil_of_le; simp at ly; omega
   rw [h1,h2] at hc; simp [z21] at hc; subst hc
   simp [Op.eqFields]
 | d + 1,e,f::fs,n,ks,xs,ys,us,vs,b,hk,hc,lx,ly,hx,hy=>by
   unfold zt2 at hk
   split at hk
   ·rename_i ho
    obtain ⟨ho,hn⟩:=ho
    subst ho
    split at hk
    ·rename_i k1 k2 h1 h2
     simp only [h1,Option.getD_some] at h2
     simp at hk; subst hk
     obtain ⟨c,c',e1,e2,rfl⟩:=z4c hc
     simp at lx ly
     obtain ⟨ax,u,pu,vu,gu,cu⟩:=zpi (w:=w) h1 (cs:=xs) (off:=f.offset) (by omega) hx (z9e e1).1
     obtain ⟨ay,v,pv,vv,gv,cv⟩:=zpi (w:=w) h1 (cs:=ys) (off:=f.offset) (by omega) hy (z9e e1).2
     have he:=z3g d (e + 1) h1 gu gv (by rw [cu,cv]; exact e1) vu vv
     have hr:=zmj (d + 1) e (n:=f.offset + k1.length) h2 (by simpa [List.drop_drop,Nat.add_comm] using e2) (by omega) (by omega) hx hy
     rw [show e + 1 + d=e + (d + 1) by omega] at he
     rw [Op.eqFields]
     simp only [if_pos hn,Sem.run_bind,pu,pv,he,Result.andThen_ok]
     cases c
     ·simp
     ·simpa using hr
    ·simp at hk
   ·simp at hk
end
end Go.Abs
namespace Go.Abs
open Go.RowKit
variable {CR:CRel} {P:Program} {W:BaseW} {w:World} {φ:Frz} {μ:List Loc} {H H':Heap} {look:Nat→AV} {a:Act} {call:CallF} {slot:Option Nat} {r:AV} {o:Oper} {ao:AOp}
theorem z7w {x:Operand} (ho:o.op=.move x∨o.op=.assign x) {y:AOperand} (hy:z7 x=some y) (he:EnvR φ μ look a) (hw:WR CR W φ μ H w)
 (h:zd call slot H (actOf (zk look) (.move y))=some (r,H')):SimR CR P W φ μ o a.eval w r H':=by
 obtain ⟨rfl,rfl⟩:=zf2 h
 refine zi2 hw (v:=a.eval x) ?_ (za he hy)
 rcases ho with ho | ho <;> simp [execOp,ho]
theorem zm31 {c x y:Operand} (ho:o.op=.pick c x y) {c' x' y':AOperand} (hc:z7 c=some c') (hx:z7 x=some x') (hy:z7 y=some y')
 (he:EnvR φ μ look a) (hw:WR CR W φ μ H w) (h:zd call slot H (actOf (zk look) (.pick c' x' y'))=some (r,H')):SimR CR P W φ μ o a.eval w r H':=by
 simp only [actOf] at h
 split at h
 ·rename_i t ht
  obtain ⟨rfl,rfl⟩:=zf2 h
  have hv:=za he hc
  rw [ht] at hv
  cases hvc:a.eval c <;> rw [hvc] at hv <;> cases hv
  refine zi2 hw (v:=if t then a.eval x else a.eval y) ?_ ?_
  ·simp [execOp,ho,hvc,asBool]
  ·cases t
   ·simpa using za he hy
   ·simpa using za he hx
 ·simp [zd] at h
theorem zjr {x:Operand} (ho:o.op=.nilCheck x) {y:AOperand} (hy:z7 x=some y) (he:EnvR φ μ look a) (hw:WR CR W φ μ H w)
 (h:zd call slot H (actOf (zk look) (.nilCheck y))=some (r,H')):SimR CR P W φ μ o a.eval w r H':=by
 simp only [actOf] at h
 have hv:=za he hy
 split at h <;> first
  | (rename_i hx
     obtain ⟨rfl,rfl⟩:=zf2 h
     rw [hx] at hv
     refine zi2 hw (v:=a.eval x) ?_ hv
     cases hvx:a.eval x <;> rw [hvx] at hv <;> cases hv <;> simp [execOp,ho,hvx])
  | (simp [zd] at h; done)
theorem zgz {op:BinOp} {k:IntKind} {m n:Int} (h:intOp op k m n=some r) (t:TypeId) (hs:op≠.shl) (hs':op≠.shr) :
 ∃ v,(binOp op t (.int k m) (.int k n)).run P w=.ok v w∧VR φ μ r v:=by
 cases op <;> simp [intOp] at h <;> first
  | exact absurd rfl hs
  | exact absurd rfl hs'
  | (subst h; exact ⟨_,by simp [binOp,Op.intArith,Op.intBits,Op.intCmp]; rfl,by constructor⟩)
  | (obtain ⟨hn,rfl⟩:=h; exact ⟨_,by simp [binOp,Op.intDiv,hn]; rfl,by constructor⟩)
theorem zhz {op:BinOp} {m n:ByteArray} (h:strOp op m n=some r) (t:TypeId) :
 ∃ v,(binOp op t (.string m) (.string n)).run P w=.ok v w∧VR φ μ r v:=by
 cases op <;> simp only [strOp,Option.some.injEq,reduceCtorEq] at h
 case add=>
  split at h
  ·rename_i hn
   simp only [Option.some.injEq] at h; subst h
   have:¬ (((m.size + n.size:Nat):Int) > IntKind.i64.max):=by
    simp [IntKind.max,IntKind.signed,IntKind.bits]; omega
   refine ⟨.string (m++n),?_, .str _⟩
   simp only [binOp,Op.stringOp]
   rw [if_neg this]; rfl
  ·simp at h
 all_goals (subst h; exact ⟨_,by simp only [binOp,Op.stringOp]; rfl,by constructor⟩)
def z8w (P:Program) (t:TypeId) (c:Bool):z6a→Prop
 | .no=>True
 | .bool=>P.underlying t=some .bool
 | .ptr=>∃ e,P.underlying t=some (.pointer e)
 | .iface=>c=true∧∃ ms,P.underlying t=some (.interface ms)
 | .slice=>∃ e,P.underlying t=some (.slice e)
 | .map=>∃ a b,P.underlying t=some (.map a b)
 | .func=>∃ a b v,P.underlying t=some (.func a b v)
 | .cells ks=>z25 P 12 t=some ks∧P.eqGuardType P.depth t=false∧(P.underlying t).any TypeDesc.isAgg=true
theorem z3u {t:TypeId} {c:Bool} {k:z6a} (h:zjj P t c=k):z8w P t c k:=by
 unfold zjj at h
 simp only [zxk] at h
 split at h <;> first
  | (subst h; simp_all [z8w]; done)
  | (split at h <;> first
   | (subst h; simp_all [z8w]; done)
   | (split at h <;> first
    | (subst h; simp_all [z8w,TypeDesc.isAgg]; done)))
theorem zq2 {op:BinOp} {t:TypeId} {x y:Operand} {u v:Value} (h:∀ p q,¬ (u=.agg p∧v=.agg q)) (hn:u=.nilIface→v=.nilIface→(Region.isConst x || Region.isConst y)=true) :
 (eqGuard op t x y u v).run P w=.ok () w:=by
 have key:∀ op:BinOp,(op=.eql∨op=.neq)→(eqGuard op t x y u v).run P w=.ok () w:=by
  intro op hop
  have e:eqGuard op t x y u v=eqGuard .eql t x y u v:=by rcases hop with rfl | rfl <;> rfl
  rw [e]
  cases u with
  | nilIface=>
    cases v with
    | nilIface=>have:=hn rfl rfl; cases x <;> cases y <;> simp [Region.isConst] at this <;> rfl
    | _=>rfl
  | agg p=>
    cases v with
    | agg q=>exact absurd ⟨rfl,rfl⟩ (h p q)
    | _=>rfl
  | _=>rfl
 cases op <;> first | rfl | exact key _ (.inl rfl) | exact key _ (.inr rfl)
theorem eq10000 {t:TypeId} {u v:Value} {b:Bool} (h:∀ d,(Op.equalIn (d + 1) t u v).run P w=.ok b w):(Op.equal t u v).run P w=.ok b w:=h 9999
theorem z9w {t:TypeId} {x y:Operand} {u v:Value} {p q:AV} {b:Bool} (h:eqOp (zjj P t (Region.isConst x || Region.isConst y)) p q=some b) (hx:VR φ μ p u) (hy:VR φ μ q v) (op:BinOp) :
 (eqGuard op t x y u v).run P w=.ok () w∧(binOp .eql t u v).run P w=.ok (.bool b) w∧(binOp .neq t u v).run P w=.ok (.bool !b) w:=by
 have hs:=z3u (rfl:zjj P t (Region.isConst x || Region.isConst y)=_)
 generalize zjj P t (Region.isConst x || Region.isConst y)=k at h hs
 have other:(Op.equal t u v).run P w=.ok b w→(eqGuard op t x y u v).run P w=.ok () w→(binOp .eql t u v=do pure (.bool (← Op.equal t u v)))→(binOp .neq t u v=do pure (.bool (!(← Op.equal t u v)))) →
  (eqGuard op t x y u v).run P w=.ok () w∧(binOp .eql t u v).run P w=.ok (.bool b) w∧(binOp .neq t u v).run P w=.ok (.bool !b) w:=by
  intro h1 h2 h3 h4
  exact ⟨h2,by rw [h3]; simp [h1],by rw [h4]; simp [h1]⟩
 cases k with
 | no=>simp [eqOp] at h
 | bool=>
   cases p <;> (try (simp [eqOp] at h; done)) <;> cases q <;> (try (simp [eqOp] at h; done)) <;> cases hx <;> cases hy
   simp [eqOp] at h; subst h
   exact other (run_equal_bool w t _ _ hs) (zq2 (by simp) (by simp)) rfl rfl
 | cells ks=>
   obtain ⟨hk,hg,ha⟩:=hs
   have gx:p.isAgg=true∧q.isAgg=true:=by
    cases p <;> (try (simp [eqOp] at h; done)) <;> cases q <;> (try (simp [eqOp] at h; done)) <;> exact ⟨rfl,rfl⟩
   have hc:z21 ks p.cells q.cells=some b:=by
    cases p <;> (try (simp [eqOp] at h; done)) <;> cases q <;> (try (simp [eqOp] at h; done)) <;> simpa [eqOp,AV.cells] using h
   have hr:=z3g (P:=P) (w:=w) 12 9988 hk (by rw [gx.1,ha]) (by rw [gx.2,ha]) hc hx hy
   obtain ⟨gx,gy⟩:=gx
   have hu:∃ us,u=.agg us:=by cases p <;> simp [AV.isAgg] at gx <;> cases hx <;> exact ⟨_,rfl⟩
   have hv:∃ vs,v=.agg vs:=by cases q <;> simp [AV.isAgg] at gy <;> cases hy <;> exact ⟨_,rfl⟩
   obtain ⟨us,rfl⟩:=hu
   obtain ⟨vs,rfl⟩:=hv
   exact other hr (run_eqGuard_agg w op t x y us vs hg) rfl rfl
 | ptr=>
   obtain ⟨e,hu⟩:=hs
   cases p <;> (try (simp [eqOp] at h; done)) <;> cases q <;> (try (simp [eqOp] at h; done)) <;> cases hx <;> cases hy <;> simp [eqOp] at h <;> subst h <;>
    exact other (eq10000 (fun d=>by simp [Op.equalIn,run_underlying hu])) (zq2 (by simp) (by simp)) rfl rfl
 | iface=>
   obtain ⟨hc,e,hu⟩:=hs
   cases p <;> (try (simp [eqOp] at h; done)) <;> cases q <;> (try (simp [eqOp] at h; done)) <;> cases hx <;> cases hy <;> simp [eqOp] at h <;> subst h <;>
    exact other (eq10000 (fun d=>by simp [Op.equalIn,run_underlying hu])) (zq2 (by simp) (fun _ _=>hc)) rfl rfl
 | slice=>
   obtain ⟨e,hu⟩:=hs
   cases p <;> (try (simp [eqOp] at h; done)) <;> cases q <;> (try (simp [eqOp] at h; done))
   case fsl.nilsl l rows=>
    cases rows with
    | nil=>simp [eqOp] at h
    | cons r rs=>
      cases hx; cases hy
      simp [eqOp] at h; subst h
      exact other (eq10000 (fun d=>by simp [Op.equalIn,run_underlying hu])) (zq2 (by simp) (by simp)) rfl rfl
   case nilsl.fsl l rows=>
    cases rows with
    | nil=>simp [eqOp] at h
    | cons r rs=>
      cases hx; cases hy
      simp [eqOp] at h; subst h
      exact other (eq10000 (fun d=>by simp [Op.equalIn,run_underlying hu])) (zq2 (by simp) (by simp)) rfl rfl
   all_goals
    cases hx <;> cases hy <;> simp [eqOp] at h <;> subst h <;>
     exact other (eq10000 (fun d=>by simp [Op.equalIn,run_underlying hu])) (zq2 (by simp) (by simp)) rfl rfl
 | map=>
   obtain ⟨e,e',hu⟩:=hs
   cases p <;> (try (simp [eqOp] at h; done)) <;> cases q <;> (try (simp [eqOp] at h; done)) <;> cases hx <;> cases hy <;> simp [eqOp] at h <;> subst h <;>
    exact other (eq10000 (fun d=>by simp [Op.equalIn,run_underlying hu])) (zq2 (by simp) (by simp)) rfl rfl
 | func=>
   obtain ⟨e,e',vv,hu⟩:=hs
   cases p <;> (try (simp [eqOp] at h; done)) <;> cases q <;> (try (simp [eqOp] at h; done)) <;> cases hx <;> cases hy <;> simp [eqOp] at h <;> subst h <;>
    exact other (eq10000 (fun d=>by simp [Op.equalIn,run_underlying hu])) (zq2 (by simp) (by simp)) rfl rfl
theorem zn31 {op:BinOp} {t:TypeId} {x y:Operand} {u v:Value} {p q:AV} (h:binA op (zjj P t (Region.isConst x || Region.isConst y)) p q=some r) (hx:VR φ μ p u) (hy:VR φ μ q v) :
 ∃ z,(eqGuard op t x y u v).run P w=.ok () w∧(binOp op t u v).run P w=.ok z w∧VR φ μ r z:=by
 unfold binA at h
 split at h
 ·cases hx; cases hy
  split at h
  ·simp at h
  ·rename_i hb
   simp at h; subst h
   exact ⟨_,zq2 (by simp) (by simp),by simp only [binOp,Op.shift,if_neg hb]; rfl, .int _ _⟩
 ·cases hx; cases hy
  split at h
  ·simp at h
  ·rename_i hb
   simp at h; subst h
   exact ⟨_,zq2 (by simp) (by simp),by simp only [binOp,Op.shift,if_neg hb]; rfl, .int _ _⟩
 ·rename_i h1 h2
  cases hx; cases hy
  split at h
  ·rename_i e; subst e
   obtain ⟨z,hz1,hz2⟩:=zgz (P:=P) (w:=w) (φ:=φ) (μ:=μ) h t (fun e=>by first | exact h1 e | exact h1 e.symm) (fun e=>by first | exact h2 e | exact h2 e.symm)
   exact ⟨z,zq2 (by simp) (by simp),hz1,hz2⟩
  ·simp at h
 ·cases hx; cases hy
  obtain ⟨z,hz1,hz2⟩:=zhz (P:=P) (w:=w) (φ:=φ) (μ:=μ) h t
  exact ⟨z,zq2 (by simp) (by simp),hz1,hz2⟩
 ·simp only [Option.map_eq_some_iff] at h
  obtain ⟨b,hb,rfl⟩:=h
  have:=z9w (w:=w) hb hx hy .eql
  exact ⟨_,this.1,this.2.1, .bool b⟩
 ·simp only [Option.map_eq_some_iff] at h
  obtain ⟨b,hb,rfl⟩:=h
  have:=z9w (w:=w) hb hx hy .neq
  exact ⟨_,this.1,this.2.2, .bool _⟩
 ·simp at h
theorem zl61 {op:BinOp} {t s:TypeId} {x y:Operand} (ho:o.op=.binOp op t x y s) {x' y':AOperand} (hx:z7 x=some x') (hy:z7 y=some y') (he:EnvR φ μ look a) (hw:WR CR W φ μ H w)
 (h:zd call slot H (actOf (zk look) (.bin op (zjj P t (Region.isConst x || Region.isConst y)) x' y'))=some (r,H')):SimR CR P W φ μ o a.eval w r H':=by
 obtain ⟨hb,rfl⟩:=z24 h
 obtain ⟨z,h1,h2,h3⟩:=zn31 (w:=w) hb (za he hx) (za he hy)
 exact zi2 hw (v:=z) (by simp [execOp,ho,h1,h2]) h3
theorem z691 {op:UnOp} {t:TypeId} {x:Operand} (ho:o.op=.unOp op t x) {x':AOperand} (hx:z7 x=some x') (he:EnvR φ μ look a) (hw:WR CR W φ μ H w)
 (h:zd call slot H (actOf (zk look) (.un op x'))=some (r,H')):SimR CR P W φ μ o a.eval w r H':=by
 obtain ⟨hb,rfl⟩:=z24 h
 clear h
 have hv:=za he hx
 generalize hp:zk look x'=p at hb hv
 generalize hu:a.eval x=u at hv
 unfold unA at hb
 split at hb <;> first
  | (simp at hb; done)
  | (simp only [Option.some.injEq] at hb; subst hb; cases hv
     exact zi2 hw (v:=_) (by simp only [execOp,ho,hu,Op.unary,Op.intArith,Op.intBits]; rfl) (by constructor))
theorem ziz {src dst:TypeId} {x:Operand} (ho:o.op=.convert src dst x) {k j:IntKind} (hs:P.underlying src=some (.int j)) (hd:P.underlying dst=some (.int k)) {x':AOperand} (hx:z7 x=some x') (he:EnvR φ μ look a) (hw:WR CR W φ μ H w)
 (h:zd call slot H (actOf (zk look) (.toInt k x'))=some (r,H')):SimR CR P W φ μ o a.eval w r H':=by
 simp only [actOf] at h
 have hv:=za he hx
 split at h
 ·rename_i n hn
  obtain ⟨rfl,rfl⟩:=zf2 h
  rw [hn] at hv
  generalize hu:a.eval x=u at hv
  cases hv
  exact zi2 hw (v:=.int k (k.wrap n)) (by simp [execOp,ho,hu,convert,run_underlying hs,run_underlying hd,Conv.intToInt]) (.int _ _)
 ·simp [zd] at h
theorem z4u {src dst:TypeId} {x:Operand} (ho:o.op=.convert src dst x) {j:IntKind} (hs:P.underlying src=some (.int j)) (hd:P.underlying dst=some .string) {x':AOperand} (hx:z7 x=some x') (he:EnvR φ μ look a) (hw:WR CR W φ μ H w)
 (h:zd call slot H (actOf (zk look) (.runeStr x'))=some (r,H')):SimR CR P W φ μ o a.eval w r H':=by
 simp only [actOf] at h
 have hv:=za he hx
 split at h
 ·rename_i n hn
  obtain ⟨rfl,rfl⟩:=zf2 h
  rw [hn] at hv
  generalize hu:a.eval x=u at hv
  cases hv
  exact zi2 hw (v:=.string (Utf8.encode n)) (by simp [execOp,ho,hu,convert,run_underlying hs,run_underlying hd,Conv.intToString]) (.str _)
 ·simp [zd] at h
theorem zdx {src dst:TypeId} {x:Operand} (ho:o.op=.convert src dst x) (hs:P.underlying src=some .string) (hd:P.underlying dst=some .string) {x':AOperand} (hx:z7 x=some x') (he:EnvR φ μ look a) (hw:WR CR W φ μ H w)
 (h:zd call slot H (actOf (zk look) (.strStr x'))=some (r,H')):SimR CR P W φ μ o a.eval w r H':=by
 simp only [actOf] at h
 have hv:=za he hx
 split at h
 ·rename_i s hn
  obtain ⟨rfl,rfl⟩:=zf2 h
  rw [hn] at hv
  generalize hu:a.eval x=u at hv
  cases hv
  exact zi2 hw (v:=.string s) (by simp [execOp,ho,hu,convert,run_underlying hs,run_underlying hd]) (.str _)
 ·simp [zd] at h
end Go.Abs
namespace Go.Abs
open Go.RowKit
variable {CR:CRel} {P:Program} {W:BaseW} {w:World} {φ:Frz} {μ:List Loc} {H H':Heap} {look:Nat→AV} {a:Act} {call:CallF} {slot:Option Nat} {r:AV} {o:Oper} {ao:AOp}
theorem zkr {f:FuncId} {xs ys:Array Operand} (ho:o.op=.makeFunc (.func f) xs ys) {xs' ys':List AOperand} (hx:z32 xs.toList=some xs') (hy:z32 ys.toList=some ys')
 (he:EnvR φ μ look a) (hw:WR CR W φ μ H w) (h:zd call slot H (actOf (zk look) (.makeFunc f xs' ys'))=some (r,H')):SimR CR P W φ μ o a.eval w r H':=by
 obtain ⟨rfl,rfl⟩:=zf2 h
 have h1:=z14 he hx
 have h2:=z14 he hy
 refine zi2 hw (v:=.func (.func f) (xs.toList.map a.eval).toArray (ys.toList.map a.eval).toArray) ?_ (.func h1.1 h2.1 h1.2 h2.2)
 have e:∀ zs:Array Operand,zs.map a.eval=(zs.toList.map a.eval).toArray:=fun zs=>by apply Array.ext'; simp
 simp only [execOp,ho,Instr.makeFunc,e]; rfl
theorem zqi {t:TypeId} {x:Operand} (ho:o.op=.makeInterface t x) {d:TypeDesc} (hd:P.underlying t=some d) (hi:∀ ms,d≠.interface ms) {y:AOperand} (hy:z7 x=some y)
 (he:EnvR φ μ look a) (hw:WR CR W φ μ H w) (h:zd call slot H (actOf (zk look) (.makeInterface t y))=some (r,H')):SimR CR P W φ μ o a.eval w r H':=by
 simp only [actOf] at h
 have hv:=za he hy
 split at h
 ·simp [zd] at h
 ·rename_i hne
  obtain ⟨rfl,rfl⟩:=zf2 h
  refine zi2 hw (v:=.iface t (a.eval x)) ?_ (.iface (fun e=>hne e) hv)
  cases d <;> first
   | exact absurd rfl (hi _)
   | simp [execOp,ho,Instr.makeInterface,run_underlying hd]
theorem z5u {x:Operand} {i:Nat} (ho:o.op=.extract x i) {y:AOperand} (hy:z7 x=some y) (he:EnvR φ μ look a) (hw:WR CR W φ μ H w)
 (h:zd call slot H (actOf (zk look) (.extract y i))=some (r,H')):SimR CR P W φ μ o a.eval w r H':=by
 simp only [actOf] at h
 have hv:=za he hy
 split at h
 ·rename_i vs hvs
  obtain ⟨hb,rfl⟩:=z24 h
  rw [hvs] at hv
  generalize hu:a.eval x=u at hv
  cases hv
  rename_i us hl hall
  have hlt:=(List.getElem?_eq_some_iff.1 hb).1
  have hlt':i < us.length:=by rw [← hl]; exact hlt
  refine zi2 hw (v:=us[i]) ?_ (hall i r _ hb (List.getElem?_eq_getElem hlt'))
  simp [execOp,ho,hu,Instr.extract,hlt']
 ·simp [zd] at h
theorem zjz {t:TypeId} {x i:Operand} (ho:o.op=.index t x i) (ht:P.underlying t=some .string) {y j:AOperand} (hy:z7 x=some y) (hj:z7 i=some j) (he:EnvR φ μ look a) (hw:WR CR W φ μ H w)
 (h:zd call slot H (actOf (zk look) (.index y j))=some (r,H')):SimR CR P W φ μ o a.eval w r H':=by
 simp only [actOf] at h
 have hv:=za he hy
 have hk:=za he hj
 split at h
 ·rename_i s k n hs hn
  rw [hs] at hv; rw [hn] at hk
  generalize hu:a.eval x=u at hv
  generalize hui:a.eval i=ui at hk
  cases hv; cases hk
  split at h
  ·rename_i h0
   split at h
   ·rename_i b hb
    obtain ⟨rfl,rfl⟩:=zf2 h
    exact zi2 hw (v:=.int .u8 b.toNat) (by simp [execOp,ho,hu,hui,Instr.index,asIntOf,run_underlying ht,h0,hb]) (.int _ _)
   ·simp [zd] at h
  ·simp [zd] at h
 ·simp [zd] at h
theorem z0q {s:TypeId} {x:Operand} {f:Nat} (ho:o.op=.fieldAddr s x f) {fs:Array Field} (hs:P.underlying s=some (.struct fs)) {fd:Field} (hf:fs[f]? = some fd) {i:TypeInfo} (hi:P.info? fd.type=some i) (h1:1≤i.size)
 {y:AOperand} (hy:z7 x=some y) (he:EnvR φ μ look a) (hw:WR CR W φ μ H w)
 (h:zd call slot H (actOf (zk look) (.fieldAddr fd.offset y))=some (r,H')):SimR CR P W φ μ o a.eval w r H':=by
 simp only [actOf] at h
 have hv:=za he hy
 have hne:¬ i.size=0:=by omega
 have run:∀ ad:Addr,(Instr.fieldAt s (.pointer (some ad)) f).run P w=.ok (.pointer (some (ad.add fd.offset))) w:=by
  intro ad
  simp [Instr.fieldAt,run_underlying hs,hf,Instr.sureAddr,fieldPlace,sizeOf,typeInfo,hi,hne]
 have add:∀ (b q:Nat),(⟨b,q,none⟩:Addr).add fd.offset=⟨b,q + fd.offset,none⟩:=by intro b q; unfold Addr.add; split <;> simp_all
 split at h
 ·rename_i hx
  obtain ⟨rfl,rfl⟩:=zf2 h
  rw [hx] at hv
  generalize hu:a.eval x=u at hv
  cases hv
  rename_i l ad hl hg ha
  refine zi2 hw (v:=.pointer (some (ad.add fd.offset))) (by simp [execOp,ho,hu,run]) (.ptr hl hg (fun e=>?_))
  rw [ha e,add]; simp [Nat.add_assoc]
 ·rename_i hx
  obtain ⟨rfl,rfl⟩:=zf2 h
  rw [hx] at hv
  generalize hu:a.eval x=u at hv
  cases hv with | fptr vs hk hc hvv=>
  refine zi2 hw (v:=.pointer (some ((⟨_,_,none⟩:Addr).add fd.offset))) (by simp [execOp,ho,hu,run]; rfl) ?_
  rw [add,Nat.add_assoc]
  exact .fptr vs hk hc hvv
 ·simp [zd] at h
theorem zkz {s:TypeId} {x:Operand} {f:Nat} (ho:o.op=.field s x f) {fs:Array Field} (hs:P.underlying s=some (.struct fs)) {fd:Field} (hf:fs[f]? = some fd) {g:Bool} {n:Nat} (ht:z68 P fd.type=some (g,n))
 {y:AOperand} (hy:z7 x=some y) (he:EnvR φ μ look a) (hw:WR CR W φ μ H w)
 (h:zd call slot H (actOf (zk look) (.field g n fd.offset y))=some (r,H')):SimR CR P W φ μ o a.eval w r H':=by
 simp only [actOf] at h
 have hv:=za he hy
 obtain ⟨r1,r2⟩:=zec ht w
 split at h
 ·rename_i cs hcs
  obtain ⟨hb,rfl⟩:=z24 h
  rw [hcs] at hv
  generalize hu:a.eval x=u at hv
  cases hv
  rename_i us hl hall
  have:=z6w (φ:=φ) (μ:=μ) hb ⟨hl,hall⟩
  cases g with
  | true=>
    simp only [if_true] at this
    have e:(us.toArray.extract fd.offset (fd.offset + n))=((us.drop fd.offset).take n).toArray:=by
     apply Array.ext'; simp [List.extract]
    refine zi2 hw (v:=.agg (us.toArray.extract fd.offset (fd.offset + n))) ?_ (by rw [e]; exact this)
    simp [execOp,ho,hu,Instr.field,run_underlying hs,hf,asAgg,Go.part,r1,r2]
  | false=>
    simp only [Bool.false_eq_true,if_false] at this
    obtain ⟨v,e,hvv⟩:=this
    refine zi2 hw (v:=v) ?_ hvv
    simp [execOp,ho,hu,Instr.field,run_underlying hs,hf,asAgg,Go.part,r1,e]
 ·simp [zd] at h
theorem zco {ids:List Nat} {f:List Blk→Option AV} (h:zd call slot H (.rd ids f)=some (r,H')):f (blks H ids)=some r∧H'=H:=by
 simp only [zd] at h
 split at h
 ·rename_i v hv; simp at h; exact ⟨by rw [hv,h.1],h.2.symm⟩
 ·simp at h
theorem z37 {id:Nat}:blks H [id]=[H.getD id (.dead 0)]:=rfl
theorem z3d {id g sz:Nat} {rows:List AV} (h:H.getD id (.dead 0)=.arr g sz rows):H[id]? = some (.arr g sz rows):=by
 rw [List.getD_eq_getElem?_getD] at h
 cases hh:H[id]? with
 | none=>rw [hh] at h; simp at h
 | some b=>rw [hh] at h; simpa using h
theorem zff {id g c:Nat} {es:List MEnt} (h:H.getD id (.dead 0)=.map g es c):H[id]? = some (.map g es c):=by
 rw [List.getD_eq_getElem?_getD] at h
 cases hh:H[id]? with
 | none=>rw [hh] at h; simp at h
 | some b=>rw [hh] at h; simpa using h
theorem zo31 {t:TypeId} {x:Operand} (ho:o.op=.load t x) {g:Bool} {n:Nat} (ht:z68 P t=some (g,n)) {y:AOperand} (hy:z7 x=some y) (he:EnvR φ μ look a) (hw:WR CR W φ μ H w)
 (h:zd call slot H (actOf (zk look) (.load g n y))=some (r,H')):SimR CR P W φ μ o a.eval w r H':=by
 simp only [actOf,loadA] at h
 have hv:=za he hy
 split at h
 ·rename_i id gen row off hx
  obtain ⟨hf,rfl⟩:=zco h
  rw [hx] at hv
  generalize hu:a.eval x=u at hv
  cases hv
  rename_i l ad hl hg ha
  rw [z37] at hf
  split at hf
  ·rename_i g' sz' rows hB
   simp only [List.cons.injEq,and_true] at hB
   have hB:=z3d hB
   split at hf
   ·rename_i e; subst e
    split at hf
    ·rename_i rw_ hr
     have hgl:g'=l.gen:=hw.gen id _ l hB hl
     obtain ⟨v,h1,h2⟩:=zw9 (w:=w) ht hf (hw.row hB hl hr)
     refine zi2 hw (v:=v) ?_ h2
     rw [ha hgl.symm] at hu
     simp [execOp,ho,hu,Instr.loadAt,Instr.sureAddr,h1]
    ·simp at hf
   ·simp at hf
  ·simp at hf
 ·rename_i cs off hx
  obtain ⟨hp,rfl⟩:=z24 h
  rw [hx] at hv
  generalize hu:a.eval x=u at hv
  cases hv with | @fptr _ _ _ b q vs hk hc hvv=>
  obtain ⟨v,h1,h2⟩:=zw9 (w:=w) (φ:=φ) (μ:=μ) (b:=b) (o:=q) ht hp (fun i z hz=>⟨vs i,z2d hw.frz (hc i z hz),hvv i z hz⟩)
  exact zi2 hw (v:=v) (by simp [execOp,ho,hu,Instr.loadAt,Instr.sureAddr,h1]) h2
 ·simp [zd] at h
end Go.Abs
namespace Go.Abs
open Go.RowKit
variable {CR:CRel} {P:Program} {W:BaseW} {w:World} {φ:Frz} {μ:List Loc} {H H':Heap} {look:Nat→AV} {a:Act} {call:CallF} {slot:Option Nat} {r:AV} {o:Oper} {ao:AOp}
theorem z01 {sz:Nat} {x:AV} (h:x.rowok sz=true):x.cells.length=sz:=by simp [AV.rowok] at h; exact h.1
theorem z4g {sz:Nat} {x:AV} (h:x.rowok sz=true):x.cells.all AV.isCell=true:=by simp only [AV.rowok,Bool.and_eq_true] at h; exact h.2
theorem WR.arr (hw:WR CR W φ μ H w) {id g sz:Nat} {rows:List AV} (hB:H[id]? = some (.arr g sz rows)) {l:Loc} (hl:μ[id]? = some l):ArrR φ μ w rows l:=by
 cases hw.blk id _ l hB hl with
 | arr _ h=>exact h
theorem WR.arrSz (hw:WR CR W φ μ H w) {id g sz:Nat} {rows:List AV} (hB:H[id]? = some (.arr g sz rows)) {l:Loc} (hl:μ[id]? = some l):l.sz=sz:=by
 cases hw.blk id _ l hB hl with
 | arr h _=>exact h
theorem z99 (b o n:Nat):(⟨b,o,none⟩:Addr).add n=⟨b,o + n,none⟩:=by unfold Addr.add; split <;> simp_all
theorem z1q {t:TypeId} {x i:Operand} (ho:o.op=.indexAddr t x i) {e:TypeId} (ht:P.underlying t=some (.slice e)) {inf:TypeInfo} (hi:P.info? e=some inf)
 {y j:AOperand} (hy:z7 x=some y) (hj:z7 i=some j) (he:EnvR φ μ look a) (hw:WR CR W φ μ H w)
 (h:zd call slot H (actOf (zk look) (.indexAddr inf.size y j))=some (r,H')):SimR CR P W φ μ o a.eval w r H':=by
 simp only [actOf] at h
 have hv:=za he hy
 have hk:=za he hj
 split at h
 ·rename_i k n hn
  rw [hn] at hk
  generalize hui:a.eval i=ui at hk
  cases hk
  split at h
  ·rename_i h0
   have run:∀ (ad:Addr) (len cap:Nat),n.toNat < len→(Instr.indexAt t (.slice (some ad) len cap) (.int k n)).run P w=.ok (.pointer (some (ad.add (n.toNat * inf.size)))) w:=by
    intro ad len cap hlt
    have h2:0≤n∧n < len:=⟨h0,by omega⟩
    simp [Instr.indexAt,asIntOf,run_underlying ht,sizeOf,typeInfo,hi,if_pos h2]
   split at h
   ·rename_i rows hx
    rw [hx] at hv
    generalize hu:a.eval x=u at hv
    split at h
    ·rename_i row hrow
     split at h
     ·rename_i hsz
      obtain ⟨rfl,rfl⟩:=zf2 h
      cases hv with
      | fslNil=>simp at hrow
      | fsl vs hn hr hc hvv hcap=>
        rename_i sz b q m cap
        have hlt:n.toNat < rows.length:=(List.getElem?_eq_some_iff.1 hrow).1
        have hs:sz=inf.size:=by rw [← hsz,z01 (hr row (List.mem_of_getElem? hrow))]
        subst hs
        refine zi2 hw (v:=.pointer (some ⟨b,q + n.toNat * inf.size + 0,none⟩)) ?_ (.fptr (vs n.toNat) ?_ (fun j z hz=>?_) (fun j z hz=>hvv _ row j z hrow hz))
        ·have:=run ⟨b,q,none⟩ m cap (by omega)
         rw [z99] at this
         simp [execOp,ho,hu,hui,this]
        ·exact z4g (hr row (List.mem_of_getElem? hrow))
        ·exact hc _ row j z hrow hz
     ·simp [zd] at h
    ·simp [zd] at h
   ·rename_i id gen off len hx
    obtain ⟨hf,rfl⟩:=zco h
    rw [hx] at hv
    generalize hu:a.eval x=u at hv
    cases hv with
    | sl hl hg hlc ha=>
      rename_i cap l ad
      rw [z37] at hf
      split at hf
      ·rename_i g' sz' rows hB
       simp only [List.cons.injEq,and_true] at hB
       have hB:=z3d hB
       split at hf
       ·rename_i hc
        obtain ⟨rfl,hlt,rfl⟩:=hc
        simp only [Option.some.injEq] at hf; subst hf
        have hgl:g'=l.gen:=hw.gen id _ l hB hl
        have hs:=hw.arrSz hB hl
        obtain ⟨had,_⟩:=ha hgl.symm
        refine zi2 hw (v:=.pointer (some (ad.add (n.toNat * inf.size)))) ?_ (.ptr hl hg (fun _=>?_))
        ·simp [execOp,ho,hu,hui,run ad len cap hlt]
        ·rw [had (by omega),z99,← hs,Nat.add_mul]; simp [Nat.add_assoc]
       ·simp at hf
      ·simp at hf
   ·simp [zd] at h
  ·simp [zd] at h
 ·simp [zd] at h
theorem z6u {c:Call} {x:Operand} {t:TypeId} (ho:o.op=.call c) (hcal:c.callee=.builtin .len) (hargs:c.args.toList=[x]) (hts:c.argTypes.toList=[t]) {k:LenK}
 (ht:match k with | .str=>P.underlying t=some .string | .slice=>(∃ e,P.underlying t=some (.slice e)) | .map=>(∃ k e,P.underlying t=some (.map k e)))
 {y:AOperand} (hy:z7 x=some y) (he:EnvR φ μ look a) (hw:WR CR W φ μ H w)
 (h:zd call slot H (actOf (zk look) (.len k y))=some (r,H')):SimR CR P W φ μ o a.eval w r H':=by
 have e1:c.args=#[x]:=by apply Array.ext'; simpa using hargs
 have e2:c.argTypes=#[t]:=by apply Array.ext'; simpa using hts
 have key:∀ (u:Value) (n:Int),a.eval x=u→(Builtin.len_ #[t] o.type #[u]).run P w=.ok (.int .i64 n) w→(execOp a.eval o).run P w=.ok (.value (.int .i64 n)) w:=by
  intro u n hu hr
  simp only [execOp,ho,resolve,hcal,e1,e2,Sem.run_bind,Sem.run_pure,Result.andThen_ok,invoke,builtin]
  simp [hu,hr]
 simp only [actOf] at h
 have hv:=za he hy
 split at h
 ·rename_i s hs
  obtain ⟨rfl,rfl⟩:=zf2 h
  rw [hs] at hv
  generalize hu:a.eval x=u at hv
  cases hv
  exact zi2 hw (key _ _ hu (by simp [Builtin.len_,run_underlying ht,goInt])) (.int _ _)
 ·rename_i hs
  obtain ⟨rfl,rfl⟩:=zf2 h
  obtain ⟨e,ht⟩:=ht
  rw [hs] at hv
  generalize hu:a.eval x=u at hv
  cases hv
  exact zi2 hw (key _ _ hu (by simp [Builtin.len_,run_underlying ht,goInt])) (.int _ _)
 ·rename_i hs
  obtain ⟨rfl,rfl⟩:=zf2 h
  obtain ⟨k,e,ht⟩:=ht
  rw [hs] at hv
  generalize hu:a.eval x=u at hv
  cases hv
  exact zi2 hw (key _ _ hu (by simp [Builtin.len_,run_underlying ht,goInt])) (.int _ _)
 ·rename_i rows hs
  obtain ⟨rfl,rfl⟩:=zf2 h
  obtain ⟨e,ht⟩:=ht
  rw [hs] at hv
  generalize hu:a.eval x=u at hv
  cases hv with
  | fslNil=>exact zi2 hw (key _ _ hu (by simp [Builtin.len_,run_underlying ht,goInt])) (.int _ _)
  | fsl vs hn=>subst hn; exact zi2 hw (key _ _ hu (by simp [Builtin.len_,run_underlying ht,goInt])) (.int _ _)
 ·rename_i id gen off n hs
  obtain ⟨rfl,rfl⟩:=zf2 h
  obtain ⟨e,ht⟩:=ht
  rw [hs] at hv
  generalize hu:a.eval x=u at hv
  cases hv
  exact zi2 hw (key _ _ hu (by simp [Builtin.len_,run_underlying ht,goInt])) (.int _ _)
 ·rename_i id gen hs
  obtain ⟨hf,rfl⟩:=zco h
  obtain ⟨k,e,ht⟩:=ht
  rw [hs] at hv
  generalize hu:a.eval x=u at hv
  cases hv with
  | map hl hg ha=>
    rename_i r' l
    rw [z37] at hf
    split at hf
    ·rename_i g es cl hB
     simp only [List.cons.injEq,and_true] at hB
     have hB:=zff hB
     split at hf
     ·rename_i e; subst e
      simp only [Option.some.injEq] at hf; subst hf
      have hgl:g=l.gen:=hw.gen id _ l hB hl
      cases hw.blk id _ l hB hl with
      | map hm he'=>
        rename_i fs
        have hr:=ha hgl.symm
        subst hr
        refine zi2 hw (key _ _ hu ?_) (.int _ _)
        have hlen:(es.length:Int)=(fs.size:Int):=by have:=he'.1; simp at this; omega
        rw [hlen]
        simp [Builtin.len_,run_underlying ht,goInt,getObj,Sem.run,hm]
     ·simp at hf
    ·simp at hf
 ·simp [zd] at h
def z2q:Option Operand→Option AOperand→Prop
 | some v,some z=>z7 v=some z
 | none,none=>True
 | _,_=>False
theorem zg9 {d top:Nat} {x:Option AOperand} {y:Option Operand} {n:Nat} (hxy:z2q y x) (he:EnvR φ μ look a)
 (h:bound d top (x.map (zk look))=some n):(y=none∧n=d)∨∃ v k i,y=some v∧a.eval v=.int k i∧0≤i∧i≤top∧n=i.toNat:=by
 cases y with
 | none=>
   cases x with
   | some _=>exact hxy.elim
   | none=>
     simp [bound] at h
     exact .inl ⟨rfl,h.symm⟩
 | some v=>
   cases x with
   | none=>exact hxy.elim
   | some z=>
   have hz:z7 v=some z:=hxy
   have hv:=za he hz
   simp only [Option.map_some] at h
   generalize zk look z=p at h hv
   unfold bound at h
   split at h
   ·simp at *
   ·rename_i k i hp
    simp only [Option.some.injEq] at hp; subst hp
    split at h
    ·rename_i hi
     simp at h
     generalize hu:a.eval v=u at hv
     cases hv
     exact .inr ⟨v,k,i,rfl,hu,hi.1,hi.2,h.symm⟩
    ·simp at h
   ·simp at h
theorem zq5 {isSlice:Bool} {len cap h l:Nat} {hi lo:Option Operand} (hh:(hi=none∧h=len)∨∃ v k i,hi=some v∧a.eval v=.int k i∧0≤i∧i≤len∧h=i.toNat) (hc:len≤cap)
 (hl:(lo=none∧l=0)∨∃ v k i,lo=some v∧a.eval v=.int k i∧0≤i∧i≤h∧l=i.toNat) :
 (Instr.sliceBounds isSlice len cap (lo.map a.eval) (hi.map a.eval) none).run P w=.ok (l,h,cap) w:=by
 have step:∀ (k:IntKind) (i:Int) (top:Nat) (code:BoundsCode),0≤i→i≤top→(Instr.sliceBound (.int k i) top code).run P w=.ok i.toNat w:=by
  intro k i top code h1 h2
  simp [Instr.sliceBound,asIntOf,if_pos (And.intro h1 h2)]
 rcases hh with ⟨rfl,rfl⟩ | ⟨v,k,i,rfl,hv,h1,h2,rfl⟩ <;> rcases hl with ⟨rfl,rfl⟩ | ⟨v',k',i',rfl,hv',h1',h2',rfl⟩
 ·simp [Instr.sliceBounds]
 ·simp [Instr.sliceBounds,hv',step k' i' _ _ h1' h2']
 ·simp [Instr.sliceBounds,hv,step k i cap _ h1 (by omega)]
 ·simp [Instr.sliceBounds,hv,hv',step k i cap _ h1 (by omega),step k' i' _ _ h1' h2']
theorem zlr {t:TypeId} {x:Operand} {lo hi:Option Operand} (ho:o.op=.slice t x lo hi none) {sz:Nat}
 (ht:(sz=0∧P.underlying t=some .string)∨(1≤sz∧∃ e i,P.underlying t=some (.slice e)∧P.info? e=some i∧i.size=sz))
 {y:AOperand} {lo' hi':Option AOperand} (hy:z7 x=some y)
 (hlo:z2q lo lo') (hhi:z2q hi hi')
 (he:EnvR φ μ look a) (hw:WR CR W φ μ H w)
 (h:zd call slot H (actOf (zk look) (.slice sz y lo' hi'))=some (r,H')):SimR CR P W φ μ o a.eval w r H':=by
 simp only [actOf] at h
 have hv:=za he hy
 have tail:∀ (e:TypeId) (i:TypeInfo),P.underlying t=some (.slice e)→P.info? e=some i→∀ (ad:Option Addr) (len cap hh ll:Nat),a.eval x=.slice ad len cap →
  (Instr.sliceBounds true len cap (lo.map a.eval) (hi.map a.eval) none).run P w=.ok (ll,hh,cap) w →
  (execOp a.eval o).run P w=.ok (.value (.slice (if cap=ll then ad else ad.map (·.add (ll * i.size))) (hh - ll) (cap - ll))) w:=by
  intro e i hu hi' ad len cap hh ll hx hb
  simp only [execOp,ho,Option.map_none,Instr.sliceAt,Sem.run_bind,run_underlying hu,Result.andThen_ok,Instr.slice,hx,hb,sizeOf,typeInfo]
  simp [hi',hb]
 split at h
 ·rename_i id gen off len hx
  obtain ⟨hf,rfl⟩:=zco h
  rw [hx] at hv
  generalize hu:a.eval x=u at hv
  cases hv with
  | sl hl hg hlc ha=>
    rename_i cap l ad
    rw [z37] at hf
    split at hf
    ·rename_i g' sz' rows hB
     simp only [List.cons.injEq,and_true] at hB
     have hB:=z3d hB
     split at hf
     ·rename_i hc
      obtain ⟨rfl,hle,rfl,hsz⟩:=hc
      split at hf
      ·rename_i hh eh
       split at hf
       ·rename_i ll el
        simp only [Option.some.injEq] at hf; subst hf
        have bh:=zg9 hhi he eh
        have bl:=zg9 hlo he el
        have hgl:g'=l.gen:=hw.gen id _ l hB hl
        obtain ⟨had,hcap⟩:=ha hgl.symm
        have hb:=zq5 (P:=P) (w:=w) (isSlice:=true) bh hlc bl
        have hhl:hh≤len:=by rcases bh with ⟨_,rfl⟩ | ⟨_,_,i,_,_,_,hi,rfl⟩ <;> omega
        have hll:ll≤hh:=by rcases bl with ⟨_,rfl⟩ | ⟨_,_,i,_,_,_,hi,rfl⟩ <;> omega
        rcases ht with ⟨h0,_⟩ | ⟨_,e,i,hue,hie,his⟩
        ·omega
        have hA:=hw.arr hB hl
        have hrun:=tail e i hue hie (some ad) len cap hh ll hu hb
        refine zi2 hw hrun ?_
        have hs:ll≠0→l.sz=i.size:=fun _=>by rw [hw.arrSz hB hl,his]
        have hadd:∀ ad':Addr,(cap - ll≠0→ad'=ad.add (ll * i.size))→VR φ μ (.sl id g' (off + ll) (hh - ll)) (.slice (some ad') (hh - ll) (cap - ll)):=by
         intro ad' had'
         refine .sl hl hg (by omega) (fun _=>⟨fun hne=>?_,by omega⟩)
         rw [had' hne,had (by omega)]
         by_cases e0:ll=0
         ·subst e0; simp [Addr.add]
         ·rw [z99,← hs e0,Nat.add_mul,Nat.add_assoc]
        split
        ·exact hadd ad (fun hne=>by omega)
        ·exact hadd _ (fun _=>rfl)
       ·simp at hf
      ·simp at hf
     ·simp at hf
    ·simp at hf
 ·rename_i v hnv
  obtain ⟨hb,rfl⟩:=z24 h
  generalize zk look y=p at hb hv
  unfold zij at hb
  split at hb
  ·rename_i s
   split at hb
   ·rename_i h0
    split at hb
    ·rename_i hh eh
     split at hb
     ·rename_i ll el
      simp only [Option.some.injEq] at hb; subst hb
      rcases ht with ⟨_,hue⟩ | ⟨h1,_⟩
      ·generalize hu:a.eval x=u at hv
       cases hv
       have hbd:=zq5 (P:=P) (w:=w) (isSlice:=false) (zg9 hhi he eh) (Nat.le_refl _) (zg9 hlo he el)
       refine zi2 hw (v:=.string (s.extract ll hh)) ?_ (.str _)
       simp [execOp,ho,Instr.sliceAt,run_underlying hue,Instr.slice,hu,hbd]
      ·omega
     ·simp at hb
    ·simp at hb
   ·simp at hb
  ·split at hb
   ·simp at hb
   ·split at hb
    ·rename_i hh eh
     split at hb
     ·rename_i ll el
      simp only [Option.some.injEq] at hb; subst hb
      rcases ht with ⟨h0,_⟩ | ⟨_,e,i,hue,hie,his⟩
      ·omega
      ·generalize hu:a.eval x=u at hv
       cases hv
       have bh:=zg9 hhi he eh
       have bl:=zg9 hlo he el
       have hrun:=tail e i hue hie none 0 0 hh ll hu (zq5 (isSlice:=true) bh (Nat.le_refl _) bl)
       have hh0:hh=0:=by rcases bh with ⟨_,rfl⟩ | ⟨_,_,i,_,_,_,hi,rfl⟩ <;> omega
       subst hh0
       exact zi2 hw hrun (by simp; exact .nilsl)
     ·simp at hb
    ·simp at hb
  ·rename_i kk rows
   split at hb
   ·simp at hb
   ·split at hb
    ·rename_i hh eh
     split at hb
     ·rename_i ll el
      split at hb
      ·rename_i hall
       simp only [Option.some.injEq] at hb; subst hb
       rcases ht with ⟨h0,_⟩ | ⟨_,e,i,hue,hie,his⟩
       ·omega
       have bh:=zg9 hhi he eh
       have bl:=zg9 hlo he el
       have hhl:hh≤rows.length:=by rcases bh with ⟨_,rfl⟩ | ⟨_,_,i,_,_,_,hi,rfl⟩ <;> omega
       have hll:ll≤hh:=by rcases bl with ⟨_,rfl⟩ | ⟨_,_,i,_,_,_,hi,rfl⟩ <;> omega
       generalize hu:a.eval x=u at hv
       cases hv with
       | fslNil=>
         have hrun:=tail e i hue hie _ 0 0 hh ll hu (zq5 (isSlice:=true) bh (Nat.le_refl _) bl)
         simp at hhl; subst hhl
         exact zi2 hw hrun (by simp; exact .fslNil)
       | fsl vs hn hr hc hvv hcap=>
         rename_i sz' b q n cap
         subst hn
         have hrun:=tail e i hue hie (some ⟨b,q,none⟩) rows.length cap hh ll hu (zq5 (isSlice:=true) bh hcap bl)
         refine zi2 hw hrun ?_
         have hs:∀ k:Nat,k < (List.take (hh - ll) (List.drop ll rows)).length→sz'=i.size:=by
          intro k hk
          have hlt:ll < rows.length:=by simp at hk; omega
          have hm:=List.getElem_mem hlt
          have h1:=List.all_eq_true.1 hall _ hm
          have h2:=z01 (hr _ hm)
          simp at h1
          omega
         have get:∀ (k:Nat) (r:AV),(List.take (hh - ll) (List.drop ll rows))[k]? = some r→rows[ll + k]? = some r:=by
          intro k r hk
          rw [List.getElem?_take] at hk
          split at hk
          ·rwa [List.getElem?_drop] at hk
          ·simp at hk
         have fin:∀ (o':Nat) (cap':Nat),(hh - ll≠0→o'=q + ll * i.size)→hh - ll≤cap'→VR φ μ (.fsl kk (List.take (hh - ll) (List.drop ll rows))) (.slice (some ⟨b,o',none⟩) (hh - ll) cap'):=by
          intro o' cap' ho' hcap'
          refine .fsl (sz:=sz') (fun k j=>vs (ll + k) j) (by simp; omega) (fun r hrm=>hr r (List.mem_of_mem_drop (List.mem_of_mem_take hrm))) (fun k r j x h1 h2=>?_) (fun k r j x h1 h2=>hvv _ r j x (get k r h1) h2) hcap'
          have hk:=(List.getElem?_eq_some_iff.1 h1).1
          have:=hc (ll + k) r j x (get k r h1) h2
          have hk':k < hh - ll:=by simp at hk; omega
          rw [ho' (by omega),← hs k hk]
          rw [← this]; congr 1
          rw [Nat.add_mul]; omega
         split
         ·rename_i ec
          exact fin q _ (fun hne=>by omega) (by omega)
         ·rename_i ec
          simp only [Option.map_some,z99]
          exact fin _ _ (fun _=>rfl) (by omega)
      ·simp at hb
     ·simp at hb
    ·simp at hb
  ·simp at hb
end Go.Abs
namespace Go.Abs
open Go.RowKit
variable {CR:CRel} {P:Program} {W:BaseW} {w:World} {φ:Frz} {μ:List Loc} {H H':Heap} {look:Nat→AV} {a:Act} {call:CallF} {slot:Option Nat} {r:AV} {o:Oper} {ao:AOp}
theorem zdo {ids:List Nat} {f:List Blk→Nat→Nat→Option (AV×Blk)} (h:zd call slot H (.nw ids f)=some (r,H')) :
 ∃ k g b,Place H slot k g∧f (blks H ids) k g=some (r,b)∧H'=putAt slot H b:=by
 simp only [zd] at h
 cases slot with
 | none=>
   simp only at h
   split at h
   ·rename_i v b hb
    simp only [Option.some.injEq,Prod.mk.injEq] at h
    obtain ⟨rfl,rfl⟩:=h
    exact ⟨_,_,b, .back,hb,rfl⟩
   ·simp at h
 | some s=>
   simp only at h
   split at h
   ·rename_i g hg
    split at h
    ·rename_i v b hb
     simp only [Option.some.injEq,Prod.mk.injEq] at h
     obtain ⟨rfl,rfl⟩:=h
     exact ⟨_,_,b, .kept hg,hb,rfl⟩
    ·simp at h
   ·simp at h
theorem zfc (hlen:μ.length=H.length) {slot:Option Nat} {k g:Nat} (hp:Place H slot k g) (l:Loc):(locAt slot μ l)[k]? = some l:=by
 cases hp with
 | back=>simp only [locAt]; rw [← hlen]; simp
 | kept hs=>have:=(List.getElem?_eq_some_iff.1 hs).1; simp [locAt,hlen,this]
theorem WR.newRows (hw:WR CR W φ μ H w) {slot:Option Nat} {k g:Nat} (hp:Place H slot k g) {rows:List AV} {sz cap:Nat} {c:Array Value} {t:TypeId} (h1:1≤sz) (hok:∀ r∈rows,r.rowok sz=true) (hcap:rows.length≤cap) (hc:cap * sz≤c.size)
 (hv:∀ (i:Nat) (r:AV) (j:Nat) (x:AV),rows[i]? = some r→r.cells[j]? = some x→∃ v,c[i * sz + j]? = some v∧VR φ μ x v) :
 ∃ μ',WR CR W φ μ' (putAt slot H (.arr g sz rows)) { w with heap:=w.heap.push (.cells c t) }∧MExt μ μ'∧μ'[k]? = some ⟨w.heap.size,0,sz,cap,g⟩:=by
 refine ⟨locAt slot μ ⟨w.heap.size,0,sz,cap,g⟩,hw.new hp rfl rfl rfl (.arr rfl ⟨h1,hok,hcap,c,t,by simp,by simpa using hc,fun i r j x h1 h2=>?_⟩),zp5 hw hp rfl,zfc hw.len hp _⟩
 obtain ⟨v,e,hx⟩:=hv i r j x h1 h2
 exact ⟨v,by simpa using e,hx.mono (FExt.refl φ) (zp5 hw hp rfl)⟩
theorem zd4 {t:TypeId} {z:AV} (h:ze9 P t=some z):∃ i v,P.info? t=some i∧i.zero=some v∧(∀ (φ:Frz) (μ:List Loc),VR φ μ z v)∧z.rowok i.size=true∧1≤i.size:=by
 unfold ze9 at h
 split at h
 ·rename_i i hi
  split at h
  ·rename_i v hv
   split at h
   ·rename_i x hx
    split at h
    ·rename_i hc
     simp at h; subst h
     simp only [Bool.and_eq_true,beq_iff_eq,decide_eq_true_eq] at hc
     exact ⟨i,v,hi,hv,fun φ μ=>z2g hx,by simp only [AV.rowok,Bool.and_eq_true,beq_iff_eq]; exact ⟨hc.1.2,hc.1.1⟩,hc.2⟩
    ·simp at h
   ·simp at h
  ·simp at h
 ·simp at h
theorem za9 {t:TypeId} {i:TypeInfo} {v:Value} (hi:P.info? t=some i) (hz:i.zero=some v) (w:World):(zeroValue t).run P w=.ok v w:=by
 simp [zeroValue,typeInfo,hi,hz]
theorem zmr {x:AV} {v:Value} {n:Nat} (hx:VR φ μ x v) (hr:x.rowok n=true):∀ (i:Nat) (r:AV) (j:Nat) (y:AV),[x][i]? = some r→r.cells[j]? = some y→∃ u,v.cells[i * n + j]? = some u∧VR φ μ y u:=by
 intro i r j y h1 h2
 have:i=0:=by
  cases i with
  | zero=>rfl
  | succ i=>simp at h1
 subst this
 simp at h1; subst h1
 have hc:=hx.cells (by rw [z01 hr]; exact hr)
 have hlt:=(List.getElem?_eq_some_iff.1 h2).1
 have hlt':j < v.cells.size:=by rw [← Array.length_toList,← hc.1]; exact hlt
 refine ⟨v.cells[j],by simp [hlt'],hc.2 j y _ h2 ?_⟩
 simp [hlt']
theorem ze4 {x:AV} {v:Value} {n:Nat} (hx:VR φ μ x v) (hr:x.rowok n=true):v.cells.size=n:=by
 have hc:=hx.cells (by rw [z01 hr]; exact hr)
 rw [← Array.length_toList,← hc.1,z01 hr]
theorem zlz {t:TypeId} (ho:o.op=.alloc t) {z:AV} (hz:ze9 P t=some z) (hw:WR CR W φ μ H w)
 (h:zd call slot H (actOf (zk look) (.alloc z))=some (r,H')):SimR CR P W φ μ o a.eval w r H':=by
 simp only [actOf] at h
 obtain ⟨k,g,b,hp,hf,rfl⟩:=zdo h
 split at hf
 ·simp only [Option.some.injEq,Prod.mk.injEq] at hf
  obtain ⟨rfl,rfl⟩:=hf
  obtain ⟨i,v,hi,hzv,hv,hr,h1⟩:=zd4 hz
  obtain ⟨μ',hw',hm,hl⟩:=hw.newRows (t:=t) hp h1 (by simpa using hr) (Nat.le_refl _) (by simp [ze4 (hv φ μ) hr]) (zmr (hv φ μ) hr)
  rw [z01 hr]
  refine ⟨.pointer (some ⟨w.heap.size,0,none⟩),_,μ', .inl ?_,hw',hm, .ptr hl (Nat.le_refl _) (fun _=>by simp)⟩
  simp [execOp,ho,Instr.alloc,za9 hi hzv,newVar,newRow]
 ·simp at hf
theorem zm61 {t:TypeId} {x:Operand} (ho:o.op=.box t x) {g0:Bool} {n:Nat} (ht:z68 P t=some (g0,n)) (h1:1≤n) {y:AOperand} (hy:z7 x=some y) (he:EnvR φ μ look a) (hw:WR CR W φ μ H w)
 (h:zd call slot H (actOf (zk look) (.box n y))=some (r,H')):SimR CR P W φ μ o a.eval w r H':=by
 simp only [actOf] at h
 obtain ⟨k,g,b,hp,hf,rfl⟩:=zdo h
 split at hf
 ·rename_i hr
  simp only [Option.some.injEq,Prod.mk.injEq] at hf
  obtain ⟨rfl,rfl⟩:=hf
  have hv:=za he hy
  obtain ⟨μ',hw',hm,hl⟩:=hw.newRows (t:=t) hp h1 (by simpa using hr) (Nat.le_refl _) (by simp [ze4 hv hr]) (zmr hv hr)
  refine ⟨.pointer (some ⟨w.heap.size,0,none⟩),_,μ', .inl ?_,hw',hm, .ptr hl (Nat.le_refl _) (fun _=>by simp)⟩
  simp [execOp,ho,Instr.box,newVar,newRow]
 ·simp at hf
theorem z7u {t:TypeId} (ho:o.op=.makeMap t none) (hw:WR CR W φ μ H w)
 (h:zd call slot H (actOf (zk look) .makeMap)=some (r,H')):SimR CR P W φ μ o a.eval w r H':=by
 simp only [actOf] at h
 obtain ⟨k,g,b,hp,hf,rfl⟩:=zdo h
 simp only [Option.some.injEq,Prod.mk.injEq] at hf
 obtain ⟨rfl,rfl⟩:=hf
 have hw':=hw.new (l:=⟨w.heap.size,0,1,0,g⟩) (o:=.map #[] 0) (B:=.map g [] 0) hp rfl rfl rfl (.map (fs:=#[]) (by simp) ⟨rfl,fun i e f h=>by simp at h⟩)
 refine ⟨.map (some w.heap.size),_,_, .inl ?_,hw',zp5 hw hp rfl, .map (zfc hw.len hp _) (Nat.le_refl _) (fun _=>rfl)⟩
 simp [execOp,ho,Instr.makeMap]
theorem z4d {cs new:List AV} {off:Nat} (h:off + new.length≤cs.length):(splice cs off new).length=cs.length:=by
 simp [splice]; omega
theorem zri {cs new:List AV} {off i:Nat} (h:off + new.length≤cs.length):(splice cs off new)[i]? = if off≤i∧i < off + new.length then new[i - off]? else cs[i]? := by
 unfold splice
 have hl:(cs.take off).length=off:=by simp; omega
 by_cases h1:i < off
 ·rw [List.append_assoc,List.getElem?_append_left (by omega),List.getElem?_take,if_pos h1,if_neg (by omega)]
 ·by_cases h2:i < off + new.length
  ·rw [if_pos ⟨by omega,h2⟩,List.getElem?_append_left (by simp; omega),List.getElem?_append_right (by omega),hl]
  ·rw [if_neg (by omega),List.getElem?_append_right (by simp; omega),List.getElem?_drop]
   congr 1
   simp; omega
theorem znr:∀ (l:List Value) (k off:Nat) (cs:Array Value),off + k + l.length≤cs.size →
 ((l.zipIdx k).foldl (fun cs (p:Value×Nat)=>cs.setIfInBounds (off + p.2) p.1) cs).size=cs.size ∧
 ∀ i:Nat,((l.zipIdx k).foldl (fun cs (p:Value×Nat)=>cs.setIfInBounds (off + p.2) p.1) cs)[i]? = if off + k≤i∧i < off + k + l.length then l[i - (off + k)]? else cs[i]?
 | [],k,off,cs,_=>by simp; intro i h1 h2; omega
 | v::l,k,off,cs,h=>by
   simp only [List.zipIdx_cons,List.foldl_cons]
   have ih:=znr l (k + 1) off (cs.setIfInBounds (off + k) v) (by simp at h ⊢; omega)
   refine ⟨by rw [ih.1]; simp,fun i=>?_⟩
   rw [ih.2 i]
   simp only [List.length_cons] at h
   by_cases h1:off + (k + 1)≤i∧i < off + (k + 1) + l.length
   ·rw [if_pos h1,if_pos (by simp; omega)]
    have:i - (off + k)=(i - (off + (k + 1))) + 1:=by omega
    rw [this]; simp
   ·rw [if_neg h1]
    by_cases h2:i=off + k
    ·subst h2
     have:off + k < cs.size:=by omega
     simp [this]
    ·rw [if_neg (by simp; omega)]
     simp [Ne.symm h2]
theorem zor {place:Nat→Option (Nat×Nat)} {cells:Array Value} {i:Nat} {v:Value} {rest:List (Nat×Value)} {off size:Nat} (hp:place i=some (off,size)) (hv:v.cells.size=size) (hle:off + size≤cells.size) :
 ∃ cells':Array Value,cells'.size=cells.size∧(∀ j:Nat,cells'[j]? = if off≤j∧j < off + size then v.cells[j - off]? else cells[j]?) ∧
   Instr.fill place cells ((i,v)::rest)=Instr.fill place cells' rest:=by
 have hf:=znr v.cells.toList 0 off cells (by simp; omega)
 refine ⟨v.cells.zipIdx.foldl (fun cs (p:Value×Nat)=>cs.setIfInBounds (off + p.2) p.1) cells,?_,?_,?_⟩
 ·rw [← Array.foldl_toList,Array.toList_zipIdx]; exact hf.1
 ·intro j
  rw [← Array.foldl_toList,Array.toList_zipIdx]
  have:=hf.2 j
  simp only [Nat.add_zero] at this
  rw [this]
  simp [hv]
 ·simp only [Instr.fill,hp]
  rw [if_neg]
  simp [hv]; omega
theorem zex {fs:Array Field} {sizes:Nat→Option (Nat×Nat)}:∀ (parts:List (Nat×Operand)) (ps:List (Nat×Nat×AOperand)) (cs:List AV) (cells:Array Value) (res:AV),
 (∀ (k:Nat) (p:Nat×Operand) (q:Nat×Nat×AOperand),parts[k]? = some p→ps[k]? = some q→sizes p.1=some (q.1,q.2.1)∧VR φ μ (zk look q.2.2) (a.eval p.2))→parts.length=ps.length →
 VRs φ μ cs cells.toList→zpf cs (ps.map fun (o,s,x)=>(o,s,zk look x))=some res →
 ∃ cells',Instr.fill sizes cells (parts.map fun (i,x)=>(i,a.eval x))=some cells'∧VR φ μ res (.agg cells'):=by
 intro parts
 induction parts with
 | nil=>
   intro ps cs cells res hp hl hv hb
   cases ps with
   | cons _ _=>simp at hl
   | nil=>
     simp [zpf] at hb; subst hb
     exact ⟨cells,rfl,by have:=VR.agg hv.1 hv.2; simpa using this⟩
 | cons p parts ih=>
   intro ps cs cells res hp hl hv hb
   cases ps with
   | nil=>simp at hl
   | cons q ps=>
     obtain ⟨i,x⟩:=p
     obtain ⟨off,s,y⟩:=q
     obtain ⟨hpl,hxy⟩:=hp 0 _ _ rfl rfl
     simp only at hpl hxy
     simp only [List.map_cons,zpf] at hb
     split at hb
     ·rename_i hc
      obtain ⟨hr,hle⟩:=hc
      have hsz:=ze4 hxy hr
      have hlen:cs.length=cells.size:=by rw [hv.1]; simp
      obtain ⟨cells',e1,e2,e3⟩:=zor (place:=sizes) (cells:=cells) (rest:=parts.map fun (i,x)=>(i,a.eval x)) hpl hsz (by omega)
      have hcl:=z01 hr
      have hv':VRs φ μ (splice cs off (zk look y).cells) cells'.toList:=by
       refine ⟨by rw [z4d (by omega)]; simp [e1,hlen],fun j z u h1 h2=>?_⟩
       rw [zri (by omega),hcl] at h1
       have h2':cells'[j]? = some u:=by simpa using h2
       rw [e2 j] at h2'
       split at h1
       ·rename_i hj
        rw [if_pos hj] at h2'
        have hcc:=hxy.cells (by rw [hcl]; exact hr)
        exact hcc.2 _ z u h1 (by simpa using h2')
       ·rename_i hj
        rw [if_neg hj] at h2'
        exact hv.2 j z u h1 (by simpa using h2')
      obtain ⟨cells'',f1,f2⟩:=ih ps _ cells' res (fun k p q h1 h2=>hp (k + 1) p q (by simpa using h1) (by simpa using h2)) (by simpa using hl) hv' hb
      exact ⟨cells'',by simp only [List.map_cons]; rw [e3]; exact f1,f2⟩
     ·simp at hb
theorem z5d {α β:Type} {f:α→Option β}:∀ {l:List α} {l':List β},zdc f l=some l'→l.length=l'.length∧∀ (i:Nat) (x:α) (y:β),l[i]? = some x→l'[i]? = some y→f x=some y
 | [],l',h=>by simp [zdc] at h; subst h; simp
 | x::l,l',h=>by
   simp only [zdc] at h
   split at h
   ·rename_i y ys h1 h2
    simp at h; subst h
    have ih:=z5d h2
    refine ⟨by simp [ih.1],fun i z u e1 e2=>?_⟩
    cases i with
    | zero=>simp at e1 e2; subst e1; subst e2; exact h1
    | succ i=>simp at e1 e2; exact ih.2 i z u e1 e2
   ·simp at h
theorem z8u {fs:Array Field} (hfs:∀ f∈fs.toList,∃ i,P.info? f.type=some i) (w:World) :
 (fs.mapM (fun (f:Field)=>(do pure (f.offset,← sizeOf f.type):Sem (Nat×Nat)))).run P w=.ok (fs.map fun f=>(f.offset,P.cellsOf f.type)) w:=by
 have key:∀ (l:List Field),(∀ f∈l,∃ i,P.info? f.type=some i)→(l.mapM (fun (f:Field)=>(do pure (f.offset,← sizeOf f.type):Sem (Nat×Nat)))).run P w=.ok (l.map fun f=>(f.offset,P.cellsOf f.type)) w:=by
  intro l
  induction l with
  | nil=>intro _; simp
  | cons f l ih=>
    intro h
    obtain ⟨i,hi⟩:=h f (by simp)
    have:=ih (fun g hg=>h g (by simp [hg]))
    have hs:(sizeOf f.type).run P w=.ok i.size w:=by simp [sizeOf,typeInfo,hi]
    simp only [List.mapM_cons,Sem.run_bind,hs,Result.andThen_ok,Sem.run_pure,this,List.map_cons]
    simp [Program.cellsOf,hi]
 rw [Array.mapM_eq_mapM_toList]
 simp only [Sem.run_map,key fs.toList hfs,Result.andThen_ok]
 congr 1
 apply Array.ext'
 simp
theorem zmz {t:TypeId} {parts:Array (Nat×Operand)} (ho:o.op=.build t parts) {fs:Array Field} (hs:P.underlying t=some (.struct fs)) (hall:fs.all (fun f=>(P.info? f.type).isSome)=true) {z:AV} (hz:ze9 P t=some z)
 {ps:List (Nat×Nat×AOperand)} (hps:z8o P fs parts.toList=some ps) (he:EnvR φ μ look a) (hw:WR CR W φ μ H w)
 (h:zd call slot H (actOf (zk look) (.build z.cells ps))=some (r,H')):SimR CR P W φ μ o a.eval w r H':=by
 obtain ⟨hb,rfl⟩:=z24 h
 obtain ⟨i,v,hi,hzv,hv,hr,h1⟩:=zd4 hz
 have hsp:=z5d hps
 have hcc:=(hv φ μ).cells (by rw [z01 hr]; exact hr)
 obtain ⟨cells',f1,f2⟩:=zex (fs:=fs) (a:=a) (look:=look) (sizes:=fun k=>(fs.map fun f=>(f.offset,P.cellsOf f.type))[k]?) parts.toList ps z.cells v.cells r (fun k p q h1 h2=>by
  have:=hsp.2 k p q h1 h2
  split at this
  ·rename_i f x hf hx
   split at this
   ·rename_i inf hinf
    simp at this; subst this
    exact ⟨by simp [hf,Program.cellsOf,hinf],za he hx⟩
   ·simp at this
  ·simp at this) hsp.1 hcc hb
 refine zi2 hw (v:=.agg cells') ?_ f2
 have hm:=z8u (P:=P) (fs:=fs) (fun f hf=>by
  have:=Array.all_eq_true_iff_forall_mem.1 hall f (Array.mem_toList_iff.1 hf)
  exact Option.isSome_iff_exists.1 this) w
 simp only [execOp,ho,Instr.build,Sem.run_bind,za9 hi hzv,Result.andThen_ok,run_underlying hs,hm]
 have e:(parts.map fun (i,x)=>(i,a.eval x)).toList=parts.toList.map fun (i,x)=>(i,a.eval x):=by simp
 simp only [e,f1]
 simp
end Go.Abs
namespace Go.Abs
open Go.RowKit
variable {CR:CRel} {P:Program} {W:BaseW} {w:World} {φ:Frz} {μ:List Loc} {H H':Heap} {look:Nat→AV} {a:Act} {call:CallF} {slot:Option Nat} {r:AV} {o:Oper} {ao:AOp}
theorem z3q {z:Array Value} {n sz i j:Nat} (hz:z.size=sz) (hj:j < sz) (hi:i * sz + j < n):∃ h:j < z.size,(madeCells z n)[i * sz + j]? = some z[j]:=by
 subst hz
 refine ⟨hj,?_⟩
 have hm:(i * z.size + j) % z.size=j:=by rw [Nat.mul_comm,Nat.mul_add_mod,Nat.mod_eq_of_lt hj]
 simp only [madeCells]
 rw [Array.getElem?_map]
 simp [hi,hm,hj]
theorem z1b {i n sz j:Nat} (hi:i < n) (hj:j < sz):i * sz + j < n * sz:=by
 calc i * sz + j < i * sz + sz:=by omega
  _=(i + 1) * sz:=by rw [Nat.add_mul]; omega
  _≤n * sz:=Nat.mul_le_mul_right _ hi
theorem z6d {z:AV} {v:Value} {n m sz:Nat} (hv:VR φ μ z v) (hr:z.rowok sz=true) (hnm:n≤m):∀ (i:Nat) (r:AV) (j:Nat) (x:AV),(List.replicate n z)[i]? = some r→r.cells[j]? = some x →
 ∃ u,(madeCells v.cells (m * sz))[i * sz + j]? = some u∧VR φ μ x u:=by
 intro i r j x h1 h2
 have hi:=(List.getElem?_eq_some_iff.1 h1).1
 simp at hi
 rw [List.getElem?_replicate,if_pos hi] at h1
 simp at h1; subst h1
 have hj:=(List.getElem?_eq_some_iff.1 h2).1
 rw [z01 hr] at hj
 obtain ⟨hlt,e⟩:=z3q (z:=v.cells) (n:=m * sz) (sz:=sz) (i:=i) (j:=j) (ze4 hv hr) hj (Nat.lt_of_lt_of_le (z1b hi hj) (Nat.mul_le_mul_right _ hnm))
 have hc:=hv.cells (by rw [z01 hr]; exact hr)
 exact ⟨_,e,hc.2 j x _ h2 (by simp [hlt])⟩
theorem z4q {t:TypeId} {x y:Operand} (ho:o.op=.makeSlice t x y) {e:TypeId} (ht:P.underlying t=some (.slice e)) {z:AV} (hz:ze9 P e=some z) {i:TypeInfo} (hi:P.info? e=some i)
 {x' y':AOperand} (hx:z7 x=some x') (hy:z7 y=some y') (he:EnvR φ μ look a) (hw:WR CR W φ μ H w)
 (h:zd call slot H (actOf (zk look) (.makeSlice z i.bytes x' y'))=some (r,H')):SimR CR P W φ μ o a.eval w r H':=by
 simp only [actOf] at h
 have h1:=za he hx
 have h2:=za he hy
 split at h
 ·rename_i kn n km m hn hm
  rw [hn] at h1; rw [hm] at h2
  generalize hu:a.eval x=u at h1
  generalize hv:a.eval y=v at h2
  cases h1; cases h2
  split at h
  ·rename_i hc
   obtain ⟨c0,c1,c2,c3⟩:=hc
   obtain ⟨k,g,b,hp,hf,rfl⟩:=zdo h
   split at hf
   ·simp only [Option.some.injEq,Prod.mk.injEq] at hf
    obtain ⟨rfl,rfl⟩:=hf
    obtain ⟨i',zv,hi',hzv,hvr,hr,hs1⟩:=zd4 hz
    rw [hi] at hi'; cases hi'
    have hb:(i.bytes:Int) * m≤281474976710656:=by
     have:((m.toNat * i.bytes:Nat):Int)≤140737488355328:=by omega
     have e2:((m.toNat * i.bytes:Nat):Int)=m * (i.bytes:Int):=by rw [Int.natCast_mul]; congr 1; omega
     rw [e2,Int.mul_comm] at this
     omega
    have hrun:=run_make (P:=P) w t e i zv ht hi hzv kn km n m c0 c1 hb (by omega)
    obtain ⟨μ',hw',hm',hl⟩:=hw.newRows (t:=e) (rows:=List.replicate n.toNat z) (cap:=m.toNat) (c:=madeCells zv.cells (m.toNat * i.size)) hp hs1
     (fun r hr'=>by rw [List.eq_of_mem_replicate hr']; exact hr) (by simp; omega) (by simp [madeCells]) (z6d (hvr φ μ) hr (by omega))
    rw [z01 hr]
    refine ⟨_,_,μ', .inl ?_,hw',hm', .sl hl (Nat.le_refl _) (show n.toNat≤m.toNat by omega) (fun _=>⟨fun _=>by simp; rfl,by simp⟩)⟩
    simp only [execOp,ho,hu,hv,Sem.run_bind,hrun,Result.andThen_ok,Sem.run_pure]
    rfl
   ·simp at hf
  ·simp [zd] at h
 ·simp [zd] at h
theorem zpr {sz n:Nat} (h1:1≤sz):∀ (parts:List (Nat×Operand)) (ps:List (Nat×AOperand)) (rows:List AV) (cells:Array Value) (res:List AV),
 (∀ (k:Nat) (p:Nat×Operand) (q:Nat×AOperand),parts[k]? = some p→ps[k]? = some q→p.1=q.1∧VR φ μ (zk look q.2) (a.eval p.2))→parts.length=ps.length →
 rows.length=n→cells.size=n * sz→(∀ r∈rows,r.rowok sz=true)→(∀ (i:Nat) (r:AV) (j:Nat) (x:AV),rows[i]? = some r→r.cells[j]? = some x→∃ v,cells[i * sz + j]? = some v∧VR φ μ x v) →
 zr sz rows (ps.map fun (i,x)=>(i,zk look x))=some res →
 ∃ cells',Instr.fill (fun i=>some (i * sz,sz)) cells (parts.map fun (i,x)=>(i,a.eval x))=some cells'∧res.length=n∧cells'.size=n * sz∧(∀ r∈res,r.rowok sz=true) ∧
   (∀ (i:Nat) (r:AV) (j:Nat) (x:AV),res[i]? = some r→r.cells[j]? = some x→∃ v,cells'[i * sz + j]? = some v∧VR φ μ x v):=by
 intro parts
 induction parts with
 | nil=>
   intro ps rows cells res hp hl hn hs hok hv hb
   cases ps with
   | cons _ _=>simp at hl
   | nil=>
     simp [zr] at hb; subst hb
     exact ⟨cells,rfl,hn,hs,hok,hv⟩
 | cons p parts ih=>
   intro ps rows cells res hp hl hn hs hok hv hb
   cases ps with
   | nil=>simp at hl
   | cons q ps=>
     obtain ⟨i,x⟩:=p
     obtain ⟨i',y⟩:=q
     obtain ⟨hii,hxy⟩:=hp 0 _ _ rfl rfl
     simp only at hii hxy
     subst hii
     simp only [List.map_cons,zr] at hb
     split at hb
     ·rename_i hc
      obtain ⟨hr,hlt⟩:=hc
      have hsz:=ze4 hxy hr
      have hle:i * sz + sz≤cells.size:=by
       rw [hs]; have:=Nat.mul_le_mul_right sz (show i + 1≤n by omega); rw [Nat.add_mul] at this; omega
      obtain ⟨cells',e1,e2,e3⟩:=zor (place:=fun i=>some (i * sz,sz)) (cells:=cells) (rest:=parts.map fun (i,x)=>(i,a.eval x)) (i:=i) rfl hsz hle
      have hcc:=hxy.cells (by rw [z01 hr]; exact hr)
      obtain ⟨cells'',f1,f2⟩:=ih ps _ cells' res (fun k p q h1 h2=>hp (k + 1) p q (by simpa using h1) (by simpa using h2)) (by simpa using hl) (by simp [hn]) (by rw [e1,hs])
       (fun r hrm=>by
        rcases List.mem_or_eq_of_mem_set hrm with hm | rfl
        ·exact hok r hm
        ·exact hr) (fun k r j z h1' h2'=>by
        rw [List.getElem?_set] at h1'
        have hj:r.rowok sz=true→j < sz:=fun hr'=>by have:=(List.getElem?_eq_some_iff.1 h2').1; rw [z01 hr'] at this; exact this
        split at h1'
        ·rename_i hk
         subst hk
         simp only [Option.some.injEq] at h1'; subst h1'
         have hj':=hj hr
         rw [e2]
         rw [if_pos (by omega)]
         have:i * sz + j - i * sz=j:=by omega
         rw [this]
         have hjl:j < (a.eval x).cells.size:=by rw [hsz]; exact hj'
         exact ⟨(a.eval x).cells[j],by simp [hjl],hcc.2 j z _ h2' (by simp [hjl])⟩
        ·rename_i hk
         have hj':=hj (hok r (List.mem_of_getElem? h1'))
         rw [e2,if_neg]
         ·exact hv k r j z h1' h2'
         ·intro hc
          have:k=i:=by
           have a1:k * sz + j < (i + 1) * sz:=by rw [Nat.add_mul]; omega
           have a2:i * sz < (k + 1) * sz:=by rw [Nat.add_mul]; omega
           have b1:=Nat.lt_of_mul_lt_mul_right (a:=sz) (show k * sz < (i + 1) * sz by omega)
           have b2:=Nat.lt_of_mul_lt_mul_right (a:=sz) a2
           omega
          exact hk this.symm) hb
      exact ⟨cells'',by simp only [List.map_cons]; rw [e3]; exact f1,f2⟩
     ·simp at hb
theorem zon {t:TypeId} {len:Nat} {parts:Array (Nat×Operand)} (ho:o.op=.buildSlice t len parts) {e:TypeId} (ht:P.underlying t=some (.slice e)) {z:AV} (hz:ze9 P e=some z)
 {ps:List (Nat×AOperand)} (hps:zdc (fun (p:Nat×Operand)=>match z7 p.2 with | some x=>some (p.1,x) | none=>none) parts.toList=some ps) (hlen:len * z.cells.length≤2 ^ 24) (he:EnvR φ μ look a) (hw:WR CR W φ μ H w)
 (h:zd call slot H (actOf (zk look) (.buildSlice z len ps))=some (r,H')):SimR CR P W φ μ o a.eval w r H':=by
 simp only [actOf] at h
 obtain ⟨k,g,b,hp,hf,rfl⟩:=zdo h
 split at hf
 ·split at hf
  ·rename_i rows hrows
   simp only [Option.some.injEq,Prod.mk.injEq] at hf
   obtain ⟨rfl,rfl⟩:=hf
   obtain ⟨i,v,hi,hzv,hvr,hr,h1⟩:=zd4 hz
   have hzl:=z01 hr
   rw [hzl] at hrows hlen
   have hsp:=z5d hps
   obtain ⟨cells',f1,f2,f3,f4,f5⟩:=zpr (a:=a) (look:=look) (n:=len) h1 parts.toList ps (List.replicate len z) (madeCells v.cells (len * i.size)) rows (fun k p q h1 h2=>by
    have:=hsp.2 k p q h1 h2
    split at this
    ·rename_i x hx; simp at this; subst this; exact ⟨rfl,za he hx⟩
    ·simp at this) hsp.1 (by simp) (by simp [madeCells]) (fun r hr'=>by rw [List.eq_of_mem_replicate hr']; exact hr) (z6d (hvr φ μ) hr (Nat.le_refl _)) hrows
   obtain ⟨μ',hw',hm',hl⟩:=hw.newRows (t:=e) (rows:=rows) (cap:=len) (c:=cells') hp h1 f4 (by omega) (by omega) f5
   rw [hzl]
   refine ⟨.slice (some ⟨w.heap.size,0,none⟩) len len,_,μ', .inl ?_,hw',hm', .sl hl (Nat.le_refl _) (Nat.le_refl _) (fun _=>⟨fun _=>by simp,by simp⟩)⟩
   have e2:(parts.map fun (i,x)=>(i,a.eval x)).toList=parts.toList.map fun (i,x)=>(i,a.eval x):=by simp
   have hn:¬ (len * i.size > 2 ^ 24):=by omega
   have hmk:∀ h0:len * i.size=0,(madeCells v.cells (len * i.size))=#[]:=fun h0=>by simp [madeCells,h0]
   by_cases h0:len * i.size=0
   ·rw [hmk h0] at f1
    have hr0:((Array.range (len * i.size)).map ((#[]:Array Value)[· % (#[]:Array Value).size]!))=#[]:=by simp [h0]
    simp only [execOp,ho,Instr.buildSlice,Sem.run_bind,run_underlying ht,Result.andThen_ok,sizeOf,typeInfo,run_program]
    simp only [hi,Sem.run_pure,Result.andThen_ok,if_neg hn,Sem.run_bind,if_pos h0,e2,hr0,f1,newRow,run_newObj]
   ·have f1':Instr.fill (fun i_1=>some (i_1 * i.size,i.size)) ((Array.range (len * i.size)).map (v.cells[· % v.cells.size]!)) (parts.toList.map fun (i,x)=>(i,a.eval x))=some cells':=f1
    simp only [execOp,ho,Instr.buildSlice,Sem.run_bind,run_underlying ht,Result.andThen_ok,sizeOf,typeInfo,run_program]
    simp only [hi,Sem.run_pure,Result.andThen_ok,if_neg hn,Sem.run_bind,if_neg h0,za9 hi hzv,e2,f1',newRow,run_newObj]
  ·simp at hf
 ·simp at hf
end Go.Abs
namespace Go.Abs
open Go.RowKit
variable {CR:CRel} {P:Program} {W:BaseW} {w:World} {φ:Frz} {μ:List Loc} {H H':Heap} {look:Nat→AV} {a:Act} {call:CallF} {slot:Option Nat} {r:AV} {o:Oper} {ao:AOp}
theorem zeo {ids:List Nat} {id:Nat} {f:List Blk→Option (AV×Blk)} (h:zd call slot H (.md ids id f)=some (r,H')) :
 ∃ b,id < H.length∧f (blks H ids)=some (r,b)∧H'=H.set id b:=by
 simp only [zd] at h
 split at h
 ·rename_i hlt
  split at h
  ·rename_i v b hb
   simp only [Option.some.injEq,Prod.mk.injEq] at h
   obtain ⟨rfl,rfl⟩:=h
   exact ⟨b,hlt,hb,rfl⟩
  ·simp at h
 ·simp at h
theorem WR.live (hw:WR CR W φ μ H w) {id g sz:Nat} {rows:List AV} (hB:H[id]? = some (.arr g sz rows)) {l:Loc} (hl:μ[id]? = some l):W.heap.size≤l.b∧l.b < w.heap.size∧∀ k,φ k l.b=none:=
 hw.own id _ l hB hl rfl
theorem WR.setRows (hw:WR CR W φ μ H w) {id g sz:Nat} {rows rows':List AV} {l:Loc} (hB:H[id]? = some (.arr g sz rows)) (hl:μ[id]? = some l) {c c':Array Value} {t:TypeId} (hc:w.heap[l.b]? = some (.cells c t (0,0)))
 (hsz:c'.size=c.size) (hok:∀ r∈rows',r.rowok l.sz=true) (hcap:rows'.length≤l.cap)
 (hv:∀ (i:Nat) (r:AV) (j:Nat) (x:AV),rows'[i]? = some r→r.cells[j]? = some x→∃ v,c'[l.o + i * l.sz + j]? = some v∧VR φ μ x v) :
 WR CR W φ μ (H.set id (.arr g sz rows')) (w.setRow l.b c'):=by
 have hA:=hw.arr hB hl
 obtain ⟨c0,t0,hc0,hs0,hv0⟩:=hA.mem
 rw [hc] at hc0
 simp only [Option.some.injEq,Obj.cells.injEq,and_true] at hc0
 obtain ⟨rfl,rfl⟩:=hc0
 have hlive:=hw.live hB hl
 have hidl:=(List.getElem?_eq_some_iff.1 hB).1
 have hgen:=hw.gen id _ l hB hl
 refine hw.change (k:=id) (B:=.arr g sz rows') (l:=l) (fun j hj b hb=>by simpa [List.getElem?_set,Ne.symm hj] using hb) (fun j hj l' hl'=>hl') (by simp [hidl]) hl (by simp [hw.len]) (MExt.refl μ)
  ⟨rfl,rfl,rfl,by simp,fun k hk=>setRow_other w l.b k c' (by omega)⟩ (fun b hb hne=>setRow_other w l.b b c' hne) hlive.2.2 hgen ⟨hlive.1,by simpa using hlive.2.1⟩ ?_ (fun j B' l' hj h1 h2 h3=>hw.apart j id B' _ l' l hj h1 hB h2 hl h3 rfl)
 exact .arr (hw.arrSz hB hl) ⟨hA.pos,hok,hcap,c',t,setRow_heap w l.b c c' t _ hc,by omega,hv⟩
theorem zqf {q v:AV} {off:Nat} (hle:off + v.cells.length≤q.cells.length):(zz q off v).cells=splice q.cells off v.cells:=by
 unfold zz
 split
 ·rename_i he
  have:off=0:=by omega
  subst this
  simp [splice,he]
 ·rfl
theorem z9u {sz n:Nat} {q v:AV} {off:Nat} (hq:q.rowok sz=true) (hv:v.rowok n=true) (hle:off + n≤q.cells.length):(zz q off v).rowok sz=true:=by
 have hvl:=z01 hv
 have e:=zqf (q:=q) (v:=v) (off:=off) (by omega)
 simp only [AV.rowok,Bool.and_eq_true,beq_iff_eq] at hq hv ⊢
 rw [e]
 refine ⟨by rw [z4d (by omega)]; exact hq.1,?_⟩
 rw [List.all_eq_true] at hq hv ⊢
 intro x hx
 simp only [splice,List.mem_append] at hx
 rcases hx with (hx | hx) | hx
 ·exact hq.2 x (List.mem_of_mem_take hx)
 ·exact hv.2 x hx
 ·exact hq.2 x (List.mem_of_mem_drop hx)
theorem z7d {x:AV} {v:Value} {n:Nat} (hx:VR φ μ x v) (hr:x.rowok n=true):∀ u∈v.cells.toList,u.oneCell'=true:=by
 intro u hu
 have hc:=hx.cells (by rw [z01 hr]; exact hr)
 obtain ⟨i,hi⟩:=List.mem_iff_getElem?.1 hu
 have hlt:=(List.getElem?_eq_some_iff.1 hi).1
 have hlt':i < x.cells.length:=by rw [hc.1]; exact hlt
 have hg:=List.getElem?_eq_getElem hlt'
 have:=hc.2 i _ u hg hi
 exact z7o this (List.all_eq_true.1 (z4g hr) _ (List.mem_of_getElem? hg))
theorem z78 {c:Array Value} {news:List Value} {p i:Nat} (hle:p + news.length≤c.size) :
 ((c.toList.take p++news++c.toList.drop (p + news.length)).toArray)[i]? = if p≤i∧i < p + news.length then news[i - p]? else c[i]? := by
 have hl:(c.toList.take p).length=p:=by simp; omega
 rw [List.getElem?_toArray]
 by_cases h1:i < p
 ·rw [List.append_assoc,List.getElem?_append_left (by omega),List.getElem?_take,if_pos h1,if_neg (by omega)]; simp
 ·by_cases h2:i < p + news.length
  ·rw [if_pos ⟨by omega,h2⟩,List.getElem?_append_left (by rw [List.length_append]; omega),List.getElem?_append_right (by omega),hl]
  ·rw [if_neg (by omega),List.getElem?_append_right (by rw [List.length_append]; omega),List.getElem?_drop]
   rw [List.length_append,hl]
   have:p + news.length + (i - (p + news.length))=i:=by omega
   rw [this]; simp
theorem znz {t:TypeId} {x y:Operand} (ho:o.op=.store t x y) {g0:Bool} {n:Nat} (ht:z68 P t=some (g0,n)) {x' y':AOperand} (hx:z7 x=some x') (hy:z7 y=some y') (he:EnvR φ μ look a) (hw:WR CR W φ μ H w)
 (h:zd call slot H (actOf (zk look) (.store n x' y'))=some (r,H')):SimR CR P W φ μ o a.eval w r H':=by
 simp only [actOf,z5w] at h
 have hv:=za he hx
 have hvy:=za he hy
 split at h
 ·rename_i id gen row off hxa
  obtain ⟨b,hlt,hf,rfl⟩:=zeo h
  rw [hxa] at hv
  generalize hu:a.eval x=u at hv
  cases hv
  rename_i l ad hl hg ha
  rw [z37] at hf
  split at hf
  ·rename_i g' sz' rows hB
   simp only [List.cons.injEq,and_true] at hB
   have hB:=z3d hB
   split at hf
   ·rename_i e; subst e
    split at hf
    ·rename_i q hq
     split at hf
     ·rename_i hc
      obtain ⟨hr,hle⟩:=hc
      simp only [Option.some.injEq,Prod.mk.injEq] at hf
      obtain ⟨rfl,rfl⟩:=hf
      have hgl:g'=l.gen:=hw.gen id _ l hB hl
      have had:=ha hgl.symm
      subst had
      have hA:=hw.arr hB hl
      obtain ⟨c,ct,hc,hs,hcv⟩:=hA.mem
      have hqok:=hA.ok q (List.mem_of_getElem? hq)
      have hql:=z01 hqok
      have hrl:row < rows.length:=(List.getElem?_eq_some_iff.1 hq).1
      have hvsz:=ze4 hvy hr
      have hsl:(a.eval y).cells.toList.length=n:=by simp [hvsz]
      have hfit:l.o + row * l.sz + off + n≤c.size:=by
       have h1:=Nat.mul_le_mul_right l.sz (show row + 1≤l.cap by have:=hA.cap; omega)
       rw [Nat.add_mul] at h1; omega
      have hst:=run_storeCells_at P l.b (l.o + row * l.sz + off) ct (a.eval y).cells.toList 0 c w hc (by rw [hsl]; omega) (z7d hvy hr)
      simp only [Nat.add_zero,hsl] at hst
      have hw':=hw.setRows (rows':=rows.set row (zz q off (zk look y'))) hB hl hc (c':=(c.toList.take (l.o + row * l.sz + off)++(a.eval y).cells.toList++c.toList.drop (l.o + row * l.sz + off + n)).toArray)
       (by simp [hvsz]; omega) (fun z hz=>by
        rcases List.mem_or_eq_of_mem_set hz with hz | rfl
        ·exact hA.ok z hz
        ·exact z9u hqok hr hle) (by simpa using hA.cap) (fun i z j y1 h1 h2=>by
        have hcel:=hvy.cells (by rw [z01 hr]; exact hr)
        have hg:=z78 (c:=c) (news:=(a.eval y).cells.toList) (p:=l.o + row * l.sz + off) (i:=l.o + i * l.sz + j) (by rw [hsl]; omega)
        rw [hsl] at hg
        rw [hg]
        rw [List.getElem?_set] at h1
        split at h1
        ·rename_i hi; subst hi
         simp only [hrl,if_true,Option.some.injEq] at h1; subst h1
         rw [zqf (by rw [z01 hr]; exact hle)] at h2
         rw [zri (by rw [z01 hr]; exact hle),z01 hr] at h2
         split at h2
         ·rename_i hj
          rw [if_pos (by omega)]
          have e1:l.o + row * l.sz + j - (l.o + row * l.sz + off)=j - off:=by omega
          rw [e1]
          have hjl:j - off < (a.eval y).cells.toList.length:=by rw [hsl]; omega
          exact ⟨(a.eval y).cells.toList[j - off],List.getElem?_eq_getElem hjl,hcel.2 _ y1 _ h2 (List.getElem?_eq_getElem hjl)⟩
         ·rename_i hj
          have hjq:=(List.getElem?_eq_some_iff.1 h2).1
          rw [if_neg (by omega)]
          exact hcv row q j y1 hq h2
        ·rename_i hi
         have hjz:=(List.getElem?_eq_some_iff.1 h2).1
         rw [z01 (hA.ok z (List.mem_of_getElem? h1))] at hjz
         rw [if_neg]
         ·exact hcv i z j y1 h1 h2
         ·intro hcc
          have a1:i * l.sz < (row + 1) * l.sz:=by rw [Nat.add_mul]; omega
          have a2:row * l.sz < (i + 1) * l.sz:=by rw [Nat.add_mul]; omega
          have b1:=Nat.lt_of_mul_lt_mul_right (a:=l.sz) a1
          have b2:=Nat.lt_of_mul_lt_mul_right (a:=l.sz) a2
          omega)
      refine ⟨undef,_,μ, .inr ⟨rfl,?_⟩,hw',MExt.refl μ, .undef _⟩
      obtain ⟨r1,r2⟩:=zec ht w
      simp only [execOp,ho,hu,Instr.storeAt,Instr.sureAddr,storeVar,Sem.run_bind,Sem.run_pure,Result.andThen_ok,r2]
      simp only [hvsz,ne_eq,not_true_eq_false,if_false,Sem.run_pure,Result.andThen_ok,Sem.run_bind,hst]
     ·simp at hf
    ·simp at hf
   ·simp at hf
  ·simp at hf
 ·simp [zd] at h
end Go.Abs
namespace Go.Abs
open Go.RowKit
variable {CR:CRel} {P:Program} {W:BaseW} {w:World} {φ:Frz} {μ:List Loc} {H H':Heap} {look:Nat→AV} {a:Act} {call:CallF} {slot:Option Nat} {r:AV} {o:Oper} {ao:AOp}
def zaw (φ:Frz) (μ:List Loc) (w:World) (sz:Nat) (ad:Addr) (ys:List AV):Prop:=
 ∀ (i:Nat) (r:AV) (j:Nat) (x:AV),ys[i]? = some r→r.cells[j]? = some x→∃ v,w.cell? (ad.add (i * sz + j))=some v∧VR φ μ x v
theorem zaw.cells {sz:Nat} {ad:Addr} {ys:List AV} (h:zaw φ μ w sz ad ys) (h1:1≤sz) (hok:∀ r∈ys,r.rowok sz=true) :
 ∃ news:List Value,news.length=ys.length * sz∧(∀ j u,news[j]? = some u→w.cell? (ad.add j)=some u)∧(∀ u∈news,u.oneCell'=true) ∧
   ∀ (i:Nat) (r:AV) (j:Nat) (x:AV),ys[i]? = some r→r.cells[j]? = some x→∃ v,news[i * sz + j]? = some v∧VR φ μ x v:=by
 have key:∀ k,k < ys.length * sz→∃ v,w.cell? (ad.add k)=some v∧v.oneCell'=true∧∀ r x,ys[k / sz]? = some r→r.cells[k % sz]? = some x→VR φ μ x v:=by
  intro k hk
  have hi:k / sz < ys.length:=(Nat.div_lt_iff_lt_mul (by omega)).2 hk
  have hj:k % sz < sz:=Nat.mod_lt _ (by omega)
  have hr:=List.getElem?_eq_getElem hi
  have hrok:=hok _ (List.mem_of_getElem? hr)
  have hjl:k % sz < ys[k / sz].cells.length:=by rw [z01 hrok]; exact hj
  obtain ⟨v,e,hv⟩:=h (k / sz) _ (k % sz) _ hr (List.getElem?_eq_getElem hjl)
  have:k / sz * sz + k % sz=k:=by rw [Nat.mul_comm]; exact Nat.div_add_mod k sz
  rw [this] at e
  refine ⟨v,e,z7o hv (List.all_eq_true.1 (z4g hrok) _ (List.getElem_mem hjl)),fun r x hr' hx=>?_⟩
  rw [hr] at hr'; simp only [Option.some.injEq] at hr'; subst hr'
  rw [List.getElem?_eq_getElem hjl] at hx; simp only [Option.some.injEq] at hx; subst hx
  exact hv
 let f:Nat→Value:=fun k=>if hk:k < ys.length * sz then Classical.choose (key k hk) else undef
 have hf:∀ k (hk:k < ys.length * sz),w.cell? (ad.add k)=some (f k)∧(f k).oneCell'=true∧∀ r x,ys[k / sz]? = some r→r.cells[k % sz]? = some x→VR φ μ x (f k):=by
  intro k hk; simp only [f,hk,dif_pos]; exact Classical.choose_spec (key k hk)
 refine ⟨(List.range (ys.length * sz)).map f,by simp,fun j u hu=>?_,fun u hu=>?_,fun i r j x h1' h2=>?_⟩
 ·have hj:=(List.getElem?_eq_some_iff.1 hu).1
  simp at hj
  simp [hj] at hu; subst hu
  exact (hf j hj).1
 ·simp only [List.mem_map,List.mem_range] at hu
  obtain ⟨k,hk,rfl⟩:=hu
  exact (hf k hk).2.1
 ·have hi:=(List.getElem?_eq_some_iff.1 h1').1
  have hj:=(List.getElem?_eq_some_iff.1 h2).1
  rw [z01 (hok r (List.mem_of_getElem? h1'))] at hj
  have hk:=z1b hi hj
  refine ⟨f (i * sz + j),by simp [hk],(hf _ hk).2.2 r x ?_ ?_⟩
  ·rw [Nat.mul_comm,Nat.mul_add_div (by omega),Nat.div_eq_of_lt hj]; simpa using h1'
  ·rw [Nat.mul_comm,Nat.mul_add_mod,Nat.mod_eq_of_lt hj]; exact h2
section run
variable (t u ty e:TypeId) (i:TypeInfo) (z:Value) (e':TypeId) (ht:P.underlying t=some (.slice e)) (hu:P.underlying u=some (.slice e')) (hi:P.info? e=some i) (hz:i.zero=some z)
include ht hu hi
theorem zau (base:Option Addr) (len cap:Nat) (hlc:len≤cap) (ad:Option Addr) (c:Nat) :
 (Builtin.append_ #[t,u] ty #[.slice base len cap, .slice ad 0 c]).run P w=.ok (.slice base len cap) w:=by
 cases ad <;> cases base <;> simp [Builtin.append_,run_underlying ht,run_underlying hu,sizeOf,typeInfo,hi,Builtin.lenOf,Builtin.firstCells,loadCells,loadCellsFrom,hlc,storeCells]
include hz in
theorem zzk (base:Option Addr) (sLen sCap:Nat) (olds:List Value) (hlo:olds.length=sLen * i.size) (hb:sLen=0∧base=none∨∃ b,base=some b∧∀ j v,olds[j]? = some v→w.cell? (b.add j)=some v)
 (ad:Addr) (n c:Nat) (news:List Value) (hl:news.length=n * i.size) (hnews:∀ j v,news[j]? = some v→w.cell? (ad.add j)=some v)
 (hg:sCap < sLen + n) (h63:((sLen + n:Nat):Int)≤9223372036854775807) (hfit:Builtin.nextslicecap (sLen + n) sCap * i.bytes≤281474976710656) :
 (Builtin.append_ #[t,u] ty #[.slice base sLen sCap, .slice (some ad) n c]).run P w =
  .ok (.slice (some ⟨w.heap.size,0,none⟩) (sLen + n) (grownCap w (sLen + n) sCap e))
   (w.drew.alloc (.cells (olds.toArray++news.toArray++Builtin.zeroCells z.cells (grownCap w (sLen + n) sCap e - (sLen + n))) e)):=by
 have hn:¬ (sLen + n≤sCap):=by omega
 have h63':¬ (9223372036854775807 < ((sLen:Int) + (n:Int))):=by omega
 have h48':¬ (281474976710656 < Builtin.nextslicecap (sLen + n) sCap * i.bytes):=by omega
 have hf:=run_firstCells_some (P:=P) w.drew i.size n ad n c news hl (by simpa using hnews)
 rcases hb with ⟨rfl,rfl⟩ | ⟨b,rfl,holds⟩
 ·have:olds=[]:=List.eq_nil_of_length_eq_zero (by simpa using hlo)
  subst this
  simp only [Nat.zero_add] at *
  have h63'':¬ (9223372036854775807 < (n:Int)):=by omega
  have hf':(loadCells ad (n * i.size)).run P w.drew=.ok news.toArray w.drew:=by simpa [Builtin.firstCells] using hf
  simp [Builtin.append_,run_underlying ht,run_underlying hu,sizeOf,typeInfo,zeroValue,hi,hz,Builtin.lenOf,hn,h63'',h48',Question.forced,Builtin.firstCells,hf',newRow,grownCap]
 ·have hfo:=run_firstCells_some (P:=P) w.drew i.size sLen b sLen sCap olds hlo (by simpa using holds)
  simp [Builtin.append_,run_underlying ht,run_underlying hu,sizeOf,typeInfo,zeroValue,hi,hz,Builtin.lenOf,hn,h63',h48',Question.forced,hf,hfo,newRow,grownCap]
  congr 2
  apply Array.ext'
  simp [List.append_assoc]
theorem z0l (g off sLen sCap:Nat) (cur:Array Value) (ct:TypeId) (hg:w.heap[g]? = some (.cells cur ct (0,0)))
 (ad:Addr) (m c:Nat) (news:List Value) (hl:news.length=m * i.size) (hnews:∀ j u,news[j]? = some u→w.cell? (ad.add j)=some u) (h1:∀ u∈news,u.oneCell'=true)
 (hroom:sLen + m≤sCap) (hfit:off + sLen * i.size + news.length≤cur.size) :
 (Builtin.append_ #[t,u] ty #[.slice (some ⟨g,off,none⟩) sLen sCap, .slice (some ad) m c]).run P w =
  .ok (.slice (some ⟨g,off,none⟩) (sLen + m) sCap) (w.setRow g (cur.toList.take (off + sLen * i.size)++news++cur.toList.drop (off + sLen * i.size + news.length)).toArray):=by
 have hf:=run_firstCells_some (P:=P) w i.size m ad m c news hl hnews
 have hst:=run_storeCells_at P g (off + sLen * i.size) ct news 0 cur w hg (by simpa using hfit) h1
 simp only [Nat.add_zero] at hst
 simp [Builtin.append_,run_underlying ht,run_underlying hu,sizeOf,typeInfo,hi,Builtin.lenOf,hroom,hf,z99,hst]
end run
theorem zae (w:World) (need old:Nat) (e:TypeId):need≤grownCap w need old e:=by
 show need≤need + _; omega
structure SrcR (φ:Frz) (μ:List Loc) (w:World) (sz n:Nat) (u:Value) (ys:List AV):Prop where
 len:ys.length=n
 at_:∃ ad c,u=.slice ad n c∧(n≠0→∃ b,ad=some b∧zaw φ μ w sz b ys)
theorem znj {olds news:List Value} {rest:Array Value} {sz len:Nat} {xs ys:List AV} (h1:1≤sz) (hx:xs.length=len) (hlo:olds.length=len * sz) (hln:news.length=ys.length * sz) (hokx:∀ r∈xs,r.rowok sz=true) (hoky:∀ r∈ys,r.rowok sz=true)
 (ho:∀ (i:Nat) (r:AV) (j:Nat) (x:AV),xs[i]? = some r→r.cells[j]? = some x→∃ v,olds[i * sz + j]? = some v∧VR φ μ x v)
 (hn:∀ (i:Nat) (r:AV) (j:Nat) (x:AV),ys[i]? = some r→r.cells[j]? = some x→∃ v,news[i * sz + j]? = some v∧VR φ μ x v) :
 ∀ (i:Nat) (r:AV) (j:Nat) (x:AV),(xs++ys)[i]? = some r→r.cells[j]? = some x→∃ v,(olds.toArray++news.toArray++rest)[i * sz + j]? = some v∧VR φ μ x v:=by
 intro i r j x h2 h3
 have hj:=(List.getElem?_eq_some_iff.1 h3).1
 have e1:∀ k,(olds.toArray++news.toArray++rest)[k]? = if k < olds.length then olds[k]? else if k < olds.length + news.length then news[k - olds.length]? else rest[k - (olds.length + news.length)]? := by
  intro k
  simp only [Array.getElem?_append,Array.size_append,List.size_toArray,List.getElem?_toArray]
  (repeat' split) <;> first | rfl | omega
 rw [List.getElem?_append] at h2
 split at h2
 ·rename_i hi
  rw [z01 (hokx r (List.mem_of_getElem? h2))] at hj
  obtain ⟨v,e,hv⟩:=ho i r j x h2 h3
  have:=z1b hi hj
  rw [hx] at this
  exact ⟨v,by rw [e1,if_pos (by omega)]; exact e,hv⟩
 ·rename_i hi
  rw [z01 (hoky r (List.mem_of_getElem? h2))] at hj
  obtain ⟨v,e,hv⟩:=hn _ r j x h2 h3
  have hlt:=(List.getElem?_eq_some_iff.1 h2).1
  have:=z1b hlt hj
  have e2:i * sz + j - olds.length=(i - xs.length) * sz + j:=by
   rw [hlo,hx,Nat.sub_mul]
   have:len * sz≤i * sz:=Nat.mul_le_mul_right _ (by omega)
   omega
  have:len * sz≤i * sz:=Nat.mul_le_mul_right _ (by omega)
  exact ⟨v,by rw [e1,if_neg (by omega),if_pos (by omega),e2]; exact e,hv⟩
theorem zhb {t u ty e e':TypeId} {i:TypeInfo} {z:Value} (ht:P.underlying t=some (.slice e)) (hu:P.underlying u=some (.slice e')) (hi:P.info? e=some i) (hz:i.zero=some z)
 (h1:1≤i.size) (hby:1≤i.bytes) (hzs:z.cells.size=i.size) {x:AV} {ux uy:Value} {n:Nat} {ids:List Nat} {src:List Blk→Option (List AV)} (hx:VR φ μ x ux)
 (hsrc:∀ ys,src (blks H ids)=some ys→ys.all (AV.rowok i.size)=true→SrcR φ μ w i.size n uy ys) (hlen0:n=0→∃ ad c,uy=.slice ad 0 c) (hw:WR CR W φ μ H w)
 (h:zd call slot H (zg5 i.size i.bytes x n ids src)=some (r,H')) :
 ∃ v w' μ',(Builtin.append_ #[t,u] ty #[ux,uy]).run P w=.ok v w'∧WR CR W φ μ' H' w'∧MExt μ μ'∧VR φ μ' r v:=by
 unfold zg5 at h
 split at h
 ·rename_i hn0
  obtain ⟨ad,c,rfl⟩:=hlen0 hn0
  have fin:∀ base len cap,ux=.slice base len cap→len≤cap→r=x→H'=H→∃ v w' μ',(Builtin.append_ #[t,u] ty #[ux, .slice ad 0 c]).run P w=.ok v w'∧WR CR W φ μ' H' w'∧MExt μ μ'∧VR φ μ' r v:=by
   intro base len cap e1 e2 e3 e4
   subst e1; subst e3; subst e4
   exact ⟨_,w,μ,zau t u ty e i e' ht hu hi base len cap e2 ad c,hw,MExt.refl μ,hx⟩
  split at h
  ·obtain ⟨rfl,rfl⟩:=zf2 h
   cases hx
   exact fin _ _ _ rfl (Nat.le_refl _) rfl rfl
  ·obtain ⟨rfl,rfl⟩:=zf2 h
   cases hx with
   | sl _ _ hlc _=>exact fin _ _ _ rfl hlc rfl rfl
  ·obtain ⟨rfl,rfl⟩:=zf2 h
   cases hx with
   | fslNil=>exact fin _ _ _ rfl (Nat.le_refl _) rfl rfl
   | fsl _ _ _ _ _ hcap=>exact fin _ _ _ rfl hcap rfl rfl
  ·simp [zd] at h
 ·rename_i hn0
  split at h
  ·split at h
   ·rename_i hroom
    obtain ⟨k,g,b,hp,hf,rfl⟩:=zdo h
    split at hf
    ·rename_i ys hys
     split at hf
     ·rename_i hall
      simp only [Option.some.injEq,Prod.mk.injEq] at hf
      obtain ⟨rfl,rfl⟩:=hf
      obtain ⟨hyl,ad,c,rfl,hat⟩:=hsrc ys hys hall
      obtain ⟨b,rfl,hrows⟩:=hat hn0
      cases hx
      have hok:∀ r∈ys,r.rowok i.size=true:=fun r hr=>List.all_eq_true.1 hall r hr
      obtain ⟨news,hl,hnews,hone,hrel⟩:=hrows.cells h1 hok
      simp only [room,decide_eq_true_eq] at hroom
      have hn63:n≤140737488355328:=Nat.le_trans (Nat.le_mul_of_pos_right n hby) hroom
      have hrun:=zzk (P:=P) (w:=w) t u ty e i z e' ht hu hi hz none 0 0 [] (by simp) (.inl ⟨rfl,rfl⟩) b n c news (by rw [hl,hyl]) hnews (by omega) (by omega) (growslice_fits (by omega) (by simpa using hroom))
      simp only [Nat.zero_add] at hrun
      have hge:=zae w n 0 e
      have hwd:WR CR W φ μ H w.drew:=hw.world ⟨rfl,rfl,rfl,Nat.le_refl _,fun _ _=>rfl⟩ rfl
      obtain ⟨μ',hw',hm,hl'⟩:=hwd.newRows (t:=e) (rows:=ys) (cap:=grownCap w n 0 e) (c:=([]:List Value).toArray++news.toArray++Builtin.zeroCells z.cells (grownCap w n 0 e - n)) hp h1 hok (by omega)
       (by simp only [Array.size_append,List.size_toArray,size_zeroCells,hzs,hl,hyl,List.length_nil]; have:=Nat.mul_le_mul_right i.size (show grownCap w n 0 e≤n + (grownCap w n 0 e - n) by omega); rw [Nat.add_mul] at this; omega)
       (by
        have:=znj (φ:=φ) (μ:=μ) (olds:=[]) (news:=news) (rest:=Builtin.zeroCells z.cells (grownCap w n 0 e - n)) (sz:=i.size) (len:=0) (xs:=[]) (ys:=ys) h1 rfl (by simp) hl (fun r h=>by simp at h) hok (fun i r j x h=>by simp at h) hrel
        simpa using this)
      exact ⟨_,_,μ',hrun,hw',hm, .sl hl' (Nat.le_refl _) (by omega) (fun _=>⟨fun _=>by simp,by simp⟩)⟩
     ·simp at hf
    ·simp at hf
   ·simp [zd] at h
  ·rename_i id gen off len
   split at h
   ·rename_i hroom
    obtain ⟨bb,hlt,hf,rfl⟩:=zeo h
    have hbl:blks H (id::ids)=H.getD id (.dead 0)::blks H ids:=rfl
    rw [hbl] at hf
    simp only at hf
    split at hf
    ·rename_i g s rows ys hB hys
     have hB:=z3d hB
     split at hf
     ·rename_i hc
      obtain ⟨rfl,rfl,hle,hall⟩:=hc
      obtain ⟨hyl,ad,c,rfl,hat⟩:=hsrc ys hys hall
      obtain ⟨b,rfl,hrows⟩:=hat hn0
      have hok:∀ r∈ys,r.rowok i.size=true:=fun r hr=>List.all_eq_true.1 hall r hr
      obtain ⟨news,hl,hnews,hone,hrel⟩:=hrows.cells h1 hok
      simp only [room,decide_eq_true_eq] at hroom
      have hn63:len + n≤140737488355328:=Nat.le_trans (Nat.le_mul_of_pos_right _ hby) hroom
      cases hx with
      | sl hl' hg hlc ha=>
        rename_i cap l ad'
        have hgl:g=l.gen:=hw.gen id _ l hB hl'
        obtain ⟨had,hcap⟩:=ha hgl.symm
        have hA:=hw.arr hB hl'
        obtain ⟨cc,ct,hcc,hcs,hcv⟩:=hA.mem
        have hlive:=hw.live hB hl'
        have hAcap:=hA.cap
        have hidl:=(List.getElem?_eq_some_iff.1 hB).1
        have hsz:=hw.arrSz hB hl'
        have hadr:cap≠0→ad'=⟨l.b,l.o + off * l.sz,none⟩:=had
        have hcapsz:l.cap * l.sz=off * l.sz + cap * l.sz:=by rw [← hcap,Nat.add_mul]; omega
        have hnsz:news.length=n * l.sz:=by rw [hl,hyl,hsz]
        have hposs:1≤l.sz:=by rw [hsz]; exact h1
        split at hf
        ·rename_i hin
         simp only [Option.some.injEq,Prod.mk.injEq] at hf
         obtain ⟨rfl,rfl⟩:=hf
         have hroom':len + n≤cap:=by omega
         have hadr':=hadr (by omega)
         subst hadr'
         have hmul:(len + n) * l.sz≤cap * l.sz:=Nat.mul_le_mul_right _ hroom'
         rw [Nat.add_mul] at hmul
         have hrun:=z0l (P:=P) (w:=w) t u ty e i e' ht hu hi l.b (l.o + off * l.sz) len cap cc ct hcc b n c news (by rw [hl,hyl]) hnews hone hroom' (by rw [← hsz]; omega)
         rw [← hsz] at hrun
         refine ⟨_,_,μ,hrun,?_,MExt.refl μ, .sl hl' hg (by omega) (fun _=>⟨fun _=>rfl,hcap⟩)⟩
         refine hw.setRows hB hl' hcc (by simp; omega) (fun q hq=>?_) (by rw [z4d (by omega)]; exact hAcap) (fun k q j x e1 e2=>?_)
         ·simp only [splice,List.mem_append] at hq
          rcases hq with (hq | hq) | hq
          ·exact hA.ok q (List.mem_of_mem_take hq)
          ·rw [hsz]; exact hok q hq
          ·exact hA.ok q (List.mem_of_mem_drop hq)
         ·rw [z78 (by omega)]
          rw [zri (by omega)] at e1
          have hj:=(List.getElem?_eq_some_iff.1 e2).1
          split at e1
          ·rename_i hk
           rw [z01 (hok q (List.mem_of_getElem? e1))] at hj
           rw [← hsz] at hj
           have a1:(off + len) * l.sz≤k * l.sz:=Nat.mul_le_mul_right _ hk.1
           have a2:=z1b (n:=off + len + n) (sz:=l.sz) (j:=j) (i:=k) (by omega) hj
           rw [Nat.add_mul] at a1
           rw [Nat.add_mul,Nat.add_mul] at a2
           rw [if_pos (by omega)]
           have e3:l.o + k * l.sz + j - (l.o + off * l.sz + len * l.sz)=(k - (off + len)) * l.sz + j:=by rw [Nat.sub_mul,Nat.add_mul]; omega
           rw [e3,hsz]
           exact hrel _ q j x e1 e2
          ·rename_i hk
           rw [z01 (hA.ok q (List.mem_of_getElem? e1))] at hj
           rw [if_neg]
           ·exact hcv k q j x e1 e2
           ·intro hcc'
            have a1:(off + len) * l.sz < (k + 1) * l.sz:=by rw [Nat.add_mul,Nat.add_mul]; omega
            have a2:k * l.sz < (off + len + n) * l.sz:=by rw [Nat.add_mul,Nat.add_mul]; omega
            have b1:=Nat.lt_of_mul_lt_mul_right (a:=l.sz) a1
            have b2:=Nat.lt_of_mul_lt_mul_right (a:=l.sz) a2
            omega
        ·rename_i hout
         simp only [Option.some.injEq,Prod.mk.injEq] at hf
         obtain ⟨rfl,rfl⟩:=hf
         have hxl:((rows.drop off).take len).length=len:=by simp; omega
         have hget:∀ (k:Nat) (q:AV),((rows.drop off).take len)[k]? = some q→rows[off + k]? = some q∧k < len:=by
          intro k q hk
          rw [List.getElem?_take] at hk
          split at hk
          ·rename_i hlt'
           rw [List.getElem?_drop] at hk
           exact ⟨hk,hlt'⟩
          ·simp at hk
         have hokx:∀ q∈(rows.drop off).take len,q.rowok l.sz=true:=fun q hq=>hA.ok q (List.mem_of_mem_drop (List.mem_of_mem_take hq))
         have hoky:∀ q∈ys,q.rowok l.sz=true:=fun q hq=>by rw [hsz]; exact hok q hq
         have hokxy:∀ q∈(rows.drop off).take len++ys,q.rowok l.sz=true:=fun q hq=>by
          rcases List.mem_append.1 hq with hq | hq
          ·exact hokx q hq
          ·exact hoky q hq
         have hext:∀ l':Loc,l'.gen=g + 1→MExt μ (μ.set id l'):=by
          intro l' hgl'
          refine ⟨by simp,fun j lj hj=>?_⟩
          by_cases ej:j=id
          ·subst ej
           rw [hl'] at hj; simp only [Option.some.injEq] at hj; subst hj
           exact ⟨l',by simp [(List.getElem?_eq_some_iff.1 hl').1],by omega,fun e=>by omega⟩
          ·exact ⟨lj,by simp [Ne.symm ej,hj],Nat.le_refl _,fun _=>rfl⟩
         have hmid:id < μ.length:=(List.getElem?_eq_some_iff.1 hl').1
         by_cases hroom':len + n≤cap
         ·have hadr':=hadr (by omega)
          subst hadr'
          have hmul:(len + n) * l.sz≤cap * l.sz:=Nat.mul_le_mul_right _ hroom'
          rw [Nat.add_mul] at hmul
          have hrun:=z0l (P:=P) (w:=w) t u ty e i e' ht hu hi l.b (l.o + off * l.sz) len cap cc ct hcc b n c news (by rw [hl,hyl]) hnews hone hroom' (by rw [← hsz]; omega)
          rw [← hsz] at hrun
          refine ⟨_,_,μ.set id ⟨l.b,l.o + off * l.sz,l.sz,cap,g + 1⟩,hrun,?_,hext _ rfl, .sl (l:=⟨l.b,l.o + off * l.sz,l.sz,cap,g + 1⟩) (by simp [hmid]) (Nat.le_refl _) (by omega) (fun _=>⟨fun _=>by simp,by simp⟩)⟩
          refine hw.change (k:=id) (B:=.arr (g + 1) i.size ((rows.drop off).take len++ys)) (l:=⟨l.b,l.o + off * l.sz,l.sz,cap,g + 1⟩) (fun j hj b hb=>by simpa [Ne.symm hj] using hb) (fun j hj l' hl'=>by simpa [Ne.symm hj] using hl') (by simp [hidl]) (by simp [hmid]) (by simp [hw.len]) (hext _ rfl)
           ⟨rfl,rfl,rfl,by simp,fun k hk=>setRow_other w l.b k _ (by omega)⟩ (fun b hb hne=>setRow_other w l.b b _ hne) hlive.2.2 rfl ⟨hlive.1,by simpa using hlive.2.1⟩ ?_ (fun j B' l' hj h1 h2 h3=>hw.apart j id B' _ l' l hj h1 hB h2 hl' h3 rfl)
          refine .arr hsz ⟨hposs,hokxy,by simp; omega,_,ct,setRow_heap w l.b cc _ ct _ hcc,by simp; omega,fun k q j x e1 e2=>?_⟩
          simp only
          rw [z78 (by omega)]
          rw [List.getElem?_append] at e1
          have hj:=(List.getElem?_eq_some_iff.1 e2).1
          split at e1
          ·rename_i hk
           obtain ⟨e3,hkl⟩:=hget k q e1
           rw [z01 (hA.ok q (List.mem_of_getElem? e3))] at hj
           have a1:=z1b hkl hj
           rw [if_neg (by omega)]
           obtain ⟨v,e4,hv⟩:=hcv (off + k) q j x e3 e2
           refine ⟨v,?_,hv.mono (FExt.refl φ) (hext _ rfl)⟩
           rw [← e4]; congr 1; rw [Nat.add_mul]; omega
          ·rename_i hk
           rw [hxl] at hk e1
           have hkl:=(List.getElem?_eq_some_iff.1 e1).1
           rw [z01 (hoky q (List.mem_of_getElem? e1))] at hj
           have a1:len * l.sz≤k * l.sz:=Nat.mul_le_mul_right _ (by omega)
           have a2:=z1b (n:=len + n) (sz:=l.sz) (j:=j) (i:=k) (by omega) hj
           rw [Nat.add_mul] at a2
           rw [if_pos (by omega)]
           have e3:l.o + off * l.sz + k * l.sz + j - (l.o + off * l.sz + len * l.sz)=(k - len) * l.sz + j:=by rw [Nat.sub_mul]; omega
           rw [e3,hsz]
           obtain ⟨v,e4,hv⟩:=hrel _ q j x e1 e2
           exact ⟨v,e4,hv.mono (FExt.refl φ) (hext _ rfl)⟩
         ·have holdrows:zaw φ μ w l.sz ad' ((rows.drop off).take len):=by
           intro k q j x e1 e2
           obtain ⟨e3,hkl⟩:=hget k q e1
           have hadr':=hadr (by omega)
           subst hadr'
           obtain ⟨v,e4,hv⟩:=hcv (off + k) q j x e3 e2
           refine ⟨v,?_,hv⟩
           rw [z99]
           simp only [World.cell?,hcc,Option.isSome_none,Bool.false_eq_true,if_false]
           rw [← e4]; congr 1; rw [Nat.add_mul]; omega
          obtain ⟨olds,ho1,ho2,ho3,ho4⟩:=holdrows.cells hposs hokx
          rw [hxl] at ho1
          have hrun:=zzk (P:=P) (w:=w) t u ty e i z e' ht hu hi hz (some ad') len cap olds (by rw [ho1,hsz]) (.inr ⟨ad',rfl,ho2⟩) b n c news (by rw [hl,hyl]) hnews (by omega) (by omega) (growslice_fits (by omega) hroom)
          have hge:=zae w (len + n) cap e
          have hwd:WR CR W φ μ H w.drew:=hw.world ⟨rfl,rfl,rfl,Nat.le_refl _,fun _ _=>rfl⟩ rfl
          have hW:=hw.below.size
          refine ⟨_,_,μ.set id ⟨w.heap.size,0,l.sz,grownCap w (len + n) cap e,g + 1⟩,hrun,?_,hext _ rfl, .sl (l:=⟨w.heap.size,0,l.sz,grownCap w (len + n) cap e,g + 1⟩) (by simp [hmid]) (Nat.le_refl _) (by omega) (fun _=>⟨fun _=>by simp,by simp⟩)⟩
          refine hwd.change (k:=id) (B:=.arr (g + 1) i.size ((rows.drop off).take len++ys)) (l:=⟨w.heap.size,0,l.sz,grownCap w (len + n) cap e,g + 1⟩) (fun j hj b hb=>by simpa [Ne.symm hj] using hb) (fun j hj l' hl'=>by simpa [Ne.symm hj] using hl') (by simp [hidl]) (by simp [hmid]) (by simp [hw.len]) (hext _ rfl)
           ((Below.refl _ _).alloc (by simpa using hW) _) (fun b hb hne=>Below.heap_alloc _ _ _ hb) hwd.fresh rfl ⟨by simpa using hW,by simp⟩ ?_ (fun j B' l' hj h1 h2 h3=>by have:=(hw.own j B' l' h1 h2 h3).2.1; simp only; omega)
          refine .arr hsz ⟨hposs,hokxy,by simp; omega,_,e,heap_alloc_new w.drew _,?_,fun k q j x e1 e2=>?_⟩
          ·simp only [Array.size_append,List.size_toArray,size_zeroCells,hzs,ho1,hnsz,← hsz]
           have:=Nat.mul_le_mul_right l.sz (show grownCap w (len + n) cap e≤len + n + (grownCap w (len + n) cap e - (len + n)) by omega)
           rw [Nat.add_mul,Nat.add_mul] at this
           omega
          ·obtain ⟨v,e4,hv⟩:=znj (φ:=φ) (μ:=μ) (rest:=Builtin.zeroCells z.cells (grownCap w (len + n) cap e - (len + n))) hposs hxl ho1 (by rw [hnsz,hyl]) hokx hoky ho4 (by rw [hsz]; exact hrel) k q j x e1 e2
           exact ⟨v,by simpa using e4,hv.mono (FExt.refl φ) (hext _ rfl)⟩
     ·simp at hf
    ·simp at hf
   ·simp [zd] at h
  ·simp [zd] at h
end Go.Abs
namespace Go.Abs
open Go.RowKit
variable {CR:CRel} {P:Program} {W:BaseW} {w:World} {φ:Frz} {μ:List Loc} {H H':Heap} {look:Nat→AV} {a:Act} {call:CallF} {slot:Option Nat} {r:AV} {o:Oper} {ao:AOp}
theorem zfx {c:Call} {x y:Operand} {t u e e':TypeId} {i:TypeInfo} (ho:o.op=.call c) (hcal:c.callee=.builtin .append) (hargs:c.args.toList=[x,y]) (hts:c.argTypes.toList=[t,u])
 (ht:P.underlying t=some (.slice e)) (hu:P.underlying u=some (.slice e')) (hi:P.info? e=some i) (h1:1≤i.size) (hby:1≤i.bytes) {z:Value} (hz:i.zero=some z) (hzs:z.cells.size=i.size)
 {x' y':AOperand} (hx:z7 x=some x') (hy:z7 y=some y') (he:EnvR φ μ look a) (hw:WR CR W φ μ H w)
 (h:zd call slot H (actOf (zk look) (.append i.size i.bytes x' y'))=some (r,H')):SimR CR P W φ μ o a.eval w r H':=by
 have e1:c.args=#[x,y]:=by apply Array.ext'; simpa using hargs
 have e2:c.argTypes=#[t,u]:=by apply Array.ext'; simpa using hts
 have hvx:=za he hx
 have hvy:=za he hy
 have fin:(∃ v w' μ',(Builtin.append_ #[t,u] o.type #[a.eval x,a.eval y]).run P w=.ok v w'∧WR CR W φ μ' H' w'∧MExt μ μ'∧VR φ μ' r v)→SimR CR P W φ μ o a.eval w r H':=by
  rintro ⟨v,w',μ',hr,hw',hm,hv⟩
  refine ⟨v,w',μ', .inl ?_,hw',hm,hv⟩
  simp only [execOp,ho,resolve,hcal,e1,e2,Sem.run_bind,Sem.run_pure,Result.andThen_ok,invoke,builtin]
  simp [hr]
 apply fin
 simp only [actOf] at h
 generalize hq:zk look y'=q at h hvy
 generalize huy:a.eval y=uy at hvy ⊢
 unfold zh1 at h
 split at h
 ·cases hvy
  exact zhb ht hu hi hz h1 hby hzs hvx (fun ys hys hall=>⟨by simp at hys; subst hys; rfl,none,0,rfl,fun h=>absurd rfl h⟩) (fun _=>⟨none,0,rfl⟩) hw h
 ·rename_i rows
  cases hvy with
  | fslNil=>exact zhb ht hu hi hz h1 hby hzs hvx (fun ys hys hall=>⟨by simp at hys; subst hys; rfl,_,0,rfl,fun h=>absurd rfl h⟩) (fun _=>⟨_,0,rfl⟩) hw h
  | fsl vs hn hr hc hvv hcap=>
    rename_i sz b q n cap
    subst hn
    refine zhb ht hu hi hz h1 hby hzs hvx (fun ys hys hall=>?_) (fun h0=>⟨some ⟨b,q,none⟩,cap,by rw [h0]⟩) hw h
    simp at hys; subst hys
    refine ⟨rfl,some ⟨b,q,none⟩,cap,rfl,fun hne=>⟨_,rfl,fun k row j x e1 e2=>?_⟩⟩
    have hs:sz=i.size:=by
     have hm:=List.mem_of_getElem? e1
     rw [← z01 (hr row hm),z01 (List.all_eq_true.1 hall row hm)]
    subst hs
    refine ⟨vs k j,?_,hvv k row j x e1 e2⟩
    rw [z99]
    have:=z2d hw.frz (hc k row j x e1 e2)
    rw [← this]; congr 2; omega
 ·rename_i id gen off len
  cases hvy with
  | sl hl hg hlc ha=>
    rename_i cap l ad
    refine zhb ht hu hi hz h1 hby hzs hvx (fun ys hys hall=>?_) (fun h0=>⟨some ad,cap,by rw [h0]⟩) hw h
    rw [z37] at hys
    simp only at hys
    unfold zw3 at hys
    split at hys
    ·rename_i g s rows hB
     have hB:=z3d hB
     split at hys
     ·rename_i hc
      obtain ⟨rfl,hle⟩:=hc
      simp only [Option.some.injEq] at hys; subst hys
      refine ⟨by simp; omega,some ad,cap,rfl,fun hne=>⟨ad,rfl,fun k row j x e1 e2=>?_⟩⟩
      have hgl:g=l.gen:=hw.gen id _ l hB hl
      obtain ⟨had,hcap⟩:=ha hgl.symm
      have had:=had (by omega)
      subst had
      rw [List.getElem?_take] at e1
      split at e1
      ·rw [List.getElem?_drop] at e1
       have hA:=hw.arr hB hl
       have hm:=List.mem_of_getElem? e1
       have hs:l.sz=i.size:=by
        have hm':row∈List.take len (List.drop off rows):=by
         rw [List.mem_iff_getElem?]
         exact ⟨k,by rw [List.getElem?_take]; simp [*]⟩
        rw [← z01 (hA.ok row hm),z01 (List.all_eq_true.1 hall row hm')]
       obtain ⟨v,e3,hv⟩:=hw.row hB hl e1 j x e2
       refine ⟨v,?_,hv⟩
       rw [z99,← e3,← hs]; congr 2; rw [Nat.add_mul]; omega
      ·simp at e1
     ·simp at hys
    ·simp at hys
 ·simp [zd] at h
end Go.Abs
namespace Go.Abs
open Go.RowKit
variable {CR:CRel} {P:Program} {W:BaseW} {w:World} {φ:Frz} {μ:List Loc} {H H':Heap} {look:Nat→AV} {a:Act} {call:CallF} {slot:Option Nat} {r:AV} {o:Oper} {ao:AOp}
mutual
theorem zoj (em:Bool):∀ (d e:Nat) {t:TypeId} {ks:List CK} {x:AV} {u:Value},z25 P d t=some ks→(x.isAgg=(P.underlying t).any TypeDesc.isAgg) →
 z21 ks x.cells x.cells=some true→VR φ μ x u→(Instr.checkKey em (e + d) t u).run P w=.ok () w
 | 0,_,t,ks,x,u,hk,_,_,_=>by simp [z25] at hk
 | d + 1,e,t,ks,x,u,hk,gx,hc,hx=>by
   rw [show e + (d + 1)=(e + d) + 1 from rfl]
   unfold z25 at hk
   split at hk
   ·rename_i hu hi; simp [Instr.checkKey,run_underlying hu]
   ·rename_i hu hi; simp [Instr.checkKey,run_underlying hu]
   ·rename_i hu hi; simp [Instr.checkKey,run_underlying hu]
   ·rename_i fs i hu hi
    split at hk
    ·split at hk
     ·rename_i ks' hf
      split at hk
      ·simp at hk; subst hk
       cases hx <;> simp [AV.isAgg,hu,TypeDesc.isAgg] at gx
       rename_i xs us lx hx
       simp only [AV.cells] at hc
       have hl:=z3c hc
       rw [Instr.checkKey]
       simp only [Sem.run_bind,run_underlying hu,Result.andThen_ok]
       rw [← Array.forIn_toList]
       exact (congrArg (fun r=>Result.andThen r fun _ w'=>Sem.run P (pure ()) w') (zbe em d e (n:=0) hf (by simpa using hc) (by simpa using hl.1) ⟨lx,hx⟩)).trans rfl
      ·simp at hk
     ·simp at hk
    ·simp at hk
   ·simp at hk
theorem zbe (em:Bool):∀ (d e:Nat) {fs:List Field} {n:Nat} {ks:List CK} {xs:List AV} {us:List Value},zt2 P d fs n=some ks →
 z21 ks (xs.drop n) (xs.drop n)=some true→xs.length=n + ks.length→VRs φ μ xs us →
 (forIn fs PUnit.unit fun f (_ : PUnit) => if f.name ≠ "_" then do Instr.checkKey em (e + d) f.type (← Go.part f.type us.toArray f.offset); pure (ForInStep.yield PUnit.unit) else pure (ForInStep.yield PUnit.unit) : Sem PUnit).run P w = .ok PUnit.unit w
 | 0,_,fs,n,ks,xs,us,hk,_,_,_=>by simp [zt2] at hk
 | d + 1,e,[],n,ks,xs,us,hk,hc,lx,_=>by simp
 | d + 1,e,f::fs,n,ks,xs,us,hk,hc,lx,hx=>by
   unfold zt2 at hk
   split at hk
   ·rename_i ho
    obtain ⟨ho,hn⟩:=ho
    subst ho
    split at hk
    ·rename_i k1 k2 h1 h2
     simp only [h1,Option.getD_some] at h2
     simp at hk; subst hk
     obtain ⟨c,c',e1,e2,ecc⟩:=z4c hc
     have hcc:c=true∧c'=true:=by cases c <;> cases c' <;> simp at ecc <;> simp
     obtain ⟨rfl,rfl⟩:=hcc
     simp at lx
     obtain ⟨ax,u,pu,vu,gu,cu⟩:=zpi (w:=w) h1 (cs:=xs) (off:=f.offset) (by omega) hx e1
     have hck:=zoj em d (e + 1) h1 gu (by rw [cu]; exact e1) vu
     have hr:=zbe em (d + 1) e (n:=f.offset + k1.length) h2 (by simpa [List.drop_drop,Nat.add_comm] using e2) (by omega) hx
     rw [show e + 1 + d=e + (d + 1) by omega] at hck
     simp only [List.forIn_cons,Sem.run_bind,if_pos hn,pu,Result.andThen_ok,hck,Sem.run_pure]
     exact hr
    ·simp at hk
   ·simp at hk
end
theorem zo7 {a b:ByteArray} (h:a.toList=b.toList):a=b:=by
 rw [ByteArray.toList_eq,ByteArray.toList_eq] at h
 obtain ⟨⟨x⟩⟩:=a
 obtain ⟨⟨y⟩⟩:=b
 simp at h; subst h; rfl
theorem z1l {k:CK} {x y:AV} {u v:Value} (h:zl3 k x y=some true) (hx:VR φ μ x u) (hy:VR φ μ y v):u=v∧∀ n,Instr.sameBits n u v=true:=by
 cases k <;> cases x <;> (try (simp [zl3] at h; done)) <;> cases y <;> (try (simp [zl3] at h; done)) <;> cases hx <;> cases hy <;> simp [zl3] at h
 ·subst h; exact ⟨rfl,fun n=>by simp [Instr.sameBits]⟩
 ·obtain ⟨rfl,rfl⟩:=h; exact ⟨rfl,fun n=>by simp [Instr.sameBits]⟩
 ·rename_i a b
  have:a=b:=zo7 (by simpa using h)
  subst this
  exact ⟨rfl,fun n=>by simp [Instr.sameBits,beq_toListBytes]⟩
theorem zpj:∀ {ks:List CK} {xs ys:List AV} {us vs:List Value},z21 ks xs ys=some true→VRs φ μ xs us→VRs φ μ ys vs →
 us=vs∧∀ n,(us.zip vs).all (fun (p:Value×Value)=>Instr.sameBits n p.1 p.2)=true
 | [],[],[],us,vs,_,hx,hy=>by
   have h1:us=[]:=List.eq_nil_of_length_eq_zero (by simpa using hx.1.symm)
   have h2:vs=[]:=List.eq_nil_of_length_eq_zero (by simpa using hy.1.symm)
   subst h1; subst h2; simp
 | k::ks,x::xs,y::ys,us,vs,h,hx,hy=>by
   simp only [z21] at h
   split at h
   ·rename_i p q h1 h2
    simp at h
    obtain ⟨rfl,rfl⟩:=h
    cases us with
    | nil=>simp [VRs] at hx
    | cons u us=>
      cases vs with
      | nil=>simp [VRs] at hy
      | cons v vs=>
        have hxx:VR φ μ x u:=hx.2 0 x u rfl rfl
        have hyy:VR φ μ y v:=hy.2 0 y v rfl rfl
        obtain ⟨rfl,hb⟩:=z1l h1 hxx hyy
        obtain ⟨rfl,hbs⟩:=zpj h2 ⟨by simpa using hx.1,fun i a b h1 h2=>hx.2 (i + 1) a b (by simpa using h1) (by simpa using h2)⟩ ⟨by simpa using hy.1,fun i a b h1 h2=>hy.2 (i + 1) a b (by simpa using h1) (by simpa using h2)⟩
        exact ⟨rfl,fun n=>by simp [hb n]; simpa using hbs n⟩
   ·simp at h
 | [],[],_::_,_,_,h,_,_=>by simp [z21] at h
 | [],_::_,_,_,_,h,_,_=>by simp [z21] at h
 | _::_,[],_,_,_,h,_,_=>by simp [z21] at h
 | _::_,_::_,[],_,_,h,_,_=>by simp [z21] at h
theorem zfo {g:Bool} {ks:List CK} {x y:AV} {u v:Value} (h:keyEq g ks x y=some true) (hg:x.isAgg=g) (hx:VR φ μ x u) (hy:VR φ μ y v):u=v∧Instr.sameBits 10000 u v=true:=by
 unfold keyEq at h
 split at h
 ·rename_i hy'
  simp only [beq_iff_eq] at hy'
  cases g with
  | true=>
    cases x <;> simp [AV.isAgg] at hg
    cases y <;> simp [AV.isAgg] at hy'
    cases hx with | agg l1 h1=>
    cases hy with | agg l2 h2=>
    obtain ⟨rfl,hb⟩:=zpj h ⟨l1,h1⟩ ⟨l2,h2⟩
    refine ⟨rfl,?_⟩
    show (_ && _)=true
    simp only [List.size_toArray,beq_self_eq_true,Bool.true_and,List.toList_toArray]
    exact hb 9999
  | false=>
    have ex:x.cells=[x]:=by cases x <;> first | rfl | (simp [AV.isAgg] at hg)
    have ey:y.cells=[y]:=by cases y <;> first | rfl | (simp [AV.isAgg] at hy')
    rw [ex,ey] at h
    cases ks with
    | nil=>simp [z21] at h
    | cons k ks=>
      simp only [z21] at h
      split at h
      ·rename_i p q h1 h2
       simp at h
       obtain ⟨rfl,rfl⟩:=h
       obtain ⟨e,hb⟩:=z1l h1 hx hy
       exact ⟨e,hb _⟩
      ·simp at h
 ·simp at h
theorem zce {t:TypeId} {g:Bool} {ks:List CK} (h:zv9 P t=some (g,ks)):z25 P 12 t=some ks∧∃ d,P.underlying t=some d∧g=TypeDesc.isAgg d:=by
 unfold zv9 at h
 simp only [zxk] at h
 split at h
 ·rename_i d ks' hd hk
  simp at h
  obtain ⟨rfl,rfl⟩:=h
  exact ⟨hk,d,hd,rfl⟩
 ·simp at h
theorem zgo {g:Bool} {ks:List CK} {k:AV} (h:keyOk g ks k=true):k.isAgg=g∧z21 ks k.cells k.cells=some true:=by
 simpa [keyOk] using h
theorem zy2 {t:TypeId} {g:Bool} {ks:List CK} (ht:zv9 P t=some (g,ks)) {k:AV} {u:Value} (hk:keyOk g ks k=true) (hv:VR φ μ k u) (em:Bool):(Instr.checkKey em 10000 t u).run P w=.ok () w:=by
 obtain ⟨h1,d,hd,rfl⟩:=zce ht
 obtain ⟨h2,h3⟩:=zgo hk
 exact zoj em 12 9988 h1 (by rw [h2,hd]; rfl) h3 hv
def zoz (φ:Frz) (μ:List Loc) (u:Value) (n:Nat) (es:List MEnt) (fs:List MapEntry):Option (Nat×MEnt)→Option (Nat×Value)→Prop
 | none,none=>True
 | some (i,e),some (j,v)=>i=j∧n≤i∧∃ f,es[i - n]? = some e∧fs[i - n]? = some f∧v=f.val∧EntR φ μ e f∧u=f.key∧Instr.sameBits 10000 f.key u=true
 | _,_=>False
theorem zr5 {t:TypeId} {g:Bool} {ks:List CK} (ht:zv9 P t=some (g,ks)) {k:AV} {u:Value} (hk:keyOk g ks k=true) (hv:VR φ μ k u) {es:List MEnt} {fs:List MapEntry} (hes:EntsR φ μ es fs) {res:Option (Nat×MEnt)}
 (h:findE g ks k es 0=some res):∃ res':Option (Nat×Value),(Instr.findKey t u fs).run P w=.ok res' w ∧
  zoz φ μ u 0 es fs res res':=by
 obtain ⟨hks,d,hd,rfl⟩:=zce ht
 obtain ⟨hg,hself⟩:=zgo hk
 have eqr:∀ (e:MEnt) (f:MapEntry) (b:Bool),EntR φ μ e f→keyEq (TypeDesc.isAgg d) ks k e.key=some b→(Op.equal t u f.key).run P w=.ok b w:=by
  intro e f b hef hb
  unfold keyEq at hb
  split at hb
  ·rename_i hga
   simp only [beq_iff_eq] at hga
   exact z3g (P:=P) (w:=w) 12 9988 hks (by rw [hg,hd]; rfl) (by rw [hga,hd]; rfl) hb hv hef.key
  ·simp at hb
 have asking:∀ (es:List MEnt) (fs:List MapEntry) (n:Nat) (res:Option (Nat×MEnt)),EntsR φ μ es fs→findE (TypeDesc.isAgg d) ks k es n=some res →
  ∃ res':Option (Nat×Value),(Instr.findAsking t u fs n).run P w=.ok res' w ∧
  zoz φ μ u n es fs res res':=by
  intro es
  induction es with
  | nil=>
    intro fs n res hes h
    have:fs=[]:=List.eq_nil_of_length_eq_zero (by simpa using hes.1.symm)
    subst this
    simp [findE] at h; subst h
    exact ⟨none,by simp [Instr.findAsking],trivial⟩
  | cons e es ih=>
    intro fs n res hes h
    cases fs with
    | nil=>simp [EntsR] at hes
    | cons f fs=>
      have hef:EntR φ μ e f:=hes.2 0 e f rfl rfl
      have hes':EntsR φ μ es fs:=⟨by simpa using hes.1,fun i a b h1 h2=>hes.2 (i + 1) a b (by simpa using h1) (by simpa using h2)⟩
      simp only [findE] at h
      split at h
      ·rename_i hkq
       simp at h; subst h
       obtain ⟨eu,hb⟩:=zfo hkq hg hv hef.key
       refine ⟨some (n,f.val),by simp [Instr.findAsking,eqr e f true hef hkq],rfl,Nat.le_refl _,f,by simp,by simp,rfl,hef,eu,?_⟩
       rw [eu] at hb; rw [eu]; exact hb
      ·rename_i hkq
       obtain ⟨res',h1,h2⟩:=ih fs (n + 1) res hes' h
       refine ⟨res',by simp [Instr.findAsking,eqr e f false hef hkq,h1],?_⟩
       cases res with
       | none=>cases res' with
         | none=>trivial
         | some _=>exact h2.elim
       | some p=>cases res' with
         | none=>exact h2.elim
         | some q=>
           obtain ⟨i,e'⟩:=p
           obtain ⟨j,v⟩:=q
           obtain ⟨rfl,hle,f',g1,g2,g3⟩:=h2
           refine ⟨rfl,by omega,f',?_,?_,g3⟩
           ·have:i - n=(i - (n + 1)) + 1:=by omega
            rw [this]; simpa using g1
           ·have:i - n=(i - (n + 1)) + 1:=by omega
            rw [this]; simpa using g2
      ·simp at h
 have now:TypeDesc.isAgg d=false→∀ (es:List MEnt) (fs:List MapEntry) (n:Nat) (res:Option (Nat×MEnt)),EntsR φ μ es fs→findE (TypeDesc.isAgg d) ks k es n=some res →
  ∃ res':Option (Nat×Value),Instr.findNow d u fs n=some res' ∧
  zoz φ μ u n es fs res res':=by
  intro hda es
  have same:∀ (e:MEnt) (f:MapEntry) (b:Bool),EntR φ μ e f→keyEq (TypeDesc.isAgg d) ks k e.key=some b→Instr.sameNow d u f.key=some b:=by
   intro e f b hef hb
   unfold keyEq at hb
   split at hb
   ·rename_i hga
    simp only [beq_iff_eq,hda] at hga
    rw [hda] at hg
    have ex:k.cells=[k]:=by cases k <;> first | rfl | (simp [AV.isAgg] at hg)
    have ey:e.key.cells=[e.key]:=by generalize e.key=y at hga; cases y <;> first | rfl | (simp [AV.isAgg] at hga)
    rw [ex,ey] at hb
    have hk1:(d=.bool∧ks=[.bool])∨((∃ j,d=.int j)∧ks=[.int])∨(d=.string∧ks=[.str]):=by
     unfold z25 at hks
     split at hks
     ·rename_i hu _; rw [hd] at hu; simp only [Option.some.injEq] at hu; subst hu; split at hks <;> simp at hks; exact .inl ⟨rfl,hks.symm⟩
     ·rename_i hu _; rw [hd] at hu; simp only [Option.some.injEq] at hu; subst hu; split at hks <;> simp at hks; exact .inr (.inl ⟨⟨_,rfl⟩,hks.symm⟩)
     ·rename_i hu _; rw [hd] at hu; simp only [Option.some.injEq] at hu; subst hu; split at hks <;> simp at hks; exact .inr (.inr ⟨rfl,hks.symm⟩)
     ·rename_i hu _; rw [hd] at hu; simp only [Option.some.injEq] at hu; subst hu; simp [TypeDesc.isAgg] at hda
     ·simp at hks
    have hkey:=hef.key
    generalize e.key=y at hb hkey
    generalize f.key=v at hkey
    have one:∀ ck,ks=[ck]→zl3 ck k y=some b:=by
     intro ck hck
     subst hck
     simp only [z21] at hb
     split at hb
     ·rename_i h1 h2; simp at h2 hb; rw [h1]; simp [← hb,← h2]
     ·simp at hb
    rcases hk1 with ⟨rfl,hkk⟩ | ⟨⟨j,rfl⟩,hkk⟩ | ⟨rfl,hkk⟩
    ·have:=one _ hkk
     cases k <;> (try (simp [zl3] at this; done)) <;> cases y <;> (try (simp [zl3] at this; done)) <;> cases hv <;> cases hkey
     simpa [zl3,Instr.sameNow] using this
    ·have:=one _ hkk
     cases k <;> (try (simp [zl3] at this; done)) <;> cases y <;> (try (simp [zl3] at this; done)) <;> cases hv <;> cases hkey
     simpa [zl3,Instr.sameNow] using this
    ·have:=one _ hkk
     cases k <;> (try (simp [zl3] at this; done)) <;> cases y <;> (try (simp [zl3] at this; done)) <;> cases hv <;> cases hkey
     simpa [zl3,Instr.sameNow,beq_toListBytes] using this
   ·simp at hb
  induction es with
  | nil=>
    intro fs n res hes h
    have:fs=[]:=List.eq_nil_of_length_eq_zero (by simpa using hes.1.symm)
    subst this
    simp [findE] at h; subst h
    exact ⟨none,by simp [Instr.findNow],trivial⟩
  | cons e es ih=>
    intro fs n res hes h
    cases fs with
    | nil=>simp [EntsR] at hes
    | cons f fs=>
      have hef:EntR φ μ e f:=hes.2 0 e f rfl rfl
      have hes':EntsR φ μ es fs:=⟨by simpa using hes.1,fun i a b h1 h2=>hes.2 (i + 1) a b (by simpa using h1) (by simpa using h2)⟩
      simp only [findE] at h
      split at h
      ·rename_i hkq
       simp at h; subst h
       obtain ⟨eu,hb⟩:=zfo hkq hg hv hef.key
       refine ⟨some (n,f.val),by simp [Instr.findNow,same e f true hef hkq],rfl,Nat.le_refl _,f,by simp,by simp,rfl,hef,eu,?_⟩
       rw [eu] at hb; rw [eu]; exact hb
      ·rename_i hkq
       obtain ⟨res',h1,h2⟩:=ih fs (n + 1) res hes' h
       refine ⟨res',by simp [Instr.findNow,same e f false hef hkq,h1],?_⟩
       cases res with
       | none=>cases res' with
         | none=>trivial
         | some _=>exact h2.elim
       | some p=>cases res' with
         | none=>exact h2.elim
         | some q=>
           obtain ⟨i,e'⟩:=p
           obtain ⟨j,v⟩:=q
           obtain ⟨rfl,hle,f',g1,g2,g3⟩:=h2
           refine ⟨rfl,by omega,f',?_,?_,g3⟩
           ·have:i - n=(i - (n + 1)) + 1:=by omega
            rw [this]; simpa using g1
           ·have:i - n=(i - (n + 1)) + 1:=by omega
            rw [this]; simpa using g2
      ·simp at h
 rcases Bool.eq_false_or_eq_true (TypeDesc.isAgg d) with hda | hda
 ·obtain ⟨res',h1,h2⟩:=asking es fs 0 res hes h
  refine ⟨res',?_,h2⟩
  rw [run_findKey_eq w (by rw [hd]; cases d <;> simp [TypeDesc.isAgg] at hda <;> rfl)]
  exact h1
 ·obtain ⟨res',h1,h2⟩:=now hda es fs 0 res hes h
  refine ⟨res',?_,h2⟩
  simp [Instr.findKey,run_underlying hd,h1]
end Go.Abs
