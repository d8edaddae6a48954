/- The program's data as plain Lean, and what stands for it. -/
import Derived.Test.YtddpdpjpfgnhmaaGreatG24x
import Derived.Test.YtddpdpjpfgnhmaaGreatG18x
set_option linter.unusedSimpArgs false
set_option linter.unusedVariables false
set_option maxHeartbeats 4000000
namespace Go.Abs
open Enc (Is)
structure Val where
 kind:Int
 n:Int
 s:ByteArray
 deriving DecidableEq,Inhabited
structure Term where
 kind:Int
 name:ByteArray
 v:Val
 deriving DecidableEq,Inhabited
structure Atom where
 pred:ByteArray
 args:List Term
 deriving DecidableEq,Inhabited
structure Lit where
 kind:Int
 atom:Atom
 op:Int
 a:Term
 b:Term
 deriving DecidableEq,Inhabited
structure Col where
 use:Int
 var:Int
 v:Val
 deriving DecidableEq,Inhabited
structure Step where
 op:Int
 lit:Int
 pred:ByteArray
 old:Bool
 cols:List Col
 cmp:Int
 a:Col
 b:Col
 deriving DecidableEq,Inhabited
structure Plan where
 vars:List ByteArray
 steps:List Step
 pred:ByteArray
 head:List Col
 deriving DecidableEq,Inhabited
def zi:Val:=⟨0,0,⟨#[]⟩⟩
def zf1:Col:=⟨0,0,zi⟩
abbrev i64 (n:Int):AV:=.int .i64 n
abbrev Val.enc (x:Val):AV:=.agg [i64 x.kind,i64 x.n, .str x.s]
abbrev Term.enc (t:Term):AV:=.agg [i64 t.kind, .str t.name,i64 t.v.kind,i64 t.v.n, .str t.v.s]
abbrev Col.enc (c:Col):AV:=.agg [i64 c.use,i64 c.var,i64 c.v.kind,i64 c.v.n, .str c.v.s]
instance:Enc Val where
 Is v x:=v=x.enc
 lend:=by rintro v x rfl; rfl
 plain:=by rintro v x rfl; rfl
 sz:=3
 row:=by rintro v x rfl; rfl
instance:Enc Term where
 Is v x:=v=x.enc
 lend:=by rintro v x rfl; rfl
 plain:=by rintro v x rfl; rfl
 sz:=5
 row:=by rintro v x rfl; rfl
instance:Enc Col where
 Is v x:=v=x.enc
 lend:=by rintro v x rfl; rfl
 plain:=by rintro v x rfl; rfl
 sz:=5
 row:=by rintro v x rfl; rfl
theorem zb {α:Type} [Enc α] {v:AV} {xs:List α} (h:Is v xs):v.isCell=true∧v.cells=[v]:=by
 rcases h with ⟨rfl,_⟩ | ⟨fl,rows,rfl,_⟩ <;> exact ⟨rfl,rfl⟩
instance:Enc Atom where
 Is v x:=∃ a,Is a x.args∧v=.agg [.str x.pred,a]
 lend:=by rintro v x ⟨a,h,rfl⟩; exact ⟨a.lend,Enc.lend h,rfl⟩
 plain:=by rintro v x ⟨a,h,rfl⟩; simp [Enc.plain h]
 sz:=2
 row:=by rintro v x ⟨a,h,rfl⟩; simp [AV.rowok,(zb h).1]
abbrev Lit.encW (l:Lit) (a:AV):AV:=.agg [i64 l.kind, .str l.atom.pred,a,i64 l.op,i64 l.a.kind, .str l.a.name,i64 l.a.v.kind,i64 l.a.v.n, .str l.a.v.s,i64 l.b.kind, .str l.b.name,i64 l.b.v.kind,i64 l.b.v.n, .str l.b.v.s]
instance:Enc Lit where
 Is v x:=∃ a,Is a x.atom.args∧v=x.encW a
 lend:=by rintro v x ⟨a,h,rfl⟩; exact ⟨a.lend,Enc.lend h,rfl⟩
 plain:=by rintro v x ⟨a,h,rfl⟩; simp [Enc.plain h]
 sz:=14
 row:=by rintro v x ⟨a,h,rfl⟩; simp [AV.rowok,(zb h).1]
abbrev Step.encW (s:Step) (c:AV):AV:=.agg [i64 s.op,i64 s.lit, .str s.pred, .bool s.old,c,i64 s.cmp,i64 s.a.use,i64 s.a.var,i64 s.a.v.kind,i64 s.a.v.n, .str s.a.v.s,i64 s.b.use,i64 s.b.var,i64 s.b.v.kind,i64 s.b.v.n, .str s.b.v.s]
instance:Enc Step where
 Is v x:=∃ c,Is c x.cols∧v=x.encW c
 lend:=by rintro v x ⟨a,h,rfl⟩; exact ⟨a.lend,Enc.lend h,rfl⟩
 plain:=by rintro v x ⟨a,h,rfl⟩; simp [Enc.plain h]
 sz:=16
 row:=by rintro v x ⟨a,h,rfl⟩; simp [AV.rowok,(zb h).1]
instance:Enc Plan where
 Is v x:=∃ a b c,Is a x.vars∧Is b x.steps∧Is c x.head∧v=.agg [a,b, .str x.pred,c]
 lend:=by rintro v x ⟨a,b,c,h1,h2,h3,rfl⟩; exact ⟨a.lend,b.lend,c.lend,Enc.lend h1,Enc.lend h2,Enc.lend h3,rfl⟩
 plain:=by rintro v x ⟨a,b,c,h1,h2,h3,rfl⟩; simp [Enc.plain h1,Enc.plain h2,Enc.plain h3]
 sz:=4
 row:=by rintro v x ⟨a,b,c,h1,h2,h3,rfl⟩; simp [AV.rowok,(zb h1).1,(zb h2).1,(zb h3).1]
end Go.Abs
namespace Go.Abs
open Enc (Is)
inductive Ty where
 | int | str | bool | sl (e:Ty) | st (fs:Ty) | nil | cons (f r:Ty)
def Ty.agg:Ty→Bool
 | .st _=>true
 | _=>false
mutual
def tyB (P:Program):Ty→TypeId→Bool
 | .int,t=>match P.underlying t with | some (.int .i64)=>true | _=>false
 | .str,t=>match P.underlying t with | some .string=>true | _=>false
 | .bool,t=>match P.underlying t with | some .bool=>true | _=>false
 | .sl e,t=>match P.underlying t with | some (.slice u)=>tyB P e u | _=>false
 | .st fs,t=>match P.underlying t with | some (.struct a)=>tyFs P fs a.toList | _=>false
 | .nil,_=>false
 | .cons _ _,_=>false
def tyFs (P:Program):Ty→List Field→Bool
 | .nil,l=>l.isEmpty
 | .cons f r,a::l=>tyB P f a.type && tyFs P r l
 | .cons _ _,[]=>false
 | .int,_=>false
 | .str,_=>false
 | .bool,_=>false
 | .sl _,_=>false
 | .st _,_=>false
end
mutual
def z94:Ty→List AV→Prop
 | .int,xs=>∃ n,xs=[i64 n]∧IntKind.i64.wrap n=n
 | .str,xs=>∃ s,xs=[.str s]
 | .bool,xs=>∃ b,xs=[.bool b]
 | .sl e,xs=>∃ rows,xs=[.fsl false rows]∧rows.length < 2 ^ 63∧∀ r∈rows,z94 e r.cells∧(if e.agg=true then ∃ cs,r=.agg cs else r.isCell=true)
 | .st fs,xs=>zrd fs xs
 | .nil,_=>False
 | .cons _ _,_=>False
def zrd:Ty→List AV→Prop
 | .nil,xs=>xs=[]
 | .cons f r,xs=>∃ a b,xs=a++b∧z94 f a∧zrd r b
 | .int,_=>False
 | .str,_=>False
 | .bool,_=>False
 | .sl _,_=>False
 | .st _,_=>False
end
theorem zqq {P:Program} {ty:Ty} {t:TypeId} (h:tyB P ty t=true):(((P.underlying t).map TypeDesc.isAgg)=some true)↔ty.agg=true:=by
 cases ty <;> simp only [tyB] at h <;> (try (simp at h; done)) <;> (split at h <;> (try (simp at h; done))) <;> rename_i hu <;> rw [hu] <;> simp [Ty.agg,TypeDesc.isAgg]
theorem Shape.int_inv {P:Program} {t:TypeId} {xs:List AV} {k:IntKind} (hu:P.underlying t=some (.int k)) (hs:Shape P t xs):∃ n,xs=[.int k n]∧(Lit.int k n).wf=true:=by
 cases hs with
 | bool h b=>rw [hu] at h; simp at h
 | int h n hw=>rw [hu] at h; simp at h; subst h; exact ⟨n,rfl,hw⟩
 | str h s hl=>rw [hu] at h; simp at h
 | fsl h rows hl hr hk=>rw [hu] at h; simp at h
 | struct h xss hx hl hf=>rw [hu] at h; simp at h
theorem Shape.str_inv {P:Program} {t:TypeId} {xs:List AV} (hu:P.underlying t=some .string) (hs:Shape P t xs):∃ s,xs=[.str s]:=by
 cases hs with
 | bool h b=>rw [hu] at h; simp at h
 | int h n hw=>rw [hu] at h; simp at h
 | str h s hl=>exact ⟨s,rfl⟩
 | fsl h rows hl hr hk=>rw [hu] at h; simp at h
 | struct h xss hx hl hf=>rw [hu] at h; simp at h
theorem Shape.bool_inv {P:Program} {t:TypeId} {xs:List AV} (hu:P.underlying t=some .bool) (hs:Shape P t xs):∃ b,xs=[.bool b]:=by
 cases hs with
 | bool h b=>exact ⟨b,rfl⟩
 | int h n hw=>rw [hu] at h; simp at h
 | str h s hl=>rw [hu] at h; simp at h
 | fsl h rows hl hr hk=>rw [hu] at h; simp at h
 | struct h xss hx hl hf=>rw [hu] at h; simp at h
theorem Shape.sl_inv {P:Program} {t e:TypeId} {xs:List AV} (hu:P.underlying t=some (.slice e)) (hs:Shape P t xs) :
 ∃ rows,xs=[.fsl false rows]∧rows.length≤maxLen∧(∀ r∈rows,Shape P e r.cells)∧∀ r∈rows,if ((P.underlying e).map TypeDesc.isAgg)=some true then ∃ cs,r=.agg cs else r.isCell=true:=by
 cases hs with
 | bool h b=>rw [hu] at h; simp at h
 | int h n hw=>rw [hu] at h; simp at h
 | str h s hl=>rw [hu] at h; simp at h
 | fsl h rows hl hr hk=>rw [hu] at h; simp at h; subst h; exact ⟨rows,rfl,hl,hr,hk⟩
 | struct h xss hx hl hf=>rw [hu] at h; simp at h
theorem Shape.st_inv {P:Program} {t:TypeId} {xs:List AV} {fs:Array Field} (hu:P.underlying t=some (.struct fs)) (hs:Shape P t xs) :
 ∃ xss:List (List AV),xs=xss.flatten∧xss.length=fs.size∧∀ (i:Nat) (f:Field) (ys:List AV),fs[i]? = some f→xss[i]? = some ys→Shape P f.type ys:=by
 cases hs with
 | bool h b=>rw [hu] at h; simp at h
 | int h n hw=>rw [hu] at h; simp at h
 | str h s hl=>rw [hu] at h; simp at h
 | fsl h rows hl hr hk=>rw [hu] at h; simp at h
 | struct h xss hx hl hf=>rw [hu] at h; simp at h; subst h; exact ⟨xss,hx,hl,hf⟩
mutual
theorem zrq {P:Program}:∀ (ty:Ty) {t:TypeId} {xs:List AV},tyB P ty t=true→Shape P t xs→z94 ty xs
 | .int,t,xs,h,hs=>by
   simp only [tyB] at h
   split at h
   ·rename_i hu
    obtain ⟨n,rfl,hw⟩:=hs.int_inv hu
    simp [Lit.wf,IntKind.min,IntKind.max,IntKind.signed,IntKind.bits] at hw
    exact ⟨n,rfl,z61 (by omega) (by omega)⟩
   ·simp at h
 | .str,t,xs,h,hs=>by
   simp only [tyB] at h
   split at h
   ·rename_i hu; exact hs.str_inv hu
   ·simp at h
 | .bool,t,xs,h,hs=>by
   simp only [tyB] at h
   split at h
   ·rename_i hu; exact hs.bool_inv hu
   ·simp at h
 | .sl e,t,xs,h,hs=>by
   simp only [tyB] at h
   split at h
   ·rename_i u hu
    obtain ⟨rows,rfl,h1,h2,h3⟩:=hs.sl_inv hu
    refine ⟨rows,rfl,by unfold maxLen at h1; omega,fun r hr=>⟨zrq e h (h2 r hr),?_⟩⟩
    have:=h3 r hr
    by_cases ha:e.agg=true
    ·rw [if_pos ((zqq h).2 ha)] at this; rw [if_pos ha]; exact this
    ·rw [if_neg (fun hx=>ha ((zqq h).1 hx))] at this; rw [if_neg ha]; exact this
   ·simp at h
 | .st fs,t,xs,h,hs=>by
   simp only [tyB] at h
   split at h
   ·rename_i a hu
    obtain ⟨xss,rfl,h1,h2⟩:=hs.st_inv hu
    exact zrw fs h (by simpa using h1) (fun i f ys g1 g2=>h2 i f ys (by simpa using g1) g2)
   ·simp at h
 | .nil,t,xs,h,hs=>by simp [tyB] at h
 | .cons _ _,t,xs,h,hs=>by simp [tyB] at h
theorem zrw {P:Program}:∀ (ty:Ty) {l:List Field} {xss:List (List AV)},tyFs P ty l=true→xss.length=l.length→(∀ (i:Nat) (f:Field) (ys:List AV),l[i]? = some f→xss[i]? = some ys→Shape P f.type ys)→zrd ty xss.flatten
 | .nil,l,xss,h,hl,hf=>by
   simp only [tyFs,List.isEmpty_iff] at h
   subst h
   have:xss=[]:=List.length_eq_zero_iff.1 (by simpa using hl)
   subst this; rfl
 | .cons f r,[],xss,h,hl,hf=>by simp [tyFs] at h
 | .cons f r,a::l,[],h,hl,hf=>by simp at hl
 | .cons f r,a::l,xs::xss,h,hl,hf=>by
   simp only [tyFs,Bool.and_eq_true] at h
   exact ⟨xs,xss.flatten,by simp,zrq f h.1 (hf 0 a xs rfl rfl),zrw r h.2 (by simpa using hl) (fun i f ys g1 g2=>hf (i + 1) f ys (by simpa using g1) (by simpa using g2))⟩
 | .int,l,xss,h,hl,hf=>by cases l <;> simp [tyFs] at h
 | .str,l,xss,h,hl,hf=>by cases l <;> simp [tyFs] at h
 | .bool,l,xss,h,hl,hf=>by cases l <;> simp [tyFs] at h
 | .sl _,l,xss,h,hl,hf=>by cases l <;> simp [tyFs] at h
 | .st _,l,xss,h,hl,hf=>by cases l <;> simp [tyFs] at h
end
def Ty.ofList:List Ty→Ty
 | []=>.nil
 | f::r=>.cons f (Ty.ofList r)
def Ty.struct (l:List Ty):Ty:=.st (Ty.ofList l)
def valTy:Ty:=.struct [.int, .int, .str]
theorem za11 {α:Type} [Enc α] {rows:List AV} {Q:α→Prop} (h:∀ r∈rows,∃ x:α,Is r x∧Q x):∃ xs:List α,All2 Is rows xs∧∀ x∈xs,Q x:=by
 induction rows with
 | nil=>exact ⟨[], .nil,fun x hx=>by cases hx⟩
 | cons r rows ih=>
   obtain ⟨x,h1,h2⟩:=h r (by simp)
   obtain ⟨xs,h3,h4⟩:=ih (fun r hr=>h r (by simp [hr]))
   exact ⟨x::xs, .cons h1 h3,fun y hy=>by rcases List.mem_cons.1 hy with rfl | hy; exact h2; exact h4 y hy⟩
end Go.Abs
namespace Go.Abs
open Enc (Is)
def colTy:Ty:=.struct [.int, .int,valTy]
def zb11:Ty:=.struct [.int, .int, .str, .bool, .sl colTy, .int,colTy,colTy]
def zsw:Ty:=.struct [.sl .str, .sl zb11, .str, .sl colTy]
end Go.Abs
