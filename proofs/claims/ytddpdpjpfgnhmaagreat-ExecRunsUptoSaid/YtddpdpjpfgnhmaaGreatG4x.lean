/- Abs 16: every operation that is no call of a function. -/
import Derived.Test.YtddpdpjpfgnhmaaGreatG3x
set_option linter.unusedSimpArgs false
set_option linter.unusedVariables false
set_option maxHeartbeats 4000000
namespace Go.Abs
open Go.RowKit
variable {CR:CRel} {P:Program} {W:BaseW} {w:World} {φ:Frz} {μ:List Loc} {H H':Heap} {look:Nat→AV} {a:Act} {call:CallF} {slot:Option Nat} {r:AV} {o:Oper} {ao:AOp}
theorem zcu {es:List MEnt} {fs:Array MapEntry} (h:EntsR φ μ es fs.toList) (i:Nat):EntsR φ μ (es.eraseIdx i) (fs.eraseIdxIfInBounds i).toList:=by
 have e:(fs.eraseIdxIfInBounds i).toList=fs.toList.eraseIdx i:=by
  obtain ⟨l⟩:=fs
  simp
 rw [e]
 refine ⟨by rw [List.length_eraseIdx,List.length_eraseIdx,h.1],fun j e f h1 h2=>?_⟩
 rw [List.getElem?_eraseIdx] at h1 h2
 split at h1
 ·rename_i hj; rw [if_pos hj] at h2; exact h.2 j e f h1 h2
 ·rename_i hj; rw [if_neg hj] at h2; exact h.2 _ e f h1 h2
theorem zhx {c:Call} {m k:Operand} {t:TypeId} {ts:List TypeId} (ho:o.op=.call c) (hcal:c.callee=.builtin .delete) (hargs:c.args.toList=[m,k]) (hts:c.argTypes.toList=t::ts)
 {kt e:TypeId} (ht:P.underlying t=some (.map kt e)) {g:Bool} {ks:List CK} (hk:zv9 P kt=some (g,ks))
 {m' k':AOperand} (hm':z7 m=some m') (hk':z7 k=some k') (he:EnvR φ μ look a) (hw:WR CR W φ μ H w)
 (h:zd call slot H (actOf (zk look) (.delete g ks m' k'))=some (r,H')):SimR CR P W φ μ o a.eval w r H':=by
 simp only [actOf] at h
 have hvm:=za he hm'
 have hvk:=za he hk'
 have e1:c.args=#[m,k]:=by apply Array.ext'; simpa using hargs
 have e2:c.argTypes[0]? = some t:=by
  rw [← Array.getElem?_toList,hts]; rfl
 have fin:∀ w',(Builtin.delete_ c.argTypes o.type #[a.eval m,a.eval k]).run P w=.ok (.tuple #[]) w'→(execOp a.eval o).run P w=.ok (.value (.tuple #[])) w':=by
  intro w' hr
  simp only [execOp,ho,resolve,hcal,e1,Sem.run_bind,Sem.run_pure,Result.andThen_ok,invoke,builtin]
  simp [hr]
 have hnil:VR φ μ (.tuple []) (.tuple #[]):=VR.tuple (vs:=[]) rfl (fun i x v h=>by simp at h)
 split at h
 ·rename_i hko
  split at h
  ·rename_i hmm
   obtain ⟨rfl,rfl⟩:=zf2 h
   rw [hmm] at hvm
   generalize hu:a.eval m=u at hvm
   cases hvm
   refine zi2 hw (v:=.tuple #[]) (fin _ ?_) hnil
   simp only [Builtin.delete_,e2,hu]
   simp [run_underlying ht,zy2 hk hko hvk]
  ·rename_i id gen hmm
   obtain ⟨b,hlt,hf,rfl⟩:=zeo h
   rw [hmm] at hvm
   rw [z37] at hf
   split at hf
   ·rename_i g' es cl hB
    simp only [List.cons.injEq,and_true] at hB
    have hB:=zff hB
    split at hf
    ·rename_i eg; subst eg
     obtain ⟨l,fs,hu,hl,hmb,hes⟩:=hw.mapAt hB hvm
     split at hf
     ·rename_i j e0 hfe
      simp only [Option.some.injEq,Prod.mk.injEq] at hf
      obtain ⟨rfl,rfl⟩:=hf
      obtain ⟨res',hr,hfound⟩:=zr5 (P:=P) (w:=w) hk hko hvk hes hfe
      cases res' with
      | none=>exact hfound.elim
      | some q=>
        obtain ⟨j',v0⟩:=q
        obtain ⟨rfl,_⟩:=hfound
        refine ⟨.tuple #[],_,μ, .inl (fin _ ?_),hw.setMap hB hl hmb (zcu hes j),MExt.refl μ,hnil⟩
        simp only [Builtin.delete_,e2,hu]
        simp [run_underlying ht,zy2 hk hko hvk,z02 hmb,hr,zf4 hmb]
     ·rename_i hfe
      simp only [Option.some.injEq,Prod.mk.injEq] at hf
      obtain ⟨rfl,rfl⟩:=hf
      obtain ⟨res',hr,hfound⟩:=zr5 (P:=P) (w:=w) hk hko hvk hes hfe
      cases res' with
      | some q=>exact hfound.elim
      | none=>
        refine ⟨.tuple #[],_,μ, .inl (fin _ ?_),hw.setMap hB hl hmb hes,MExt.refl μ,hnil⟩
        simp only [Builtin.delete_,e2,hu]
        simp [run_underlying ht,zy2 hk hko hvk,z02 hmb,hr,zf4 hmb]
     ·simp at hf
    ·simp at hf
   ·simp at hf
  ·simp [zd] at h
 ·simp [zd] at h
theorem zib {lo:Option Operand} {lo':Option AOperand} (h:(match lo with | some v=>(z7 v).map some | none=>some none)=some lo'):z2q lo lo':=by
 cases lo with
 | none=>simp at h; subst h; trivial
 | some v=>
   simp only [Option.map_eq_some_iff] at h
   obtain ⟨z,hz,rfl⟩:=h
   exact hz
theorem zn61 (hc:z53 P o.op=some ao) (he:EnvR φ μ look a) (hw:WR CR W φ μ H w) (hne:∀ f args,ao≠.call f args) (hni:∀ ms x args,ao≠.invoke ms x args)
 (h:zd call slot H (actOf (zk look) ao)=some (r,H')):SimR CR P W φ μ o a.eval w r H':=by
 generalize ho:o.op=op at hc
 unfold z53 at hc
 split at hc
 case h_1 x=>
  split at hc
  ·rename_i y hy; simp at hc; subst hc; exact z7w (.inl ho) hy he hw h
  ·simp at hc
 case h_2 x=>
  split at hc
  ·rename_i y hy; simp at hc; subst hc; exact z7w (.inr ho) hy he hw h
  ·simp at hc
 case h_3 c x y=>
  split at hc
  ·rename_i c' x' y' h1 h2 h3; simp at hc; subst hc; exact zm31 ho h1 h2 h3 he hw h
  ·simp at hc
 case h_4 t=>
  split at hc
  ·rename_i z hz; simp at hc; subst hc; exact zlz ho hz hw h
  ·simp at hc
 case h_5 t v=>
  split at hc
  ·rename_i g n y h1 h2
   split at hc
   ·rename_i hn; simp at hc; subst hc; exact zm61 ho h1 hn h2 he hw h
   ·simp at hc
  ·simp at hc
 case h_6 t parts=>
  split at hc
  ·rename_i fs z h1 h2
   split at hc
   ·rename_i ps hps
    split at hc
    ·rename_i hall; simp at hc; subst hc; exact zmz ho h1 hall h2 hps he hw h
    ·simp at hc
   ·simp at hc
  ·simp at hc
 case h_7 t len parts=>
  split at hc
  ·rename_i e h1
   split at hc
   ·rename_i z ps h2 h3
    split at hc
    ·rename_i hl; simp at hc; subst hc; exact zon ho h1 h2 h3 hl he hw h
    ·simp at hc
   ·simp at hc
  ·simp at hc
 case h_8 t x=>
  split at hc
  ·rename_i g n y h1 h2; simp at hc; subst hc; exact zo31 ho h1 h2 he hw h
  ·simp at hc
 case h_9 t x v=>
  split at hc
  ·rename_i g n y z h1 h2 h3; simp at hc; subst hc; exact znz ho h1 h2 h3 he hw h
  ·simp at hc
 case h_10 x=>
  split at hc
  ·rename_i y hy; simp at hc; subst hc; exact zjr ho hy he hw h
  ·simp at hc
 case h_11 op t x y s=>
  split at hc
  ·rename_i p q h1 h2; simp at hc; subst hc; exact zl61 ho h1 h2 he hw h
  ·simp at hc
 case h_12 op t x=>
  split at hc
  ·rename_i y hy; simp at hc; subst hc; exact z691 ho hy he hw h
  ·simp at hc
 case h_13 src dst x=>
  split at hc
  ·rename_i h1 h2 h3; simp at hc; subst hc; exact ziz ho h1 h2 h3 he hw h
  ·rename_i h1 h2 h3; simp at hc; subst hc; exact zdx ho h1 h2 h3 he hw h
  ·rename_i h1 h2 h3; simp at hc; subst hc; exact z4u ho h1 h2 h3 he hw h
  ·rename_i h1 h2 h3
   split at hc
   ·rename_i hb; simp at hc; subst hc; exact zbu ho h1 h2 hb h3 he hw h
   ·simp at hc
  ·split at hc
   ·simp at hc; subst hc; simp [actOf,zd] at h
   ·simp at hc
  ·simp at hc
 case h_14 f xs ys=>
  split at hc
  ·rename_i p q h1 h2; simp at hc; subst hc; exact zkr ho h1 h2 he hw h
  ·simp at hc
 case h_15 t=>simp at hc; subst hc; exact z7u ho hw h
 case h_16 t x y=>
  split at hc
  ·rename_i e h1
   split at hc
   ·rename_i z i p q h2 h3 h4 h5; simp at hc; subst hc; exact z4q ho h1 h2 h3 h4 h5 he hw h
   ·simp at hc
  ·simp at hc
 case h_17 t x lo hi=>
  split at hc
  ·rename_i y l hh h1 h2 h3 h4
   simp at hc; subst hc
   exact zlr ho (.inl ⟨rfl,h1⟩) h2 (zib h3) (zib h4) he hw h
  ·rename_i e y l hh h1 h2 h3 h4
   split at hc
   ·rename_i i hi'
    split at hc
    ·rename_i hs; simp at hc; subst hc
     exact zlr ho (.inr ⟨hs,e,i,h1,hi',rfl⟩) h2 (zib h3) (zib h4) he hw h
    ·simp at hc
   ·simp at hc
  ·simp at hc
 case h_18 s x f=>
  split at hc
  ·rename_i fs y h1 h2
   split at hc
   ·rename_i fd hf
    split at hc
    ·rename_i i hi
     split at hc
     ·rename_i hs; simp at hc; subst hc; exact z0q ho h1 hf hi hs h2 he hw h
     ·simp at hc
    ·simp at hc
   ·simp at hc
  ·simp at hc
 case h_19 s x f=>
  split at hc
  ·rename_i fs y h1 h2
   split at hc
   ·rename_i fd hf
    split at hc
    ·rename_i g n ht; simp at hc; subst hc; exact zkz ho h1 hf ht h2 he hw h
    ·simp at hc
   ·simp at hc
  ·simp at hc
 case h_20 t x i=>
  split at hc
  ·rename_i e y j h1 h2 h3
   split at hc
   ·rename_i inf hi
    split at hc
    ·simp at hc; subst hc; exact z1q ho h1 hi h2 h3 he hw h
    ·simp at hc
   ·simp at hc
  ·simp at hc
 case h_21 t x i=>
  split at hc
  ·rename_i y j h1 h2 h3; simp at hc; subst hc; exact zjz ho h1 h2 h3 he hw h
  ·simp at hc
 case h_22 t m k ok=>
  split at hc
  ·rename_i kt e x y h1 h2 h3
   split at hc
   ·rename_i g ks z h4 h5; simp at hc; subst hc; exact zgx ho h1 h4 h5 h2 h3 he hw h
   ·simp at hc
  ·simp at hc
 case h_23 t m k v=>
  split at hc
  ·rename_i kt e x y z h1 h2 h3 h4
   split at hc
   ·rename_i g ks h5; simp at hc; subst hc; exact z3h (.inl ho) h1 h5 h2 h3 h4 he hw h
   ·simp at hc
  ·simp at hc
 case h_24 t m k v=>
  split at hc
  ·rename_i kt e x y z h1 h2 h3 h4
   split at hc
   ·rename_i g ks h5; simp at hc; subst hc; exact z3h (.inr ho) h1 h5 h2 h3 h4 he hw h
   ·simp at hc
  ·simp at hc
 case h_25 t m k=>
  split at hc
  ·rename_i kt e x y h1 h2 h3
   split at hc
   ·rename_i g ks z h4 h5; simp at hc; subst hc; exact zqr ho h1 h4 h5 h2 h3 he hw h
   ·simp at hc
  ·simp at hc
 case h_26 t m s v=>
  split at hc
  ·rename_i x y z h1 h2 h3; simp at hc; subst hc; exact zpn ho h1 h2 h3 he hw h
  ·simp at hc
 case h_27 t x=>
  split at hc
  ·simp at hc
  ·rename_i d y hnot h1 h2
   simp at hc; subst hc
   exact zqi ho h1 (fun ms e=>by subst e; exact hnot _ rfl) h2 he hw h
  ·simp at hc
 case h_28 x i=>
  split at hc
  ·rename_i y hy; simp at hc; subst hc; exact z5u ho hy he hw h
  ·simp at hc
 case h_29 c=>
  split at hc
  ·split at hc
   ·simp at hc; exact absurd hc.symm (hne _ _)
   ·simp at hc
  ·rename_i hcal
   split at hc
   ·rename_i x t h1 h2
    split at hc
    ·rename_i y h3 h4; simp at hc; subst hc; exact z6u (k:=.str) ho hcal h1 h2 h4 h3 he hw h
    ·rename_i y e h3 h4; simp at hc; subst hc; exact z6u (k:=.slice) ho hcal h1 h2 ⟨_,h4⟩ h3 he hw h
    ·rename_i y k e h3 h4; simp at hc; subst hc; exact z6u (k:=.map) ho hcal h1 h2 ⟨_,_,h4⟩ h3 he hw h
    ·simp at hc
   ·simp at hc
  ·rename_i hcal
   split at hc
   ·rename_i x y t u h1 h2
    split at hc
    ·rename_i p q e e' h3 h4 h5 h6
     split at hc
     ·rename_i i hi
      split at hc
      ·rename_i hcc
       obtain ⟨c1,c2,c3⟩:=hcc
       simp at hc; subst hc
       cases hz:i.zero with
       | none=>rw [hz] at c3; simp at c3
       | some z=>rw [hz] at c3; simp at c3; exact zfx ho hcal h1 h2 h5 h6 hi c1 c2 hz c3 h3 h4 he hw h
      ·simp at hc
     ·simp at hc
    ·simp at hc
   ·simp at hc
  ·rename_i hcal
   split at hc
   ·rename_i x y t ts h1 h2
    split at hc
    ·rename_i p q kt e h3 h4 h5
     split at hc
     ·rename_i g ks h6; simp at hc; subst hc; exact zhx ho hcal h1 h2 h5 h6 h3 h4 he hw h
     ·simp at hc
    ·simp at hc
   ·simp at hc
  ·rename_i hcal
   split at hc
   ·rename_i xs h1; simp at hc; subst hc; exact zp31 ho hcal h1 he hw h
   ·simp at hc
  ·split at hc
   ·simp at hc; exact absurd hc.symm (hni _ _ _)
   ·simp at hc
  ·simp at hc
 case h_30 t x=>
  split at hc
  ·simp at hc; subst hc; simp [actOf,zd] at h
  ·simp at hc
 case h_31 x=>
  split at hc
  ·simp at hc; subst hc; simp [actOf,zd] at h
  ·simp at hc
 case h_32 x=>
  split at hc
  ·simp at hc; subst hc; simp [actOf,zd] at h
  ·simp at hc
 all_goals simp at hc
end Go.Abs
