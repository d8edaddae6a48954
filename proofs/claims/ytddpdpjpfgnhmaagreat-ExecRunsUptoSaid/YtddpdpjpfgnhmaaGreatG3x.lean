/- Abs: bytes and texts, the greatest of numbers. -/
import Derived.Test.YtddpdpjpfgnhmaaGreatG2x
set_option linter.unusedSimpArgs false
set_option linter.unusedVariables false
set_option maxHeartbeats 4000000
namespace Go.Abs
open Go.RowKit
variable {CR:CRel} {P:Program} {W:BaseW} {w:World} {φ:Frz} {μ:List Loc} {H H':Heap} {look:Nat→AV} {a:Act} {call:CallF} {slot:Option Nat} {r:AV} {o:Oper} {ao:AOp}
theorem zbw:∀ {l:List AV} {us:List Value} {x r:AV} {v:Value},maxF x l=some r→VR φ μ x v→VRs φ μ l us→∃ u,(us.foldlM Builtin.max2 v).run P w=.ok u w∧VR φ μ r u
 | [],us,x,r,v,h,hx,hl=>by
   have:us=[]:=by have:=hl.1; cases us <;> simp at this <;> rfl
   subst this
   cases x <;> simp [maxF] at h
   subst h
   exact ⟨v,by simp,hx⟩
 | y::l,[],x,r,v,h,hx,hl=>by simp [VRs] at hl
 | y::l,u::us,x,r,v,h,hx,hl=>by
   cases x <;> simp [maxF] at h
   rename_i k p
   cases y <;> simp at h
   rename_i j q
   obtain ⟨rfl,h⟩:=h
   have hy:VR φ μ (.int k q) u:=hl.2 0 _ _ rfl rfl
   cases hx; cases hy
   obtain ⟨u',h1,h2⟩:=zbw h (.int k _) ⟨by have:=hl.1; simpa using this,fun i y u h1 h2=>hl.2 (i + 1) y u (by simpa using h1) (by simpa using h2)⟩
   refine ⟨u',?_,h2⟩
   simp only [List.foldlM_cons,Builtin.max2,Sem.run_bind,Sem.run_pure,Result.andThen_ok]
   exact h1
theorem zp31 {c:Call} (ho:o.op=.call c) (hcal:c.callee=.builtin .max) {xs:List AOperand} (hx:z32 c.args.toList=some xs) (he:EnvR φ μ look a) (hw:WR CR W φ μ H w)
 (h:zd call slot H (actOf (zk look) (.maxI xs))=some (r,H')):SimR CR P W φ μ o a.eval w r H':=by
 simp only [actOf] at h
 obtain ⟨h',rfl⟩:=z24 h
 clear h
 have h:=h'
 have hv:=z14 he hx
 unfold maxA at h
 split at h
 ·simp at h
 ·rename_i x l hl
  rw [hl] at hv
  generalize hus:c.args.toList.map a.eval=us at hv
  cases us with
  | nil=>simp [VRs] at hv
  | cons v us=>
    obtain ⟨u,h1,h2⟩:=zbw (P:=P) (w:=w) h (hv.2 0 _ _ rfl rfl) (us:=us) ⟨by have:=hv.1; simpa using this,fun i y u h1 h2=>hv.2 (i + 1) y u (by simpa using h1) (by simpa using h2)⟩
    refine zi2 hw (v:=u) ?_ h2
    simp only [execOp,ho,resolve,hcal,Sem.run_bind,Sem.run_pure,Result.andThen_ok,invoke,builtin]
    have:(Builtin.max_ c.argTypes o.type (c.args.map a.eval)).run P w=.ok u w:=by
     simp only [Builtin.max_,Array.toList_map,hus]
     exact h1
    simp [this]
theorem z3l {e:TypeId} (h:z9o P e=true):P.underlying e=some (.int .u8)∧∃ i,P.info? e=some i∧i.size=1:=by
 unfold z9o at h
 split at h
 ·rename_i i h1 h2; exact ⟨h1,i,h2,by simpa using h⟩
 ·simp at h
theorem zio:∀ {rows:List AV} {us:List Value} {bs:List UInt8} (acc:ByteArray),zt9 rows=some bs→VRs φ μ rows us →
 (forIn us acc fun c (s:ByteArray)=>(match c with
  | .int .u8 n=>pure (ForInStep.yield (s.push (UInt8.ofNat n.toNat)))
  | _ => do (stuck "bytesToString: byte expected" : Sem PUnit); pure (ForInStep.yield s) : Sem (ForInStep ByteArray))).run P w = .ok ⟨acc.data ++ bs.toArray⟩ w
 | [],us,bs,acc,h,hl=>by
   have:us=[]:=by have:=hl.1; cases us <;> simp at this <;> rfl
   subst this
   simp [zt9] at h; subst h
   simp
 | y::l,[],bs,acc,h,hl=>by simp [VRs] at hl
 | y::l,u::us,bs,acc,h,hl=>by
   unfold zt9 at h
   split at h
   ·rename_i e; simp at e
   ·rename_i n l' e
    simp only [List.cons.injEq] at e
    obtain ⟨rfl,rfl⟩:=e
    split at h
    ·rename_i bs' hbs
     simp only [Option.some.injEq] at h; subst h
     have hy:VR φ μ (.int .u8 n) u:=hl.2 0 _ _ rfl rfl
     cases hy
     have ih:=zio (acc.push (UInt8.ofNat n.toNat)) hbs (us:=us) ⟨by have:=hl.1; simpa using this,fun i y u h1 h2=>hl.2 (i + 1) y u (by simpa using h1) (by simpa using h2)⟩
     simp only [List.forIn_cons,Sem.run_bind,Sem.run_pure,Result.andThen_ok]
     rw [ih]
     congr 2
     simp [ByteArray.push]
    ·simp at h
   ·simp at h
theorem z5g:∀ {rows:List AV} {bs:List UInt8},zt9 rows=some bs→∀ r∈rows,∃ n,r=.int .u8 n
 | [],bs,h,r,hr=>by simp at hr
 | y::l,bs,h,r,hr=>by
   unfold zt9 at h
   split at h
   ·rename_i e; simp at e
   ·rename_i n l' e
    simp only [List.cons.injEq] at e
    obtain ⟨rfl,rfl⟩:=e
    split at h
    ·rename_i bs' hbs
     rcases List.mem_cons.1 hr with rfl | hr
     ·exact ⟨n,rfl⟩
     ·exact z5g hbs r hr
    ·simp at h
   ·simp at h
theorem z4l {rows:List AV} {r:AV} (h:z7e rows=some r) {ad:Addr} {n:Nat} (hn:rows.length=n) (hc:∀ (i:Nat) (x:AV),rows[i]? = some x→∃ v,w.cell? (ad.add i)=some v∧VR φ μ x v) {m:Nat} :
 ∃ s,(Conv.bytesToString (.slice (some ad) n m)).run P w=.ok (.string s) w∧r=.str s:=by
 subst hn
 unfold z7e at h
 split at h
 ·rename_i bs hbs
  simp only [Option.some.injEq] at h
  let f:Nat→Value:=fun j=>if hj:j < rows.length then Classical.choose (hc j _ (List.getElem?_eq_getElem hj)) else undef
  have hf:∀ j (hj:j < rows.length),w.cell? (ad.add j)=some (f j)∧VR φ μ rows[j] (f j):=fun j hj=>by
   simp only [f,hj,dif_pos]; exact Classical.choose_spec (hc j _ (List.getElem?_eq_getElem hj))
  have hl:VRs φ μ rows ((List.range rows.length).map f):=by
   refine ⟨by simp,fun i x v h1 h2=>?_⟩
   have hi:i < rows.length:=(List.getElem?_eq_some_iff.1 h1).1
   rw [List.getElem?_eq_getElem hi] at h1
   simp [hi] at h2
   cases h1; subst h2
   exact (hf i hi).2
  refine ⟨⟨⟨bs⟩⟩,?_,h.symm⟩
  have:=zio (w:=w) (P:=P) .empty hbs hl
  simp only [Conv.bytesToString,Sem.run_bind]
  rw [run_loadCells w _ rows.length f (fun j hj=>(hf j hj).1)]
  simp only [Result.andThen_ok]
  rw [← Array.forIn_toList]
  have e0:(ByteArray.empty.data++bs.toArray)=⟨bs⟩:=by
   have:ByteArray.empty.data=#[]:=rfl
   rw [this]; simp
  rw [e0] at this
  exact (congrArg (fun r=>Result.andThen r fun s w'=>Sem.run P (pure (Value.string s)) w') this).trans (by simp)
 ·simp at h
theorem zbu {src dst e:TypeId} {x:Operand} (ho:o.op=.convert src dst x) (hs:P.underlying src=some (.slice e)) (hd:P.underlying dst=some .string) (hb:z9o P e=true) {x':AOperand} (hx:z7 x=some x')
 (he:EnvR φ μ look a) (hw:WR CR W φ μ H w) (h:zd call slot H (actOf (zk look) (.ofBytes x'))=some (r,H')):SimR CR P W φ μ o a.eval w r H':=by
 obtain ⟨hbu,_,_,_⟩:=z3l hb
 have hv:=za he hx
 have fin:∀ s,r=.str s→H'=H→(Conv.bytesToString (a.eval x)).run P w=.ok (.string s) w→(∃ p n m,a.eval x=.slice p n m)→SimR CR P W φ μ o a.eval w r H':=by
  rintro s rfl rfl hr ⟨p,n,m,hu⟩
  refine zi2 hw (v:=.string s) ?_ (.str s)
  rw [hu] at hr
  simp [execOp,ho,hu,convert,run_underlying hs,run_underlying hd,run_underlying hbu,hr]
 simp only [actOf] at h
 generalize hq:zk look x'=q at h hv
 generalize hu:a.eval x=u at hv fin
 split at h
 ·obtain ⟨rfl,rfl⟩:=zf2 h
  cases hv
  exact fin _ rfl rfl (by simp [Conv.bytesToString]; rfl) ⟨_,_,_,rfl⟩
 ·rename_i lent rows
  obtain ⟨h',rfl⟩:=z24 h
  clear h
  have h:=h'
  cases hv with
  | fslNil=>
    rename_i ad
    rcases ad with _ | ad
    ·simp [z7e,zt9] at h; subst h
     exact fin _ rfl rfl (by simp [Conv.bytesToString]; rfl) ⟨_,_,_,rfl⟩
    ·obtain ⟨s,h1,h2⟩:=z4l (w:=w) (P:=P) (φ:=φ) (μ:=μ) h (ad:=ad) (m:=0) rfl (fun i x hx=>by simp at hx)
     exact fin s h2 rfl h1 ⟨_,_,_,rfl⟩
  | fsl vs hn hr hc hvv hcap=>
    rename_i sz b q n cap
    obtain ⟨s,h1,h2⟩:=z4l (w:=w) (P:=P) (φ:=φ) (μ:=μ) h (ad:=⟨b,q,none⟩) (m:=cap) hn (fun i x hx=>by
     have hrow:∃ bs,zt9 rows=some bs:=by
      unfold z7e at h; split at h
      ·exact ⟨_,by assumption⟩
      ·simp at h
     obtain ⟨bs,hbs⟩:=hrow
     obtain ⟨m,rfl⟩:=z5g hbs x (List.mem_of_getElem? hx)
     have hs1:sz=1:=by have:=z01 (hr _ (List.mem_of_getElem? hx)); simpa [AV.cells] using this.symm
     subst hs1
     refine ⟨vs i 0,?_,hvv i _ 0 (.int .u8 m) hx rfl⟩
     have:=z2d hw.frz (hc i _ 0 (.int .u8 m) hx rfl)
     rw [z99,← this]; congr 2; omega)
    exact fin s h2 rfl h1 ⟨_,_,_,rfl⟩
 ·rename_i id gen off len
  obtain ⟨hf,rfl⟩:=zco h
  rw [z37] at hf
  simp only at hf
  split at hf
  ·rename_i rows hys
   unfold zw3 at hys
   split at hys
   ·rename_i g s rws hB
    have hB:=z3d hB
    split at hys
    ·rename_i hcnd
     obtain ⟨rfl,hle⟩:=hcnd
     simp only [Option.some.injEq] at hys; subst hys
     cases hv with
     | sl hl hg hlc ha=>
     rename_i cap l ad
     have hgl:g=l.gen:=hw.gen id _ l hB hl
     obtain ⟨had,hcap⟩:=ha hgl.symm
     have hrow:∃ bs,zt9 (List.take len (List.drop off rws))=some bs:=by
      unfold z7e at hf; split at hf
      ·exact ⟨_,by assumption⟩
      ·simp at hf
     obtain ⟨bs,hbs⟩:=hrow
     obtain ⟨s,h1,h2⟩:=z4l (w:=w) (P:=P) (φ:=φ) (μ:=μ) hf (ad:=ad) (m:=cap) (n:=len) (by simp; omega) (fun i x hx=>by
      obtain ⟨m,rfl⟩:=z5g hbs x (List.mem_of_getElem? hx)
      rw [List.getElem?_take] at hx
      split at hx
      ·rename_i hi
       rw [List.getElem?_drop] at hx
       have had:=had (by omega)
       subst had
       have hA:=hw.arr hB hl
       have hs1:l.sz=1:=by have:=z01 (hA.ok _ (List.mem_of_getElem? hx)); simpa [AV.cells] using this.symm
       obtain ⟨v,e3,hv⟩:=hw.row hB hl hx 0 (.int .u8 m) rfl
       refine ⟨v,?_,hv⟩
       rw [z99,← e3,hs1]; congr 2; omega
      ·simp at hx)
     exact fin s h2 rfl h1 ⟨_,_,_,rfl⟩
    ·simp at hys
   ·simp at hys
  ·simp at hf
 ·simp [zd] at h
end Go.Abs
