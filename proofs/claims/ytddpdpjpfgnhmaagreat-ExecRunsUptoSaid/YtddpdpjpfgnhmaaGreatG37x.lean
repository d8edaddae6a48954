/- Plan: steps that pass neither check. PRINTED by a small program. -/
import Derived.Test.YtddpdpjpfgnhmaaGreatG36x
set_option linter.unusedSimpArgs false
set_option linter.unusedVariables false
set_option maxHeartbeats 4000000
namespace Go.Abs.Plan
open Enc (Is)
theorem zar {c:Col} (h:c≠zf1):(c.use == 0 && (c.var == 0 && (c.v.kind == 0 && (c.v.n == 0 && decide (c.v.s=⟨#[]⟩)))))=false:=by
 cases hh:(c.use == 0 && (c.var == 0 && (c.v.kind == 0 && (c.v.n == 0 && decide (c.v.s=⟨#[]⟩))))) with
 | false=>rfl
 | true=>
   simp only [Bool.and_eq_true,beq_iff_eq,decide_eq_true_eq] at hh
   obtain ⟨h1,h2,h3,h4,h5⟩:=hh
   exact absurd (by obtain ⟨a,b,⟨c,d,e⟩⟩:=c; simp only at h1 h2 h3 h4 h5; subst h1; subst h2; subst h3; subst h4; subst h5; rfl) h
theorem zdi {n:Nat} {w sk:Bool} {cs:List Col} {B:Nat}:∀ j,j < cs.length→∀ B1,z72 n w sk B (cs.take j)=some B1→∀ c,cs[j]? = some c→z72 n w sk B (cs.take (j + 1))=okCol n B1 w sk c:=by
 intro j hj B1 h1 c hc
 have htk:cs.take (j + 1)=cs.take j++[c]:=by rw [List.take_add_one,hc]; rfl
 rw [htk,z79,h1,Option.bind_some]
theorem z9c (g b n B:Nat) (H:Heap) (st:Step) (cv:AV) (w:Bool) (hcv:Is cv st.cols) (hb:H[b]? = some (zw2 g n B)) (hn:n≤64) (hl:st.cols.length≤8) (hw:(st.op != 2)=w) (h:z72 n w true B st.cols=none) (s:St) (ks:List KF) (R:AExit→St→Prop)
 (e1:s.heap=H) (e2:s.dfr=[]) (e3:s.tm.get 2=.sl b g 0 n) (e4:s.tm.get 3=.fptr false (st.encW cv).cells 0) (e5:s.tm.get 8=i64 0)
 (hret:∀ (s':St) (B':Nat),s'.heap=H.set b (zw2 g n B')→s'.dfr=[]→s'.tm.get 6=.bool false→KONT (callW tbl) loopW ks .ret s' R) :
 EXEC (callW tbl) loopW (.loop zr3) ks s R:=by
 have hc:=zb hcv
 have hln:=IsL.len hcv
 refine zg (fun k s=>∃ (j B1:Nat),j + k=st.cols.length∧z72 n w true B (st.cols.take j)=some B1∧s.heap=H.set b (zw2 g n B1)∧s.dfr=[]∧s.tm.get 2=.sl b g 0 n∧s.tm.get 3=.fptr false (st.encW cv).cells 0∧s.tm.get 8=i64 j) st.cols.length
  ⟨0,B,by simp,by simp [z72],by rw [e1,set_same hb],e2,e3,e4,e5⟩ ?_
 rintro k s Q ⟨j,B1,h0,h1,h2,h3,h4,h5,h6⟩ hn' hx
 simp only [AV.cells] at h5
 by_cases hj:j < st.cols.length
 ·have hj':(j:Int) < st.cols.length:=by omega
  have hg:st.cols[j]? = some st.cols[j]:=by simp [hj]
  obtain ⟨fl',lv,rfl,hidx⟩:=IsL.idx hcv hg
  simp only [show Enc.sz Col=5 from rfl] at hidx
  have hat:=zdi j hj B1 h1 _ hg
  have hb1:s.heap[b]? = some (zw2 g n B1):=by rw [h2]; simp [lt_of hb]
  have hwr:IntKind.i64.wrap ((j:Int) + 1)=((j + 1:Nat):Int):=by rw [z61 (by omega) (by omega)]; push_cast; rfl
  cases hB2:okCol n B1 w true st.cols[j] with
  | some B2=>
    rw [hB2] at hat
    have hcol:=zzm g b n B1 B2 s.heap st.cols[j] w hb1 hn hB2
    simp only [Col.enc] at hcol
    simp [zr3,h4,h5,h6,hln,hj',hidx,AV.rowok,hc,hw,hcol]
    rw [hwr]
    exact hn' _ (k - 1) (by omega) ⟨j + 1,B2,by omega,hat,by simp [h2],h3,by simp [h4],by simp [h5],by simp⟩
  | none=>
    have hcol:=zct g b n B1 s.heap st.cols[j] w hb1 hn hB2
    simp only [Col.enc] at hcol
    simp [zr3,h4,h5,h6,hln,hj',hidx,AV.rowok,hc,hw,hcol]
    exact hx _ _ (by simp) (hret _ B1 h2 h3 (by simp))
 ·rw [List.take_of_length_le (by omega),h] at h1
  simp at h1
theorem zac (g b n B:Nat) (H:Heap) (st:Step) (cv:AV) (w:Bool) (hcv:Is cv st.cols) (hb:H[b]? = some (zy3 g n B)) (hn:n≤64) (hB:B < 2 ^ 64) (hl:st.cols.length≤8) (hw:(st.op != 2)=w) (h:z72 n w true B st.cols=none) (s:St) (ks:List KF) (R:AExit→St→Prop)
 (e1:s.heap=H) (e2:s.dfr=[]) (e3:s.tm.get 0=.ptr b g 0 0) (e4:s.tm.get 4=.fptr false (st.encW cv).cells 0) (e5:s.tm.get 103=cv) (e6:s.tm.get 104=i64 st.cols.length) (e7:s.tm.get 105=i64 0)
 (hret:∀ (s':St) (B':Nat),s'.heap=H.set b (zy3 g n B')→s'.dfr=[]→s'.tm.get 6=.bool false→KONT (callW tbl) loopW ks .ret s' R) :
 EXEC (callW tbl) loopW (.loop zz5) ks s R:=by
 have hc:=zb hcv
 have hln:=IsL.len hcv
 refine zb2 st.cols.length (fun j s=>∃ (B1:Nat),z72 n w true B (st.cols.take j)=some B1∧s.heap=H.set b (zy3 g n B1)∧s.dfr=[]∧s.tm.get 0=.ptr b g 0 0∧s.tm.get 4=.fptr false (st.encW cv).cells 0∧s.tm.get 103=cv∧s.tm.get 104=i64 st.cols.length∧s.tm.get 105=i64 j)
  0 (by omega) ⟨B,by simp [z72],by simp [e1,set_same hb],by simp [e2],by simp [e3],by simp [e4],by simp [e5],by simp [e6],by simp [e7]⟩ (by omega) (by simp; grind) ?_ ?_
 ·rintro j s' Q hj ⟨B1,h1,h2,h3,h4,h5,h6,h7,h8⟩ hn' hx
  simp only [AV.cells] at h5
  have hg:st.cols[j]? = some st.cols[j]:=by simp [hj]
  obtain ⟨fl',lv,rfl,hidx⟩:=IsL.idx hcv hg
  simp only [show Enc.sz Col=5 from rfl] at hidx
  have hat:=zdi j hj B1 h1 _ hg
  have hb1:s'.heap[b]? = some (zy3 g n B1):=by rw [h2]; simp [lt_of hb]
  cases hB2:okCol n B1 w true st.cols[j] with
  | some B2=>
    rw [hB2] at hat
    have hcol:=zxc g b n B1 B2 s'.heap st.cols[j] w true hb1 hn (z6f hn hB h1) hB2
    simp only [Col.enc] at hcol
    simp [h4,h5,h6,h8,hln,hidx,AV.rowok,hc,hw,hcol]
    exact hn' _ _ (.inl rfl) (by simp [h8]) ⟨B2,hat,by simp [h2],h3,by simp [h4],by simp [h5],by simp [h6],by simp [h7],by simp⟩
  | none=>
    obtain ⟨B3,hcol⟩:=zci g b n B1 s'.heap st.cols[j] w true hb1 hn (z6f hn hB h1) hB2
    simp only [Col.enc] at hcol
    simp [h4,h5,h6,h8,hln,hidx,AV.rowok,hc,hw,hcol]
    exact hx _ _ (by simp) (by simp) (hret _ B3 (by simp [h2]) h3 (by simp))
 ·rintro s' ⟨B1,h1,h2,h3,h4,h5,h6,h7,h8⟩
  rw [List.take_of_length_le (by omega),h] at h1
  simp at h1
theorem z1z (g b n B:Nat) (H:Heap) (first:Bool) (s:Step) (sv:AV) (hs:Is sv s) (hb:H[b]? = some (zw2 g n B)) (hn:n≤64) (h:z05 n B first s=none) :
 ∃ B',callW tbl (.func zqb [] []) [sv, .bool first, .sl b g 0 n] H=some (.bool false,H.set b (zw2 g n B')):=by
 obtain ⟨cv,hcv,rfl⟩:=hs
 have hc:=zb hcv
 have hln:=IsL.len hcv
 suffices hq:∃ v H',(v=.bool false∧∃ B',H'=H.set b (zw2 g n B'))∧callW tbl (.func zqb [] []) [s.encW cv, .bool first, .sl b g 0 n] H=some (zj false H.length v H') by
  obtain ⟨v,H',⟨rfl,B',rfl⟩,hc⟩:=hq
  rw [ze (by simp)] at hc
  exact ⟨B',hc⟩
 refine callE (fun v H'=>v=.bool false∧∃ B',H'=H.set b (zw2 g n B')) zp rfl rfl rfl (fun F hF=>?_)
 have hS:F (.bool false) H:=hF _ _ ⟨rfl,B,(set_same hb).symm⟩
 unfold z05 at h
 by_cases h3:s.op=3
 ·rw [if_pos h3] at h
  by_cases hp:s.pred=⟨#[]⟩
  rotate_left
  ·simp [zp,zx,AV.rowok,hc,hln,z8,h3,hp]
   exact hS
  by_cases hcs:s.cols.length=0
  rotate_left
  ·simp [zp,zx,AV.rowok,hc,hln,z8,h3,hp,hcs]
   exact hS
  by_cases ho:s.old=true
  ·simp [zp,zx,AV.rowok,hc,hln,z8,h3,hp,hcs,ho]
   exact hS
  have ho:s.old=false:=by simpa using ho
  by_cases hlo:1≤s.cmp
  rotate_left
  ·simp [zp,zx,AV.rowok,hc,hln,z8,h3,hp,hcs,ho,hlo]
   exact hS
  by_cases hhi:s.cmp≤6
  rotate_left
  ·simp [zp,zx,AV.rowok,hc,hln,z8,h3,hp,hcs,ho,hlo,hhi]
   exact hS
  have hcl:s.cols=[]:=List.length_eq_zero_iff.1 hcs
  rw [if_pos ⟨hp,hcl,ho,hlo,hhi⟩] at h
  cases ha:okCol n B false false s.a with
  | none=>
    have t1:=zlv g b n B H s.a hb hn ha
    simp only [Col.enc] at t1
    simp [zp,zx,AV.rowok,hc,hln,z8,h3,hp,hcs,ho,hlo,hhi,t1]
    exact hS
  | some B1=>
    rw [ha] at h
    simp only at h
    have t1:=z9r g b n B B1 H s.a hb hn ha
    have e1:=zj6 ha
    subst e1
    have t2:=zlv g b n B1 H s.b hb hn h
    simp only [Col.enc] at t1 t2
    simp [zp,zx,AV.rowok,hc,hln,z8,h3,hp,hcs,ho,hlo,hhi,t1,t2]
    exact hS
 ·rw [if_neg h3] at h
  by_cases hop:s.op=1∨s.op=2∨(s.op=4∧first=true∧s.old=false)
  rotate_left
  ·by_cases h1:s.op=1
   ·exact absurd (.inl h1) hop
   by_cases h2:s.op=2
   ·exact absurd (.inr (.inl h2)) hop
   by_cases h4:s.op=4
   ·cases first with
    | false=>
      simp [zp,zx,AV.rowok,hc,hln,z8,h4]
      exact hS
    | true=>
      have ho:s.old=true:=by
       cases ho:s.old with
       | true=>rfl
       | false=>exact absurd (.inr (.inr ⟨h4,rfl,ho⟩)) hop
      simp [zp,zx,AV.rowok,hc,hln,z8,h4,ho]
      exact hS
   ·simp [zp,zx,AV.rowok,hc,hln,z8,h1,h2,h3,h4]
    exact hS
  by_cases hcmp:s.cmp=0
  rotate_left
  ·rcases hop with hop | hop | ⟨hop,hf,ho⟩
   ·simp [zp,zx,AV.rowok,hc,hln,z8,hop,hcmp]
    exact hS
   ·simp [zp,zx,AV.rowok,hc,hln,z8,hop,hcmp]
    exact hS
   ·simp [zp,zx,AV.rowok,hc,hln,z8,hop,hf,ho,hcmp]
    exact hS
  by_cases hza:s.a=zf1
  rotate_left
  ·have hz:=zar hza
   rcases hop with hop | hop | ⟨hop,hf,ho⟩
   ·simp [zp,zx,AV.rowok,hc,hln,z8,hop,hcmp,hz]
    exact hS
   ·simp [zp,zx,AV.rowok,hc,hln,z8,hop,hcmp,hz]
    exact hS
   ·simp [zp,zx,AV.rowok,hc,hln,z8,hop,hf,ho,hcmp,hz]
    exact hS
  by_cases hzb:s.b=zf1
  rotate_left
  ·have hz:=zar hzb
   rcases hop with hop | hop | ⟨hop,hf,ho⟩
   ·simp [zp,zx,AV.rowok,hc,hln,z8,hop,hcmp,hza,zf1,zi,hz]
    exact hS
   ·simp [zp,zx,AV.rowok,hc,hln,z8,hop,hcmp,hza,zf1,zi,hz]
    exact hS
   ·simp [zp,zx,AV.rowok,hc,hln,z8,hop,hf,ho,hcmp,hza,zf1,zi,hz]
    exact hS
  by_cases h8:s.cols.length≤8
  rotate_left
  ·have h8i:(8:Int) < s.cols.length:=by omega
   rcases hop with hop | hop | ⟨hop,hf,ho⟩
   ·simp [zp,zx,AV.rowok,hc,hln,z8,hop,hcmp,hza,zf1,zi,hzb,h8i]
    exact hS
   ·simp [zp,zx,AV.rowok,hc,hln,z8,hop,hcmp,hza,zf1,zi,hzb,h8i]
    exact hS
   ·simp [zp,zx,AV.rowok,hc,hln,z8,hop,hf,ho,hcmp,hza,zf1,zi,hzb,h8i]
    exact hS
  have h8i:¬ (8:Int) < s.cols.length:=by omega
  rw [if_pos ⟨hop,hcmp,hza,hzb,h8⟩] at h
  rcases hop with hop | hop | ⟨hop,hf,ho⟩
  ·simp [zp,zx,AV.rowok,hc,hln,z8,hop,hcmp,hza,hzb,h8i,zf1,zi]
   refine z9c g b n B H s cv (decide (s.op≠2)) hcv hb hn h8 (by simp [hop]) h _ _ _ rfl rfl (by simp) (by simp [hop,hcmp,hza,hzb,zf1,zi]) (by simp) ?_
   intro s' B' q1 q2 q3
   simp [q1,q2,q3]
   exact hF _ _ ⟨rfl,B',rfl⟩
  ·simp [zp,zx,AV.rowok,hc,hln,z8,hop,hcmp,hza,hzb,h8i,zf1,zi]
   refine z9c g b n B H s cv (decide (s.op≠2)) hcv hb hn h8 (by simp [hop]) h _ _ _ rfl rfl (by simp) (by simp [hop,hcmp,hza,hzb,zf1,zi]) (by simp) ?_
   intro s' B' q1 q2 q3
   simp [q1,q2,q3]
   exact hF _ _ ⟨rfl,B',rfl⟩
  ·simp [zp,zx,AV.rowok,hc,hln,z8,hop,hf,ho,hcmp,hza,hzb,h8i,zf1,zi]
   refine z9c g b n B H s cv (decide (s.op≠2)) hcv hb hn h8 (by simp [hop]) h _ _ _ rfl rfl (by simp) (by simp [hop,ho,hcmp,hza,hzb,zf1,zi]) (by simp) ?_
   intro s' B' q1 q2 q3
   simp [q1,q2,q3]
   exact hF _ _ ⟨rfl,B',rfl⟩
theorem z2z (g b n B:Nat) (H:Heap) (first:Bool) (s:Step) (sv:AV) (hs:Is sv s) (hb:H[b]? = some (zy3 g n B)) (hn:n≤64) (hB:B < 2 ^ 64) (h:z05 n B first s=none) :
 ∃ B',callW tbl (.func zj5 [] []) [.ptr b g 0 0,sv, .bool first] H=some (.bool false,H.set b (zy3 g n B')):=by
 obtain ⟨cv,hcv,rfl⟩:=hs
 have hc:=zb hcv
 have hln:=IsL.len hcv
 suffices hq:∃ v H',(v=.bool false∧∃ B',H'=H.set b (zy3 g n B'))∧callW tbl (.func zj5 [] []) [.ptr b g 0 0,s.encW cv, .bool first] H=some (zj false H.length v H') by
  obtain ⟨v,H',⟨rfl,B',rfl⟩,hc⟩:=hq
  rw [ze (by simp)] at hc
  exact ⟨B',hc⟩
 refine callE (fun v H'=>v=.bool false∧∃ B',H'=H.set b (zy3 g n B')) zc rfl rfl rfl (fun F hF=>?_)
 have hS:F (.bool false) H:=hF _ _ ⟨rfl,B,(set_same hb).symm⟩
 unfold z05 at h
 by_cases h3:s.op=3
 ·rw [if_pos h3] at h
  obtain ⟨hb0,hh⟩:=zym s.cmp H
  simp only [Val.enc,zi] at hh
  by_cases hop:opOk s.cmp
  rotate_left
  ·simp [zc,zh,AV.rowok,hc,hln,z8,hh,h3,hop]
   exact hS
  by_cases hcs:s.cols.length=0
  rotate_left
  ·simp [zc,zh,AV.rowok,hc,hln,z8,hh,h3,hop,hcs]
   exact hS
  by_cases hp:s.pred=⟨#[]⟩
  rotate_left
  ·simp [zc,zh,AV.rowok,hc,hln,z8,hh,h3,hop,hcs,hp]
   exact hS
  by_cases ho:s.old=true
  ·simp [zc,zh,AV.rowok,hc,hln,z8,hh,h3,hop,hcs,hp,ho]
   exact hS
  have ho:s.old=false:=by simpa using ho
  have hcl:s.cols=[]:=List.length_eq_zero_iff.1 hcs
  have hlo:1≤s.cmp:=by unfold opOk at hop; omega
  have hhi:s.cmp≤6:=by unfold opOk at hop; omega
  rw [if_pos ⟨hp,hcl,ho,hlo,hhi⟩] at h
  cases ha:okCol n B false false s.a with
  | none=>
    obtain ⟨B',t1⟩:=zci g b n B H s.a false false hb hn hB ha
    simp only [Col.enc] at t1
    simp [zc,zh,AV.rowok,hc,hln,z8,hh,h3,hop,hcs,hp,ho,t1]
    exact hF _ _ ⟨rfl,B',rfl⟩
  | some B1=>
    rw [ha] at h
    simp only at h
    have t1:=zxc g b n B B1 H s.a false false hb hn hB ha
    have e1:=zj6 ha
    subst e1
    rw [set_same hb] at t1
    obtain ⟨B',t2⟩:=zci g b n B1 H s.b false false hb hn hB h
    simp only [Col.enc] at t1 t2
    simp [zc,zh,AV.rowok,hc,hln,z8,hh,h3,hop,hcs,hp,ho,t1,t2]
    exact hF _ _ ⟨rfl,B',rfl⟩
 ·rw [if_neg h3] at h
  by_cases hop:s.op=1∨s.op=2∨(s.op=4∧first=true∧s.old=false)
  rotate_left
  ·by_cases h1:s.op=1
   ·exact absurd (.inl h1) hop
   by_cases h2:s.op=2
   ·exact absurd (.inr (.inl h2)) hop
   by_cases h4:s.op=4
   ·cases first with
    | false=>
      simp [zc,zh,AV.rowok,hc,hln,z8,h4]
      exact hS
    | true=>
      have ho:s.old=true:=by
       cases ho:s.old with
       | true=>rfl
       | false=>exact absurd (.inr (.inr ⟨h4,rfl,ho⟩)) hop
      simp [zc,zh,AV.rowok,hc,hln,z8,h4,ho]
      exact hS
   ·simp [zc,zh,AV.rowok,hc,hln,z8,h1,h2,h3,h4]
    exact hS
  by_cases h8:s.cols.length≤8
  rotate_left
  ·have h8i:(8:Int) < s.cols.length:=by omega
   rcases hop with hop | hop | ⟨hop,hf,ho⟩
   ·simp [zc,zh,AV.rowok,hc,hln,z8,hop,h8i]
    exact hS
   ·simp [zc,zh,AV.rowok,hc,hln,z8,hop,h8i]
    exact hS
   ·simp [zc,zh,AV.rowok,hc,hln,z8,hop,hf,ho,h8i]
    exact hS
  have h8i:¬ (8:Int) < s.cols.length:=by omega
  by_cases hcmp:s.cmp=0
  rotate_left
  ·rcases hop with hop | hop | ⟨hop,hf,ho⟩
   ·simp [zc,zh,AV.rowok,hc,hln,z8,hop,h8i,hcmp]
    exact hS
   ·simp [zc,zh,AV.rowok,hc,hln,z8,hop,h8i,hcmp]
    exact hS
   ·simp [zc,zh,AV.rowok,hc,hln,z8,hop,hf,ho,h8i,hcmp]
    exact hS
  by_cases hza:s.a=zf1
  rotate_left
  ·have hz:=zar hza
   rcases hop with hop | hop | ⟨hop,hf,ho⟩
   ·simp [zc,zh,AV.rowok,hc,hln,z8,hop,h8i,hcmp,hz]
    exact hS
   ·simp [zc,zh,AV.rowok,hc,hln,z8,hop,h8i,hcmp,hz]
    exact hS
   ·simp [zc,zh,AV.rowok,hc,hln,z8,hop,hf,ho,h8i,hcmp,hz]
    exact hS
  by_cases hzb:s.b=zf1
  rotate_left
  ·have hz:=zar hzb
   rcases hop with hop | hop | ⟨hop,hf,ho⟩
   ·simp [zc,zh,AV.rowok,hc,hln,z8,hop,h8i,hcmp,hza,zf1,zi,hz]
    exact hS
   ·simp [zc,zh,AV.rowok,hc,hln,z8,hop,h8i,hcmp,hza,zf1,zi,hz]
    exact hS
   ·simp [zc,zh,AV.rowok,hc,hln,z8,hop,hf,ho,h8i,hcmp,hza,zf1,zi,hz]
    exact hS
  rw [if_pos ⟨hop,hcmp,hza,hzb,h8⟩] at h
  rcases hop with hop | hop | ⟨hop,hf,ho⟩
  ·simp [zc,zh,AV.rowok,hc,hln,z8,hop,hcmp,hza,hzb,h8i,zf1,zi]
   refine zac g b n B H s cv (decide (s.op≠2)) hcv hb hn hB h8 (by simp [hop]) h _ _ _ rfl rfl (by simp) (by simp [hop,hcmp,hza,hzb,zf1,zi]) (by simp) (by simp) (by simp) ?_
   intro s' B' q1 q2 q3
   simp [q1,q2,q3]
   exact hF _ _ ⟨rfl,B',rfl⟩
  ·simp [zc,zh,AV.rowok,hc,hln,z8,hop,hcmp,hza,hzb,h8i,zf1,zi]
   refine zac g b n B H s cv (decide (s.op≠2)) hcv hb hn hB h8 (by simp [hop]) h _ _ _ rfl rfl (by simp) (by simp [hop,hcmp,hza,hzb,zf1,zi]) (by simp) (by simp) (by simp) ?_
   intro s' B' q1 q2 q3
   simp [q1,q2,q3]
   exact hF _ _ ⟨rfl,B',rfl⟩
  ·simp [zc,zh,AV.rowok,hc,hln,z8,hop,hf,ho,hcmp,hza,hzb,h8i,zf1,zi]
   refine zac g b n B H s cv (decide (s.op≠2)) hcv hb hn hB h8 (by simp [hop]) h _ _ _ rfl rfl (by simp) (by simp [hop,ho,hcmp,hza,hzb,zf1,zi]) (by simp) (by simp) (by simp) ?_
   intro s' B' q1 q2 q3
   simp [q1,q2,q3]
   exact hF _ _ ⟨rfl,B',rfl⟩
end Go.Abs.Plan
namespace Go.Abs.Plan
open Enc (Is)
def Says (p:Plan) (w:Int):Prop:=(zu3 p→w=0)∧(¬ zu3 p→w=180)
theorem znp {n:Nat} {ss:List Step} {B:Nat}:∀ j,j < ss.length→∀ B1,zx2 n true B (ss.take j)=some B1→∀ c,ss[j]? = some c→zx2 n true B (ss.take (j + 1))=z05 n B1 ((j:Int) == 0) c:=by
 intro j hj B1 h1 c hc
 have htk:ss.take (j + 1)=ss.take j++[c]:=by rw [List.take_add_one,hc]; rfl
 have hj0:(true && (ss.take j).isEmpty)=((j:Int) == 0):=by
  cases j with
  | zero=>simp
  | succ j=>cases hpp:ss with
    | nil=>simp [hpp] at hj
    | cons a l=>simp; omega
 rw [htk,z7k,h1,Option.bind_some,hj0]
theorem z8k {n:Nat} {ss:List Step} {B B':Nat} (j:Nat) (h:zx2 n true B (ss.take j)=none):zx2 n true B ss≠some B':=by
 intro e
 obtain ⟨B1,h1⟩:=zbt e j
 rw [h] at h1; simp at h1
theorem z7n {n:Nat} {w sk:Bool} {cs:List Col} {B B':Nat} (j:Nat) (h:z72 n w sk B (cs.take j)=none):z72 n w sk B cs≠some B':=by
 intro e
 obtain ⟨B1,h1⟩:=zvg e j
 rw [h] at h1; simp at h1
theorem zbr (v:AV) (p:Plan) (h:Is v p) (hpl:p.steps.length < 2 ^ 40):∃ w,zy (callW tbl) loopW zx4 [v]=some w∧∃ z,w=i64 z∧Says p z:=by
 obtain ⟨vv,vs,vh,h1,h2,h3,rfl⟩:=h
 have hc1:=zb h1
 have hc2:=zb h2
 have hc3:=zb h3
 have l1:=IsL.len h1
 have l2:=IsL.len h2
 have l3:=IsL.len h3
 refine pureK zx4 rfl (fun F hF=>?_)
 have no:¬ zu3 p→∀ H,F (i64 180) H:=fun hno H=>hF _ _ _ (z6 rfl) ⟨180,rfl,fun h=>absurd h hno,fun _=>rfl⟩
 have yes:zu3 p→∀ H,F (i64 0) H:=fun hy H=>hF _ _ _ (z6 rfl) ⟨0,rfl,fun _=>rfl,fun h=>absurd hy h⟩
 by_cases hn:p.vars.length≤64
 rotate_left
 ·have q1:(64:Int) < p.vars.length:=by omega
  simp [zx4,zrb,AV.rowok,hc1,hc2,hc3,l1,l2,l3,q1]
  exact no (fun h=>hn h.vars) _
 have q1:¬ (64:Int) < p.vars.length:=by omega
 by_cases hph:p.head.length≤8
 rotate_left
 ·have q2:(8:Int) < p.head.length:=by omega
  simp [zx4,zrb,AV.rowok,hc1,hc2,hc3,l1,l2,l3,q1,q2]
  exact no (fun h=>hph h.head) _
 have q2:¬ (8:Int) < p.head.length:=by omega
 simp [zx4,zrb,AV.rowok,hc1,hc2,hc3,l1,l2,l3,q1,q2,z8,z26,splice]
 refine zb2 p.steps.length (fun j s=>∃ (B1:Nat),zx2 p.vars.length true 0 (p.steps.take j)=some B1∧s.heap=[zy3 0 p.vars.length B1]∧s.dfr=[]∧s.tm.get 3=.ptr 0 0 0 0∧s.tm.get 1=.fptr false [vv,vs, .str p.pred,vh] 0∧s.tm.get 24=vs∧s.tm.get 25=i64 p.steps.length∧s.tm.get 26=i64 j)
  0 (by omega) ⟨0,by simp [zx2],rfl,rfl,by simp,by simp,by simp,by simp,by simp⟩ (by omega) (by simp; grind) ?_ ?_
 ·rintro j s' Q hj ⟨B1,g1,g2,g3,g4,g5,g6,g7,g8⟩ hn' hx
  have hg:p.steps[j]? = some p.steps[j]:=by simp [hj]
  obtain ⟨fl',sv,hsv,hidx⟩:=IsL.idx h2 hg
  simp only [show Enc.sz Step=16 from rfl] at hidx
  have hat:=znp j hj B1 g1 _ hg
  cases hB2:z05 p.vars.length B1 ((j:Int) == 0) p.steps[j] with
  | some B2=>
    rw [hB2] at hat
    have hst:=z0z 0 0 p.vars.length B1 B2 s'.heap ((j:Int) == 0) p.steps[j] sv hsv (by rw [g2]; rfl) hn (zmf hn (by decide) g1) hB2
    obtain ⟨cv,hcv,hsve⟩:=hsv
    have hcc:=zb hcv
    subst hsve
    simp [g4,g5,g6,g8,hidx,AV.rowok,hcc,hst]
    refine hn' _ _ (.inl rfl) (by simp [g8]) ⟨B2,hat,by simp [g2],g3,by simp [g4],by simp [g5],by simp [g6],by simp [g7],by simp⟩
  | none=>
    rw [hB2] at hat
    obtain ⟨B3,hst⟩:=z2z 0 0 p.vars.length B1 s'.heap ((j:Int) == 0) p.steps[j] sv hsv (by rw [g2]; rfl) hn (zmf hn (by decide) g1) hB2
    obtain ⟨cv,hcv,hsve⟩:=hsv
    have hcc:=zb hcv
    subst hsve
    simp [g4,g5,g6,g8,hidx,AV.rowok,hcc,hst]
    refine hx _ _ (by simp) (by simp) ?_
    simp [g3]
    exact no (fun h=>by obtain ⟨B,B',o1,_⟩:=h.ok; exact z8k _ hat o1) _
 ·rintro s' ⟨B1,g1,g2,g3,g4,g5,g6,g7,g8⟩
  rw [List.take_of_length_le (by omega)] at g1
  have hB:=zmf hn (by decide) g1
  simp [g5,l3]
  refine zb2 p.head.length (fun j s=>z72 p.vars.length false false B1 (p.head.take j)=some B1∧s.heap=[zy3 0 p.vars.length B1]∧s.dfr=[]∧s.tm.get 3=.ptr 0 0 0 0∧s.tm.get 39=vh∧s.tm.get 40=i64 p.head.length∧s.tm.get 41=i64 j)
   0 (by omega) ⟨by simp [z72],g2,g3,by simp [g4],by simp,by simp,by simp⟩ (by omega) (by simp; grind) ?_ ?_
  ·rintro j s2 Q hj ⟨f0,f1,f2,f3,f4,f5,f6⟩ hn' hx
   have hg:p.head[j]? = some p.head[j]:=by simp [hj]
   obtain ⟨fl',sv,rfl,hidx⟩:=IsL.idx h3 hg
   simp only [show Enc.sz Col=5 from rfl] at hidx
   have hat:=zdi j hj B1 f0 _ hg
   cases hB2:okCol p.vars.length B1 false false p.head[j] with
   | some B2=>
     have e4:=zj6 hB2
     subst e4
     rw [hB2] at hat
     have hst:=zxc 0 0 p.vars.length B2 B2 s2.heap p.head[j] false false (by rw [f1]; rfl) hn hB hB2
     simp only [Col.enc] at hst
     simp [f3,f4,f6,hidx,AV.rowok,hst]
     refine hn' _ _ (.inl rfl) (by simp [f6]) ⟨hat,by simp [f1],f2,by simp [f3],by simp [f4],by simp [f5],by simp⟩
   | none=>
     rw [hB2] at hat
     obtain ⟨B3,hst⟩:=zci 0 0 p.vars.length B1 s2.heap p.head[j] false false (by rw [f1]; rfl) hn hB hB2
     simp only [Col.enc] at hst
     simp [f3,f4,f6,hidx,AV.rowok,hst]
     refine hx _ _ (by simp) (by simp) ?_
     simp [f2]
     refine no (fun h=>?_) _
     obtain ⟨B,B',o1,o2⟩:=h.ok
     rw [g1] at o1
     simp only [Option.some.injEq] at o1
     subst o1
     exact z7n _ hat o2
  ·rintro s2 ⟨f0,f1,f2,f3,f4,f5,f6⟩
   rw [List.take_of_length_le (by omega)] at f0
   simp [f1,f2]
   exact yes ⟨hn,hph,hpl,B1,B1,g1,f0⟩ _
theorem zdt (v:AV) (p:Plan) (h:Is v p) (hpl:p.steps.length < 2 ^ 40):∃ w,zy (callW tbl) loopW z64 [v]=some w∧∃ z,w=i64 z∧Says p z:=by
 obtain ⟨vv,vs,vh,h1,h2,h3,rfl⟩:=h
 have hc1:=zb h1
 have hc2:=zb h2
 have hc3:=zb h3
 have l1:=IsL.len h1
 have l2:=IsL.len h2
 have l3:=IsL.len h3
 refine pureK z64 rfl (fun F hF=>?_)
 have no:¬ zu3 p→∀ H,F (i64 180) H:=fun hno H=>hF _ _ _ (z6 rfl) ⟨180,rfl,fun h=>absurd h hno,fun _=>rfl⟩
 have yes:zu3 p→∀ H,F (i64 0) H:=fun hy H=>hF _ _ _ (z6 rfl) ⟨0,rfl,fun _=>rfl,fun h=>absurd hy h⟩
 by_cases hn:p.vars.length≤64
 rotate_left
 ·have q1:(64:Int) < p.vars.length:=by omega
  simp [z64,zka,AV.rowok,hc1,hc2,hc3,l1,l2,l3,q1]
  exact no (fun h=>hn h.vars) _
 have q1:¬ (64:Int) < p.vars.length:=by omega
 by_cases hph:p.head.length≤8
 rotate_left
 ·have q2:(8:Int) < p.head.length:=by omega
  simp [z64,zka,AV.rowok,hc1,hc2,hc3,l1,l2,l3,q1,q2]
  exact no (fun h=>hph h.head) _
 have q2:¬ (8:Int) < p.head.length:=by omega
 have q3:p.vars.length≤140737488355328:=by omega
 simp [z64,zka,AV.rowok,hc1,hc2,hc3,l1,l2,l3,q1,q2,q3,z8,z26,splice]
 refine zg (fun k s=>∃ (j B1:Nat),j + k=p.steps.length∧zx2 p.vars.length true 0 (p.steps.take j)=some B1∧s.heap=[zw2 0 p.vars.length B1]∧s.dfr=[]∧s.tm.get 3=.sl 0 0 0 p.vars.length∧s.tm.get 1=.fptr false [vv,vs, .str p.pred,vh] 0∧s.tm.get 4=i64 j) p.steps.length
  ⟨0,0,by simp,by simp [zx2],by simp [zw2,zkv],rfl,by simp,by simp,by simp⟩ ?_
 rintro k s' Q ⟨j,B1,g0,g1,g2,g3,g4,g5,g6⟩ hn' hx
 by_cases hj:j < p.steps.length
 ·have hj':(j:Int) < p.steps.length:=by omega
  have hg:p.steps[j]? = some p.steps[j]:=by simp [hj]
  obtain ⟨fl',sv,hsv,hidx⟩:=IsL.idx h2 hg
  simp only [show Enc.sz Step=16 from rfl] at hidx
  have hat:=znp j hj B1 g1 _ hg
  have hwr:IntKind.i64.wrap ((j:Int) + 1)=((j + 1:Nat):Int):=by rw [z61 (by omega) (by omega)]; push_cast; rfl
  cases hB2:z05 p.vars.length B1 ((j:Int) == 0) p.steps[j] with
  | some B2=>
    rw [hB2] at hat
    have hst:=zzy 0 0 p.vars.length B1 B2 s'.heap ((j:Int) == 0) p.steps[j] sv hsv (by rw [g2]; rfl) hn hB2
    obtain ⟨cv,hcv,hsve⟩:=hsv
    have hcc:=zb hcv
    subst hsve
    simp [z77,g4,g5,g6,hc2,l2,hj',hidx,AV.rowok,hcc,hst]
    rw [hwr]
    refine hn' _ (k - 1) (by omega) ⟨j + 1,B2,by omega,hat,by simp [g2],g3,by simp [g4],by simp [g5],by simp⟩
  | none=>
    rw [hB2] at hat
    obtain ⟨B3,hst⟩:=z1z 0 0 p.vars.length B1 s'.heap ((j:Int) == 0) p.steps[j] sv hsv (by rw [g2]; rfl) hn hB2
    obtain ⟨cv,hcv,hsve⟩:=hsv
    have hcc:=zb hcv
    subst hsve
    simp [z77,g4,g5,g6,hc2,l2,hj',hidx,AV.rowok,hcc,hst]
    refine hx _ _ (by simp) ?_
    simp [g3]
    exact no (fun h=>by obtain ⟨B,B',o1,_⟩:=h.ok; exact z8k _ hat o1) _
 ·have hj':¬ (j:Int) < p.steps.length:=by omega
  simp [z77,g5,g6,hc2,l2,hj',AV.rowok]
  refine hx _ _ (by simp) ?_
  rw [List.take_of_length_le (by omega)] at g1
  simp
  refine zg (fun k s=>∃ (j:Nat),j + k=p.head.length∧z72 p.vars.length false false B1 (p.head.take j)=some B1∧s.heap=[zw2 0 p.vars.length B1]∧s.dfr=[]∧s.tm.get 3=.sl 0 0 0 p.vars.length∧s.tm.get 1=.fptr false [vv,vs, .str p.pred,vh] 0∧s.tm.get 5=i64 j) p.head.length
   ⟨0,by simp,by simp [z72],g2,g3,by simp [g4],by simp [g5],by simp⟩ ?_
  rintro k s2 Q ⟨j,f0,f00,f1,f2,f3,f4,f5⟩ hn' hx
  by_cases hj:j < p.head.length
  ·have hj':(j:Int) < p.head.length:=by omega
   have hg:p.head[j]? = some p.head[j]:=by simp [hj]
   obtain ⟨fl',sv,rfl,hidx⟩:=IsL.idx h3 hg
   simp only [show Enc.sz Col=5 from rfl] at hidx
   have hat:=zdi j hj B1 f00 _ hg
   have hwr:IntKind.i64.wrap ((j:Int) + 1)=((j + 1:Nat):Int):=by rw [z61 (by omega) (by omega)]; push_cast; rfl
   cases hB2:okCol p.vars.length B1 false false p.head[j] with
   | some B2=>
     have e4:=zj6 hB2
     subst e4
     rw [hB2] at hat
     have hst:=z9r 0 0 p.vars.length B2 B2 s2.heap p.head[j] (by rw [f1]; rfl) hn hB2
     simp only [Col.enc] at hst
     simp [z87,f3,f4,f5,hc3,l3,hj',hidx,AV.rowok,hst]
     rw [hwr]
     refine hn' _ (k - 1) (by omega) ⟨j + 1,by omega,hat,f1,f2,by simp [f3],by simp [f4],by simp⟩
   | none=>
     rw [hB2] at hat
     have hst:=zlv 0 0 p.vars.length B1 s2.heap p.head[j] (by rw [f1]; rfl) hn hB2
     simp only [Col.enc] at hst
     simp [z87,f3,f4,f5,hc3,l3,hj',hidx,AV.rowok,hst]
     refine hx _ _ (by simp) ?_
     simp [f2]
     refine no (fun h=>?_) _
     obtain ⟨B,B',o1,o2⟩:=h.ok
     rw [g1] at o1
     simp only [Option.some.injEq] at o1
     subst o1
     exact z7n _ hat o2
  ·have hj':¬ (j:Int) < p.head.length:=by omega
   rw [List.take_of_length_le (by omega)] at f00
   simp [z87,f4,f5,hc3,l3,hj',AV.rowok]
   refine hx _ _ (by simp) ?_
   simp [f1,f2]
   exact yes ⟨hn,hph,hpl,B1,B1,g1,f00⟩ _
theorem z6o (v:AV) (p:Plan) (h:Is v p) (hpl:p.steps.length < 2 ^ 40) (H:Heap):∃ w,callW tbl (.func zfd [] []) [v] H=some (w,H)∧∃ z,w=i64 z∧Says p z:=
 zg61 (f:=zfd) (af:=z64) (S:=fun w=>∃ z,w=i64 z∧Says p z) rfl rfl p (by rintro w ⟨z,rfl,h⟩; exact ⟨z,rfl,h⟩) (fun v h=>zdt v p h hpl) v h H
theorem z8n (v:AV) (p:Plan) (h:Is v p) (hpl:p.steps.length < 2 ^ 40) (H:Heap):∃ w,callW tbl (.func zpe [] []) [v] H=some (w,H)∧∃ z,w=i64 z∧Says p z:=
 zg61 (f:=zpe) (af:=zx4) (S:=fun w=>∃ z,w=i64 z∧Says p z) rfl rfl p (by rintro w ⟨z,rfl,h⟩; exact ⟨z,rfl,h⟩) (fun v h=>zbr v p h hpl) v h H
end Go.Abs.Plan
namespace Go.Abs.Plan
open Enc (Is)
variable {p:Plan} {old now:List RelOf} {delta:List Tup} {Hb:Heap} {a b c rels bnd:AV} {G:List Grp}
theorem zop {rowsF:Nat→Tup→List Tup} (hr:∀ i x t,t∈rowsF i x→TupOk t):∀ (ss:List Step) (i:Nat) (x:Tup),TupOk x→∀ t∈goL rowsF i ss x,TupOk t∧t.length=x.length
 | [],i,x,hx,t,ht=>by simp [goL] at ht; subst ht; exact ⟨hx,rfl⟩
 | s::ss,i,x,hx,t,ht=>by
   unfold goL at ht
   split at ht
   ·split at ht
    ·exact zop hr ss (i + 1) x hx t ht
    ·simp at ht
   ·split at ht
    ·split at ht
     ·simp at ht
     ·exact zop hr ss (i + 1) x hx t ht
    ·rw [List.mem_flatMap] at ht
     obtain ⟨t0,h0,ht⟩:=ht
     cases hag:z41 s.cols t0 x with
     | none=>rw [hag] at ht; simp at ht
     | some x'=>
       rw [hag] at ht
       simp only [Option.map_some,Option.getD_some] at ht
       obtain ⟨g1,g2⟩:=z7f hag (hr i x t0 h0).val hx
       obtain ⟨g3,g4⟩:=zop hr ss (i + 1) x' g1 t ht
       exact ⟨g3,by omega⟩
theorem zyd (M:List Tup):∀ (L:List Tup),L.Nodup→(addsT L M).Nodup∧(addsT L M).length≤L.length + M.length∧∀ t,t∈addsT L M↔t∈L∨t∈M:=by
 induction M with
 | nil=>intro L hL; exact ⟨hL,by simp [addsT],by simp [addsT]⟩
 | cons x M ih=>
   intro L hL
   have hx:(addT L x).Nodup∧(addT L x).length≤L.length + 1∧∀ t,t∈addT L x↔t∈L∨t=x:=by
    unfold addT
    split
    ·rename_i h
     exact ⟨hL,by omega,fun t=>⟨.inl,fun h'=>h'.elim id (fun e=>by rw [e]; exact h)⟩⟩
    ·rename_i h
     refine ⟨?_,by simp,by simp⟩
     rw [List.nodup_append]
     exact ⟨hL,by simp,fun a ha b hb=>by simp at hb; subst hb; exact fun e=>h (by rw [← e]; exact ha)⟩
   obtain ⟨h1,h2,h3⟩:=ih (addT L x) hx.1
   refine ⟨h1,by simp only [List.length_cons]; have:=hx.2.1; have:(addsT L (x::M))=addsT (addT L x) M:=rfl; rw [this]; omega,fun t=>?_⟩
   have:(addsT L (x::M))=addsT (addT L x) M:=rfl
   rw [this,h3,hx.2.2,List.mem_cons]
   constructor
   ·rintro ((h | h) | h)
    ·exact .inl h
    ·exact .inr (.inl h)
    ·exact .inr (.inr h)
   ·rintro (h | h | h)
    ·exact .inl (.inl h)
    ·exact .inl (.inr h)
    ·exact .inr h
def zl8 (p:Plan) (old now:List RelOf) (delta:List Tup):List Tup:=goL (zl1 p old now delta) 0 p.steps (zeros p.vars.length)
theorem zmv (mm:Nat) (H:Heap):callW tbl (.func zk2 [] []) [.map mm 0] H=some (.func zo [] [.fptr false [.map mm 0] 0],H):=by
 refine callB za1 rfl rfl rfl (fun F hF=>?_)
 simp [za1,zm2,AV.rowok]
 exact hF _ _ (ze rfl)
theorem zb21 (k:Nat) (hR:RunOk Hb p old now delta a b c rels bnd G) (fit:∀ s∈p.steps,z4n p.vars.length s) (hn:p.vars.length≤2 ^ 20) (hs:p.steps.length≤2 ^ 20) (hrel:∀ s∈p.steps,(relT s old now delta).length≤2 ^ 20∧∀ t∈relT s old now delta,TupOk t)
 (hrow:∀ i x t,t∈zl1 p old now delta i x→TupOk t) (hfew:(zl8 p old now delta).length≤2 ^ 30) :
 NW tblN (k + 5) (.func z4m [] []) [.func zw1 [] [.fptr false [.ptr 1 1 0 0] 0]] Hb (fun r H'=>r=relA (sortT (addsT [] (zl8 p old now delta)))∧H'=Hb):=by
 refine zap z9b rfl rfl rfl (fun F hF=>?_)
 simp [z9b,zcm,AV.rowok]
 rw [zom (op:=AOp.makeMap) rfl]
 simp [AV.rowok]
 refine zbi rfl (.func zw1 [] [.fptr false [.ptr 1 1 0 0] 0]) (by simp) rfl ?_
 simp
 have lr:=lt_of hR.run
 have hokd:HOK (Hb++[.map 0 [] 0]):=hR.hok.push (B:=.map 0 [] 0) rfl
 generalize htm:(((Tm.leaf.put 0 (AV.func zw1 [] [AV.fptr false [AV.ptr 1 1 0 0] 0])).put 2 AV.nilsl).put 3 (AV.fptr false [AV.map Hb.length 0] 0)).put 6 (AV.func zw1 [] [AV.fptr false [AV.ptr 1 1 0 0] 0])=tm
 have h3:tm.get 3=.fptr false [.map Hb.length 0] 0:=by rw [← htm]; simp
 have htu:tm.under (Hb.length + 2)=true:=by
  rw [← htm]
  refine zk8 (zk8 (zk8 (zk8 rfl ?_) rfl) ?_) ?_
  ·simp [AV.under,AV.unders]
  ·simp [AV.under,AV.unders]
  ·simp [AV.under,AV.unders]
 have X:z8j p old now delta Hb a b c rels bnd G (onceL tm) Hb.length 0 false (.yieldf (Hb.length + 2) 0):=⟨hR,rfl,zyy tm h3,fit,hn,hs,hrel⟩
 have hokH:HOK (Hb++[.map 0 (tEnts []) ([]:List Tup).length, .defr 0,onceL tm]):=by
  have e:Hb++[.map 0 (tEnts []) ([]:List Tup).length, .defr 0,onceL tm]=((Hb++[Blk.map 0 [] 0])++[Blk.defr 0])++[onceL tm]:=by simp [tEnts,tupL,sEnts]
  rw [e]
  exact (hokd.push (B:=.defr 0) rfl).push (B:=onceL tm) (by
   have:∀ n,Hb.length + 2≤n→tm.under n=true:=fun n hn=>znb hn _ htu
   simp [Blk.under]; exact this _ (by omega))
 have hall:=z821 [] (.defr 0) X _ rfl hokH ⟨rfl,rfl⟩ (by simp [AV.under])
 refine zc11 (zm1 subN hall) ?_
 have hfd:goL (zl1 p old now delta) 0 p.steps (zeros p.vars.length)=zl8 p old now delta:=rfl
 rw [hfd]
 obtain ⟨f1,f2,f3⟩:=zyd (zl8 p old now delta) [] List.nodup_nil
 have hto:∀ t∈addsT [] (zl8 p old now delta),t.length≤2 ^ 30:=fun t ht=>by
  have:=(f3 t).1 ht
  simp at this
  have:=(zop hrow p.steps 0 (zeros p.vars.length) (zok hn) t this).1.len
  omega
 generalize hLL:addsT [] (zl8 p old now delta)=L at *
 have hg2:(Hb++[Blk.map 0 (tEnts L) L.length, .defr 0,onceL tm])[Hb.length + 1 + 1]? = some (onceL tm):=by
  rw [List.getElem?_append_right (by omega)]; simp [show Hb.length + 1 + 1 - Hb.length=2 by omega]
 refine ⟨hg2,?_⟩
 have hset:(Hb++[Blk.map 0 (tEnts L) L.length, .defr 0,onceL tm]).set (Hb.length + 1 + 1) (.dead 1)=Hb++[Blk.map 0 (tEnts L) L.length, .defr 0, .dead 1]:=by
  rw [List.set_append_right _ _ (by omega)]; simp [show Hb.length + 1 + 1 - Hb.length=2 by omega]
 rw [hset]
 refine zr4 (zm1 subN (zmv _ _)) ?_
 simp
 have hok3:HOK (Hb++[Blk.map 0 (tEnts L) L.length, .defr 0, .dead 1]):=by
  have e:Hb++[Blk.map 0 (tEnts L) L.length, .defr 0, .dead 1]=((Hb++[Blk.map 0 (tEnts L) L.length])++[Blk.defr 0])++[.dead 1]:=by simp
  rw [e]
  exact ((hR.hok.push (B:=Blk.map 0 (tEnts L) L.length) (zxd _ _ _)).push (B:=.defr 0) rfl).push (B:=.dead 1) rfl
 refine zh8 (z6n k _ Hb.length L false (by simp) f1 (by simp at f2; omega) hto hok3) ?_
 rintro r H' ⟨rfl,rfl⟩
 simp
 refine hF _ _ ?_
 rw [show z9b.frz=true from rfl,zi9 hR.hok rfl (z6 (zlf _))]
 exact ⟨rfl,rfl⟩
end Go.Abs.Plan
namespace Go.Abs.Plan
open Enc (Is)
theorem zc21 {n B B':Nat} {w sk:Bool} {c:Col} (h:okCol n B w sk c=some B'):zkp n c:=by
 unfold okCol at h
 split at h
 ·exact .inl (by assumption)
 ·split at h
  ·exact .inr (.inl (by assumption))
  ·split at h
   ·split at h
    ·rename_i hc; exact .inr (.inr ⟨hc.2.1,hc.2.2.1⟩)
    ·simp at h
   ·split at h
    ·split at h
     ·rename_i hc; exact .inr (.inr ⟨hc.2.1,hc.2.2.1⟩)
     ·simp at h
    ·simp at h
theorem zcr {n B B':Nat} {c:Col} (h:okCol n B false false c=some B'):ColIn n c:=by
 unfold okCol at h
 split at h
 ·exact .inl (by assumption)
 ·split at h
  ·simp at h
  ·split at h
   ·simp at h
   ·split at h
    ·split at h
     ·rename_i hc; exact .inr ⟨hc.2.1,hc.2.2.1⟩
     ·simp at h
    ·simp at h
theorem z9j {n:Nat} {w sk:Bool}:∀ {cs:List Col} {B B':Nat},z72 n w sk B cs=some B'→∀ c∈cs,∃ B1 B2,okCol n B1 w sk c=some B2
 | [],B,B',h,c,hc=>by simp at hc
 | x::cs,B,B',h,c,hc=>by
   simp only [z72] at h
   split at h
   ·rename_i B1 h1
    rcases List.mem_cons.1 hc with rfl | hc
    ·exact ⟨B,B1,h1⟩
    ·exact z9j h c hc
   ·simp at h
theorem zzd {n:Nat}:∀ {ss:List Step} {f:Bool} {B B':Nat},zx2 n f B ss=some B'→∀ s∈ss,∃ B1 f1 B2,z05 n B1 f1 s=some B2
 | [],f,B,B',h,s,hs=>by simp at hs
 | x::ss,f,B,B',h,s,hs=>by
   simp only [zx2] at h
   split at h
   ·rename_i B1 h1
    rcases List.mem_cons.1 hs with rfl | hs
    ·exact ⟨B,f,B1,h1⟩
    ·exact zzd h s hs
   ·simp at h
theorem zpp {n B B':Nat} {f:Bool} {s:Step} (h:z05 n B f s=some B') (hv:∀ c∈s.cols,ValOk c.v):z4n n s:=by
 unfold z05 at h
 split at h
 ·rename_i h3
  split at h
  ·rename_i hc
   obtain ⟨_,hcols,_⟩:=hc
   split at h
   ·rename_i B1 h1
    exact ⟨by rw [hcols]; simp,by rw [hcols]; simp,hv,fun _=>⟨zcr h1,zcr h⟩⟩
   ·simp at h
  ·simp at h
 ·rename_i h3
  split at h
  ·rename_i hc
   exact ⟨by omega,fun c hc2=>by obtain ⟨B1,B2,h1⟩:=z9j h c hc2; exact zc21 h1,hv,fun h'=>absurd h' h3⟩
  ·simp at h
def za7 (p:Plan):Prop:=∀ s∈p.steps,∀ c∈s.cols,ValOk c.v
structure zs9 (old now:List RelOf) (delta:List Tup):Prop where
 old:zk6 old
 now:zk6 now
 dlt:delta.length≤2 ^ 20∧∀ t∈delta,TupOk t
theorem zs9.rel {old now:List RelOf} {delta:List Tup} (h:zs9 old now delta) (s:Step):(relT s old now delta).length≤2 ^ 20∧∀ t∈relT s old now delta,TupOk t:=by
 unfold relT
 split
 ·exact h.dlt
 ·split
  ·exact h.old.of _
  ·exact h.now.of _
theorem zs9.row {old now:List RelOf} {delta:List Tup} (h:zs9 old now delta) (p:Plan):∀ i x t,t∈zl1 p old now delta i x→TupOk t:=by
 intro i x t ht
 rw [zl1,expT,grpT] at ht
 split at ht
 ·simp at ht
 ·exact (h.rel _).2 t (List.mem_filter.1 ht).1
theorem z9n (H:Heap):callW tbl (.func zjc [] []) [.ptr 1 1 0 0] H=some (.func zw1 [] [.fptr false [.ptr 1 1 0 0] 0],H):=by
 refine callB zf6 rfl rfl rfl (fun F hF=>?_)
 simp [zf6,zmc,AV.rowok]
 exact hF _ _ (ze rfl)
theorem z5x {D:List Tup} {j:Nat} (h:j < D.length):idxA 1 (relA D) (.int .i64 (j:Int))=.val (.fptr false [tupA D[j]] 0):=by
 have hne:D≠[]:=by rintro rfl; simp at h
 have h0:(0:Int)≤(j:Int):=by omega
 have hg:(D.map tupA)[j]? = some (tupA D[j]):=by simp [h]
 unfold relA
 rw [if_neg hne]
 simp only [zow,h0,if_true,Int.toNat_natCast,hg]
 rfl
theorem zqp {H0 Hs:Heap} {v:AV} {D:List Tup} {k:Nat} (h:Acc H0 1 v Hs (D.map tupA)):reify Hs (k + 2) v=some (relA D):=by
 rcases h with ⟨h1,rfl,rfl⟩ | ⟨g,h1,rfl,rfl⟩
 ·have:D=[]:=by simpa using h1
  subst this
  exact zv5 rfl
 ·have:D≠[]:=by rintro rfl; exact h1 rfl
  have e:=zv8 (k:=k) (Hb:=H0++[.arr g 1 (D.map tupA)]) (id:=H0.length) (g:=g) (sz:=1) (off:=0) (len:=(D.map tupA).length) (R:=D.map tupA) (rows:=D.map tupA) (xs:=D) (by simp) (by simp) (by simp [List.take_of_length_le]) (zr6 (fun t=>zg4 t) D)
  rw [e]; simp [relA,this]
def bindL (p:Plan) (old now:List RelOf) (delta:List Tup):List Tup:=sortT (addsT [] (zl8 p old now delta))
theorem z9k (k:Nat) (p:Plan) (old now:List RelOf) (delta:List Tup) (vp vo vn vd:AV) (hp:Is vp p) (ho:Is vo old) (hnw:Is vn now) (hd:Is vd delta) (hs:p.steps.length≤2 ^ 20) (hv:za7 p) (ha:zs9 old now delta) (hfew:zu3 p→(zl8 p old now delta).length≤2 ^ 30) :
 NPURE (callW tblN) (NW tblN (k + 5)) zp3 [vp,vo,vn,vd] (fun r=>(zu3 p→r=.tuple [relA (bindL p old now delta),i64 0])∧(¬ zu3 p→r=.tuple [.nilsl,i64 180])):=by
 obtain ⟨a,b,c,hA,hB,hC,rfl⟩:=hp
 have ca:=zb hA
 have cb:=zb hB
 have cc:=zb hC
 obtain ⟨w,hchk,z,rfl,hz⟩:=z8n (.agg [a,b, .str p.pred,c]) p ⟨a,b,c,hA,hB,hC,rfl⟩ (by omega) []
 refine zn11 zp3 rfl (fun F hF=>?_)
 simp [zp3,zue,AV.rowok,ca,cb,cc]
 refine zr4 (zm1 subN hchk) ?_
 by_cases hok:zu3 p
 ·have hz0:=hz.1 hok
  subst hz0
  simp
  obtain ⟨B,B',hB1,hB2⟩:=hok.ok
  have hfit:∀ s∈p.steps,z4n p.vars.length s:=fun s hs=>by
   obtain ⟨B1,f1,B2,h1⟩:=zzd hB1 s hs
   exact zpp h1 (hv s hs)
  have hnv:p.vars.length≤2 ^ 20:=by have:=hok.vars; omega
  obtain ⟨H1,hnr,a1,b1,c1,rels,bnd,G,hR⟩:=z4o p old now delta (.agg [a,b, .str p.pred,c]) vo vn vd ⟨a,b,c,hA,hB,hC,rfl⟩ ho hnw hd hnv hs (fun s hs=>⟨(hfit s hs).len,fun c hc h=>by rcases (hfit s hs).col c hc with h' | h' | h'; omega; omega; exact h'⟩) ha.old ha.now ha.dlt
  refine zr4 (zm1 subN hnr) ?_
  simp
  refine zr4 (zm1 subN (z9n H1)) ?_
  simp
  refine zh8 (zb21 k hR hfit hnv hs (fun s _=>ha.rel s) (ha.row p) (hfew hok)) ?_
  rintro r H' ⟨rfl,rfl⟩
  have hbd:sortT (addsT [] (zl8 p old now delta))=bindL p old now delta:=rfl
  have hlen:(bindL p old now delta).length≤2 ^ 30:=by
   obtain ⟨f1,f2,f3⟩:=zyd (zl8 p old now delta) [] List.nodup_nil
   have h1:(bindL p old now delta).length≤(addsT [] (zl8 p old now delta)).length:=by
    classical exact za4 (z6i (zt4 _).1) (fun x hx=>((zt4 _).2 x).1 hx)
   have:=hfew hok
   simp at f2; omega
  rw [hbd]
  generalize bindL p old now delta=D at *
  simp [IsL.len (z2r D)]
  refine zsq ?_
  refine zb2 D.length (fun j s=>Acc H' 1 (s.tm.get 11) s.heap ((D.take j).map tupA)∧s.dfr=[]∧s.tm.get 25=relA D∧s.tm.get 26=i64 D.length∧s.tm.get 27=i64 j)
   0 (by omega) ⟨by simp; exact Acc.nil,by simp,by simp,by simp,by simp⟩ (by omega) (by rintro j s h; exact ⟨h.2.2.2.2,h.2.2.2.1⟩) ?_ ?_
  ·rintro j s B hj ⟨hacc,q2,f25,f26,f27⟩ hgo hx
   have hidx:=z5x hj
   have htk:D.take (j + 1)=D.take j++[D[j]]:=by rw [List.take_add_one,List.getElem?_eq_getElem hj]; rfl
   obtain ⟨v',Hs',hacc2,happ⟩:=hacc.one (call:=callW tblN) (lp:=loopW) (bytes:=24) (r:=tupA D[j]) (fl:=false) rfl (by simp; omega)
   have hro:AV.rowok 1 (tupA D[j])=true:=rfl
   simp [f25,f27,hidx,zr,hro]
   rw [happ _ _ _ _ _ _ _ (by simp)]
   simp
   refine hgo _ _ (.inl rfl) (by simp [f27]) ⟨?_,by simp [q2],by simp [f25],by simp [f26],by simp⟩
   rw [htk,List.map_append]; simpa using hacc2
  ·rintro s ⟨hacc,q2,f25,f26,f27⟩
   rw [List.take_length] at hacc
   simp [q2]
   have hre:reify s.heap zw (.tuple [s.tm.get 11,i64 0])=some (.tuple [relA D,i64 0]):=by
    by_cases hpl:(s.tm.get 11).plain=true
    ·have h1:=zqp (k:=10) hacc
     have h2:s.tm.get 11=relA D:=by
      have:=z6 (H:=s.heap) hpl
      unfold zw at this
      rw [h1] at this
      exact (Option.some.inj this).symm
     rw [h2]
     exact z6 (by simp [AV.plain,AV.plains,zlf])
    ·exact zzb (by simp [AV.plain,AV.plains,hpl]) (zqp (k:=9) hacc) (zv5 rfl)
   exact hF _ _ _ hre ⟨fun _=>rfl,fun h=>absurd hok h⟩
 ·have hz0:=hz.2 hok
  subst hz0
  simp
  exact hF _ _ _ (z6 rfl) ⟨fun h=>absurd h hok,fun _=>rfl⟩
end Go.Abs.Plan
namespace Go.Abs.Plan
open Enc (Is)
open Classical in
noncomputable def bindA (p:Plan) (old now:List RelOf) (delta:List Tup):AV:=if zu3 p then .tuple [relA (bindL p old now delta),i64 0] else .tuple [.nilsl,i64 180]
theorem zei (k:Nat) (p:Plan) (old now:List RelOf) (delta:List Tup) (vp vo vn vd:AV) (hp:Is vp p) (ho:Is vo old) (hnw:Is vn now) (hd:Is vd delta) (hs:p.steps.length≤2 ^ 20) (hv:za7 p) (ha:zs9 old now delta) (hfew:zu3 p→(zl8 p old now delta).length≤2 ^ 30) (H:Heap) :
 NW tblN (k + 6) (.func zl4 [] []) [vp,vo,vn,vd] H (fun r H'=>r=bindA p old now delta∧H'=H):=by
 have hun:(bindA p old now delta).unlent=true:=by
  unfold bindA
  split
  ·simp [AV.unlent,AV.unlents,zxm]
  ·rfl
 have conv:∀ r,((zu3 p→r=.tuple [relA (bindL p old now delta),i64 0])∧(¬ zu3 p→r=.tuple [.nilsl,i64 180]))→r=bindA p old now delta:=fun r h=>by
  unfold bindA
  split
  ·exact h.1 (by assumption)
  ·exact h.2 (by assumption)
 refine zo11 (af:=zp3) rfl rfl (by simp [AV.plains,Enc.plain hp,Enc.plain ho,Enc.plain hnw,Enc.plain hd]) ?_
 split
 ·refine zwc (z3a _) (z9k k p old now delta vp vo vn vd hp ho hnw hd hs hv ha hfew) ?_
  intro r h
  exact ⟨conv r h,rfl⟩
 ·refine zwc (z3a _) (z9k k p old now delta vp.lend vo.lend vn.lend vd.lend (Enc.lend hp) (Enc.lend ho) (Enc.lend hnw) (Enc.lend hd) hs hv ha hfew) ?_
  intro r h
  rw [conv r h,hun]
  simp
theorem zd21 (t:Tup) (ht:TupOk t) (v:AV) (H:Heap) (hv:TS H v t):callW tbl (.func z86 [] []) [v] H=some (.str (keyS t),H):=by
 obtain ⟨r,h,rfl⟩:=zwd (tbl:=tbl) (f:=z86) (af:=z29) rfl rfl (R:=fun a=>∃ w,a=[w]∧Is w t) (S:=fun r=>r=.str (keyS t)) (by rintro _ ⟨w,rfl,hw⟩; exact ⟨w.lend,rfl,Enc.lend hw⟩)
  (by rintro _ ⟨w,rfl,hw⟩; obtain ⟨r,h1,rfl⟩:=zr11 t ht w hw; exact ⟨_,h1,rfl,rfl⟩) [v] [tupA t] H (by simp [zx3,hv.reify]) ⟨_,rfl,zg4 t⟩
 exact h
def cntA (c:Counted):AV:=.agg [tupA c.t,i64 c.n]
theorem znv (c:Counted):Is (cntA c) c:=⟨_,zg4 c.t,rfl⟩
theorem zaj (c:Counted):(cntA c).plain=true:=Enc.plain (znv c)
structure Cnt where
 t:Tup
 n:Int
 id:Nat
def zl6 (C:List Cnt):List (ByteArray×AV):=C.map fun x=>(keyS x.t, .ptr x.id 0 0 0)
def cEnts (C:List Cnt):List MEnt:=sEnts (zl6 C) 0
structure CR (H:Heap) (C:List Cnt):Prop where
 map:H[0]? = some (.map 0 (cEnts C) C.length)
 blk:∀ x∈C,1≤x.id∧H[x.id]? = some (.arr 0 2 [.agg [tupA x.t,i64 x.n]])
 nid:(C.map (·.id)).Nodup
 nod:(C.map (·.t)).Nodup
 hok:HOK H
theorem zov {n m:Nat} {C:List Cnt} (h:∀ x∈C,x.id < n):Blk.under n (.map 0 (cEnts C) m)=true:=by
 have:∀ (C:List Cnt) (q:Nat),(∀ x∈C,x.id < n)→∀ e∈sEnts (zl6 C) q,(e.key.under n && e.val.under n)=true:=by
  intro C
  induction C with
  | nil=>intro q h e he; simp [zl6,sEnts] at he
  | cons x C ih=>
    intro q h e he
    simp only [zl6,List.map_cons,sEnts,List.mem_cons] at he
    rcases he with rfl | he
    ·simp [AV.under,h x (by simp)]
    ·exact ih (q + 1) (fun y hy=>h y (by simp [hy])) e he
 simp only [Blk.under,List.all_eq_true]
 exact this C 0 h
theorem zbj (t:Tup) (C:List Cnt):findE false [.str] (.str (keyS t)) (cEnts C) 0=some ((C.findIdx? (fun x=>decide (x.t=t))).map fun j=>(j,{ key:=.str (keyS t),val:=(C[j]?.map fun x=>AV.ptr x.id 0 0 0).getD .nilptr,born:=j })):=by
 unfold cEnts
 rw [zuc]
 have h:(zl6 C).findIdx? (fun m=>decide (keyS t=m.1))=C.findIdx? (fun x=>decide (x.t=t)):=by
  unfold zl6
  rw [List.findIdx?_map]
  congr 1
  funext x
  simp only [Function.comp]
  by_cases h:x.t=t
  ·subst h; simp
  ·have:keyS t≠keyS x.t:=fun e=>h (zzw e).symm
   simp [h,this]
 rw [h]
 cases hf:C.findIdx? (fun x=>decide (x.t=t)) with
 | none=>rfl
 | some j=>
   obtain ⟨hj,_⟩:=List.findIdx?_eq_some_iff_getElem.1 hf
   simp [zl6,hj]
def addC (C:List Cnt) (t:Tup) (id:Nat):List Cnt:=match C.findIdx? (fun x=>decide (x.t=t)) with
 | some j=>match C[j]? with
   | some x=>C.set j ⟨x.t,x.n + 1,x.id⟩
   | none=>C
 | none=>C++[⟨t,1,id⟩]
structure z0e (C:List Cnt) (M:List Tup):Prop where
 mem:∀ t,t∈C.map (·.t)↔t∈M
 cnt:∀ x∈C,x.n=(M.count x.t:Nat)
 nod:(C.map (·.t)).Nodup
theorem z0e.add {C:List Cnt} {M:List Tup} (h:z0e C M) (t:Tup) (id:Nat):z0e (addC C t id) (M++[t]):=by
 unfold addC
 cases hf:C.findIdx? (fun x=>decide (x.t=t)) with
 | none=>
   have hno:t∉C.map (·.t):=by
    intro hm
    obtain ⟨x,hx,hxt⟩:=List.mem_map.1 hm
    have:=List.findIdx?_eq_none_iff.1 hf x hx
    simp [hxt] at this
   have hnM:t∉M:=fun hm=>hno ((h.mem t).2 hm)
   refine ⟨fun u=>?_,fun x hx=>?_,?_⟩
   ·simp only [List.map_append,List.mem_append,h.mem u,List.map_cons,List.map_nil]
   ·rcases List.mem_append.1 hx with hx | hx
    ·have hne:x.t≠t:=fun e=>hno (List.mem_map.2 ⟨x,hx,e⟩)
     have:¬ t=x.t:=fun e=>hne e.symm
     rw [h.cnt x hx,List.count_append]
     simp [List.count_cons,this]
    ·simp at hx; subst hx
     rw [List.count_append,List.count_eq_zero_of_not_mem hnM]; simp
   ·rw [List.map_append,List.nodup_append]
    exact ⟨h.nod,by simp,fun a ha b hb=>by simp at hb; subst hb; exact fun e=>hno (by rw [← e]; exact ha)⟩
 | some j=>
   obtain ⟨hj,hjt,_⟩:=List.findIdx?_eq_some_iff_getElem.1 hf
   have hg:C[j]? = some C[j]:=by simp [hj]
   have hxt:C[j].t=t:=by simpa using hjt
   simp only [hg]
   have hts:(C.set j ⟨C[j].t,C[j].n + 1,C[j].id⟩).map (·.t)=C.map (·.t):=by
    rw [List.map_set]
    apply List.ext_getElem?
    intro i
    rw [List.getElem?_set]
    split
    ·rename_i e; subst e; simp [hj]
    ·rfl
   refine ⟨fun u=>?_,fun x hx=>?_,by rw [hts]; exact h.nod⟩
   ·rw [hts,h.mem u,List.mem_append]
    constructor
    ·exact .inl
    ·rintro (h' | h')
     ·exact h'
     ·simp at h'; subst h'; rw [← hxt]; exact (h.mem _).1 (List.mem_map.2 ⟨C[j],List.getElem_mem hj,rfl⟩)
   ·obtain ⟨i,hi,rfl⟩:=List.mem_iff_getElem.1 hx
    rw [List.getElem_set]
    split
    ·simp only
     rw [h.cnt _ (List.getElem_mem hj),hxt,List.count_append]; simp
    ·rename_i hne
     have hil:i < C.length:=by simpa using hi
     have hne2:C[i].t≠t:=by
      intro e
      have hp:=List.pairwise_iff_getElem.1 h.nod
      rcases Nat.lt_or_gt_of_ne hne with h' | h'
      ·exact hp j i (by simpa using hj) (by simpa using hil) h' (by simp [hxt,e])
      ·exact hp i j (by simpa using hil) (by simpa using hj) h' (by simp [hxt,e])
     have:¬ t=C[i].t:=fun e=>hne2 e.symm
     rw [h.cnt _ (List.getElem_mem hil),List.count_append]
     simp [List.count_cons,this]
end Go.Abs.Plan
namespace Go.Abs.Plan
open Enc (Is)
def k_inc:ACode:=(RR [mV 66 12,mV 67 18,uu 68 (.lookup false [.str] .nilptr (tt 66) (tt 67) false),uu 69 (.nilCheck (tt 68)),fA 70 1 69,lD 71 70,iC 72 71,uu 73 (.nilCheck (tt 68)),fA 74 1 73,nn (.store 1 (tt 74) (tt 72))])
def k_new:ACode:=(SS (RR [mV 57 12,mV 58 18,uu 59 (.lookup false [.str] .nilptr (tt 57) (tt 58) false),kk 60 (.bin .eql .ptr (tt 59) (.const .nilptr))])
 (.cond (tt 60) (RR [mV 61 12,mV 62 18,uu 63 (.frzM (tt 15)),uu 64 (.build [.nilsl,(.int .i64 0)] [(0,1,(tt 63))]),uu 65 (.box 2 (tt 64)),nn (.mapUpdate false [.str] (tt 61) (tt 62) (tt 65))]) .skip))
theorem zan {n:Nat} (t:Tup):AV.unders n (t.map Val.enc)=true:=z31 _ (z18 t)
theorem lookC (t:Tup) (C:List Cnt) {j:Nat} (h:C.findIdx? (fun x=>decide (x.t=t))=some j) (hj:j < C.length):zm6 false [.str] .nilptr (.str (keyS t)) false (cEnts C)=some (.ptr C[j].id 0 0 0):=by
 unfold zm6
 rw [zbj,h]
 simp [hj]
theorem z3z (t:Tup) (C:List Cnt) (h:C.findIdx? (fun x=>decide (x.t=t))=none):zm6 false [.str] .nilptr (.str (keyS t)) false (cEnts C)=some .nilptr:=by
 unfold zm6
 rw [zbj,h]
 rfl
theorem ze21 (C:List Cnt) (j:Nat) (x y:Cnt) (h:C[j]? = some x) (h1:y.t=x.t) (h2:y.id=x.id):cEnts (C.set j y)=cEnts C:=by
 obtain ⟨hj,rfl⟩:=List.getElem?_eq_some_iff.1 h
 have:zl6 (C.set j y)=zl6 C:=by
  unfold zl6
  rw [List.map_set]
  apply List.ext_getElem?
  intro i
  rw [List.getElem?_set]
  split
  ·rename_i e
   subst e
   simp [h1,h2,hj]
  ·rfl
 unfold cEnts; rw [this]
theorem zz71 {B:AExit→St→Prop} {ks:List KF} (s:St) (C:List Cnt) (t:Tup) {j:Nat} (hj:j < C.length) (hR:CR s.heap C) (hf:C.findIdx? (fun x=>decide (x.t=t))=some j) (hn:0≤C[j].n∧C[j].n≤2 ^ 40)
 (f12:s.tm.get 12=.map 0 0) (f18:s.tm.get 18=.str (keyS t)) (hgo:∀ H',CR H' (C.set j ⟨C[j].t,C[j].n + 1,C[j].id⟩)→s.heap.length≤H'.length→KONT (callW tblN) loopW ks .normal { s with heap:=H' } B) :
 EXEC (callW tblN) loopW k_inc ks s B:=by
 have k0:=ze1 hR.map
 have n0:=lt_of hR.map
 obtain ⟨b1,b2⟩:=hR.blk _ (List.getElem_mem hj)
 have kx:=ze1 b2
 have nx:=lt_of b2
 have hl:=lookC t C hf hj
 have hw:IntKind.i64.wrap (C[j].n + 1)=C[j].n + 1:=z61 (by omega) (by omega)
 have hg:C[j]? = some C[j]:=by simp [hj]
 unfold k_inc
 simp [f12,f18,k0,n0,hl,kx,nx,hw,tupA,zz,splice]
 refine hgo _ ⟨?_,fun x hx=>?_,?_,?_,hR.hok.set (by simp [Blk.under,AV.unders,AV.under,zan])⟩ (by simp)
 ·rw [ze21 C j C[j] ⟨C[j].t,C[j].n + 1,C[j].id⟩ hg rfl rfl,List.getElem?_set_ne (by omega)]; simpa using hR.map
 ·obtain ⟨i,hi,rfl⟩:=List.mem_iff_getElem.1 hx
  rw [List.getElem_set]
  split
  ·exact ⟨b1,by rw [List.getElem?_set_self nx]; rfl⟩
  ·rename_i hne
   have hil:i < C.length:=by simpa using hi
   obtain ⟨c1,c2⟩:=hR.blk _ (List.getElem_mem hil)
   refine ⟨c1,?_⟩
   rw [List.getElem?_set_ne]
   ·exact c2
   ·intro e
    have hp:=List.pairwise_iff_getElem.1 hR.nid
    rcases Nat.lt_or_gt_of_ne hne with h' | h'
    ·exact hp j i (by simpa using hj) (by simpa using hil) h' (by simp [e])
    ·exact hp i j (by simpa using hil) (by simpa using hj) h' (by simp [e])
 ·have:(C.set j ⟨C[j].t,C[j].n + 1,C[j].id⟩).map (·.id)=C.map (·.id):=by
   rw [List.map_set]; apply List.ext_getElem?; intro i; rw [List.getElem?_set]; split
   ·rename_i e; subst e; simp [hj]
   ·rfl
  rw [this]; exact hR.nid
 ·have:(C.set j ⟨C[j].t,C[j].n + 1,C[j].id⟩).map (·.t)=C.map (·.t):=by
   rw [List.map_set]; apply List.ext_getElem?; intro i; rw [List.getElem?_set]; split
   ·rename_i e; subst e; simp [hj]
   ·rfl
  rw [this]; exact hR.nod
theorem z081 {B:AExit→St→Prop} {ks:List KF} (s:St) (C:List Cnt) (t:Tup) {id g:Nat} (hR:CR s.heap C) (hB:s.heap[id]? = some (.arr g 3 (t.map Val.enc))) (hid:1≤id) (hfresh:∀ x∈C,x.id≠id)
 (f12:s.tm.get 12=.map 0 0) (f15:s.tm.get 15=.sl id g 0 t.length) (f18:s.tm.get 18=.str (keyS t)) (hgo:∀ H' v60,CR H' (if t∈C.map (·.t) then C else C++[⟨t,0,s.heap.length⟩])→s.heap.length≤H'.length→KONT (callW tblN) loopW ks .normal { s with tm:=s.tm.put 60 v60,heap:=H' } B) :
 EXEC (callW tblN) loopW k_new ks s B:=by
 have k0:=ze1 hR.map
 have n0:=lt_of hR.map
 have kb:=ze1 hB
 have nb:=lt_of hB
 have htk:List.take t.length (t.map Val.enc)=t.map Val.enc:=List.take_of_length_le (by simp)
 have hpl:=z18 t
 have heq:∀ i,binA .eql .ptr (.ptr i 0 0 0) .nilptr=some (.bool false):=fun _=>rfl
 have heq0:binA .eql .ptr .nilptr .nilptr=some (.bool true):=rfl
 unfold k_new
 cases hf:C.findIdx? (fun x=>decide (x.t=t)) with
 | some j=>
   obtain ⟨hj,hjt,_⟩:=List.findIdx?_eq_some_iff_getElem.1 hf
   have hmem:t∈C.map (·.t):=List.mem_map.2 ⟨C[j],List.getElem_mem hj,by simpa using hjt⟩
   have hl:=lookC t C hf hj
   simp [f12,f18,k0,n0,hl,heq]
   exact hgo _ _ (by rw [if_pos hmem]; exact hR) (Nat.le_refl _)
 | none=>
   have hmem:t∉C.map (·.t):=by
    intro hm
    obtain ⟨x,hx,hxt⟩:=List.mem_map.1 hm
    have:=List.findIdx?_eq_none_iff.1 hf x hx
    simp [hxt] at this
   have hl:=z3z t C hf
   have hfind:=zbj t C
   rw [hf] at hfind
   simp only [Option.map_none] at hfind
   have h0id:¬ 0=id:=by omega
   have h0id':¬ id=0:=by omega
   simp [f12,f15,f18,k0,n0,hl,heq0,kb,nb,zw3,htk,hpl,h0id,h0id',z26,z8,splice,AV.rowok,hfind]
   refine hgo _ _ ?_ (by simp)
   rw [if_neg hmem]
   have hlt:∀ x∈C,x.id < s.heap.length:=fun x hx=>lt_of (hR.blk x hx).2
   refine ⟨?_,fun x hx=>?_,?_,?_,?_⟩
   ·rw [List.getElem?_append_left (by simpa using n0),List.getElem?_set_self (by simpa using n0)]
    have:cEnts (C++[⟨t,0,s.heap.length⟩])=cEnts C++[{ key:=.str (keyS t),val:=.ptr s.heap.length 0 0 0,born:=C.length }]:=by
     unfold cEnts
     have e:zl6 (C++[⟨t,0,s.heap.length⟩])=zl6 C++[(keyS t, .ptr s.heap.length 0 0 0)]:=by simp [zl6]
     rw [e,zvc]; simp [zl6]
    rw [this]; simp
   ·rcases List.mem_append.1 hx with hx | hx
    ·obtain ⟨c1,c2⟩:=hR.blk x hx
     have:=hlt x hx
     have hne:=hfresh x hx
     refine ⟨c1,?_⟩
     rw [List.getElem?_append_left (by simpa using this),List.getElem?_set_ne (by omega),List.getElem?_set_ne (fun e=>hne e.symm)]
     exact c2
    ·simp at hx; subst hx
     refine ⟨by simp only; omega,?_⟩
     rw [List.getElem?_append_right (by simp)]; simp [tupA]
   ·rw [List.map_append,List.nodup_append]
    refine ⟨hR.nid,by simp,fun u hu v hv=>?_⟩
    obtain ⟨x,hx,rfl⟩:=List.mem_map.1 hu
    simp at hv; subst hv
    have:=hlt x hx
    omega
   ·rw [List.map_append,List.nodup_append]
    exact ⟨hR.nod,by simp,fun u hu v hv=>by simp at hv; subst hv; exact fun e=>hmem (by rw [← e]; exact hu)⟩
   ·have e:cEnts (C++[⟨t,0,s.heap.length⟩])=cEnts C++[{ key:=.str (keyS t),val:=.ptr s.heap.length 0 0 0,born:=C.length }]:=by
     unfold cEnts
     have e:zl6 (C++[⟨t,0,s.heap.length⟩])=zl6 C++[(keyS t, .ptr s.heap.length 0 0 0)]:=by simp [zl6]
     rw [e,zvc]; simp [zl6]
    rw [← e]
    have h1:HOK (s.heap++[Blk.arr 0 2 [.agg [.fsl false (t.map Val.enc), .int .i64 0]]]):=hR.hok.push (B:=Blk.arr 0 2 [.agg [.fsl false (t.map Val.enc), .int .i64 0]]) (by simp [Blk.under,AV.unders,AV.under,zan])
    have h2:=(h1.set (b:=id) (B:=.dead g) rfl).set (b:=0) (B:=.map 0 (cEnts (C++[⟨t,0,s.heap.length⟩])) (C.length + 1)) (zov (fun x hx=>by
     rcases List.mem_append.1 hx with hx | hx
     ·have:=hlt x hx; simp; omega
     ·simp at hx; subst hx; simp))
    have e2:((s.heap++[Blk.arr 0 2 [.agg [.fsl false (t.map Val.enc), .int .i64 0]]]).set id (.dead g)).set 0 (.map 0 (cEnts (C++[⟨t,0,s.heap.length⟩])) (C.length + 1))=(s.heap.set id (.dead g)).set 0 (.map 0 (cEnts (C++[⟨t,0,s.heap.length⟩])) (C.length + 1))++[Blk.arr 0 2 [.agg [.fsl false (t.map Val.enc), .int .i64 0]]]:=by
     rw [List.set_append_left _ _ nb,List.set_append_left _ _ (by simpa using n0)]
    rw [e2] at h2
    exact h2
end Go.Abs.Plan
namespace Go.Abs.Plan
open Enc (Is)
open Go.Sort (SWO)
abbrev CntB:={ c:Counted // c.t.length≤2 ^ 30 }
instance:Inhabited CntB:=⟨⟨⟨[],0⟩,by simp⟩⟩
def CmpC (fv:AV):Prop:=∀ (c d:Counted),c.t.length≤2 ^ 30→d.t.length≤2 ^ 30→∀ H,callW tbl fv [cntA c,cntA d] H=some (.int .i64 (tcmp c.t d.t),H)
def envC (fv:AV) (h:CmpC fv):Sort.Env tbl CntB where
 I:=idsC
 ag:=true
 sz:=2
 row x:=cntA x.1
 fv:=fv
 cmp x y:=tcmp x.1.t y.1.t
 laid:=laidC
 rowok:=fun _=>rfl
 part:=fun _=>rfl
 plain:=fun x=>zaj x.1
 call:=fun x y H=>h x.1 y.1 x.2 y.2 H
theorem swoC (fv:AV) (h:CmpC fv):SWO (envC fv h).lt:=
 zi61 (c:=fun x y:CntB=>tcmp x.1.t y.1.t) (fun a=>TLt.irrefl a.1.t) (fun a b d=>z08 a.1.t b.1.t d.1.t) (fun a b d=>zug a.1.t b.1.t d.1.t)
theorem z4z (fv:AV) (h:CmpC fv) (H:Heap) (hok:HOK H) (id g:Nat) (l:List Counted) (hl0:∀ t∈l,t.t.length≤2 ^ 30) (hb:H[id]? = some (.arr g 2 (l.map cntA))) (hl:l.length < 2 ^ 40) :
 ∃ l':List Counted,callW tbl (.func zs1 [] []) [.sl id g 0 l.length,fv] H=some (.tuple [],H.set id (.arr g 2 (l'.map cntA)))∧l'.Perm l∧l'.Pairwise fun a b=>¬ TLt b.t a.t:=by
 have hlt:=lt_of hb
 obtain ⟨L,rfl⟩:∃ L:List CntB,l=L.map (·.1):=⟨l.pmap Subtype.mk hl0,by rw [List.map_pmap]; simp⟩
 have hsz:L.toArray.size=L.length:=by simp
 have hll:(L.map (·.1)).length=L.length:=by simp
 rw [hll] at hl ⊢
 have hbl:Go.Sort.bitsLen L.length≤60:=(Go.Sort.bitsLen_le_iff _ 60).2 (by omega)
 obtain ⟨D,hc,hP,hS⟩:=Go.Abs.Sort.pdq_call (envC fv h) (swoC fv h) id g H hok hlt L.toArray (by omega) (Go.Sort.bitsLen L.length) (by omega)
 have hrows:(L.map (·.1)).map cntA=(envC fv h).rws L.toArray:=by simp [Sort.Env.rws,envC]
 have hset:H.set id ((envC fv h).blk g L.toArray)=H:=set_same (by rw [hb,hrows]; rfl)
 rw [hset,hsz] at hc
 have hDs:D.size=L.length:=by rw [hP.1]; simp
 refine ⟨D.toList.map (·.1),?_,?_,?_⟩
 ·have hlen:=Go.Abs.Sort.len_call laidC L.length (by omega)
  have w1:IntKind.u64.wrap (L.length:Int)=(L.length:Int):=Go.Abs.Sort.wrapU rfl (by omega)
  refine callB z71 rfl rfl rfl (fun F hF=>?_)
  have hlen':callW tbl (.func z33 [] []) [.int .u64 (L.length:Int)] H=some (.int .i64 ((Go.Sort.bitsLen L.length:Nat):Int),H):=hlen H
  have hc':callW tbl (.func z12 [] []) [.sl id g 0 L.length, .int .i64 0, .int .i64 (L.length:Int), .int .i64 ((Go.Sort.bitsLen L.length:Nat):Int),fv] H=some (.tuple [],H.set id ((envC fv h).blk g D)):=hc
  have hfin:H.set id ((envC fv h).blk g D)=H.set id (.arr g 2 ((D.toList.map (·.1)).map cntA)):=by
   have:(D.toList.map (·.1)).map cntA=(envC fv h).rws D:=by simp [Sort.Env.rws,envC]
   rw [this]; rfl
  rw [hfin] at hc'
  have hlen2:(H.set id (.arr g 2 ((D.toList.map (·.1)).map cntA))).length=H.length:=by simp
  generalize H.set id (.arr g 2 ((D.toList.map (·.1)).map cntA))=H2 at hc' hF hlen2
  simp [z71,zl2,w1,hlen',hc']
  exact hF _ _ (ze hlen2.symm)
 ·obtain ⟨_,_,hperm⟩:=hP
  have e1:D.extract 0 L.toArray.size=D:=by rw [hsz,← hDs]; exact Array.extract_size
  rw [e1,Array.extract_size] at hperm
  exact List.Perm.map _ hperm
 ·rw [List.pairwise_map,List.pairwise_iff_getElem]
  intro i j hi hj hij hlt
  have hi':i < D.size:=by simpa using hi
  have hj':j < D.size:=by simpa using hj
  have:=hS i j (Nat.zero_le _) hij (by rw [hsz,← hDs]; exact hj')
  rw [getElem!_pos D j hj',getElem!_pos D i hi'] at this
  have h2:(envC fv h).lt D[j] D[i]=true:=decide_eq_true hlt
  rw [this] at h2
  cases h2
theorem zf21 (fv:AV) (H:Heap):callW tbl (.func zs1 [] []) [.nilsl,fv] H=some (.tuple [],H):=by
 refine callB z71 rfl rfl rfl (fun F hF=>?_)
 have hlen:callW tbl (.func z33 [] []) [.int .u64 0] H=some (.int .i64 0,H):=Go.Abs.Sort.len_call laidC 0 (by omega) H
 have hp:callW tbl (.func z12 [] []) [.nilsl, .int .i64 0, .int .i64 0, .int .i64 0,fv] H=some (.tuple [],H):=Go.Abs.Sort.pdq_nil laidC _ 0 H
 have w1:IntKind.u64.wrap 0=0:=by decide
 simp [z71,zl2,w1,hlen,hp]
 exact hF _ _ (ze rfl)
theorem za51:CmpC (.func zpb [] []):=by
 intro c d hc hd H
 obtain ⟨r,h1,rfl⟩:∃ r,zy (callW tbl) loopW zw7 [cntA c,cntA d]=some r∧r=i64 (tcmp c.t d.t):=by
  refine pureK zw7 rfl (fun F hF=>?_)
  have h1:=zi8 c.t d.t (tupA c.t) (tupA d.t) (zg4 c.t) (zg4 d.t) (by omega) (by omega) []
  have hr:∀ c:Counted,AV.rowok 2 (cntA c)=true:=fun _=>rfl
  have hcl:∀ c:Counted,(cntA c).cells=[tupA c.t,i64 c.n]:=fun _=>rfl
  simp [zw7,zxj,hr,hcl,h1]
  exact hF _ _ _ (z6 rfl) rfl
 exact Go.Abs.Sort.pureA (f:=zpb) (af:=zw7) rfl rfl (by simp [AV.plains,zaj]) (by simp [AV.unlents,AV.unlent,cntA,tupA,zk7]) h1 H
end Go.Abs.Plan
namespace Go.Abs.Plan
open Enc (Is)
def headT (p:Plan) (x:Tup):Tup:=p.head.map fun c=>zo1 c x
def zu4 (M:List Tup):List Counted:=(sortT M).map fun t=>⟨t,(M.count t:Nat)⟩
def relC (D:List Counted):AV:=if D=[] then .nilsl else .fsl false (D.map cntA)
theorem CR.push {H:Heap} {C:List Cnt} (h:CR H C) (B:Blk) (hB:B.under (H.length + 1)=true):CR (H++[B]) C:=by
 refine ⟨?_,fun x hx=>⟨(h.blk x hx).1,?_⟩,h.nid,h.nod,h.hok.push hB⟩
 ·rw [List.getElem?_append_left (lt_of h.map)]; exact h.map
 ·rw [List.getElem?_append_left (lt_of (h.blk x hx).2)]; exact (h.blk x hx).2
theorem z181 (C:List Cnt) (t:Tup) (id:Nat):∃ j,∃ hj:j < (if t∈C.map (·.t) then C else C++[⟨t,0,id⟩]).length,(if t∈C.map (·.t) then C else C++[⟨t,0,id⟩]).findIdx? (fun x=>decide (x.t=t))=some j ∧
 (if t∈C.map (·.t) then C else C++[⟨t,0,id⟩]).set j ⟨(if t∈C.map (·.t) then C else C++[⟨t,0,id⟩])[j].t,(if t∈C.map (·.t) then C else C++[⟨t,0,id⟩])[j].n + 1,(if t∈C.map (·.t) then C else C++[⟨t,0,id⟩])[j].id⟩=addC C t id ∧
 ((if t∈C.map (·.t) then C else C++[⟨t,0,id⟩])[j].n=0∨(if t∈C.map (·.t) then C else C++[⟨t,0,id⟩])[j]∈C):=by
 unfold addC
 cases hf:C.findIdx? (fun x=>decide (x.t=t)) with
 | some j=>
   obtain ⟨hj,hjt,_⟩:=List.findIdx?_eq_some_iff_getElem.1 hf
   have hmem:t∈C.map (·.t):=List.mem_map.2 ⟨C[j],List.getElem_mem hj,by simpa using hjt⟩
   simp only [if_pos hmem]
   exact ⟨j,hj,hf,by simp [hj], .inr (List.getElem_mem hj)⟩
 | none=>
   have hmem:t∉C.map (·.t):=by
    intro hm
    obtain ⟨x,hx,hxt⟩:=List.mem_map.1 hm
    have:=List.findIdx?_eq_none_iff.1 hf x hx
    simp [hxt] at this
   simp only [if_neg hmem]
   refine ⟨C.length,by simp,?_,?_, .inl (by simp)⟩
   ·rw [List.findIdx?_append,hf]; simp [List.findIdx?_cons]
   ·simp
theorem zb51 {p:Plan} {D:List Tup} {fl:Bool} {a b c:AV} (hC:Is c p.head) (hh:p.head.length≤2 ^ 20) (hin:∀ x∈D,∀ cc∈p.head,ColIn x.length cc) (hok:∀ x∈D,TupOk (headT p x)) (hD:D.length≤2 ^ 30) {R:AExit→St→Prop} {ks:List KF} (s:St)
 (hR:CR s.heap []) (f4:s.tm.get 4=.fptr fl [a,b, .str p.pred,c] 0) (f12:s.tm.get 12=.map 0 0) (f34:s.tm.get 34=relA D) (f35:s.tm.get 35=i64 D.length) (f36:s.tm.get 36=i64 0) (q:s.dfr=[])
 (hexit:∀ (s':St) (C:List Cnt),CR s'.heap C→z0e C (D.map (headT p))→s'.dfr=[]→s'.tm.get 12=.map 0 0→KONT (callW tblN) loopW ks (.exit 0) s' R) :
 EXEC (callW tblN) loopW (.loop zth) ks s R:=by
 have ccl:=zb hC
 refine zb2 D.length (fun j s=>∃ C,CR s.heap C∧z0e C ((D.take j).map (headT p))∧s.dfr=[]∧s.tm.get 4=.fptr fl [a,b, .str p.pred,c] 0∧s.tm.get 12=.map 0 0∧s.tm.get 34=relA D∧s.tm.get 35=i64 D.length∧s.tm.get 36=i64 j)
  0 (by omega) ⟨[],hR,⟨by simp,by simp,by simp⟩,q,f4,f12,f34,f35,by simpa using f36⟩ (by omega) (by rintro j s ⟨C,h⟩; exact ⟨h.2.2.2.2.2.2.2,h.2.2.2.2.2.2.1⟩) ?_ ?_
 ·clear hR f4 f12 f34 f35 f36 q
  rintro j s B hj ⟨C,hR,hCo,q,f4,f12,f34,f35,f36⟩ hgo hx
  have hidx:=z5x hj
  have hgj:D[j]? = some D[j]:=by simp [hj]
  have htk:D.take (j + 1)=D.take j++[D[j]]:=by rw [List.take_add_one,hgj]; rfl
  have hinj:=hin _ (List.getElem_mem hj)
  have hokj:=hok _ (List.getElem_mem hj)
  have hml:((D.take j).map (headT p)).length≤2 ^ 30:=by simp; omega
  generalize D[j]=x at *
  obtain ⟨t,ht⟩:∃ t,t=headT p x:=⟨_,rfl⟩
  rw [← ht] at hokj
  have htl:t.length=p.head.length:=by rw [ht]; simp [headT]
  have hlt0:0 < s.heap.length:=lt_of hR.map
  change EXEC (callW tblN) loopW (SS (RR [iX 38 1 34 36,lD 39 38,kM 14 39])
 (SS (RR [uu 40 (.buildSlice (.agg [(.int .i64 0),(.int .i64 0),(.str ⟨#[]⟩)]) 0 []),kM 15 40])
 (SS (SS (RR [fA 41 3 4,kk 42 (.load false 1 (tt 41)),kk 43 (.len .slice (tt 42)),kk 44 (.move (ii 0))])
 (.block 2 (.loop zsh)))
 (SS (RR [mV 55 15,uu 56 (.call (.func z86) [(tt 55)]),kM 18 56])
 (SS k_new k_inc))))) [] _ B
  simp [f4,f34,f36,hidx,ccl,IsL.len hC,zr]
  refine zb2 p.head.length (fun i s'=>∃ g,s'.heap=s.heap++[.arr g 3 ((t.take i).map Val.enc)]∧s'.tm.get 15=.sl s.heap.length g 0 i∧s'.dfr=[]∧s'.tm.get 4=.fptr fl [a,b, .str p.pred,c] 0∧s'.tm.get 12=.map 0 0∧s'.tm.get 14=tupA x∧s'.tm.get 34=relA D∧s'.tm.get 35=i64 D.length∧s'.tm.get 36=i64 j∧s'.tm.get 42=c∧s'.tm.get 43=i64 p.head.length∧s'.tm.get 44=i64 i)
   0 (by omega) ⟨0,by simp,by simp,by simp [q],by simp [f4],by simp [f12],by simp,by simp [f34],by simp [f35],by simp [f36],by simp,by simp,by simp⟩ (by omega) (by rintro i s ⟨g,h⟩; exact ⟨h.2.2.2.2.2.2.2.2.2.2.2,h.2.2.2.2.2.2.2.2.2.2.1⟩) ?_ ?_
  ·rintro i s' B' hi ⟨g,hH,e15,e0,e4,e12,e14,e34,e35,e36,e42,e43,e44⟩ hgo' hx'
   have hgi:p.head[i]? = some p.head[i]:=by simp [hi]
   obtain ⟨fl',cv,rfl,hidc⟩:=IsL.idx hC hgi
   simp only [show Enc.sz Col=5 from rfl] at hidc
   have hval:=zm1 subN (z451 p.head[i] x (tupA x) s'.heap (zg4 x) (hinj _ (List.getElem_mem hi)))
   have hti:t[i]? = some (zo1 p.head[i] x):=by rw [ht]; simp [headT,hi]
   have htk2:t.take (i + 1)=t.take i++[zo1 p.head[i] x]:=by rw [List.take_add_one,hti]; rfl
   have hb:s'.heap[s.heap.length]? = some (.arr g 3 ((t.take i).map Val.enc)):=by rw [hH]; simp
   have kb:=ze1 hb
   have nb:=lt_of hb
   have hroom:(i + 1) * 32≤140737488355328:=by omega
   have hno2:¬ (i + 1≤i):=by omega
   have hmin:min i t.length=i:=by omega
   generalize p.head[i]=cx at *
   generalize hvv:zo1 cx x=vv at *
   have hset:∀ X,s'.heap.set s.heap.length X=s.heap++[X]:=fun X=>by rw [hH]; simp
   have htake:List.take i ((t.take i).map Val.enc)=(t.take i).map Val.enc:=List.take_of_length_le (by simp; omega)
   have hro:AV.rowok 3 vv.enc=true:=rfl
   simp [e14,e15,e42,e44,hidc,AV.rowok,hval,zr,zh1,zi1,room,kb,nb,hroom,hmin,hset,hno2,List.take_take]
   refine hgo' _ _ (.inl rfl) (by simp [e44]) ⟨g + 1,?_,by simp,by simp [e0],by simp [e4],by simp [e12],by simp [e14],by simp [e34],by simp [e35],by simp [e36],by simp [e42],by simp [e43],by simp⟩
   rw [htk2]; simp
  ·rintro s' ⟨g,hH,e15,e0,e4,e12,e14,e34,e35,e36,e42,e43,e44⟩
   rw [← htl,List.take_length] at hH
   rw [← htl] at e15
   have hb:s'.heap[s.heap.length]? = some (.arr g 3 (t.map Val.enc)):=by rw [hH]; simp
   have hkey:=zm1 subN (zd21 t hokj (.sl s.heap.length g 0 t.length) s'.heap ⟨s.heap.length,g,rfl,hb⟩)
   have hR1:CR s'.heap C:=by rw [hH]; exact hR.push _ (z31 _ (z18 t))
   have hlt:∀ x∈C,x.id < s.heap.length:=fun x hx=>lt_of (hR.blk x hx).2
   simp [e15,hkey]
   refine z081 (id:=s.heap.length) (g:=g) _ C t (by simpa using hR1) (by simpa using hb) (by omega) (fun x hx=>by have:=hlt x hx; omega) (by simp [e12]) (by simp [e15]) (by simp) (fun H' v60 hR2 hle=>?_)
   simp
   obtain ⟨jj,hjj,hf,hset,hn⟩:=z181 C t s'.heap.length
   have hcn:∀ x∈C,0≤x.n∧x.n≤2 ^ 30:=fun x hx=>by
    have h1:=hCo.cnt x hx
    have h2:=List.count_le_length (a:=x.t) (l:=(D.take j).map (headT p))
    omega
   have hCo2:=hCo.add t s'.heap.length
   have hM:(D.take (j + 1)).map (headT p)=(D.take j).map (headT p)++[t]:=by rw [htk,List.map_append,ht]; rfl
   rw [← hM] at hCo2
   refine zz71 _ _ t hjj (by simpa using hR2) hf ?_ (by simp [e12]) (by simp) (fun H'' hR3 hle2=>?_)
   ·rcases hn with h | h
    ·rw [h]; omega
    ·have:=hcn _ h; omega
   ·rw [hset] at hR3
    simp
    refine hgo _ _ (.inl rfl) (by simp [e36]) ⟨addC C t s'.heap.length,hR3,hCo2,by simp [e0],by simp [e4],by simp [e12],by simp [e34],by simp [e35],by simp⟩
 ·rintro s ⟨C,hR,hCo,q,f4,f12,f34,f35,f36⟩
  rw [List.take_length] at hCo
  exact hexit _ C (by simpa using hR) hCo (by simp [q]) (by simp [f12])
end Go.Abs.Plan
namespace Go.Abs.Plan
open Enc (Is)
def Cnt.cn (x:Cnt):Counted:=⟨x.t,x.n⟩
def cntE (C:List Cnt) (e:MEnt):Counted:=((C[e.born]?).map Cnt.cn).getD default
theorem zdr:∀ (C:List Cnt) (q:Nat) (e:MEnt),e∈sEnts (zl6 C) q→∃ j,∃ hj:j < C.length,e.val=.ptr C[j].id 0 0 0∧e.born=q + j
 | [],q,e,h=>by simp [zl6,sEnts] at h
 | x::C,q,e,h=>by
   simp only [zl6,List.map_cons,sEnts,List.mem_cons] at h
   rcases h with rfl | h
   ·exact ⟨0,by simp,rfl,rfl⟩
   ·obtain ⟨j,hj,h1,h2⟩:=zdr C (q + 1) e h
    exact ⟨j + 1,by simpa using hj,by simpa using h1,by omega⟩
theorem zcj (C:List Cnt):((cEnts C).map (·.born)).Nodup∧((cEnts C).map (·.born))=List.range' 0 C.length:=by
 have:∀ (l:List (ByteArray×AV)) (i:Nat),(sEnts l i).map (·.born)=List.range' i l.length:=by
  intro l
  induction l with
  | nil=>intro i; rfl
  | cons a l ih=>intro i; simp only [sEnts,List.map_cons,ih,List.length_cons,List.range'_succ]
 have h2:((cEnts C).map (·.born))=List.range' 0 C.length:=by unfold cEnts; rw [this]; simp [zl6]
 exact ⟨by rw [h2]; exact List.nodup_range',h2⟩
theorem z6x (C:List Cnt):(cEnts C).map (cntE C)=C.map Cnt.cn:=by
 have h:=(zcj C).2
 have e:(cEnts C).map (cntE C)=((cEnts C).map (·.born)).map (fun q=>((C[q]?).map Cnt.cn).getD default):=by rw [List.map_map]; rfl
 rw [e,h]
 apply List.ext_getElem
 ·simp
 ·intro i h1 h2
  simp at h1
  simp [h1]
theorem zg21 (C:List Cnt):(cEnts C).length=C.length:=by
 have:=congrArg List.length (z6x C); simpa using this
theorem zfi {C:List Cnt} {M:List Tup} {D:List Counted} (h:z0e C M) (hp:D.Perm (C.map Cnt.cn)) (hs:D.Pairwise fun a b=>¬ TLt b.t a.t):D=zu4 M:=by
 have hpt:(D.map (·.t)).Perm (C.map (·.t)):=by
  have:=hp.map (·.t)
  rw [List.map_map] at this
  exact this
 have hn:(D.map (·.t)).Nodup:=hpt.nodup_iff.2 h.nod
 have hst:(D.map (·.t)).Pairwise fun a b=>¬ TLt b a:=by rw [List.pairwise_map]; exact hs
 have hstr:(D.map (·.t)).Pairwise TLt:=by
  refine (List.Pairwise.and hst hn).imp (fun {a b} h=>?_)
  rcases TLt.tri a b with k | k | k
  ·exact k
  ·exact absurd k h.2
  ·exact absurd k h.1
 have e1:D.map (·.t)=sortT M:=z1r hstr (fun y=>by rw [hpt.mem_iff,h.mem])
 have e2:D=(D.map (·.t)).map fun t=>⟨t,(M.count t:Nat)⟩:=by
  rw [List.map_map]
  conv=>lhs; rw [← List.map_id D]
  apply List.map_congr_left
  intro x hx
  obtain ⟨y,hy,rfl⟩:=List.mem_map.1 (hp.mem_iff.1 hx)
  have:=h.cnt y hy
  simp [Cnt.cn,this]
 rw [e2,e1]; rfl
theorem zpv (D:List Counted):AV.plains (D.map cntA)=true:=by
 induction D with
 | nil=>rfl
 | cons x D ih=>simp [AV.plains,zaj] at ih ⊢; exact ih
theorem zqv (D:List Counted):(relC D).unlent=true:=by
 unfold relC
 split
 ·rfl
 ·have:∀ l:List Counted,AV.unlents (l.map cntA)=true:=by
   intro l
   induction l with
   | nil=>rfl
   | cons x l ih=>simp [AV.unlents,AV.unlent,cntA,tupA,zk7] at ih ⊢; exact ih
  simpa [AV.unlent] using this D
theorem z281 (D:List Counted):Is (relC D) D:=by
 unfold relC
 split
 ·rename_i h; subst h; exact IsL.nil
 ·exact IsL.fsl (zr6 (fun c=>znv c) D)
theorem zc51 {C:List Cnt} {M:List Tup} (k:Nat) (s:St) (F:AV→Heap→Prop) (hR:CR s.heap C) (hCo:z0e C M) (hlen:C.length≤2 ^ 30) (htl:∀ x∈C,x.t.length≤2 ^ 30) (q:s.dfr=[]) (f12:s.tm.get 12=.map 0 0)
 (hF:∀ v H',reify H' zw v=some (.tuple [relC (zu4 M),i64 0])→F v H') :
 NEX tblN k (SS (RR [kk 19 (.move (.const .nilsl))])
 (SS (SS (RR [mV 76 12,kk 77 (.rangeM (tt 76))])
 (.block 4 (.loop zkd)))
 (SS (RR [mV 88 19,uu 89 (.call (.func zs1) [(tt 88),(.func zpb)])])
 (SS (RR [mV 90 19,kM 8 90,kk 9 (.move (ii 0))])
 .ret)))) [] s (FINQ [.tmp 8, .tmp 9] F):=by
 obtain ⟨H,hHe⟩:∃ H,H=s.heap:=⟨_,rfl⟩
 rw [← hHe] at hR
 have hH:=hR.hok
 have l0:=lt_of hR.map
 simp [f12]
 rw [zpg (es:=cEnts C) (clock:=C.length) (by simpa [← hHe] using hR.map)]
 simp
 unfold zkd
 rw [← hHe]
 refine z4f (it:=77) (nx:=78) (more:=79) (out:=4) (next:=5) (es:=cEnts C) (mid:=0) (mg:=0) (id:=H.length) (gen:=0) (clock:=C.length) (fun e he=>?_) (zcj C).1
  (fun done s=>s.dfr=[]∧s.tm.get 77=.ptr H.length 0 0 0∧Acc (H++[iterB 0 0 0 C.length done]) 2 (s.tm.get 19) s.heap (done.map fun e=>cntA (cntE C e))) ?_ ?_ ?_ ?_
 ·obtain ⟨j,hj,_,h2⟩:=zdr C 0 e he
  omega
 ·rintro done s ⟨q2,f77,hacc⟩
  refine ⟨f77,?_,?_⟩
  ·rw [hacc.get (by simp)]; simp
  ·rw [hacc.get (by simp),List.getElem?_append_left l0]; exact hR.map
 ·exact ⟨by simp [q],by simp,by simp; exact Acc.nil⟩
 ·rintro done e s F' ⟨q2,f77,hacc⟩ he hed hsub hdn hgo1 hgo2 hx
  obtain ⟨j,hj,hval,hborn⟩:=zdr C 0 e he
  rw [Nat.zero_add] at hborn
  have hcn:cntE C e=C[j].cn:=by simp [cntE,hborn,hj]
  have hacc':=hacc.set (b:=H.length) (by simp) (iterB 0 0 0 C.length (done++[e]))
  have hset:(H++[iterB 0 0 0 C.length done]).set H.length (iterB 0 0 0 C.length (done++[e]))=H++[iterB 0 0 0 C.length (done++[e])]:=by simp
  rw [hset] at hacc'
  generalize s.heap.set H.length (iterB 0 0 0 C.length (done++[e]))=H2 at hacc'
  have g1:H2[H.length]? = some (iterB 0 0 0 C.length (done++[e])):=by rw [hacc'.get (by simp)]; simp
  have g2:H2[0]? = some (.map 0 (cEnts C) C.length):=by rw [hacc'.get (by simp),List.getElem?_append_left l0]; exact hR.map
  obtain ⟨b1,b2⟩:=hR.blk _ (List.getElem_mem hj)
  have lb:=lt_of b2
  have g3:H2[C[j].id]? = some (.arr 0 2 [.agg [tupA C[j].t,i64 C[j].n]]):=by rw [hacc'.get (by simp; omega),List.getElem?_append_left lb]; exact b2
  have k3:=ze1 g3
  have n3:=lt_of g3
  have hdl:done.length≤C.length:=by
   rw [← zg21 C]; classical exact za4 hdn hsub
  have hro:AV.rowok 2 (cntA C[j].cn)=true:=rfl
  obtain ⟨v',Hs',hacc2,happ⟩:=hacc'.oneN (tbl:=tblN) (k:=k) (bytes:=32) (r:=cntA C[j].cn) (fl:=false) hro (by simp; omega)
  have hout:(done++[e]).map (fun e=>cntA (cntE C e))=done.map (fun e=>cntA (cntE C e))++[cntA C[j].cn]:=by simp [hcn]
  rw [← hout] at hacc2
  simp [f77]
  rw [zqg g1 g2 (zcj C).1 he]
  have hca:AV.agg [tupA C[j].t,i64 C[j].n]=cntA C[j].cn:=rfl
  rw [hca] at k3
  have hcc:(cntA C[j].cn).cells=[tupA C[j].t,i64 C[j].n]:=rfl
  simp [hval,k3,n3,hcc,hca,zr,hro]
  rw [happ _ _ _ _ _ _ _ rfl]
  simp
  exact hgo1 _ ⟨by simp [q2],by simp [f77],by simpa using hacc2⟩
 ·rintro done s ⟨q2,f77,hacc⟩ hperm
  have hpm:(done.map (cntE C)).Perm (C.map Cnt.cn):=by have:=hperm.map (cntE C); rwa [z6x] at this
  obtain ⟨D0,hD0⟩:∃ D0,D0=done.map (cntE C):=⟨_,rfl⟩
  have hrows:(done.map fun e=>cntA (cntE C e))=D0.map cntA:=by rw [hD0,List.map_map]; rfl
  rw [hrows] at hacc
  rw [← hD0] at hpm
  have hok1:HOK (H++[iterB 0 0 0 C.length done]):=hH.push (by simp [iterB,Blk.under,AV.under])
  have hl0:D0.length≤2 ^ 30:=by rw [hpm.length_eq]; simpa using hlen
  simp
  rcases hacc with ⟨h1,h2,h3⟩ | ⟨g,h1,h2,h3⟩
  ·have hd:D0=[]:=by simpa using h1
   have hnil:zu4 M=[]:=by
    rw [← zfi hCo (D:=D0) hpm (by rw [hd]; exact List.Pairwise.nil)]; exact hd
   refine zr4 (zm1 subN (by rw [h2,h3]; exact zf21 _ _)) ?_
   simp [h2,h3,q2]
   exact hF _ _ (by rw [hnil]; exact z6 rfl)
  ·obtain ⟨D,hc,hDp,hDs⟩:=z4z _ za51 s.heap (Acc.hok (.inr ⟨g,h1,h2,h3⟩) hok1 (zpv _)) (H++[iterB 0 0 0 C.length done]).length g D0 (fun c hc=>by
    obtain ⟨x,hx,rfl⟩:=List.mem_map.1 (hpm.mem_iff.1 hc)
    exact htl x hx) (by rw [h3]; simp) (by omega)
   have hD:D=zu4 M:=zfi hCo (hDp.trans hpm) hDs
   rw [List.length_map] at h2
   refine zr4 (zm1 subN (by rw [h2]; exact hc)) ?_
   have hset:s.heap.set (H++[iterB 0 0 0 C.length done]).length (.arr g 2 (D.map cntA))=H++[iterB 0 0 0 C.length done, .arr g 2 (D.map cntA)]:=by rw [h3]; simp
   rw [hset]
   simp [h2,q2]
   refine hF _ _ ?_
   have hDl:D.length=D0.length:=hDp.length_eq
   have hDne:D≠[]:=by
    rintro rfl
    have:D0=[]:=List.length_eq_zero_iff.1 hDl.symm
    exact h1 (by rw [this]; rfl)
   have hre:=zv8 (k:=9) (Hb:=H++[iterB 0 0 0 C.length done, .arr g 2 (D.map cntA)]) (id:=H.length + 1) (g:=g) (sz:=2) (off:=0) (len:=D0.length) (R:=D.map cntA) (rows:=D.map cntA) (xs:=D) (by simp) (by simp [hDl]) (by rw [← hDl]; simp [List.take_of_length_le]) (zr6 (fun c=>znv c) D)
   rw [zzb (by simp [AV.plain,AV.plains]) hre (zv5 rfl),← hD]
   simp [relC,hDne]
structure zh21 (p:Plan):Prop where
 col:∀ c∈p.head,ColIn p.vars.length c
 len:p.head.length≤2 ^ 20
theorem z7x {p:Plan} (h:zh21 p) (hv:∀ c∈p.head,ValOk c.v) {x:Tup} (hx:TupOk x) (hl:x.length=p.vars.length):TupOk (headT p x):=by
 refine ⟨by simp [headT]; exact h.len,fun v hv'=>?_⟩
 simp only [headT,List.mem_map] at hv'
 obtain ⟨c,hc,rfl⟩:=hv'
 exact z7t (n:=0) (hv c hc) hx (by rw [hl]; exact h.col c hc)
theorem zi21 {p:Plan} (h:zu3 p):zh21 p:=by
 obtain ⟨B,B',_,h2⟩:=h.ok
 have:=h.head
 exact ⟨fun c hc=>by obtain ⟨B1,B2,h3⟩:=z9j h2 c hc; exact zcr h3,by omega⟩
def runL (p:Plan) (old now:List RelOf) (delta:List Tup):List Counted:=zu4 ((bindL p old now delta).map (headT p))
theorem zbn (p:Plan) (old now:List RelOf) (delta:List Tup) (ha:zs9 old now delta) (hn:p.vars.length≤2 ^ 20) (hfew:(zl8 p old now delta).length≤2 ^ 30):(bindL p old now delta).length≤2 ^ 30∧∀ t∈bindL p old now delta,TupOk t∧t.length=p.vars.length:=by
 obtain ⟨f1,f2,f3⟩:=zyd (zl8 p old now delta) [] List.nodup_nil
 constructor
 ·have h1:(bindL p old now delta).length≤(addsT [] (zl8 p old now delta)).length:=by
   classical exact za4 (z6i (zt4 _).1) (fun x hx=>((zt4 _).2 x).1 hx)
  simp at f2; omega
 ·intro t ht
  have h1:=((zt4 _).2 t).1 ht
  have h2:=(f3 t).1 h1
  simp at h2
  have:=zop (ha.row p) p.steps 0 (zeros p.vars.length) (zok hn) t h2
  exact ⟨this.1,by rw [this.2]; simp [zeros]⟩
theorem zj21 (k:Nat) (p:Plan) (old now:List RelOf) (delta:List Tup) (vp vo vn vd:AV) (hp:Is vp p) (ho:Is vo old) (hnw:Is vn now) (hd:Is vd delta) (hs:p.steps.length≤2 ^ 20) (hv:za7 p) (hhv:∀ c∈p.head,ValOk c.v) (ha:zs9 old now delta) (hfew:zu3 p→(zl8 p old now delta).length≤2 ^ 30) :
 NPURE (callW tblN) (NW tblN (k + 6)) z19 [vp,vo,vn,vd] (fun r=>(zu3 p→r=.tuple [relC (runL p old now delta),i64 0])∧(¬ zu3 p→r=.tuple [.nilsl,i64 180])):=by
 have hb:=zei k p old now delta vp vo vn vd hp ho hnw hd hs hv ha hfew []
 obtain ⟨a,b,c,hA,hB,hC,rfl⟩:=hp
 have ca:=zb hA
 have cb:=zb hB
 have cc:=zb hC
 refine zn11 z19 rfl (fun F hF=>?_)
 simp [z19,z2p,AV.rowok,ca,cb,cc]
 refine zh8 hb ?_
 rintro r H' ⟨rfl,rfl⟩
 unfold bindA
 by_cases hok:zu3 p
 ·rw [if_pos hok]
  obtain ⟨hbl,hbt⟩:=zbn p old now delta ha (by have:=hok.vars; omega) (hfew hok)
  have hhf:=zi21 hok
  have hrl:runL p old now delta=zu4 ((bindL p old now delta).map (headT p)):=rfl
  rw [hrl] at hF
  generalize bindL p old now delta=D at *
  simp
  rw [zom (op:=AOp.makeMap) rfl]
  simp [IsL.len (z2r D)]
  refine zsq ?_
  refine zb51 (p:=p) (D:=D) (fl:=false) (a:=a) (b:=b) hC hhf.len (fun x hx cc hcc=>by rw [(hbt x hx).2]; exact hhf.col cc hcc) (fun x hx=>z7x hhf hhv (hbt x hx).1 (hbt x hx).2) hbl _ ⟨rfl,by simp,by simp,by simp,fun B hB=>by simp at hB; subst hB; rfl⟩ (by simp) (by simp) (by simp) (by simp) (by simp) rfl (fun s' C hR hCo q f12=>?_)
  have hsub:∀ x∈C,x.t∈D.map (headT p):=fun x hx=>(hCo.mem _).1 (List.mem_map.2 ⟨x,hx,rfl⟩)
  have hCl:C.length≤2 ^ 30:=by
   have h1:(C.map (·.t)).length≤(D.map (headT p)).length:=by
    classical exact za4 hCo.nod (fun t ht=>by obtain ⟨x,hx,rfl⟩:=List.mem_map.1 ht; exact hsub x hx)
   simp at h1; omega
  have htl:∀ x∈C,x.t.length≤2 ^ 30:=fun x hx=>by
   obtain ⟨y,hy,hyx⟩:=List.mem_map.1 (hsub x hx)
   have:=(z7x hhf hhv (hbt y hy).1 (hbt y hy).2).len
   rw [← hyx]; omega
  rw [znw,znm,if_pos rfl,zks]
  refine zc51 (k + 6) s' F hR hCo hCl htl q f12 (fun v H' hre=>?_)
  exact hF _ _ _ hre ⟨fun _=>rfl,fun h=>absurd hok h⟩
 ·rw [if_neg hok]
  simp
  exact hF _ _ _ (z6 rfl) ⟨fun h=>absurd h hok,fun _=>rfl⟩
end Go.Abs.Plan
namespace Go.Abs.Plan
open Enc (Is)
def zm7 (p:Plan) (old now:List RelOf) (delta:List Tup) (i:Nat) (x:Tup):List Tup:=(relT (p.steps.getD i default) old now delta).filter fun t=>decide (t.length=(p.steps.getD i default).cols.length)
def allT (p:Plan) (old now:List RelOf) (delta:List Tup):List Tup:=goL (zm7 p old now delta) 0 p.steps (zeros p.vars.length)
theorem zdj {n B B':Nat} {w sk:Bool} {c:Col} (h:okCol n B w sk c=some B'):B'=bindC B c:=by
 unfold okCol at h
 unfold bindC
 split at h
 ·rename_i h1; rw [if_neg (by omega)]; split at h <;> simp at h; exact h.symm
 ·split at h
  ·rename_i h1; rw [if_neg (by omega)]; split at h <;> simp at h; exact h.symm
  ·split at h
   ·rename_i h1; rw [if_pos h1]; split at h <;> simp at h; exact h.symm
   ·rename_i h3; rw [if_neg h3]
    split at h
    ·split at h <;> simp at h; exact h.symm
    ·simp at h
theorem zcn {n:Nat} {w sk:Bool}:∀ {cs:List Col} {B B':Nat},z72 n w sk B cs=some B'→B'=bindB B cs
 | [],B,B',h=>by simp [z72] at h; exact h.symm
 | c::cs,B,B',h=>by
   simp only [z72] at h
   split at h
   ·rename_i B1 h1
    rw [zcn h,zdj h1]; rfl
   ·simp at h
theorem zdn {n B B':Nat} {c:Col} (h:okCol n B false false c=some B'):B'=B:=by
 have:=zdj h
 rw [this]
 unfold bindC
 rw [if_neg]
 intro h3
 unfold okCol at h
 rw [if_neg (by omega),if_neg (by omega),if_pos h3] at h
 simp at h
theorem zrv {n B B':Nat} {f:Bool} {s:Step} (h:z05 n B f s=some B'):B'=bindB B s.cols:=by
 unfold z05 at h
 split at h
 ·split at h
  ·rename_i hc
   split at h
   ·rename_i B1 h1
    rw [zdn h,zdn h1,hc.2.1]; rfl
   ·simp at h
  ·simp at h
 ·split at h
  ·exact zcn h
  ·simp at h
theorem zet {n:Nat} {ss:List Step} {f:Bool} {B B':Nat} (h:zx2 n f B ss=some B') (i:Nat) (hi:i < ss.length):∃ f1 B2,z05 n ((ss.take i).foldl (fun B s=>bindB B s.cols) B) f1 ss[i]=some B2:=by
 induction ss generalizing f B i with
 | nil=>simp at hi
 | cons s ss ih=>
   simp only [zx2] at h
   split at h
   ·rename_i B1 h1
    cases i with
    | zero=>exact ⟨f,B1,h1⟩
    | succ i=>
      have:=ih h i (by simpa using hi)
      rw [zrv h1] at this
      simpa using this
   ·simp at h
theorem zen {n:Nat} {w sk:Bool} (B0:Nat) (x0:Tup):∀ (cs:List Col) (t x x':Tup) (B B':Nat),z72 n w sk B cs=some B'→(∀ v,B0.testBit v=true→B.testBit v=true)→(∀ v,B0.testBit v=true→x.getD v zi=x0.getD v zi) →
 z41 cs t x=some x'→∀ (j:Nat) (c:Col) (y:Val),cs[j]? = some c→t[j]? = some y→zl7 B0 c=true→zo1 c x0=y
 | [],t,x,x',B,B',_,_,_,_,j,c,y,hc,_,_=>by simp at hc
 | c0::cs,[],x,x',B,B',_,_,_,_,j,c,y,_,hy,_=>by simp at hy
 | c0::cs,y0::ys,x,x',B,B',hok,hsub,hx,hag,j,c,y,hc,hy,hk=>by
   simp only [z72] at hok
   split at hok
   ·rename_i B1 h1
    simp only [z41] at hag
    split at hag
    ·rename_i x1 hx1
     have hb1:=zdj h1
     have hsub1:∀ v,B0.testBit v=true→B1.testBit v=true:=fun v hv=>by
      rw [hb1]; unfold bindC
      split
      ·rw [Nat.testBit_or,hsub v hv]; rfl
      ·exact hsub v hv
     have hkeep:∀ v,B0.testBit v=true→x1.getD v zi=x0.getD v zi:=fun v hv=>by
      unfold z0c at hx1
      split at hx1
      ·rename_i h3
       simp at hx1; subst hx1
       have hnb:B.testBit c0.var.toNat=false:=by
        unfold okCol at h1
        rw [if_neg (by omega),if_neg (by omega),if_pos h3] at h1
        split at h1
        ·rename_i hcond; exact hcond.2.2.2.2
        ·simp at h1
       have hne:c0.var.toNat≠v:=by
        intro e
        rw [e,hsub v hv] at hnb; cases hnb
       rw [List.getD_eq_getElem?_getD,List.getElem?_set_ne hne,← List.getD_eq_getElem?_getD]
       exact hx v hv
      ·split at hx1
       ·simp at hx1; subst hx1; exact hx v hv
       ·split at hx1
        ·simp at hx1; subst hx1; exact hx v hv
        ·simp at hx1
     cases j with
     | zero=>
       simp only [List.getElem?_cons_zero,Option.some.injEq] at hc hy
       subst hc; subst hy
       have hk':=hk
       simp only [zl7,Bool.or_eq_true,decide_eq_true_eq,Bool.and_eq_true] at hk
       have h3:¬ c0.use=3:=by rcases hk with h | ⟨h,_⟩ <;> omega
       have h2:¬ c0.use=2:=by rcases hk with h | ⟨h,_⟩ <;> omega
       unfold z0c at hx1
       rw [if_neg h3,if_neg h2] at hx1
       split at hx1
       ·rename_i he
        rw [← he]
        unfold zo1
        split
        ·rfl
        ·rename_i h1'
         rcases hk with h | ⟨_,h⟩
         ·exact absurd h h1'
         ·exact (hx _ h).symm
       ·simp at hx1
     | succ j=>
       exact zen B0 x0 cs ys x1 x' B1 B' hok hsub1 hkeep hag j c y (by simpa using hc) (by simpa using hy) hk
    ·simp at hag
   ·simp at hok
theorem any_filter {α:Type} (p f:α→Bool):∀ l:List α,(∀ t∈l,f t=true→p t=true)→(l.filter p).any f=l.any f
 | [],_=>rfl
 | a::l,h=>by
   have ih:=any_filter p f l (fun t ht=>h t (by simp [ht]))
   by_cases hp:p a=true
   ·simp [hp,ih]
   ·have:f a=false:=by
     cases hf:f a with
     | false=>rfl
     | true=>exact absurd (h a (by simp) hf) hp
    simp [hp,this,ih]
theorem zbf {α β:Type} (p:α→Bool) (f:α→List β):∀ l:List α,(∀ t∈l,f t≠[]→p t=true)→(l.filter p).flatMap f=l.flatMap f
 | [],_=>rfl
 | a::l,h=>by
   have ih:=zbf p f l (fun t ht=>h t (by simp [ht]))
   by_cases hp:p a=true
   ·simp [hp,ih]
   ·have:f a=[]:=by
     by_cases hf:f a=[]
     ·exact hf
     ·exact absurd (h a (by simp) hf) hp
    simp [hp,this,ih]
theorem z0g {α β:Type} {f g:α→List β}:∀ {l:List α},(∀ k∈l,f k=g k)→l.flatMap f=l.flatMap g
 | [],_=>rfl
 | a::l,h=>by simp only [List.flatMap_cons]; rw [h a (by simp),z0g (fun k hk=>h k (by simp [hk]))]
theorem zpk {p:Plan} (hok:zu3 p) (old now:List RelOf) (delta:List Tup):zl8 p old now delta=allT p old now delta:=by
 obtain ⟨B,B',hB1,_⟩:=hok.ok
 suffices ∀ (ss:List Step) (i:Nat) (x:Tup),p.steps.drop i=ss→goL (zl1 p old now delta) i ss x=goL (zm7 p old now delta) i ss x from this _ 0 _ rfl
 intro ss
 induction ss with
 | nil=>intro i x _; rfl
 | cons s ss ih=>
   intro i x hd
   have hlt:i < p.steps.length:=by have:=congrArg List.length hd; simp at this; omega
   rw [List.drop_eq_getElem_cons hlt] at hd
   simp only [List.cons.injEq] at hd
   obtain ⟨hs,hd⟩:=hd
   have ih1:goL (zl1 p old now delta) (i + 1) ss=goL (zm7 p old now delta) (i + 1) ss:=funext fun x=>ih (i + 1) x hd
   have hgD:p.steps.getD i default=s:=by rw [List.getD_eq_getElem?_getD,List.getElem?_eq_getElem hlt,hs]; rfl
   unfold goL
   simp only [ih1]
   by_cases h3:s.op=3
   ·rw [if_pos h3,if_pos h3]
   ·rw [if_neg h3,if_neg h3]
    obtain ⟨f1,B2,hst⟩:=zet hB1 i hlt
    rw [hs] at hst
    unfold z05 at hst
    rw [if_neg h3] at hst
    split at hst
    ·have hpr:zl1 p old now delta i x=(zm7 p old now delta i x).filter fun t=>decide (z5a (ksAt p i) t=keyS2 (ksAt p i) s.cols x):=by
      rw [zl1,expT,hgD,grpT,if_neg h3,zm7,hgD,List.filter_filter]
      congr 1
      funext t
      rw [Bool.and_comm]
     have hkey:∀ t∈zm7 p old now delta i x,∀ x',z41 s.cols t x=some x'→z5a (ksAt p i) t=keyS2 (ksAt p i) s.cols x:=by
      intro t ht x' hag
      rw [zm7,hgD,List.mem_filter] at ht
      have htl:t.length=s.cols.length:=by simpa using ht.2
      have hk:=zen (zwg (p.steps.take i)) x s.cols t x x' _ _ hst (fun v h=>h) (fun v _=>rfl) hag
      have:z4a (ksAt p i) t=keyB2 (ksAt p i) s.cols x:=by
       unfold z4a keyB2
       have hall:∀ k∈ksAt p i,valB (t.getD k.toNat zi)=valB (zo1 (s.cols.getD k.toNat zf1) x):=by
        intro k hkm
        rw [ksAt,hgD] at hkm
        obtain ⟨cc,e1,e2,e3⟩:=z8f hkm
        rw [Nat.sub_zero] at e1
        have e4:=(List.getElem?_eq_some_iff.1 e1).1
        have e5:t[k.toNat]? = some (t[k.toNat]'(by omega)):=by simp [show k.toNat < t.length by omega]
        have:=hk k.toNat cc _ e1 e5 e2
        rw [List.getD_eq_getElem?_getD,e5,List.getD_eq_getElem?_getD,e1]
        simp only [Option.getD_some]
        rw [this]
       exact z0g hall
      unfold z5a keyS2
      rw [this]
     by_cases h2:s.op=2
     ·rw [if_pos h2,if_pos h2,hpr,any_filter]
      intro t ht hf
      obtain ⟨x',hx'⟩:=Option.isSome_iff_exists.1 hf
      simpa using hkey t ht x' hx'
     ·rw [if_neg h2,if_neg h2,hpr,zbf]
      intro t ht hf
      cases hag:z41 s.cols t x with
      | none=>rw [hag] at hf; simp at hf
      | some x'=>simpa using hkey t ht x' hag
    ·simp at hst
end Go.Abs.Plan
namespace Go.Abs.Plan
open Enc (Is)
theorem zk21 (a b:Val):∃ r,zy (callW tbl) loopW zx1 [a.enc,b.enc]=some r∧r=i64 (vcmp a b):=by
 have hra:AV.rowok 3 a.enc=true:=rfl
 have hrb:AV.rowok 3 b.enc=true:=rfl
 have hab:=z6a1 a b
 have hs:∀ e,binA .lss e (.str a.s) (.str b.s)=some (.bool (decide (a.s.toList < b.s.toList))):=fun e=>zmk
 refine pureK zx1 rfl (fun F hF=>?_)
 by_cases h:a=b
 ·have hv:vcmp a b=0:=by rw [h]; exact zy11 b
  simp only [h,decide_true] at hab
  simp [zx1,z43,hra,hrb,AV.rowok,h,hab]
  exact hF _ _ _ (z6 rfl) (by rw [hv])
 ·have hab':binA .eql (.cells [.int, .int, .str]) a.enc b.enc=some (.bool false):=by rw [hab]; simp [h]
  by_cases hk:a.kind < b.kind
  ·have hv:vcmp a b = -1:=by simp [vcmp,cmpI,hk]
   simp [zx1,z43,AV.rowok,hab',hk]
   exact hF _ _ _ (z6 rfl) (by rw [hv])
  ·by_cases hke:a.kind=b.kind
   ·by_cases hn:a.n < b.n
    ·have hv:vcmp a b = -1:=by simp [vcmp,cmpI,hke,hn]
     have hnn:¬ a.n=b.n:=by omega
     simp [zx1,z43,AV.rowok,hab',hk,hke,hn,hnn]
     exact hF _ _ _ (z6 rfl) (by rw [hv])
    ·by_cases hne:a.n=b.n
     ·have hse:¬ a.s=b.s:=fun e=>h (by obtain ⟨a1,a2,a3⟩:=a; obtain ⟨b1,b2,b3⟩:=b; simp at hke hne e; subst hke; subst hne; subst e; rfl)
      by_cases hl:a.s.toList < b.s.toList
      ·have hv:vcmp a b = -1:=by simp [vcmp,cmpI,cmpS,hke,hne,hl]
       simp [zx1,z43,AV.rowok,hab',hk,hke,hn,hne,hs,hl,hse]
       exact hF _ _ _ (z6 rfl) (by rw [hv])
      ·have hv:vcmp a b=1:=by
        have h0:vcmp a b≠0:=fun e=>h ((zd9.eq a b).1 e)
        have h1:vcmp a b=cmpS a.s b.s:=by simp [vcmp,cmpI,hke,hne]
        rw [h1] at h0 ⊢
        unfold cmpS at h0 ⊢
        rw [if_neg hl] at h0 ⊢
        split
        ·rfl
        ·rename_i h2; rw [if_neg h2] at h0; exact absurd rfl h0
       simp [zx1,z43,AV.rowok,hab',hk,hke,hn,hne,hs,hl,hse]
       exact hF _ _ _ (z6 rfl) (by rw [hv])
     ·have hv:vcmp a b=1:=by
       have:b.n < a.n:=by omega
       simp [vcmp,cmpI,hke,hn,this]
      simp [zx1,z43,AV.rowok,hab',hk,hke,hn,hne]
      exact hF _ _ _ (z6 rfl) (by rw [hv])
   ·have hv:vcmp a b=1:=by
     have:b.kind < a.kind:=by omega
     simp [vcmp,cmpI,hk,this]
    simp [zx1,z43,AV.rowok,hab',hk,hke]
    exact hF _ _ _ (z6 rfl) (by rw [hv])
theorem zrp (a b:Val) (H:Heap):callW tbl (.func z6b [] []) [a.enc,b.enc] H=some (i64 (vcmp a b),H):=by
 obtain ⟨r,h,rfl⟩:=zk21 a b
 exact zt7 rfl rfl rfl rfl h H
theorem zl21 (t u:Tup) (v w:AV) (hv:Is v t) (hw:Is w u) (ht:t.length < 2 ^ 40) (hu:u.length < 2 ^ 40):∃ r,zy (callW tbl) loopW zn4 [v,w]=some r∧r=i64 (tcmp t u):=by
 have hlv:=IsL.len hv
 have hlw:=IsL.len hw
 refine pureK zn4 rfl (fun F hF=>?_)
 simp [zn4,zwe]
 refine zg (fun k s=>∃ j:Nat,j + k=t.length∧j≤u.length∧tcmp t u=tcmp (t.drop j) (u.drop j)∧s.dfr=[]∧s.tm.get 0=v∧s.tm.get 1=w∧s.tm.get 5=i64 j) t.length
  ⟨0,by omega,by omega,rfl,by simp,by simp,by simp,by simp⟩ ?_
 rintro k s Q ⟨j,h0,hju,hz,q2,f0,f1,f5⟩ hgo hx
 have hwj:IntKind.i64.wrap ((j:Int) + 1)=((j + 1:Nat):Int):=z61 (by omega) (by omega)
 by_cases hj:j < t.length
 ·have hji:(j:Int) < (t.length:Int):=by omega
  obtain ⟨fl,r,rfl,hidx⟩:=IsL.idx hv (List.getElem?_eq_getElem hj)
  simp only [show Enc.sz Val=3 from rfl] at hidx
  have hdt:t.drop j=t[j]::t.drop (j + 1):=List.drop_eq_getElem_cons hj
  by_cases hj2:j < u.length
  ·have hni:(j:Int) < (u.length:Int):=by omega
   obtain ⟨fl2,r2,rfl,hidx2⟩:=IsL.idx hw (List.getElem?_eq_getElem hj2)
   simp only [show Enc.sz Val=3 from rfl] at hidx2
   have hdu:u.drop j=u[j]::u.drop (j + 1):=List.drop_eq_getElem_cons hj2
   have hcall:=fun H=>zrp t[j] u[j] H
   by_cases hk:vcmp t[j] u[j]=0
   ·simp [z63,f0,f1,f5,hlv,hlw,hji,hni,hidx,hidx2,AV.rowok,hcall,hk]
    refine hgo _ (k - 1) (by omega) ⟨j + 1,by omega,by omega,?_,by simp [q2],by simp [f0],by simp [f1],by simp [hwj]⟩
    rw [hz,hdt,hdu]; simp [tcmp,hk]
   ·simp [z63,f0,f1,f5,hlv,hlw,hji,hni,hidx,hidx2,AV.rowok,hcall,hk]
    refine hx _ _ (by simp) ?_
    simp [q2]
    have e:tcmp t u=vcmp t[j] u[j]:=by rw [hz,hdt,hdu]; simp [tcmp,hk]
    rw [e] at hF
    exact hF _ _ _ (z6 rfl) rfl
  ·have hni:¬ (j:Int) < (u.length:Int):=by omega
   have hlt:¬ (t.length:Int) < (u.length:Int):=by omega
   have hgt:(u.length:Int) < (t.length:Int):=by omega
   simp [z63,f0,f1,f5,hlv,hlw,hji,hni]
   refine hx _ _ (by simp) ?_
   simp [f0,f1,hlv,hlw,hlt,hgt,q2]
   have hdu:u.drop j=[]:=List.drop_eq_nil_of_le (by omega)
   have e:tcmp t u=1:=by rw [hz,hdt,hdu]; rfl
   rw [e] at hF
   exact hF _ _ _ (z6 rfl) rfl
 ·have hji:¬ (j:Int) < (t.length:Int):=by omega
  have hdt:t.drop j=[]:=List.drop_eq_nil_of_le (by omega)
  by_cases hlt:t.length < u.length
  ·have hlti:(t.length:Int) < (u.length:Int):=by omega
   simp [z63,f0,f1,f5,hlv,hlw,hji]
   refine hx _ _ (by simp) ?_
   simp [q2,f0,f1,hlv,hlw,hlti]
   have hj2:j < u.length:=by omega
   have e:tcmp t u = -1:=by rw [hz,hdt,List.drop_eq_getElem_cons hj2]; rfl
   rw [e] at hF
   exact hF _ _ _ (z6 rfl) rfl
  ·have hlti:¬ (t.length:Int) < (u.length:Int):=by omega
   have hgti:¬ (u.length:Int) < (t.length:Int):=by omega
   simp [z63,f0,f1,f5,hlv,hlw,hji]
   refine hx _ _ (by simp) ?_
   simp [q2,f0,f1,hlv,hlw,hlti,hgti]
   have hdu:u.drop j=[]:=List.drop_eq_nil_of_le (by omega)
   have e:tcmp t u=0:=by rw [hz,hdt,hdu]; rfl
   rw [e] at hF
   exact hF _ _ _ (z6 rfl) rfl
theorem z8a1 {α β:Type} [Enc α] [Enc β] {tbl:FuncId→Option AFun} {f:FuncId} {af:AFunc} (ht:tbl f=some (.code af)) (hp:af.pure=true) {S:AV→Prop} (x:α) (y:β) (hS:∀ r,S r→S r.lend)
 (hrun:∀ v w:AV,Is v x→Is w y→∃ r,zy (callW tbl) loopW af [v,w]=some r∧S r) (v w:AV) (hv:Is v x) (hw:Is w y) (H:Heap):∃ r,callW tbl (.func f [] []) [v,w] H=some (r,H)∧S r:=
 z76 ht hp (R:=fun a=>∃ v w,a=[v,w]∧Is v x∧Is w y) (S:=S) (by rintro _ ⟨v,w,rfl,h1,h2⟩; simp [AV.plains,Enc.plain h1,Enc.plain h2]) (by rintro _ ⟨v,w,rfl,h1,h2⟩; exact ⟨v.lend,w.lend,rfl,Enc.lend h1,Enc.lend h2⟩) hS
  (by rintro _ ⟨v,w,rfl,h1,h2⟩; exact hrun v w h1 h2) _ H ⟨v,w,rfl,hv,hw⟩
theorem zzc (t u:Tup) (v w:AV) (hv:Is v t) (hw:Is w u) (ht:t.length < 2 ^ 40) (hu:u.length < 2 ^ 40) (H:Heap):callW tbl (.func zv1 [] []) [v,w] H=some (i64 (tcmp t u),H):=by
 obtain ⟨r,h,rfl⟩:=z8a1 (tbl:=tbl) (f:=zv1) (af:=zn4) rfl rfl (S:=fun r=>r=i64 (tcmp t u)) t u (by rintro r rfl; rfl) (fun v w hv hw=>zl21 t u v w hv hw ht hu) v w hv hw H
 exact h
end Go.Abs.Plan
namespace Go.Abs.Plan
open Enc (Is)
theorem zgi {len a:Nat} (d:Nat) (h:a≤len):Go.Abs.bound d len (some (.int .i64 (a:Int)))=some a:=by
 have:(0:Int)≤(a:Int)∧(a:Int)≤(len:Int):=by omega
 simp only [Go.Abs.bound,this]
 simp
theorem appendTo_0s {sz bytes id gen off len:Nat} {ids:List Nat} {src:List Blk→Option (List AV)}:zg5 sz bytes (.sl id gen off len) 0 ids src=.val (.sl id gen off len):=rfl
def zm21:ACode:=(.draw [uu 46 (.buildSlice .nilsl 0 []),mV 47 3,mV 48 5,uu 49 (.slice 1 (tt 47) none (some (tt 48))),uu 50 (.append 1 24 (tt 46) (tt 49)),mV 51 0,mV 52 4,iX 53 1 51 52,lD 54 53,uu 55 (.buildSlice .nilsl 1 [(0,(tt 54))]),uu 56 (.append 1 24 (tt 50) (tt 55)),mV 57 3,mV 58 5,uu 59 (.slice 1 (tt 57) (some (tt 58)) none),uu 60 (.append 1 24 (tt 56) (tt 59)),kM 3 60] [(0,3),(0,7),(4,7),(0,8),(4,8),(0,9),(3,9),(4,9),(0,13),(4,13),(9,13),(10,13)])
theorem zsp {R:AExit→St→Prop} {ks:List KF} (rows:List AV) (r:AV) (k i:Nat) (hk:k≤rows.length) (w v:AV) (s:St) {lo:Nat} (hlo:lo≤s.heap.length) (hw:SlAt lo 1 s.heap w rows) (hrow:∀ x∈rows,x.rowok 1=true) (hr:r.isCell=true∧r.cells=[r]) (hlen:rows.length≤2 ^ 20)
 (f0:s.tm.get 0=v) (f3:s.tm.get 3=w) (f4:s.tm.get 4=i64 i) (f5:s.tm.get 5=i64 k) {fl:Bool} (hidx:idxA 1 v (.int .i64 (i:Int))=.val (.fptr fl [r] 0))
 (hgo:∀ T v',SlAt lo 1 (s.heap++T) v' (rows.take k++r::rows.drop k)→KONT (callW tbl) loopW ks .normal { s with tm:=s.tm.put 3 v',heap:=s.heap++T } R):EXEC (callW tbl) loopW zm21 ks s R:=by
 unfold zm21
 rcases hw with ⟨rfl,rfl⟩ | ⟨id,g,_,rfl,hB⟩
 ·have hk0:k=0:=by simpa using hk
  subst hk0
  have s1:zij 1 none (some (.int .i64 0)) .nilsl=some .nilsl:=rfl
  have s2:zij 1 (some (.int .i64 0)) none .nilsl=some .nilsl:=rfl
  have f5':s.tm.get 5=.int .i64 0:=f5
  simp [f0,f3,f4,f5',hidx,s1,s2,zr,AV.rowok,hr,zh1,appendTo_0s,zi1,zw3,room]
  refine ⟨by omega,hgo _ (.sl s.heap.length 2 0 1) (.inr ⟨s.heap.length,2,hlo,by simp,by simp⟩)⟩
 ·have kb:=ze1 hB
  have nb:=lt_of hB
  have b1:=zgi (len:=rows.length) (a:=k) rows.length hk
  have b2:=zgi (len:=rows.length) (a:=k) 0 hk
  have b3:Go.Abs.bound 0 k none=some 0:=rfl
  have b4:Go.Abs.bound rows.length rows.length none=some rows.length:=rfl
  obtain ⟨A,hA⟩:∃ A,A=rows.take k:=⟨_,rfl⟩
  obtain ⟨D,hD⟩:∃ D,D=rows.drop k:=⟨_,rfl⟩
  have hAl:A.length=k:=by rw [hA]; simp [hk]
  have hDl:D.length=rows.length - k:=by rw [hD]; simp
  have hs1:zw3 g 0 k (.arr g 1 rows)=some A:=by simp [zw3,hk,hA]
  have hs2:zw3 g k (rows.length - k) (.arr g 1 rows)=some D:=by
   have:k + (rows.length - k)≤rows.length:=by omega
   simp [zw3,this,hD]
   exact List.take_of_length_le (by simp)
  have hs3:zw3 1 0 1 (.arr 1 1 [r])=some [r]:=rfl
  have hro:AV.rowok 1 r=true:=by simp [AV.rowok,hr]
  have hroA:(∀ x:AV,x∈A→AV.rowok 1 x=true)=True:=eq_true fun x hx=>hrow x (List.mem_of_mem_take (by rw [hA] at hx; exact hx))
  have hroD:(∀ x:AV,x∈D→AV.rowok 1 x=true)=True:=eq_true fun x hx=>hrow x (List.mem_of_mem_drop (by rw [hD] at hx; exact hx))
  have hne1:¬ id=s.heap.length:=by omega
  have hne2:¬ s.heap.length=id:=by omega
  rw [← hA,← hD] at hgo
  have hlen2:rows.length=A.length + D.length:=by omega
  have r1:k * 24≤140737488355328:=by omega
  have r2:(k + 1) * 24≤140737488355328:=by omega
  have r3:(k + 1 + (rows.length - k)) * 24≤140737488355328:=by omega
  have hgo2:∀ T v',(∃ g,v'=.sl s.heap.length g 0 (A.length + 1 + D.length)∧(s.heap++T)[s.heap.length]? = some (.arr g 1 (A++r::D)))→KONT (callW tbl) loopW ks .normal { s with tm:=s.tm.put 3 v',heap:=s.heap++T } R:=by
   rintro T v' ⟨g,rfl,h⟩
   exact hgo T _ (.inr ⟨s.heap.length,g,hlo,by simp; omega,h⟩)
  have htA:List.take k A=A:=List.take_of_length_le (by omega)
  have htA1:List.take (k + 1) (A++[r])=A++[r]:=List.take_of_length_le (by simp; omega)
  have n1:k≤A.length:=by omega
  have n2:¬ (k + 1≤A.length):=by omega
  have n3:(1 + rows.length) * 24≤140737488355328:=by omega
  have n6:k + 1≤A.length + 1:=by omega
  have ne3:¬ s.heap.length + 1 + 1=id:=by omega
  have ne4:¬ s.heap.length + 1 + 1=s.heap.length:=by omega
  have ne5:¬ id=s.heap.length + 1 + 1:=by omega
  by_cases hk0:k=0
  ·subst hk0
   have hAn:A=[]:=List.length_eq_zero_iff.1 hAl
   subst hAn
   have f5':s.tm.get 5=.int .i64 0:=f5
   have b1':Go.Abs.bound rows.length rows.length (some (.int .i64 0))=some 0:=b1
   have b2':Go.Abs.bound 0 rows.length (some (.int .i64 0))=some 0:=b2
   simp only [Nat.sub_zero] at hs2 r3 hDl
   by_cases hd0:rows.length=0
   ·have hDn:D=[]:=List.length_eq_zero_iff.1 (by omega)
    subst hDn
    have hrn:rows=[]:=List.length_eq_zero_iff.1 hd0
    subst hrn
    simp at b1' b2' b4 hs1
    simp [f0,f3,f4,f5',hidx,b1',b2',b3,b4,kb,nb,zr,hr,hro,zh1,appendTo_0s,zi1,hs1,hs2,hs3,hroA,hroD,hne1,hne2,room,ne3,ne4,ne5]
    exact hgo2 _ (.sl s.heap.length 2 0 1) ⟨2,rfl,by simp⟩
   ·have n4:¬ (1 + rows.length≤1):=by omega
    simp [f0,f3,f4,f5',hidx,b1',b2',b3,b4,kb,nb,zr,hr,hro,zh1,appendTo_0s,zi1,hs1,hs2,hs3,hroA,hroD,hne1,hne2,room,hd0,n3,n4,ne3,ne4,ne5]
    exact hgo2 _ (.sl s.heap.length 3 0 (1 + rows.length)) ⟨3,by rw [show 1 + rows.length=([]:List AV).length + 1 + D.length by simp; omega],by simp⟩
  ·by_cases hd0:rows.length - k=0
   ·simp [f0,f3,f4,f5,hidx,b1,b2,b3,b4,kb,nb,zr,hr,hro,zh1,appendTo_0s,zi1,hs1,hs2,hs3,hroA,hroD,hne1,hne2,room,hk0,hd0,r1,r2,htA,n1,n2,n6,ne3,ne4,ne5]
    have hDn:D=[]:=List.length_eq_zero_iff.1 (by omega)
    exact hgo2 _ (.sl s.heap.length 3 0 (k + 1)) ⟨3,by rw [show k + 1=A.length + 1 + D.length by omega],by simp [hDn]⟩
   ·have n5:¬ (k + 1 + (rows.length - k)≤A.length + 1):=by omega
    simp [f0,f3,f4,f5,hidx,b1,b2,b3,b4,kb,nb,zr,hr,hro,zh1,appendTo_0s,zi1,hs1,hs2,hs3,hroA,hroD,hne1,hne2,room,hk0,hd0,r1,r2,r3,htA,htA1,n1,n2,n5,n6,ne3,ne4,ne5]
    exact hgo2 _ (.sl s.heap.length 4 0 (k + 1 + (rows.length - k))) ⟨4,by rw [show k + 1 + (rows.length - k)=A.length + 1 + D.length by omega],by simp⟩
end Go.Abs.Plan
namespace Go.Abs.Plan
open Enc (Is)
theorem zsv (x:Tup):∀ (o:List Tup) (k:Nat),k≤o.length→(∀ j (h:j < o.length),j < k→tcmp o[j] x < 0)→(∀ h:k < o.length,¬ tcmp o[k] x < 0) →
 insT x o=if ∃ h:k < o.length,tcmp o[k] x=0 then o else o.take k++x::o.drop k
 | [],k,hk,_,_=>by
   have:k=0:=by simpa using hk
   subst this
   simp [insT]
 | y::o,0,hk,_,h2=>by
   have hy:¬ tcmp y x < 0:=h2 (by simp)
   unfold insT
   rw [if_neg hy]
   by_cases he:tcmp y x=0
   ·rw [if_pos he,if_pos ⟨by simp,by simpa using he⟩]
   ·rw [if_neg he,if_neg (by rintro ⟨_,h⟩; exact he (by simpa using h))]
    simp
 | y::o,k + 1,hk,h1,h2=>by
   have hy:tcmp y x < 0:=h1 0 (by simp) (by omega)
   have ih:=zsv x o k (by simpa using hk) (fun j h hj=>h1 (j + 1) (by simpa using h) (by omega)) (fun h=>h2 (by simpa using h))
   unfold insT
   rw [if_pos hy,ih]
   by_cases he:∃ h:k < o.length,tcmp o[k] x=0
   ·rw [if_pos he,if_pos]
    obtain ⟨h,he⟩:=he
    exact ⟨by simpa using h,by simpa using he⟩
   ·rw [if_neg he,if_neg]
    ·simp
    ·rintro ⟨h,h'⟩
     exact he ⟨by simpa using h,by simpa using h'⟩
theorem z8x (x:Tup):∀ o:List Tup,(insT x o).length≤o.length + 1
 | []=>by simp [insT]
 | y::o=>by
   unfold insT
   have:=z8x x o
   split
   ·simp; exact this
   ·split
    ·simp
    ·simp
def foldI (l:List Tup):List Tup:=l.foldl (fun o x=>insT x o) []
theorem zft (l:List Tup):(foldI l).length≤l.length:=by
 unfold foldI
 suffices ∀ o:List Tup,(l.foldl (fun o x=>insT x o) o).length≤o.length + l.length by simpa using this []
 induction l with
 | nil=>intro o; simp
 | cons x l ih=>intro o; have h1:=ih (insT x o); have h2:=z8x x o; simp only [List.foldl_cons,List.length_cons]; omega
theorem z5z (l:List Tup) (x:Tup):foldI (l++[x])=insT x (foldI l):=by simp [foldI]
def ztv:ACode:=(SS (.draw [mV 30 5,mV 31 3,lN 32 31,uu 33 (.bin .eql .no (tt 30) (tt 32)),mV 34 33,gV 35 3 34 false,gV 36 5 34 false,ug 37 (.indexAddr 1 (tt 35) (tt 36)) 34 false,ug 38 (.load false 1 (tt 37)) 34 false,gV 39 0 34 false,gV 40 4 34 false,ug 41 (.indexAddr 1 (tt 39) (tt 40)) 34 false,ug 42 (.load false 1 (tt 41)) 34 false,ug 43 (.call (.func zv1) [(tt 38),(tt 42)]) 34 false,ug 44 (.bin .neq .no (tt 43) (ii 0)) 34 false,kk 45 (.pick (tt 34) (.const (.bool true)) (tt 44))] [])
 (.cond (tt 45) zm21 .skip))
theorem zgt:znc=(SS (SS (RR [mV 6 4,mV 7 0,lN 8 7,kk 9 (.bin .lss .no (tt 6) (tt 8))])
 (.cond (tt 9) .skip (.exit 0)))
 (SS (.block 1 (SS (RR [kk 5 (.move (ii 0))])
 (SS (.block 2 (.loop zo4)) ztv)))
 (RR [mV 10 4,iC 11 10,kM 4 11]))):=rfl
theorem zuv (l:List Tup) (v:AV) (hv:Is v l) (hl:l.length≤2 ^ 20) (ht:∀ t∈l,t.length < 2 ^ 40) (H:Heap) (hok:HOK H):∃ r,callW tbl (.func z7c [] []) [v] H=some (r,H)∧Is r (sortT l):=by
 have hlv:=IsL.len hv
 obtain ⟨w,H',⟨T,rows,rfl,hw,hrows⟩,hcall⟩:=callE (tbl:=tbl) (f:=z7c) (first:=[]) (captured:=[]) (args:=[v]) (H:=H) (fun w H'=>∃ T rows,H'=H++T∧SlAt H.length 1 H' w rows∧All2 Is rows (sortT l)) zy6 rfl rfl rfl (fun F hF=>by
  simp [zy6,zvf]
  refine zg (fun n s=>∃ (i:Nat) (T:Heap) (w:AV) (rows:List AV),i + n=l.length∧s.heap=H++T∧SlAt H.length 1 s.heap w rows∧All2 Is rows (foldI (l.take i))∧s.dfr=[]∧s.tm.get 0=v∧s.tm.get 3=w∧s.tm.get 4=i64 i) l.length
   ⟨0,[], .nilsl,[],by omega,by simp,SlAt.nil,by simp [foldI]; exact .nil,by simp,by simp,by simp,by simp⟩ ?_
  rintro n s Q ⟨i,T,w,rows,h0,hH,hw,hrows,q2,f0,f3,f4⟩ hgo hx
  have hwi:IntKind.i64.wrap ((i:Int) + 1)=((i + 1:Nat):Int):=z61 (by omega) (by omega)
  by_cases hi:i < l.length
  ·have hii:(i:Int) < (l.length:Int):=by omega
   have hgi:=List.getElem?_eq_getElem hi
   obtain ⟨fl,r,hr,hidx⟩:=IsL.idx hv hgi
   simp only [show Enc.sz Tup=1 from rfl] at hidx
   have hcr:=zb hr
   have htl:=ht _ (List.getElem_mem hi)
   have htk:l.take (i + 1)=l.take i++[l[i]]:=by rw [List.take_add_one,hgi]; rfl
   have hfs:=z5z (l.take i) l[i]
   rw [← htk] at hfs
   have hfl:=zft (l.take i)
   have htkl:(l.take i).length≤i:=by simp; omega
   have hrl:=hrows.length
   have hmem:∀ t∈foldI (l.take i),t.length < 2 ^ 40:=fun t h=>by
    have:=((zt4 (l.take i)).2 t).1 h
    exact ht t (List.mem_of_mem_take this)
   generalize l[i]=x at *
   generalize hO:foldI (l.take i)=O at *
   have hrow:∀ y∈rows,y.rowok 1=true:=fun y hy=>by
    obtain ⟨b,_,hb⟩:=hrows.left y hy
    exact Enc.row hb
   simp [zgt,f0,f4,hlv,hii]
   refine zg (fun n' s'=>∃ k:Nat,k + n'=O.length∧(∀ j (h:j < O.length),j < k→tcmp O[j] x < 0)∧s'.heap=s.heap∧s'.dfr=[]∧s'.tm.get 0=v∧s'.tm.get 3=w∧s'.tm.get 4=i64 i∧s'.tm.get 5=i64 k) O.length
    ⟨0,by omega,by simp,by simp,by simp [q2],by simp [f0],by simp [f3],by simp [f4],by simp⟩ ?_
   rintro n' s' Q' ⟨k,hk0,hlt,e1,e2,g0,g3,g4,g5⟩ hgo' hx'
   have hwk:IntKind.i64.wrap ((k:Int) + 1)=((k + 1:Nat):Int):=z61 (by omega) (by omega)
   have hwlen:lenA w=.val (.int .i64 (O.length:Int)):=by
    rw [← hrl]
    rcases hw with ⟨rfl,rfl⟩ | ⟨sid,sg,_,rfl,_⟩ <;> rfl
   by_cases hk:k < O.length
   ·have hki:(k:Int) < (O.length:Int):=by omega
    have hkne:¬ (k:Int)=(O.length:Int):=by omega
    obtain ⟨ra,hra,hia⟩:=hrows.get (List.getElem?_eq_getElem hk)
    have hca:=zb hia
    obtain ⟨sid,sg,hlo,rfl,hb⟩:∃ sid sg,H.length≤sid∧w=.sl sid sg 0 rows.length∧s.heap[sid]? = some (.arr sg 1 rows):=by
     rcases hw with ⟨_,rfl⟩ | h
     ·simp at hra
     ·exact h
    have hkr:k < rows.length:=by omega
    have hra':rows[k]=ra:=by rw [List.getElem?_eq_getElem hkr] at hra; exact Option.some.inj hra
    have kb:=ze1 hb
    have nb:=lt_of hb
    have hcmp:=fun T=>zzc O[k] x ra r hia hr (hmem _ (List.getElem_mem hk)) htl T
    by_cases hc:tcmp O[k] x < 0
    ·simp [zo4,e1,g0,g3,g4,g5,hwlen,hki,kb,nb,hkr,hra,hra',hca,hidx,hcr,hcmp,hc]
     refine hgo' _ (n' - 1) (by omega) ⟨k + 1,by omega,fun j h hj=>?_,by simp [e1],by simp [e2],by simp [g0],by simp [g3],by simp [g4],by simp [hwk]⟩
     by_cases hjk:j=k
     ·subst hjk; exact hc
     ·exact hlt j h (by omega)
    ·have hins:=zsv x O k (by omega) hlt (fun _=>hc)
     simp [zo4,e1,g0,g3,g4,g5,hwlen,hki,kb,nb,hkr,hra,hra',hca,hidx,hcr,hcmp,hc]
     refine hx' _ _ (by simp) ?_
     simp
     unfold ztv
     by_cases hc0:tcmp O[k] x=0
     ·rw [if_pos ⟨hk,hc0⟩] at hins
      rw [hins] at hfs
      simp [e1,g0,g3,g4,g5,hwlen,hkne,kb,nb,hkr,hra,hra',hca,hidx,hcr,hcmp,hc0]
      refine hgo _ (n - 1) (by omega) ⟨i + 1,T,_,rows,by omega,by simp [hH],by simpa using hw,by rw [hfs]; exact hrows,by simp [e2],by simp [g0],by simp [g3],by simp [hwi]⟩
     ·rw [if_neg (by rintro ⟨_,h⟩; exact hc0 h)] at hins
      have hb0:(tcmp O[k] x == 0)=false:=by simpa using hc0
      simp [e1,g0,g3,g4,g5,hwlen,hkne,kb,nb,hkr,hra,hra',hca,hidx,hcr,hcmp,hc0,hb0]
      refine zsp (lo:=H.length) rows r k i (by omega) (.sl sid sg 0 rows.length) v _ (by simp [hH]) (by simpa using hw) hrow hcr (by omega) (by simp [g0]) (by simp [g3]) (by simp [g4]) (by simp [g5]) (by rw [hidx,hcr.2]) (fun T2 v' hS=>?_)
      simp at hS
      simp [g4]
      refine hgo _ (n - 1) (by omega) ⟨i + 1,T++T2,v',rows.take k++r::rows.drop k,by omega,by simp [hH],by simpa using hS,by rw [hfs,hins]; exact (hrows.take k).append (.cons hr (hrows.drop k)),by simp [e2],by simp [g0],by simp,by simp [hwi]⟩
   ·have hki:¬ (k:Int) < (O.length:Int):=by omega
    have hkl:k=O.length:=by omega
    have hins:=zsv x O k (by omega) hlt (fun h=>absurd h hk)
    simp [zo4,e1,g0,g3,g4,g5,hwlen,hki]
    refine hx' _ _ (by simp) ?_
    have hki2:(k:Int)=(O.length:Int):=by omega
    rw [if_neg (by rintro ⟨h,_⟩; exact hk h)] at hins
    simp
    unfold ztv
    simp [e1,g0,g3,g4,g5,hwlen,hki2]
    refine zsp (lo:=H.length) rows r k i (by omega) w v _ (by simp [hH]) (by simpa using hw) hrow hcr (by omega) (by simp [g0]) (by simp [g3]) (by simp [g4]) (by simp [g5]) (by rw [hidx,hcr.2]) (fun T2 v' hS=>?_)
    simp at hS
    simp [g4]
    refine hgo _ (n - 1) (by omega) ⟨i + 1,T++T2,v',rows.take k++r::rows.drop k,by omega,by simp [hH],by simpa using hS,by rw [hfs,hins]; exact (hrows.take k).append (.cons hr (hrows.drop k)),by simp [e2],by simp [g0],by simp,by simp [hwi]⟩
  ·have hii:¬ (i:Int) < (l.length:Int):=by omega
   have hil:i=l.length:=by omega
   rw [hil,List.take_length] at hrows
   simp [zgt,f0,f4,hlv,hii]
   refine hx _ _ (by simp) ?_
   simp [q2,f3]
   exact hF _ _ ⟨T,rows,hH,hw,hrows⟩)
 rw [hcall,show zy6.frz=true from rfl]
 rcases hw with ⟨rfl,rfl⟩ | ⟨sid,sg,hlo,rfl,hb⟩
 ·rw [zi9 hok rfl (z6 rfl)]
  refine ⟨.nilsl,rfl,?_⟩
  have e:sortT l=[]:=List.length_eq_zero_iff.1 hrows.length.symm
  rw [e]; exact IsL.nil
 ·have hre:reify (zs8 H.length (H++T)) zw (.sl sid sg 0 rows.length)=some (.fsl false rows):=by
   obtain ⟨j,rfl⟩:∃ j,sid=H.length + j:=⟨sid - H.length,by omega⟩
   exact zd5 (sz:=1) (R:=rows) (by rw [zeg]; rw [List.getElem?_append_right (by omega)] at hb; simpa using hb) (by simp) (by simp) hrows
  rw [zi9 hok rfl hre]
  exact ⟨_,rfl,IsL.fsl hrows⟩
end Go.Abs.Plan
namespace Go.Abs.Plan
open Enc (Is)
def z28 (ls:List (List Counted)) (hs:List Nat) (i:Nat):Option Counted:=match ls[i]?,hs[i]? with
 | some l,some h=>l[h]?
 | _,_=>none
def zj61 (ls:List (List Counted)) (hs:List Nat) (m:Nat) (b:Int):Prop:=
 (b = -1∧∀ i,i < m→z28 ls hs i=none)∨∃ (k:Nat) (c:Counted),b=(k:Int)∧k < m∧z28 ls hs k=some c∧∀ i,i < m→∀ d,z28 ls hs i=some d→¬ tcmp d.t c.t < 0
theorem zcf {ls:List (List Counted)} {hs:List Nat} {i:Nat} (h1:i < ls.length) (h2:i < hs.length):z28 ls hs i=(ls[i])[hs[i]]? := by
 simp [z28,h1,h2]
def Same5 (s' s:St):Prop:=s'.tm.get 0=s.tm.get 0∧s'.tm.get 3=s.tm.get 3∧s'.tm.get 4=s.tm.get 4∧s'.tm.get 5=s.tm.get 5
theorem zd51 {R:AExit→St→Prop} {ks:List KF} (ls:List (List Counted)) (hs:List Nat) (v:AV) (hv:Is v ls) (hlen:hs.length=ls.length) (hsm:ls.length≤2 ^ 20) (hll:∀ l∈ls,l.length≤2 ^ 30) (hh:∀ h∈hs,h≤2 ^ 30) (hts:∀ l∈ls,∀ c∈l,c.t.length < 2 ^ 40)
 (s:St) (hid hg:Nat) (hH:s.heap[hid]? = some (.arr hg 1 (hs.map fun n:Nat=>i64 (n:Int)))) (q2:s.dfr=[]) (f0:s.tm.get 0=v) (f3:s.tm.get 3=.sl hid hg 0 ls.length) (f6:s.tm.get 6=i64 (-1)) (f7:s.tm.get 7=i64 0)
 (hF:∀ s' b,s'.heap=s.heap→s'.dfr=[]→s'.rnd=s.rnd→Same5 s' s→s'.tm.get 6=i64 b→zj61 ls hs ls.length b→KONT (callW tbl) loopW ks .normal s' R) :
 EXEC (callW tbl) loopW (.loop zi3) (KF.block 2::ks) s R:=by
 have hlv:=IsL.len hv
 refine zg (fun n s'=>∃ (i:Nat) (b:Int),i + n=ls.length∧s'.heap=s.heap∧s'.dfr=[]∧s'.rnd=s.rnd∧Same5 s' s∧s'.tm.get 6=i64 b∧s'.tm.get 7=i64 i∧zj61 ls hs i b) ls.length
  ⟨0,-1,by omega,rfl,q2,rfl,⟨rfl,rfl,rfl,rfl⟩,f6,f7, .inl ⟨rfl,fun i h=>by omega⟩⟩ ?_
 rintro n s' Q ⟨i,b,h0,e1,e2,e2',e3,e6,e7,hb⟩ hgo hx
 have g0:s'.tm.get 0=v:=e3.1.trans f0
 have g3:s'.tm.get 3=.sl hid hg 0 ls.length:=e3.2.1.trans f3
 have hwi:IntKind.i64.wrap ((i:Int) + 1)=((i + 1:Nat):Int):=z61 (by omega) (by omega)
 have hH':s'.heap[hid]? = some (.arr hg 1 (hs.map fun n:Nat=>i64 (n:Int))):=by rw [e1]; exact hH
 have kh:=ze1 hH'
 have nh:=lt_of hH'
 by_cases hi:i < ls.length
 ·have hii:(i:Int) < (ls.length:Int):=by omega
  have hih:i < hs.length:=by omega
  obtain ⟨fl,r,hr,hidx⟩:=IsL.idx hv (List.getElem?_eq_getElem hi)
  simp only [show Enc.sz (List Counted)=1 from rfl] at hidx
  have hcr:=zb hr
  have hlr:=IsL.len hr
  have hho:=zcf hi hih
  have hhi:=hh _ (List.getElem_mem hih)
  have hlli:=hll _ (List.getElem_mem hi)
  have hmi:∀ c∈ls[i],c.t.length < 2 ^ 40:=hts _ (List.getElem_mem hi)
  have hget:hs[i]? = some hs[i]:=by simp [hih]
  by_cases hdone:hs[i] < (ls[i]).length
  ·have hge:¬ ((ls[i]).length:Int)≤(hs[i]:Int):=by omega
   have hgc:(ls[i])[hs[i]]? = some (ls[i])[hs[i]]:=by simp [hdone]
   obtain ⟨fl2,rc,⟨ta,hta,rfl⟩,hidc⟩:=IsL.idx hr hgc
   simp only [show Enc.sz Counted=2 from rfl] at hidc
   have hct:=zb hta
   have hcm:=hmi _ (List.getElem_mem hdone)
   rw [hgc] at hho
   rcases hb with ⟨rfl,hnone⟩ | ⟨k,c,rfl,hk,hkc,hmin⟩
   ·simp [zi3,g0,g3,e6,e7,hlv,hii,kh,nh,hi,hih,hget,hidx,hcr,hlr,hge]
    refine hgo _ (n - 1) (by omega) ?_
    refine ⟨i + 1,i,by omega,by simp [e1],by simp [e2],by simp [e2'],?_,by simp,by simp [hwi], .inr ⟨i,_,rfl,by omega,hho,fun j hj d hd=>?_⟩⟩
    ·simpa [Same5] using e3
    ·by_cases hji:j=i
     ·subst hji
      rw [hho] at hd; cases hd
      exact TLt.irrefl _
     ·rw [hnone j (by omega)] at hd; cases hd
   ·have hkl:k < ls.length:=by omega
    have hkh:k < hs.length:=by omega
    have hgk:hs[k]? = some hs[k]:=by simp [hkh]
    rw [zcf hkl hkh] at hkc
    obtain ⟨hkd,hkc'⟩:=List.getElem?_eq_some_iff.1 hkc
    obtain ⟨fl3,r3,hr3,hidx3⟩:=IsL.idx hv (List.getElem?_eq_getElem hkl)
    simp only [show Enc.sz (List Counted)=1 from rfl] at hidx3
    have hcr3:=zb hr3
    obtain ⟨fl4,rc4,⟨tb,htb,rfl⟩,hidc4⟩:=IsL.idx hr3 hkc
    simp only [show Enc.sz Counted=2 from rfl] at hidc4
    have hct4:=zb htb
    have hcm4:c.t.length < 2 ^ 40:=hts _ (List.getElem_mem hkl) c (by rw [← hkc']; exact List.getElem_mem hkd)
    have hk0:¬ (k:Int) < 0:=by omega
    have hcmp:=zzc (ls[i])[hs[i]].t c.t ta tb hta htb hcm hcm4 s'.heap
    by_cases hlt:tcmp (ls[i])[hs[i]].t c.t < 0
    ·simp [zi3,g0,g3,e6,e7,hlv,hii,kh,nh,hi,hih,hkl,hkh,hget,hgk,hidx,hidx3,hcr,hcr3,hlr,hge,hk0,hidc,hidc4,hct,hct4,hcmp,hlt,AV.rowok]
     refine hgo _ (n - 1) (by omega) ?_
     refine ⟨i + 1,i,by omega,by simp [e1],by simp [e2],by simp [e2'],?_,by simp,by simp [hwi], .inr ⟨i,_,rfl,by omega,hho,fun j hj d hd=>?_⟩⟩
     ·simpa [Same5] using e3
     ·by_cases hji:j=i
      ·subst hji
       rw [hho] at hd; cases hd
       exact TLt.irrefl _
      ·have h1:=hmin j (by omega) d hd
       intro h2
       exact h1 (z08 _ _ _ h2 hlt)
    ·simp [zi3,g0,g3,e6,e7,hlv,hii,kh,nh,hi,hih,hkl,hkh,hget,hgk,hidx,hidx3,hcr,hcr3,hlr,hge,hk0,hidc,hidc4,hct,hct4,hcmp,hlt,AV.rowok]
     refine hgo _ (n - 1) (by omega) ?_
     refine ⟨i + 1,k,by omega,by simp [e1],by simp [e2],by simp [e2'],?_,by simp [e6],by simp [hwi], .inr ⟨k,c,rfl,by omega,by rw [zcf hkl hkh]; exact hkc,fun j hj d hd=>?_⟩⟩
     ·simpa [Same5] using e3
     ·by_cases hji:j=i
      ·subst hji
       rw [hho] at hd; cases hd
       exact hlt
      ·exact hmin j (by omega) d hd
  ·have hge:((ls[i]).length:Int)≤(hs[i]:Int):=by omega
   have hnn:z28 ls hs i=none:=by rw [hho]; exact List.getElem?_eq_none (by omega)
   simp [zi3,g0,g3,e6,e7,hlv,hii,kh,nh,hi,hih,hget,hidx,hcr,hlr,hge]
   refine hgo _ (n - 1) (by omega) ?_
   refine ⟨i + 1,b,by omega,by simp [e1],by simp [e2],by simp [e2'],?_,by simp [e6],by simp [hwi],?_⟩
   ·simpa [Same5] using e3
   ·rcases hb with ⟨rfl,hnone⟩ | ⟨k,c,rfl,hk,hkc,hmin⟩
    ·refine .inl ⟨rfl,fun j hj=>?_⟩
     by_cases hji:j=i
     ·subst hji; exact hnn
     ·exact hnone j (by omega)
    ·refine .inr ⟨k,c,rfl,by omega,hkc,fun j hj d hd=>?_⟩
     by_cases hji:j=i
     ·subst hji; rw [hnn] at hd; cases hd
     ·exact hmin j (by omega) d hd
 ·have hii:¬ (i:Int) < (ls.length:Int):=by omega
  have hil:i=ls.length:=by omega
  simp [zi3,g0,e7,hlv,hii]
  refine hx _ _ (by simp) ?_
  simp
  exact hF _ b (by simp [e1]) (by simp [e2]) (by simp [e2']) (by simpa [Same5] using e3) (by simp [e6]) (by rw [← hil]; exact hb)
end Go.Abs.Plan
namespace Go.Abs.Plan
open Enc (Is)
def tot (D:List Counted) (t:Tup):Int:=((D.filter fun c=>decide (c.t=t)).map (·.n)).sum
def mass (D:List Counted):Nat:=(D.map fun c=>c.n.natAbs).sum
theorem zn5 (c:Counted) (D:List Counted) (t:Tup):tot (c::D) t=(if c.t=t then c.n else 0) + tot D t:=by
 unfold tot
 by_cases h:c.t=t <;> simp [h]
theorem ztp (A B:List Counted) (t:Tup):tot (A++B) t=tot A t + tot B t:=by
 induction A with
 | nil=>simp [tot]
 | cons c A ih=>rw [List.cons_append,zn5,zn5,ih]; omega
theorem ze51 {A B:List Counted} (h:A.Perm B) (t:Tup):tot A t=tot B t:=by
 induction h with
 | nil=>rfl
 | cons x _ ih=>rw [zn5,zn5,ih]
 | swap x y l=>simp only [zn5]; omega
 | trans _ _ h1 h2=>rw [h1,h2]
theorem zdf (c:Counted) (D:List Counted):mass (c::D)=c.n.natAbs + mass D:=by simp [mass]
theorem zfn (A B:List Counted):mass (A++B)=mass A + mass B:=by simp [mass]
theorem zn21 {A B:List Counted} (h:A.Perm B):mass A=mass B:=by
 induction h with
 | nil=>rfl
 | cons x _ ih=>rw [zdf,zdf,ih]
 | swap x y l=>simp only [zdf]; omega
 | trans _ _ h1 h2=>rw [h1,h2]
theorem zf51 (D:List Counted) (t:Tup):(tot D t).natAbs≤mass D:=by
 induction D with
 | nil=>simp [tot,mass]
 | cons c D ih=>
   rw [zn5,zdf]
   split <;> omega
def rest (ls:List (List Counted)) (hs:List Nat):List Counted:=(List.zipWith (fun l h=>l.drop h) ls hs).flatten
theorem zgn:∀ {ls:List (List Counted)} {hs:List Nat} {k:Nat} {c:Counted},z28 ls hs k=some c→∃ h,hs[k]? = some h∧(rest ls hs).Perm (c::rest ls (hs.set k (h + 1)))
 | [],hs,k,c,h=>by simp [z28] at h
 | l::ls,[],k,c,h=>by
   unfold z28 at h
   split at h
   ·rename_i h2; simp at h2
   ·cases h
 | l::ls,a::hs,0,c,h=>by
   have h':l[a]? = some c:=by simpa [z28] using h
   obtain ⟨h1,h2⟩:=List.getElem?_eq_some_iff.1 h'
   refine ⟨a,rfl,?_⟩
   simp only [rest,List.zipWith_cons_cons,List.flatten_cons,List.set_cons_zero]
   rw [List.drop_eq_getElem_cons h1,h2]
   exact List.Perm.refl _
 | l::ls,a::hs,k + 1,c,h=>by
   have h':z28 ls hs k=some c:=by simpa [z28] using h
   obtain ⟨x,h1,h2⟩:=zgn h'
   refine ⟨x,by simpa using h1,?_⟩
   simp only [rest,List.zipWith_cons_cons,List.flatten_cons,List.set_cons_succ] at h2 ⊢
   exact (List.Perm.append_left _ h2).trans List.perm_middle
theorem zht {ls:List (List Counted)} {hs:List Nat} {d:Counted} (hlen:hs.length=ls.length) (h:d∈rest ls hs):∃ (i:Nat) (e:Counted) (hi:i < ls.length) (hh:i < hs.length),z28 ls hs i=some e∧d∈(ls[i]).drop hs[i]:=by
 unfold rest at h
 obtain ⟨l,hl,hd⟩:=List.mem_flatten.1 h
 obtain ⟨i,hi,rfl⟩:=List.mem_iff_getElem.1 hl
 simp only [List.length_zipWith] at hi
 rw [List.getElem_zipWith] at hd
 have h1:i < ls.length:=by omega
 have h2:i < hs.length:=by omega
 have hlt:hs[i] < (ls[i]).length:=by
  rcases Nat.lt_or_ge hs[i] (ls[i]).length with h | h
  ·exact h
  ·rw [List.drop_eq_nil_of_le h] at hd; cases hd
 exact ⟨i,(ls[i])[hs[i]],h1,h2,by rw [zcf h1 h2]; simp [hlt],hd⟩
theorem zg51 {ls:List (List Counted)} {hs:List Nat} (hlen:hs.length=ls.length) (h:∀ i,i < ls.length→z28 ls hs i=none):rest ls hs=[]:=by
 rcases hr:rest ls hs with _ | ⟨d,r⟩
 ·rfl
 ·obtain ⟨i,e,h1,h2,h3,_⟩:=zht (d:=d) hlen (by rw [hr]; simp)
  rw [h i h1] at h3; cases h3
theorem z381 {ls:List (List Counted)} {hs:List Nat} {c:Counted} (hlen:hs.length=ls.length) (hso:∀ l∈ls,l.Pairwise fun a b=>¬ TLt b.t a.t) (hmin:∀ i,i < ls.length→∀ d,z28 ls hs i=some d→¬ tcmp d.t c.t < 0):∀ d∈rest ls hs,¬ TLt d.t c.t:=by
 intro d hd
 obtain ⟨i,e,h1,h2,h3,h4⟩:=zht hlen hd
 have h5:=hmin i h1 e h3
 rw [zcf h1 h2] at h3
 obtain ⟨h6,h7⟩:=List.getElem?_eq_some_iff.1 h3
 rw [List.drop_eq_getElem_cons h6,h7] at h4
 rcases List.mem_cons.1 h4 with rfl | h4
 ·exact h5
 ·have hp:=hso _ (List.getElem_mem h1)
  have hp2:((ls[i]).drop hs[i]).Pairwise fun a b=>¬ TLt b.t a.t:=hp.sublist (List.drop_sublist _ _)
  rw [List.drop_eq_getElem_cons h6,h7] at hp2
  have:=(List.pairwise_cons.1 hp2).1 d h4
  exact zug _ _ _ this h5
structure zfb (D outs:List Counted):Prop where
 srt:outs.Pairwise fun a b=>TLt a.t b.t
 nz:∀ x∈outs.dropLast,x.n≠0
 val:∀ x∈outs,x.n=tot D x.t
 non:∀ t,(∀ x∈outs,x.t≠t)→tot D t=0
def trimC (outs:List Counted):List Counted:=match outs.getLast? with
 | some x=>if x.n=0 then outs.dropLast else outs
 | none=>outs
structure SumIs (D out:List Counted):Prop where
 srt:out.Pairwise fun a b=>TLt a.t b.t
 mem:∀ c,c∈out↔c.n≠0∧c.n=tot D c.t
theorem zfb.nil:zfb [] []:=⟨.nil,by simp,by simp,fun t _=>rfl⟩
theorem z38 {α:Type} (l:List α):l=[]∨∃ a x,l=a++[x]:=by
 rcases List.eq_nil_or_concat l with h | ⟨a,x,h⟩
 ·exact .inl h
 ·exact .inr ⟨a,x,by simpa using h⟩
theorem zza (a:List Counted) (x:Counted):trimC (a++[x])=if x.n=0 then a else a++[x]:=by simp [trimC]
theorem zfb.trim {D outs:List Counted} (h:zfb D outs):SumIs D (trimC outs):=by
 rcases z38 outs with rfl | ⟨a,x,rfl⟩
 ·exact ⟨.nil,fun c=>⟨fun hc=>by simp [trimC] at hc,fun ⟨h1,h2⟩=>absurd (h2.trans (h.non c.t (by simp))) h1⟩⟩
 ·rw [zza]
  have hnz:=h.nz
  rw [List.dropLast_concat] at hnz
  obtain ⟨p1,p2,p3⟩:=List.pairwise_append.1 h.srt
  split
  ·rename_i hx0
   refine ⟨p1,fun c=>⟨fun hc=>⟨hnz c hc,h.val c (by simp [hc])⟩,fun ⟨h1,h2⟩=>?_⟩⟩
   by_cases hm:∃ y∈a++[x],y.t=c.t
   ·obtain ⟨y,hy,hyt⟩:=hm
    have hyn:=h.val y hy
    rw [hyt,← h2] at hyn
    have:y=c:=by cases y; cases c; simp_all
    subst this
    rcases List.mem_append.1 hy with hy | hy
    ·exact hy
    ·simp at hy; subst hy; exact absurd hx0 h1
   ·have:=h.non c.t (fun y hy e=>hm ⟨y,hy,e⟩)
    exact absurd (h2.trans this) h1
  ·rename_i hx0
   refine ⟨h.srt,fun c=>⟨fun hc=>⟨?_,h.val c hc⟩,fun ⟨h1,h2⟩=>?_⟩⟩
   ·rcases List.mem_append.1 hc with hc | hc
    ·exact hnz c hc
    ·simp at hc; subst hc; exact hx0
   ·by_cases hm:∃ y∈a++[x],y.t=c.t
    ·obtain ⟨y,hy,hyt⟩:=hm
     have hyn:=h.val y hy
     rw [hyt,← h2] at hyn
     have:y=c:=by cases y; cases c; simp_all
     subst this
     exact hy
    ·have:=h.non c.t (fun y hy e=>hm ⟨y,hy,e⟩)
     exact absurd (h2.trans this) h1
theorem zfb.add {D a:List Counted} {x c:Counted} (h:zfb D (a++[x])) (ht:x.t=c.t):zfb (c::D) (a++[⟨x.t,x.n + c.n⟩]):=by
 obtain ⟨p1,p2,p3⟩:=List.pairwise_append.1 h.srt
 refine ⟨List.pairwise_append.2 ⟨p1,by simp,fun y hy z hz=>?_⟩,by rw [List.dropLast_concat]; have:=h.nz; rwa [List.dropLast_concat] at this,fun y hy=>?_,fun t hn=>?_⟩
 ·simp at hz; subst hz; exact p3 y hy x (by simp)
 ·rw [zn5]
  rcases List.mem_append.1 hy with hy | hy
  ·have hlt:=p3 y hy x (by simp)
   have hne:¬ c.t=y.t:=fun e=>by rw [← ht] at e; rw [e] at hlt; exact TLt.irrefl _ hlt
   rw [if_neg hne,h.val y (by simp [hy])]; omega
  ·simp at hy; subst hy
   have:=h.val x (by simp)
   simp only
   rw [if_pos ht.symm,this]; omega
 ·rw [zn5]
  have h1:=hn ⟨x.t,x.n + c.n⟩ (by simp)
  rw [if_neg (fun e=>h1 (by rw [← e]; exact ht)),h.non t (fun y hy=>by
   rcases List.mem_append.1 hy with hy | hy
   ·exact hn y (by simp [hy])
   ·simp at hy; subst hy; exact h1)]
  rfl
theorem zfb.push {D outs:List Counted} {c:Counted} (h:zfb D outs) (hlt:∀ x∈outs,TLt x.t c.t):zfb (c::D) (trimC outs++[c]):=by
 have ht:=h.trim
 have hsub:∀ x∈trimC outs,x∈outs:=fun x hx=>by
  rcases z38 outs with rfl | ⟨a,y,rfl⟩
  ·simp [trimC] at hx
  ·rw [zza] at hx
   split at hx
   ·exact List.mem_append.2 (.inl hx)
   ·exact hx
 have hD:tot D c.t=0:=h.non c.t (fun x hx e=>by have:=hlt x hx; rw [e] at this; exact TLt.irrefl _ this)
 refine ⟨List.pairwise_append.2 ⟨ht.srt,by simp,fun y hy z hz=>?_⟩,by rw [List.dropLast_concat]; exact fun x hx=>((ht.mem x).1 hx).1,fun y hy=>?_,fun t hn=>?_⟩
 ·simp at hz; subst hz; exact hlt y (hsub y hy)
 ·rw [zn5]
  rcases List.mem_append.1 hy with hy | hy
  ·have h1:=hlt y (hsub y hy)
   have hne:¬ c.t=y.t:=fun e=>by rw [e] at h1; exact TLt.irrefl _ h1
   rw [if_neg hne,((ht.mem y).1 hy).2]; omega
  ·simp at hy; subst hy
   rw [if_pos rfl,hD]; omega
 ·rw [zn5,if_neg (hn c (by simp))]
  by_cases h0:tot D t=0
  ·rw [h0]; rfl
  ·exact absurd rfl (hn ⟨t,tot D t⟩ (List.mem_append.2 (.inl ((ht.mem _).2 ⟨h0,rfl⟩))))
theorem SumIs.perm {D D' out:List Counted} (h:SumIs D out) (hp:D.Perm D'):SumIs D' out:=⟨h.srt,fun c=>by rw [h.mem,ze51 hp]⟩
theorem SumIs.unique {D D' a b:List Counted} (ha:SumIs D a) (hb:SumIs D' b) (h:∀ t,tot D t=tot D' t):a=b:=by
 have nod:∀ {l:List Counted},(l.Pairwise fun a b=>TLt a.t b.t)→l.Nodup:=fun h=>h.imp (fun hab e=>by subst e; exact TLt.irrefl _ hab)
 refine ztg (R:=fun a b:Counted=>TLt a.t b.t) (fun a b h=>TLt.asymm h) ha.srt hb.srt ?_
 exact zrg (nod ha.srt) (nod hb.srt) (fun c=>by rw [ha.mem,hb.mem,h])
end Go.Abs.Plan
namespace Go.Abs.Plan
open Enc (Is)
def zo21:ACode:=(SS (RR [mV 128 4,uu 129 (.load true 2 (tt 9)),uu 130 (.buildSliceF (.agg [.nilsl,(.int .i64 0)]) 1 [(0,(tt 129))]),uu 131 (.append 2 32 (tt 128) (tt 130)),kM 4 131])
 (RR [kk 5 (.move (.const (.bool true)))]))
def zit:ACode:=(SS (SS (RR [mV 116 5,mV 117 116,gV 118 4 117 true,gV 119 8 117 true,ug 120 (.indexAddr 2 (tt 118) (tt 119)) 117 true,ug 121 (.fieldAddr 1 (tt 120)) 117 true,ug 122 (.load false 1 (tt 121)) 117 true,ug 123 (.bin .eql .no (tt 122) (ii 0)) 117 true,kk 124 (.pick (tt 117) (tt 123) (.const (.bool false)))])
 (.cond (tt 124) (RR [mV 125 4,mV 126 8,uu 127 (.slice 2 (tt 125) none (some (tt 126))),kM 4 127]) .skip))
 zo21)
def zjt:ACode:=(SS (SS (.draw [mV 92 5,mV 93 92,gV 94 4 93 true,gV 95 8 93 true,ug 96 (.indexAddr 2 (tt 94) (tt 95)) 93 true,ug 97 (.fieldAddr 0 (tt 96)) 93 true,ug 98 (.load false 1 (tt 97)) 93 true,ug 99 (.fieldAddr 0 (tt 9)) 93 true,ug 100 (.load false 1 (tt 99)) 93 true,ug 101 (.call (.func zv1) [(tt 98),(tt 100)]) 93 true,ug 102 (.bin .eql .no (tt 101) (ii 0)) 93 true,kk 103 (.pick (tt 93) (tt 102) (.const (.bool false)))] [])
 (.cond (tt 103) (SS (.draw [mV 104 4,mV 105 8,mV 106 4,mV 107 8,iX 108 2 106 107,fA 109 1 108,lD 110 109,fA 111 1 9,lD 112 111,uu 113 (.bin .add .no (tt 110) (tt 112)),iX 114 2 104 105,fA 115 1 114,nn (.store 1 (tt 115) (tt 113))] [])
 (.exit 1)) .skip))
 zit)
def z9x:ACode:=(SS (.draw [mV 76 0,mV 77 6,iX 78 1 76 77,lD 79 78,mV 80 3,mV 81 6,iX 82 1 80 81,lD 83 82,iX 84 2 79 83,uu 85 (.load true 2 (tt 84)),kk 9 (.alloc (.agg [.nilsl,(.int .i64 0)])),nn (.store 2 (tt 9) (tt 85))] [(2,10),(3,10),(6,10),(7,10),(8,10),(9,10)])
 (SS (RR [mV 86 3,mV 87 6,iX 88 1 86 87,lD 89 88,iC 90 89,iX 91 1 86 87,nn (.store 1 (tt 91) (tt 90))])
 zjt))
def zup:ACode:=(SS (RR [mV 58 4,lN 59 58,uu 60 (.bin .sub .no (tt 59) (ii 1)),kM 8 60])
 (SS (SS (RR [mV 61 6,kk 62 (.bin .lss .no (tt 61) (ii 0))])
 (.cond (tt 62) (SS (SS (RR [mV 63 5,mV 64 63,gV 65 4 64 true,gV 66 8 64 true,ug 67 (.indexAddr 2 (tt 65) (tt 66)) 64 true,ug 68 (.fieldAddr 1 (tt 67)) 64 true,ug 69 (.load false 1 (tt 68)) 64 true,ug 70 (.bin .eql .no (tt 69) (ii 0)) 64 true,kk 71 (.pick (tt 64) (tt 70) (.const (.bool false)))])
 (.cond (tt 71) (RR [mV 72 4,mV 73 8,uu 74 (.slice 2 (tt 72) none (some (tt 73))),kM 4 74]) .skip))
 (SS (RR [mV 75 4,kM 2 75])
 .ret)) .skip))
 z9x))
theorem z9a1:zuf=(.block 1 (SS (RR [kk 6 (.move (ii (-1)))])
 (SS (SS (RR [kk 7 (.move (ii 0))])
 (.block 2 (.loop zi3)))
 zup))):=rfl
def OutAt (lo:Nat) (H:Heap) (w:AV) (outs:List Counted):Prop:=
 (outs=[]∧w=.nilsl)∨∃ id g R,lo < id∧w=.sl id g 0 outs.length∧H[id]? = some (.arr g 2 R)∧outs.length≤R.length∧All2 Is (R.take outs.length) outs
theorem OutAt.len {lo:Nat} {H:Heap} {w:AV} {outs:List Counted} (h:OutAt lo H w outs):lenA w=.val (.int .i64 outs.length):=by
 rcases h with ⟨rfl,rfl⟩ | ⟨_,_,_,_,rfl,_⟩ <;> rfl
theorem OutAt.mono {lo:Nat} {H H':Heap} {w:AV} {outs:List Counted} (h:OutAt lo H w outs) (hH:∀ (j:Nat) (B:Blk),lo < j→H[j]? = some B→H'[j]? = some B):OutAt lo H' w outs:=by
 rcases h with h | ⟨id,g,R,h1,h2,h3,h4⟩
 ·exact .inl h
 ·exact .inr ⟨id,g,R,h1,h2,hH _ _ h1 h3,h4⟩
theorem OutAt.push {call:CallF} {lp:LoopF} {lo:Nat} {H:Heap} {w r:AV} {outs:List Counted} {c:Counted} {fl:Bool} (h:OutAt lo H w outs) (hlo:lo < H.length) (hr:Is r c) (hb:outs.length + 1≤2 ^ 30) :
 ∃ w' H',OutAt lo H' w' (outs++[c])∧(∀ j,j≤lo→H'[j]? = H[j]?)∧∀ (dst:Option Nat) (keep:Bool) (os:List AOper) (loc:List (Nat×AV)) (s:St) (ks:List KF) (R:AExit→St→Prop),s.heap=H →
   ACTK call lp (zh1 2 32 w (.fsl fl [r])) dst keep os loc s ks R=ACTK call lp (.val w') dst keep os loc { s with heap:=H' } ks R:=by
 have hro:r.rowok 2=true:=Enc.row hr
 rcases h with ⟨rfl,rfl⟩ | ⟨id,g,R,h1,rfl,h3,h4,h5⟩
 ·refine ⟨.sl H.length 0 0 1,H++[.arr 0 2 [r]], .inr ⟨H.length,0,[r],hlo,rfl,by simp,by simp, .cons hr .nil⟩,fun j hj=>List.getElem?_append_left (by omega),fun dst keep os loc s ks R hs=>?_⟩
  subst hs
  simp only [zh1,List.length_singleton,zg3 (show (1:Nat)≠0 by omega),room,show (1 * 32≤140737488355328)=True from eq_true (by omega),decide_true,if_true,ztu,List.all_cons,hro,List.all_nil,Bool.and_true,zeq]
 ·have hid:=lt_of h3
  have hroom:(outs.length + 1) * 32≤140737488355328:=by omega
  by_cases hfit:outs.length + 1≤R.length
  ·have hsp:splice R outs.length [r]=R.take outs.length++[r]++R.drop (outs.length + 1):=by simp [splice]
   refine ⟨.sl id g 0 (outs.length + 1),H.set id (.arr g 2 (splice R outs.length [r])), .inr ⟨id,g,splice R outs.length [r],h1,by simp,by simp [hid],by rw [hsp]; simp; omega,?_⟩,fun j hj=>by rw [List.getElem?_set_ne (by omega)],fun dst keep os loc s ks R' hs=>?_⟩
   ·rw [hsp,show (outs++[c]).length=(List.take outs.length R++[r]).length by simp; omega,List.take_left]
    exact h5.append (.cons hr .nil)
   ·subst hs
    have hh:=ze1 h3
    simp only [zh1,List.length_singleton,zi1 (show (1:Nat)≠0 by omega),room,hroom,decide_true,if_true,zdq,zql,hh,List.all_cons,hro,List.all_nil,Bool.and_true,Nat.zero_add,h4,and_self,hfit,zfh,hid,true_and]
  ·refine ⟨.sl id (g + 1) 0 (outs.length + 1),H.set id (.arr (g + 1) 2 (R.take outs.length++[r])), .inr ⟨id,g + 1,R.take outs.length++[r],h1,by simp,by simp [hid],by simp; omega,?_⟩,fun j hj=>by rw [List.getElem?_set_ne (by omega)],fun dst keep os loc s ks R' hs=>?_⟩
   ·rw [show (outs++[c]).length=(List.take outs.length R++[r]).length by simp; omega,List.take_length]
    exact h5.append (.cons hr .nil)
   ·subst hs
    have hh:=ze1 h3
    simp only [zh1,List.length_singleton,zi1 (show (1:Nat)≠0 by omega),room,hroom,decide_true,if_true,zdq,zql,hh,List.all_cons,hro,List.all_nil,Bool.and_true,Nat.zero_add,h4,and_self,hfit,if_false,zfh,hid,List.drop_zero,true_and]
theorem OutAt.last {lo:Nat} {H:Heap} {w:AV} {a:List Counted} {x:Counted} (h:OutAt lo H w (a++[x])):∃ id g R ta,lo < id∧w=.sl id g 0 (a.length + 1)∧H[id]? = some (.arr g 2 R)∧a.length + 1≤R.length∧All2 Is (R.take a.length) a∧Is ta x.t∧R[a.length]? = some (.agg [ta,i64 x.n]):=by
 rcases h with ⟨h,_⟩ | ⟨id,g,R,h1,h2,h3,h4,h5⟩
 ·simp at h
 ·simp only [List.length_append,List.length_singleton] at h2 h4 h5
  have hR:R.take (a.length + 1)=R.take a.length++[R[a.length]]:=by rw [List.take_add_one,List.getElem?_eq_getElem (by omega)]; rfl
  have h5o:=h5
  rw [hR] at h5
  obtain ⟨ta,hta,hra⟩:=h5.get (i:=a.length) (b:=x) (by simp)
  rw [List.getElem?_append_right (by simp; omega)] at hta
  simp only [List.length_take,Nat.min_eq_left (show a.length≤R.length by omega),Nat.sub_self,List.getElem?_cons_zero,Option.some.injEq] at hta
  obtain ⟨tb,htb,hrb⟩:=hra
  refine ⟨id,g,R,tb,h1,h2,h3,h4,?_,htb,by rw [List.getElem?_eq_getElem (by omega),hta,hrb]⟩
  have:=h5o.take a.length
  rw [List.take_take,Nat.min_eq_left (by omega),List.take_left] at this
  exact this
theorem OutAt.trim {lo:Nat} {H:Heap} {a:List Counted} {id g:Nat} {R:List AV} (h1:lo < id) (h3:H[id]? = some (.arr g 2 R)) (h4:a.length≤R.length) (h5:All2 Is (R.take a.length) a):OutAt lo H (.sl id g 0 a.length) a:=.inr ⟨id,g,R,h1,rfl,h3,h4,h5⟩
theorem sum5 {R:AExit→St→Prop} {ks:List KF} (s:St) (lo:Nat) (outs:List Counted) (c:Counted) (ta:AV) (cid cg:Nat) (hO:OutAt lo s.heap (s.tm.get 4) outs) (hlo:lo < s.heap.length) (hta:Is ta c.t) (hc:s.heap[cid]? = some (.arr cg 2 [.agg [ta,i64 c.n]])) (f9:s.tm.get 9=.ptr cid cg 0 0) (hb:outs.length + 1≤2 ^ 30)
 (hF:∀ s',OutAt lo s'.heap (s'.tm.get 4) (outs++[c])→(∀ j,j≤lo→s'.heap[j]? = s.heap[j]?)→s'.dfr=s.dfr→s'.tm.get 0=s.tm.get 0→s'.tm.get 3=s.tm.get 3→s'.tm.get 5=.bool true→KONT (callW tbl) loopW ks .normal s' R) :
 EXEC (callW tbl) loopW zo21 ks s R:=by
 have kc:=ze1 hc
 have nc:=lt_of hc
 have hct:=zb hta
 have hrow:AV.rowok 2 (.agg [ta,i64 c.n])=true:=by simp [AV.rowok,hct.1]
 obtain ⟨w',H',p1,p2,p3⟩:=OutAt.push (call:=callW tbl) (lp:=loopW) (fl:=false) (r:=.agg [ta,i64 c.n]) hO hlo (show Is _ c from ⟨ta,hta,rfl⟩) hb
 simp [zo21,f9,kc,nc,hct,hrow,zr,p3]
 exact hF _ (by simpa using p1) (by simpa using p2) (by simp) (by simp) (by simp) (by simp)
theorem sum4 {R:AExit→St→Prop} {ks:List KF} (s:St) (lo:Nat) (outs:List Counted) (c:Counted) (ta:AV) (cid cg:Nat) (hO:OutAt lo s.heap (s.tm.get 4) outs) (hlo:lo < s.heap.length) (hta:Is ta c.t) (hc:s.heap[cid]? = some (.arr cg 2 [.agg [ta,i64 c.n]])) (f9:s.tm.get 9=.ptr cid cg 0 0) (hb:outs.length + 1≤2 ^ 30)
 (f5:s.tm.get 5=.bool (decide (outs≠[]))) (f8:s.tm.get 8=i64 (outs.length - 1))
 (hF:∀ s',OutAt lo s'.heap (s'.tm.get 4) (trimC outs++[c])→(∀ j,j≤lo→s'.heap[j]? = s.heap[j]?)→s'.dfr=s.dfr→s'.tm.get 0=s.tm.get 0→s'.tm.get 3=s.tm.get 3→s'.tm.get 5=.bool true→KONT (callW tbl) loopW ks .normal s' R) :
 EXEC (callW tbl) loopW zit ks s R:=by
 rcases z38 outs with rfl | ⟨a,x,rfl⟩
 ·simp [zit,f5]
  exact sum5 _ lo [] c ta cid cg (by simpa using hO) (by simpa using hlo) hta (by simpa using hc) (by simp [f9]) hb (fun s' h1 h2 h3 h4 h5 h6=>hF s' (by simpa [trimC] using h1) (by simpa using h2) (by simpa using h3) (by simpa using h4) (by simpa using h5) h6)
 ·obtain ⟨id,g,R0,tx,h1,h2,h3,h4,h5,htx,hRx⟩:=hO.last
  have kb:=ze1 h3
  have nb:=lt_of h3
  have f8':s.tm.get 8=i64 (a.length:Int):=by rw [f8]; simp
  have hax:a.length < R0.length:=by omega
  have hR':R0[a.length]=.agg [tx,i64 x.n]:=by rw [List.getElem?_eq_getElem hax] at hRx; exact Option.some.inj hRx
  have hctx:=zb htx
  have hb1:=zgi (len:=a.length + 1) (a:=a.length) (a.length + 1) (by omega)
  have hb0:Go.Abs.bound 0 a.length none=some 0:=rfl
  simp only [List.length_append,List.length_singleton] at hb
  rw [zza] at hF
  by_cases hx0:x.n=0
  ·rw [if_pos hx0] at hF
   simp [zit,f5,f8',h2,kb,nb,hax,hRx,hR',hctx,AV.rowok,hx0,hb1,hb0,h4]
   refine sum5 _ lo a c ta cid cg ?_ ?_ hta ?_ ?_ (by omega) (fun s' g1 g2 g3 g4 g5 g6=>hF s' g1 ?_ ?_ ?_ ?_ g6)
   ·simpa using OutAt.trim h1 h3 (by omega) h5
   ·simpa using hlo
   ·simpa using hc
   ·simp [f9]
   ·simpa using g2
   ·simpa using g3
   ·simpa using g4
   ·simpa using g5
  ·rw [if_neg hx0] at hF
   have hO':OutAt lo s.heap (.sl id g 0 (a.length + 1)) (a++[x]):=by rw [← h2]; exact hO
   simp [zit,f5,f8',h2,kb,nb,hax,hRx,hR',hctx,AV.rowok,hx0]
   exact sum5 _ lo (a++[x]) c ta cid cg (by simpa [h2] using hO') (by simpa using hlo) hta (by simpa using hc) (by simp [f9]) (by simp; omega) (fun s' g1 g2 g3 g4 g5 g6=>hF s' g1 (by simpa using g2) (by simpa using g3) (by simpa using g4) (by simpa using g5) g6)
end Go.Abs.Plan
namespace Go.Abs.Plan
open Enc (Is)
theorem sum3 {R:AExit→St→Prop} {ks:List KF} (s:St) (lo:Nat) (outs:List Counted) (c:Counted) (ta:AV) (cid cg:Nat) (hO:OutAt lo s.heap (s.tm.get 4) outs) (hlo:lo < s.heap.length) (hta:Is ta c.t) (hc:s.heap[cid]? = some (.arr cg 2 [.agg [ta,i64 c.n]])) (f9:s.tm.get 9=.ptr cid cg 0 0) (hb:outs.length + 1≤2 ^ 30)
 (f5:s.tm.get 5=.bool (decide (outs≠[]))) (f8:s.tm.get 8=i64 (outs.length - 1)) (hct:c.t.length < 2 ^ 40) (hot:∀ x∈outs,x.t.length < 2 ^ 40) (hw:∀ x∈outs,x.t=c.t→IntKind.i64.wrap (x.n + c.n)=x.n + c.n)
 (hne:∀ id g n,s.tm.get 4=.sl id g 0 n→id≠cid)
 (hF1:∀ s' a x,outs=a++[x]→x.t=c.t→OutAt lo s'.heap (s'.tm.get 4) (a++[⟨x.t,x.n + c.n⟩])→(∀ j,j≤lo→s'.heap[j]? = s.heap[j]?)→s'.dfr=s.dfr→s'.tm.get 0=s.tm.get 0→s'.tm.get 3=s.tm.get 3→s'.tm.get 5=.bool true→KONT (callW tbl) loopW ks (.exit 1) s' R)
 (hF2:(∀ x,outs.getLast? = some x→x.t≠c.t)→∀ s',OutAt lo s'.heap (s'.tm.get 4) (trimC outs++[c])→(∀ j,j≤lo→s'.heap[j]? = s.heap[j]?)→s'.dfr=s.dfr→s'.tm.get 0=s.tm.get 0→s'.tm.get 3=s.tm.get 3→s'.tm.get 5=.bool true→KONT (callW tbl) loopW ks .normal s' R) :
 EXEC (callW tbl) loopW zjt ks s R:=by
 have kc:=ze1 hc
 have nc:=lt_of hc
 have hca:=zb hta
 rcases z38 outs with rfl | ⟨a,x,rfl⟩
 ·simp [zjt,f5]
  refine sum4 _ lo [] c ta cid cg ?_ ?_ hta ?_ ?_ hb ?_ ?_ (fun s' h1 h2 h3 h4 h5 h6=>hF2 (by simp) s' h1 ?_ ?_ ?_ ?_ h6)
  ·simpa using hO
  ·simpa using hlo
  ·simpa using hc
  ·simp [f9]
  ·simp [f5]
  ·simpa using f8
  ·simpa using h2
  ·simpa using h3
  ·simpa using h4
  ·simpa using h5
 ·obtain ⟨id,g,R0,tx,h1,h2,h3,h4,h5,htx,hRx⟩:=hO.last
  have kb:=ze1 h3
  have nb:=lt_of h3
  have hidc:=hne id g _ h2
  have f8':s.tm.get 8=i64 (a.length:Int):=by rw [f8]; simp
  have hax:a.length < R0.length:=by omega
  have hR':R0[a.length]=.agg [tx,i64 x.n]:=by rw [List.getElem?_eq_getElem hax] at hRx; exact Option.some.inj hRx
  have hctx:=zb htx
  have hcmp:=zzc x.t c.t tx ta htx hta (hot x (by simp)) hct s.heap
  by_cases he:x.t=c.t
  ·have h0:=(z8c x.t c.t).2 he
   have hww:=hw x (by simp) he
   simp [zjt,f5,f8',f9,h2,kb,nb,kc,nc,hax,hRx,hR',hctx,hca,AV.rowok,hcmp,h0,hww,hidc,zz]
   refine hF1 _ a x rfl he ?_ ?_ ?_ ?_ ?_ ?_
   ·simp [h2]
    refine .inr ⟨id,g,R0.set a.length (.agg [tx,i64 (x.n + c.n)]),h1,by simp,by simp [nb]; rfl,by simp; omega,?_⟩
    have e:(R0.set a.length (.agg [tx,i64 (x.n + c.n)])).take (a++[(⟨x.t,x.n + c.n⟩:Counted)]).length=R0.take a.length++[.agg [tx,i64 (x.n + c.n)]]:=by
     simp only [List.length_append,List.length_singleton]
     rw [List.take_add_one,List.getElem?_set_self hax]
     simp [List.take_set_of_le]
    rw [e]
    exact h5.append (.cons (show Is (AV.agg [tx,i64 (x.n + c.n)]) (⟨x.t,x.n + c.n⟩:Counted) from ⟨tx,htx,rfl⟩) .nil)
   ·intro j hj
    simp
    rw [List.getElem?_set_ne (by omega)]
   ·simp
   ·simp
   ·simp
   ·simp [f5]
  ·have h0:¬ tcmp x.t c.t=0:=fun h=>he ((z8c x.t c.t).1 h)
   simp [zjt,f5,f8',f9,h2,kb,nb,kc,nc,hax,hRx,hR',hctx,hca,AV.rowok,hcmp,h0]
   refine sum4 _ lo (a++[x]) c ta cid cg ?_ ?_ hta ?_ ?_ hb ?_ ?_ (fun s' h1 h2 h3 h4 h5 h6=>hF2 (by simpa using he) s' h1 ?_ ?_ ?_ ?_ h6)
   ·simpa using hO
   ·simpa using hlo
   ·simpa using hc
   ·simp [f9]
   ·simp [f5]
   ·simpa using f8
   ·simpa using h2
   ·simpa using h3
   ·simpa using h4
   ·simpa using h5
theorem sum2 {R:AExit→St→Prop} {ks:List KF} (ls:List (List Counted)) (hs:List Nat) (v:AV) (hv:Is v ls) (hlen:hs.length=ls.length) (k:Nat) (c:Counted) (hk:z28 ls hs k=some c) (hh:∀ h∈hs,h≤2 ^ 30)
 (s:St) (lo hg:Nat) (outs:List Counted) (hH:s.heap[lo]? = some (.arr hg 1 (hs.map fun n:Nat=>i64 (n:Int)))) (hO:OutAt lo s.heap (s.tm.get 4) outs) (f0:s.tm.get 0=v) (f3:s.tm.get 3=.sl lo hg 0 ls.length) (f6:s.tm.get 6=i64 k)
 (hb:outs.length + 1≤2 ^ 30) (f5:s.tm.get 5=.bool (decide (outs≠[]))) (f8:s.tm.get 8=i64 (outs.length - 1)) (hct:c.t.length < 2 ^ 40) (hot:∀ x∈outs,x.t.length < 2 ^ 40) (hw:∀ x∈outs,x.t=c.t→IntKind.i64.wrap (x.n + c.n)=x.n + c.n)
 (hF:∀ (s':St) (h:Nat) (outs':List Counted) (e:AExit),hs[k]? = some h→(e=.normal∨e=.exit 1)→((∃ a x,outs=a++[x]∧x.t=c.t∧outs'=a++[⟨x.t,x.n + c.n⟩])∨((∀ x,outs.getLast? = some x→x.t≠c.t)∧outs'=trimC outs++[c])) →
  OutAt lo s'.heap (s'.tm.get 4) outs'→(∀ j,j < lo→s'.heap[j]? = s.heap[j]?)→s'.heap[lo]? = some (.arr hg 1 ((hs.set k (h + 1)).map fun n:Nat=>i64 (n:Int)))→s'.dfr=s.dfr→s'.tm.get 0=v→s'.tm.get 3=.sl lo hg 0 ls.length→s'.tm.get 5=.bool true→KONT (callW tbl) loopW ks e s' R) :
 EXEC (callW tbl) loopW z9x ks s R:=by
 have kh:=ze1 hH
 have nh:=lt_of hH
 unfold z28 at hk
 split at hk
 ·rename_i l h hl hhk
  obtain ⟨hkl,hl'⟩:=List.getElem?_eq_some_iff.1 hl
  obtain ⟨hkh,hh'⟩:=List.getElem?_eq_some_iff.1 hhk
  obtain ⟨fl,r,hr,hidx⟩:=IsL.idx hv hl
  simp only [show Enc.sz (List Counted)=1 from rfl] at hidx
  have hcr:=zb hr
  obtain ⟨fl2,rc,⟨ta,hta,rfl⟩,hidc⟩:=IsL.idx hr hk
  simp only [show Enc.sz Counted=2 from rfl] at hidc
  have hca:=zb hta
  have hhm:=hh h (by rw [← hh']; exact List.getElem_mem hkh)
  have hwh:IntKind.i64.wrap ((h:Int) + 1)=(h:Int) + 1:=z61 (by omega) (by omega)
  have hlne:lo≠s.heap.length:=by omega
  have khA:∀ (T:Heap),hat (s.heap++T) lo=.arr hg 1 (hs.map fun n:Nat=>i64 (n:Int)):=fun T=>ze1 (by rw [List.getElem?_append_left nh]; exact hH)
  have nhA:∀ (T:Heap),lo < (s.heap++T).length:=fun T=>by simp; omega
  have hgk:(hs.map fun n:Nat=>i64 (n:Int))[k]? = some (i64 (h:Int)):=by simp [hhk]
  simp [z9x,f0,f3,f6,kh,nh,hkl,hkh,hidx,hcr,hidc,hca,hhk,hh',AV.rowok,khA,zz,hwh]
  refine ⟨⟨.inl (by omega), .inl (by omega)⟩,by omega,?_⟩
  have hlow:∀ (j:Nat) (B:Blk),lo < j→s.heap[j]? = some B→(s.heap.set lo (.arr hg 1 ((hs.map fun n:Nat=>i64 (n:Int)).set k (i64 ((h:Int) + 1))))++[.arr 1 2 [.agg [ta,i64 c.n]]])[j]? = some B:=fun j B hj hB=>by
   rw [List.getElem?_append_left (by simpa using lt_of hB),List.getElem?_set_ne (by omega)]; exact hB
  have hset:((hs.map fun n:Nat=>i64 (n:Int)).set k (i64 ((h:Int) + 1)))=(hs.set k (h + 1)).map fun n:Nat=>i64 (n:Int):=by rw [List.map_set]; rfl
  have hfin:∀ (s':St) (outs':List Counted) (e:AExit),(e=.normal∨e=.exit 1)→((∃ a x,outs=a++[x]∧x.t=c.t∧outs'=a++[⟨x.t,x.n + c.n⟩])∨((∀ x,outs.getLast? = some x→x.t≠c.t)∧outs'=trimC outs++[c])) →
   OutAt lo s'.heap (s'.tm.get 4) outs'→(∀ j,j≤lo→s'.heap[j]? = (s.heap.set lo (.arr hg 1 ((hs.map fun n:Nat=>i64 (n:Int)).set k (i64 ((h:Int) + 1))))++[.arr 1 2 [.agg [ta,i64 c.n]]])[j]?)→s'.dfr=s.dfr→s'.tm.get 0=v→s'.tm.get 3=.sl lo hg 0 ls.length→s'.tm.get 5=.bool true→KONT (callW tbl) loopW ks e s' R:=by
   intro s' outs' e h1 h2 h3 h4 h5 h6 h7 h8
   refine hF s' h outs' e hhk h1 h2 h3 (fun j hj=>?_) ?_ h5 h6 h7 h8
   ·rw [h4 j (by omega),List.getElem?_append_left (by simp; omega),List.getElem?_set_ne (by omega)]
   ·rw [h4 lo (Nat.le_refl _),List.getElem?_append_left (by simpa using nh),List.getElem?_set_self nh,hset]
  refine sum3 _ lo outs c ta s.heap.length 1 ?_ ?_ hta ?_ ?_ hb ?_ ?_ hct hot hw ?_ (fun s' a x g1 g2 g3 g4 g5 g6 g7 g8=>?_) (fun g1 s' g2 g3 g4 g5 g6 g7=>?_)
  ·simpa using hO.mono hlow
  ·simpa using Nat.lt_succ_of_lt nh
  ·simp
  ·simp
  ·simpa using f5
  ·simpa using f8
  ·intro id g n he
   simp at he
   rcases hO with ⟨_,h2⟩ | ⟨id2,g2,R2,_,h2,h3,_⟩
   ·rw [h2] at he; cases he
   ·rw [h2] at he; cases he
    have:=lt_of h3
    omega
  ·exact hfin s' _ _ (.inr rfl) (.inl ⟨a,x,g1,g2,rfl⟩) g3 (by simpa using g4) (by simpa using g5) (by simpa [f0] using g6) (by simpa [f3] using g7) g8
  ·exact hfin s' _ _ (.inl rfl) (.inr ⟨g1,rfl⟩) g2 (by simpa using g3) (by simpa using g4) (by simpa [f0] using g5) (by simpa [f3] using g6) g7
 ·cases hk
end Go.Abs.Plan
namespace Go.Abs.Plan
open Enc (Is)
structure SInv (ls:List (List Counted)) (hs:List Nat) (outs D:List Counted):Prop where
 len:hs.length=ls.length
 part:zfb D outs
 perm:(D++rest ls hs).Perm ls.flatten
 le:∀ x∈outs,∀ d∈rest ls hs,¬ TLt d.t x.t
 cnt:outs.length≤D.length
 hd:∀ h∈hs,h≤D.length
 tl:∀ x∈outs,x.t.length < 2 ^ 40
theorem zhn {outs:List Counted}:∀ x∈trimC outs,x∈outs:=fun x hx=>by
 rcases z38 outs with rfl | ⟨a,y,rfl⟩
 ·simp [trimC] at hx
 ·rw [zza] at hx
  split at hx
  ·exact List.mem_append.2 (.inl hx)
  ·exact hx
theorem zkt (outs:List Counted):(trimC outs).length≤outs.length:=by
 rcases z38 outs with rfl | ⟨a,y,rfl⟩
 ·simp [trimC]
 ·rw [zza]
  split <;> simp
theorem zlt (ls:List (List Counted)):rest ls (List.replicate ls.length 0)=ls.flatten:=by
 unfold rest
 congr 1
 induction ls with
 | nil=>rfl
 | cons l ls ih=>simp [List.replicate_succ,ih]
theorem SInv.init (ls:List (List Counted)):SInv ls (List.replicate ls.length 0) [] []:=
 ⟨by simp, .nil,by rw [zlt]; exact List.Perm.refl _,by simp,by simp,by simp,by simp⟩
theorem SInv.step {ls:List (List Counted)} {hs:List Nat} {outs outs' D:List Counted} {k x:Nat} {c:Counted} (h:SInv ls hs outs D) (hso:∀ l∈ls,l.Pairwise fun a b=>¬ TLt b.t a.t) (hk:z28 ls hs k=some c) (hx:hs[k]? = some x)
 (hmin:∀ i,i < ls.length→∀ d,z28 ls hs i=some d→¬ tcmp d.t c.t < 0) (ht:c.t.length < 2 ^ 40)
 (ho:(∃ a y,outs=a++[y]∧y.t=c.t∧outs'=a++[⟨y.t,y.n + c.n⟩])∨((∀ y,outs.getLast? = some y→y.t≠c.t)∧outs'=trimC outs++[c])) :
 SInv ls (hs.set k (x + 1)) outs' (c::D)∧(rest ls (hs.set k (x + 1))).length + 1=(rest ls hs).length:=by
 obtain ⟨x',hx',hp⟩:=zgn hk
 rw [hx] at hx'; cases hx'
 have hsub:∀ d∈rest ls (hs.set k (x + 1)),d∈rest ls hs:=fun d hd=>hp.symm.subset (List.mem_cons_of_mem _ hd)
 have hc:c∈rest ls hs:=hp.symm.subset (List.mem_cons_self ..)
 have hge:=z381 h.len hso hmin
 refine ⟨⟨by simp [h.len],?_,?_,?_,?_,?_,?_⟩,by rw [hp.length_eq]; simp⟩
 ·rcases ho with ⟨a,y,rfl,hy,rfl⟩ | ⟨hl,rfl⟩
  ·exact h.part.add hy
  ·refine h.part.push (fun z hz=>?_)
   rcases z38 outs with rfl | ⟨a,y,rfl⟩
   ·simp at hz
   ·have hyc:=hl y (by simp)
    have hyl:=h.le y (by simp) c hc
    have h1:TLt y.t c.t:=by
     rcases TLt.tri y.t c.t with h | h | h
     ·exact h
     ·exact absurd h hyc
     ·exact absurd h hyl
    rcases List.mem_append.1 hz with hz | hz
    ·have:=(List.pairwise_append.1 h.part.srt).2.2 z hz y (by simp)
     exact z08 _ _ _ this h1
    ·simp at hz; subst hz; exact h1
 ·refine List.Perm.trans ?_ h.perm
  refine List.Perm.trans ?_ (List.Perm.append_left D hp.symm)
  exact (List.perm_middle (l₁:=D)).symm
 ·intro z hz d hd
  rcases ho with ⟨a,y,rfl,hy,rfl⟩ | ⟨hl,rfl⟩
  ·rcases List.mem_append.1 hz with hz | hz
   ·exact h.le z (by simp [hz]) d (hsub d hd)
   ·simp at hz; subst hz; exact h.le y (by simp) d (hsub d hd)
  ·rcases List.mem_append.1 hz with hz | hz
   ·exact h.le z (zhn z hz) d (hsub d hd)
   ·simp at hz; subst hz; exact hge d (hsub d hd)
 ·have:=h.cnt
  rcases ho with ⟨a,y,rfl,hy,rfl⟩ | ⟨hl,rfl⟩
  ·simp at this ⊢; omega
  ·have:=zkt outs
   simp; omega
 ·intro z hz
  rcases List.mem_or_eq_of_mem_set hz with hz | rfl
  ·have:=h.hd z hz; simp; omega
  ·have:=h.hd x (by obtain ⟨h1,h2⟩:=List.getElem?_eq_some_iff.1 hx; rw [← h2]; exact List.getElem_mem h1); simp; omega
 ·intro z hz
  rcases ho with ⟨a,y,rfl,hy,rfl⟩ | ⟨hl,rfl⟩
  ·rcases List.mem_append.1 hz with hz | hz
   ·exact h.tl z (by simp [hz])
   ·simp at hz; subst hz; exact h.tl y (by simp)
  ·rcases List.mem_append.1 hz with hz | hz
   ·exact h.tl z (zhn z hz)
   ·simp at hz; subst hz; exact ht
theorem sum1 {R:AExit→St→Prop} {ks:List KF} (s:St) (lo:Nat) (outs:List Counted) (b:Int) (hO:OutAt lo s.heap (s.tm.get 4) outs) (hb:outs.length + 1≤2 ^ 30) (f5:s.tm.get 5=.bool (decide (outs≠[]))) (f6:s.tm.get 6=i64 b)
 (hF1:b < 0→∀ s',s'.heap=s.heap→s'.dfr=s.dfr→OutAt lo s.heap (s'.tm.get 2) (trimC outs)→KONT (callW tbl) loopW ks .ret s' R)
 (hF2:¬ b < 0→∀ s',s'.heap=s.heap→s'.dfr=s.dfr→s'.tm.get 0=s.tm.get 0→s'.tm.get 3=s.tm.get 3→s'.tm.get 4=s.tm.get 4→s'.tm.get 5=s.tm.get 5→s'.tm.get 6=i64 b→s'.tm.get 8=i64 (outs.length - 1)→EXEC (callW tbl) loopW z9x ks s' R) :
 EXEC (callW tbl) loopW zup ks s R:=by
 have hlo:=hO.len
 have hw:IntKind.i64.wrap ((outs.length:Int) - 1)=(outs.length:Int) - 1:=z61 (by omega) (by omega)
 by_cases hb0:b < 0
 ·rcases z38 outs with rfl | ⟨a,x,rfl⟩
  ·simp [zup,hlo,f5,f6,hb0]
   exact hF1 hb0 _ (by simp) (by simp) (by simpa [trimC] using hO)
  ·obtain ⟨id,g,R0,tx,h1,h2,h3,h4,h5,htx,hRx⟩:=hO.last
   have kb:=ze1 h3
   have nb:=lt_of h3
   have hax:a.length < R0.length:=by omega
   have hR':R0[a.length]=.agg [tx,i64 x.n]:=by rw [List.getElem?_eq_getElem hax] at hRx; exact Option.some.inj hRx
   have hctx:=zb htx
   have hb1:=zgi (len:=a.length + 1) (a:=a.length) (a.length + 1) (by omega)
   have hb2:Go.Abs.bound 0 a.length none=some 0:=rfl
   simp only [List.length_append,List.length_singleton,show (((a.length + 1:Nat):Int) - 1)=(a.length:Int) by omega] at hw hlo
   rw [h2] at hlo
   rw [zza] at hF1
   by_cases hx0:x.n=0
   ·rw [if_pos hx0] at hF1
    simp [zup,hlo,hw,f5,f6,hb0,h2,kb,nb,hax,hRx,hR',hctx,AV.rowok,hx0,hb1,hb2,h4]
    exact hF1 hb0 _ (by simp) (by simp) (by simpa using OutAt.trim h1 h3 (by omega) h5)
   ·rw [if_neg hx0] at hF1
    simp [zup,hlo,hw,f5,f6,hb0,h2,kb,nb,hax,hRx,hR',hctx,AV.rowok,hx0]
    exact hF1 hb0 _ (by simp) (by simp) (by simpa [h2] using hO)
 ·simp [zup,hlo,hw,f5,f6,hb0]
  exact hF2 hb0 _ (by simp) (by simp) (by simp) (by simp) (by simp) (by simp) (by simp [f6]) (by simp)
theorem zh51 {A B C:List Counted} (h:(A++B).Perm C):mass A≤mass C:=by
 rw [← zn21 h,zfn]; omega
theorem zi51 (ls:List (List Counted)) (v:AV) (H:Heap) (hv:Is v ls) (hn:ls.length≤2 ^ 20) (hf:ls.flatten.length + 1≤2 ^ 30) (hm:mass ls.flatten < 2 ^ 62) (ht:∀ c∈ls.flatten,c.t.length < 2 ^ 40) (hso:∀ l∈ls,l.Pairwise fun a b=>¬ TLt b.t a.t) :
 ∃ w H' out,callW tbl (.func zed [] []) [v] H=some (w,H')∧SumIs ls.flatten out∧out.length≤ls.flatten.length∧(∀ c∈out,c.t.length < 2 ^ 40)∧OutAt H.length H' w out∧∀ j,j < H.length→H'[j]? = H[j]? := by
 have hlv:=IsL.len hv
 have hll:∀ l∈ls,l.length≤2 ^ 30:=fun l hl=>by
  have:=List.Sublist.length_le (List.sublist_flatten_of_mem hl)
  omega
 have hts:∀ l∈ls,∀ c∈l,c.t.length < 2 ^ 40:=fun l hl c hc=>ht c (List.mem_flatten.2 ⟨l,hl,hc⟩)
 obtain ⟨w,H',⟨out,p1,p2,p3,p4,p5⟩,hcall⟩:=callE (tbl:=tbl) (f:=zed) (first:=[]) (captured:=[]) (args:=[v]) (H:=H)
  (fun w H'=>∃ out,SumIs ls.flatten out∧out.length≤ls.flatten.length∧(∀ c∈out,c.t.length < 2 ^ 40)∧OutAt H.length H' w out∧∀ j,j < H.length→H'[j]? = H[j]?) z8b rfl rfl rfl (fun F hF=>by
  have r1:ls.length * 8≤140737488355328:=by omega
  have r2:ls.length≤140737488355328:=by omega
  simp [z8b,z9m,hlv,r1,r2]
  refine zg (fun n s=>∃ hs outs D,SInv ls hs outs D∧(rest ls hs).length=n∧s.heap[H.length]? = some (.arr 0 1 (hs.map fun n:Nat=>i64 (n:Int)))∧OutAt H.length s.heap (s.tm.get 4) outs∧(∀ j,j < H.length→s.heap[j]? = H[j]?) ∧
   s.dfr=[]∧s.tm.get 0=v∧s.tm.get 3=.sl H.length 0 0 ls.length∧s.tm.get 5=.bool (decide (outs≠[]))) ls.flatten.length
   ⟨List.replicate ls.length 0,[],[],SInv.init ls,by rw [zlt],by simp, .inl ⟨rfl,by simp⟩,fun j hj=>by simp [List.getElem?_append_left hj],by simp,by simp,by simp,by simp⟩ ?_
  rintro n s Q ⟨hs,outs,D,hI,h0,hH,hO,hlow,q2,f0,f3,f5⟩ hgo hx
  have hDl:=hI.perm.length_eq
  rw [List.length_append] at hDl
  have hcnt:=hI.cnt
  have hhd:∀ h∈hs,h≤2 ^ 30:=fun h hh=>by have:=hI.hd h hh; omega
  have hso':=hso
  rw [z9a1]
  simp
  refine zd51 ls hs v hv hI.len hn hll hhd hts _ H.length 0 ?_ ?_ ?_ ?_ ?_ ?_ (fun s' b e1 e2 e3 e4 e5 hb=>?_)
  ·simpa using hH
  ·simpa using q2
  ·simpa using f0
  ·simpa using f3
  ·simp
  ·simp
  obtain ⟨g0,g3,g4,g5⟩:=e4
  simp at e1 e3 g0 g3 g4 g5
  have hO':OutAt H.length s'.heap (s'.tm.get 4) outs:=by rw [e1,g4]; exact hO
  have g5':s'.tm.get 5=.bool (decide (outs≠[])):=g5.trans f5
  simp only [zol]
  refine sum1 s' H.length outs b hO' (by omega) g5' e5 (fun hb0 s2 k1 k2 k3=>?_) (fun hb0 s2 k1 k2 k3 k4 k5 k6 k7 k8=>?_)
  ·have hnone:∀ i,i < ls.length→z28 ls hs i=none:=by
    rcases hb with ⟨rfl,h⟩ | ⟨k,c,rfl,_⟩
    ·exact h
    ·omega
   have hr:=zg51 hI.len hnone
   have hD:D.Perm ls.flatten:=by have:=hI.perm; rw [hr,List.append_nil] at this; exact this
   simp
   refine hx _ _ (by simp) ?_
   simp [k2,e2]
   refine hF _ _ ⟨trimC outs,hI.part.trim.perm hD,?_,fun c hc=>hI.tl c (zhn c hc),?_,fun j hj=>?_⟩
   ·have:=zkt outs; omega
   ·rw [k1]; exact k3
   ·rw [k1,e1]; exact hlow j hj
  ·rcases hb with ⟨rfl,h⟩ | ⟨k,c,rfl,hk,hkc,hmin⟩
   ·omega
   obtain ⟨x0,hx0,hp⟩:=zgn hkc
   have hcr:c∈ls.flatten:=hI.perm.subset (List.mem_append.2 (.inr (hp.symm.subset (List.mem_cons_self ..))))
   refine sum2 ls hs v hv hI.len k c hkc hhd s2 H.length 0 outs ?_ ?_ ?_ ?_ k7 (by omega) ?_ k8 (ht c hcr) hI.tl ?_ (fun s3 h3 outs' e m1 m2 m3 m4 m5 m6 m7 m8 m9 m10=>?_)
   ·rw [k1,e1]; exact hH
   ·rw [k1,k5]; exact hO'
   ·rw [k3,g0]; exact f0
   ·rw [k4,g3]; exact f3
   ·rw [k6]; exact g5'
   ·intro y hy hyc
    have h1:=hI.part.val y hy
    have h2:tot (c::D) c.t=y.n + c.n:=by rw [zn5,if_pos rfl,h1,hyc]; omega
    have h3:=zf51 (c::D) c.t
    have h4:mass (c::D)≤mass ls.flatten:=by
     refine zh51 (B:=rest ls (hs.set k (x0 + 1))) ?_
     refine List.Perm.trans ?_ hI.perm
     refine List.Perm.trans ?_ (List.Perm.append_left D hp.symm)
     exact (List.perm_middle (l₁:=D)).symm
    exact z61 (by omega) (by omega)
   ·rw [hx0] at m1; cases m1
    obtain ⟨hI',hl'⟩:=hI.step hso hkc hx0 hmin (ht c hcr) m3
    have hne:outs'≠[]:=by rcases m3 with ⟨_,_,_,_,rfl⟩ | ⟨_,rfl⟩ <;> simp
    have hfin:Q .normal s3:=by
     refine hgo s3 (rest ls (hs.set k (x0 + 1))).length (by omega) ⟨_,outs',c::D,hI',rfl,m6,m4,fun j hj=>?_,?_,m8,m9,?_⟩
     ·rw [m5 j hj,k1,e1]; exact hlow j hj
     ·rw [m7,k2,e2]
     ·rw [m10]; simp [hne]
    rcases m2 with rfl | rfl
    ·simpa using hfin
    ·simpa using hfin)
 have hcl:zj z8b.frz H.length w H'=trunc H.length w H':=rfl
 rw [hcl] at hcall
 unfold trunc at hcall
 split at hcall
 ·rename_i hc
  simp only [Bool.and_eq_true] at hc
  rcases p4 with ⟨h1,h2⟩ | ⟨id,g,R,h1,h2,_⟩
  ·exact ⟨w,_,out,hcall,p1,p2,p3, .inl ⟨h1,h2⟩,fun j hj=>by rw [List.getElem?_take_of_lt hj]; exact p5 j hj⟩
  ·rw [h2] at hc
   simp [AV.under] at hc
   omega
 ·exact ⟨w,H',out,hcall,p1,p2,p3,p4,p5⟩
end Go.Abs.Plan
namespace Go.Abs.Plan
open Enc (Is)
theorem zmt {v:AV} {x:Tup} (h:Is v x):(v=.nilsl∧x=[])∨∃ fl,v=.fsl fl (x.map Val.enc):=by
 rcases IsL.cases h with ⟨rfl,rfl⟩ | ⟨fl,rows,rfl,hr⟩
 ·exact .inl ⟨rfl,rfl⟩
 ·refine .inr ⟨fl,?_⟩
  congr 1
  clear h
  induction hr with
  | nil=>rfl
  | cons h1 _ ih=>rw [ih,List.map_cons,show _=_ from h1]
theorem zvp (c:Col) (t:Tup) (w:AV) (hw:Is w t) (hc:ColIn t.length c):∃ r,zy (callW tbl) loopW z74 [c.enc,w]=some r∧r=(zo1 c t).enc:=by
 have hra:AV.rowok 5 c.enc=true:=rfl
 refine pureK z74 rfl (fun F hF=>?_)
 by_cases h1:c.use=1
 ·simp [z74,zmd,hra,h1,AV.rowok,zz]
  exact hF _ _ _ (z6 rfl) (by simp [zo1,h1])
 ·rcases hc with hc | ⟨h2,h3⟩
  ·exact absurd hc h1
  obtain ⟨j,hj⟩:∃ j:Nat,c.var=(j:Int):=⟨c.var.toNat,by omega⟩
  rw [hj,Int.toNat_natCast] at h3
  have hg:t[j]? = some t[j]:=by simp [h3]
  obtain ⟨fl,r,rfl,hidx⟩:=IsL.idx hw hg
  simp only [show Enc.sz Val=3 from rfl] at hidx
  simp [z74,zmd,hra,h1,hj,hidx,AV.rowok,zz]
  refine hF _ _ _ (z6 rfl) ?_
  have:zo1 c t=t[j]:=by simp [zo1,h1,hj,h3]
  rw [this]
theorem znt (c:Col) (t:Tup) (v:AV) (H:Heap) (hv:TS H v t) (hc:ColIn t.length c):callW tbl (.func z03 [] []) [c.enc,v] H=some ((zo1 c t).enc,H):=by
 obtain ⟨r,h,rfl⟩:=zwd (tbl:=tbl) (f:=z03) (af:=z74) rfl rfl (R:=fun a=>∃ w,a=[c.enc,w]∧Is w t) (S:=fun r=>r=(zo1 c t).enc) (by rintro _ ⟨w,rfl,hw⟩; exact ⟨w.lend,rfl,Enc.lend hw⟩)
  (by rintro _ ⟨w,rfl,hw⟩; obtain ⟨r,h1,rfl⟩:=zvp c t w hw hc; exact ⟨_,h1,rfl,rfl⟩) [c.enc,v] [c.enc,tupA t] H (by simp [zx3,hv.reify,z6 (v:=c.enc) rfl]) ⟨_,rfl,zg4 t⟩
 exact h
theorem zzg (c:Col) (t:Tup) (v:AV) (H:Heap) (hv:Is v t) (hc:ColIn t.length c):callW tbl (.func z03 [] []) [c.enc,v] H=some ((zo1 c t).enc,H):=by
 obtain ⟨r,h,rfl⟩:=zwd (tbl:=tbl) (f:=z03) (af:=z74) rfl rfl (R:=fun a=>∃ w,a=[c.enc,w]∧Is w t) (S:=fun r=>r=(zo1 c t).enc) (by rintro _ ⟨w,rfl,hw⟩; exact ⟨w.lend,rfl,Enc.lend hw⟩)
  (by rintro _ ⟨w,rfl,hw⟩; obtain ⟨r,h1,rfl⟩:=zvp c t w hw hc; exact ⟨_,h1,rfl,rfl⟩) [c.enc,v] [c.enc,v] H (by simp [zx3,z6 (Enc.plain hv),z6 (v:=c.enc) rfl]) ⟨_,rfl,hv⟩
 exact h
theorem z6z (op:Int) (a b:Val):∃ r,zy (callW tbl) loopW zn2 [i64 op,a.enc,b.enc]=some r∧r=.tuple [.bool (zt1 op a b),i64 (if 1≤op∧op≤6 then 0 else 1)]:=by
 have hra:AV.rowok 3 a.enc=true:=rfl
 have hrb:AV.rowok 3 b.enc=true:=rfl
 have hc:=fun H=>zrp a b H
 refine pureK zn2 rfl (fun F hF=>?_)
 by_cases h1:op=1
 ·subst h1; simp [zn2,z84,hra,hrb,hc,AV.rowok]; exact hF _ _ _ (z6 rfl) (by simp [zt1]; try rfl)
 by_cases h2:op=2
 ·subst h2; simp [zn2,z84,hra,hrb,hc,AV.rowok]; exact hF _ _ _ (z6 rfl) (by simp [zt1]; try rfl)
 by_cases h3:op=3
 ·subst h3; simp [zn2,z84,hra,hrb,hc,AV.rowok]; exact hF _ _ _ (z6 rfl) (by simp [zt1]; try rfl)
 by_cases h4:op=4
 ·subst h4; simp [zn2,z84,hra,hrb,hc,AV.rowok]; exact hF _ _ _ (z6 rfl) (by simp [zt1]; try rfl)
 by_cases h5:op=5
 ·subst h5; simp [zn2,z84,hra,hrb,hc,AV.rowok]; exact hF _ _ _ (z6 rfl) (by simp [zt1]; try rfl)
 by_cases h6:op=6
 ·subst h6; simp [zn2,z84,hra,hrb,hc,AV.rowok]; exact hF _ _ _ (z6 rfl) (by simp [zt1]; try rfl)
 have hno:¬ (1≤op∧op≤6):=by omega
 simp [zn2,z84,hra,hrb,hc,AV.rowok,h1,h2,h3,h4,h5,h6]
 exact hF _ _ _ (z6 rfl) (by rw [if_neg hno]; simp [zt1,h1,h2,h3,h4,h5,h6])
theorem zvv (op:Int) (a b:Val) (H:Heap):callW tbl (.func zgd [] []) [i64 op,a.enc,b.enc] H=some (.tuple [.bool (zt1 op a b),i64 (if 1≤op∧op≤6 then 0 else 1)],H):=by
 obtain ⟨r,h,rfl⟩:=z6z op a b
 exact zt7 rfl rfl rfl rfl h H
theorem zaa1 {a b:Val} (h:¬ a=b):¬a.kind=b.kind∨¬a.n=b.n∨¬a.s=b.s:=by
 obtain ⟨a1,a2,a3⟩:=a
 obtain ⟨b1,b2,b3⟩:=b
 simp only [Val.mk.injEq] at h
 by_cases x:a1=b1
 ·by_cases y:a2=b2
  ·exact .inr (.inr fun z=>h ⟨x,y,z⟩)
  ·exact .inr (.inl y)
 ·exact .inl x
def za5 (cs:List Col) (t x:Tup):Option Tup:=if cs.length=t.length then z41 cs t x else none
theorem z7z (cs:List Col) (t x0:Tup) (la tv xv:AV) (hla:Is la cs) (htv:Is tv t) (hxv:Is xv x0) (hlen:cs.length≤2 ^ 20) (hxl:x0.length≤2 ^ 20) (hc:∀ c∈cs,zkp x0.length c) :
 ∃ r,zy (callW tbl) loopW z13 [la,tv,xv]=some r∧r=zyb (za5 cs t x0):=by
 have hl1:=IsL.len hla
 have hl2:=IsL.len htv
 refine pureK z13 rfl (fun F hF=>?_)
 unfold za5 at hF
 by_cases hl:cs.length=t.length
 ·rw [if_pos hl] at hF
  have hli:(cs.length:Int)=(t.length:Int):=by omega
  have main:∀ (g:Nat) (s:St),s.heap=[.arr g 3 (x0.map Val.enc)]→s.dfr=[]→s.tm.get 0=la→s.tm.get 1=tv→s.tm.get 8=.sl 0 g 0 x0.length→s.tm.get 9=i64 0 →
   EXEC (callW tbl) loopW (.loop zv2) [KF.block 0,KF.seq (SS (RR [mV 55 8,kM 6 55,kk 7 (.move (.const (.bool true)))]) .ret)] s (FINQ [.tmp 6, .tmp 7] F):=by
   intro g s hH q2 f0 f1 f8 f9
   refine zg (fun n s=>∃ (j:Nat) (x:Tup),j + n=cs.length∧x.length=x0.length∧z41 (cs.drop j) (t.drop j) x=z41 cs t x0∧s.heap=[.arr g 3 (x.map Val.enc)]∧s.dfr=[]∧s.tm.get 0=la∧s.tm.get 1=tv∧s.tm.get 8=.sl 0 g 0 x0.length∧s.tm.get 9=i64 j) cs.length
    ⟨0,x0,by omega,rfl,rfl,hH,q2,f0,f1,f8,f9⟩ ?_
   clear hH q2 f0 f1 f8 f9 s
   rintro n s Q ⟨j,x,h0,hx,hag,hH,q2,f0,f1,f8,f9⟩ hgo hxx
   have hwi:IntKind.i64.wrap ((j:Int) + 1)=((j + 1:Nat):Int):=z61 (by omega) (by omega)
   by_cases hj:j < cs.length
   ·have hii:(j:Int) < (cs.length:Int):=by omega
    have hg:cs[j]? = some cs[j]:=by simp [hj]
    obtain ⟨fl,cv,rfl,hidx⟩:=IsL.idx hla hg
    simp only [show Enc.sz Col=5 from rfl] at hidx
    have hjt:j < t.length:=by omega
    have hgt:t[j]? = some t[j]:=by simp [hjt]
    obtain ⟨fl2,yv,rfl,hidt⟩:=IsL.idx htv hgt
    simp only [show Enc.sz Val=3 from rfl] at hidt
    have hcj:=hc _ (List.getElem_mem hj)
    rw [List.drop_eq_getElem_cons hj,List.drop_eq_getElem_cons hjt,z41] at hag
    generalize hcx:cs[j]=c at *
    generalize htx:t[j]=y at *
    have hra:AV.rowok 5 c.enc=true:=rfl
    by_cases h3:c.use=3
    ·have hb:0≤c.var∧c.var.toNat < x0.length:=by rcases hcj with h | h | h; omega; omega; exact h
     obtain ⟨m,hm⟩:∃ m:Nat,c.var=(m:Int):=⟨c.var.toNat,by omega⟩
     rw [hm,Int.toNat_natCast] at hb
     have hmx:m < x.length:=by omega
     simp [z0c,h3,hm] at hag
     simp [zv2,f0,f1,f8,f9,hl1,hii,hidx,hidt,h3,hm,AV.rowok,hH,hat,hb,hmx,zz]
     refine hgo _ (n - 1) (by omega) ⟨j + 1,x.set m y,by omega,by simp [hx],hag,by simp [List.map_set],by simp [q2],by simp [f0],by simp [f1],by simp [f8],by simp [hwi]⟩
    ·by_cases h2:c.use=2
     ·simp [z0c,h2] at hag
      simp [zv2,f0,f9,hl1,hii,hidx,h2]
      exact hgo _ (n - 1) (by omega) ⟨j + 1,x,by omega,hx,hag,by simpa using hH,by simp [q2],by simp [f0],by simp [f1],by simp [f8],by simp [hwi]⟩
     ·have hci:ColIn x.length c:=by rcases hcj with h | h | h; exact .inl h; exact absurd h h2; exact .inr (by rw [hx]; exact h)
      have hval:=znt c x (.sl 0 g 0 x0.length) s.heap ⟨0,g,by rw [hx],by rw [hH]; rfl⟩ hci
      by_cases he:zo1 c x=y
      ·simp [z0c,h3,h2,he] at hag
       simp [zv2,f0,f1,f8,f9,hl1,hii,hidx,hidt,h3,h2,AV.rowok,hval,zrs,he]
       exact hgo _ (n - 1) (by omega) ⟨j + 1,x,by omega,hx,hag,by simpa using hH,by simp [q2],by simp [f0],by simp [f1],by simp [f8],by simp [hwi]⟩
      ·simp [z0c,h3,h2,he] at hag
       simp [zv2,f0,f1,f8,f9,hl1,hii,hidx,hidt,h3,h2,AV.rowok,hval,zrs]
       rw [if_pos (zaa1 he)]
       refine hxx _ _ (by simp) ?_
       simp [q2]
       exact hF _ _ _ (z6 rfl) (by rw [← hag]; rfl)
   ·have hii:¬ (j:Int) < (cs.length:Int):=by omega
    have e1:z41 (cs.drop j) (t.drop j) x=some x:=by rw [List.drop_eq_nil_of_le (by omega)]; rfl
    rw [e1] at hag
    simp [zv2,f0,f9,hl1,hii]
    refine hxx _ _ (by simp) ?_
    simp [q2,f8]
    have hre:reify s.heap zw (.tuple [.sl 0 g 0 x0.length, .bool true])=some (.tuple [tupA x, .bool true]):=
     zzb (by simp [AV.plain,AV.plains]) (zv8 (k:=9) (show s.heap[0]? = some (.arr g 3 (x.map Val.enc)) by rw [hH]; rfl) (by simp [hx]) (by simp [List.take_of_length_le,hx]) (zr6 (fun _=>rfl) x)) (zv5 rfl)
    exact hF _ _ _ hre (by rw [← hag]; rfl)
  rcases zmt hxv with ⟨rfl,rfl⟩ | ⟨fl,rfl⟩
  ·simp [z13,z17,hl1,hl2,hli,zr,zh1,appendTo_0s]
   refine main 0 _ ?_ ?_ ?_ ?_ ?_ ?_ <;> simp
  ·by_cases hx0:x0=[]
   ·subst hx0
    simp [z13,z17,hl1,hl2,hli,zr,zh1,appendTo_0s]
    refine main 0 _ ?_ ?_ ?_ ?_ ?_ ?_ <;> simp
   ·have hx1:0 < x0.length:=by cases x0; exact absurd rfl hx0; simp
    have hn0:¬ (x0.length≤0):=by omega
    have hroom:x0.length * 32≤140737488355328:=by omega
    have hro:∀ y:Val,AV.rowok 3 y.enc=true:=fun _=>rfl
    simp [z13,z17,hl1,hl2,hli,zr,zh1,zi1,room,hro,hx0,hn0,hroom]
    refine main 1 _ ?_ ?_ ?_ ?_ ?_ ?_ <;> simp
 ·have hli:¬ (cs.length:Int)=(t.length:Int):=by omega
  rw [if_neg hl] at hF
  simp [z13,z17,hl1,hl2,hli]
  exact hF _ _ _ (z6 rfl) rfl
theorem zwv (cs:List Col) (t x0:Tup) (la tv xv:AV) (hla:Is la cs) (htv:Is tv t) (hxv:Is xv x0) (hlen:cs.length≤2 ^ 20) (hxl:x0.length≤2 ^ 20) (hc:∀ c∈cs,zkp x0.length c) (H:Heap) :
 callW tbl (.func zt6 [] []) [la,tv,xv] H=some (zyb (za5 cs t x0),H):=by
 obtain ⟨r,h,rfl⟩:=z1x (f:=zt6) (af:=z13) rfl rfl (R:=fun a=>∃ v w x,a=[v,w,x]∧Is v cs∧Is w t∧Is x x0) (S:=fun r=>r=zyb (za5 cs t x0))
  (by rintro _ ⟨v,w,x,rfl,h1,h2,h3⟩; simp [Enc.plain h1,Enc.plain h2,Enc.plain h3]) (by rintro _ ⟨v,w,x,rfl,h1,h2,h3⟩; exact ⟨v.lend,w.lend,x.lend,rfl,Enc.lend h1,Enc.lend h2,Enc.lend h3⟩)
  (by rintro _ ⟨v,w,x,rfl,h1,h2,h3⟩; obtain ⟨r,g1,rfl⟩:=z7z cs t x0 v w x h1 h2 h3 hlen hxl hc; exact ⟨_,g1,rfl,z3i _⟩) [la,tv,xv] H ⟨la,tv,xv,rfl,hla,htv,hxv⟩
 exact h
end Go.Abs.Plan
namespace Go.Abs.Plan
open Enc (Is)
theorem z481 (l:List RelOf) (nm:ByteArray) (v:AV) (hv:Is v l) (hl:l.length≤2 ^ 30):∃ r,zy (callW tbl) loopW zua [v, .str nm]=some r∧Is r (ofL l nm):=by
 have hlv:=IsL.len hv
 refine pureK zua rfl (fun F hF=>?_)
 simp [zua,z3p]
 refine zg (fun n s=>∃ j:Nat,j + n=l.length∧((l.take j).find? fun r=>decide (r.name=nm))=none∧s.dfr=[]∧s.tm.get 0=v∧s.tm.get 1=.str nm∧s.tm.get 5=i64 j) l.length
  ⟨0,by omega,by simp,by simp,by simp,by simp,by simp⟩ ?_
 rintro n s Q ⟨j,h0,hnone,q2,f0,f1,f5⟩ hgo hx
 have hwi:IntKind.i64.wrap ((j:Int) + 1)=((j + 1:Nat):Int):=z61 (by omega) (by omega)
 by_cases hj:j < l.length
 ·have hii:(j:Int) < (l.length:Int):=by omega
  have hg:l[j]? = some l[j]:=by simp [hj]
  obtain ⟨fl,rv,⟨ra,hra,rfl⟩,hidx⟩:=IsL.idx hv hg
  simp only [show Enc.sz RelOf=2 from rfl] at hidx
  have hcr:=zb hra
  have htk:l.take (j + 1)=l.take j++[l[j]]:=by rw [List.take_add_one,hg]; rfl
  have hspl:l=l.take j++l[j]::l.drop (j + 1):=by rw [← List.drop_eq_getElem_cons hj,List.take_append_drop]
  generalize hr:l[j]=r at *
  by_cases he:r.name=nm
  ·have hf:l.find? (fun r=>decide (r.name=nm))=some r:=by
    rw [hspl,List.find?_append,hnone]; simp [he]
   simp [zja,f0,f1,f5,hlv,hii,hidx,AV.rowok,hcr,he]
   refine hx _ _ (by simp) ?_
   simp [q2]
   exact hF _ _ _ (z6 (Enc.plain hra)) (by simpa [ofL,hf] using hra)
  ·have hne:¬ r.name.toList=nm.toList:=fun e=>he (zo7 e)
   simp [zja,f0,f1,f5,hlv,hii,hidx,AV.rowok,hcr,he,hne]
   exact hgo _ (n - 1) (by omega) ⟨j + 1,by omega,by rw [htk,List.find?_append,hnone]; simp [he],by simp [q2],by simp [f0],by simp [f1],by simp [hwi]⟩
 ·have hii:¬ (j:Int) < (l.length:Int):=by omega
  rw [List.take_of_length_le (by omega)] at hnone
  simp [zja,f0,f5,hlv,hii]
  refine hx _ _ (by simp) ?_
  simp [q2]
  exact hF _ _ _ (z6 rfl) (by simp only [ofL,hnone,Option.map_none,Option.getD_none]; exact IsL.nil)
theorem zqk (l:List RelOf) (nm:ByteArray) (v:AV) (hv:Is v l) (hl:l.length≤2 ^ 30) (H:Heap):∃ r,callW tbl (.func zsa [] []) [v, .str nm] H=some (r,H)∧Is r (ofL l nm):=
 z76 (f:=zsa) (af:=zua) rfl rfl (R:=fun a=>∃ v,a=[v, .str nm]∧Is v l) (S:=fun r=>Is r (ofL l nm)) (by rintro _ ⟨v,rfl,h⟩; simp [AV.plains,Enc.plain h,AV.plain]) (by rintro _ ⟨v,rfl,h⟩; exact ⟨v.lend,rfl,Enc.lend h⟩)
  (fun r h=>Enc.lend h) (by rintro _ ⟨v,rfl,h⟩; exact z481 l nm v h hl) _ H ⟨v,rfl,hv⟩
theorem zot (st:Step) (old now:List RelOf) (delta:List Tup) (sv vo vn:AV) (hs:Is sv st) (ho:Is vo old) (hn:Is vn now) (hlo:old.length≤2 ^ 30) (hln:now.length≤2 ^ 30) (h4:¬ st.op=4):∃ r,zy (callW tbl) loopW zd3 [sv,vo,vn]=some r∧Is r (relT st old now delta):=by
 obtain ⟨c,hc,rfl⟩:=hs
 have hcc:=zb hc
 refine pureK zd3 rfl (fun F hF=>?_)
 simp only [relT,if_neg h4] at hF
 cases hold:st.old with
 | true=>
   obtain ⟨r,hcall,hr⟩:=zqk old st.pred vo ho hlo []
   simp [zd3,z2a,AV.rowok,hcc,hold,hcall]
   exact hF _ _ _ (z6 (Enc.plain hr)) (by simpa [hold] using hr)
 | false=>
   obtain ⟨r,hcall,hr⟩:=zqk now st.pred vn hn hln []
   simp [zd3,z2a,AV.rowok,hcc,hold,hcall]
   exact hF _ _ _ (z6 (Enc.plain hr)) (by simpa [hold] using hr)
theorem zer (st:Step) (old now:List RelOf) (delta:List Tup) (sv vo vn:AV) (hs:Is sv st) (ho:Is vo old) (hn:Is vn now) (hlo:old.length≤2 ^ 30) (hln:now.length≤2 ^ 30) (h4:¬ st.op=4) (H:Heap):∃ r,callW tbl (.func z57 [] []) [sv,vo,vn] H=some (r,H)∧Is r (relT st old now delta):=
 z76 (f:=z57) (af:=zd3) rfl rfl (R:=fun a=>∃ v w x,a=[v,w,x]∧Is v st∧Is w old∧Is x now) (S:=fun r=>Is r (relT st old now delta)) (by rintro _ ⟨v,w,x,rfl,h1,h2,h3⟩; simp [AV.plains,Enc.plain h1,Enc.plain h2,Enc.plain h3])
  (by rintro _ ⟨v,w,x,rfl,h1,h2,h3⟩; exact ⟨v.lend,w.lend,x.lend,rfl,Enc.lend h1,Enc.lend h2,Enc.lend h3⟩)
  (fun r h=>Enc.lend h) (by rintro _ ⟨v,w,x,rfl,h1,h2,h3⟩; exact zot st old now delta v w x h1 h2 h3 hlo hln h4) _ H ⟨_,_,_,rfl,hs,ho,hn⟩
def z27 (old now:List RelOf) (delta:List Tup):List Step→Tup→List Tup
 | [],x=>[x]
 | s::ss,x=>if s.op=3 then (if zt1 s.cmp (zo1 s.a x) (zo1 s.b x) then z27 old now delta ss x else [])
   else if s.op=2 then (if (relT s old now delta).any (fun t=>(za5 s.cols t x).isSome) then [] else z27 old now delta ss x)
   else (relT s old now delta).flatMap fun t=>((za5 s.cols t x).map (z27 old now delta ss)).getD []
def stepW (old now:List RelOf) (delta:List Tup) (s:Step):Nat:=if s.op=2∨s.op=3 then 1 else max 1 (relT s old now delta).length
def zgb (old now:List RelOf) (delta:List Tup):List Step→Nat
 | []=>1
 | s::ss=>stepW old now delta s * zgb old now delta ss
theorem zp21 (old now:List RelOf) (delta:List Tup) (s:Step):1≤stepW old now delta s:=by unfold stepW; split <;> omega
theorem zpt (old now:List RelOf) (delta:List Tup) (s:Step) (ss:List Step):zgb old now delta ss≤zgb old now delta (s::ss):=Nat.le_mul_of_pos_left _ (zp21 old now delta s)
theorem zin {α β:Type} (f:α→List β) (N:Nat):∀ l:List α,(∀ x∈l,(f x).length≤N)→(l.flatMap f).length≤l.length * N
 | [],_=>by simp
 | x::l,h=>by
   have h1:=h x (by simp)
   have h2:=zin f N l (fun y hy=>h y (by simp [hy]))
   simp only [List.flatMap_cons,List.length_append,List.length_cons,Nat.add_mul,Nat.one_mul]; omega
theorem z0d (old now:List RelOf) (delta:List Tup):∀ (ss:List Step) (x:Tup),(z27 old now delta ss x).length≤zgb old now delta ss
 | [],x=>by simp [z27,zgb]
 | s::ss,x=>by
   have ih:=z0d old now delta ss
   have hle:=zpt old now delta s ss
   unfold z27
   split
   ·split
    ·exact Nat.le_trans (ih x) hle
    ·simp
   ·split
    ·split
     ·simp
     ·exact Nat.le_trans (ih x) hle
    ·rename_i h3 h2
     have:=zin (fun t=>((za5 s.cols t x).map (z27 old now delta ss)).getD []) (zgb old now delta ss) (relT s old now delta) (fun t _=>by
      cases za5 s.cols t x with
      | none=>simp
      | some y=>exact ih y)
     refine Nat.le_trans this ?_
     show _≤stepW old now delta s * zgb old now delta ss
     refine Nat.mul_le_mul_right _ ?_
     unfold stepW
     rw [if_neg (by rintro (h | h); exact h2 h; exact h3 h)]
     omega
theorem zqt (p:Plan) (old now:List RelOf) (delta:List Tup):∀ (ss:List Step) (i:Nat) (x:Tup),p.steps.drop i=ss→goL (zm7 p old now delta) i ss x=z27 old now delta ss x
 | [],i,x,h=>rfl
 | s::ss,i,x,h=>by
   have hi:i < p.steps.length:=by
    rcases Nat.lt_or_ge i p.steps.length with h1 | h1
    ·exact h1
    ·rw [List.drop_eq_nil_of_le h1] at h; cases h
   rw [List.drop_eq_getElem_cons hi] at h
   obtain ⟨hs,hss⟩:=List.cons.inj h
   have ih:=fun y=>zqt p old now delta ss (i + 1) y hss
   have hgD:p.steps.getD i default=s:=by rw [List.getD_eq_getElem?_getD,List.getElem?_eq_getElem hi,hs]; rfl
   have hany:((zm7 p old now delta i x).any fun t=>(z41 s.cols t x).isSome)=(relT s old now delta).any fun t=>(za5 s.cols t x).isSome:=by
    simp only [zm7,hgD,List.any_filter,za5]
    congr 1
    funext t
    by_cases hl:t.length=s.cols.length
    ·simp [hl]
    ·simp [hl,Ne.symm hl,show ¬ s.cols.length=t.length from fun e=>hl e.symm]
   have hfm:((zm7 p old now delta i x).flatMap fun t=>((z41 s.cols t x).map (goL (zm7 p old now delta) (i + 1) ss)).getD [])=(relT s old now delta).flatMap fun t=>((za5 s.cols t x).map (z27 old now delta ss)).getD []:=by
    have e:goL (zm7 p old now delta) (i + 1) ss=z27 old now delta ss:=funext ih
    rw [e]
    simp only [zm7,hgD]
    generalize relT s old now delta=rel
    induction rel with
    | nil=>rfl
    | cons t rel ihr=>
      by_cases hl:t.length=s.cols.length
      ·simp [List.filter_cons,hl,za5,ihr]
      ·simp [List.filter_cons,hl,za5,show ¬ s.cols.length=t.length from fun e=>hl e.symm,ihr]
   unfold goL z27
   rw [hany,hfm,ih]
theorem zej (p:Plan) (old now:List RelOf) (delta:List Tup):allT p old now delta=z27 old now delta p.steps (zeros p.vars.length):=zqt p old now delta p.steps 0 _ rfl
theorem zhi:∀ {cs:List Col} {t x x':Tup},z41 cs t x=some x'→x'.length=x.length
 | [],t,x,x',h=>by simp [z41] at h; rw [← h]
 | c::cs,[],x,x',h=>by simp [z41] at h; rw [← h]
 | c::cs,y::ys,x,x',h=>by
   simp only [z41] at h
   split at h
   ·rename_i x1 h1
    rw [zhi h,zlp h1]
   ·cases h
theorem z8z {cs:List Col} {t x x':Tup} (h:za5 cs t x=some x'):x'.length=x.length:=by
 unfold za5 at h
 split at h
 ·exact zhi h
 ·cases h
end Go.Abs.Plan
namespace Go.Abs.Plan
open Enc (Is)
theorem zii:z1a=(SS (SS (RR [mV 71 19,mV 72 14,lN 73 72,kk 74 (.bin .lss .no (tt 71) (tt 73))])
 (.cond (tt 74) .skip (.exit 1)))
 (SS (.block 2 (SS (.draw [fA 78 4 13,lD 79 78,mV 80 14,mV 81 19,iX 82 1 80 81,lD 83 82,mV 84 2,uu 85 (.call (.func zt6) [(tt 79),(tt 83),(tt 84)]),mV 77 85,uu 86 (.extract (tt 77) 0),uu 87 (.extract (tt 77) 1),kM 20 86,kM 21 87] [])
 (SS (RR [mV 88 18,mV 89 88,gV 90 21 89 false,uu 91 (.pick (tt 89) (.const (.bool true)) (tt 90)),kM 18 91])
 (SS (RR [mV 92 21,mV 93 92,ug 94 (.fieldAddr 0 (tt 13)) 93 true,ug 95 (.load false 1 (tt 94)) 93 true,ug 96 (.bin .neq .no (tt 95) (ii 2)) 93 true,kk 97 (.pick (tt 93) (tt 96) (.const (.bool false)))])
 (.cond (tt 97) (RR [mV 98 17,uu 99 (.load true 4 (tt 6)),mV 100 1,iC 101 100,mV 102 20,mV 103 3,mV 104 4,mV 105 5,uu 106 (.call (.func zz2) [(tt 99),(tt 101),(tt 102),(tt 103),(tt 104),(tt 105)]),uu 107 (.append 1 24 (tt 98) (tt 106)),kM 17 107]) .skip)))))
 (RR [mV 75 19,iC 76 75,kM 19 76]))):=rfl
def zxv:ACode:=(SS (RR [kk 17 (.move (.const .nilsl))])
 (SS (RR [kk 18 (.move (.const (.bool false)))])
 (SS (SS (RR [kk 19 (.move (ii 0))])
 (.block 1 (.loop z1a)))
 (SS (SS (RR [fA 108 0 13,lD 109 108,uu 110 (.bin .eql .no (tt 109) (ii 2)),mV 111 110,gV 112 18 111 true,ug 113 (.un .not (tt 112)) 111 true,kk 114 (.pick (tt 111) (tt 113) (.const (.bool false)))])
 (.cond (tt 114) (SS (RR [uu 115 (.load true 4 (tt 6)),mV 116 1,iC 117 116,mV 118 2,mV 119 3,mV 120 4,mV 121 5,uu 122 (.call (.func zz2) [(tt 115),(tt 117),(tt 118),(tt 119),(tt 120),(tt 121)]),kM 12 122])
 .ret) .skip))
 (SS (RR [mV 123 17,kM 12 123])
 .ret)))))
theorem zwp:z55=(SS (RR [kk 6 (.boxF 4 (tt 0)),kk 12 (.move (.const .nilsl))])
 (SS (SS (RR [mV 22 1,fA 23 1 6,lD 24 23,lN 25 24,kk 26 (.bin .eql .no (tt 22) (tt 25))])
 (.cond (tt 26) (SS (RR [uu 27 (.buildSlice (.agg [(.int .i64 0),(.int .i64 0),(.str ⟨#[]⟩)]) 0 []),mV 28 2,uu 29 (.append 3 32 (tt 27) (tt 28)),uu 30 (.buildSlice .nilsl 1 [(0,(tt 29))]),kM 12 30])
 .ret) .skip))
 (SS (RR [fA 31 1 6,lD 32 31,mV 33 1,iX 34 16 32 33,uu 35 (.load true 16 (tt 34)),kk 13 (.boxF 16 (tt 35))])
 (SS (RR [kk 14 (.move (.const .nilsl))])
 (SS (SS (RR [fA 36 0 13,kk 37 (.load false 1 (tt 36))])
 (.block 0 (SS (RR [uu 43 (.bin .eql .no (tt 37) (ii 3)),kM 42 43])
 (.cond (tt 42) (SS (.draw [fA 45 5 13,lD 46 45,fA 47 6 13,uu 48 (.load true 5 (tt 47)),mV 49 2,uu 50 (.call (.func z03) [(tt 48),(tt 49)]),fA 51 11 13,uu 52 (.load true 5 (tt 51)),mV 53 2,uu 54 (.call (.func z03) [(tt 52),(tt 53)]),uu 55 (.call (.func zgd) [(tt 46),(tt 50),(tt 54)]),mV 44 55,uu 56 (.extract (tt 44) 0),uu 57 (.extract (tt 44) 1),kM 15 56,mV 16 57] [(1,5),(5,7),(1,9)])
 (SS (SS (RR [mV 58 15,kk 59 (.un .not (tt 58))])
 (.cond (tt 59) (SS (RR [kk 12 (.move (.const .nilsl))])
 .ret) .skip))
 (SS (RR [uu 60 (.load true 4 (tt 6)),mV 61 1,iC 62 61,mV 63 2,mV 64 3,mV 65 4,mV 66 5,uu 67 (.call (.func zz2) [(tt 60),(tt 62),(tt 63),(tt 64),(tt 65),(tt 66)]),kM 12 67])
 .ret))) (SS (RR [uu 69 (.bin .eql .no (tt 37) (ii 4)),kM 68 69])
 (.cond (tt 68) (RR [mV 70 5,kM 14 70]) (RR [uu 38 (.load true 16 (tt 13)),mV 39 3,mV 40 4,uu 41 (.call (.func z57) [(tt 38),(tt 39),(tt 40)]),kM 14 41])))))))
 zxv))))):=rfl
structure zrt (old now:List RelOf) (delta:List Tup) (n:Nat) (s:Step):Prop where
 len:s.cols.length≤2 ^ 20
 col:∀ c∈s.cols,zkp n c
 tst:s.op=3→ColIn n s.a∧ColIn n s.b
 rel:(relT s old now delta).length≤2 ^ 20
theorem zjn:∀ {a b:List AV},AV.unlents a=true→AV.unlents b=true→AV.unlents (a++b)=true
 | [],b,_,h=>h
 | x::a,b,h1,h2=>by
   simp only [List.cons_append,AV.unlents,Bool.and_eq_true] at h1 ⊢
   exact ⟨h1.1,zjn h1.2 h2⟩
theorem z581 {H0 Hs:Heap} {v:AV} {rows:List AV} (h:Acc H0 1 v Hs rows):zh1 1 24 v .nilsl=.val v:=by
 rcases h with ⟨_,rfl,_⟩ | ⟨g,_,rfl,_⟩ <;> simp only [zh1,zrl,Go.Abs.appendTo_0s]
theorem zfj {α β:Type} (f:α→List β) (l:List α) (j:Nat) (h:j < l.length):(l.take (j + 1)).flatMap f=(l.take j).flatMap f++f l[j]:=by
 rw [List.take_add_one,List.getElem?_eq_getElem h,List.flatMap_append]; simp only [Option.toList_some,List.flatMap_cons,List.flatMap_nil,List.append_nil]
theorem zfr {α:Type} (f:α→Bool) (l:List α) (j:Nat) (h:j < l.length):(l.take (j + 1)).any f=((l.take j).any f || f l[j]):=by
 rw [List.take_add_one,List.getElem?_eq_getElem h,List.any_append]; simp only [Option.toList_some,List.any_cons,List.any_nil,Bool.or_false]
theorem zgk {α β:Type} (f:α→List β) (l:List α) (j:Nat):((l.take j).flatMap f).length≤(l.flatMap f).length:=by
 have h:l.flatMap f=(l.take j).flatMap f++(l.drop j).flatMap f:=by rw [← List.flatMap_append,List.take_append_drop]
 rw [h]; simp
variable {p:Plan} {old now:List RelOf} {delta:List Tup}
def zji (p:Plan) (old now:List RelOf) (delta:List Tup) (ss:List Step):Prop:=
 ∀ (i:Nat) (x:Tup) (vp vx vo vn vd:AV),p.steps.drop i=ss→i≤p.steps.length→Is vp p→Is vx x→Is vo old→Is vn now→Is vd delta→x.length≤2 ^ 20→(∀ s∈ss,zrt old now delta x.length s) →
   ∃ r,zy (callW tbl) loopW z22 [vp,i64 i,vx,vo,vn,vd]=some r∧Is r (z27 old now delta ss x)∧r.unlent=true
theorem zji.callS {ss:List Step} (h:zji p old now delta ss) (i:Nat) (x:Tup) (vp ux vx vo vn vd:AV) (hd:p.steps.drop i=ss) (hi:i≤p.steps.length) (h1:Is vp p) (h2:Is vx x) (h3:Is vo old) (h4:Is vn now) (h5:Is vd delta) (hx:x.length≤2 ^ 20) (hs:∀ s∈ss,zrt old now delta x.length s)
 (H:Heap) (hre:reify H zw ux=some vx):∃ r,callW tbl (.func zz2 [] []) [vp,i64 i,ux,vo,vn,vd] H=some (r,H)∧Is r (z27 old now delta ss x)∧r.unlent=true:=
 zwd (f:=zz2) (af:=z22) rfl rfl (R:=fun a=>∃ vp vx vo vn vd,a=[vp,i64 i,vx,vo,vn,vd]∧Is vp p∧Is vx x∧Is vo old∧Is vn now∧Is vd delta) (S:=fun r=>Is r (z27 old now delta ss x)∧r.unlent=true)
  (by rintro _ ⟨vp,vx,vo,vn,vd,rfl,h1,h2,h3,h4,h5⟩; exact ⟨vp.lend,vx.lend,vo.lend,vn.lend,vd.lend,rfl,Enc.lend h1,Enc.lend h2,Enc.lend h3,Enc.lend h4,Enc.lend h5⟩)
  (by rintro _ ⟨vp,vx,vo,vn,vd,rfl,h1,h2,h3,h4,h5⟩; obtain ⟨r,e1,e2,e3⟩:=h i x vp vx vo vn vd hd hi h1 h2 h3 h4 h5 hx hs; exact ⟨r,e1,⟨e2,e3⟩,e3⟩)
  [vp,i64 i,ux,vo,vn,vd] [vp,i64 i,vx,vo,vn,vd] H (by simp [zx3,z6 (Enc.plain h1),z6 (Enc.plain h3),z6 (Enc.plain h4),z6 (Enc.plain h5),z6 (v:=i64 i) rfl,hre]) ⟨vp,vx,vo,vn,vd,rfl,h1,h2,h3,h4,h5⟩
theorem zji.call {ss:List Step} (h:zji p old now delta ss) (i:Nat) (x:Tup) (vp vx vo vn vd:AV) (hd:p.steps.drop i=ss) (hi:i≤p.steps.length) (h1:Is vp p) (h2:Is vx x) (h3:Is vo old) (h4:Is vn now) (h5:Is vd delta) (hx:x.length≤2 ^ 20) (hs:∀ s∈ss,zrt old now delta x.length s)
 (H:Heap):∃ r,callW tbl (.func zz2 [] []) [vp,i64 i,vx,vo,vn,vd] H=some (r,H)∧Is r (z27 old now delta ss x)∧r.unlent=true:=
 h.callS i x vp vx vx vo vn vd hd hi h1 h2 h3 h4 h5 hx hs H (z6 (Enc.plain h2))
theorem zst (hp40:p.steps.length≤2 ^ 40) (hlo:old.length≤2 ^ 30) (hln:now.length≤2 ^ 30):∀ (ss:List Step),zgb old now delta ss≤2 ^ 30→zji p old now delta ss
 | [],_=>by
   intro i x vp vx vo vn vd hd hi h1 h2 h3 h4 h5 hx hs
   obtain ⟨a,b,c,hA,hB,hC,rfl⟩:=h1
   have ca:=zb hA
   have cb:=zb hB
   have cc:=zb hC
   have hlb:=IsL.len hB
   have hil:i=p.steps.length:=by
    have:=congrArg List.length hd
    simp at this; omega
   have hii:(i:Int)=(p.steps.length:Int):=by omega
   refine pureK z22 rfl (fun F hF=>?_)
   have fin:∀ (H:Heap) (g g2:Nat),H[0]? = some (.arr g 3 (x.map Val.enc))→H[1]? = some (.arr g2 1 [.sl 0 g 0 x.length])→F (.sl 1 g2 0 1) H:=fun H g g2 e1 e2=>by
    have hre:reify H zw (.sl 1 g2 0 1)=some (.fsl false [tupA x]):=by
     refine zgq (k:=11) e2 (by simp) ?_
     have:=zv8 (k:=9) (off:=0) (len:=x.length) (rows:=x.map Val.enc) (xs:=x) e1 (by simp) (by simp [List.take_of_length_le]) (zr6 (fun _=>rfl) x)
     simp only [List.drop_zero,List.take_succ_cons,List.take_nil,List.take_zero,zx3,this]; rfl
    exact hF _ _ _ hre ⟨IsL.fsl (.cons (zg4 x) .nil),by simp [AV.unlent,AV.unlents,tupA,zk7]⟩
   rcases zmt h2 with ⟨rfl,rfl⟩ | ⟨fl,rfl⟩
   ·simp [z22,z55,AV.rowok,ca,cb,cc,hlb,hii,zr,zh1,Go.Abs.appendTo_0s]
    exact fin _ 0 _ rfl rfl
   ·by_cases hx0:x=[]
    ·subst hx0
     simp [z22,z55,AV.rowok,ca,cb,cc,hlb,hii,zr,zh1,Go.Abs.appendTo_0s]
     exact fin _ 0 _ rfl rfl
    ·have hx1:0 < x.length:=by cases x; exact absurd rfl hx0; simp
     have hn0:¬ (x.length≤0):=by omega
     have hroom:x.length * 32≤140737488355328:=by omega
     have hro:∀ y:Val,AV.rowok 3 y.enc=true:=fun _=>rfl
     simp [z22,z55,AV.rowok,ca,cb,cc,hlb,hii,zr,zh1,zi1,room,hro,hx0,hn0,hroom]
     exact fin _ _ _ rfl rfl
 | s::ss,hW=>by
   have hss:=zst hp40 hlo hln ss (Nat.le_trans (zpt _ _ _ _ _) hW)
   intro i x vp vx vo vn vd hd hi h1 h2 h3 h4 h5 hx hs
   have hplan:=h1
   obtain ⟨a,b,c,hA,hB,hC,rfl⟩:=h1
   have ca:=zb hA
   have cb:=zb hB
   have cc:=zb hC
   have hlb:=IsL.len hB
   have hi1:i < p.steps.length:=by
    rcases Nat.lt_or_ge i p.steps.length with h1 | h1
    ·exact h1
    ·rw [List.drop_eq_nil_of_le h1] at hd; cases hd
   have hdd:=hd
   rw [List.drop_eq_getElem_cons hi1] at hdd
   obtain ⟨hsi,hdrop⟩:=List.cons.inj hdd
   have hni:¬ (i:Int)=(p.steps.length:Int):=by omega
   have hg:p.steps[i]? = some s:=by rw [List.getElem?_eq_getElem hi1,hsi]
   obtain ⟨fl,sv,⟨la,hla,rfl⟩,hidx⟩:=IsL.idx hB hg
   simp only [show Enc.sz Step=16 from rfl] at hidx
   have cla:=zb hla
   have hwi:IntKind.i64.wrap ((i:Int) + 1)=((i + 1:Nat):Int):=z61 (by omega) (by omega)
   have hst:=hs s (by simp)
   have hrest:∀ s'∈ss,zrt old now delta x.length s':=fun s' h=>hs s' (by simp [h])
   refine pureK z22 rfl (fun F hF=>?_)
   have hTl:=z0d old now delta (s::ss) x
   unfold z27 at hF hTl
   by_cases hop3:s.op=3
   ·obtain ⟨ha,hb⟩:=hst.tst hop3
    have e1:=zzg s.a x vx [] h2 ha
    have e2:=zzg s.b x vx [] h2 hb
    have e3:=zvv s.cmp (zo1 s.a x) (zo1 s.b x) []
    rw [if_pos hop3] at hF
    cases hh:zt1 s.cmp (zo1 s.a x) (zo1 s.b x) with
    | false=>
      rw [hh] at e3 hF
      simp [z22,z55,AV.rowok,ca,cb,cc,hlb,hni,hidx,cla,hop3,e1,e2,e3]
      exact hF _ _ _ (z6 rfl) ⟨IsL.nil,rfl⟩
    | true=>
      rw [hh] at e3 hF
      obtain ⟨r,e4,hr,hru⟩:=hss.call (i + 1) x _ _ _ _ _ hdrop (by omega) hplan h2 h3 h4 h5 hx hrest []
      have e5:((i + 1:Nat):Int)=(i:Int) + 1:=by omega
      simp only [e5] at e4 hwi
      simp [z22,z55,AV.rowok,ca,cb,cc,hlb,hni,hidx,cla,hop3,e1,e2,e3,hwi,e4]
      exact hF _ _ _ (z6 (Enc.plain hr)) ⟨by simpa using hr,hru⟩
   ·rw [if_neg hop3] at hF hTl
    have hfr:∀ t r,Is r t→∀ H,callW tbl (.func zt6 [] []) [la,r,vx] H=some (zyb (za5 s.cols t x),H):=fun t r hr H=>zwv s.cols t x la r vx hla hr h2 hst.len hx hst.col H
    have main:∀ (rv:AV) (st:St),Is rv (relT s old now delta)→st.heap=[]→st.dfr=[]→st.tm.get 1=i64 i→st.tm.get 2=vx→st.tm.get 3=vo→st.tm.get 4=vn→st.tm.get 5=vd→st.tm.get 6=.fptr false [a,b, .str p.pred,c] 0 →
     st.tm.get 13=.fptr false (s.encW la).cells 0→st.tm.get 14=rv→EXEC (callW tbl) loopW zxv [] st (FINQ [.tmp 12] F):=by
     intro rv st hrv q1 q2 f1 f2 f3 f4 f5 f6 f13 f14
     have hlr:=IsL.len hrv
     generalize hrel:relT s old now delta=rel at *
     have hrl:=hst.rel
     rw [hrel] at hrl
     simp [zxv,f1,f2,f3,f4,f5,f6,f13,f14]
     refine zg (fun n st=>∃ (j:Nat) (u:AV) (rows:List AV),j + n=rel.length∧Acc [] 1 u st.heap rows∧AV.unlents rows=true∧All2 Is rows (if s.op=2 then [] else (rel.take j).flatMap fun t=>((za5 s.cols t x).map (z27 old now delta ss)).getD [])∧st.dfr=[] ∧
      st.tm.get 1=i64 i∧st.tm.get 2=vx∧st.tm.get 3=vo∧st.tm.get 4=vn∧st.tm.get 5=vd∧st.tm.get 6=.fptr false [a,b, .str p.pred,c] 0∧st.tm.get 13=.fptr false (s.encW la).cells 0∧st.tm.get 14=rv∧st.tm.get 17=u∧st.tm.get 18=.bool ((rel.take j).any fun t=>(za5 s.cols t x).isSome)∧st.tm.get 19=i64 j) rel.length
      ⟨0, .nilsl,[],by omega,by simpa [q1] using Acc.nil,rfl,by simp; exact .nil,by simp [q2],by simp [f1],by simp [f2],by simp [f3],by simp [f4],by simp [f5],by simp [f6],by simp [f13],by simp [f14],by simp,by simp,by simp⟩ ?_
     clear q1 q2 f1 f2 f3 f4 f5 f6 f13 f14 st
     rintro n st Q ⟨j,u,rows,h0,hacc,hun,hrows,q2,f1,f2,f3,f4,f5,f6,f13,f14,f17,f18,f19⟩ hgo hxx
     have hwj:IntKind.i64.wrap ((j:Int) + 1)=((j + 1:Nat):Int):=z61 (by omega) (by omega)
     by_cases hj:j < rel.length
     ·have hjj:(j:Int) < (rel.length:Int):=by omega
      obtain ⟨fl,r,hr,hidr⟩:=IsL.idx hrv (List.getElem?_eq_getElem hj)
      simp only [show Enc.sz Tup=1 from rfl] at hidr
      have hcr:=zb hr
      have hag:=hfr rel[j] r hr st.heap
      have tany:=zfr (fun t=>(za5 s.cols t x).isSome) rel j hj
      have tfm:=zfj (fun t=>((za5 s.cols t x).map (z27 old now delta ss)).getD []) rel j hj
      have htl:=zgk (fun t=>((za5 s.cols t x).map (z27 old now delta ss)).getD []) rel (j + 1)
      have hfb:∃ fb:Bool,fb=(rel.take j).any fun t=>(za5 s.cols t x).isSome:=⟨_,rfl⟩
      obtain ⟨fb,hfb⟩:=hfb
      rw [← hfb] at tany f18
      cases hro:za5 s.cols rel[j] x with
      | none=>
        rw [hro] at hag
        simp only [hro,Option.isSome_none,Bool.or_false] at tany
        simp only [hro,Option.map_none,Option.getD_none,List.append_nil] at tfm
        simp only [zyb] at hag
        have hgo':=fun st'=>hgo st' (n - 1) (by omega)
        cases fb <;>
        ·simp [zii,f1,f2,f3,f4,f5,f6,f13,f14,f17,f18,f19,hlr,hjj,hidr,hcr,cla,hag]
         exact hgo' _ ⟨j + 1,u,rows,by omega,by simpa using hacc,hun,by rw [tfm]; exact hrows,by simp [q2],by simp [f1],by simp [f2],by simp [f3],by simp [f4],by simp [f5],by simp [f6],by simp [f13],by simp [f14],by simp [f17],by simp [tany],by simp [hwj]⟩
      | some y=>
        rw [hro] at hag
        simp only [hro,Option.isSome_some,Bool.or_true] at tany
        simp only [hro,Option.map_some,Option.getD_some] at tfm
        simp only [zyb] at hag
        have hgo':=fun st'=>hgo st' (n - 1) (by omega)
        by_cases hop2:s.op=2
        ·rw [if_pos hop2] at hrows
         cases fb <;>
         ·simp [zii,f1,f2,f3,f4,f5,f6,f13,f14,f17,f18,f19,hlr,hjj,hidr,hcr,cla,hag,hop2]
          exact hgo' _ ⟨j + 1,u,rows,by omega,by simpa using hacc,hun,by rw [if_pos hop2]; exact hrows,by simp [q2],by simp [f1],by simp [f2],by simp [f3],by simp [f4],by simp [f5],by simp [f6],by simp [f13],by simp [f14],by simp [f17],by simp [tany],by simp [hwj]⟩
        ·rw [if_neg hop2] at hrows
         have hyl:=z8z hro
         obtain ⟨rr,e4,hrr,hru⟩:=hss.call (i + 1) y _ _ _ _ _ hdrop (by omega) hplan (zg4 y) h3 h4 h5 (by omega) (by rw [hyl]; exact hrest) st.heap
         have e5:((i + 1:Nat):Int)=(i:Int) + 1:=by omega
         simp only [e5] at e4
         have hwi':IntKind.i64.wrap ((i:Int) + 1)=(i:Int) + 1:=by rw [hwi,e5]
         have hrl2:=hrows.length
         rcases IsL.cases hrr with ⟨rfl,hnil⟩ | ⟨fl2,ys,rfl,hys⟩
         ·rw [hnil,List.append_nil] at tfm
          have hap:=z581 hacc
          cases fb <;>
          ·simp [zii,f1,f2,f3,f4,f5,f6,f13,f14,f17,f18,f19,hlr,hjj,hidr,hcr,cla,hag,hop2,hwi',e4,hap]
           exact hgo' _ ⟨j + 1,u,rows,by omega,by simpa using hacc,hun,by rw [if_neg hop2,tfm]; exact hrows,by simp [q2],by simp [f1],by simp [f2],by simp [f3],by simp [f4],by simp [f5],by simp [f6],by simp [f13],by simp [f14],by simp,by simp [tany],by simp [hwj]⟩
         ·have hyl2:=hys.length
          have hrk:ys.all (AV.rowok 1)=true:=List.all_eq_true.2 fun z hz=>by
           obtain ⟨w,_,hw⟩:=hys.left z hz
           exact Enc.row hw
          obtain ⟨u',Hs',hacc',hstep⟩:=Acc.append (call:=callW tbl) (lp:=loopW) (bytes:=24) (fl:=fl2) hacc hrk (by
           rw [tfm,List.length_append] at htl
           have hle:(rel.flatMap fun t=>((za5 s.cols t x).map (z27 old now delta ss)).getD []).length≤2 ^ 30:=by
            rw [if_neg hop2] at hTl
            exact Nat.le_trans hTl hW
           have:rows.length + ys.length≤2 ^ 30:=by rw [hrl2,hyl2]; omega
           omega)
          cases fb <;>
          ·simp [zii,f1,f2,f3,f4,f5,f6,f13,f14,f17,f18,f19,hlr,hjj,hidr,hcr,cla,hag,hop2,hwi',e4,hstep]
           exact hgo' _ ⟨j + 1,u',rows++ys,by omega,by simpa using hacc',zjn hun (by simp only [AV.unlent,Bool.and_eq_true] at hru; exact hru.2),by rw [if_neg hop2,tfm]; exact hrows.append hys,by simp [q2],by simp [f1],by simp [f2],by simp [f3],by simp [f4],by simp [f5],by simp [f6],by simp [f13],by simp [f14],by simp,by simp [tany],by simp [hwj]⟩
     ·have hjj:¬ (j:Int) < (rel.length:Int):=by omega
      have htk:rel.take j=rel:=List.take_of_length_le (by omega)
      rw [htk] at hrows f18
      simp [zii,f14,f19,hlr,hjj]
      refine hxx _ _ (by simp) ?_
      by_cases hop2:s.op=2
      ·rw [if_pos hop2] at hrows hF
       have hr0:rows=[]:=by cases hrows; rfl
       have hH0:st.heap=[]∧u=.nilsl:=by rcases hacc with ⟨_,h1,h2⟩ | ⟨_,h,_⟩; exact ⟨h2,h1⟩; exact absurd hr0 h
       cases hfb:(rel.any fun t=>(za5 s.cols t x).isSome) with
       | true=>
         rw [hfb] at f18 hF
         simp [f13,f17,f18,hop2,q2,hH0]
         exact hF _ _ _ (z6 rfl) ⟨IsL.nil,rfl⟩
       | false=>
         rw [hfb] at f18 hF
         obtain ⟨rr,e4,hrr,hru⟩:=hss.call (i + 1) x _ _ _ _ _ hdrop (by omega) hplan h2 h3 h4 h5 hx hrest []
         have e5:((i + 1:Nat):Int)=(i:Int) + 1:=by omega
         simp only [e5] at e4
         have hwi':IntKind.i64.wrap ((i:Int) + 1)=(i:Int) + 1:=by rw [hwi,e5]
         simp [f1,f2,f3,f4,f5,f6,f13,f17,f18,hop2,q2,hH0,cla,AV.rowok,ca,cb,cc,hwi',e4]
         exact hF _ _ _ (z6 (Enc.plain hrr)) ⟨by simpa using hrr,hru⟩
      ·rw [if_neg hop2] at hrows hF
       obtain ⟨rr,hre,hrr,hru⟩:=hacc.reify hrows
       simp [f13,f17,f18,hop2,q2]
       exact hF _ _ _ hre ⟨hrr,hru hun⟩
    by_cases hop4:s.op=4
    ·have hrv:Is vd (relT s old now delta):=by simp only [relT,hop4,if_true]; exact h5
     simp [zwp,z22,AV.rowok,ca,cb,cc,hlb,hni,hidx,cla,hop4]
     refine main vd _ hrv ?_ ?_ ?_ ?_ ?_ ?_ ?_ ?_ ?_ ?_ <;> simp [hop4]
    ·obtain ⟨rv,e1,hrv⟩:=zer s old now delta (s.encW la) vo vn ⟨la,hla,rfl⟩ h3 h4 hlo hln hop4 []
     simp [zwp,z22,AV.rowok,ca,cb,cc,hlb,hni,hidx,cla,hop3,hop4,e1]
     refine main rv _ hrv ?_ ?_ ?_ ?_ ?_ ?_ ?_ ?_ ?_ ?_ <;> simp
end Go.Abs.Plan
