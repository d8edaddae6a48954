/- Exec: the functions that nothing but the kernel runs: their code is read out of the program itself. PRINTED BY wip/dev/gT52.py. -/
import Derived.Test.YtddpdpjpfgnhmaaGreatG38x
import Derived.Test.YtddpdpjpfgnhmaaGreatProg
set_option linter.unusedSimpArgs false
set_option linter.unusedVariables false
set_option maxHeartbeats 4000000
namespace Go.Abs.Plan
open Go Go.Abs Go.Proofs
def z881:List (Nat×Bool×Bool×List Nat):=[(22,true,false,[0,1,2,3,6,7,9,10,11,12,13,14,15,16,17,19,21,28,31,32,33,34,40,48,4003,4008,4012,4013,4088]),
 (29,true,false,[0,2,3,4,5,6,7,8,16,27,4008]),
 (30,true,false,[0,2,3,4,9]),
 (31,true,false,[0,2]),
 (51,true,false,[0,1,2,4,5,6,7,8,9,10,11,17,21,32,63,64,65,78,108,4002,4006,4010]),
 (53,true,false,[0,1,2,4001]),
 (54,false,false,[0,1,2,3]),
 (55,false,false,[0,1,2,3,4,10,4002,4003]),
 (56,false,true,[0,2,3,4,6,7,4004,4010]),
 (57,false,false,[0,2,3,4003]),
 (67,false,false,[0,2,3,4,5,6,7,15]),
 (68,false,true,[0,2,3,8,20,30]),
 (69,false,false,[0,11]),
 (98,true,false,[0,1,2,3,4,5,7,9,10,26,27,28,29,33,35,62,4001,4007,4059,4082,4096]),
 (100,false,true,[0,1,4,5,7,8,9,10,11,4007,4018]),
 (101,true,false,[0,2,3,5,6,7,8,9,10,22,4005,4025]),
 (103,false,false,[0,1,4,5,23,24,26,4004]),
 (104,false,false,[0,2,4]),
 (105,false,true,[0,1,2,3,7]),
 (106,false,false,[0]),
 (107,false,true,[0,1,2,3,4,11,4004]),
 (108,false,false,[0,1,2,4001]),
 (109,false,false,[0,1,2,4,5,7,4002,4005]),
 (110,true,false,[0,1,2,3,4,4002,4003]),
 (111,false,true,[0,1,2,3,4,5,6,13,29,40,4005]),
 (112,false,true,[0,2,3,4,16,24]),
 (113,false,false,[0]),
 (126,true,false,[0,2,3,4,5,6,7,8,11,17,25,4007,4029]),
 (127,false,true,[0,2,3,10,23,33]),
 (128,false,false,[0,1,2,6]),
 (129,false,true,[0,2,3,4,17]),
 (130,false,false,[0,1]),
 (131,false,false,[0,6]),
 (156,true,false,[0,1,2,3,5,7,8,10,13,14,15,16,21,22,23,24,34,41,42,43,44,49,4001,4005,4007,4052]),
 (158,false,false,[0,1,3,4,5,7,8,13,23,4003]),
 (159,false,false,[0,1,2,3,4002]),
 (162,true,false,[0,1,2,5,4001]),
 (164,false,false,[0,1,3,4,6,19,4003]),
 (165,false,false,[0,2,3,5,6,7,8,9,4016]),
 (166,false,true,[0,1,2,3,4,6,7,8,9,10,11,12,31,36,4007]),
 (175,true,false,[0,1,4,5,24]),
 (176,true,false,[0,1,4,5,6,7,8,9,23,35,37,44,76,83,117]),
 (177,false,false,[0,2,5]),
 (178,false,false,[0,2,3,10,17]),
 (179,false,false,[0,2]),
 (180,false,false,[0,2,3,4,9,17]),
 (181,false,false,[0,1,2,6,7,12]),
 (182,false,false,[0,2,12]),
 (203,false,false,[0,1,4,6,8,11,12,13,14,20,23,24,25,26,31,32,33,34,40,53,4004,4006,4008]),
 (208,true,false,[0,2]),
 (209,true,false,[0,2]),
 (210,true,false,[0,2]),
 (211,true,false,[0,1,4,14]),
 (212,true,false,[0,2]),
 (213,true,false,[0,1,2,6,7,8,9,16,4008]),
 (214,true,false,[0,1,4,14]),
 (215,true,false,[0,1,4,5,11,17,23]),
 (216,true,false,[0,1,4,5,10,16,31]),
 (217,true,false,[0,2]),
 (223,true,false,[0,2]),
 (224,true,false,[0,2,3,4,5,6,7,8,15,40]),
 (226,true,false,[0,2,3,4,5,6,14,23,27,39,48,62]),
 (227,true,false,[0,2,3,4,5,13,23,33,46,52,63,74,4029,4042,4059,4070]),
 (228,true,false,[0,1,2,3,4,5,8,11,14,32,4001,4043]),
 (229,true,false,[0,2,3,13]),
 (230,true,false,[0,1,2,4001]),
 (231,true,false,[0,2,4,8012]),
 (232,true,false,[0,2,3,12,16,20]),
 (233,true,false,[0,2,4]),
 (250,false,true,[0,2,3,4,8,19,4004])]
noncomputable def tblC (P:Program) (f:FuncId):Option AFun:=match z881.find? (fun e=>e.1 == f) with
 | some (_,p,z,l)=>match P.funcs[f]? with
   | some fn=>(z9 P p z l fn).map .code
   | none=>none
 | none=>none
theorem zca1 (P:Program):TblOk P (tblC P):=by
 intro f x h
 unfold tblC at h
 split at h
 ·split at h
  ·rename_i p z l _ _ fn hfn
   cases hc:z9 P p z l fn with
   | none=>rw [hc] at h; simp at h
   | some af=>
     rw [hc] at h
     simp only [Option.map_some,Option.some.injEq] at h
     subst h
     exact ⟨fn,p,z,l,hfn,hc⟩
  ·cases h
 ·cases h
noncomputable def tblE (f:FuncId):Option AFun:=match tblL f with
 | some x=>some x
 | none=>tblC Tryz.prog f
theorem subE:TSub tbl tblE:=by
 intro f x h
 unfold tblE
 rw [subL f x h]
theorem subLE:TSub tblL tblE:=by
 intro f x h
 unfold tblE
 rw [h]
end Go.Abs.Plan
