/- Exec: the table stands for the program. PRINTED BY wip/dev/AbsDev.lean (printTiesC). -/
import Derived.Test.YtddpdpjpfgnhmaaGreatG28x
import Derived.Test.YtddpdpjpfgnhmaaGreatProg
import Derived.KernelRfl
set_option linter.unusedSimpArgs false
set_option linter.unusedVariables false
set_option maxHeartbeats 4000000
set_option maxRecDepth 100000
namespace Go.Abs.Plan
open Go Go.Abs Go.Proofs
theorem tie3:z9 Tryz.prog true false [0,1,2,3,4,8,9,10,11,12,13,14,15,16,17,30,84,88,100,4004] Tryz.f3=some zb3:=by kernel_rfl
theorem tie8:z9 Tryz.prog true false [0,2,3,4,12] Tryz.f8=some z09:=by kernel_rfl
theorem tie9:z9 Tryz.prog true false [0,2,3,4,5,13,22,4027] Tryz.f9=some zd6:=by kernel_rfl
theorem tie10:z9 Tryz.prog true false [0,1,2,3,4,8,9,10,11,16,24,25,46,58,4004] Tryz.f10=some ze6:=by kernel_rfl
theorem tie11:z9 Tryz.prog true false [0,1,4,5,6,7,8,9,4001,4015,4019,4056,4057,4063,4065] Tryz.f11=some zjd:=by kernel_rfl
theorem tie12:z9 Tryz.prog true false [0,1,2,3,4,8,9,10,11,13,17,25,26,27,28,4004,4033] Tryz.f12=some zp3:=by kernel_rfl
theorem tie13:z9 Tryz.prog true false [0,1,2,3,4,8,9,12,4004] Tryz.f13=some zc3:=by kernel_rfl
theorem tie14:z9 Tryz.prog true false [0,1,2,3,4,8,9,10,11,12,14,15,17,18,19,21,31,34,35,36,37,42,43,44,45,60,77,79,4004,4017,4052,4063,4086] Tryz.f14=some z19:=by kernel_rfl
theorem tie15:z9 Tryz.prog false false [0,1,2,3,4,8,9,10,11,12,13,14,15,25,30,38,4004,4054,4055,4057,4058] Tryz.f15=some z7b:=by kernel_rfl
theorem tie16:z9 Tryz.prog true false [0,1,4,5,10,14,41] Tryz.f16=some zy5:=by kernel_rfl
theorem tie17:z9 Tryz.prog true false [0,1,4,5,6,16,29,31,37] Tryz.f17=some zn4:=by kernel_rfl
theorem tie18:z9 Tryz.prog true false [0,1,2,3,6,7,8,9,17,30,4003] Tryz.f18=some zf3:=by kernel_rfl
theorem tie20:z9 Tryz.prog true false [0,1,4,5,10,14,26] Tryz.f20=some zxe:=by kernel_rfl
theorem tie27:z9 Tryz.prog false false [0,2,3,4,5,6,7,8,9,16,28,56,62,71,103,124,4130] Tryz.f27=some z8b:=by kernel_rfl
theorem tie28:z9 Tryz.prog true false [0,1,4,5,9,18] Tryz.f28=some zua:=by kernel_rfl
theorem tie32:z9 Tryz.prog true false [0,1,2,3,4,5,7,17,24,25,26,27,36,39,40,41,42,48,4001,4005,4007] Tryz.f32=some zx4:=by kernel_rfl
theorem tie33:z9 Tryz.prog false true [0,2,3,4,6,7,4003,4004] Tryz.f33=some z9b:=by kernel_rfl
theorem tie34:z9 Tryz.prog false false [0,1,2,3,4,8,9,10,11,12,14,15,23,24,25,26,35,39,56,57,58,59,72,4004,4011,4015,4052,8018] Tryz.f34=some z67:=by kernel_rfl
theorem tie35:z9 Tryz.prog false false [0,1,2,4001] Tryz.f35=some zf6:=by kernel_rfl
theorem tie36:z9 Tryz.prog true false [0,1,2,3,4,5,15,24,36,41,51,4001] Tryz.f36=some z64:=by kernel_rfl
theorem tie37:z9 Tryz.prog false true [0,2,3,4,5,9,27,45] Tryz.f37=some zy6:=by kernel_rfl
theorem tie38:z9 Tryz.prog true false [0,1,2,3,4,5,6,12,13,14,15,17,18,19,20,21,26,37,42,59,68,74,97,114,4006,4013] Tryz.f38=some z22:=by kernel_rfl
theorem tie39:z9 Tryz.prog true false [0,1,2,4,7,4002] Tryz.f39=some zv7:=by kernel_rfl
theorem tie40:z9 Tryz.prog true false [0,2,3,5,6,7,8,9,4005] Tryz.f40=some z29:=by kernel_rfl
theorem tie41:z9 Tryz.prog false false [0,1,4] Tryz.f41=some z71:=by kernel_rfl
theorem tie42:z9 Tryz.prog true false [0,1,2,3,4,4002,4003] Tryz.f42=some zw7:=by kernel_rfl
theorem tie43:z9 Tryz.prog true false [0,1,4] Tryz.f43=some zp4:=by kernel_rfl
theorem tie44:z9 Tryz.prog true false [0,1,2,4,7,4002] Tryz.f44=some z74:=by kernel_rfl
theorem tie45:z9 Tryz.prog true false [0,1,2,3,4,5,9,4002,4003] Tryz.f45=some zx1:=by kernel_rfl
theorem tie46:z9 Tryz.prog false false [0,1,4,5,7,8,9,11,12,13,14,23] Tryz.f46=some zab:=by kernel_rfl
theorem tie47:z9 Tryz.prog false true [0,1,4,5,6,7,9,11,13,24,4027] Tryz.f47=some znd:=by kernel_rfl
theorem tie50:z9 Tryz.prog true false [0,1,4] Tryz.f50=some zyj:=by kernel_rfl
theorem tie52:z9 Tryz.prog true false [0,1,4,6,7,8,9,10,16,4006] Tryz.f52=some zva:=by kernel_rfl
theorem tie70:z9 Tryz.prog false false [0,1,2,4,6,8,9,11,14,101,103,104,105,106,115,4004,4011] Tryz.f70=some zc:=by kernel_rfl
theorem tie71:z9 Tryz.prog false false [0,1,2,3,5,8,9,11,12,17,31,51,63,4005] Tryz.f71=some zf:=by kernel_rfl
theorem tie72:z9 Tryz.prog false true [0,1,4,5] Tryz.f72=some zq1:=by kernel_rfl
theorem tie73:z9 Tryz.prog false false [0,1,2,4001] Tryz.f73=some za1:=by kernel_rfl
theorem tie74:z9 Tryz.prog true false [0,1,4] Tryz.f74=some zg6:=by kernel_rfl
theorem tie75:z9 Tryz.prog true false [0,1,2,3,4,6,7,8,9,11,17,18,19,20,24,25,26,27,45,52,53,54,55,60,4001,4006,4009,4011,4048,4067,4068] Tryz.f75=some zx7:=by kernel_rfl
theorem tie76:z9 Tryz.prog false false [0,1,2,6,7,9,16,17,18,19] Tryz.f76=some zp2:=by kernel_rfl
theorem tie77:z9 Tryz.prog false false [0,1,2,3,4002] Tryz.f77=some z65:=by kernel_rfl
theorem tie78:z9 Tryz.prog false false [0,1,2,3,4,7,8,9,11,13,14,22,36,63,64,65,66,76,79,85,4008] Tryz.f78=some zc1:=by kernel_rfl
theorem tie79:z9 Tryz.prog true false [0,1,2,4,5,6,7,8,9,10,18,19,21,23,25,27,29,41,4004,4005] Tryz.f79=some zn:=by kernel_rfl
theorem tie80:z9 Tryz.prog false true [0,1,2,6,7,9,16,17,18,19] Tryz.f80=some z73:=by kernel_rfl
theorem tie81:z9 Tryz.prog false false [0,2,4] Tryz.f81=some zn1:=by kernel_rfl
theorem tie82:z9 Tryz.prog false false [0,1,2,6,7,8,9,10,11,12,17,25,26,36,4008] Tryz.f82=some zq9:=by kernel_rfl
theorem tie83:z9 Tryz.prog false false [0,1,2,3,6,7,8,11,12,50,87,92,105,4003,4007] Tryz.f83=some zp:=by kernel_rfl
theorem tie84:z9 Tryz.prog false false [0,1,2,4,4002] Tryz.f84=some zy4:=by kernel_rfl
theorem tie85:z9 Tryz.prog true false [0,1,2,4,5,6,7,8,12,13,17,21,25,29,33,4004,4005] Tryz.f85=some zn2:=by kernel_rfl
theorem tie86:z9 Tryz.prog true false [0,1,2,3,6,8,4003] Tryz.f86=some zd3:=by kernel_rfl
theorem tie87:z9 Tryz.prog true false [0,1,2,6,7,8,9,14,21,28,39,40,53] Tryz.f87=some z13:=by kernel_rfl
theorem tie88:z9 Tryz.prog false false [0,1,3,4,4003,4017] Tryz.f88=some z06:=by kernel_rfl
theorem tie89:z9 Tryz.prog false false [0,1,2,3,4,10,11,12,13,14,15,16,17,18,19,20,25,32,39,56,75,80,97,125] Tryz.f89=some (Sort.a_pdq idsC true 2):=by kernel_rfl
theorem tie90:z9 Tryz.prog true false [0,2] Tryz.f90=some (Sort.a_len idsC true 2):=by kernel_rfl
theorem tie91:z9 Tryz.prog false false [0,1,2,6,7,8,9,10,11,12,13,14,21,31,38,4008,4009] Tryz.f91=some z91:=by kernel_rfl
theorem tie92:z9 Tryz.prog true false [0,1,2,3,4,4002,4003] Tryz.f92=some zs3:=by kernel_rfl
theorem tie93:z9 Tryz.prog true false [0,1,4,5,6,7,8,9,10,11,16,19,20,21,22,27,28,30,38,39,49,70,4009,4060] Tryz.f93=some z16:=by kernel_rfl
theorem tie94:z9 Tryz.prog false false [0,1,4] Tryz.f94=some zj1:=by kernel_rfl
theorem tie95:z9 Tryz.prog true false [0,1,4] Tryz.f95=some zh6:=by kernel_rfl
theorem tie99:z9 Tryz.prog true false [0,1,2,3,4,5,8,9,19,4001,4004,4005,4026] Tryz.f99=some z1k:=by kernel_rfl
theorem tie102:z9 Tryz.prog false false [0,1,2,3,4,5,6,7,8,10,12,13,14,16,17,18,19,22,28,40,51,60,4001,4006,4010] Tryz.f102=some zub:=by kernel_rfl
theorem tie132:z9 Tryz.prog false false [0,2] Tryz.f132=some zs2:=by kernel_rfl
theorem tie133:z9 Tryz.prog false false [0,1,4,6,8,14] Tryz.f133=some zu:=by kernel_rfl
theorem tie134:z9 Tryz.prog false false [0,1,2,3,6,7,13,14,19,27,53,58,4003] Tryz.f134=some z11:=by kernel_rfl
theorem tie135:z9 Tryz.prog true false [0,2] Tryz.f135=some zwa:=by kernel_rfl
theorem tie136:z9 Tryz.prog true false [0,2] Tryz.f136=some zj7:=by kernel_rfl
theorem tie137:z9 Tryz.prog false false [0,1,2,3,8,9,14,34] Tryz.f137=some (Sort.a_ins idsC true 2):=by kernel_rfl
theorem tie138:z9 Tryz.prog false false [0,1,2,3,8,9,10,11,12,21,33] Tryz.f138=some (Sort.zul idsC true 2):=by kernel_rfl
theorem tie139:z9 Tryz.prog false false [0,1,2,3,8,9,10,11,12,17,35,45] Tryz.f139=some (Sort.a_brk idsC true 2):=by kernel_rfl
theorem tie140:z9 Tryz.prog false false [0,1,2,3,8,9,10,11,12,13,14,34,36,55,57,60] Tryz.f140=some (Sort.a_piv idsC true 2):=by kernel_rfl
theorem tie141:z9 Tryz.prog false false [0,1,2,3,8,9,15] Tryz.f141=some (Sort.a_rev idsC true 2):=by kernel_rfl
theorem tie142:z9 Tryz.prog false false [0,1,2,3,8,9,10,11,12,16,36,41,45,65,69,84,104,109,124] Tryz.f142=some (Sort.zwl idsC true 2):=by kernel_rfl
theorem tie143:z9 Tryz.prog false false [0,1,2,3,4,10,11,12,47,65,70] Tryz.f143=some (Sort.a_peq idsC true 2):=by kernel_rfl
theorem tie144:z9 Tryz.prog false false [0,1,2,3,4,10,11,12,13,47,66,71,120,139,144] Tryz.f144=some (Sort.zyl idsC true 2):=by kernel_rfl
theorem tie145:z9 Tryz.prog true false [0,2,4,8] Tryz.f145=some (Sort.z4v idsC true 2):=by kernel_rfl
theorem tie146:z9 Tryz.prog true false [0,2,4,8,14] Tryz.f146=some (Sort.zw8 idsC true 2):=by kernel_rfl
theorem tie147:z9 Tryz.prog true false [0,2,3,5,6,7,8,9,14] Tryz.f147=some zz7:=by kernel_rfl
theorem tie148:z9 Tryz.prog true false [0,1,4,5,6,11,12,13,16,19] Tryz.f148=some zy1:=by kernel_rfl
theorem tie149:z9 Tryz.prog true false [0,1,4,5,6,11,12,13,16,19] Tryz.f149=some zz1:=by kernel_rfl
theorem tie150:z9 Tryz.prog true false [0,1,4,5,6,11,12,13,16,19] Tryz.f150=some zr1:=by kernel_rfl
theorem tie151:z9 Tryz.prog false false [0,1,2,3,4,10,11,12,13,14,15,16,17,18,19,20,25,32,39,56,75,80,97,125] Tryz.f151=some (Sort.a_pdq idsT false 1):=by kernel_rfl
theorem tie155:z9 Tryz.prog true false [0,1,3,4,4003] Tryz.f155=some z3k:=by kernel_rfl
theorem tie157:z9 Tryz.prog false false [0,1,2,4001] Tryz.f157=some zyh:=by kernel_rfl
theorem tie160:z9 Tryz.prog false false [0,1,4] Tryz.f160=some zq4:=by kernel_rfl
theorem tie161:z9 Tryz.prog false false [0,1,2,4001] Tryz.f161=some zvb:=by kernel_rfl
theorem tie163:z9 Tryz.prog false false [0,1,4] Tryz.f163=some zoc:=by kernel_rfl
theorem tie183:z9 Tryz.prog false false [0,1,2,4,5,6,7,4010] Tryz.f183=some zg1:=by kernel_rfl
theorem tie184:z9 Tryz.prog false false [0,2,3,5,4012,4017] Tryz.f184=some zjf:=by kernel_rfl
theorem tie185:z9 Tryz.prog false false [0,1,2,3,4,10,11,18,40,58] Tryz.f185=some (Sort.zsl idsC true 2):=by kernel_rfl
theorem tie186:z9 Tryz.prog true false [0,2] Tryz.f186=some (Sort.z1p idsC true 2):=by kernel_rfl
theorem tie187:z9 Tryz.prog false false [0,2] Tryz.f187=some (Sort.zbs idsC true 2):=by kernel_rfl
theorem tie188:z9 Tryz.prog false false [0,1,2,3,8] Tryz.f188=some (Sort.zvj idsC true 2):=by kernel_rfl
theorem tie189:z9 Tryz.prog false false [0,1,2,3,4,5,12] Tryz.f189=some (Sort.a_med idsC true 2):=by kernel_rfl
theorem tie190:z9 Tryz.prog true false [0,2] Tryz.f190=some zj3:=by kernel_rfl
theorem tie191:z9 Tryz.prog true false [0,2] Tryz.f191=some zk3:=by kernel_rfl
theorem tie192:z9 Tryz.prog true false [0,2] Tryz.f192=some z83:=by kernel_rfl
theorem tie193:z9 Tryz.prog false false [0,1,2,3,8,9,14,34] Tryz.f193=some (Sort.a_ins idsT false 1):=by kernel_rfl
theorem tie194:z9 Tryz.prog false false [0,1,2,3,8,9,10,11,12,21,33] Tryz.f194=some (Sort.zul idsT false 1):=by kernel_rfl
theorem tie195:z9 Tryz.prog false false [0,1,2,3,8,9,10,11,12,17,35,45] Tryz.f195=some (Sort.a_brk idsT false 1):=by kernel_rfl
theorem tie196:z9 Tryz.prog false false [0,1,2,3,8,9,10,11,12,13,14,34,36,55,57,60] Tryz.f196=some (Sort.a_piv idsT false 1):=by kernel_rfl
theorem tie197:z9 Tryz.prog false false [0,1,2,3,8,9,15] Tryz.f197=some (Sort.a_rev idsT false 1):=by kernel_rfl
theorem tie198:z9 Tryz.prog false false [0,1,2,3,8,9,10,11,12,16,36,41,45,65,69,84,104,109,124] Tryz.f198=some (Sort.zwl idsT false 1):=by kernel_rfl
theorem tie199:z9 Tryz.prog false false [0,1,2,3,4,10,11,12,47,65,70] Tryz.f199=some (Sort.a_peq idsT false 1):=by kernel_rfl
theorem tie200:z9 Tryz.prog false false [0,1,2,3,4,10,11,12,13,47,66,71,120,139,144] Tryz.f200=some (Sort.zyl idsT false 1):=by kernel_rfl
theorem tie202:z9 Tryz.prog false false [0,1,2,3,4002] Tryz.f202=some zxf:=by kernel_rfl
theorem tie204:z9 Tryz.prog false false [0,1,4] Tryz.f204=some zdb:=by kernel_rfl
theorem tie205:z9 Tryz.prog false false [0,1,4,5,7,8,9,16] Tryz.f205=some zl5:=by kernel_rfl
theorem tie206:z9 Tryz.prog false false [0,1,3,4,9,10,11,12,29,4004] Tryz.f206=some z9a:=by kernel_rfl
theorem tie218:z9 Tryz.prog false false [0,1,2,3,4,10,11,22] Tryz.f218=some (Sort.a_ord idsC true 2):=by kernel_rfl
theorem tie219:z9 Tryz.prog false false [0,1,2,3,4,10,11,18,40,58] Tryz.f219=some (Sort.zsl idsT false 1):=by kernel_rfl
theorem tie220:z9 Tryz.prog false false [0,1,2,3,8] Tryz.f220=some (Sort.zvj idsT false 1):=by kernel_rfl
theorem tie221:z9 Tryz.prog false false [0,1,2,3,4,5,12] Tryz.f221=some (Sort.a_med idsT false 1):=by kernel_rfl
theorem tie222:z9 Tryz.prog true false [0,1,4,5,7,8,9,16] Tryz.f222=some zm5:=by kernel_rfl
theorem tie225:z9 Tryz.prog false false [0,1,2,3,4,10,11,22] Tryz.f225=some (Sort.a_ord idsT false 1):=by kernel_rfl
theorem zfa1:TblOk Tryz.prog tbl0:=by
 intro f x h
 unfold tbl0 at h
 split at h
 ·cases h; exact ⟨_,_,_,_,Tryz.func3,tie3⟩
 ·cases h; exact ⟨_,_,_,_,Tryz.func8,tie8⟩
 ·cases h; exact ⟨_,_,_,_,Tryz.func9,tie9⟩
 ·cases h; exact ⟨_,_,_,_,Tryz.func10,tie10⟩
 ·cases h; exact ⟨_,_,_,_,Tryz.func11,tie11⟩
 ·cases h; exact ⟨_,_,_,_,Tryz.func13,tie13⟩
 ·cases h; exact ⟨_,_,_,_,Tryz.func15,tie15⟩
 ·cases h; exact ⟨_,_,_,_,Tryz.func16,tie16⟩
 ·cases h; exact ⟨_,_,_,_,Tryz.func17,tie17⟩
 ·cases h; exact ⟨_,_,_,_,Tryz.func20,tie20⟩
 ·cases h; exact ⟨_,_,_,_,Tryz.func27,tie27⟩
 ·cases h; exact ⟨_,_,_,_,Tryz.func28,tie28⟩
 ·cases h; exact ⟨_,_,_,_,Tryz.func32,tie32⟩
 ·cases h; exact ⟨_,_,_,_,Tryz.func33,tie33⟩
 ·cases h; exact ⟨_,_,_,_,Tryz.func34,tie34⟩
 ·cases h; exact ⟨_,_,_,_,Tryz.func35,tie35⟩
 ·cases h; exact ⟨_,_,_,_,Tryz.func36,tie36⟩
 ·cases h; exact ⟨_,_,_,_,Tryz.func37,tie37⟩
 ·cases h; exact ⟨_,_,_,_,Tryz.func38,tie38⟩
 ·cases h; exact ⟨_,_,_,_,Tryz.func39,tie39⟩
 ·cases h; exact ⟨_,_,_,_,Tryz.func40,tie40⟩
 ·cases h; exact ⟨_,_,_,_,Tryz.func41,tie41⟩
 ·cases h; exact ⟨_,_,_,_,Tryz.func42,tie42⟩
 ·cases h; exact ⟨_,_,_,_,Tryz.func43,tie43⟩
 ·cases h; exact ⟨_,_,_,_,Tryz.func44,tie44⟩
 ·cases h; exact ⟨_,_,_,_,Tryz.func45,tie45⟩
 ·cases h; exact ⟨_,_,_,_,Tryz.func46,tie46⟩
 ·cases h; exact ⟨_,_,_,_,Tryz.func47,tie47⟩
 ·cases h; exact ⟨_,_,_,_,Tryz.func50,tie50⟩
 ·cases h; exact ⟨_,_,_,_,Tryz.func52,tie52⟩
 ·simp at h
theorem zga1:TblOk Tryz.prog tbl1:=by
 intro f x h
 unfold tbl1 at h
 split at h
 ·cases h; exact ⟨_,_,_,_,Tryz.func70,tie70⟩
 ·cases h; exact ⟨_,_,_,_,Tryz.func71,tie71⟩
 ·cases h; exact ⟨_,_,_,_,Tryz.func72,tie72⟩
 ·cases h; exact ⟨_,_,_,_,Tryz.func73,tie73⟩
 ·cases h; exact ⟨_,_,_,_,Tryz.func74,tie74⟩
 ·cases h; exact ⟨_,_,_,_,Tryz.func75,tie75⟩
 ·cases h; exact ⟨_,_,_,_,Tryz.func76,tie76⟩
 ·cases h; exact ⟨_,_,_,_,Tryz.func77,tie77⟩
 ·cases h; exact ⟨_,_,_,_,Tryz.func78,tie78⟩
 ·cases h; exact ⟨_,_,_,_,Tryz.func79,tie79⟩
 ·cases h; exact ⟨_,_,_,_,Tryz.func80,tie80⟩
 ·cases h; exact ⟨_,_,_,_,Tryz.func81,tie81⟩
 ·cases h; exact ⟨_,_,_,_,Tryz.func82,tie82⟩
 ·cases h; exact ⟨_,_,_,_,Tryz.func83,tie83⟩
 ·cases h; exact ⟨_,_,_,_,Tryz.func84,tie84⟩
 ·cases h; exact ⟨_,_,_,_,Tryz.func85,tie85⟩
 ·cases h; exact ⟨_,_,_,_,Tryz.func86,tie86⟩
 ·cases h; exact ⟨_,_,_,_,Tryz.func87,tie87⟩
 ·cases h; exact ⟨_,_,_,_,Tryz.func88,tie88⟩
 ·cases h; exact ⟨_,_,_,_,Tryz.func89,tie89⟩
 ·cases h; exact ⟨_,_,_,_,Tryz.func90,tie90⟩
 ·cases h; exact ⟨_,_,_,_,Tryz.func91,tie91⟩
 ·cases h; exact ⟨_,_,_,_,Tryz.func92,tie92⟩
 ·cases h; exact ⟨_,_,_,_,Tryz.func93,tie93⟩
 ·cases h; exact ⟨_,_,_,_,Tryz.func94,tie94⟩
 ·cases h; exact ⟨_,_,_,_,Tryz.func95,tie95⟩
 ·cases h; exact ⟨_,_,_,_,Tryz.func99,tie99⟩
 ·cases h; exact ⟨_,_,_,_,Tryz.func102,tie102⟩
 ·simp at h
theorem zha1:TblOk Tryz.prog tbl2:=by
 intro f x h
 unfold tbl2 at h
 split at h
 ·cases h; exact ⟨_,_,_,_,Tryz.func132,tie132⟩
 ·cases h; exact ⟨_,_,_,_,Tryz.func133,tie133⟩
 ·cases h; exact ⟨_,_,_,_,Tryz.func134,tie134⟩
 ·cases h; exact ⟨_,_,_,_,Tryz.func135,tie135⟩
 ·cases h; exact ⟨_,_,_,_,Tryz.func136,tie136⟩
 ·cases h; exact ⟨_,_,_,_,Tryz.func137,tie137⟩
 ·cases h; exact ⟨_,_,_,_,Tryz.func138,tie138⟩
 ·cases h; exact ⟨_,_,_,_,Tryz.func139,tie139⟩
 ·cases h; exact ⟨_,_,_,_,Tryz.func140,tie140⟩
 ·cases h; exact ⟨_,_,_,_,Tryz.func141,tie141⟩
 ·cases h; exact ⟨_,_,_,_,Tryz.func142,tie142⟩
 ·cases h; exact ⟨_,_,_,_,Tryz.func143,tie143⟩
 ·cases h; exact ⟨_,_,_,_,Tryz.func144,tie144⟩
 ·cases h; exact ⟨_,_,_,_,Tryz.func145,tie145⟩
 ·cases h; exact ⟨_,_,_,_,Tryz.func146,tie146⟩
 ·cases h; exact ⟨_,_,_,_,Tryz.func147,tie147⟩
 ·cases h; exact ⟨_,_,_,_,Tryz.func148,tie148⟩
 ·cases h; exact ⟨_,_,_,_,Tryz.func149,tie149⟩
 ·cases h; exact ⟨_,_,_,_,Tryz.func150,tie150⟩
 ·cases h; exact ⟨_,_,_,_,Tryz.func151,tie151⟩
 ·cases h; exact ⟨_,_,_,_,Tryz.func155,tie155⟩
 ·cases h; exact ⟨_,_,_,_,Tryz.func157,tie157⟩
 ·cases h; exact ⟨_,_,_,_,Tryz.func160,tie160⟩
 ·cases h; exact ⟨_,_,_,_,Tryz.func161,tie161⟩
 ·cases h; exact ⟨_,_,_,_,Tryz.func163,tie163⟩
 ·cases h; exact ⟨_,_,_,_,Tryz.func183,tie183⟩
 ·cases h; exact ⟨_,_,_,_,Tryz.func184,tie184⟩
 ·cases h; exact ⟨_,_,_,_,Tryz.func185,tie185⟩
 ·simp at h
theorem zia1:TblOk Tryz.prog tbl3:=by
 intro f x h
 unfold tbl3 at h
 split at h
 ·cases h; exact ⟨_,_,_,_,Tryz.func186,tie186⟩
 ·cases h; exact ⟨_,_,_,_,Tryz.func187,tie187⟩
 ·cases h; exact ⟨_,_,_,_,Tryz.func188,tie188⟩
 ·cases h; exact ⟨_,_,_,_,Tryz.func189,tie189⟩
 ·cases h; exact ⟨_,_,_,_,Tryz.func190,tie190⟩
 ·cases h; exact ⟨_,_,_,_,Tryz.func191,tie191⟩
 ·cases h; exact ⟨_,_,_,_,Tryz.func192,tie192⟩
 ·cases h; exact ⟨_,_,_,_,Tryz.func193,tie193⟩
 ·cases h; exact ⟨_,_,_,_,Tryz.func194,tie194⟩
 ·cases h; exact ⟨_,_,_,_,Tryz.func195,tie195⟩
 ·cases h; exact ⟨_,_,_,_,Tryz.func196,tie196⟩
 ·cases h; exact ⟨_,_,_,_,Tryz.func197,tie197⟩
 ·cases h; exact ⟨_,_,_,_,Tryz.func198,tie198⟩
 ·cases h; exact ⟨_,_,_,_,Tryz.func199,tie199⟩
 ·cases h; exact ⟨_,_,_,_,Tryz.func200,tie200⟩
 ·cases h; exact ⟨_,_,_,_,Tryz.func202,tie202⟩
 ·cases h; exact ⟨_,_,_,_,Tryz.func204,tie204⟩
 ·cases h; exact ⟨_,_,_,_,Tryz.func205,tie205⟩
 ·cases h; exact ⟨_,_,_,_,Tryz.func206,tie206⟩
 ·cases h; exact ⟨_,_,_,_,Tryz.func218,tie218⟩
 ·cases h; exact ⟨_,_,_,_,Tryz.func219,tie219⟩
 ·cases h; exact ⟨_,_,_,_,Tryz.func220,tie220⟩
 ·cases h; exact ⟨_,_,_,_,Tryz.func221,tie221⟩
 ·cases h; exact ⟨_,_,_,_,Tryz.func222,tie222⟩
 ·cases h; exact ⟨_,_,_,_,Tryz.func225,tie225⟩
 ·simp at h
theorem tblOk:TblOk Tryz.prog tbl:=by
 intro f x h
 unfold tbl at h
 split at h; · exact zfa1 f x h
 split at h; · exact zga1 f x h
 split at h; · exact zha1 f x h
 exact zia1 f x h
theorem ze31:TblOk Tryz.prog tblN:=by
 intro f x h
 unfold tblN at h
 split at h; · rename_i e; subst e; cases h; exact ⟨_,_,_,_,Tryz.func12,tie12⟩
 split at h; · rename_i e; subst e; cases h; exact ⟨_,_,_,_,Tryz.func14,tie14⟩
 split at h; · rename_i e; subst e; cases h; exact ⟨_,_,_,_,Tryz.func18,tie18⟩
 exact tblOk f x h
end Go.Abs.Plan
