/-
  The library's contracts at this program: how many digits a number has; a number's text; a map's copy. (The layings were written by the kit's program.)
-/
import Derived.Test.YtbemeikjepjhoaaGreatDoorProg
import Derived.Shelf.Strconv.Itoa3
import Derived.Shelf.SlMaps.Clone
import Derived.Test.YtbemeikjepjhoaaGreatDoorS28
namespace Go.Proofs.YtbemeikjepjhoaaGreatDoor
open Go.Shelf
def TryzL.laysItoa_ren:Go.Shelf.Ren:=⟨fun | 171=>59 | 243=>70 | 246=>90 | 283=>94 | 284=>95 | 285=>96 | 286=>97 | 129=>103 | 317=>102 | 318=>104 | 319=>105 | 320=>106 | 337=>109 | 338=>110 | n=>n,fun | 3=>3 | 9=>9 | 2=>2 | 4=>4 | 171=>136 | 0=>0 | 53=>137 | 37=>140 | 5=>5 | 173=>141 | 212=>147 | 51=>148 | 20=>20 | 213=>149 | 46=>145 | 232=>155 | 233=>156 | n=>n,fun | 17=>1 | 18=>2 | 19=>3 | n=>n⟩
theorem TryzL.laysItoa:Go.Proofs.LaysM.n171 Tryz.prog TryzL.laysItoa_ren:={
 mixed:=by kernel_rfl
 f129:=Tryz.func103.trans (congrArg some (by kernel_rfl))
 f171:=Tryz.func59.trans (congrArg some (by kernel_rfl))
 f243:=Tryz.func70.trans (congrArg some (by kernel_rfl))
 f246:=Tryz.func90.trans (congrArg some (by kernel_rfl))
 f283:=Tryz.func94.trans (congrArg some (by kernel_rfl))
 f284:=Tryz.func95.trans (congrArg some (by kernel_rfl))
 f285:=Tryz.func96.trans (congrArg some (by kernel_rfl))
 f286:=Tryz.func97.trans (congrArg some (by kernel_rfl))
 f317:=Tryz.func102.trans (congrArg some (by kernel_rfl))
 f318:=Tryz.func104.trans (congrArg some (by kernel_rfl))
 f319:=Tryz.func105.trans (congrArg some (by kernel_rfl))
 f320:=Tryz.func106.trans (congrArg some (by kernel_rfl))
 f337:=Tryz.func109.trans (congrArg some (by kernel_rfl))
 f338:=Tryz.func110.trans (congrArg some (by kernel_rfl))
 t0:=Tryz.underlying0
 a0:=Tryz.isAgg0
 z0:=Tryz.sizeOf0
 v0:=Tryz.zeroValue0
 t2:=Tryz.underlying2
 a2:=Tryz.isAgg2
 z2:=Tryz.sizeOf2
 v2:=Tryz.zeroValue2
 t3:=Tryz.underlying3
 a3:=Tryz.isAgg3
 z3:=Tryz.sizeOf3
 v3:=Tryz.zeroValue3
 t4:=Tryz.underlying4
 a4:=Tryz.isAgg4
 z4:=Tryz.sizeOf4
 v4:=Tryz.zeroValue4
 t5:=Tryz.underlying5
 a5:=Tryz.isAgg5
 z5:=Tryz.sizeOf5
 v5:=Tryz.zeroValue5
 t9:=Tryz.underlying9
 a9:=Tryz.isAgg9
 z9:=Tryz.sizeOf9
 v9:=Tryz.zeroValue9
 t20:=Tryz.underlying20
 a20:=Tryz.isAgg20
 z20:=Tryz.sizeOf20
 v20:=Tryz.zeroValue20
 t37:=Tryz.underlying140
 a37:=Tryz.isAgg140
 z37:=Tryz.sizeOf140
 v37:=Tryz.zeroValue140
 t46:=Tryz.underlying145
 a46:=Tryz.isAgg145
 z46:=Tryz.sizeOf145
 v46:=Tryz.zeroValue145
 t51:=Tryz.underlying148
 a51:=Tryz.isAgg148
 z51:=Tryz.sizeOf148
 v51:=Tryz.zeroValue148
 t53:=Tryz.underlying137
 a53:=Tryz.isAgg137
 z53:=Tryz.sizeOf137
 v53:=Tryz.zeroValue137
 t171:=Tryz.underlying136
 a171:=Tryz.isAgg136
 z171:=Tryz.sizeOf136
 v171:=Tryz.zeroValue136
 t173:=Tryz.underlying141
 a173:=Tryz.isAgg141
 z173:=Tryz.sizeOf141
 v173:=Tryz.zeroValue141
 t212:=Tryz.underlying147
 a212:=Tryz.isAgg147
 z212:=Tryz.sizeOf147
 v212:=Tryz.zeroValue147
 t213:=Tryz.underlying149
 a213:=Tryz.isAgg149
 z213:=Tryz.sizeOf149
 t232:=Tryz.underlying155
 a232:=Tryz.isAgg155
 z232:=Tryz.sizeOf155
 v232:=Tryz.zeroValue155
 t233:=Tryz.underlying156
 a233:=Tryz.isAgg156
 z233:=Tryz.sizeOf156
 v233:=Tryz.zeroValue156
 g17:=by kernel_rfl
 g18:=by kernel_rfl
 g19:=by kernel_rfl
 i0:=by kernel_rfl
 i2:=by kernel_rfl
 i3:=by kernel_rfl
 i4:=by kernel_rfl
 i5:=by kernel_rfl
 i9:=by kernel_rfl
 i20:=by kernel_rfl
 i37:=by kernel_rfl
 i46:=by kernel_rfl
 i51:=by kernel_rfl
 i53:=by kernel_rfl
 i171:=by kernel_rfl
 i173:=by kernel_rfl
 i212:=by kernel_rfl
 i232:=by kernel_rfl
 i233:=by kernel_rfl
 m17:=by kernel_rfl
 m18:=by kernel_rfl
 m19:=by kernel_rfl }
def TryzL.laysClone_ren:Go.Shelf.Ren:=⟨fun | 5=>57 | 7=>67 | n=>n,fun | 23=>82 | 25=>9 | 3=>9 | 4=>4 | 20=>20 | n=>n,fun | n=>n⟩
theorem TryzL.laysClone:Go.Proofs.SlLaysW.n5 Tryz.prog TryzL.laysClone_ren:={
 mixed:=by kernel_rfl
 f5:=⟨Tryz.f57.name,by decide,Tryz.func57.trans (congrArg some (by kernel_rfl))⟩
 f7:=Tryz.func67.trans (congrArg some (by kernel_rfl))
 t4:=Tryz.underlying4
 a4:=Tryz.isAgg4
 z4:=Tryz.sizeOf4
 v4:=Tryz.zeroValue4
 t20:=Tryz.underlying20
 a20:=Tryz.isAgg20
 z20:=Tryz.sizeOf20
 v20:=Tryz.zeroValue20
 t23:=Tryz.underlying82
 a23:=Tryz.isAgg82
 z23:=Tryz.sizeOf82
 v23:=Tryz.zeroValue82 }
theorem tab_is {w:World} (h:∃ ty fz,w.heap[1]? = some (.cells Go.Ev.pow10Cells ty fz)):Lib.TabIs Tryz.prog w "internal/strconv.uint64pow10" .u64 Lib.pow10Tab:=by
 obtain ⟨ty,fz,h⟩:=h
 unfold Lib.TabIs World.var?
 rw [show Tryz.prog.globalNamed "internal/strconv.uint64pow10" = some 1 from TryzL.laysItoa.m17]
 simp only [Option.bind_some,h]
 rfl
theorem dig_calls (n:Nat) (w:World) (h1:1≤n) (h2:n < 18446744073709551616) (h:∃ ty fz,w.heap[1]? = some (.cells Go.Ev.pow10Cells ty fz)) :
  Calls Tryz.prog 95 #[.int .u64 (n:Int)] w fun e w'=>e = .returned (.int .i64 (Lib.nDigits n:Int))∧w'=w :=
 Any.internal_strconv_numDigits (P:=Tryz.prog) (ρ:=TryzL.laysItoa_ren) { TryzL.laysItoa with } n h1 h2 w (tab_is h)
theorem itoa_calls (n:Nat) (w:World) (h2:n < 9223372036854775808) (h:∃ ty fz,w.heap[1]? = some (.cells Go.Ev.pow10Cells ty fz)) :
  Calls Tryz.prog 59 #[.int .i64 (n:Int)] w fun e w'=>e = .returned (.string ⟨(Lib.itoa n).toArray⟩)∧∃ k os,w'=Sort.grow (w.drewN k) os :=
 Any.strconv_Itoa (P:=Tryz.prog) (ρ:=TryzL.laysItoa_ren) TryzL.laysItoa n (by omega) (by omega) w (tab_is h)
theorem clone_calls (b:Nat) (es:Array MapEntry) (c:Nat) (w:World) (hb:w.heap[b]? = some (.map es c)) :
  Calls Tryz.prog 57 #[.map (some b)] w fun e w'=>e = .returned (.map (some w.heap.size))∧w'=w.alloc (.map es c) :=
 AnyW.maps_Clone (P:=Tryz.prog) (ρ:=TryzL.laysClone_ren) TryzL.laysClone b es c w hb
end Go.Proofs.YtbemeikjepjhoaaGreatDoor
