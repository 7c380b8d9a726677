/- A part of the proof: texts of mine, merged by a program (wip/dev/merge.py). -/
import Derived.Test.YtngkjkmjoieecaaGreatDoorEb8
import Derived.Shelf.Strconv.Atoi
import Derived.Shelf.Strconv.Itoa0
import Derived.Shelf.Strconv.Itoa1
import Derived.Shelf.LaysM
import Derived.Shelf.Strconv.Itoa2
import Derived.Shelf.Strconv.Itoa3
import Derived.Shelf.Strconv.AtoiErrFast
import Derived.Shelf.Strconv.ParseIntEmpty
import Derived.Shelf.Strconv.AtoiFail
import Derived.Shelf.Strconv.Clone
import Derived.Shelf.Strconv.SyntaxError
import Derived.Shelf.LaysC
import Derived.Shelf.Strconv.ToError
import Derived.Shelf.Strconv.Lower
import Derived.Shelf.Strconv.ParseUint10
import Derived.Shelf.Strconv.ParseUint10Empty
import Derived.Shelf.Strconv.ParseUint10Any
import Derived.Shelf.Strconv.ParseInt10
import Derived.Shelf.Strconv.AtoiLong
import Derived.Shelf.Strconv.AtoiInnerAll
import Derived.Shelf.Strconv.RangeError
import Derived.Shelf.Strconv.ToErrorRange
import Derived.Shelf.Strconv.AtoiAll
import Derived.Shelf.Strconv.ErrVarAll
import Derived.Test.YtngkjkmjoieecaaGreatDoorProg
import Derived.Test.YtngkjkmjoieecaaGreatDoorChecked
import Derived.WalkKit
import Derived.Laws.Externs
import Derived.Deep.Draws
import Derived.Lib.AtoiAll
import Derived.WalkSmall
import Derived.Lib.AtoiErrMem
import Derived.Lib.ItoaMem
import Derived.Lib.ItoaLen
set_option linter.unusedSimpArgs false
set_option linter.unusedVariables false
namespace Go.Proofs
open Go.Shelf
def Tryz.lays172_ren:Go.Shelf.Ren:=⟨fun |172=>105 |244=>132 |245=>133 |247=>142 |279=>143 |280=>144 |281=>145 |282=>146 |287=>150 |316=>151 |171=>131 |205=>152 |321=>157 |322=>158 |243=>141 |246=>149 |283=>153 |284=>154 |285=>155 |286=>156 |129=>160 |317=>159 |318=>161 |319=>162 |320=>163 |337=>164 |338=>165 |n=>n,fun |9=>9 |3=>3 |75=>155 |76=>156 |4=>4 |5=>5 |167=>176 |37=>171 |0=>0 |85=>177 |2=>2 |168=>179 |53=>185 |175=>186 |46=>188 |210=>191 |127=>199 |145=>202 |143=>200 |21=>21 |171=>193 |173=>196 |212=>203 |51=>204 |20=>20 |213=>205 |232=>208 |233=>209 |80=>210 |n=>n,fun |15=>2 |16=>3 |17=>4 |18=>5 |19=>6 |n=>n⟩
def Tryz.laysM246_ren:Go.Shelf.Ren:=⟨fun |246=>149 |283=>153 |284=>154 |285=>155 |286=>156 |129=>160 |317=>159 |318=>161 |319=>162 |320=>163 |337=>164 |338=>165 |n=>n,fun |2=>2 |3=>3 |9=>9 |4=>4 |171=>193 |0=>0 |53=>185 |37=>171 |5=>5 |173=>196 |212=>203 |51=>204 |20=>20 |213=>205 |46=>188 |232=>208 |233=>209 |n=>n,fun |17=>4 |18=>5 |19=>6 |n=>n⟩
def Tryz.laysM243_ren:Go.Shelf.Ren:=⟨fun |243=>141 |246=>149 |283=>153 |284=>154 |285=>155 |286=>156 |129=>160 |317=>159 |318=>161 |319=>162 |320=>163 |337=>164 |338=>165 |n=>n,fun |3=>3 |9=>9 |2=>2 |4=>4 |171=>193 |0=>0 |53=>185 |37=>171 |5=>5 |173=>196 |212=>203 |51=>204 |20=>20 |213=>205 |46=>188 |232=>208 |233=>209 |n=>n,fun |17=>4 |18=>5 |19=>6 |n=>n⟩
def Tryz.laysM171_ren:Go.Shelf.Ren:=⟨fun |171=>131 |243=>141 |246=>149 |283=>153 |284=>154 |285=>155 |286=>156 |129=>160 |317=>159 |318=>161 |319=>162 |320=>163 |337=>164 |338=>165 |n=>n,fun |3=>3 |9=>9 |2=>2 |4=>4 |171=>193 |0=>0 |53=>185 |37=>171 |5=>5 |173=>196 |212=>203 |51=>204 |20=>20 |213=>205 |46=>188 |232=>208 |233=>209 |n=>n,fun |17=>4 |18=>5 |19=>6 |n=>n⟩
theorem Tryz.laysM171:Go.Proofs.LaysM.n171 Tryz.prog Tryz.laysM171_ren:={
 mixed:=by kernel_rfl
 f129:=Tryz.func160.trans (congrArg some (by kernel_rfl))
 f171:=Tryz.func131.trans (congrArg some (by kernel_rfl))
 f243:=Tryz.func141.trans (congrArg some (by kernel_rfl))
 f246:=Tryz.func149.trans (congrArg some (by kernel_rfl))
 f283:=Tryz.func153.trans (congrArg some (by kernel_rfl))
 f284:=Tryz.func154.trans (congrArg some (by kernel_rfl))
 f285:=Tryz.func155.trans (congrArg some (by kernel_rfl))
 f286:=Tryz.func156.trans (congrArg some (by kernel_rfl))
 f317:=Tryz.func159.trans (congrArg some (by kernel_rfl))
 f318:=Tryz.func161.trans (congrArg some (by kernel_rfl))
 f319:=Tryz.func162.trans (congrArg some (by kernel_rfl))
 f320:=Tryz.func163.trans (congrArg some (by kernel_rfl))
 f337:=Tryz.func164.trans (congrArg some (by kernel_rfl))
 f338:=Tryz.func165.trans (congrArg some (by kernel_rfl))
 t0:=Tryz.underlying0
 a0:=Tryz.isAgg0
 z0:=Tryz.sizeOf0
 v0:=Tryz.zeroValue0
 t2:=Tryz.underlying2
 a2:=Tryz.isAgg2
 z2:=Tryz.sizeOf2
 v2:=Tryz.zeroValue2
 t3:=Tryz.underlying3
 a3:=Tryz.isAgg3
 z3:=Tryz.sizeOf3
 v3:=Tryz.zeroValue3
 t4:=Tryz.underlying4
 a4:=Tryz.isAgg4
 z4:=Tryz.sizeOf4
 v4:=Tryz.zeroValue4
 t5:=Tryz.underlying5
 a5:=Tryz.isAgg5
 z5:=Tryz.sizeOf5
 v5:=Tryz.zeroValue5
 t9:=Tryz.underlying9
 a9:=Tryz.isAgg9
 z9:=Tryz.sizeOf9
 v9:=Tryz.zeroValue9
 t20:=Tryz.underlying20
 a20:=Tryz.isAgg20
 z20:=Tryz.sizeOf20
 v20:=Tryz.zeroValue20
 t37:=Tryz.underlying171
 a37:=Tryz.isAgg171
 z37:=Tryz.sizeOf171
 v37:=Tryz.zeroValue171
 t46:=Tryz.underlying188
 a46:=Tryz.isAgg188
 z46:=Tryz.sizeOf188
 v46:=Tryz.zeroValue188
 t51:=Tryz.underlying204
 a51:=Tryz.isAgg204
 z51:=Tryz.sizeOf204
 v51:=Tryz.zeroValue204
 t53:=Tryz.underlying185
 a53:=Tryz.isAgg185
 z53:=Tryz.sizeOf185
 v53:=Tryz.zeroValue185
 t171:=Tryz.underlying193
 a171:=Tryz.isAgg193
 z171:=Tryz.sizeOf193
 v171:=Tryz.zeroValue193
 t173:=Tryz.underlying196
 a173:=Tryz.isAgg196
 z173:=Tryz.sizeOf196
 v173:=Tryz.zeroValue196
 t212:=Tryz.underlying203
 a212:=Tryz.isAgg203
 z212:=Tryz.sizeOf203
 v212:=Tryz.zeroValue203
 t213:=Tryz.underlying205
 a213:=Tryz.isAgg205
 z213:=Tryz.sizeOf205
 t232:=Tryz.underlying208
 a232:=Tryz.isAgg208
 z232:=Tryz.sizeOf208
 v232:=Tryz.zeroValue208
 t233:=Tryz.underlying209
 a233:=Tryz.isAgg209
 z233:=Tryz.sizeOf209
 v233:=Tryz.zeroValue209
 g17:=by kernel_rfl
 g18:=by kernel_rfl
 g19:=by kernel_rfl
 i0:=by kernel_rfl
 i2:=by kernel_rfl
 i3:=by kernel_rfl
 i4:=by kernel_rfl
 i5:=by kernel_rfl
 i9:=by kernel_rfl
 i20:=by kernel_rfl
 i37:=by kernel_rfl
 i46:=by kernel_rfl
 i51:=by kernel_rfl
 i53:=by kernel_rfl
 i171:=by kernel_rfl
 i173:=by kernel_rfl
 i212:=by kernel_rfl
 i232:=by kernel_rfl
 i233:=by kernel_rfl
 m17:=by kernel_rfl
 m18:=by kernel_rfl
 m19:=by kernel_rfl}
open Go.RowKit Go.Sort Go.Lib in
theorem Tryz.strconv_Itoa(n:Int)(h0:-9223372036854775808≤n)(h1:n≤9223372036854775807)(w:World)(htab:Lib.TabIs Tryz.prog w "internal/strconv.uint64pow10" .u64 Lib.pow10Tab):
  Calls Tryz.prog 131 #[.int .i64 n] w fun e w'=>e=.returned (.string ⟨(Lib.itoa n).toArray⟩)∧∃k os,w'=grow (w.drewN k) os:=Any.strconv_Itoa Tryz.laysM171 n h0 h1 w htab
def Tryz.laysC172_ren:Go.Shelf.Ren:=⟨fun |172=>105 |244=>132 |245=>133 |247=>142 |279=>143 |280=>144 |281=>145 |282=>146 |287=>150 |316=>151 |171=>131 |205=>152 |321=>157 |322=>158 |243=>141 |246=>149 |283=>153 |284=>154 |285=>155 |286=>156 |129=>160 |317=>159 |318=>161 |319=>162 |320=>163 |337=>164 |338=>165 |n=>n,fun |9=>9 |3=>3 |75=>155 |76=>156 |4=>4 |5=>5 |167=>176 |37=>171 |0=>0 |85=>177 |2=>2 |168=>179 |53=>185 |175=>186 |46=>188 |210=>191 |127=>199 |145=>202 |143=>200 |21=>21 |171=>193 |173=>196 |212=>203 |51=>204 |20=>20 |213=>205 |232=>208 |233=>209 |80=>210 |n=>n,fun |15=>2 |16=>3 |17=>4 |18=>5 |19=>6 |n=>n⟩
theorem Tryz.laysC172:Go.Proofs.LaysC.n172 Tryz.prog Tryz.laysC172_ren:={
 mixed:=by kernel_rfl
 f129:=Tryz.func160.trans (congrArg some (by kernel_rfl))
 f171:=Tryz.func131.trans (congrArg some (by kernel_rfl))
 f172:=Tryz.func105.trans (congrArg some (by kernel_rfl))
 f205:=Tryz.func152.trans (congrArg some (by kernel_rfl))
 f243:=Tryz.func141.trans (congrArg some (by kernel_rfl))
 f244:=Tryz.func132.trans (congrArg some (by kernel_rfl))
 f245:=Tryz.func133.trans (congrArg some (by kernel_rfl))
 f246:=Tryz.func149.trans (congrArg some (by kernel_rfl))
 f247:=Tryz.func142.trans (congrArg some (by kernel_rfl))
 f279:=Tryz.func143.trans (congrArg some (by kernel_rfl))
 f280:=Tryz.func144.trans (congrArg some (by kernel_rfl))
 f281:=Tryz.func145.trans (congrArg some (by kernel_rfl))
 f282:=Tryz.func146.trans (congrArg some (by kernel_rfl))
 f283:=Tryz.func153.trans (congrArg some (by kernel_rfl))
 f284:=Tryz.func154.trans (congrArg some (by kernel_rfl))
 f285:=Tryz.func155.trans (congrArg some (by kernel_rfl))
 f286:=Tryz.func156.trans (congrArg some (by kernel_rfl))
 f287:=Tryz.func150.trans (congrArg some (by kernel_rfl))
 f316:=Tryz.func151.trans (congrArg some (by kernel_rfl))
 f317:=Tryz.func159.trans (congrArg some (by kernel_rfl))
 f318:=Tryz.func161.trans (congrArg some (by kernel_rfl))
 f319:=Tryz.func162.trans (congrArg some (by kernel_rfl))
 f320:=Tryz.func163.trans (congrArg some (by kernel_rfl))
 f321:=Tryz.func157.trans (congrArg some (by kernel_rfl))
 f322:=Tryz.func158.trans (congrArg some (by kernel_rfl))
 f337:=Tryz.func164.trans (congrArg some (by kernel_rfl))
 f338:=Tryz.func165.trans (congrArg some (by kernel_rfl))
 t0:=Tryz.underlying0
 a0:=Tryz.isAgg0
 z0:=Tryz.sizeOf0
 v0:=Tryz.zeroValue0
 t2:=Tryz.underlying2
 a2:=Tryz.isAgg2
 z2:=Tryz.sizeOf2
 v2:=Tryz.zeroValue2
 t3:=Tryz.underlying3
 a3:=Tryz.isAgg3
 z3:=Tryz.sizeOf3
 v3:=Tryz.zeroValue3
 t4:=Tryz.underlying4
 a4:=Tryz.isAgg4
 z4:=Tryz.sizeOf4
 v4:=Tryz.zeroValue4
 t5:=Tryz.underlying5
 a5:=Tryz.isAgg5
 z5:=Tryz.sizeOf5
 v5:=Tryz.zeroValue5
 t9:=Tryz.underlying9
 a9:=Tryz.isAgg9
 z9:=Tryz.sizeOf9
 v9:=Tryz.zeroValue9
 t20:=Tryz.underlying20
 a20:=Tryz.isAgg20
 z20:=Tryz.sizeOf20
 v20:=Tryz.zeroValue20
 t21:=Tryz.underlying21
 a21:=Tryz.isAgg21
 z21:=Tryz.sizeOf21
 v21:=Tryz.zeroValue21
 t37:=Tryz.underlying171
 a37:=Tryz.isAgg171
 z37:=Tryz.sizeOf171
 v37:=Tryz.zeroValue171
 t46:=Tryz.underlying188
 a46:=Tryz.isAgg188
 z46:=Tryz.sizeOf188
 v46:=Tryz.zeroValue188
 t51:=Tryz.underlying204
 a51:=Tryz.isAgg204
 z51:=Tryz.sizeOf204
 v51:=Tryz.zeroValue204
 t53:=Tryz.underlying185
 a53:=Tryz.isAgg185
 z53:=Tryz.sizeOf185
 v53:=Tryz.zeroValue185
 t75:=Tryz.underlying155
 a75:=Tryz.isAgg155
 z75:=Tryz.sizeOf155
 v75:=Tryz.zeroValue155
 t76:=Tryz.underlying156
 a76:=Tryz.isAgg156
 z76:=Tryz.sizeOf156
 v76:=Tryz.zeroValue156
 t85:=Tryz.underlying177
 a85:=Tryz.isAgg177
 z85:=Tryz.sizeOf177
 v85:=Tryz.zeroValue177
 t127:=Tryz.underlying199
 a127:=Tryz.isAgg199
 z127:=Tryz.sizeOf199
 v127:=Tryz.zeroValue199
 t143:=Tryz.underlying200
 a143:=Tryz.isAgg200
 z143:=Tryz.sizeOf200
 v143:=Tryz.zeroValue200
 t145:=Tryz.underlying202
 a145:=Tryz.isAgg202
 z145:=Tryz.sizeOf202
 v145:=Tryz.zeroValue202
 t167:=Tryz.underlying176
 a167:=Tryz.isAgg176
 z167:=Tryz.sizeOf176
 v167:=Tryz.zeroValue176
 t168:=Tryz.underlying179
 a168:=Tryz.isAgg179
 z168:=Tryz.sizeOf179
 v168:=Tryz.zeroValue179
 t171:=Tryz.underlying193
 a171:=Tryz.isAgg193
 z171:=Tryz.sizeOf193
 v171:=Tryz.zeroValue193
 t173:=Tryz.underlying196
 a173:=Tryz.isAgg196
 z173:=Tryz.sizeOf196
 v173:=Tryz.zeroValue196
 t175:=Tryz.underlying186
 a175:=Tryz.isAgg186
 z175:=Tryz.sizeOf186
 v175:=Tryz.zeroValue186
 t210:=Tryz.underlying191
 a210:=Tryz.isAgg191
 z210:=Tryz.sizeOf191
 v210:=Tryz.zeroValue191
 t212:=Tryz.underlying203
 a212:=Tryz.isAgg203
 z212:=Tryz.sizeOf203
 v212:=Tryz.zeroValue203
 t213:=Tryz.underlying205
 a213:=Tryz.isAgg205
 z213:=Tryz.sizeOf205
 t232:=Tryz.underlying208
 a232:=Tryz.isAgg208
 z232:=Tryz.sizeOf208
 v232:=Tryz.zeroValue208
 t233:=Tryz.underlying209
 a233:=Tryz.isAgg209
 z233:=Tryz.sizeOf209
 v233:=Tryz.zeroValue209
 g15:=by kernel_rfl
 g16:=by kernel_rfl
 g17:=by kernel_rfl
 g18:=by kernel_rfl
 g19:=by kernel_rfl
 t80:=Tryz.underlying210
 a80:=Tryz.isAgg210
 z80:=Tryz.sizeOf210
 v80:=Tryz.zeroValue210
 i0:=by kernel_rfl
 i2:=by kernel_rfl
 i3:=by kernel_rfl
 i4:=by kernel_rfl
 i5:=by kernel_rfl
 i9:=by kernel_rfl
 i20:=by kernel_rfl
 i21:=by kernel_rfl
 i37:=by kernel_rfl
 i46:=by kernel_rfl
 i51:=by kernel_rfl
 i53:=by kernel_rfl
 i75:=by kernel_rfl
 i76:=by kernel_rfl
 i80:=by kernel_rfl
 i85:=by kernel_rfl
 i127:=by kernel_rfl
 i143:=by kernel_rfl
 i145:=by kernel_rfl
 i167:=by kernel_rfl
 i168:=by kernel_rfl
 i171:=by kernel_rfl
 i173:=by kernel_rfl
 i175:=by kernel_rfl
 i210:=by kernel_rfl
 i212:=by kernel_rfl
 i232:=by kernel_rfl
 i233:=by kernel_rfl
 m15:=by kernel_rfl
 m16:=by kernel_rfl
 m17:=by kernel_rfl
 m18:=by kernel_rfl
 m19:=by kernel_rfl
 c0:=by kernel_rfl
 c2:=by kernel_rfl
 c3:=by kernel_rfl
 c4:=by kernel_rfl
 c5:=by kernel_rfl
 c9:=by kernel_rfl
 c20:=by kernel_rfl
 c21:=by kernel_rfl
 c37:=by kernel_rfl
 c46:=by kernel_rfl
 c51:=by kernel_rfl
 c53:=by kernel_rfl
 c75:=by kernel_rfl
 c76:=by kernel_rfl
 c80:=by kernel_rfl
 c85:=by kernel_rfl
 c127:=by kernel_rfl
 c143:=by kernel_rfl
 c145:=by kernel_rfl
 c167:=by kernel_rfl
 c168:=by kernel_rfl
 c171:=by kernel_rfl
 c173:=by kernel_rfl
 c175:=by kernel_rfl
 c210:=by kernel_rfl
 c212:=by kernel_rfl
 c213:=by kernel_rfl
 c232:=by kernel_rfl
 c233:=by kernel_rfl}
open Go.RowKit in
theorem Tryz.strconv_Atoi_ok(s:ByteArray)(hmax:s.size≤9223372036854775806)(v:Int)(h:Lib.atoiAll s.data.toList=.ok v)(w:World):
  Calls Tryz.prog 105 #[.string s] w fun e w'=>e=.returned (.tuple #[.int .i64 v,.nilIface])∧(w'=w∨∃t,w'=Lib.bytesWorld w 5 t):=Any.strconv_Atoi_ok Tryz.laysC172 s hmax v h w
open Go.RowKit in
theorem Tryz.strconv_Atoi_syntax(s:ByteArray)(hlim:s.size≤281474976710656)(h:Lib.atoiAll s.data.toList=(Lib.atoiAll []))(ev:Value)(w:World)(hv:w.cell? ⟨2,0,none⟩=some ev)(hev:ev=.nilIface∨∃te pe,ev=.iface te pe):
  Calls Tryz.prog 105 #[.string s] w fun e w'=>∃N,e=.returned (.tuple #[.int .i64 (0),.iface 179 (.pointer (some ⟨N,0,none⟩))])∧w.heap.size≤N∧w'.heap[N]? =some (.cells #[.string ⟨#[65,116,111,105]⟩,.string s,ev] 191 (0,0))∧Below w.heap.size w w':=Any.strconv_Atoi_syntax Tryz.laysC172 s hlim h ev w hv hev
open Go.RowKit in
theorem Tryz.strconv_Atoi_range(s:ByteArray)(hlim:s.size≤281474976710656)(h:Lib.atoiAll s.data.toList=.range)(ev:Value)(w:World)(hv:w.cell? ⟨3,0,none⟩=some ev)(hev:ev=.nilIface∨∃te pe,ev=.iface te pe):
  Calls Tryz.prog 105 #[.string s] w fun e w'=>∃N,e=.returned (.tuple #[.int .i64 (Lib.atoiSat s.data.toList),.iface 179 (.pointer (some ⟨N,0,none⟩))])∧w.heap.size≤N∧w'.heap[N]? =some (.cells #[.string ⟨#[65,116,111,105]⟩,.string s,ev] 191 (0,0))∧Below w.heap.size w w':=Any.strconv_Atoi_range Tryz.laysC172 s hlim h ev w hv hev
end Go.Proofs
namespace Go.Proofs
open Go.Shelf Go.RowKit
theorem Tryz.below_grow(w:World)(k:Nat)(os:Array Obj):Below w.heap.size w (Go.Sort.grow (w.drewN k) os):=
 ⟨rfl,rfl,rfl,by simp[Go.Sort.grow,World.drewN],fun i hi=>by
  show(w.heap++os)[i]? =w.heap[i]?
  rw[Array.getElem?_append_left hi]⟩
theorem Tryz.decimal(n:Int)(h0:-9223372036854775808≤n)(h1:n≤9223372036854775807)(w:World)(htab:Lib.TabIs Tryz.prog w "internal/strconv.uint64pow10" .u64 Lib.pow10Tab):
  Calls Tryz.prog 85 #[.int .i64 n] w fun e w'=>e=.returned (.string ⟨(Lib.itoa n).toArray⟩)∧Below w.heap.size w w':=by
 go_enter Tryz.func85,Tryz.ntmps85
 go_wp2_with (go_at_call 131;refine(Tryz.strconv_Itoa n h0 h1 _ htab).mono ?_)
 rintro e w' ⟨rfl,k,os,rfl⟩
 go_wp2
 go_ret
 exact⟨rfl,Tryz.below_grow w k os⟩
def Tryz.inB(n:Int):Bool:=decide (-1048576≤n∧n≤1048576)
set_option maxHeartbeats 1000000 in
set_option maxRecDepth 100000 in
theorem Tryz.within_lo(n:Int)(b cap:Nat)(w:World)(h0:w.cell? ⟨b,0,none⟩=some (.int .i64 n))(hn:n< -1048576):
  Calls Tryz.prog 106 #[.slice (some ⟨b,0,none⟩) 1 cap] w fun e w'=>e=.returned (.bool false)∧w'=w:=by
 go_enter Tryz.func106,Tryz.ntmps106
 go_wp2
 go_loop [7] (fun i=>i=.int .i64 0) (fun _=>0)
 case atStart=>rfl
 case round=>
  subst hrel
  go_wp2
  go_ret
  exact⟨rfl,rfl⟩
set_option maxHeartbeats 1000000 in
set_option maxRecDepth 100000 in
theorem Tryz.within_hi(n:Int)(b cap:Nat)(w:World)(h0:w.cell? ⟨b,0,none⟩=some (.int .i64 n))(hm:¬n< -1048576)(hn:1048576<n):
  Calls Tryz.prog 106 #[.slice (some ⟨b,0,none⟩) 1 cap] w fun e w'=>e=.returned (.bool false)∧w'=w:=by
 go_enter Tryz.func106,Tryz.ntmps106
 go_wp2
 go_loop [7] (fun i=>i=.int .i64 0) (fun _=>0)
 case atStart=>rfl
 case round=>
  subst hrel
  go_wp2
  go_ret
  exact⟨rfl,rfl⟩
set_option maxHeartbeats 1000000 in
set_option maxRecDepth 100000 in
theorem Tryz.within_in(n:Int)(b cap:Nat)(w:World)(h0:w.cell? ⟨b,0,none⟩=some (.int .i64 n))(hm:¬n< -1048576)(hn:¬1048576<n):
  Calls Tryz.prog 106 #[.slice (some ⟨b,0,none⟩) 1 cap] w fun e w'=>e=.returned (.bool true)∧w'=w:=by
 go_enter Tryz.func106,Tryz.ntmps106
 go_wp2
 go_loop [7] (fun i=>i=.int .i64 0∨i=.int .i64 1) (fun i=>1 - (intOf i).toNat)
 case atStart=>exact .inl rfl
 case round=>
  rcases hrel with rfl |rfl
  ·go_wp2
   go_round
   case rel=>exact .inr rfl
   case measure=>simp[intOf]
  ·go_wp2
   go_ret
   exact⟨rfl,rfl⟩
theorem Tryz.within(n:Int)(b cap:Nat)(w:World)(h0:w.cell? ⟨b,0,none⟩=some (.int .i64 n)):
  Calls Tryz.prog 106 #[.slice (some ⟨b,0,none⟩) 1 cap] w fun e w'=>e=.returned (.bool (Tryz.inB n))∧w'=w:=by
 by_cases h1:n< -1048576
 ·rw[show Tryz.inB n=false by simp[Tryz.inB];omega]
  exact Tryz.within_lo n b cap w h0 h1
 ·by_cases h2:1048576<n
  ·rw[show Tryz.inB n=false by simp[Tryz.inB];omega]
   exact Tryz.within_hi n b cap w h0 h1 h2
  ·rw[show Tryz.inB n=true by simp[Tryz.inB];omega]
   exact Tryz.within_in n b cap w h0 h1 h2
end Go.Proofs
namespace Go.Proofs
open Go.Shelf Go.RowKit
theorem Tryz.new_cell(w:World)(v:Value)(t:TypeId):(w.alloc (.cells #[v] t)).cell? ⟨w.heap.size,0,none⟩=some v:=by
 rw[World.cell?_alloc_new]
 rfl
theorem Tryz.below_atoi{w w1:World}{B:Nat}(hB:B≤w.heap.size)(h:w1=w∨∃t,w1=Lib.bytesWorld w 5 t):Below B w w1:=by
 rcases h with rfl |⟨t,rfl⟩
 ·exact Below.refl _ _
 ·exact(Lib.bytesWorld_below w 5 t).mono hB
set_option maxHeartbeats 1000000 in
set_option maxRecDepth 100000 in
theorem Tryz.number_out(s:ByteArray)(v:Int)(hs:s.size≤9223372036854775806)(h:Lib.atoiAll s.data.toList=.ok v)(hv:Tryz.inB v=false)(w:World):
  Calls Tryz.prog 65 #[.string s] w fun e w'=>e=.returned (.tuple #[.int .i64 0,.bool false])∧Below w.heap.size w w':=by
 go_enter Tryz.func65,Tryz.ntmps65
 go_wp2_with (go_at_call 105;refine(Tryz.strconv_Atoi_ok s hs v h _).mono ?_)
 rintro e w1 ⟨rfl,h1⟩
 have hb1:Below w.heap.size w w1:=Tryz.below_atoi (Nat.le_refl _) h1
 clear h1
 go_wp2_with (go_at_call 106;refine(Tryz.within v _ _ _ ?c).mono ?_)
 case c=>exact Tryz.new_cell _ _ _
 rintro e w2 ⟨rfl,rfl⟩
 rw[hv]
 go_wp2_with fail
 go_ret2
 exact⟨rfl,hb1.alloc hb1.size _⟩
set_option maxHeartbeats 1000000 in
set_option maxRecDepth 100000 in
theorem Tryz.number_in(s:ByteArray)(v:Int)(hs:s.size≤9223372036854775806)(h:Lib.atoiAll s.data.toList=.ok v)(hv:Tryz.inB v=true)(w:World)(htab:Lib.TabIs Tryz.prog w "internal/strconv.uint64pow10" .u64 Lib.pow10Tab)(ok:Bool)(hok:decide (Lib.itoa v=s.data.toList)=ok):
  Calls Tryz.prog 65 #[.string s] w fun e w'=>e=.returned (.tuple #[.int .i64 (if ok=true then v else 0),.bool ok])∧Below w.heap.size w w':=by
 have hv':-1048576≤v∧v≤1048576:=of_decide_eq_true hv
 have h4:4<w.heap.size:=by
  unfold Lib.TabIs World.var? at htab
  simp only[show Tryz.prog.globalNamed "internal/strconv.uint64pow10" =some 4 by kernel_rfl,xS]at htab
  split at htab
  ·rename_i hh
   exact(Array.getElem?_eq_some_iff.1 hh).1
  ·cases htab
 go_enter Tryz.func65,Tryz.ntmps65
 go_wp2_with (go_at_call 105;refine(Tryz.strconv_Atoi_ok s hs v h _).mono ?_)
 rintro e w1 ⟨rfl,h1⟩
 have hb1:Below w.heap.size w w1:=Tryz.below_atoi (Nat.le_refl _) h1
 clear h1
 go_wp2_with (go_at_call 106;refine(Tryz.within v _ _ _ ?c).mono ?_)
 case c=>exact Tryz.new_cell _ _ _
 rintro e w2 ⟨rfl,rfl⟩
 rw[hv]
 have hb2:Below w.heap.size w (w1.alloc (.cells #[.int .i64 v] 3)):=hb1.alloc hb1.size _
 have htab2:Lib.TabIs Tryz.prog (w1.alloc (.cells #[.int .i64 v] 3)) "internal/strconv.uint64pow10" .u64 Lib.pow10Tab:=var?_below hb2 (by kernel_rfl) h4 htab
 go_wp2_with (go_at_call 85;refine(Tryz.decimal v (by omega) (by omega) _ htab2).mono ?_)
 rintro e w3 ⟨rfl,hb3⟩
 have hb4:Below w.heap.size w w3:=hb2.trans (hb3.mono hb2.size)
 clear htab2 hb3
 cases ok with
 |true=>
  have e1:Lib.itoa v=s.data.toList:=of_decide_eq_true hok
  have e2:(⟨(Lib.itoa v).toArray⟩:ByteArray)=s:=by rw[e1]
  rw[e2]
  go_wp2_with fail
  go_ret2
  exact⟨rfl,hb4⟩
 |false=>
  have e1:¬Lib.itoa v=s.data.toList:=of_decide_eq_false hok
  have e2:(Lib.itoa v==s.toList)=false:=by
   rw[Lib.toList_data]
   simpa using e1
  go_wp2_with fail
  go_ret2
  exact⟨rfl,hb4⟩
set_option maxHeartbeats 1000000 in
set_option maxRecDepth 100000 in
theorem Tryz.number_syntax(s:ByteArray)(hs:s.size≤281474976710656)(h:Lib.atoiAll s.data.toList=(Lib.atoiAll []))(w:World)(ev:Value)(hv:w.cell? ⟨2,0,none⟩=some ev)(hev:∃te pe,ev=.iface te pe):
  Calls Tryz.prog 65 #[.string s] w fun e w'=>e=.returned (.tuple #[.int .i64 0,.bool false])∧Below w.heap.size w w':=by
 go_enter Tryz.func65,Tryz.ntmps65
 go_wp2_with (go_at_call 105;refine(Tryz.strconv_Atoi_syntax s hs h ev _ hv (.inr hev)).mono ?_)
 rintro e w1 ⟨N,rfl,_,_,hb1⟩
 go_wp2_with fail
 go_ret2
 exact⟨rfl,hb1⟩
set_option maxHeartbeats 1000000 in
set_option maxRecDepth 100000 in
theorem Tryz.number_range(s:ByteArray)(hs:s.size≤281474976710656)(h:Lib.atoiAll s.data.toList=.range)(w:World)(ev:Value)(hv:w.cell? ⟨3,0,none⟩=some ev)(hev:∃te pe,ev=.iface te pe):
  Calls Tryz.prog 65 #[.string s] w fun e w'=>e=.returned (.tuple #[.int .i64 0,.bool false])∧Below w.heap.size w w':=by
 go_enter Tryz.func65,Tryz.ntmps65
 go_wp2_with (go_at_call 105;refine(Tryz.strconv_Atoi_range s hs h ev _ hv (.inr hev)).mono ?_)
 rintro e w1 ⟨N,rfl,_,_,hb1⟩
 go_wp2_with fail
 go_ret2
 exact⟨rfl,hb1⟩
def Tryz.num(s:List UInt8):Int×Bool:=match Lib.atoiAll s with
 | .ok v=>if Tryz.inB v=true∧Lib.itoa v=s then(v,true)else(0,false)
 |_=>(0,false)
theorem Tryz.number(s:ByteArray)(hs:s.size≤281474976710656)(w:World)(htab:Lib.TabIs Tryz.prog w "internal/strconv.uint64pow10" .u64 Lib.pow10Tab)(h2:∃te pe,w.cell? ⟨2,0,none⟩=some (.iface te pe))(h3:∃te pe,w.cell? ⟨3,0,none⟩=some (.iface te pe)):
  Calls Tryz.prog 65 #[.string s] w fun e w'=>e=.returned (.tuple #[.int .i64 (Tryz.num s.data.toList).1,.bool (Tryz.num s.data.toList).2])∧Below w.heap.size w w':=by
 obtain⟨t2,p2,h2⟩:=h2
 obtain⟨t3,p3,h3⟩:=h3
 unfold Tryz.num
 cases h:Lib.atoiAll s.data.toList with
 |ok v=>
  cases hv:Tryz.inB v with
  |false=>
   simp only[hv,xH,false_and,if_false]
   exact Tryz.number_out s v (by omega) h hv w
  |true=>
   by_cases hi:Lib.itoa v=s.data.toList
   ·simp only[hv,hi,and_self,if_true]
    exact Tryz.number_in s v (by omega) h hv w htab true (by simpa using hi)
   ·simp only[hv,hi,and_false,if_false]
    exact Tryz.number_in s v (by omega) h hv w htab false (by simpa using hi)
 |range=>exact Tryz.number_range s hs h w _ h3 ⟨_,_,rfl⟩
 |_=>exact Tryz.number_syntax s hs h w _ h2 ⟨_,_,rfl⟩
end Go.Proofs
namespace Go.Tr7
open Go Go.Am Go.Proofs
theorem decF_eq:∀(k u:Nat),u<10 ^ k→decF k u=Lib.decDigits u∨k=0
 |0,_,_=>.inr rfl
 |k+1,u,h=>by
  refine .inl ?_
  rw[decF,Lib.decDigits]
  by_cases hu:u<10
  ·rw[if_pos hu,dif_pos hu]
  ·rw[if_neg hu,dif_neg hu]
   have h1:u / 10<10 ^ k:=by rw[Nat.pow_succ]at h;omega
   rcases decF_eq k (u / 10) h1 with q |q
   ·rw[q]
   ·subst q
    simp at h1
    omega
theorem decI_eq{n:Int}(h:inR n=true):decI n=Lib.itoa n:=by
 simp only[inR,xA,yD]at h
 unfold decI Lib.itoa
 have e:(10:Nat) ^ 20=100000000000000000000:=by decide
 split
 ·rw[(decF_eq 20 n.natAbs (by rw[e];omega)).resolve_right (by decide)]
 ·rw[(decF_eq 20 n.toNat (by rw[e];omega)).resolve_right (by decide)]
theorem numF_eq(s:List UInt8):numF s=Tryz.num s:=by
 unfold numF Tryz.num
 cases Lib.atoiAll s with
 |ok v=>
  simp only[show inB v=Tryz.inB v from rfl]
  cases hb:Tryz.inB v with
  |false=>simp
  |true=>
   have hr:inR v=true:=by
    have:=of_decide_eq_true hb
    simp only[inR,xA,yD]
    omega
   rw[decI_eq hr]
   by_cases hi:Lib.itoa v=s <;>simp[hi]
 |_=>rfl
structure Vars(G:Nat→Option D):Prop where
 pow:G 4=some (.agg (Lib.pow10Tab.map (D.int .u64)))
 syn:G 2=some .nilf
 rng:G 3=some .nilf
theorem ints_of(c:Cx)(k:IntKind):∀(zs:List Int) (vs:List Value),VCs c (zs.map (D.int k)) vs→vs=zs.map fun z=>Value.int k z
 | [],vs,h=>by simpa [VCs]using h
 |z::zs,vs,h=>by
  simp only[List.map_cons,VCs,VC]at h
  obtain⟨v,r,rfl,h1,h2⟩:=h
  rw[ints_of c k zs r h2]
  simpa using h1
theorem tab_of{G:Nat→Option D}(hv:Vars G){w:World}(c:Cx)(h:GW G w):Lib.TabIs Tryz.prog w "internal/strconv.uint64pow10" .u64 Lib.pow10Tab:=by
 obtain⟨vs,⟨t,fr,h1⟩,h2⟩:=h _ _ hv.pow
 have:=ints_of c .u64 _ _ (h2.1 rfl c)
 subst this
 unfold Lib.TabIs World.var?
 simp only[show Tryz.prog.globalNamed "internal/strconv.uint64pow10" =some 4 by kernel_rfl,xS,h1]
theorem itf_of{G:Nat→Option D}{g:Nat}(hv:G g=some .nilf){w:World}(h:GW G w):∃te pe,w.cell? ⟨g,0,none⟩=some (.iface te pe):=by
 obtain⟨vs,h1,h2⟩:=h _ _ hv
 obtain⟨t,p,rfl⟩:=h2.2 rfl
 have:=h1.cell 0
 exact⟨t,p,by simpa [Addr.add]using this⟩
theorem given_dec{G:Nat→Option D}(hv:Vars G):ExtOK Tryz.prog G 85 extDec:=by
 refine ext_given Tryz.func85 (by kernel_rfl) (by kernel_rfl) (by unfold YB;omega) fun ds rs c args e hG ha=> ?_
 unfold extDec at e
 split at e
 ·rename_i n
  split at e
  ·rename_i hr
   simp only[xJ]at e
   subst e
   simp only[VVs]at ha
   obtain⟨v,r,hargs,h1,h2,rfl⟩:=ha
   have h3:=VV.inv (c:=c) (d:=.int .i64 n) ⟨h1,h2⟩ (by simp)
   simp only[VC,xC,and_true]at h3
   subst h3
   obtain rfl:args= #[.int .i64 n]:=by rw[←Array.toArray_toList (xs:=args),hargs]
   have hr':=hr
   simp only[inR,xA,yD]at hr'
   refine(Tryz.decimal n hr'.1 hr'.2 c.w (tab_of hv c hG)).mono fun en w' he=> ?_
   refine⟨[.str (decI n)],[.string ⟨(Lib.itoa n).toArray⟩],he.1,rfl,fun c=> ?_,he.2⟩
   simp only[VVs]
   exact⟨_,[],rfl,by simp[VC,Value.cells,decI_eq hr],rfl,rfl⟩
  ·cases e
 ·cases e
theorem given_num{G:Nat→Option D}(hv:Vars G):ExtOK Tryz.prog G 65 extNum:=by
 refine ext_given Tryz.func65 (by kernel_rfl) (by kernel_rfl) (by unfold YB;omega) fun ds rs c args e hG ha=> ?_
 unfold extNum at e
 split at e
 ·rename_i s
  split at e
  ·rename_i hr
   simp only[xJ]at e
   subst e
   simp only[VVs]at ha
   obtain⟨v,r,hargs,h1,h2,rfl⟩:=ha
   have h3:=VV.inv (c:=c) (d:=.str s) ⟨h1,h2⟩ (by simp)
   simp only[VC,xC,and_true]at h3
   obtain⟨b,rfl,rfl⟩:=h3
   obtain rfl:args= #[.string b]:=by rw[←Array.toArray_toList (xs:=args),hargs]
   have hsz:b.size≤281474976710656:=by
    have:=of_decide_eq_true hr
    rw[Lib.size_eq b]
    omega
   refine(Tryz.number b hsz c.w (tab_of hv c hG) (itf_of hv.syn hG) (itf_of hv.rng hG)).mono fun en w' he=> ?_
   refine⟨[.int .i64 (numF b.data.toList).1,.bool (numF b.data.toList).2],[.int .i64 (Tryz.num b.data.toList).1,.bool (Tryz.num b.data.toList).2],he.1,rfl,fun c=> ?_,he.2⟩
   simp only[VVs,numF_eq]
   exact⟨_,_,rfl,by simp[VC,Value.cells],rfl,_,[],rfl,by simp[VC,Value.cells],rfl,rfl⟩
  ·cases e
 ·cases e
end Go.Tr7
namespace Go.Etx.Nm
open Go Go.Am Go.Tr7 Go.Etx
open Go.Lib (decDigits itoa indexByte countByte atoiAll parseUint10 parseMag)
theorem dd_small{u:Nat}(h:u<10):decDigits u=[UInt8.ofNat (48+u)]:=by rw[decDigits,dif_pos h]
theorem dd_big{u:Nat}(h:¬u<10):decDigits u=decDigits (u / 10)++[UInt8.ofNat (48+u % 10)]:=by rw[decDigits,dif_neg h]
theorem dig{k:Nat}(h:k<10):(UInt8.ofNat (48+k)).toNat=48+k:=by rw[UInt8.toNat_ofNat'];omega
theorem dd_ne(u:Nat):decDigits u≠[]:=by
 by_cases h:u<10
 ·rw[dd_small h];simp
 ·rw[dd_big h];simp
theorem dd_mem(u:Nat):∀x∈decDigits u,48≤x.toNat∧x.toNat≤57:=by
 induction u using Nat.strongRecOn with
 |ind u ih=>
  by_cases h:u<10
  ·rw[dd_small h]
   intro x hx
   rw[yQ]at hx
   subst hx
   rw[dig h];omega
  ·rw[dd_big h]
   intro x hx
   rw[xD,yQ]at hx
   rcases hx with hx |rfl
   ·exact ih _ (by omega) x hx
   ·rw[dig (by omega)];omega
theorem parse_app{m:List UInt8}:∀(l:List UInt8) (acc a:Nat),parseUint10 acc l=.ok a→parseUint10 acc (l++m)=parseUint10 a m
 | [],acc,a,h=>by
  simp only[parseUint10]at h
  injection h with h
  subst h;rfl
 |c::r,acc,a,h=>by
  simp only[parseUint10,List.cons_append]at h ⊢
  split at h
  ·rename_i h1
   split at h
   ·cases h
   ·rename_i h2
    split at h
    ·cases h
    ·rename_i h3
     rw[if_pos h1,if_neg h2,if_neg h3]
     exact parse_app r _ a h
  ·cases h
theorem parse_dd(u:Nat)(hu:u≤9223372036854775808):parseUint10 0 (decDigits u)=.ok u:=by
 induction u using Nat.strongRecOn with
 |ind u ih=>
  by_cases h:u<10
  ·rw[dd_small h]
   simp only[parseUint10]
   rw[dig h,if_pos (by omega),if_neg (by omega),if_neg (by omega)]
   congr 1;omega
  ·rw[dd_big h,parse_app _ 0 (u / 10) (ih _ (by omega) (by omega))]
   simp only[parseUint10]
   rw[dig (by omega),if_pos (by omega),if_neg (by omega),if_neg (by omega)]
   congr 1;omega
theorem mag_dd(u:Nat)(hu:u≤9223372036854775808):parseMag (decDigits u)=.ok u:=by
 unfold parseMag
 rw[if_neg (dd_ne u),parse_dd u hu]
theorem atoi_itoa(n:Int)(h0:-9223372036854775808≤n)(h1:n≤9223372036854775807):atoiAll (itoa n)=.ok n:=by
 unfold itoa
 by_cases hn:n<0
 ·rw[if_pos hn]
  simp only[atoiAll]
  simp only[show(45:UInt8).toNat=45 from rfl]
  rw[if_pos (.inr trivial),mag_dd _ (by omega)]
  simp only[not_true_eq_false,false_and,if_false,true_and,if_true]
  rw[if_neg (by omega)]
  congr 1;omega
 ·rw[if_neg hn]
  have hm:=dd_mem n.toNat
  have hp:=mag_dd n.toNat (by omega)
  revert hm hp
  generalize hl:decDigits n.toNat=l
  intro hm hp
  cases l with
  |nil=>exact absurd hl (dd_ne _)
  |cons c r=>
   have hc:=hm c (by simp)
   simp only[atoiAll]
   rw[if_neg (by omega),hp]
   simp only
   rw[if_neg (by omega),if_neg (by omega),if_neg (by omega)]
   congr 1;omega
theorem numF_dec{n:Int}(h:inR n=true):numF (decI n)=if Tr7.inB n=true then(n,true)else(0,false):=by
 have h':=h
 simp only[inR,xA,yD]at h'
 unfold numF
 rw[decI_eq h,atoi_itoa n h'.1 h'.2]
 simp only[decI_eq h,decide_true,Bool.and_true]
section
variable{ρ:Type}
theorem within_eq(n:Int)(κ:Bool→Option ρ):f_r01_within n κ=κ (Tr7.inB n):=by
 simp only[f_r01_within,F_r01_within,mkF,Tr7.inB]
 by_cases h:-1048576≤n
 ·rw[if_pos h];simp[h]
 ·rw[if_neg h];simp[h]
def nst(p:Nat×Nat)(x:UInt8):Nat×Nat:=if 48≤x.toNat∧x.toNat≤57∧p.2<8 then(p.1 * 10+(x.toNat - 48),p.2+1)else p
end
end Go.Etx.Nm
namespace Go.Etx
open Go Go.Am Go.Proofs
theorem sgnB_le(o:Int):sgnB o≤5:=by unfold sgnB;repeat' split <;>try omega
theorem sgnB_pos{o:Int}(h:11≤o∧o≤19):1≤sgnB o:=by
 have:o=11∨o=12∨o=13∨o=14∨o=15∨o=16∨o=17∨o=18∨o=19:=by omega
 rcases this with q |q |q |q |q |q |q |q |q <;>(subst q;decide)
theorem strK_pos{t:Ex}(h:t.wf):1≤strK t.top:=by
 have leaf:∀x,1≤leafB x:=fun x=>by unfold leafB;split;split <;>decide;decide
 unfold strK
 split
 ·rename_i q;exact sgnB_pos q
 split
 ·decide
 ·exact leaf _
theorem strK_bin{x:GNode}(h:11≤x.Op∧x.Op≤19):strK x=sgnB x.Op:=by unfold strK;rw[if_pos h]
theorem tok_sp{r:List UInt8}:tok (32::r):=fun c hc=>by simp at hc;subst hc;exact .inl rfl
def bareN(x:GNode):GNode:=⟨x.Op,if x.Op≤4∨(6≤x.Op∧x.Op≤8)then x.N else 0⟩
theorem fine_of{s:GScope}{x:GNode}(hr:Tr7.inR x.N=true)(hb:badE s x=false):Fine s x∧∃p,nameP [] x s=some p∧(tellsB x.Op=true→p.2=true∧nameN s x=p.1):=by
 unfold badE at hb
 cases hp:nameP [] x s with
 |none=>rw[hp]at hb;simp at hb
 |some p=>
  rw[hp]at hb
  have hn:nameN s x=p.1:=by unfold nameN;rw[hp]
  simp only[badN,Bool.or_eq_false_iff,Bool.not_eq_false',Bool.and_eq_false_iff,Bool.not_eq_false']at hb
  obtain⟨⟨h1,h2⟩,h3⟩:=hb
  refine⟨⟨hr,fun h=> ?_⟩,p,rfl,fun h=>⟨h1,hn⟩⟩
  rw[hn]
  rcases h3 with h3 |h3
  ·rcases h2 with h2 |h2
   ·rw[h3]at h2;cases h2
   ·exact h2
  ·rw[h]at h3;cases h3
end Go.Etx
namespace Go.Etx
open Go Go.Am Go.Proofs
theorem bare_eq{x:GNode}(h:x.Op≤4∨(6≤x.Op∧x.Op≤8)):bareN x=x:=by unfold bareN;rw[if_pos h]
theorem w64_id{n:Int}(h:Tr7.inR n=true):w64 (Int.tdiv n 16)=Int.tdiv n 16:=by
 simp only[Tr7.inR,xA,yD]at h
 have h0:(Int.tdiv n 16).natAbs=n.natAbs / 16:=Int.natAbs_tdiv n 16
 exact wrap_i64 (by omega) (by omega)
def Ex.bare:Ex→Ex
 | .leaf x=>.leaf (bareN x)
 | .un x a=>.un (bareN x) a.bare
 | .bin x a b=>.bin (bareN x) a.bare b.bare
theorem layE_bare(x:GNode)(ts:List Ex):layE (bareN x) (ts.map Ex.bare)=(layE x ts).map Ex.bare:=by
 unfold layE
 show(if takesK x.Op=0 then _ else if takesK x.Op=1 then _ else _)=_
 split
 ·simp[Ex.bare]
 split
 ·rw[List.getLast?_map]
  cases ts.getLast? with
  |none=>rfl
  |some a=>simp[Ex.bare,List.map_take]
 ·rw[List.getLast?_map,List.length_map,List.getElem?_map]
  cases ts[ts.length - 2]? with
  |none=>rfl
  |some a=>
   cases ts.getLast? with
   |none=>rfl
   |some b=>simp[Ex.bare,List.map_take]
theorem trees_bare:∀(e:List GNode) (ts:List Ex),treesL (e.map bareN) (ts.map Ex.bare)=(treesL e ts).map Ex.bare
 | [],ts=>rfl
 |x::r,ts=>by rw[List.map_cons,treesL,layE_bare,trees_bare r,treesL]
theorem part_bare{s:GScope}:∀(t:Ex),partOf s t.bare=partOf s t:=by
 have hb:∀x:GNode,(bareN x).Op=x.Op:=fun _=>rfl
 have hn:∀x:GNode,x.Op≠5→¬9≤x.Op→bareN x=x:=fun x h h'=>bare_eq (by omega)
 intro t
 induction t with
 |leaf x=>
  by_cases h:x.Op=5∨9≤x.Op
  ·have:x.Op≠1∧x.Op≠2∧x.Op≠4∧x.Op≠6∧x.Op≠7∧x.Op≠8:=by omega
   obtain⟨h1,h2,h4,h6,h7,h8⟩:=this
   simp only[Ex.bare,partOf,leafT,leafB,hb,h1,h2,h4,h6,h7,h8,if_false]
  ·rw[Ex.bare,hn x (by omega) (by omega)]
 |un x a ih=>
  by_cases h3:x.Op=3
  ·rw[Ex.bare,hn x (by omega) (by omega)];simp only[partOf,ih]
  ·simp only[Ex.bare,partOf,hb,h3,if_false,ih]
 |bin x a b iha ihb=>simp only[Ex.bare,partOf,hb,iha,ihb,joinT]
end Go.Etx
namespace Go.Etx
open Go Go.Am Go.Proofs
theorem now_lt{r:Rdr}(h:r.now.Kind≠0):r.pos<r.l.length:=by
 rcases Nat.lt_or_ge r.pos r.l.length with q |q
 ·exact q
 ·exact absurd (by unfold Rdr.now;rw[List.getElem?_eq_none q];rfl) h
theorem is_kind{r:Rdr}{k:Int}{t:List UInt8}(h:r.is k t=true):r.e=0∧r.now.Kind=k∧r.now.Text=t:=by
 simp only[Rdr.is,xA,yD]at h
 exact h
structure RLe(r r':Rdr):Prop where
 l:r'.l=r.l
 s:r'.s=r.s
 stop:r'.stop=r.stop
 pos:r.pos≤r'.pos
 len:r.pos≤r.l.length→r'.pos≤r.l.length
 out:r'.out.length+r.pos≤r.out.length+r'.pos
theorem RLe.refl(r:Rdr):RLe r r:=⟨rfl,rfl,rfl,Nat.le_refl _,fun h=>h,Nat.le_refl _⟩
theorem RLe.trans{r r' r2:Rdr}(h:RLe r r')(h':RLe r' r2):RLe r r2:=by
 obtain⟨h1,h2,h3,h4,h5,h6⟩:=h
 obtain⟨k1,k2,k3,k4,k5,k6⟩:=h'
 refine⟨k1.trans h1,k2.trans h2,k3.trans h3,by omega,fun q=> ?_,by omega⟩
 rw[h1]at k5
 exact k5 (h5 q)
theorem step_le{r:Rdr}(h:r.pos<r.l.length):RLe r r.step:=⟨rfl,rfl,rfl,Nat.le_succ _,fun _=>h,by show r.out.length+r.pos≤r.out.length+(r.pos+1);omega⟩
theorem fail_le(r:Rdr)(x:Int):RLe r (r.fail x):=by
 unfold Rdr.fail
 split
 ·exact⟨rfl,rfl,rfl,Nat.le_refl _,fun h=>h,Nat.le_refl _⟩
 ·exact RLe.refl r
theorem take_le(r:Rdr)(t:List UInt8):RLe r (r.take t):=by
 unfold Rdr.take
 split
 ·rename_i h
  exact step_le (now_lt (by rw[(is_kind h).2.1];decide))
 ·exact fail_le r 3
theorem kind_le(r:Rdr){k:Int}(hk:k≠0):RLe r (r.kind k).2:=by
 unfold Rdr.kind
 split
 ·rename_i h
  exact step_le (now_lt (by rw[h.2];exact hk))
 ·exact fail_le r 3
theorem found_le(r:Rdr)(lk:List UInt8→Int):RLe r (r.found lk).2:=by
 unfold Rdr.found
 split
 ·rename_i h
  split
  ·exact fail_le r 8
  ·exact step_le (now_lt (by rw[h.2];decide))
 ·exact fail_le r 3
theorem wide_le(r:Rdr):RLe r r.wide:=by
 unfold Rdr.wide
 split
 ·exact fail_le r 10
 ·exact RLe.refl r
theorem step_put{r r':Rdr}(hl:r.pos<r.l.length)(h:RLe r.step r')(op n:Int):RLe r (r'.put op n):=by
 obtain⟨h1,h2,h3,h4,h5,h6⟩:=h
 have e:(r'.put op n).l=r'.l∧(r'.put op n).stop=r'.stop∧(r'.put op n).out.length≤r'.out.length+1:=by unfold Rdr.put;split <;>simp
 have h5:r'.pos≤r.l.length:=h5 hl
 have h4:r.pos+1≤r'.pos:=h4
 have h6:r'.out.length+(r.pos+1)≤r.out.length+r'.pos:=h6
 exact⟨e.1.trans h1,(put_s r' op n).trans h2,e.2.1.trans h3,by rw[put_pos];omega,fun _=>by rw[put_pos];exact h5,by rw[put_pos];omega⟩
theorem length_le{r:Rdr}(hl:r.pos<r.l.length):RLe r r.step.length:=step_put hl (((take_le _ _).trans (found_le _ _)).trans (take_le _ _)) _ _
theorem nothing_le{r:Rdr}(hl:r.pos<r.l.length):RLe r r.step.nothing:=step_put hl (((take_le _ _).trans (found_le _ _)).trans (take_le _ _)) _ _
theorem where_le{r:Rdr}(hl:r.pos<r.l.length):RLe r r.step.whereR:=step_put hl ((((((take_le _ _).trans (found_le _ _)).trans (take_le _ _)).trans (wide_le _)).trans (kind_le _ (by decide))).trans (take_le _ _)) _ _
theorem rdk_le:∀{n:Nat} {md:Md} {r r':Rdr},(md=.word→r.now.Kind=1)→rdK n md r=some r'→RLe r r'
 |0,_,_,_,_,h=>by simp[rdK]at h
 |n+1,.level b,r,r',_,h=>by
  rw[rdK]at h
  split at h
  ·exact rdk_le (fun q=>by cases q) h
  split at h
  ·exact rdk_le (fun q=>by cases q) h
  ·simp only[xB]at h
   obtain⟨r1,h1,h2⟩:=h
   exact(rdk_le (fun q=>by cases q) h1).trans (rdk_le (fun q=>by cases q) h2)
 |n+1,.rest b,r,r',_,h=>by
  rw[rdK]at h
  split at h
  ·split at h
   ·simp only[xJ]at h;subst h;exact RLe.refl r
   ·split at h
    ·rename_i hk
     have hl:=now_lt (r:=r) (by rw[hk];decide)
     simp only[xB]at h
     obtain⟨r1,h1,h2⟩:=h
     have k1:=step_put hl (rdk_le (fun q=>by cases q) h1)
     split at h2
     ·simp only[xJ]at h2;subst h2;exact k1 _ _
     ·exact(k1 _ _).trans (rdk_le (fun q=>by cases q) h2)
    ·simp only[xJ]at h;subst h;exact RLe.refl r
  ·simp only[xJ]at h;subst h;exact RLe.refl r
 |n+1,.strong,r,r',_,h=>by
  rw[rdK]at h
  split at h
  ·rename_i hi
   have hl:=now_lt (r:=r) (by rw[(is_kind hi).2.1];decide)
   simp only[xM]at h
   obtain⟨r1,h1,rfl⟩:=h
   exact step_put hl (rdk_le (fun q=>by cases q) h1) _ _
  split at h
  ·rename_i hi
   have hl:=now_lt (r:=r) (by rw[(is_kind hi).2.1];decide)
   split at h
   ·rename_i hk
    simp only[xJ]at h
    subst h
    exact step_put hl (step_le (now_lt (by rw[hk];decide))) _ _
   ·simp only[xM]at h
    obtain⟨r1,h1,rfl⟩:=h
    exact step_put hl (rdk_le (fun q=>by cases q) h1) _ _
  ·exact rdk_le (fun q=>by cases q) h
 |n+1,.leaf,r,r',_,h=>by
  rw[rdK]at h
  split at h
  ·split at h
   ·rename_i hk
    simp only[xJ]at h
    subst h
    exact step_put (now_lt (by rw[hk];decide)) (RLe.refl _) _ _
   split at h
   ·rename_i hi
    simp only[xM]at h
    obtain⟨r1,h1,rfl⟩:=h
    exact((step_le (now_lt (by rw[(is_kind hi).2.1];decide))).trans (rdk_le (fun q=>by cases q) h1)).trans (take_le _ _)
   split at h
   ·rename_i hk
    exact rdk_le (fun _=>hk) h
   ·simp only[xJ]at h;subst h;exact fail_le r 3
  ·simp only[xJ]at h;subst h;exact RLe.refl r
 |n+1,.word,r,r',hw,h=>by
  have hl:=now_lt (r:=r) (by rw[hw rfl];decide)
  rw[rdK]at h
  split at h
  ·simp only[xJ]at h;subst h;exact step_put hl (RLe.refl _) _ _
  split at h
  ·simp only[xJ]at h;subst h;exact length_le hl
  split at h
  ·simp only[xJ]at h;subst h;exact where_le hl
  split at h
  ·simp only[xJ]at h;subst h;exact nothing_le hl
  split at h
  ·simp only[xJ]at h;subst h;exact fail_le r 8
  split at h
  ·rename_i hi
   have hl2:=now_lt (r:=r.step) (by rw[(is_kind hi.2).2.1];decide)
   simp only[xM]at h
   obtain⟨r1,h1,rfl⟩:=h
   exact step_put hl (((step_le hl2).trans (rdk_le (fun q=>by cases q) h1)).trans (take_le _ _)) _ _
  ·simp only[xJ]at h;subst h;exact step_put hl (RLe.refl _) _ _
end Go.Etx
namespace Go.Etx
open Go Go.Am Go.Proofs
set_option maxHeartbeats 4000000
set_option maxRecDepth 20000
noncomputable section
def LowM(M:List Ob):Prop:=∀n,0<n→M.all (fun o=>o.low n)=true
theorem low_two{M:List Ob}{b:Int}(h:LowM M):LowM (M++[.box (.d (.ptr 0)),.box (.d (.int .i64 b))]):=fun n hn=>by
 rw[List.all_append,h n hn,Bool.true_and]
 simp[Ob.low,T.low,D.low,hn]
section
variable{ρ:Type}
structure Ok(r:Rdr):Prop where
 pos:r.pos≤r.l.length
 out:r.out.length≤r.pos
 len:r.l.length<1099511627000
 few:Few r.s
theorem Ok.le{r r':Rdr}(h:Ok r)(k:RLe r r'):Ok r':=by
 obtain⟨h1,h2,h3,h4⟩:=h
 obtain⟨k1,k2,_,k4,k5,k6⟩:=k
 refine⟨by rw[k1];exact k5 h1,by omega,by rw[k1];exact h3,by rw[k2];exact h4⟩
theorem Ok.step{r:Rdr}(h:Ok r)(k:r.pos<r.l.length):Ok r.step:=h.le (step_le k)
theorem Ok.p{r:Rdr}(h:Ok r):r.pos<1099511627000:=Nat.lt_of_le_of_lt h.pos h.len
theorem Ok.o{r:Rdr}(h:Ok r):r.out.length<1099511627776:=by have:=h.p;have:=h.out;omega
def Does(n:Nat)(f:Nat)(ds:Rdr→List D)(md:Md)(ρ:Type):Prop:=∀(r r':Rdr),rdK n md r=some r'→(md=.word→r.now.Kind=1)→Ok r→∀(M:List Ob),LowM M→∀κ:KT ρ,cbK (call f (ds r) (.box (rdT r)::M)) κ=κ ([],.box (rdT r')::M)
theorem ob_a{a x y:Ob}{M:List Ob}:(a::(M++[x,y]))[M.length+1]? =some x:=by simp
theorem ob_b{a x y:Ob}{M:List Ob}:(a::(M++[x,y]))[M.length+1+1]? =some y:=by simp
theorem wrap1p{r:Rdr}(h:Ok r):IntKind.i64.wrap ((r.pos:Int)+1)=(r.pos:Int)+1:=by have:=h.p;exact wrap_i64 (by omega) (by omega)
theorem whole_w{n:Nat}(hl:Does n 35 (fun _=>[.ptr 0,.int .i64 1]) (.level 1) ρ):Does n 16 (fun _=>[.ptr 0]) (.level 1) ρ:=by
 intro r r' h _ ok M hM κ
 refine(ge16 _ _ _ rfl).trans ?_
 have hc:=hl r r' h (fun q=>by cases q) ok M hM
 simp -implicitDefEqProofs (maxSteps:=1000000) [go_sem,hc,-List.map_append,-List.map_take,-List.map_drop,-List.map_set]
theorem strong_w{n:Nat}(hs:Does n 67 (fun _=>[.ptr 0]) .strong ρ)(hl:Does n 68 (fun _=>[.ptr 0]) .leaf ρ):Does (n+1) 67 (fun _=>[.ptr 0]) .strong ρ:=by
 intro r r' h _ ok M hM κ
 refine(ge67 _ _ _ rfl).trans ?_
 have hp:=ok.p
 have hi:=fun k t M κ=>is_w (ρ:=ρ) r (by omega) k t M κ
 have hw:=wrap1p ok
 rw[rdK]at h
 by_cases h1:r.is 3 [33]=true
 ·have ok1:=ok.step (now_lt (by rw[(is_kind h1).2.1];decide))
  rw[if_pos h1]at h
  simp only[xM]at h
  obtain⟨r1,h2,rfl⟩:=h
  have hc:=hs r.step r1 h2 (fun q=>by cases q) ok1 M hM
  have hq:=fun M κ=>put_w (ρ:=ρ) r1 (ok1.le (rdk_le (fun q=>by cases q) h2)).o 9 0 M κ
  simp -implicitDefEqProofs (maxSteps:=1000000) [go_sem,hi,h1,hw,hc,hq,-List.map_append,-List.map_take,-List.map_drop,-List.map_set]
 rw[if_neg h1]at h
 by_cases h2:r.is 3 [45]=true
 ·have ok1:=ok.step (now_lt (by rw[(is_kind h2).2.1];decide))
  have hp1:=ok1.p
  rw[if_pos h2]at h
  have hn:=fun M κ=>now_w (ρ:=ρ) r.step (by omega) M κ
  by_cases h3:r.step.now.Kind=2
  ·rw[if_pos h3]at h
   simp only[xJ]at h
   subst h
   have hw2:=wrap1p ok1
   have hq:=fun M κ=>put_w (ρ:=ρ) r.step.step ok.o 1 (w64 (-r.step.now.N)) M κ
   have h3:=tt h3
   simp -implicitDefEqProofs (maxSteps:=1000000) [go_sem,hi,h1,h2,h3,hw,hw2,hn,hq,-List.map_append,-List.map_take,-List.map_drop,-List.map_set]
  ·rw[if_neg h3]at h
   simp only[xM]at h
   obtain⟨r1,h4,rfl⟩:=h
   have hc:=hs r.step r1 h4 (fun q=>by cases q) ok1 M hM
   have hq:=fun M κ=>put_w (ρ:=ρ) r1 (ok1.le (rdk_le (fun q=>by cases q) h4)).o 10 0 M κ
   have h3:=ff h3
   simp -implicitDefEqProofs (maxSteps:=1000000) [go_sem,hi,h1,h2,h3,hw,hn,hc,hq,-List.map_append,-List.map_take,-List.map_drop,-List.map_set]
 ·rw[if_neg h2]at h
  have hc:=hl r r' h (fun q=>by cases q) ok M hM
  simp -implicitDefEqProofs (maxSteps:=1000000) [go_sem,hi,h1,h2,hc,-List.map_append,-List.map_take,-List.map_drop,-List.map_set]
theorem leaf_w{n:Nat}(hl:Does n 16 (fun _=>[.ptr 0]) (.level 1) ρ)(hw:Does n 112 (fun r=>[.ptr 0,.str r.now.Text]) .word ρ):Does (n+1) 68 (fun _=>[.ptr 0]) .leaf ρ:=by
 intro r r' h _ ok M hM κ
 refine(ge68 _ _ _ rfl).trans ?_
 have hp:=ok.p
 have hn:=fun M κ=>now_w (ρ:=ρ) r (by omega) M κ
 have hi:=fun k t M κ=>is_w (ρ:=ρ) r (by omega) k t M κ
 have hf:=fun x M κ=>fail_w (ρ:=ρ) r (by omega) x M κ
 have hw1:=wrap1p ok
 rw[rdK]at h
 by_cases h0:r.e=0
 ·rw[if_pos h0]at h
  have h0:=tt h0
  by_cases h1:r.now.Kind=2
  ·rw[if_pos h1]at h
   simp only[xJ]at h
   subst h
   have hq:=fun M κ=>put_w (ρ:=ρ) r.step ok.o 1 r.now.N M κ
   have h1:=tt h1
   simp -implicitDefEqProofs (maxSteps:=1000000) [go_sem,hn,hi,h0,h1,hw1,hq,-List.map_append,-List.map_take,-List.map_drop,-List.map_set]
  rw[if_neg h1]at h
  have h1:=ff h1
  by_cases h2:r.is 3 [40]=true
  ·have ok1:=ok.step (now_lt (by rw[(is_kind h2).2.1];decide))
   rw[if_pos h2]at h
   simp only[xM]at h
   obtain⟨r1,h3,rfl⟩:=h
   have hc:=hl r.step r1 h3 (fun q=>by cases q) ok1 M hM
   have ht:=fun t M κ=>take_w (ρ:=ρ) r1 (by have:=(ok1.le (rdk_le (fun q=>by cases q) h3)).p;omega) t M κ
   simp -implicitDefEqProofs (maxSteps:=1000000) [go_sem,hn,hi,h0,h1,h2,hw1,hc,ht,-List.map_append,-List.map_take,-List.map_drop,-List.map_set]
  rw[if_neg h2]at h
  by_cases h3:r.now.Kind=1
  ·rw[if_pos h3]at h
   have hc:=hw r r' h (fun _=>h3) ok M hM
   have h3:=tt h3
   simp -implicitDefEqProofs (maxSteps:=1000000) [go_sem,hn,hi,h0,h1,h2,h3,hw1,hc,-List.map_append,-List.map_take,-List.map_drop,-List.map_set]
  ·rw[if_neg h3]at h
   simp only[xJ]at h
   subst h
   have h3:=ff h3
   simp -implicitDefEqProofs (maxSteps:=1000000) [go_sem,hn,hi,hf,h0,h1,h2,h3,-List.map_append,-List.map_take,-List.map_drop,-List.map_set]
 ·rw[if_neg h0]at h
  simp only[xJ]at h
  subst h
  have h0:=ff h0
  simp -implicitDefEqProofs (maxSteps:=1000000) [go_sem,hn,h0,-List.map_append,-List.map_take,-List.map_drop,-List.map_set]
abbrev wS:List UInt8:=[115,101,108,102]
abbrev wL:List UInt8:=[108,101,110]
abbrev wA:List UInt8:=[97,116]
abbrev wN:List UInt8:=[110,111,110,101]
theorem ob_1{a x:Ob}{M:List Ob}:(a::(M++[x]))[M.length+1]? =some x:=by simp
theorem set_1{a x y:Ob}{M:List Ob}:(a::(M++[x])).set (M.length+1) y=a::(M++[y]):=by simp
theorem key9(a b:List UInt8):keyEq P 9 (.str a) (.str b)=some (decide (a=b)):=by
 show((kindOf P 9).bind fun n=>eqK n (.str a) (.str b))=_
 rw[t9.2.2.2.2.1]
 exact congrArg some (Bool.eq_iff_iff.2 (by simp only[beq_iff_eq,yD]))
theorem low_map{M:List Ob}{es:List (D×T)}(h:LowM M)(hq:∀n,(Ob.map es).low n=true):LowM (M++[.map es]):=fun n hn=>by
 rw[List.all_append,h n hn,Bool.true_and]
 simp[hq]
abbrev ownM:List (D×T):=[(.str [115,101,108,102],.d (.fn (.func 134) [] [])),(.str [108,101,110],.d (.fn (.func 135) [] [])),(.str [97,116],.d (.fn (.func 136) [] [])),(.str [110,111,110,101],.d (.fn (.func 137) [] []))]
theorem low_own{M:List Ob}(h:LowM M):LowM (M++[.map ownM]):=low_map h fun n=>rfl
theorem word_w{n:Nat}(hl:Does n 16 (fun _=>[.ptr 0]) (.level 1) ρ)(hC:∀s:GScope,Few s→LK 41 s (fun nm=>fidx (pC nm) s.Chans) ρ)(hP:∀s:GScope,Few s→LK 42 s (fun nm=>fidx (pP nm) s.Procs) ρ)(hS:∀s:GScope,Few s→LK 43 s (fun nm=>fidx (pS nm) s.Scalars) ρ)
  (hst:∀(s:GScope),Few s→∀(nm:List UInt8) (κ:KT ρ),cbK (call 40 [.str nm,.agg [.sl false (List.map eScalar s.Scalars),.sl false (List.map eVar s.Vars),.sl false (List.map eChan s.Chans),.sl false (List.map (eProc false) s.Procs),.sl false (List.map eVar s.Locals),.int .i64 s.Self]] []) κ=κ ([.d (.int .i64 (standsK s nm).1),.d (.int .i64 (standsK s nm).2)],[])):
  Does (n+1) 112 (fun r=>[.ptr 0,.str r.now.Text]) .word ρ:=by
 intro r r' h hk ok M hM κ
 refine(ge112 _ _ _ rfl).trans ?_
 have hp:=ok.p
 have ok1:=ok.step (now_lt (by rw[hk rfl];decide))
 have hp1:=ok1.p
 have hw1:=wrap1p ok
 have hf:=fun x M κ=>fail_w (ρ:=ρ) r (by omega) x M κ
 have ho:=ok.o
 rw[rdK]at h
 by_cases a1:r.now.Text=wS
 ·rw[if_pos a1]at h
  simp only[xJ]at h
  subst h
  have hq:=fun M κ=>self_w (ρ:=ρ) r.step ho M κ
  have b1:=tt a1
  have c1:=tt a1.symm
  simp -implicitDefEqProofs (maxSteps:=1000000) [go_sem,putOb,lookOb,findK,putK,key9,ob_1,set_1,hw1,hq,b1,c1,-List.map_append,-List.map_take,-List.map_drop,-List.map_set]
  exact congrArg κ (congrArg (Prod.mk []) (if_pos fun a ha=>List.all_eq_true.1 (hM (M.length+1) (Nat.succ_pos _)) a ha))
 rw[if_neg a1]at h
 have b1:=ff a1
 have c1:=ff (fun q=>a1 (Eq.symm q))
 by_cases a2:r.now.Text=wL
 ·rw[if_pos a2]at h
  simp only[xJ]at h
  subst h
  have hq:=fun M κ=>length_w (ρ:=ρ) r.step (by omega) ho (hC _ ok.few) M κ
  have b2:=tt a2
  have c2:=tt a2.symm
  simp -implicitDefEqProofs (maxSteps:=1000000) [go_sem,putOb,lookOb,findK,putK,key9,ob_1,set_1,hw1,hq,b1,c1,b2,c2,-List.map_append,-List.map_take,-List.map_drop,-List.map_set]
  exact congrArg κ (congrArg (Prod.mk []) (if_pos fun a ha=>List.all_eq_true.1 (hM (M.length+1) (Nat.succ_pos _)) a ha))
 rw[if_neg a2]at h
 have b2:=ff a2
 have c2:=ff (fun q=>a2 (Eq.symm q))
 by_cases a3:r.now.Text=wA
 ·rw[if_pos a3]at h
  simp only[xJ]at h
  subst h
  have hq:=fun M κ=>where_w (ρ:=ρ) r.step (by omega) ho (hP _ ok.few) M κ
  have b3:=tt a3
  have c3:=tt a3.symm
  simp -implicitDefEqProofs (maxSteps:=1000000) [go_sem,putOb,lookOb,findK,putK,key9,ob_1,set_1,hw1,hq,b1,c1,b2,c2,b3,c3,-List.map_append,-List.map_take,-List.map_drop,-List.map_set]
  exact congrArg κ (congrArg (Prod.mk []) (if_pos fun a ha=>List.all_eq_true.1 (hM (M.length+1) (Nat.succ_pos _)) a ha))
 rw[if_neg a3]at h
 have b3:=ff a3
 have c3:=ff (fun q=>a3 (Eq.symm q))
 by_cases a4:r.now.Text=wN
 ·rw[if_pos a4]at h
  simp only[xJ]at h
  subst h
  have hq:=fun M κ=>nothing_w (ρ:=ρ) r.step (by omega) ho (hS _ ok.few) M κ
  have b4:=tt a4
  have c4:=tt a4.symm
  simp -implicitDefEqProofs (maxSteps:=1000000) [go_sem,putOb,lookOb,findK,putK,key9,ob_1,set_1,hw1,hq,b1,c1,b2,c2,b3,c3,b4,c4,-List.map_append,-List.map_take,-List.map_drop,-List.map_set]
  exact congrArg κ (congrArg (Prod.mk []) (if_pos fun a ha=>List.all_eq_true.1 (hM (M.length+1) (Nat.succ_pos _)) a ha))
 rw[if_neg a4]at h
 have b4:=ff a4
 have c4:=ff (fun q=>a4 (Eq.symm q))
 have hst:=fun κ=>hst r.s ok.few r.now.Text κ
 by_cases s0:(standsK r.s r.now.Text).1=0
 ·rw[if_pos s0]at h
  simp only[xJ]at h
  subst h
  have s0:=tt s0
  simp -implicitDefEqProofs (maxSteps:=1000000) [go_sem,putOb,lookOb,findK,putK,key9,ob_1,set_1,hw1,b1,c1,b2,c2,b3,c3,b4,c4,hst,hf,s0,-List.map_append,-List.map_take,-List.map_drop,-List.map_set]
  exact congrArg κ (congrArg (Prod.mk []) (if_pos fun a ha=>List.all_eq_true.1 (hM (M.length+1) (Nat.succ_pos _)) a ha))
 rw[if_neg s0]at h
 have s0:=ff s0
 have hi:=fun k t M κ=>is_w (ρ:=ρ) r.step (by omega) k t M κ
 have hw2:=wrap1p ok1
 by_cases s1:(standsK r.s r.now.Text).1=2∧r.step.is 3 [91]=true
 ·rw[if_pos s1]at h
  simp only[xM]at h
  obtain⟨r1,h1,rfl⟩:=h
  have ok2:=ok1.step (now_lt (by rw[(is_kind s1.2).2.1];decide))
  have ok3:=ok2.le (rdk_le (fun q=>by cases q) h1)
  have hc:=hl r.step.step r1 h1 (fun q=>by cases q) ok2 (M++[.map ownM]) (low_own hM)
  have ht:=fun t M κ=>take_w (ρ:=ρ) r1 (by have:=ok3.p;omega) t M κ
  have hq:=fun op n M κ=>put_w (ρ:=ρ) (r1.take [93]) (by rw[take_out];exact ok3.o) op n M κ
  have s2:=tt s1.1
  have s3:=s1.2
  simp -implicitDefEqProofs (maxSteps:=1000000) [go_sem,putOb,lookOb,findK,putK,key9,ob_1,set_1,hw1,b1,c1,b2,c2,b3,c3,b4,c4,hst,s0,s2,s3,hi,hw2,hc,ht,hq,-List.map_append,-List.map_take,-List.map_drop,-List.map_set]
  exact congrArg κ (congrArg (Prod.mk []) (if_pos fun a ha=>List.all_eq_true.1 (hM (M.length+1) (Nat.succ_pos _)) a ha))
 ·rw[if_neg s1]at h
  simp only[xJ]at h
  subst h
  have hq:=fun op n M κ=>put_w (ρ:=ρ) r.step ho op n M κ
  by_cases s2:(standsK r.s r.now.Text).1=2
  ·have s3:r.step.is 3 [91]=false:=by simpa using fun q=>s1 ⟨s2,q⟩
   have s2:=tt s2
   simp -implicitDefEqProofs (maxSteps:=1000000) [go_sem,putOb,lookOb,findK,putK,key9,ob_1,set_1,hw1,b1,c1,b2,c2,b3,c3,b4,c4,hst,s0,s2,s3,hi,hq,-List.map_append,-List.map_take,-List.map_drop,-List.map_set]
   exact congrArg κ (congrArg (Prod.mk []) (if_pos fun a ha=>List.all_eq_true.1 (hM (M.length+1) (Nat.succ_pos _)) a ha))
  ·have s2:=ff s2
   simp -implicitDefEqProofs (maxSteps:=1000000) [go_sem,putOb,lookOb,findK,putK,key9,ob_1,set_1,hw1,b1,c1,b2,c2,b3,c3,b4,c4,hst,s0,s2,hi,hq,-List.map_append,-List.map_take,-List.map_drop,-List.map_set]
   exact congrArg κ (congrArg (Prod.mk []) (if_pos fun a ha=>List.all_eq_true.1 (hM (M.length+1) (Nat.succ_pos _)) a ha))
theorem level_s{n:Nat}(hs:Does n 67 (fun _=>[.ptr 0]) .strong ρ):∀(r r':Rdr),rdK n .strong r=some r'→Ok r→∀(M:List Ob),LowM M→∀κ:KT ρ,cbK (call 35 [.ptr 0,.int .i64 6] (.box (rdT r)::M)) κ=κ ([],.box (rdT r')::M):=by
 intro r r' h ok M hM κ
 refine(ge35 _ _ _ rfl).trans ?_
 have hc:=hs r r' h (fun q=>by cases q) ok (M++[.box (.d (.ptr 0)),.box (.d (.int .i64 6))]) (low_two hM)
 simp -implicitDefEqProofs (maxSteps:=1000000) [go_sem,ob_a,ob_b,hc,-List.map_append,-List.map_take,-List.map_drop,-List.map_set]
 exact congrArg κ (congrArg (Prod.mk []) (if_pos fun a ha=>List.all_eq_true.1 (hM (M.length+1) (Nat.succ_pos _)) a ha))
theorem level_l{n:Nat}(hs:Does n 68 (fun _=>[.ptr 0]) .leaf ρ):∀(r r':Rdr),rdK n .leaf r=some r'→Ok r→∀(M:List Ob),LowM M→∀κ:KT ρ,cbK (call 35 [.ptr 0,.int .i64 7] (.box (rdT r)::M)) κ=κ ([],.box (rdT r')::M):=by
 intro r r' h ok M hM κ
 refine(ge35 _ _ _ rfl).trans ?_
 have hc:=hs r r' h (fun q=>by cases q) ok (M++[.box (.d (.ptr 0)),.box (.d (.int .i64 7))]) (low_two hM)
 simp -implicitDefEqProofs (maxSteps:=1000000) [go_sem,ob_a,ob_b,hc,-List.map_append,-List.map_take,-List.map_drop,-List.map_set]
 exact congrArg κ (congrArg (Prod.mk []) (if_pos fun a ha=>List.all_eq_true.1 (hM (M.length+1) (Nat.succ_pos _)) a ha))
theorem level_r{b:Int}(h6:b≠6)(h7:b≠7)(r r':Rdr)(M:List Ob)(hM:LowM M)
  (hrow:∀κ:KT ρ,cbK (call 69 [.ptr 0,.int .i64 b,.bool (!decide (b=3)),.fn (.func 70) [] [.ptr (M.length+1),.ptr (M.length+1+1)]] (.box (rdT r)::(M++[.box (.d (.ptr 0)),.box (.d (.int .i64 b))]))) κ=κ ([],.box (rdT r')::(M++[.box (.d (.ptr 0)),.box (.d (.int .i64 b))])))
  (κ:KT ρ):cbK (call 35 [.ptr 0,.int .i64 b] (.box (rdT r)::M)) κ=κ ([],.box (rdT r')::M):=by
 refine(ge35 _ _ _ rfl).trans ?_
 have h6:=ff h6
 have h7:=ff h7
 simp -implicitDefEqProofs (maxSteps:=1000000) [go_sem,ob_a,ob_b,hrow,h6,h7,-List.map_append,-List.map_take,-List.map_drop,-List.map_set]
 exact congrArg κ (congrArg (Prod.mk []) (if_pos fun a ha=>List.all_eq_true.1 (hM (M.length+1) (Nat.succ_pos _)) a ha))
theorem next_w{n:Nat}{b:Int}(hb:IntKind.i64.wrap (b+1)=b+1)(hl:Does n 35 (fun _=>[.ptr 0,.int .i64 (b+1)]) (.level (b+1)) ρ){r r':Rdr}(h:rdK n (.level (b+1)) r=some r')(ok:Ok r){M:List Ob}(hM:LowM M)(κ:KT ρ):
  cbK (call 70 [.ptr (M.length+1),.ptr (M.length+1+1)] (.box (rdT r)::(M++[.box (.d (.ptr 0)),.box (.d (.int .i64 b))]))) κ=κ ([],.box (rdT r')::(M++[.box (.d (.ptr 0)),.box (.d (.int .i64 b))])):=by
 refine(ge70 _ _ _ rfl).trans ?_
 have hc:=hl r r' h (fun q=>by cases q) ok (M++[.box (.d (.ptr 0)),.box (.d (.int .i64 b))]) (low_two hM)
 simp -implicitDefEqProofs (maxSteps:=1000000) [go_sem,ob_a,ob_b,hb,hc,-List.map_append,-List.map_take,-List.map_drop,-List.map_set]
abbrev OpW(ρ:Type):Prop:=∀(t:List UInt8) (b:Int) (κ:KT ρ),cbK (call 113 [.str t,.int .i64 b] []) κ=match opK t b with |some o=>κ ([.d (.int .i64 o),.d (.bool true)],[]) |none=>κ ([.d (.int .i64 0),.d (.bool false)],[])
abbrev rowS(b:Int)(p q:Nat)(M:List Ob)(r:Rdr)(l:List (Nat×SV)):St:=⟨(0,SV.d (D.ptr 0))::(1,SV.d (D.int IntKind.i64 b))::(2,SV.d (D.bool !decide (b=3)))::(3,SV.d (D.fn (.func 70) [] [D.ptr p,D.ptr q]))::l,[],.box (rdT r)::M⟩
theorem rest_w{b:Int}{p q:Nat}{M:List Ob}(hop:OpW ρ):∀(n:Nat),(∀m,m<n→∀{r r':Rdr},rdK m (.level (b+1)) r=some r'→Ok r→∀κ:KT ρ,cbK (call 70 [.ptr p,.ptr q] (.box (rdT r)::M)) κ=κ ([],.box (rdT r')::M))→
  ∀(r r':Rdr) (c:Bool),rdK n (.rest b) r=some r'→Ok r→∀κ:KT ρ,goLp P hints hint69 b69 0 (rowS b p q M r (if c=true then [(46,.d (.bool false))]else [])) (kBlk 0 (kLv P false [] (M.length+1) κ))=κ ([],.box (rdT r')::M)
 |0,_,r,r',c,h,_,κ=>by simp[rdK]at h
 |n+1,hnext,r,r',c,h,ok,κ=>by
  refine(goLp_turn q69_0.2).trans ?_
  have hp:=ok.p
  have hn:=fun M κ=>now_w (ρ:=ρ) r (by omega) M κ
  have ho:=fun κ=>hop r.now.Text b κ
  have hw:=wrap1p ok
  rw[rdK]at h
  by_cases h0:r.e=0
  ·rw[if_pos h0]at h
   have h0:=tt h0
   cases hk:opK r.now.Text b with
   |none=>
    rw[hk]at h ho
    simp only[xJ]at h
    subst h
    cases c <;>simp -implicitDefEqProofs (maxSteps:=1000000) [go_sem,hn,ho,h0,-List.map_append,-List.map_take,-List.map_drop,-List.map_set]
   |some o=>
    rw[hk]at h ho
    simp only at h ho
    by_cases h1:r.now.Kind=3
    ·have ok1:=ok.step (now_lt (by rw[h1];decide))
     have hl:=now_lt (r:=r) (by rw[h1];decide)
     rw[if_pos h1]at h
     simp only[xB]at h
     obtain⟨r1,h2,h3⟩:=h
     have hc:=fun κ=>hnext n (Nat.lt_succ_self n) h2 ok1 κ
     have k1:=rdk_le (fun q=>by cases q) h2
     have ok2:=ok1.le k1
     have hq:=fun op n M κ=>put_w (ρ:=ρ) r1 ok2.o op n M κ
     have h1:=tt h1
     by_cases hb:b=3
     ·rw[if_pos hb]at h3
      simp only[xJ]at h3
      subst h3
      have hb:=tt hb
      cases c <;>simp -implicitDefEqProofs (maxSteps:=1000000) [go_sem,hn,ho,h0,h1,hw,hc,hq,hb,-List.map_append,-List.map_take,-List.map_drop,-List.map_set]
     ·rw[if_neg hb]at h3
      have ok3:=ok.le (step_put hl k1 o 0)
      have ih:=rest_w hop n (fun m hm=>hnext m (by omega)) (r1.put o 0) r' true h3 ok3 κ
      have hb2:(!decide (b=3))=true:=by simp[hb]
      have hb:=ff hb
      simp only[rowS,hb2,if_true]at ih
      cases c <;>simp -implicitDefEqProofs (maxSteps:=1000000) [go_sem,hn,ho,h0,h1,hw,hc,hq,hb,ih,-List.map_append,-List.map_take,-List.map_drop,-List.map_set]
    ·rw[if_neg h1]at h
     simp only[xJ]at h
     subst h
     have h1:=ff h1
     cases c <;>simp -implicitDefEqProofs (maxSteps:=1000000) [go_sem,hn,ho,h0,h1,-List.map_append,-List.map_take,-List.map_drop,-List.map_set]
  ·rw[if_neg h0]at h
   simp only[xJ]at h
   subst h
   have h0:=ff h0
   cases c <;>simp -implicitDefEqProofs (maxSteps:=1000000) [go_sem,h0,-List.map_append,-List.map_take,-List.map_drop,-List.map_set]
theorem row_w{b:Int}{p q:Nat}{M:List Ob}(hop:OpW ρ){n:Nat}(hnext:∀m,m≤n→∀{r r':Rdr},rdK m (.level (b+1)) r=some r'→Ok r→∀κ:KT ρ,cbK (call 70 [.ptr p,.ptr q] (.box (rdT r)::M)) κ=κ ([],.box (rdT r')::M))
  {r r1 r':Rdr} (h1:rdK n (.level (b+1)) r=some r1) (h2:rdK n (.rest b) r1=some r') (ok:Ok r) (κ:KT ρ):cbK (call 69 [.ptr 0,.int .i64 b,.bool (!decide (b=3)),.fn (.func 70) [] [.ptr p,.ptr q]] (.box (rdT r)::M)) κ=κ ([],.box (rdT r')::M):=by
 refine(ge69 _ _ _ rfl).trans ?_
 have hc:=fun κ=>hnext n (Nat.le_refl n) h1 ok κ
 have hr:=rest_w hop n (fun m hm=>hnext m (by omega)) r1 r' false h2 (ok.le (rdk_le (fun q=>by cases q) h1)) κ
 simp only[rowS,xH,if_false]at hr
 simp -implicitDefEqProofs (maxSteps:=1000000) [go_sem,hc,hr,-List.map_append,-List.map_take,-List.map_drop,-List.map_set]
theorem all_w(hC:∀s:GScope,Few s→LK 41 s (fun nm=>fidx (pC nm) s.Chans) ρ)(hP:∀s:GScope,Few s→LK 42 s (fun nm=>fidx (pP nm) s.Procs) ρ)(hS:∀s:GScope,Few s→LK 43 s (fun nm=>fidx (pS nm) s.Scalars) ρ)
  (hst:∀(s:GScope),Few s→∀(nm:List UInt8) (κ:KT ρ),cbK (call 40 [.str nm,.agg [.sl false (List.map eScalar s.Scalars),.sl false (List.map eVar s.Vars),.sl false (List.map eChan s.Chans),.sl false (List.map (eProc false) s.Procs),.sl false (List.map eVar s.Locals),.int .i64 s.Self]] []) κ=κ ([.d (.int .i64 (standsK s nm).1),.d (.int .i64 (standsK s nm).2)],[]))
  (hop:OpW ρ):∀(N n:Nat),n≤N→Does n 67 (fun _=>[.ptr 0]) .strong ρ∧Does n 68 (fun _=>[.ptr 0]) .leaf ρ∧Does n 112 (fun r=>[.ptr 0,.str r.now.Text]) .word ρ∧∀b:Int,1≤b→b≤7→Does n 35 (fun _=>[.ptr 0,.int .i64 b]) (.level b) ρ:=by
 have zero:∀f ds md,Does 0 f ds md ρ:=fun f ds md r r' h=>by simp[rdK]at h
 intro N
 induction N with
 |zero=>
  intro n hn
  obtain rfl:n=0:=by omega
  exact⟨zero _ _ _,zero _ _ _,zero _ _ _,fun b _ _=>zero _ _ _⟩
 |succ N ih=>
  intro n hn
  cases n with
  |zero=>exact⟨zero _ _ _,zero _ _ _,zero _ _ _,fun b _ _=>zero _ _ _⟩
  |succ n=>
   obtain⟨i1,i2,i3,i4⟩:=ih n (by omega)
   have w:=whole_w (i4 1 (by omega) (by omega))
   refine⟨strong_w i1 i2,leaf_w w i3,word_w w hC hP hS hst,fun b b1 b7=> ?_⟩
   intro r r' h _ ok M hM κ
   rw[rdK]at h
   by_cases h6:b=6
   ·subst h6
    rw[if_pos rfl]at h
    exact level_s i1 r r' h ok M hM κ
   rw[if_neg h6]at h
   by_cases h7:b=7
   ·subst h7
    rw[if_pos rfl]at h
    exact level_l i2 r r' h ok M hM κ
   rw[if_neg h7]at h
   simp only[xB]at h
   obtain⟨r1,e1,e2⟩:=h
   exact level_r h6 h7 r r' M hM (fun κ=>row_w hop (fun m hm r r' e ok κ=>next_w (wrap_i64 (by omega) (by omega)) ((ih m (by omega)).2.2.2 (b+1) (by omega) (by omega)) e ok hM κ) e1 e2 ok κ) κ
end
end
end Go.Etx
namespace Go.Etx
open Go Go.Am Go.Proofs
abbrev tS(x:List UInt8):Glex_Token:=⟨3,0,0,x⟩
abbrev tW(x:List UInt8):Glex_Token:=⟨1,0,0,x⟩
abbrev tN(n:Int):Glex_Token:=⟨2,n,0,Tr7.decI n⟩
def tkB(l:List Glex_Token)(b:Bool):List Glex_Token:=if b=true then tS [40]::(l++[tS [41]])else l
def leafTk(x:GNode)(nm:List UInt8):List Glex_Token:=
 if x.Op=1 then(if x.N<0 then [tS [45],tN (-x.N)]else [tN x.N])else if x.Op=2 then [tW nm]else if x.Op=4 then [tW nm]else if x.Op=5 then [tW wS]
 else if x.Op=6 then [tW wL,tS [40],tW nm,tS [41]]else if x.Op=7 then [tW wA,tS [40],tW nm,tS [44],tN (Int.tmod x.N 16),tS [41]]
 else if x.Op=8 then [tW wN,tS [40],tW nm,tS [41]]else []
def tkOf(s:GScope):Ex→List Glex_Token
 | .leaf x=>leafTk x (nameN s x)
 | .un x a=>if x.Op=3 then tW (nameN s x)::tS [91]::(tkOf s a++[tS [93]])
  else if x.Op=9 then tS [33]::tkB (tkOf s a) (decide (strK a.top<6))
  else tS [45]::tkB (tkOf s a) (decide (strK a.top<6) || decide (a.top.Op=1))
 | .bin x a b=>tkB (tkOf s a) (joinL x.Op (strK a.top))++tS (sgnT x.Op)::tkB (tkOf s b) (joinR x.Op (strK b.top))
inductive Sc:List UInt8→List Glex_Token→List UInt8→Prop where
 |nil (u:List UInt8):Sc u [] u
 |cons {u v:List UInt8} {t:Glex_Token} {ts:List Glex_Token} (h:oneK (u.drop (gap false u))=(0,t)) (h':Sc ((u.drop (gap false u)).drop t.Text.length) ts v):Sc u (t::ts) v
theorem Sc.app{u v w:List UInt8}{a b:List Glex_Token}(h:Sc u a v)(k:Sc v b w):Sc u (a++b) w:=by
 induction h with
 |nil u=>exact k
 |cons h _ ih=>exact .cons h (ih k)
def Fst(u:List UInt8):Prop:=∃c l,u=c::l∧c≠32∧c≠10∧c≠35∧c≠61∧c≠62
theorem Fst.app{u v:List UInt8}(h:Fst u):Fst (u++v):=by
 obtain⟨c,l,rfl,h⟩:=h
 exact⟨c,l++v,rfl,h⟩
theorem Fst.gap{u:List UInt8}(h:Fst u):gap false u=0:=by
 obtain⟨c,l,rfl,h1,h2,h3,_⟩:=h
 simp[Go.Etx.gap,h1,h2,h3]
theorem sc_one{u v:List UInt8}{t:Glex_Token}{ts:List Glex_Token}(hf:Fst u)(h:oneK u=(0,t))(h':Sc (u.drop t.Text.length) ts v):Sc u (t::ts) v:=by
 refine .cons ?_ ?_ <;>rw[hf.gap,List.drop_zero]
 ·exact h
 ·exact h'
theorem sc_sp{u v:List UInt8}{ts:List Glex_Token}(hn:ts≠[])(h:Sc u ts v):Sc (32::u) ts v:=by
 cases h with
 |nil=>exact absurd rfl hn
 |cons h h'=>
  have e:(32::u).drop (gap false (32::u))=u.drop (gap false u):=by
   have:gap false (32::u)=gap false u+1:=by simp[gap];omega
   rw[this,List.drop_succ_cons]
  exact .cons (by rw[e];exact h) (by rw[e];exact h')
theorem twl_app{q:UInt8→Bool}{l r:List UInt8}(h:∀b∈l,q b=true)(hr:∀c,r.head? =some c→q c=false):twl q (l++r)=l.length:=by
 unfold twl
 rw[(tw h hr).1]
theorem one_sign{c:UInt8}{r:List UInt8}(hc:pt c=false){x:List UInt8}(h:sgL.find? (fun x=>x.isPrefixOf (c::r))=some x):oneK (c::r)=(0,tS x):=by
 have h1:twl pt (c::r)=0:=by rw[twl_cons,hc];rfl
 have hd:dg c=false:=by
  cases q:dg c with
  |false=>rfl
  |true=>simp only[pt,partB,show digB (bI c)=true from q,Bool.or_true,Bool.true_or]at hc;cases hc
 have h2:twl dg (c::r)=0:=by rw[twl_cons,hd];rfl
 unfold oneK
 rw[if_neg (fun q=>by rw[h1]at q;exact absurd q.1 (by decide)),if_neg (by rw[h2];decide),h]
theorem one_word{nm r:List UInt8}(hl:∃c l,nm=c::l∧letB (bI c)=true)(hp:∀b∈nm,pt b=true)(h16:nm.length≤16)(hr:∀c,r.head? =some c→pt c=false):oneK (nm++r)=(0,tW nm):=by
 have h1:=twl_app hp hr
 obtain⟨c,l,e,hc⟩:=hl
 have hh:(nm++r).headD 0=c:=by rw[e];rfl
 have hpos:0<nm.length:=by rw[e];simp
 unfold oneK
 rw[h1,hh,if_pos ⟨hpos,hc⟩,if_neg (by omega),List.take_left]
theorem one_num{n:Int}(h0:0≤n)(hn:n≤1048576){r:List UInt8}(hr:∀c,r.head? =some c→dg c=false):oneK (Tr7.decI n++r)=(0,tN n):=by
 have hin:Tr7.inR n=true:=by simp only[Tr7.inR,xA,yD];omega
 rcases decI_cases hin with⟨_,h1,h2,h3⟩ |⟨q,_⟩
 ·have hd:=twl_app h1 hr
  obtain⟨c,l,e⟩:∃c l,Tr7.decI n=c::l:=by cases q:Tr7.decI n with |nil=>exact absurd q h2 |cons c l=>exact⟨c,l,rfl⟩
  have hc:dg c=true:=h1 c (by rw[e];simp)
  have hh:(Tr7.decI n++r).headD 0=c:=by rw[e];rfl
  have hl:letB (bI c)=false:=by
   have hc':48≤bI c∧bI c≤57:=of_decide_eq_true hc
   simp only[letB,Bool.or_eq_false_iff,decide_eq_false_iff_not]
   omega
  have hpos:0<(Tr7.decI n).length:=by rw[e];simp
  have hnum:Tr7.numF (Tr7.decI n)=(n,true):=by
   rw[Nm.numF_dec hin,if_pos (show Tr7.inB n=true from decide_eq_true (by omega))]
  unfold oneK
  rw[hh,if_neg (fun q=>by rw[hl]at q;cases q.2),hd,if_pos hpos,List.take_left,hnum,if_pos rfl]
 ·omega
structure Sm(x:GNode):Prop where
 n1:x.Op=1→-1048576≤x.N∧x.N≤1048576
 n7:x.Op=7→0≤x.N
theorem find_sign{o:Int}(h:11≤o∧o≤19)(r:List UInt8):sgL.find? (fun x=>x.isPrefixOf (sgnT o++32::r))=some (sgnT o)∧(∃c l,sgnT o=c::l∧pt c=false)∧Fst (sgnT o++32::r)∨o=14:=by
 have:o=11∨o=12∨o=13∨o=14∨o=15∨o=16∨o=17∨o=18∨o=19:=by omega
 rcases this with rfl |rfl |rfl |rfl |rfl |rfl |rfl |rfl |rfl
 ·exact .inl ⟨rfl,⟨_,_,rfl,by decide⟩,⟨_,_,rfl,by decide⟩⟩
 ·exact .inl ⟨rfl,⟨_,_,rfl,by decide⟩,⟨_,_,rfl,by decide⟩⟩
 ·exact .inl ⟨rfl,⟨_,_,rfl,by decide⟩,⟨_,_,rfl,by decide⟩⟩
 ·exact .inr rfl
 ·exact .inl ⟨rfl,⟨_,_,rfl,by decide⟩,⟨_,_,rfl,by decide⟩⟩
 ·exact .inl ⟨rfl,⟨_,_,rfl,by decide⟩,⟨_,_,rfl,by decide⟩⟩
 ·exact .inl ⟨rfl,⟨_,_,rfl,by decide⟩,⟨_,_,rfl,by decide⟩⟩
 ·exact .inl ⟨rfl,⟨_,_,rfl,by decide⟩,⟨_,_,rfl,by decide⟩⟩
 ·exact .inl ⟨rfl,⟨_,_,rfl,by decide⟩,⟨_,_,rfl,by decide⟩⟩
theorem sc_op{o:Int}(h:11≤o∧o≤19){r v:List UInt8}{ts:List Glex_Token}(hn:ts≠[])(k:Sc r ts v):Sc (32::(sgnT o++32::r)) (tS (sgnT o)::ts) v:=by
 have hg:gap false (sgnT o++32::r)=0:=by
  rcases find_sign h r with⟨_,_,hf⟩ |rfl
  ·exact hf.gap
  ·rfl
 have h1:oneK (sgnT o++32::r)=(0,tS (sgnT o)):=by
  rcases find_sign h r with⟨hf,⟨c,l,e,hc⟩,_⟩ |rfl
  ·rw[e,List.cons_append]at hf ⊢
   exact one_sign hc hf
  ·exact one_sign (c:=61) (by decide) rfl
 refine sc_sp (by simp) (.cons (by rw[hg,List.drop_zero];exact h1) ?_)
 rw[hg,List.drop_zero]
 show Sc ((sgnT o++32::r).drop (sgnT o).length) _ _
 rw[List.drop_left]
 exact sc_sp hn k
theorem sc_sg{c:UInt8}(hc:c=40∨c=41∨c=91∨c=93∨c=44){r v:List UInt8}{ts:List Glex_Token}(k:Sc r ts v):Sc (c::r) (tS [c]::ts) v:=by
 have h1:oneK (c::r)=(0,tS [c]):=by rcases hc with rfl |rfl |rfl |rfl |rfl <;>exact one_sign (by decide) rfl
 have hf:Fst (c::r):=⟨c,r,rfl,by rcases hc with rfl |rfl |rfl |rfl |rfl <;>decide⟩
 exact sc_one hf h1 k
theorem sc_pre{c:UInt8}(hc:c=33∨c=45){r v:List UInt8}(hr:Fst r){ts:List Glex_Token}(k:Sc r ts v):Sc (c::r) (tS [c]::ts) v:=by
 obtain⟨d,l,rfl,_,_,_,h61,h62⟩:=hr
 have h1:oneK (c::d::l)=(0,tS [c]):=by
  rcases hc with rfl |rfl
  ·refine one_sign (by decide) ?_
   have hb:(61==d)=false:=beq_eq_false_iff_ne.2 (Ne.symm h61)
   simp[sgL,List.find?,List.isPrefixOf,hb]
  ·refine one_sign (by decide) ?_
   have hb:(62==d)=false:=beq_eq_false_iff_ne.2 (Ne.symm h62)
   simp[sgL,List.find?,List.isPrefixOf,hb]
 have hf:Fst (c::d::l):=⟨c,d::l,rfl,by rcases hc with rfl |rfl <;>decide⟩
 exact sc_one hf h1 k
theorem fst_let{c:UInt8}(h:letB (bI c)=true):c≠32∧c≠10∧c≠35∧c≠61∧c≠62:=by
 refine⟨?_,?_,?_,?_,?_⟩ <;>(rintro rfl;revert h;decide)
theorem fst_dig{c:UInt8}(h:dg c=true):c≠32∧c≠10∧c≠35∧c≠61∧c≠62:=by
 refine⟨?_,?_,?_,?_,?_⟩ <;>(rintro rfl;revert h;decide)
theorem sc_word{nm r v:List UInt8}{ts:List Glex_Token}(hn:lexN nm=true)(hr:∀c,r.head? =some c→pt c=false)(k:Sc r ts v):Sc (nm++r) (tW nm::ts) v:=by
 obtain⟨⟨c,l,e,hc⟩,hp,_⟩:=lexN_parts hn
 refine sc_one ⟨c,l++r,by rw[e];rfl,fst_let hc⟩ (one_word ⟨c,l,e,hc⟩ hp (lexN_len hn) hr) ?_
 show Sc ((nm++r).drop nm.length) _ _
 rw[List.drop_left];exact k
theorem sc_own{nm r v:List UInt8}{ts:List Glex_Token}(hn:nm=wS∨nm=wL∨nm=wA∨nm=wN)(hr:∀c,r.head? =some c→pt c=false)(k:Sc r ts v):Sc (nm++r) (tW nm::ts) v:=by
 have h:(∃c l,nm=c::l∧letB (bI c)=true)∧(∀b∈nm,pt b=true)∧nm.length≤16:=by
  rcases hn with rfl |rfl |rfl |rfl
  ·exact⟨⟨115,_,rfl,by decide⟩,by decide,by decide⟩
  ·exact⟨⟨108,_,rfl,by decide⟩,by decide,by decide⟩
  ·exact⟨⟨97,_,rfl,by decide⟩,by decide,by decide⟩
  ·exact⟨⟨110,_,rfl,by decide⟩,by decide,by decide⟩
 obtain⟨⟨c,l,e,hc⟩,hp,h16⟩:=h
 refine sc_one ⟨c,l++r,by rw[e];rfl,fst_let hc⟩ (one_word ⟨c,l,e,hc⟩ hp h16 hr) ?_
 show Sc ((nm++r).drop nm.length) _ _
 rw[List.drop_left];exact k
theorem decI_first{n:Int}(h:Tr7.inR n=true):Fst (Tr7.decI n):=by
 rcases decI_cases h with⟨_,h1,h2,_⟩ |⟨_,l,e,_⟩
 ·cases q:Tr7.decI n with
  |nil=>exact absurd q h2
  |cons c l=>exact⟨c,l,rfl,fst_dig (h1 c (by rw[q];simp))⟩
 ·exact⟨45,l,e,by decide⟩
theorem sc_num{n:Int}(h0:0≤n)(hn:n≤1048576){r v:List UInt8}{ts:List Glex_Token}(hr:∀c,r.head? =some c→dg c=false)(k:Sc r ts v):Sc (Tr7.decI n++r) (tN n::ts) v:=by
 have hin:Tr7.inR n=true:=by simp only[Tr7.inR,xA,yD];omega
 refine sc_one (decI_first hin).app (one_num h0 hn hr) ?_
 show Sc ((Tr7.decI n++r).drop (Tr7.decI n).length) _ _
 rw[List.drop_left];exact k
theorem decI_neg{n:Int}(h:n<0):Tr7.decI n=45::Tr7.decI (-n):=by
 unfold Tr7.decI
 rw[if_pos h,if_neg (by omega),show(-n).toNat=n.natAbs by omega]
theorem hd_pt{c:UInt8}{r:List UInt8}(h:pt c=false):∀d,(c::r).head? =some d→pt d=false:=fun d q=>by simp at q;subst q;exact h
theorem hd_dg{c:UInt8}{r:List UInt8}(h:dg c=false):∀d,(c::r).head? =some d→dg d=false:=fun d q=>by simp at q;subst q;exact h
theorem op_leaf{x:GNode}(h:takesK x.Op=0):x.Op=1∨x.Op=2∨x.Op=4∨x.Op=5∨x.Op=6∨x.Op=7∨x.Op=8:=by
 rcases takes_cases x.Op with⟨q,_⟩ |⟨q,h⟩ |⟨q,_⟩ |⟨q,_⟩ <;>omega
theorem op_un{x:GNode}(h:takesK x.Op=1):x.Op=3∨x.Op=9∨x.Op=10:=by
 rcases takes_cases x.Op with⟨q,_⟩ |⟨q,_⟩ |⟨q,h⟩ |⟨q,_⟩ <;>omega
theorem op_bin{x:GNode}(h:takesK x.Op=2):11≤x.Op∧x.Op≤19:=by
 rcases takes_cases x.Op with⟨q,_⟩ |⟨q,_⟩ |⟨q,_⟩ |⟨q,h⟩ <;>omega
theorem first_all{s:GScope}:∀(t:Ex),t.wf→(∀x∈t.flat,Fine s x)→Fst (partOf s t).text
 | .leaf x,hw,hf=>by
  have hx:=hf x (by simp[Ex.flat])
  have nm:tellsB x.Op=true→Fst (nameN s x):=fun h=>by
   obtain⟨⟨c,l,e,hc⟩,_,_⟩:=lexN_parts (hx.n h)
   exact⟨c,l,e,fst_let hc⟩
  show Fst (leafT x (nameN s x))
  unfold leafT
  rcases op_leaf hw with h |h |h |h |h |h |h
  ·rw[if_pos h];exact decI_first hx.r
  ·rw[if_neg (by omega),if_pos h];exact nm (by rw[h];rfl)
  ·rw[if_neg (by omega),if_neg (by omega),if_pos h];exact nm (by rw[h];rfl)
  ·rw[if_neg (by omega),if_neg (by omega),if_neg (by omega),if_pos h];exact⟨_,_,rfl,by decide⟩
  ·rw[if_neg (by omega),if_neg (by omega),if_neg (by omega),if_neg (by omega),if_pos h];exact⟨_,_,rfl,by decide⟩
  ·rw[if_neg (by omega),if_neg (by omega),if_neg (by omega),if_neg (by omega),if_neg (by omega),if_pos h];exact⟨_,_,rfl,by decide⟩
  ·rw[if_neg (by omega),if_neg (by omega),if_neg (by omega),if_neg (by omega),if_neg (by omega),if_neg (by omega),if_pos h];exact⟨_,_,rfl,by decide⟩
 | .un x a,hw,hf=>by
  have hx:=hf x (by simp[Ex.flat])
  simp only[partOf]
  split
  ·rename_i h
   obtain⟨⟨c,l,e,hc⟩,_,_⟩:=lexN_parts (hx.n (by rw[h];rfl))
   exact⟨c,_,by rw[e];rfl,fst_let hc⟩
  split
  ·exact⟨33,_,rfl,by decide⟩
  ·exact⟨45,_,rfl,by decide⟩
 | .bin x a b,hw,hf=>by
  have ih:=first_all a hw.2.1 (fun y hy=>hf y (by simp[Ex.flat,hy]))
  show Fst (joinT x.Op (partOf s a) (partOf s b))
  unfold joinT inB
  split
  ·exact⟨40,_,rfl,by decide⟩
  ·exact ih.app
theorem tk_ne{s:GScope}{t:Ex}(hw:t.wf):tkOf s t≠[]:=by
 cases t with
 |leaf x=>
  show leafTk x (nameN s x)≠[]
  unfold leafTk
  rcases op_leaf hw with h |h |h |h |h |h |h <;>simp[h]
  split <;>simp
 |un x a=>simp only[tkOf];split;simp;split <;>simp
 |bin x a b=>simp[tkOf]
theorem tkB_ne{l:List Glex_Token}{b:Bool}(h:l≠[]):tkB l b≠[]:=by unfold tkB;split;simp;exact h
theorem sc_in{ta:List UInt8}{tk:List Glex_Token}(ih:∀r ts v,tok r→Sc r ts v→Sc (ta++r) (tk++ts) v){b:Bool}{r v:List UInt8}{ts:List Glex_Token}(hr:tok r)(k:Sc r ts v):Sc (inB ta b++r) (tkB tk b++ts) v:=by
 unfold inB tkB
 cases b with
 |false=>exact ih r ts v hr k
 |true=>
  have e:(40::(ta++[41]))++r=40::(ta++41::r):=by simp
  have e2:(tS [40]::(tk++[tS [41]]))++ts=tS [40]::(tk++tS [41]::ts):=by simp
  rw[if_pos rfl,if_pos rfl,e,e2]
  exact sc_sg (.inl rfl) (ih _ _ _ (fun c h=>by simp at h;subst h;exact .inr (.inl rfl)) (sc_sg (.inr (.inl rfl)) k))
theorem sc_text{s:GScope}:∀(t:Ex),t.wf→(∀x∈t.flat,Fine s x∧Sm x)→∀(r:List UInt8) (ts:List Glex_Token) (v:List UInt8),tok r→Sc r ts v→Sc ((partOf s t).text++r) (tkOf s t++ts) v
 | .leaf x,hw,hf,r,ts,v,hr,k=>by
  obtain⟨hx,sm⟩:=hf x (by simp[Ex.flat])
  have p41:∀u:List UInt8,∀c,(41::u).head? =some c→pt c=false:=fun u=>hd_pt (by decide)
  show Sc (leafT x (nameN s x)++r) (leafTk x (nameN s x)++ts) v
  unfold leafT leafTk
  rcases op_leaf hw with h |h |h |h |h |h |h
  ·rw[if_pos h,if_pos h]
   have hn:=sm.n1 h
   by_cases h0:x.N<0
   ·rw[if_pos h0,decI_neg h0]
    refine sc_pre (.inr rfl) (decI_first ?_).app (sc_num (by omega) (by omega) (tok_dg hr) k)
    simp only[Tr7.inR,xA,yD];omega
   ·rw[if_neg h0]
    exact sc_num (by omega) hn.2 (tok_dg hr) k
  ·rw[if_neg (by omega),if_pos h,if_neg (by omega),if_pos h]
   exact sc_word (hx.n (by rw[h];rfl)) (tok_pt hr) k
  ·rw[if_neg (by omega),if_neg (by omega),if_pos h,if_neg (by omega),if_neg (by omega),if_pos h]
   exact sc_word (hx.n (by rw[h];rfl)) (tok_pt hr) k
  ·rw[if_neg (by omega),if_neg (by omega),if_neg (by omega),if_pos h,if_neg (by omega),if_neg (by omega),if_neg (by omega),if_pos h]
   exact sc_own (.inl rfl) (tok_pt hr) k
  ·rw[if_neg (by omega),if_neg (by omega),if_neg (by omega),if_neg (by omega),if_pos h,if_neg (by omega),if_neg (by omega),if_neg (by omega),if_neg (by omega),if_pos h]
   have e:(108::101::110::40::(nameN s x++[41]))++r=wL++40::(nameN s x++41::r):=by simp[wL]
   rw[e]
   exact sc_own (.inr (.inl rfl)) (hd_pt (by decide)) (sc_sg (.inl rfl) (sc_word (hx.n (by rw[h];rfl)) (p41 r) (sc_sg (.inr (.inl rfl)) k)))
  ·rw[if_neg (by omega),if_neg (by omega),if_neg (by omega),if_neg (by omega),if_neg (by omega),if_pos h,if_neg (by omega),if_neg (by omega),if_neg (by omega),if_neg (by omega),if_neg (by omega),if_pos h]
   have h0:=sm.n7 h
   have hm:0≤Int.tmod x.N 16∧Int.tmod x.N 16≤1048576:=by rw[Int.tmod_eq_emod_of_nonneg h0];omega
   have e:(97::116::40::(nameN s x++44::32::(Tr7.decI (Int.tmod x.N 16)++[41])))++r=wA++40::(nameN s x++44::32::(Tr7.decI (Int.tmod x.N 16)++41::r)):=by simp[wA]
   rw[e]
   exact sc_own (.inr (.inr (.inl rfl))) (hd_pt (by decide)) (sc_sg (.inl rfl) (sc_word (hx.n (by rw[h];rfl)) (hd_pt (by decide)) (sc_sg (.inr (.inr (.inr (.inr rfl)))) (sc_sp (by simp) (sc_num hm.1 hm.2 (hd_dg (by decide)) (sc_sg (.inr (.inl rfl)) k))))))
  ·rw[if_neg (by omega),if_neg (by omega),if_neg (by omega),if_neg (by omega),if_neg (by omega),if_neg (by omega),if_pos h,if_neg (by omega),if_neg (by omega),if_neg (by omega),if_neg (by omega),if_neg (by omega),if_neg (by omega),if_pos h]
   have e:(110::111::110::101::40::(nameN s x++[41]))++r=wN++40::(nameN s x++41::r):=by simp[wN]
   rw[e]
   exact sc_own (.inr (.inr (.inr rfl))) (hd_pt (by decide)) (sc_sg (.inl rfl) (sc_word (hx.n (by rw[h];rfl)) (p41 r) (sc_sg (.inr (.inl rfl)) k)))
 | .un x a,hw,hf,r,ts,v,hr,k=>by
  have ih:=sc_text a hw.2 (fun y hy=>hf y (by simp[Ex.flat,hy]))
  have hfa:=first_all a hw.2 (fun y hy=>(hf y (by simp[Ex.flat,hy])).1)
  have fin:∀b:Bool,Fst (inB (partOf s a).text b++r):=fun b=>by
   unfold inB
   split
   ·exact⟨40,_,rfl,by decide⟩
   ·exact hfa.app
  obtain⟨hx,sm⟩:=hf x (by simp[Ex.flat])
  rcases op_un hw.1 with h |h |h
  ·have e:(partOf s (.un x a)).text++r=nameN s x++91::((partOf s a).text++93::r):=by simp[partOf,h]
   have e2:tkOf s (.un x a)++ts=tW (nameN s x)::tS [91]::(tkOf s a++tS [93]::ts):=by simp[tkOf,h]
   rw[e,e2]
   exact sc_word (hx.n (by rw[h];rfl)) (hd_pt (by decide)) (sc_sg (.inr (.inr (.inl rfl))) (ih _ _ _ (fun c h=>by simp at h;subst h;exact .inr (.inr rfl)) (sc_sg (.inr (.inr (.inr (.inl rfl)))) k)))
  ·have e:(partOf s (.un x a)).text++r=33::(inB (partOf s a).text (decide (strK a.top<6))++r):=by simp[partOf,h,part_binds hw.2]
   have e2:tkOf s (.un x a)++ts=tS [33]::(tkB (tkOf s a) (decide (strK a.top<6))++ts):=by simp[tkOf,h]
   rw[e,e2]
   exact sc_pre (.inl rfl) (fin _) (sc_in ih hr k)
  ·have e:(partOf s (.un x a)).text++r=45::(inB (partOf s a).text (decide (strK a.top<6) || decide (a.top.Op=1))++r):=by simp[partOf,h,part_binds hw.2,part_op hw.2]
   have e2:tkOf s (.un x a)++ts=tS [45]::(tkB (tkOf s a) (decide (strK a.top<6) || decide (a.top.Op=1))++ts):=by simp[tkOf,h]
   rw[e,e2]
   exact sc_pre (.inr rfl) (fin _) (sc_in ih hr k)
 | .bin x a b,hw,hf,r,ts,v,hr,k=>by
  have iha:=sc_text a hw.2.1 (fun y hy=>hf y (by simp[Ex.flat,hy]))
  have ihb:=sc_text b hw.2.2 (fun y hy=>hf y (by simp[Ex.flat,hy]))
  have e:(partOf s (.bin x a b)).text++r=inB (partOf s a).text (joinL x.Op (strK a.top))++32::(sgnT x.Op++32::(inB (partOf s b).text (joinR x.Op (strK b.top))++r)):=by
   simp[partOf,joinT,part_binds hw.2.1,part_binds hw.2.2]
  have e2:tkOf s (.bin x a b)++ts=tkB (tkOf s a) (joinL x.Op (strK a.top))++(tS (sgnT x.Op)::(tkB (tkOf s b) (joinR x.Op (strK b.top))++ts)):=by simp[tkOf]
  rw[e,e2]
  exact sc_in iha tok_sp (sc_op (op_bin hw.1) (by simp[tkB_ne (tk_ne hw.2.2)]) (sc_in ihb hr k))
def strip(t:Glex_Token):Glex_Token:=⟨t.Kind,t.N,0,t.Text⟩
theorem one_at{u:List UInt8}{t:Glex_Token}(h:oneK u=(0,t)):t.At=0:=by
 unfold oneK at h
 repeat' split at h
 all_goals simp only[pJ]at h
 all_goals first |(obtain⟨_,rfl⟩:=h;rfl) |(exact absurd h.1 (by decide))
theorem sc_scan{s u v:List UInt8}{ts:List Glex_Token}(h:Sc u ts v):v=[]→∀(n p:Nat) (out:List Glex_Token),u=s.drop p→p≤s.length→s.length<p+n→out.length+ts.length≤6000→∃toks,scanL n s (p+gap false u) out=(out++toks,0,0)∧toks.map strip=ts:=by
 induction h with
 |nil u=>
  rintro rfl n p out e hp hn _
  have hl:s.length≤p:=by
   have:=congrArg List.length e
   simp only[yN,List.length_drop]at this
   omega
  cases n with
  |zero=>omega
  |succ n=>
   refine⟨[],?_,rfl⟩
   rw[show gap false []=0 from rfl,Nat.add_zero,scanL,if_neg (by omega),List.append_nil]
 | @cons u v t ts h h' ih=>
  intro hv n p out e hp hn hl
  have h1:(oneK (u.drop (gap false u))).1=0:=by rw[h]
  obtain⟨a1,a2,_⟩:=one_ok h1
  rw[h]at a1 a2
  simp only at a1 a2
  have hd:u.drop (gap false u)=s.drop (p+gap false u):=by rw[e,List.drop_drop]
  rw[hd]at h a2 h'
  rw[List.length_drop]at a2
  simp only[xZ]at hl
  cases n with
  |zero=>omega
  |succ n=>
   obtain⟨toks,t1,t2⟩:=ih hv n (p+gap false u+t.Text.length) (out++[⟨t.Kind,t.N,((p+gap false u:Nat):Int),t.Text⟩]) (by rw[hd,List.drop_drop]) (by omega) (by omega) (by rw[xP,List.length_singleton];omega)
   refine⟨⟨t.Kind,t.N,((p+gap false u:Nat):Int),t.Text⟩::toks,?_,?_⟩
   ·rw[scanL,if_pos (by omega),if_neg (by omega),h]
    simp only[if_true]
    rw[hd,List.drop_drop]at t1
    rw[t1,xK];rfl
   ·rw[List.map_cons,t2]
    have:=one_at h
    cases t
    simp only at this
    subst this
    rfl
theorem sc_all{s:List UInt8}{ts:List Glex_Token}(h:Sc s ts [])(h1:s.length≤20000)(h2:ts.length≤6000):∃toks,scanK s=(toks,0,0)∧toks.map strip=ts:=by
 obtain⟨toks,t1,t2⟩:=sc_scan (s:=s) h rfl (s.length+1) 0 [] rfl (Nat.zero_le _) (by omega) (by simpa using h2)
 refine⟨toks,?_,t2⟩
 unfold scanK
 rw[if_neg (by omega)]
 rw[Nat.zero_add]at t1
 exact t1
theorem in_len(l:List UInt8)(b:Bool):(inB l b).length≤l.length+2:=by unfold inB;split <;>simp
theorem tkB_len(l:List Glex_Token)(b:Bool):(tkB l b).length≤l.length+2:=by unfold tkB;split <;>simp
theorem text_len{s:GScope}:∀(t:Ex),t.wf→(∀x∈t.flat,Fine s x)→(partOf s t).text.length≤50 * t.flat.length∧(tkOf s t).length≤10 * t.flat.length
 | .leaf x,hw,hf=>by
  have hx:=hf x (by simp[Ex.flat])
  have nm:tellsB x.Op=true→(nameN s x).length≤16:=fun h=>lexN_len (hx.n h)
  have d1:=decI_len x.N
  have d2:=decI_len (Int.tmod x.N 16)
  show(leafT x (nameN s x)).length≤50 * 1∧(leafTk x (nameN s x)).length≤10 * 1
  unfold leafT leafTk
  rcases op_leaf hw with h |h |h |h |h |h |h
  ·simp only[h,if_true]
   exact⟨by omega,by split <;>simp⟩
  ·have:=nm (by rw[h];rfl);simp[h];omega
  ·have:=nm (by rw[h];rfl);simp[h];omega
  ·simp[h]
  ·have:=nm (by rw[h];rfl);simp[h];omega
  ·have:=nm (by rw[h];rfl);simp[h];omega
  ·have:=nm (by rw[h];rfl);simp[h];omega
 | .un x a,hw,hf=>by
  obtain⟨i1,i2⟩:=text_len a hw.2 (fun y hy=>hf y (by simp[Ex.flat,hy]))
  have hx:=hf x (by simp[Ex.flat])
  simp only[Ex.flat,xP,List.length_singleton]
  rcases op_un hw.1 with h |h |h
  ·have:=lexN_len (hx.n (by rw[h];rfl))
   simp[partOf,tkOf,h];omega
  ·have l1:=in_len (partOf s a).text (decide ((partOf s a).binds<6))
   have l2:=tkB_len (tkOf s a) (decide (strK a.top<6))
   simp only[partOf,tkOf,h,show¬((9:Int)=3)by decide,if_false,if_true,xZ];omega
  ·have l1:=in_len (partOf s a).text (decide ((partOf s a).binds<6) || decide ((partOf s a).op=1))
   have l2:=tkB_len (tkOf s a) (decide (strK a.top<6) || decide (a.top.Op=1))
   simp only[partOf,tkOf,h,show¬((10:Int)=3)by decide,show¬((10:Int)=9)by decide,if_false,xZ];omega
 | .bin x a b,hw,hf=>by
  obtain⟨i1,i2⟩:=text_len a hw.2.1 (fun y hy=>hf y (by simp[Ex.flat,hy]))
  obtain⟨j1,j2⟩:=text_len b hw.2.2 (fun y hy=>hf y (by simp[Ex.flat,hy]))
  have l1:=in_len (partOf s a).text (joinL x.Op (partOf s a).binds)
  have l2:=in_len (partOf s b).text (joinR x.Op (partOf s b).binds)
  have l3:=tkB_len (tkOf s a) (joinL x.Op (strK a.top))
  have l4:=tkB_len (tkOf s b) (joinR x.Op (strK b.top))
  have l5:=sgnT_len x.Op
  simp only[Ex.flat,xP,List.length_singleton,partOf,tkOf,joinT,xZ];omega
end Go.Etx
namespace Go.Etx
open Go Go.Am Go.Proofs
def rank:Md→Nat
 | .level b=>if b=7 then 3 else(10 - b).toNat
 | .rest _=>1
 | .strong=>3
 | .leaf=>2
 | .word=>1
structure MdOk(md:Md)(r:Rdr):Prop where
 lv:∀b,md=.level b→1≤b∧b≤7
 rs:∀b,md=.rest b→1≤b∧b≤5
 wd:md=.word→r.now.Kind=1
theorem md_level{b:Int}{r:Rdr}(h:1≤b∧b≤7):MdOk (.level b) r:=⟨fun c e=>(by cases e;exact h),fun c e=>(by cases e),fun e=>(by cases e)⟩
theorem md_rest{b:Int}{r:Rdr}(h:1≤b∧b≤5):MdOk (.rest b) r:=⟨fun c e=>(by cases e),fun c e=>(by cases e;exact h),fun e=>(by cases e)⟩
theorem md_strong{r:Rdr}:MdOk .strong r:=⟨fun c e=>(by cases e),fun c e=>(by cases e),fun e=>(by cases e)⟩
theorem md_leaf{r:Rdr}:MdOk .leaf r:=⟨fun c e=>(by cases e),fun c e=>(by cases e),fun e=>(by cases e)⟩
theorem md_word{r:Rdr}(h:r.now.Kind=1):MdOk .word r:=⟨fun c e=>(by cases e),fun c e=>(by cases e),fun _=>h⟩
theorem rank_level{b:Int}(h:1≤b∧b≤7):rank (.level b)≤9∧3≤rank (.level b)∧(b≤5→rank (.level b)=rank (.level (b+1))+1)∧(b=6→rank (.level b)=4)∧(b≤5→5≤rank (.level b)):=by
 simp only[rank]
 by_cases h7:b=7
 ·subst h7;decide
 ·rw[if_neg h7]
  refine⟨by omega,by omega,fun h5=> ?_,fun h6=>by omega,fun h5=>by omega⟩
  rw[if_neg (by omega)];omega
theorem put_l(r:Rdr)(op n:Int):(r.put op n).l=r.l:=by unfold Rdr.put;split <;>rfl
theorem rd_some:∀(n:Nat) (md:Md) (r:Rdr),MdOk md r→r.pos≤r.l.length→20 * (r.l.length - r.pos)+rank md≤n→∃r',rdK n md r=some r'
 |0,md,r,ok,hp,h=>by
  exfalso
  cases md with
  |level b=>have:=(rank_level (ok.lv b rfl)).2.1;omega
  |rest b=>simp only[rank]at h;omega
  |strong=>simp only[rank]at h;omega
  |leaf=>simp only[rank]at h;omega
  |word=>simp only[rank]at h;omega
 |n+1,.level b,r,ok,hp,h=>by
  have hb:=ok.lv b rfl
  obtain⟨k1,k2,k3,k4,k5⟩:=rank_level hb
  rw[rdK]
  by_cases h6:b=6
  ·rw[if_pos h6]
   exact rd_some n .strong r md_strong hp (by have:=k4 h6;simp only[rank]at *;omega)
  rw[if_neg h6]
  by_cases h7:b=7
  ·rw[if_pos h7]
   exact rd_some n .leaf r md_leaf hp (by subst h7;simp only[rank]at *;omega)
  rw[if_neg h7]
  have h5:b≤5:=by omega
  have k3:=k3 h5
  have k5:=k5 h5
  obtain⟨r1,h1⟩:=rd_some n (.level (b+1)) r (md_level (by omega)) hp (by omega)
  rw[h1]
  have le:=rdk_le (fun q=>by cases q) h1
  exact rd_some n (.rest b) r1 (md_rest (by omega)) (by rw[le.l];exact le.len hp) (by rw[le.l];have:=le.pos;simp only[rank];omega)
 |n+1,.rest b,r,ok,hp,h=>by
  have hb:=ok.rs b rfl
  rw[rdK]
  by_cases h0:r.e=0
  ·rw[if_pos h0]
   cases hk:opK r.now.Text b with
   |none=>exact⟨_,rfl⟩
   |some o=>
    simp only
    by_cases h1:r.now.Kind=3
    ·rw[if_pos h1]
     have hl:=now_lt (r:=r) (by rw[h1];decide)
     obtain⟨r1,e1⟩:=rd_some n (.level (b+1)) r.step (md_level (by omega)) hl (by have:=(rank_level (b:=b+1) (by omega)).1;simp only[rank]at *;rw[step_l,step_pos];omega)
     rw[e1,xS]
     by_cases h3:b=3
     ·rw[if_pos h3];exact⟨_,rfl⟩
     ·rw[if_neg h3]
      have le:=rdk_le (fun q=>by cases q) e1
      have l1:=le.l
      have p1:=le.pos
      have n1:=le.len hl
      rw[step_l]at l1 n1
      rw[step_pos]at p1
      exact rd_some n (.rest b) (r1.put o 0) (md_rest hb) (by rw[put_l,put_pos,l1];exact n1) (by rw[put_l,put_pos,l1];simp only[rank]at *;omega)
    ·rw[if_neg h1];exact⟨_,rfl⟩
  ·rw[if_neg h0];exact⟨_,rfl⟩
 |n+1,.strong,r,ok,hp,h=>by
  simp only[rank]at h
  rw[rdK]
  by_cases h1:r.is 3 [33]=true
  ·rw[if_pos h1]
   have hl:=now_lt (r:=r) (by rw[(is_kind h1).2.1];decide)
   obtain⟨r1,e1⟩:=rd_some n .strong r.step md_strong hl (by simp only[rank];rw[step_l,step_pos];omega)
   rw[e1];exact⟨_,rfl⟩
  rw[if_neg h1]
  by_cases h2:r.is 3 [45]=true
  ·rw[if_pos h2]
   have hl:=now_lt (r:=r) (by rw[(is_kind h2).2.1];decide)
   split
   ·exact⟨_,rfl⟩
   ·obtain⟨r1,e1⟩:=rd_some n .strong r.step md_strong hl (by simp only[rank];rw[step_l,step_pos];omega)
    rw[e1];exact⟨_,rfl⟩
  ·rw[if_neg h2]
   exact rd_some n .leaf r md_leaf hp (by simp only[rank];omega)
 |n+1,.leaf,r,ok,hp,h=>by
  simp only[rank]at h
  rw[rdK]
  by_cases h0:r.e=0
  ·rw[if_pos h0]
   split
   ·exact⟨_,rfl⟩
   split
   ·rename_i h1
    have hl:=now_lt (r:=r) (by rw[(is_kind h1).2.1];decide)
    obtain⟨r1,e1⟩:=rd_some n (.level 1) r.step (md_level (by decide)) hl (by have:=(rank_level (b:=1) (by decide)).1;rw[step_l,step_pos];omega)
    rw[e1];exact⟨_,rfl⟩
   split
   ·rename_i h1
    exact rd_some n .word r (md_word h1) hp (by simp only[rank];omega)
   ·exact⟨_,rfl⟩
  ·rw[if_neg h0];exact⟨_,rfl⟩
 |n+1,.word,r,ok,hp,h=>by
  simp only[rank]at h
  have hl:=now_lt (r:=r) (by rw[ok.wd rfl];decide)
  rw[rdK]
  repeat' split
  all_goals first
   |exact⟨_,rfl⟩
   |skip
  rename_i hi
  have hl2:=now_lt (r:=r.step) (by rw[(is_kind hi.2).2.1];decide)
  obtain⟨r1,e1⟩:=rd_some n (.level 1) r.step.step (md_level (by decide)) hl2 (by have:=(rank_level (b:=1) (by decide)).1;rw[step_l,step_pos,step_l,step_pos];rw[step_pos,step_l]at hl2;omega)
  rw[e1];exact⟨_,rfl⟩
def InN(l:List GNode):Prop:=∀x∈l,Tr7.inR x.N=true
theorem put_in{r:Rdr}{op n:Int}(h:InN r.out)(hn:Tr7.inR n=true):InN (r.put op n).out:=by
 unfold Rdr.put
 split
 ·intro x hx
  rcases List.mem_append.1 hx with q |q
  ·exact h x q
  ·rw[yQ]at q;subst q;exact hn
 ·exact h
theorem w64_in(n:Int):Tr7.inR (w64 n)=true:=by
 have h:IntKind.i64.wrap n=if(9223372036854775808:Int)≤n % 18446744073709551616 then n % 18446744073709551616 - 18446744073709551616 else n % 18446744073709551616:=by
  simp only[IntKind.wrap,IntKind.signed,IntKind.bits]
  simp
 unfold w64
 rw[h]
 simp only[Tr7.inR,xA,yD]
 split <;>omega
theorem fidx_in{α:Type}{p:α→Bool}{l:List α}(h:l.length≤1000):Tr7.inR (fidx p l)=true:=by
 unfold fidx
 simp only[Tr7.inR,xA,yD]
 split <;>omega
theorem now_in{r:Rdr}(h:∀x∈r.l,Tr7.inR x.N=true):Tr7.inR r.now.N=true:=by
 unfold Rdr.now
 cases e:r.l[r.pos]? with
 |none=>rfl
 |some t=>exact h t (yS e)
theorem found_in{r:Rdr}{lk:List UInt8→Int}(h:∀nm,Tr7.inR (lk nm)=true):Tr7.inR (r.found lk).1=true:=by
 unfold Rdr.found
 repeat' split
 ·rfl
 ·exact h _
 ·rfl
theorem rd_in:∀{n:Nat} {md:Md} {r r':Rdr},MdOk md r→rdK n md r=some r'→Few r.s→(∀x∈r.l,Tr7.inR x.N=true)→InN r.out→InN r'.out
 |0,_,_,_,_,h,_,_,_=>by simp[rdK]at h
 |n+1,.level b,r,r',ok,h,hs,hl,ho=>by
  have hb:=ok.lv b rfl
  rw[rdK]at h
  by_cases h6:b=6
  ·rw[if_pos h6]at h;exact rd_in md_strong h hs hl ho
  rw[if_neg h6]at h
  by_cases h7:b=7
  ·rw[if_pos h7]at h;exact rd_in md_leaf h hs hl ho
  rw[if_neg h7]at h
  simp only[xB]at h
  obtain⟨r1,h1,h2⟩:=h
  have le:=rdk_le (fun q=>by cases q) h1
  exact rd_in (md_rest (by omega)) h2 (by rw[le.s];exact hs) (by rw[le.l];exact hl) (rd_in (md_level (by omega)) h1 hs hl ho)
 |n+1,.rest b,r,r',ok,h,hs,hl,ho=>by
  have hb:=ok.rs b rfl
  rw[rdK]at h
  split at h
  ·split at h
   ·simp only[xJ]at h;subst h;exact ho
   ·split at h
    ·simp only[xB]at h
     obtain⟨r1,h1,h2⟩:=h
     have i1:=rd_in (md_level (by omega)) h1 hs hl ho
     have le:=rdk_le (fun q=>by cases q) h1
     split at h2
     ·simp only[xJ]at h2;subst h2;exact put_in i1 rfl
     ·exact rd_in (md_rest hb) h2 (by rw[put_s,le.s];exact hs) (by rw[put_l,le.l];exact hl) (put_in i1 rfl)
    ·simp only[xJ]at h;subst h;exact ho
  ·simp only[xJ]at h;subst h;exact ho
 |n+1,.strong,r,r',ok,h,hs,hl,ho=>by
  rw[rdK]at h
  split at h
  ·simp only[xM]at h
   obtain⟨r1,h1,rfl⟩:=h
   exact put_in (rd_in md_strong h1 hs hl ho) rfl
  split at h
  ·split at h
   ·simp only[xJ]at h
    subst h
    exact put_in ho (w64_in _)
   ·simp only[xM]at h
    obtain⟨r1,h1,rfl⟩:=h
    exact put_in (rd_in md_strong h1 hs hl ho) rfl
  ·exact rd_in md_leaf h hs hl ho
 |n+1,.leaf,r,r',ok,h,hs,hl,ho=>by
  rw[rdK]at h
  split at h
  ·split at h
   ·simp only[xJ]at h
    subst h
    exact put_in ho (now_in hl)
   split at h
   ·simp only[xM]at h
    obtain⟨r1,h1,rfl⟩:=h
    rw[take_out]
    exact rd_in (md_level (by decide)) h1 hs hl ho
   split at h
   ·rename_i hk
    exact rd_in (md_word hk) h hs hl ho
   ·simp only[xJ]at h;subst h;rw[fail_out];exact ho
  ·simp only[xJ]at h;subst h;exact ho
 |n+1,.word,r,r',ok,h,hs,hl,ho=>by
  have k4:Tr7.inR (standsK r.s r.now.Text).2=true:=by
   unfold standsK
   repeat' split
   ·exact fidx_in hs.lo
   ·exact fidx_in hs.va
   ·rfl
  rw[rdK]at h
  split at h
  ·simp only[xJ]at h;subst h;exact put_in ho rfl
  split at h
  ·simp only[xJ]at h;subst h
   refine put_in ?_ (found_in fun nm=>fidx_in (by rw[step_s];exact hs.ch))
   rw[take_out,found_out,take_out];exact ho
  split at h
  ·simp only[xJ]at h;subst h
   refine put_in ?_ (w64_in _)
   rw[take_out,kind_out,wide_out]
   unfold Rdr.whereA
   rw[take_out,found_out,take_out];exact ho
  split at h
  ·simp only[xJ]at h;subst h
   refine put_in ?_ (found_in fun nm=>fidx_in (by rw[step_s];exact hs.sc))
   rw[take_out,found_out,take_out];exact ho
  split at h
  ·simp only[xJ]at h;subst h;rw[fail_out];exact ho
  split at h
  ·simp only[xM]at h
   obtain⟨r1,h1,rfl⟩:=h
   refine put_in ?_ k4
   rw[take_out]
   exact rd_in (md_level (by decide)) h1 hs hl ho
  ·simp only[xJ]at h;subst h;exact put_in ho k4
end Go.Etx
namespace Go.Etx
open Go Go.Am Go.Proofs
set_option maxHeartbeats 4000000
set_option maxRecDepth 20000
def comm:List UInt8→List UInt8→Nat
 |a::x,b::y=>if a=b then comm x y+1 else 0
 |_,_=>0
def rd0(t:List UInt8)(s:GScope)(l:List Glex_Token):Rdr:=⟨l,(t.length:Int),s,0,0,0,[]⟩
def readK(t:List UInt8)(s:GScope)(l:List Glex_Token):Rdr:=(rdK (20 * l.length+9) (.level 1) (rd0 t s l)).getD (rd0 t s l)
def endK(r:Rdr):Rdr:=if r.e=0∧r.pos<r.l.length then r.fail 3 else r
def doneK(t:List UInt8)(s:GScope)(r:Rdr):List GNode×Int×Int:=
 if r.e≠0 then([],r.place,r.e)
 else if(kindK r.out s).2≠0 then([],0,(kindK r.out s).2)
 else if(textK r.out s).2≠0 then([],0,(textK r.out s).2)
 else if(textK r.out s).1=t then(r.out,0,0)else([],(comm (textK r.out s).1 t:Nat),13)
def parseK(t:List UInt8)(s:GScope):List GNode×Int×Int:=
 if(scanK t).2.2≠0 then([],(scanK t).2.1,(scanK t).2.2)else doneK t s (endK (readK t s (scanK t).1))
theorem scanK_ok(t:List UInt8):(scanK t).1.length≤t.length∧∀x∈(scanK t).1,Tr7.inR x.N=true:=by
 unfold scanK
 split
 ·exact⟨Nat.zero_le _,fun x hx=>(by cases hx)⟩
 ·exact scan_ok (t.length+1) (gap false t) [] (by omega) (gap_le false t) (Nat.zero_le _) fun x hx=>(by cases hx)
theorem read_eq(t:List UInt8)(s:GScope)(l:List Glex_Token):rdK (20 * l.length+9) (.level 1) (rd0 t s l)=some (readK t s l):=by
 obtain⟨r,h⟩:=rd_some (20 * l.length+9) (.level 1) (rd0 t s l) (md_level (by decide)) (Nat.zero_le _) (Nat.le_refl _)
 unfold readK
 rw[h];rfl
theorem comm_drop{a b:List UInt8}{i:Nat}(ha:i<a.length)(hb:i<b.length):comm (a.drop i) (b.drop i)=if a[i]=b[i]then comm (a.drop (i+1)) (b.drop (i+1))+1 else 0:=by
 rw[xW ha,xW hb];rfl
theorem comm_end{a b:List UInt8}{i:Nat}(h:¬(i<a.length∧i<b.length)):comm (a.drop i) (b.drop i)=0:=by
 by_cases ha:i<a.length
 ·rw[List.drop_eq_nil_of_le (show b.length≤i by omega)]
  cases a.drop i <;>rfl
 ·rw[List.drop_eq_nil_of_le (show a.length≤i by omega)]
  cases b.drop i <;>rfl
noncomputable section
variable{ρ:Type}
theorem parted_eq(a b:List UInt8)(hb:b.length<4611686018427387904)(g:Int→Option ρ):f_etext_parted a b g=g ((comm a b:Nat):Int):=by
 simp only[f_etext_parted,F_etext_parted,mkF]
 refine(iterC_is (fun v:Int=>∃i:Nat,v=i∧i≤a.length∧i≤b.length) (fun v=>g ((v.toNat+comm (a.drop v.toNat) (b.drop v.toNat):Nat):Int)) (fun v=>a.length - v.toNat) ?_ (v:=(0:Int)) ⟨0,rfl,Nat.zero_le _,Nat.zero_le _⟩).trans (by simp)
 rintro v k ⟨i,rfl,hi,hj⟩ hk
 simp only[xV]
 by_cases h1:i<a.length
 ·by_cases h2:i<b.length
  ·have i0:(0:Int)≤(i:Int):=by omega
   rw[if_pos (by omega),if_pos (by omega),comm_drop h1 h2]
   simp only[i0,if_true,xG h1,xG h2,xS]
   by_cases hq:a[i]=b[i]
   ·rw[if_pos (by rw[hq]),if_pos hq,wrapS (by omega),hk _ ⟨i+1,rfl,h1,h2⟩ (by rw[xV];omega),xV]
    rw[show i+1+comm (a.drop (i+1)) (b.drop (i+1))=i+(comm (a.drop (i+1)) (b.drop (i+1))+1)by omega]
   ·rw[if_neg (fun e=>hq (UInt8.toNat_inj.1 (by omega))),if_neg hq,Nat.add_zero]
  ·rw[if_pos (by omega),if_neg (by omega),comm_end (by omega),Nat.add_zero]
 ·rw[if_neg (by omega),comm_end (by omega),Nat.add_zero]
theorem opx_eq(t:List UInt8)(b:Int)(g:Int→Bool→Option ρ):f_etext_opOf t b g=match opK t b with |some o=>g o true |none=>g 0 false:=by
 simp only[f_etext_opOf,F_etext_opOf,mkF,signx_eq]
 have key:∀(n i:Nat),i+n=9→∀fuel,n<fuel→iterCN (fun(v:Int) k=>if v≤19 then(if decide (11≤v∧v≤19)=true then if sgnT v=t then if sgnB v=b then g v true else k (IntKind.i64.wrap (v+1))else k (IntKind.i64.wrap (v+1))else k (IntKind.i64.wrap (v+1)))else g 0 false) fuel ((11+i:Nat):Int)=match (([11,12,13,14,15,16,17,18,19]:List Int).drop i).find? fun o=>decide (sgnT o=t∧sgnB o=b)with |some o=>g o true |none=>g 0 false:=by
  intro n
  induction n with
  |zero=>
   intro i hi fuel hf
   obtain rfl:i=9:=by omega
   cases fuel with
   |zero=>omega
   |succ f=>rfl
  |succ n ih=>
   intro i hi fuel hf
   cases fuel with
   |zero=>omega
   |succ f=>
    have hl:i<([11,12,13,14,15,16,17,18,19]:List Int).length:=by show i<9;omega
    have he:([11,12,13,14,15,16,17,18,19]:List Int)[i]=((11+i:Nat):Int):=by
     have:∀j:Fin 9,([11,12,13,14,15,16,17,18,19]:List Int)[j.val]'(j.isLt)=((11+j.val:Nat):Int):=by decide
     exact this ⟨i,by omega⟩
    have ih:=ih (i+1) (by omega) f (by omega)
    rw[xW hl,List.find?_cons,he,iterCN]
    rw[if_pos (by omega),if_pos (decide_eq_true (by omega)),wrapS (by omega)]
    by_cases h1:sgnT ((11+i:Nat):Int)=t
    ·by_cases h2:sgnB ((11+i:Nat):Int)=b
     ·rw[if_pos h1,if_pos h2,decide_eq_true ⟨h1,h2⟩]
     ·rw[if_pos h1,if_neg h2,decide_eq_false (fun q=>h2 q.2)]
      exact ih
    ·rw[if_neg h1,decide_eq_false (fun q=>h1 q.1)]
     exact ih
 refine limE_eq 10 fun n hn=> ?_
 exact key 9 0 rfl n (by omega)
theorem lkC(s:GScope)(hs:Few s):LK 41 s (fun nm=>fidx (pC nm) s.Chans) ρ:=fun nm κ=>by
 simp -implicitDefEqProofs (maxSteps:=1000000) [go_sem,chanx_eq hs]
theorem lkP(s:GScope)(hs:Few s):LK 42 s (fun nm=>fidx (pP nm) s.Procs) ρ:=fun nm κ=>by
 simp -implicitDefEqProofs (maxSteps:=1000000) [go_sem,procx_eq hs]
theorem lkS(s:GScope)(hs:Few s):LK 43 s (fun nm=>fidx (pS nm) s.Scalars) ρ:=fun nm κ=>by
 simp -implicitDefEqProofs (maxSteps:=1000000) [go_sem,scalx_eq hs]
theorem fidx_cases{α:Type}(p:α→Bool)(l:List α):0≤fidx p l∨fidx p l=-1:=by
 unfold fidx
 split
 ·exact .inl (by omega)
 ·exact .inr rfl
theorem lkT(s:GScope)(hs:Few s)(nm:List UInt8)(κ:KT ρ):cbK (call 40 [.str nm,.agg [.sl false (List.map eScalar s.Scalars),.sl false (List.map eVar s.Vars),.sl false (List.map eChan s.Chans),.sl false (List.map (eProc false) s.Procs),.sl false (List.map eVar s.Locals),.int .i64 s.Self]] []) κ=κ ([.d (.int .i64 (standsK s nm).1),.d (.int .i64 (standsK s nm).2)],[]):=by
 have h:∀g:Int→Int→Option ρ,f_etext_stands nm s g=g (standsK s nm).1 (standsK s nm).2:=fun g=>by
  rw[standsx_eq hs]
  unfold standsK
  rcases fidx_cases (pV nm) s.Locals with h1 |h1
  ·rw[if_neg (show¬fidx (pV nm) s.Locals<0 by omega),if_pos h1]
  ·rw[if_pos (show fidx (pV nm) s.Locals<0 by omega),if_neg (show¬0≤fidx (pV nm) s.Locals by omega)]
   rcases fidx_cases (pV nm) s.Vars with h2 |h2
   ·rw[if_neg (show¬fidx (pV nm) s.Vars<0 by omega),if_pos h2]
   ·rw[if_pos (show fidx (pV nm) s.Vars<0 by omega),if_neg (show¬0≤fidx (pV nm) s.Vars by omega)]
 simp -implicitDefEqProofs (maxSteps:=1000000) [go_sem,h]
theorem lkO:OpW ρ:=fun t b κ=>by
 simp -implicitDefEqProofs (maxSteps:=1000000) [go_sem,opx_eq]
 all_goals (cases opK t b <;>rfl)
theorem whole_eq{n:Nat}{r r':Rdr}(h:rdK n (.level 1) r=some r')(ok:Ok r)(κ:KT ρ):cbK (call 16 [.ptr 0] [.box (rdT r)]) κ=κ ([],[.box (rdT r')]):=
 whole_w (((all_w (ρ:=ρ) lkC lkP lkS lkT lkO n n (Nat.le_refl _)).2.2.2) 1 (by decide) (by decide)) r r' h (fun q=>by cases q) ok [] (fun _ _=>rfl) κ
theorem Parse_eq(t:List UInt8)(s:GScope)(hs:Few s)(ht:t.length≤100000)(κ:KT ρ):
  cbK (call 8 [.str t,.agg [.sl false (List.map eScalar s.Scalars),.sl false (List.map eVar s.Vars),.sl false (List.map eChan s.Chans),.sl false (List.map (eProc false) s.Procs),.sl false (List.map eVar s.Locals),.int .i64 s.Self]] []) κ=κ ([.d (.sl false (List.map eNode (parseK t s).1)),.d (.int .i64 (parseK t s).2.1),.d (.int .i64 (parseK t s).2.2)],[]):=by
 refine(ge8 _ _ _ rfl).trans ?_
 have hsc:=fun κ=>scan_w (ρ:=ρ) t (by omega) κ
 unfold parseK
 by_cases h0:(scanK t).2.2=0
 ·rw[if_neg (by simp[h0])]
  have h0:=tt h0
  generalize hr:readK t s (scanK t).1=r
  have hread:=read_eq t s (scanK t).1
  rw[hr]at hread
  have ok0:Ok (rd0 t s (scanK t).1):=⟨Nat.zero_le _,Nat.le_refl _,by have:=(scanK_ok t).1;show(scanK t).1.length< _;omega,hs⟩
  have hw:∀κ:KT ρ,cbK (call 16 [.ptr 0] [.box (.agg [.d (.sl false (List.map elex_Token (scanK t).1)),.d (.int .i64 (t.length:Int)),.d (.sl false (List.map eScalar s.Scalars)),.d (.sl false (List.map eVar s.Vars)),.d (.sl false (List.map eChan s.Chans)),.d (.sl false (List.map (eProc false) s.Procs)),.d (.sl false (List.map eVar s.Locals)),.d (.int .i64 s.Self),
   .d (.int .i64 0),.d (.int .i64 0),.d (.int .i64 0),.own []])]) κ=κ ([],[.box (rdT r)]):=fun κ=>whole_eq (ρ:=ρ) hread ok0 κ
  have le:=rdk_le (fun q=>by cases q) hread
  have el:r.l=(scanK t).1:=le.l
  have es:r.s=s:=le.s
  have hlen:=(scanK_ok t).1
  have hpos:r.pos≤t.length:=by have:=le.len (Nat.zero_le _);have e:(rd0 t s (scanK t).1).l=(scanK t).1:=rfl;rw[e]at this;omega
  have hf:=fun x M κ=>fail_w (ρ:=ρ) r (by omega) x M κ
  have hN:InN r.out:=rd_in (md_level (by decide)) hread hs (scanK_ok t).2 (fun x hx=>by cases hx)
  have hN':∀x∈r.out,x.N≤9223372036854775807:=fun x hx=>by
   have:=hN x hx
   simp only[Tr7.inR,xA,yD]at this
   exact this.2
  unfold endK
  by_cases e0:r.e=0
  ·by_cases hp:r.pos<(scanK t).1.length
   ·have hq:r.e=0∧r.pos<r.l.length:=⟨e0,by rw[el];exact hp⟩
    have f1:(r.fail 3).e=3:=by unfold Rdr.fail;rw[if_pos e0]
    rw[if_pos hq]
    unfold doneK
    rw[if_pos (by rw[f1];decide)]
    have e0:=tt e0
    have f2:((r.fail 3).e=0)=False:=ff (by rw[f1];decide)
    simp -implicitDefEqProofs (maxSteps:=1000000) [go_sem,hsc,h0,hw,e0,hp,hf,f2,-List.map_append,-List.map_take,-List.map_drop,-List.map_set]
   ·have hq:¬(r.e=0∧r.pos<r.l.length):=fun q=>hp (by rw[←el];exact q.2)
    rw[if_neg hq]
    unfold doneK
    rw[if_neg (by simp[e0])]
    have hk:=fun β κ=>Kind_eq (ρ:=ρ) β r.out s hs.sc hN' κ
    have ht2:=fun β κ=>Text_eq (ρ:=ρ) β r.out s hs hN κ
    have e0:=tt e0
    by_cases k0:(kindK r.out s).2=0
    ·rw[if_neg (by simp[k0])]
     have k0:=tt k0
     by_cases t0:(textK r.out s).2=0
     ·rw[if_neg (by simp[t0])]
      have t0:=tt t0
      by_cases u0:(textK r.out s).1=t
      ·rw[if_pos u0]
       have u0:=tt u0
       simp -implicitDefEqProofs (maxSteps:=1000000) [go_sem,hsc,h0,hw,e0,hp,hk,k0,ht2,t0,u0,-List.map_append,-List.map_take,-List.map_drop,-List.map_set]
      ·rw[if_neg u0]
       have u0:=ff u0
       have hpt:=fun g=>parted_eq (ρ:=ρ) (textK r.out s).1 t (by omega) g
       simp -implicitDefEqProofs (maxSteps:=1000000) [go_sem,hsc,h0,hw,e0,hp,hk,k0,ht2,t0,u0,hpt,-List.map_append,-List.map_take,-List.map_drop,-List.map_set]
     ·rw[if_pos (by simpa using t0)]
      have t0:=ff t0
      simp -implicitDefEqProofs (maxSteps:=1000000) [go_sem,hsc,h0,hw,e0,hp,hk,k0,ht2,t0,-List.map_append,-List.map_take,-List.map_drop,-List.map_set]
    ·rw[if_pos (by simpa using k0)]
     have k0:=ff k0
     simp -implicitDefEqProofs (maxSteps:=1000000) [go_sem,hsc,h0,hw,e0,hp,hk,k0,-List.map_append,-List.map_take,-List.map_drop,-List.map_set]
  ·rw[if_neg (fun q=>e0 q.1)]
   unfold doneK
   rw[if_pos e0]
   have e0:=ff e0
   simp -implicitDefEqProofs (maxSteps:=1000000) [go_sem,hsc,h0,hw,e0,-List.map_append,-List.map_take,-List.map_drop,-List.map_set]
 ·rw[if_pos (by simpa using h0)]
  have h0:=ff h0
  simp -implicitDefEqProofs (maxSteps:=1000000) [go_sem,hsc,h0,-List.map_append,-List.map_take,-List.map_drop,-List.map_set]
end
end Go.Etx
namespace Go.Etx
open Go Go.Am Go.Proofs
theorem rdk_succ:∀{n:Nat} {md:Md} {r r':Rdr},rdK n md r=some r'→rdK (n+1) md r=some r'
 |0,_,_,_,h=>by simp[rdK]at h
 |n+1,.level b,r,r',h=>by
  rw[rdK]at h ⊢
  by_cases h6:b=6
  ·rw[if_pos h6]at h ⊢;exact rdk_succ h
  rw[if_neg h6]at h ⊢
  by_cases h7:b=7
  ·rw[if_pos h7]at h ⊢;exact rdk_succ h
  rw[if_neg h7]at h ⊢
  simp only[xB]at h ⊢
  obtain⟨r1,h1,h2⟩:=h
  exact⟨r1,rdk_succ h1,rdk_succ h2⟩
 |n+1,.rest b,r,r',h=>by
  rw[rdK]at h ⊢
  by_cases h0:r.e=0
  ·rw[if_pos h0]at h ⊢
   cases hk:opK r.now.Text b with
   |none=>rw[hk]at h;exact h
   |some o=>
    rw[hk]at h
    simp only at h ⊢
    by_cases h1:r.now.Kind=3
    ·rw[if_pos h1]at h ⊢
     simp only[xB]at h ⊢
     obtain⟨r1,h2,h3⟩:=h
     refine⟨r1,rdk_succ h2,?_⟩
     by_cases hb:b=3
     ·rw[if_pos hb]at h3 ⊢;exact h3
     ·rw[if_neg hb]at h3 ⊢;exact rdk_succ h3
    ·rw[if_neg h1]at h ⊢;exact h
  ·rw[if_neg h0]at h ⊢;exact h
 |n+1,.strong,r,r',h=>by
  rw[rdK]at h ⊢
  by_cases h1:r.is 3 [33]=true
  ·rw[if_pos h1]at h ⊢
   simp only[xM]at h ⊢
   obtain⟨r1,h2,h3⟩:=h
   exact⟨r1,rdk_succ h2,h3⟩
  rw[if_neg h1]at h ⊢
  by_cases h2:r.is 3 [45]=true
  ·rw[if_pos h2]at h ⊢
   by_cases h3:r.step.now.Kind=2
   ·rw[if_pos h3]at h ⊢;exact h
   ·rw[if_neg h3]at h ⊢
    simp only[xM]at h ⊢
    obtain⟨r1,h4,h5⟩:=h
    exact⟨r1,rdk_succ h4,h5⟩
  ·rw[if_neg h2]at h ⊢;exact rdk_succ h
 |n+1,.leaf,r,r',h=>by
  rw[rdK]at h ⊢
  by_cases h0:r.e=0
  ·rw[if_pos h0]at h ⊢
   by_cases h1:r.now.Kind=2
   ·rw[if_pos h1]at h ⊢;exact h
   rw[if_neg h1]at h ⊢
   by_cases h2:r.is 3 [40]=true
   ·rw[if_pos h2]at h ⊢
    simp only[xM]at h ⊢
    obtain⟨r1,h4,h5⟩:=h
    exact⟨r1,rdk_succ h4,h5⟩
   rw[if_neg h2]at h ⊢
   by_cases h3:r.now.Kind=1
   ·rw[if_pos h3]at h ⊢;exact rdk_succ h
   ·rw[if_neg h3]at h ⊢;exact h
  ·rw[if_neg h0]at h ⊢;exact h
 |n+1,.word,r,r',h=>by
  rw[rdK]at h ⊢
  by_cases h1:r.now.Text=[115,101,108,102]
  ·rw[if_pos h1]at h ⊢;exact h
  rw[if_neg h1]at h ⊢
  by_cases h2:r.now.Text=[108,101,110]
  ·rw[if_pos h2]at h ⊢;exact h
  rw[if_neg h2]at h ⊢
  by_cases h3:r.now.Text=[97,116]
  ·rw[if_pos h3]at h ⊢;exact h
  rw[if_neg h3]at h ⊢
  by_cases h4:r.now.Text=[110,111,110,101]
  ·rw[if_pos h4]at h ⊢;exact h
  rw[if_neg h4]at h ⊢
  by_cases h5:(standsK r.s r.now.Text).1=0
  ·rw[if_pos h5]at h ⊢;exact h
  rw[if_neg h5]at h ⊢
  by_cases h6:(standsK r.s r.now.Text).1=2∧r.step.is 3 [91]=true
  ·rw[if_pos h6]at h ⊢
   simp only[xM]at h ⊢
   obtain⟨r1,h7,h8⟩:=h
   exact⟨r1,rdk_succ h7,h8⟩
  ·rw[if_neg h6]at h ⊢;exact h
theorem rdk_more{n m:Nat}(hm:n≤m){md:Md}{r r':Rdr}(h:rdK n md r=some r'):rdK m md r=some r':=by
 induction hm with
 |refl=>exact h
 |step _ ih=>exact rdk_succ ih
def RdT(md:Md)(r r':Rdr):Prop:=∃n,rdK n md r=some r'
theorem RdT.uniq{md:Md}{r a b:Rdr}(h:RdT md r a)(k:RdT md r b):a=b:=by
 obtain⟨n,h⟩:=h
 obtain⟨m,k⟩:=k
 have h1:=rdk_more (Nat.le_max_left n m) h
 have h2:=rdk_more (Nat.le_max_right n m) k
 rw[h1]at h2
 exact Option.some.inj h2
theorem RdT.l6{r r':Rdr}(h:RdT .strong r r'):RdT (.level 6) r r':=by
 obtain⟨n,h⟩:=h
 exact⟨n+1,by rw[rdK,if_pos rfl];exact h⟩
theorem RdT.lv{b:Int}(hb:b≤5){r r1 r':Rdr}(h:RdT (.level (b+1)) r r1)(k:RdT (.rest b) r1 r'):RdT (.level b) r r':=by
 obtain⟨n,h⟩:=h
 obtain⟨m,k⟩:=k
 refine⟨max n m+1,?_⟩
 rw[rdK,if_neg (by omega),if_neg (by omega),rdk_more (Nat.le_max_left n m) h]
 exact rdk_more (Nat.le_max_right n m) k
theorem RdT.no{b:Int}{r:Rdr}(h:opK r.now.Text b=none∨r.now.Kind≠3):RdT (.rest b) r r:=by
 refine⟨1,?_⟩
 rw[rdK]
 by_cases h0:r.e=0
 ·rw[if_pos h0]
  cases hk:opK r.now.Text b with
  |none=>rfl
  |some o=>
   rcases h with h |h
   ·rw[h]at hk;cases hk
   ·simp only;rw[if_neg h]
 ·rw[if_neg h0]
theorem RdT.op{b o:Int}{r r1 r':Rdr}(h0:r.e=0)(h1:r.now.Kind=3)(h2:opK r.now.Text b=some o)(h:RdT (.level (b+1)) r.step r1)(k3:b=3→r'=r1.put o 0)(k:b≠3→RdT (.rest b) (r1.put o 0) r'):RdT (.rest b) r r':=by
 obtain⟨n,h⟩:=h
 by_cases hb:b=3
 ·refine⟨n+1,?_⟩
  rw[rdK,if_pos h0,h2]
  simp only
  rw[if_pos h1,h,xS,if_pos hb,k3 hb]
 ·obtain⟨m,k⟩:=k hb
  refine⟨max n m+1,?_⟩
  rw[rdK,if_pos h0,h2]
  simp only
  rw[if_pos h1,rdk_more (Nat.le_max_left n m) h,xS,if_neg hb]
  exact rdk_more (Nat.le_max_right n m) k
theorem RdT.bang{r r1:Rdr}(h:r.is 3 [33]=true)(k:RdT .strong r.step r1):RdT .strong r (r1.put 9 0):=by
 obtain⟨n,k⟩:=k
 exact⟨n+1,by rw[rdK,if_pos h,k];rfl⟩
theorem RdT.minus{r r1:Rdr}(h0:r.is 3 [33]=false)(h:r.is 3 [45]=true)(h2:r.step.now.Kind≠2)(k:RdT .strong r.step r1):RdT .strong r (r1.put 10 0):=by
 obtain⟨n,k⟩:=k
 exact⟨n+1,by rw[rdK,if_neg (by rw[h0];decide),if_pos h,if_neg h2,k];rfl⟩
theorem RdT.below{r:Rdr}(h0:r.is 3 [33]=false)(h:r.is 3 [45]=true)(h2:r.step.now.Kind=2):RdT .strong r (r.step.step.put 1 (w64 (-r.step.now.N))):=
 ⟨1,by rw[rdK,if_neg (by rw[h0];decide),if_pos h,if_pos h2]⟩
theorem RdT.lf{r r':Rdr}(h0:r.is 3 [33]=false)(h:r.is 3 [45]=false)(k:RdT .leaf r r'):RdT .strong r r':=by
 obtain⟨n,k⟩:=k
 exact⟨n+1,by rw[rdK,if_neg (by rw[h0];decide),if_neg (by rw[h];decide)];exact k⟩
theorem RdT.num{r:Rdr}(h0:r.e=0)(h:r.now.Kind=2):RdT .leaf r (r.step.put 1 r.now.N):=⟨1,by rw[rdK,if_pos h0,if_pos h]⟩
theorem RdT.br{r r1:Rdr}(h0:r.e=0)(h2:r.now.Kind≠2)(h:r.is 3 [40]=true)(k:RdT (.level 1) r.step r1):RdT .leaf r (r1.take [41]):=by
 obtain⟨n,k⟩:=k
 exact⟨n+1,by rw[rdK,if_pos h0,if_neg h2,if_pos h,k];rfl⟩
theorem RdT.wd{r r':Rdr}(h0:r.e=0)(h:r.now.Kind=1)(k:RdT .word r r'):RdT .leaf r r':=by
 obtain⟨n,k⟩:=k
 have h40:r.is 3 [40]=false:=by unfold Rdr.is;rw[h];simp
 exact⟨n+1,by rw[rdK,if_pos h0,if_neg (by rw[h];decide),if_neg (by rw[h40];decide),if_pos h];exact k⟩
def AtT(r:Rdr)(ts:List Glex_Token):Prop:=(r.l.drop r.pos).map strip=ts
def adv(r:Rdr)(k:Nat)(ns:List GNode):Rdr:={r with pos:=r.pos+k,out:=r.out++ns}
section
variable{r:Rdr}{t:Glex_Token}{ts:List Glex_Token}
theorem at_cons(h:AtT r (t::ts)):r.now.Kind=t.Kind∧r.now.N=t.N∧r.now.Text=t.Text∧AtT r.step ts:=by
 unfold AtT at h
 cases hd:r.l.drop r.pos with
 |nil=>rw[hd]at h;cases h
 |cons y l=>
  rw[hd,List.map_cons,xC]at h
  obtain⟨h1,h2⟩:=h
  have hy:r.l[r.pos]? =some y:=by
   have:=congrArg (fun z:List Glex_Token=>z[0]?) hd
   simpa using this
  have hn:r.now=y:=by unfold Rdr.now;rw[hy];rfl
  have hl:r.l.drop (r.pos+1)=l:=by
   have:=congrArg List.tail hd
   simpa using this
  subst h1
  rw[hn]
  refine⟨rfl,rfl,rfl,?_⟩
  show(r.l.drop (r.pos+1)).map strip=ts
  rw[hl];exact h2
theorem at_nil(h:AtT r []):r.now=tok0:=by
 unfold AtT at h
 have hl:r.l.length≤r.pos:=by
  have:=congrArg List.length h
  simp at this
  omega
 unfold Rdr.now
 rw[List.getElem?_eq_none hl];rfl
theorem at_adv{a b:List Glex_Token}(h:AtT r (a++b)){k:Nat}(hk:k=a.length)(ns:List GNode):AtT (adv r k ns) b:=by
 subst hk
 unfold AtT at h ⊢
 show(r.l.drop (r.pos+a.length)).map strip=b
 rw[←List.drop_drop,List.map_drop,h,List.drop_left]
theorem at_is(h:AtT r (t::ts))(h0:r.e=0)(k:Int)(x:List UInt8):r.is k x=(decide (t.Kind=k)&&decide (t.Text=x)):=by
 obtain⟨h1,_,h3,_⟩:=at_cons h
 unfold Rdr.is
 rw[h1,h3,h0];simp
theorem at_take{x:List UInt8}(h:AtT r (tS x::ts))(h0:r.e=0):r.take x=r.step:=by
 unfold Rdr.take
 rw[at_is h h0,if_pos (by simp)]
theorem at_found{nm:List UInt8}(h:AtT r (tW nm::ts))(h0:r.e=0)(lk:List UInt8→Int)(hl:0≤lk nm):r.found lk=(lk nm,r.step):=by
 obtain⟨h1,_,h3,_⟩:=at_cons h
 have h3:r.now.Text=nm:=h3
 unfold Rdr.found
 rw[if_pos ⟨h0,h1⟩,h3,if_neg (by omega)]
theorem at_kind{n:Int}(h:AtT r (tN n::ts))(h0:r.e=0):(r.kind 2).1.N=n∧(r.kind 2).2=r.step:=by
 obtain⟨h1,h2,_,_⟩:=at_cons h
 unfold Rdr.kind
 rw[if_pos ⟨h0,h1⟩]
 exact⟨h2,rfl⟩
theorem at_wide{n:Int}(h:AtT r (tN n::ts))(hn:n<16):r.wide=r:=by
 obtain⟨_,h2,_,_⟩:=at_cons h
 unfold Rdr.wide
 rw[h2,if_neg (fun q=>by have:=q.2.2;simp only at this;omega)]
theorem step_adv(r:Rdr):r.step=adv r 1 []:=by unfold adv;rw[List.append_nil];rfl
theorem adv_adv(r:Rdr)(a b:Nat)(x y:List GNode):adv (adv r a x) b y=adv r (a+b) (x++y):=by unfold adv;simp[Nat.add_assoc]
theorem adv_step(r:Rdr)(a:Nat)(x:List GNode):(adv r a x).step=adv r (a+1) x:=rfl
theorem adv_put(h0:r.e=0)(a:Nat)(x:List GNode)(op n:Int):(adv r a x).put op n=adv r a (x++[⟨op,n⟩]):=by
 unfold Rdr.put
 rw[if_pos (show(adv r a x).e=0 from h0)]
 unfold adv
 simp
end
abbrev opsI:List Int:=[11,12,13,14,15,16,17,18,19]
def nxB:List Glex_Token→Int
 |t::_=>if t.Kind=3 then(match opsI.find? fun o=>decide (sgnT o=t.Text)with |some o=>sgnB o |none=>0)else 0
 | []=>0
theorem opsI_mem{o:Int}(h:11≤o∧o≤19):o∈opsI:=by
 have:o=11∨o=12∨o=13∨o=14∨o=15∨o=16∨o=17∨o=18∨o=19:=by omega
 rcases this with rfl |rfl |rfl |rfl |rfl |rfl |rfl |rfl |rfl <;>decide
theorem sgnT_inj:∀o∈opsI,∀p∈opsI,sgnT o=sgnT p→o=p:=by decide
theorem nx_sgn{o:Int}(h:11≤o∧o≤19)(ts:List Glex_Token):nxB (tS (sgnT o)::ts)=sgnB o:=by
 have:∀o∈opsI,(opsI.find? fun p=>decide (sgnT p=sgnT o))=some o:=by decide
 simp only[nxB,this o (opsI_mem h),if_true]
theorem op_sgn{o:Int}(h:11≤o∧o≤19):opK (sgnT o) (sgnB o)=some o:=by
 have:∀o∈opsI,opK (sgnT o) (sgnB o)=some o:=by decide
 exact this o (opsI_mem h)
theorem no_op{R:Rdr}{ts:List Glex_Token}(h:AtT R ts){b:Int}(hn:nxB ts≠b):opK R.now.Text b=none∨R.now.Kind≠3:=by
 cases ts with
 |nil=>rw[at_nil h];exact .inr (by decide)
 |cons t ts=>
  obtain⟨h1,_,h3,_⟩:=at_cons h
  rw[h1,h3]
  by_cases hk:t.Kind=3
  ·refine .inl ?_
   cases ho:opK t.Text b with
   |none=>rfl
   |some o=>
    exfalso
    have hm:o∈opsI:=List.mem_of_find?_eq_some ho
    have hs:=List.find?_some ho
    simp only[yD]at hs
    apply hn
    simp only[nxB,hk,if_true]
    cases hf:opsI.find? fun p=>decide (sgnT p=t.Text)with
    |none=>
     have:=List.find?_eq_none.1 hf o hm
     simp[hs.1]at this
    |some p=>
     have hp:=List.find?_some hf
     simp only[yD]at hp
     have:=sgnT_inj o hm p (List.mem_of_find?_eq_some hf) (hs.1.trans hp.symm)
     subst this
     exact hs.2
  ·exact .inr hk
theorem down{r R r':Rdr}{ts:List Glex_Token}(hR:AtT R ts):∀(d:Nat) (b:Int),1≤b→b+d≤5→RdT (.level (b+d+1)) r R→nxB ts≤b→RdT (.rest b) R r'→RdT (.level b) r r'
 |0,b,h1,h5,h,hn,k=>RdT.lv (by omega) (by rw[show b+((0:Nat):Int)+1=b+1 by omega]at h;exact h) k
 |d+1,b,h1,h5,h,hn,k=>by
  refine RdT.lv (by omega) (down hR d (b+1) (by omega) (by omega) ?_ (by omega) (RdT.no (no_op hR (by omega)))) k
  rw[show b+1+((d:Nat):Int)+1=b+((d+1:Nat):Int)+1 by omega]
  exact h
structure Told(s:GScope)(x:GNode):Prop where
 o2:x.Op=2∨x.Op=3→standsK s (nameN s x)=(2,x.N)
 o4:x.Op=4→standsK s (nameN s x)=(4,x.N)
 o6:x.Op=6→fidx (pC (nameN s x)) s.Chans=x.N∧0≤x.N
 o7:x.Op=7→0≤fidx (pP (nameN s x)) s.Procs∧w64 (w64 (16 * fidx (pP (nameN s x)) s.Procs)+Int.tmod x.N 16)=x.N
 o8:x.Op=8→fidx (pS (nameN s x)) s.Scalars=x.N∧0≤x.N
structure Good(s:GScope)(x:GNode):Prop where
 f:Fine s x
 m:Sm x
 d:Told s x
def NB:List Glex_Token→Prop
 |t::_=>t.Text≠[91]
 | []=>True
structure PT(s:GScope)(t:Ex):Prop where
 st:6≤strK t.top→∀(r:Rdr) (ts:List Glex_Token),AtT r (tkOf s t++ts)→r.e=0→r.s=s→NB ts→RdT .strong r (adv r (tkOf s t).length (t.flat.map bareN))
 lv:∀(r:Rdr) (ts:List Glex_Token),AtT r (tkOf s t++ts)→r.e=0→r.s=s→NB ts→∀(b:Int) (r':Rdr),1≤b→b≤5→b≤strK t.top→nxB ts≤b→(strK t.top=3→nxB ts≠3)→RdT (.rest b) (adv r (tkOf s t).length (t.flat.map bareN)) r'→RdT (.level b) r r'
theorem pt_of{s:GScope}{t:Ex}(h6:6≤strK t.top)(h:∀(r:Rdr) (ts:List Glex_Token),AtT r (tkOf s t++ts)→r.e=0→r.s=s→NB ts→RdT .strong r (adv r (tkOf s t).length (t.flat.map bareN))):PT s t:=by
 refine⟨fun _=>h,fun r ts ha he hs hb b r' b1 b5 _ hn _ k=> ?_⟩
 have h1:=(h r ts ha he hs hb).l6
 refine down (at_adv ha rfl _) (5 - b).toNat b b1 (by omega) ?_ hn k
 rw[show b+(((5 - b).toNat:Nat):Int)+1=6 by omega]
 exact h1
theorem pb{s:GScope}{a:Ex}(hw:a.wf)(pa:PT s a)(f:Bool)(r:Rdr)(ts:List Glex_Token)(ha:AtT r (tkB (tkOf s a) f++ts))(he:r.e=0)(hs:r.s=s)(hb:NB ts):
  ((f=false→6≤strK a.top)→RdT .strong r (adv r (tkB (tkOf s a) f).length (a.flat.map bareN)))∧
  ∀(b:Int) (r':Rdr),1≤b→b≤5→(f=false→b≤strK a.top∧(strK a.top=3→nxB ts≠3))→nxB ts≤b→RdT (.rest b) (adv r (tkB (tkOf s a) f).length (a.flat.map bareN)) r'→RdT (.level b) r r':=by
 cases f with
 |false=>
  refine⟨fun h=>pa.st (h rfl) r ts ha he hs hb,fun b r' b1 b5 h hn k=> ?_⟩
  obtain⟨h1,h2⟩:=h rfl
  exact pa.lv r ts ha he hs hb b r' b1 b5 h1 hn h2 k
 |true=>
  have e:tkB (tkOf s a) true++ts=tS [40]::(tkOf s a++tS [41]::ts):=by simp[tkB]
  rw[e]at ha
  obtain⟨k1,_,k3,k4⟩:=at_cons ha
  have hR:AtT (adv r.step (tkOf s a).length (a.flat.map bareN)) (tS [41]::ts):=at_adv k4 rfl _
  have h1:RdT (.level 1) r.step (adv r.step (tkOf s a).length (a.flat.map bareN)):=
   pa.lv r.step (tS [41]::ts) k4 he hs (by show([41]:List UInt8)≠[91];decide) 1 _ (by decide) (by decide) (strK_pos hw) (by show nxB (tS [41]::ts)≤1;simp[nxB,opsI,sgnT]) (fun _=>by simp[nxB,opsI,sgnT]) (RdT.no (no_op hR (by simp[nxB,opsI,sgnT])))
  have hst:RdT .strong r (adv r (tkB (tkOf s a) true).length (a.flat.map bareN)):=by
   have h2:=RdT.br he (by rw[k1];decide) (by rw[at_is ha he];simp) h1
   rw[at_take hR he]at h2
   have e2:(adv r.step (tkOf s a).length (a.flat.map bareN)).step=adv r (tkB (tkOf s a) true).length (a.flat.map bareN):=by
    rw[step_adv r,adv_adv,adv_step,List.nil_append]
    congr 1
    simp[tkB];omega
   rw[e2]at h2
   exact RdT.lf (by rw[at_is ha he];simp) (by rw[at_is ha he];simp) h2
  refine⟨fun _=>hst,fun b r' b1 b5 _ hn k=> ?_⟩
  have ha':AtT r (tkB (tkOf s a) true++ts):=by rw[e];exact ha
  refine down (at_adv ha' rfl _) (5 - b).toNat b b1 (by omega) ?_ hn k
  rw[show b+(((5 - b).toNat:Nat):Int)+1=6 by omega]
  exact hst.l6
theorem bare_op{x:GNode}(h:9≤x.Op):bareN x=⟨x.Op,0⟩:=by unfold bareN;rw[if_neg (by omega)]
theorem not_own'{nm:List UInt8}(h:lexN nm=true):nm≠wS∧nm≠wL∧nm≠wA∧nm≠wN:=by
 have h1:=(lexN_parts h).2.2
 refine⟨?_,?_,?_,?_⟩ <;>(rintro rfl;revert h1;decide)
theorem rd_name{r:Rdr}{nm:List UInt8}{ts:List Glex_Token}(ha:AtT r (tW nm::ts))(he:r.e=0)(hn:lexN nm=true){op v:Int}(hst:standsK r.s nm=(op,v))(h0:op≠0)(hb:op=2→NB ts):RdT .word r (adv r 1 [⟨op,v⟩]):=by
 obtain⟨k1,_,k3,k4⟩:=at_cons ha
 obtain⟨n1,n2,n3,n4⟩:=not_own' hn
 have k3:r.now.Text=nm:=k3
 refine⟨1,?_⟩
 rw[rdK,k3,if_neg n1,if_neg n2,if_neg n3,if_neg n4,hst,if_neg h0,if_neg,show r.step.put op v=adv r 1 [⟨op,v⟩]by rw[step_adv,adv_put he];rfl]
 rintro⟨h2,h91⟩
 have hb:=hb h2
 cases ts with
 |nil=>
  have:=at_nil k4
  unfold Rdr.is at h91
  rw[this]at h91
  simp at h91
 |cons t ts=>
  rw[at_is k4 he]at h91
  simp only[xA,yD]at h91
  exact hb h91.2
theorem leaf_pt{s:GScope}(x:GNode)(hw:takesK x.Op=0)(hx:Good s x):PT s (.leaf x):=by
 have h6:6≤strK (Ex.leaf x).top:=by
  show 6≤strK x
  have:=op_leaf hw
  unfold strK leafB
  rw[if_neg (by omega),if_neg (by omega)]
  split
  ·split <;>decide
  ·decide
 refine pt_of h6 fun r ts ha he hs hb=> ?_
 have htk:tkOf s (.leaf x)=leafTk x (nameN s x):=rfl
 have hfl:(Ex.leaf x).flat.map bareN=[bareN x]:=rfl
 rw[htk]at ha ⊢
 rw[hfl]
 unfold leafTk at ha ⊢
 -- a word:neither '!' nor '-'
 have wd:∀{nm:List UInt8} {us:List Glex_Token} {r':Rdr},AtT r (tW nm::us)→RdT .word r r'→RdT .strong r r':=fun h k=>by
  refine RdT.lf (by rw[at_is h he];simp) (by rw[at_is h he];simp) (RdT.wd he (at_cons h).1 k)
 rcases op_leaf hw with h |h |h |h |h |h |h
 ·rw[if_pos h]at ha ⊢
  have hn:=hx.m.n1 h
  have hbn:bareN x=⟨1,x.N⟩:=by rw[bare_eq (by omega)];cases x;simp only at h;subst h;rfl
  rw[hbn]
  by_cases h0:x.N<0
  ·rw[if_pos h0]at ha ⊢
   obtain⟨_,_,_,k4⟩:=at_cons ha
   obtain⟨m1,m2,_,_⟩:=at_cons k4
   have hq:=RdT.below (by rw[at_is ha he];simp) (by rw[at_is ha he];simp) m1
   rw[m2]at hq
   have e:r.step.step.put 1 (w64 (-(tN (-x.N)).N))=adv r 2 [⟨1,x.N⟩]:=by
    have hv:w64 (-(tN (-x.N)).N)=x.N:=by show w64 (- -x.N)=x.N;rw[Int.neg_neg];exact wrap_i64 (by omega) (by omega)
    rw[hv,step_adv r,adv_step,adv_put he];rfl
   rw[e]at hq
   exact hq
  ·rw[if_neg h0]at ha ⊢
   obtain⟨m1,m2,_,_⟩:=at_cons ha
   have hq:=RdT.lf (by rw[at_is ha he];simp) (by rw[at_is ha he];simp) (RdT.num he m1)
   rw[m2]at hq
   have e:r.step.put 1 (tN x.N).N=adv r 1 [⟨1,x.N⟩]:=by rw[step_adv r,adv_put he];rfl
   rw[e]at hq
   exact hq
 ·rw[if_neg (by omega),if_pos h]at ha ⊢
  have hbn:bareN x=⟨2,x.N⟩:=by rw[bare_eq (by omega)];cases x;simp only at h;subst h;rfl
  rw[hbn]
  exact wd ha (rd_name ha he (hx.f.n (by rw[h];rfl)) (by rw[hs];exact hx.d.o2 (.inl h)) (by decide) (fun _=>hb))
 ·rw[if_neg (by omega),if_neg (by omega),if_pos h]at ha ⊢
  have hbn:bareN x=⟨4,x.N⟩:=by rw[bare_eq (by omega)];cases x;simp only at h;subst h;rfl
  rw[hbn]
  exact wd ha (rd_name ha he (hx.f.n (by rw[h];rfl)) (by rw[hs];exact hx.d.o4 h) (by decide) (fun q=>absurd q (by decide)))
 ·rw[if_neg (by omega),if_neg (by omega),if_neg (by omega),if_pos h]at ha ⊢
  have hbn:bareN x=⟨5,0⟩:=by unfold bareN;rw[if_neg (by omega),h]
  rw[hbn]
  obtain⟨_,_,m3,_⟩:=at_cons ha
  refine wd ha ⟨1,?_⟩
  rw[rdK,if_pos m3,step_adv r,adv_put he];rfl
 ·rw[if_neg (by omega),if_neg (by omega),if_neg (by omega),if_neg (by omega),if_pos h]at ha ⊢
  have hbn:bareN x=⟨6,x.N⟩:=by rw[bare_eq (by omega)];cases x;simp only at h;subst h;rfl
  rw[hbn]
  obtain⟨d1,d2⟩:=hx.d.o6 h
  obtain⟨_,_,m3,a1⟩:=at_cons ha
  obtain⟨_,_,_,a2⟩:=at_cons a1
  obtain⟨_,_,_,a3⟩:=at_cons a2
  refine wd ha ⟨1,?_⟩
  rw[rdK,if_neg (by rw[m3];decide),if_pos m3]
  congr 1
  unfold Rdr.length
  rw[at_take a1 he,at_found a2 he _ (by show 0≤fidx _ r.s.Chans;rw[hs,d1];exact d2)]
  simp only
  rw[at_take a3 he,show fidx (pC (nameN s x)) r.step.s.Chans=x.N by show fidx _ r.s.Chans=_;rw[hs];exact d1,step_adv r,adv_step,adv_step,adv_step,adv_put he];rfl
 ·rw[if_neg (by omega),if_neg (by omega),if_neg (by omega),if_neg (by omega),if_neg (by omega),if_pos h]at ha ⊢
  have hbn:bareN x=⟨7,x.N⟩:=by rw[bare_eq (by omega)];cases x;simp only at h;subst h;rfl
  rw[hbn]
  obtain⟨d1,d2⟩:=hx.d.o7 h
  have h0:=hx.m.n7 h
  have h16:Int.tmod x.N 16<16:=by rw[Int.tmod_eq_emod_of_nonneg h0];omega
  obtain⟨_,_,m3,a1⟩:=at_cons ha
  obtain⟨_,_,_,a2⟩:=at_cons a1
  obtain⟨_,_,_,a3⟩:=at_cons a2
  obtain⟨_,_,_,a4⟩:=at_cons a3
  obtain⟨_,_,_,a5⟩:=at_cons a4
  refine wd ha ⟨1,?_⟩
  rw[rdK,if_neg (by rw[m3];decide),if_neg (by rw[m3];decide),if_pos m3]
  congr 1
  have hfd:(r.step.take [40]).found (fun nm=>fidx (pP nm) r.step.s.Procs)=(fidx (pP (nameN s x)) s.Procs,r.step.step.step):=by
   rw[at_take a1 he,at_found a2 he _ (by show 0≤fidx _ r.s.Procs;rw[hs];exact d1),show r.step.s=s from hs]
  unfold Rdr.whereR Rdr.whereA Rdr.whereI
  rw[hfd]
  simp only
  rw[at_take a3 he,at_wide a4 h16,(at_kind a4 he).1,(at_kind a4 he).2,at_take a5 he,d2,step_adv r,adv_step,adv_step,adv_step,adv_step,adv_step,adv_put he];rfl
 ·rw[if_neg (by omega),if_neg (by omega),if_neg (by omega),if_neg (by omega),if_neg (by omega),if_neg (by omega),if_pos h]at ha ⊢
  have hbn:bareN x=⟨8,x.N⟩:=by rw[bare_eq (by omega)];cases x;simp only at h;subst h;rfl
  rw[hbn]
  obtain⟨d1,d2⟩:=hx.d.o8 h
  obtain⟨_,_,m3,a1⟩:=at_cons ha
  obtain⟨_,_,_,a2⟩:=at_cons a1
  obtain⟨_,_,_,a3⟩:=at_cons a2
  refine wd ha ⟨1,?_⟩
  rw[rdK,if_neg (by rw[m3];decide),if_neg (by rw[m3];decide),if_neg (by rw[m3];decide),if_pos m3]
  congr 1
  unfold Rdr.nothing
  rw[at_take a1 he,at_found a2 he _ (by show 0≤fidx _ r.s.Scalars;rw[hs,d1];exact d2)]
  simp only
  rw[at_take a3 he,show fidx (pS (nameN s x)) r.step.s.Scalars=x.N by show fidx _ r.s.Scalars=_;rw[hs];exact d1,step_adv r,adv_step,adv_step,adv_step,adv_put he];rfl
theorem hd_kind{s:GScope}{t:Ex}(hw:t.wf)(h6:6≤strK t.top)(h1:t.top.Op≠1):∃y l,tkOf s t=y::l∧y.Kind≠2:=by
 cases t with
 |leaf x=>
  have h1:x.Op≠1:=h1
  show ∃y l,leafTk x (nameN s x)=y::l∧y.Kind≠2
  unfold leafTk
  rcases op_leaf hw with h |h |h |h |h |h |h
  ·exact absurd h h1
  all_goals (simp only[h];exact⟨_,_,rfl,by simp⟩)
 |un x a=>
  rcases op_un hw.1 with h |h |h <;>(simp only[tkOf,h];exact⟨_,_,rfl,by simp⟩)
 |bin x a b=>
  exfalso
  have h6:6≤strK x:=h6
  rw[strK_bin (op_bin hw.1)]at h6
  have:=sgnB_le x.Op
  omega
theorem tree_pt{s:GScope}:∀(t:Ex),t.wf→(∀x∈t.flat,Good s x)→PT s t
 | .leaf x,hw,hg=>leaf_pt x hw (hg x (by simp[Ex.flat]))
 | .un x a,hw,hg=>by
  have pa:=tree_pt a hw.2 (fun y hy=>hg y (by simp[Ex.flat,hy]))
  have hx:=hg x (by simp[Ex.flat])
  have h6:6≤strK (Ex.un x a).top:=by
   show 6≤strK x
   rcases op_un hw.1 with h |h |h <;>simp[strK,leafB,h]
  refine pt_of h6 fun r ts ha he hs hb=> ?_
  have hfl:(Ex.un x a).flat.map bareN=a.flat.map bareN++[bareN x]:=by simp[Ex.flat]
  rw[hfl]
  rcases op_un hw.1 with h |h |h
  ·have e:tkOf s (.un x a)++ts=tW (nameN s x)::tS [91]::(tkOf s a++tS [93]::ts):=by simp[tkOf,h]
   have el:(tkOf s (.un x a)).length=(tkOf s a).length+3:=by simp[tkOf,h]
   rw[e]at ha
   rw[el]
   have hbn:bareN x=⟨3,x.N⟩:=by rw[bare_eq (by omega)];cases x;simp only at h;subst h;rfl
   rw[hbn]
   have hn:=hx.f.n (by rw[h];rfl)
   obtain⟨n1,n2,n3,n4⟩:=not_own' hn
   obtain⟨m1,_,m3,a1⟩:=at_cons ha
   obtain⟨_,_,_,a2⟩:=at_cons a1
   have m3:r.now.Text=nameN s x:=m3
   have hst:standsK r.s (nameN s x)=(2,x.N):=by rw[hs];exact hx.d.o2 (.inr h)
   have hR:AtT (adv r.step.step (tkOf s a).length (a.flat.map bareN)) (tS [93]::ts):=at_adv a2 rfl _
   obtain⟨n,hl⟩:RdT (.level 1) r.step.step (adv r.step.step (tkOf s a).length (a.flat.map bareN)):=
    pa.lv r.step.step (tS [93]::ts) a2 he hs (by show([93]:List UInt8)≠[91];decide) 1 _ (by decide) (by decide) (strK_pos hw.2) (by show nxB (tS [93]::ts)≤1;simp[nxB,opsI,sgnT]) (fun _=>by simp[nxB,opsI,sgnT]) (RdT.no (no_op hR (by simp[nxB,opsI,sgnT])))
   refine RdT.lf (by rw[at_is ha he];simp) (by rw[at_is ha he];simp) (RdT.wd he m1 ⟨n+1,?_⟩)
   rw[rdK,m3,if_neg n1,if_neg n2,if_neg n3,if_neg n4,hst,if_neg (show¬(2:Int)=0 by decide),if_pos ⟨rfl,by rw[at_is a1 he];simp⟩,hl]
   simp only[xQ]
   rw[at_take hR he,adv_step,step_adv r,adv_step,adv_adv,adv_put he,List.nil_append]
   congr 2
   omega
  ·have e:tkOf s (.un x a)++ts=tS [33]::(tkB (tkOf s a) (decide (strK a.top<6))++ts):=by simp[tkOf,h]
   have el:(tkOf s (.un x a)).length=(tkB (tkOf s a) (decide (strK a.top<6))).length+1:=by simp[tkOf,h]
   rw[e]at ha
   rw[el,bare_op (by omega),h]
   obtain⟨_,_,_,a1⟩:=at_cons ha
   have hq:=RdT.bang (by rw[at_is ha he];simp) ((pb hw.2 pa _ r.step ts a1 he hs hb).1 fun q=>by simp only[decide_eq_false_iff_not]at q;omega)
   rw[step_adv r,adv_adv,adv_put he,List.nil_append,Nat.add_comm 1]at hq
   exact hq
  ·have e:tkOf s (.un x a)++ts=tS [45]::(tkB (tkOf s a) (decide (strK a.top<6) || decide (a.top.Op=1))++ts):=by simp[tkOf,h]
   have el:(tkOf s (.un x a)).length=(tkB (tkOf s a) (decide (strK a.top<6) || decide (a.top.Op=1))).length+1:=by simp[tkOf,h]
   rw[e]at ha
   rw[el,bare_op (by omega),h]
   obtain⟨_,_,_,a1⟩:=at_cons ha
   have hk:r.step.now.Kind≠2:=by
    have:∃y l,tkB (tkOf s a) (decide (strK a.top<6) || decide (a.top.Op=1))=y::l∧y.Kind≠2:=by
     cases q:(decide (strK a.top<6) || decide (a.top.Op=1))with
     |true=>exact⟨tS [40],_,rfl,by decide⟩
     |false=>
      simp only[Bool.or_eq_false_iff,decide_eq_false_iff_not]at q
      exact hd_kind hw.2 (by omega) q.2
    obtain⟨y,l,e1,e2⟩:=this
    have a1':=a1
    rw[e1,List.cons_append]at a1'
    rw[(at_cons a1').1]
    exact e2
   have hq:=RdT.minus (by rw[at_is ha he];simp) (by rw[at_is ha he];simp) hk ((pb hw.2 pa _ r.step ts a1 he hs hb).1 fun q=>by simp only[Bool.or_eq_false_iff,decide_eq_false_iff_not]at q;omega)
   rw[step_adv r,adv_adv,adv_put he,List.nil_append,Nat.add_comm 1]at hq
   exact hq
 | .bin x a c,hw,hg=>by
  have pa:=tree_pt a hw.2.1 (fun y hy=>hg y (by simp[Ex.flat,hy]))
  have pc:=tree_pt c hw.2.2 (fun y hy=>hg y (by simp[Ex.flat,hy]))
  have hop:=op_bin hw.1
  have hk:strK (Ex.bin x a c).top=sgnB x.Op:=strK_bin hop
  have k5:=sgnB_le x.Op
  have k1:=sgnB_pos hop
  refine⟨fun h=>by rw[hk]at h;omega,fun r ts ha he hs hb b r' b1 b5 hbk hn hn3 k=> ?_⟩
  rw[hk]at hbk hn3
  have e:tkOf s (.bin x a c)++ts=tkB (tkOf s a) (joinL x.Op (strK a.top))++(tS (sgnT x.Op)::(tkB (tkOf s c) (joinR x.Op (strK c.top))++ts)):=by simp[tkOf]
  have el:(tkOf s (.bin x a c)).length=(tkB (tkOf s a) (joinL x.Op (strK a.top))).length+1+(tkB (tkOf s c) (joinR x.Op (strK c.top))).length:=by simp[tkOf];omega
  have hfl:(Ex.bin x a c).flat.map bareN=a.flat.map bareN++c.flat.map bareN++[⟨x.Op,0⟩]:=by simp[Ex.flat,bare_op (show 9≤x.Op by omega)]
  rw[e]at ha
  rw[el,hfl]at k
  have hR:AtT (adv r ((tkB (tkOf s a) (joinL x.Op (strK a.top))).length+1+(tkB (tkOf s c) (joinR x.Op (strK c.top))).length) (a.flat.map bareN++c.flat.map bareN++[⟨x.Op,0⟩])) ts:=by
   have ha2:AtT r ((tkB (tkOf s a) (joinL x.Op (strK a.top))++tS (sgnT x.Op)::tkB (tkOf s c) (joinR x.Op (strK c.top)))++ts):=by simpa using ha
   exact at_adv ha2 (by simp;omega) _
  generalize hfa:joinL x.Op (strK a.top)=fa at *
  generalize hfc:joinR x.Op (strK c.top)=fc at *
  -- behind the first part
  have h1:AtT (adv r (tkB (tkOf s a) fa).length (a.flat.map bareN)) (tS (sgnT x.Op)::(tkB (tkOf s c) fc++ts)):=at_adv ha rfl _
  obtain⟨q1,_,q3,q4⟩:=at_cons h1
  have n1:nxB (tS (sgnT x.Op)::(tkB (tkOf s c) fc++ts))=sgnB x.Op:=nx_sgn hop _
  have fc_ok:fc=false→sgnB x.Op+1≤strK c.top:=fun h=>by
   rw[h]at hfc
   unfold joinR at hfc
   split at hfc <;>simp only[decide_eq_false_iff_not]at hfc <;>omega
  -- the second part
  have r2:RdT (.level (sgnB x.Op+1)) (adv r (tkB (tkOf s a) fa).length (a.flat.map bareN)).step (adv (adv r (tkB (tkOf s a) fa).length (a.flat.map bareN)).step (tkB (tkOf s c) fc).length (c.flat.map bareN)):=by
   obtain⟨p1,p2⟩:=pb hw.2.2 pc fc _ ts q4 he hs hb
   by_cases h5:sgnB x.Op=5
   ·rw[h5]
    exact(p1 fun q=>by have:=fc_ok q;omega).l6
   ·refine p2 (sgnB x.Op+1) _ (by omega) (by omega) (fun q=>⟨fc_ok q,fun h3=>by have:=fc_ok q;omega⟩) (by omega) (RdT.no (no_op (at_adv q4 rfl _) (by omega)))
  have ep:(adv (adv r (tkB (tkOf s a) fa).length (a.flat.map bareN)).step (tkB (tkOf s c) fc).length (c.flat.map bareN)).put x.Op 0=adv r ((tkB (tkOf s a) fa).length+1+(tkB (tkOf s c) fc).length) (a.flat.map bareN++c.flat.map bareN++[⟨x.Op,0⟩]):=by
   rw[adv_step,adv_adv,adv_put he]
  have n0:NB (tS (sgnT x.Op)::(tkB (tkOf s c) fc++ts)):=by
   have:∀o∈opsI,sgnT o≠[91]:=by decide
   exact this x.Op (opsI_mem hop)
  -- of its own strength
  have own:∀r2',(sgnB x.Op=3→r2'=adv r ((tkB (tkOf s a) fa).length+1+(tkB (tkOf s c) fc).length) (a.flat.map bareN++c.flat.map bareN++[⟨x.Op,0⟩]))→(sgnB x.Op≠3→RdT (.rest (sgnB x.Op)) (adv r ((tkB (tkOf s a) fa).length+1+(tkB (tkOf s c) fc).length) (a.flat.map bareN++c.flat.map bareN++[⟨x.Op,0⟩])) r2')→RdT (.level (sgnB x.Op)) r r2':=fun r2' o3 on=>by
   have hrest:RdT (.rest (sgnB x.Op)) (adv r (tkB (tkOf s a) fa).length (a.flat.map bareN)) r2':=
    RdT.op he q1 (by rw[q3];exact op_sgn hop) r2 (fun h=>by rw[ep];exact o3 h) (fun h=>by rw[ep];exact on h)
   obtain⟨_,p2⟩:=pb hw.2.1 pa fa r _ ha he hs n0
   by_cases h3:sgnB x.Op=3
   ·have fa_ok:fa=false→4≤strK a.top:=fun h=>by
     rw[h]at hfa
     unfold joinL at hfa
     rw[if_pos h3]at hfa
     simp only[decide_eq_false_iff_not]at hfa
     omega
    refine RdT.lv (by omega) (p2 (sgnB x.Op+1) _ (by omega) (by omega) (fun q=>⟨by have:=fa_ok q;omega,fun h=>by have:=fa_ok q;omega⟩) (by rw[n1];omega) (RdT.no (no_op h1 (by rw[n1];omega)))) hrest
   ·have fa_ok:fa=false→sgnB x.Op≤strK a.top:=fun h=>by
     rw[h]at hfa
     unfold joinL at hfa
     rw[if_neg h3]at hfa
     simp only[decide_eq_false_iff_not]at hfa
     omega
    exact p2 (sgnB x.Op) _ k1 k5 (fun q=>⟨fa_ok q,fun _=>by rw[n1];exact h3⟩) (by rw[n1];omega) hrest
  by_cases hbe:b=sgnB x.Op
  ·subst hbe
   refine own r' (fun h3=> ?_) (fun _=>k)
   exact k.uniq (RdT.no (no_op hR (by rw[h3];exact hn3 h3)))
  ·have hlv:=own _ (fun _=>rfl) (fun _=>RdT.no (no_op hR (by omega)))
   refine down hR (sgnB x.Op - b - 1).toNat b b1 (by omega) ?_ hn k
   rw[show b+(((sgnB x.Op - b - 1).toNat:Nat):Int)+1=sgnB x.Op by omega]
   exact hlv
end Go.Etx
namespace Go.Etx
open Go Go.Am Go.Proofs
theorem node_bare(x:GNode)(s:GScope)(st:List Int):nodeK (bareN x) s st=nodeK x s st:=by
 by_cases h:x.Op≤4∨(6≤x.Op∧x.Op≤8)
 ·rw[bare_eq h]
 ·have ho:(bareN x).Op=x.Op:=rfl
  unfold nodeK
  rw[ho,if_neg (show¬x.Op=3 by omega),if_neg (show¬x.Op=3 by omega)]
  split
  ·unfold leafK
   rw[ho,if_neg (show¬x.Op=1 by omega),if_neg (show¬x.Op=1 by omega),if_neg (show¬x.Op=2 by omega),if_neg (show¬x.Op=2 by omega),if_neg (show¬x.Op=4 by omega),if_neg (show¬x.Op=4 by omega)]
   unfold namedK
   rw[ho]
   by_cases h5:x.Op=5
   ·rw[if_pos h5,if_pos h5]
   ·simp only[h5,show¬x.Op=6 by omega,show¬x.Op=7 by omega,show¬x.Op=8 by omega,if_false]
  ·rfl
theorem step_bare(x:GNode)(s:GScope)(st:List Int):stepK (bareN x) s st=stepK x s st:=by
 unfold stepK
 rw[node_bare];rfl
theorem run_bare(s:GScope):∀(e:List GNode) (st:List Int),runK s (e.map bareN) st=runK s e st
 | [],st=>rfl
 |x::r,st=>by rw[List.map_cons,runK,runK,step_bare,run_bare s r]
theorem kind_bare(e:List GNode)(s:GScope):kindK (e.map bareN) s=kindK e s:=by
 unfold kindK
 rw[List.length_map,run_bare]
 cases e <;>rfl
theorem name_bare(x:GNode)(s:GScope):nameP [] (bareN x) s=nameP [] x s:=by
 by_cases h:x.Op≤4∨(6≤x.Op∧x.Op≤8)
 ·rw[bare_eq h]
 ·have ho:(bareN x).Op=x.Op:=rfl
  unfold nameP
  rw[ho]
  simp only[show¬(x.Op=2∨x.Op=3)by omega,show¬x.Op=4 by omega,show¬x.Op=6 by omega,show¬x.Op=7 by omega,show¬x.Op=8 by omega,if_false]
theorem bad_bare(x:GNode)(s:GScope):badE s (bareN x)=badE s x:=by
 unfold badE
 rw[name_bare]
 cases nameP [] x s <;>rfl
theorem in_bare{x:GNode}(h:Tr7.inR x.N=true):Tr7.inR (bareN x).N=true:=by
 unfold bareN
 simp only
 split
 ·exact h
 ·rfl
theorem inR_le{x:GNode}(h:Tr7.inR x.N=true):x.N≤9223372036854775807:=by
 simp only[Tr7.inR,xA,yD]at h
 exact h.2
theorem kind_of_text{e:List GNode}{s:GScope}(h:(textK e s).2=0):(kindK e s).2=0:=by
 by_cases k:(kindK e s).2=0
 ·exact k
 ·unfold textK at h;rw[if_pos k]at h;exact h
theorem text_bare{e:List GNode}{s:GScope}(hr:∀x∈e,Tr7.inR x.N=true)(h:(textK e s).2=0):textK (e.map bareN) s=textK e s:=by
 have hk:=kind_of_text h
 obtain⟨t,t1,t2,t3,t4⟩:=tree_of (fun x hx=>inR_le (hr x hx)) hk
 obtain⟨u,u1,u2,u3,u4⟩:=tree_of (e:=e.map bareN) (s:=s) (fun x hx=>by
  obtain⟨y,hy,rfl⟩:=List.mem_map.1 hx
  exact inR_le (in_bare (hr y hy))) (by rw[kind_bare];exact hk)
 have hb:=trees_bare e []
 rw[List.map_nil,u1,t1]at hb
 simp only[List.map_cons,List.map_nil,xC,and_true]at hb
 have ha:(e.map bareN).any (badE s)=e.any (badE s):=by
  rw[List.any_map]
  congr 1
  funext x
  exact bad_bare x s
 rw[u4,t4,ha,hb,part_bare]
theorem run_sm{s:GScope}:∀{e:List GNode} {ks:List Int},(runK s e ks).1=0→∀x∈e,Sm x
 | [],_,_,x,hx=>by cases hx
 |y::r,ks,h,x,hx=>by
  rw[runK]at h
  by_cases h0:(stepK y s ks).1=0
  ·rw[if_pos h0]at h
   rcases List.mem_cons.1 hx with rfl |hx
   ·have hn:(nodeK x s ks).2=0:=by
     unfold stepK at h0
     split at h0
     ·simp at h0
     split at h0
     ·simp at h0
     split at h0
     ·exact h0
     ·rename_i q;simpa using q
    unfold nodeK at hn
    refine⟨fun h1=> ?_,fun h7=> ?_⟩
    ·rw[if_neg (by omega),if_pos (by rw[h1];rfl)]at hn
     unfold leafK numK at hn
     rw[if_pos h1]at hn
     split at hn
     ·assumption
     ·simp at hn
    ·rw[if_neg (by omega),if_pos (by rw[h7];rfl)]at hn
     unfold leafK namedK at hn
     rw[if_neg (by omega),if_neg (by omega),if_neg (by omega),if_neg (by omega),if_neg (by omega),if_pos h7]at hn
     split at hn
     ·rename_i q;exact q.1
     ·simp at hn
   ·exact run_sm h x hx
  ·rw[if_neg h0]at h;exact absurd h h0
theorem told_of{s:GScope}{x:GNode}(hr:Tr7.inR x.N=true)(hm:Sm x)(hb:badE s x=false):Told s x:=by
 obtain⟨_,p,hp,hq⟩:=fine_of hr hb
 refine⟨fun h=> ?_,fun h=> ?_,fun h=> ?_,fun h=> ?_,fun h=> ?_⟩
 ·obtain⟨p2,hn⟩:=hq (by rcases h with h |h <;>(rw[h];rfl))
  rw[hn]
  unfold nameP at hp
  rw[if_pos h]at hp
  split at hp
  ·rename_i h0
   simp only[xM]at hp
   obtain⟨w,_,rfl⟩:=hp
   simp only[xA,yD]at p2
   unfold standsK
   simp only
   rw[if_neg (by omega),if_pos (by rw[p2.2];exact h0),p2.2]
  ·cases hp
 ·obtain⟨p2,hn⟩:=hq (by rw[h];rfl)
  rw[hn]
  unfold nameP at hp
  rw[if_neg (by omega),if_pos h]at hp
  split at hp
  ·rename_i h0
   simp only[xM]at hp
   obtain⟨w,_,rfl⟩:=hp
   simp only[yD]at p2
   unfold standsK
   simp only
   rw[if_pos (by rw[p2];exact h0),p2]
  ·cases hp
 ·obtain⟨p2,hn⟩:=hq (by rw[h];rfl)
  rw[hn]
  unfold nameP at hp
  rw[if_neg (by omega),if_neg (by omega),if_pos h]at hp
  split at hp
  ·rename_i h0
   simp only[xM]at hp
   obtain⟨w,_,rfl⟩:=hp
   simp only[yD]at p2
   exact⟨p2,h0⟩
  ·cases hp
 ·obtain⟨p2,hn⟩:=hq (by rw[h];rfl)
  rw[hn]
  have h0:=hm.n7 h
  unfold nameP at hp
  rw[if_neg (by omega),if_neg (by omega),if_neg (by omega),if_pos h]at hp
  split at hp
  ·rename_i h1
   simp only[xM]at hp
   obtain⟨w,_,rfl⟩:=hp
   simp only[yD]at p2
   rw[w64_id hr]at p2 h1
   refine⟨by rw[p2];exact h1,?_⟩
   have hr':=hr
   simp only[Tr7.inR,xA,yD]at hr'
   have e1:16 * Int.tdiv x.N 16+Int.tmod x.N 16=x.N:=Int.mul_tdiv_add_tmod x.N 16
   rw[p2]
   have e2:Int.tdiv x.N 16=x.N / 16:=Int.tdiv_eq_ediv_of_nonneg h0
   have w1:w64 (16 * Int.tdiv x.N 16)=16 * Int.tdiv x.N 16:=wrap_i64 (by omega) (by omega)
   rw[w1,e1]
   exact wrap_i64 hr'.1 hr'.2
  ·cases hp
 ·obtain⟨p2,hn⟩:=hq (by rw[h];rfl)
  rw[hn]
  unfold nameP at hp
  rw[if_neg (by omega),if_neg (by omega),if_neg (by omega),if_neg (by omega),if_pos h]at hp
  split at hp
  ·rename_i h0
   simp only[xM]at hp
   obtain⟨w,_,rfl⟩:=hp
   simp only[yD]at p2
   exact⟨p2,h0⟩
  ·cases hp
theorem back{e:List GNode}{s:GScope}(hr:∀x∈e,Tr7.inR x.N=true)(h:(textK e s).2=0):parseK (textK e s).1 s=(e.map bareN,0,0)∧(textK e s).1.length≤20000:=by
 have hk:=kind_of_text h
 obtain⟨k1,k2,k3,k4⟩:=kind_ok hk
 obtain⟨t,t1,t2,t3,t4⟩:=tree_of (fun x hx=>inR_le (hr x hx)) hk
 have hb:e.any (badE s)=false:=by
  cases q:e.any (badE s)with
  |true=>rw[t4,q]at h;cases h
  |false=>rfl
 rw[hb]at t4
 simp only[xH,if_false]at t4
 have good:∀x∈t.flat,Good s x:=fun x hx=>by
  rw[t2]at hx
  have hbx:badE s x=false:=by
   rw[yG]at hb
   simpa using hb x hx
  have hm:=run_sm k3 x hx
  exact⟨(fine_of (hr x hx) hbx).1,hm,told_of (hr x hx) hm hbx⟩
 have htx:(textK e s).1=(partOf s t).text:=by rw[t4]
 have hsc:Sc (partOf s t).text (tkOf s t) []:=by
  have:=sc_text t t3 (fun x hx=>⟨(good x hx).f,(good x hx).m⟩) [] [] [] (fun c q=>by simp at q) (Sc.nil [])
  rwa [List.append_nil,List.append_nil]at this
 obtain⟨l1,l2⟩:=text_len t t3 (fun x hx=>(good x hx).f)
 rw[t2]at l1 l2
 rw[htx]
 refine⟨?_,by omega⟩
 obtain⟨toks,s1,s2⟩:=sc_all hsc (by omega) (by omega)
 have hat:AtT (rd0 (partOf s t).text s toks) (tkOf s t++[]):=by
  rw[List.append_nil]
  exact s2
 have hR:AtT (adv (rd0 (partOf s t).text s toks) (tkOf s t).length (t.flat.map bareN)) []:=at_adv hat rfl _
 have hlv:RdT (.level 1) (rd0 (partOf s t).text s toks) (adv (rd0 (partOf s t).text s toks) (tkOf s t).length (t.flat.map bareN)):=
  (tree_pt t t3 good).lv _ [] hat rfl rfl trivial 1 _ (by decide) (by decide) (strK_pos t3) (by show(0:Int)≤1;decide) (fun _=>by show(0:Int)≠3;decide) (RdT.no (no_op hR (by show(0:Int)≠1;decide)))
 have hrd:readK (partOf s t).text s toks=adv (rd0 (partOf s t).text s toks) (tkOf s t).length (t.flat.map bareN):=RdT.uniq ⟨_,read_eq _ _ _⟩ hlv
 have hlen:toks.length=(tkOf s t).length:=by rw[←s2,List.length_map]
 unfold parseK
 rw[s1]
 simp only
 rw[if_neg (by simp),hrd]
 have hend:endK (adv (rd0 (partOf s t).text s toks) (tkOf s t).length (t.flat.map bareN))=adv (rd0 (partOf s t).text s toks) (tkOf s t).length (t.flat.map bareN):=by
  unfold endK
  rw[if_neg]
  rintro⟨_,q⟩
  have q:0+(tkOf s t).length<toks.length:=q
  omega
 rw[hend]
 have hout:(adv (rd0 (partOf s t).text s toks) (tkOf s t).length (t.flat.map bareN)).out=e.map bareN:=by
  show []++t.flat.map bareN=_
  rw[List.nil_append,t2]
 unfold doneK
 rw[hout,if_neg (by show¬(0:Int)≠0;decide),kind_bare,if_neg (by simpa using hk),text_bare hr h,if_neg (by simpa using h),htx,if_pos rfl]
end Go.Etx
namespace Go.Am
open Go
variable{P:Program}{hints:FuncId→Hint}
def callS(P:Program)(hint:FuncId→Hint)(c:CallF)(n:Nat)(f:FuncId)(ds:List D)(H:List Ob):Option (List T×List Ob):=
 if YB≤f then roundN P c hint n (f - YB) ds H else
 match (hint f).ext with
 |some F=>(F ds).bind fun rs=>if isPanT rs=true then none else some (rs,H)
 |none=>
 (P.funcs[f]?).bind fun fn=>fn.body.bind fun cd=>
  if ds.length=fn.params.size+fn.nfree∧codeOk fn.ntmps cd=true∧(fn.name== "runtime.NumGoroutine")=false then
   if(hint f).rcv=true then(recN P c hint n f cd fn.ntmps (enter ds H)).bind (leave P (hint f).own fn H.length)
   else if(decide ((hint f).nilt≠0)&&emptyArg ds)=true then
    bothE H.length (flagE (hint f) ds) ((codeN P c (hint f) n cd (enterE true H)).bind (leave P (hint f).own fn H.length)) ((codeN P c (hint f) n cd (enterE false H)).bind (leave P (hint f).own fn H.length))
   else(codeN P c (hint f) n cd (enter ds H)).bind (leave P (hint f).own fn H.length)
  else if ds.length+1=fn.params.size+fn.nfree∧codeOk fn.ntmps cd=true∧(fn.name== "runtime.NumGoroutine")=false then
   (rowOf H).bind fun es=>(codeN P c (hint f) n cd (enterR es ds)).bind (leave P (hint f).own fn 0)
  else none
theorem callS_mono{c c':CallF}(ih:CallLe c c'){n m:Nat}(hn:n≤m){f:FuncId}{ds:List D}{H:List Ob}{r:List T×List Ob}(e:callS P hints c n f ds H=some r):callS P hints c' m f ds H=some r:=by
 unfold callS at e ⊢
 by_cases hy:YB≤f
 ·rw[if_pos hy]at e ⊢
  exact roundN_mono ih hn e
 rw[if_neg hy]at e ⊢
 split at e
 ·exact e
 simp only[xB]at e ⊢
 obtain⟨fn,h1,cd,h2,e⟩:=e
 refine⟨fn,h1,cd,h2,?_⟩
 split at e
 ·rename_i hh
  rw[if_pos hh]
  by_cases hr:(hints f).rcv=true
  ·rw[if_pos hr]at e ⊢
   simp only[xB]at e ⊢
   obtain⟨x,e1,e2⟩:=e
   exact⟨x,recN_mono ih hn e1,e2⟩
  rw[if_neg hr]at e ⊢
  by_cases hnil:(decide ((hints f).nilt≠0)&&emptyArg ds)=true
  ·rw[if_pos hnil]at e ⊢
   obtain⟨t1,t2,H1,H2,ht,q1,q2,l1,l2,m1,m2,rfl⟩:=bothE_some e
   simp only[xB]at q1 q2
   obtain⟨x,e1,e2⟩:=q1
   obtain⟨y,e3,e4⟩:=q2
   show bothE H.length (flagE (hints f) ds) ((codeN P c' (hints f) m cd (enterE true H)).bind (leave P (hints f).own fn H.length)) ((codeN P c' (hints f) m cd (enterE false H)).bind (leave P (hints f).own fn H.length))=_
   rw[codeN_mono ih hn cd _ _ e1,codeN_mono ih hn cd _ _ e3,xS,xS,e2,e4]
   exact bothE_of ht l1 l2 m1 m2
  rw[if_neg hnil]at e ⊢
  simp only[xB]at e ⊢
  obtain⟨x,e1,e2⟩:=e
  exact⟨x,codeN_mono ih hn cd _ _ e1,e2⟩
 ·rename_i hh
  rw[if_neg hh]
  split at e
  ·rename_i h3
   rw[if_pos h3]
   simp only[xB]at e ⊢
   obtain⟨es,e0,x,e1,e2⟩:=e
   exact⟨es,e0,x,codeN_mono ih hn cd _ _ e1,e2⟩
  ·cases e
abbrev Memo:=List (FuncId×List D×List T)
def memo:Memo→FuncId→List D→Option (List T)
 | [],_,_=>none
 |e::K,f,ds=>if(Nat.beq e.1 f&&D.beqs e.2.1 ds)=true then some e.2.2 else memo K f ds
def callM(P:Program)(hint:FuncId→Hint)(K:Memo):Nat→CallF
 |0,_,_,_=>none
 |n+1,f,ds,H=>match H with
  | []=>match memo K f ds with
   |some rs=>some (rs,[])
   |none=>callS P hint (callM P hint K n) n f ds []
  |o::r=>callS P hint (callM P hint K n) n f ds (o::r)
def Memo.OK(P:Program)(hint:FuncId→Hint):Memo→Prop
 | []=>True
 |e::K=>callX P hint e.1 e.2.1 []=some (e.2.2,[])∧Memo.OK P hint K
theorem memo_ok:∀(K:Memo),K.OK P hints→∃n,∀f ds rs,memo K f ds=some rs→callN P hints n f ds []=some (rs,[])
 | [],_=>⟨0,fun _ _ _ h=>by cases h⟩
 |e::K,h=>by
  obtain⟨n,hn⟩:=memo_ok K h.2
  obtain⟨m,hm⟩:=callX_iff.1 h.1
  refine⟨max n m,fun f ds rs q=> ?_⟩
  unfold memo at q
  split at q
  ·rename_i hh
   simp only[xA,xJ]at hh q
   obtain⟨h1,h2⟩:=hh
   have h1:=Nat.eq_of_beq_eq_true h1
   have h2:=D.beqs_eq _ _ h2
   subst h1
   subst h2
   subst q
   exact callN_mono (Nat.le_max_right _ _) _ _ _ _ hm
  ·exact callN_mono (Nat.le_max_left _ _) _ _ _ _ (hn f ds rs q)
theorem callM_ok{K:Memo}{N:Nat}(h:∀f ds rs,memo K f ds=some rs→callN P hints N f ds []=some (rs,[])):∀n,CallLe (callM P hints K n) (callN P hints (N+n))
 |0=>fun f ds H r e=>by cases e
 |n+1=>fun f ds H r e=>by
  have ih:=callM_ok h n
  have key:∀H,callS P hints (callM P hints K n) n f ds H=some r→callN P hints (N+(n+1)) f ds H=some r:=fun H e=>
   callS_mono (c':=callN P hints (N+n)) ih (Nat.le_add_left n N) e
  cases H with
  |nil=>
   simp only[callM]at e
   split at e
   ·rename_i rs hm
    simp only[xJ]at e
    subst e
    exact callN_mono (Nat.le_add_right N (n+1)) _ _ _ _ (h f ds rs hm)
   ·exact key _ e
  |cons o H=>exact key _ e
theorem callX_memo{f:FuncId}{ds:List D}{H:List Ob}{r:List T×List Ob}(K:Memo)(hK:K.OK P hints)(n:Nat)(e:callM P hints K n f ds H=some r):callX P hints f ds H=some r:=by
 obtain⟨N,hN⟩:=memo_ok K hK
 exact callX_iff.2 ⟨N+n,callM_ok hN n f ds H r e⟩
end Go.Am
namespace Go.Etx
open Go Go.Am Go.Proofs
set_option maxRecDepth 20000
def m0:FuncId×List D×List T:=(18,[.sl true [.agg [.int .i64 (2),.int .i64 (0)],.agg [.int .i64 (1),.int .i64 (1)],.agg [.int .i64 (11),.int .i64 (0)],.agg [.int .i64 (1),.int .i64 (2)],.agg [.int .i64 (13),.int .i64 (0)]],.agg [.sl true [],.sl true [.agg [.str [120],.int .i64 (0),.int .i64 (0),.int .i64 (0),.int .i64 (9),.int .i64 (0)],.agg [.str [121],.int .i64 (0),.int .i64 (0),.int .i64 (0),.int .i64 (9),.int .i64 (0)]],.sl true [],.sl true [],.sl true [],.int .i64 (0)]],[.d (.int .i64 (0)),.d (.int .i64 (0))])
theorem M0:call m0.1 m0.2.1 []=some (m0.2.2,[]):=callX_memo [] trivial 60 (by kernel_rfl)
def m1:FuncId×List D×List T:=(9,[.sl true [.agg [.int .i64 (2),.int .i64 (0)],.agg [.int .i64 (1),.int .i64 (1)],.agg [.int .i64 (11),.int .i64 (0)],.agg [.int .i64 (1),.int .i64 (2)],.agg [.int .i64 (13),.int .i64 (0)]],.agg [.sl true [],.sl true [.agg [.str [120],.int .i64 (0),.int .i64 (0),.int .i64 (0),.int .i64 (9),.int .i64 (0)],.agg [.str [121],.int .i64 (0),.int .i64 (0),.int .i64 (0),.int .i64 (9),.int .i64 (0)]],.sl true [],.sl true [],.sl true [],.int .i64 (0)]],[.d (.str [40,120,32,43,32,49,41,32,42,32,50]),.d (.int .i64 (0))])
theorem M1:call m1.1 m1.2.1 []=some (m1.2.2,[]):=callX_memo [m0] ⟨M0,trivial⟩ 60 (by kernel_rfl)
def m2:FuncId×List D×List T:=(34,[.str [45,32,121,32,45,32,49]],[.d (.agg [.int .i64 (3),.int .i64 (0),.int .i64 (0),.str [45]]),.d (.int .i64 (0))])
theorem M2:call m2.1 m2.2.1 []=some (m2.2.2,[]):=callX_memo [] trivial 60 (by kernel_rfl)
def m3:FuncId×List D×List T:=(34,[.str [45,32,49]],[.d (.agg [.int .i64 (3),.int .i64 (0),.int .i64 (0),.str [45]]),.d (.int .i64 (0))])
theorem M3:call m3.1 m3.2.1 []=some (m3.2.2,[]):=callX_memo [] trivial 60 (by kernel_rfl)
def m4:FuncId×List D×List T:=(9,[.sl true [.agg [.int .i64 (2),.int .i64 (0)],.agg [.int .i64 (2),.int .i64 (1)],.agg [.int .i64 (12),.int .i64 (0)],.agg [.int .i64 (1),.int .i64 (1)],.agg [.int .i64 (12),.int .i64 (0)]],.agg [.sl true [],.sl true [.agg [.str [120],.int .i64 (0),.int .i64 (0),.int .i64 (0),.int .i64 (9),.int .i64 (0)],.agg [.str [121],.int .i64 (0),.int .i64 (0),.int .i64 (0),.int .i64 (9),.int .i64 (0)]],.sl true [],.sl true [],.sl true [],.int .i64 (0)]],[.d (.str [120,32,45,32,121,32,45,32,49]),.d (.int .i64 (0))])
theorem M4:call m4.1 m4.2.1 []=some (m4.2.2,[]):=callX_memo [] trivial 60 (by kernel_rfl)
def m5:FuncId×List D×List T:=(8,[.str [120,32,45,32,121,32,45,32,49],.agg [.sl false [],.sl false [.agg [.str [120],.int .i64 (0),.int .i64 (0),.int .i64 (0),.int .i64 (9),.int .i64 (0)],.agg [.str [121],.int .i64 (0),.int .i64 (0),.int .i64 (0),.int .i64 (9),.int .i64 (0)]],.sl false [],.sl false [],.sl false [],.int .i64 (0)]],[.d (.sl false [.agg [.int .i64 (2),.int .i64 (0)],.agg [.int .i64 (2),.int .i64 (1)],.agg [.int .i64 (12),.int .i64 (0)],.agg [.int .i64 (1),.int .i64 (1)],.agg [.int .i64 (12),.int .i64 (0)]]),.d (.int .i64 (0)),.d (.int .i64 (0))])
theorem M5:call m5.1 m5.2.1 []=some (m5.2.2,[]):=callX_memo [m2,m3,m4] ⟨M2,M3,M4,trivial⟩ 60 (by kernel_rfl)
def m6:FuncId×List D×List T:=(9,[.sl true [.agg [.int .i64 (2),.int .i64 (0)],.agg [.int .i64 (1),.int .i64 (1)],.agg [.int .i64 (14),.int .i64 (0)]],.agg [.sl true [],.sl true [.agg [.str [120],.int .i64 (0),.int .i64 (0),.int .i64 (0),.int .i64 (9),.int .i64 (0)],.agg [.str [121],.int .i64 (0),.int .i64 (0),.int .i64 (0),.int .i64 (9),.int .i64 (0)]],.sl true [],.sl true [],.sl true [],.int .i64 (0)]],[.d (.str [120,32,61,61,32,49]),.d (.int .i64 (0))])
theorem M6:call m6.1 m6.2.1 []=some (m6.2.2,[]):=callX_memo [] trivial 60 (by kernel_rfl)
def m7:FuncId×List D×List T:=(8,[.str [120,32,32,61,61,32,49],.agg [.sl false [],.sl false [.agg [.str [120],.int .i64 (0),.int .i64 (0),.int .i64 (0),.int .i64 (9),.int .i64 (0)],.agg [.str [121],.int .i64 (0),.int .i64 (0),.int .i64 (0),.int .i64 (9),.int .i64 (0)]],.sl false [],.sl false [],.sl false [],.int .i64 (0)]],[.d (.sl false []),.d (.int .i64 (2)),.d (.int .i64 (13))])
theorem M7:call m7.1 m7.2.1 []=some (m7.2.2,[]):=callX_memo [m6] ⟨M6,trivial⟩ 60 (by kernel_rfl)
def m8:FuncId×List D×List T:=(8,[.str [120,32,61,61,32],.agg [.sl false [],.sl false [.agg [.str [120],.int .i64 (0),.int .i64 (0),.int .i64 (0),.int .i64 (9),.int .i64 (0)],.agg [.str [121],.int .i64 (0),.int .i64 (0),.int .i64 (0),.int .i64 (9),.int .i64 (0)]],.sl false [],.sl false [],.sl false [],.int .i64 (0)]],[.d (.sl false []),.d (.int .i64 (5)),.d (.int .i64 (3))])
theorem M8:call m8.1 m8.2.1 []=some (m8.2.2,[]):=callX_memo [] trivial 60 (by kernel_rfl)
def m9:FuncId×List D×List T:=(7,[],[.d (.bool true)])
theorem M9:call m9.1 m9.2.1 []=some (m9.2.2,[]):=callX_memo [m1,m5,m7,m8] ⟨M1,M5,M7,M8,trivial⟩ 60 (by kernel_rfl)
end Go.Etx
