/- A part of this seat's proofs, by an abstract machine. Conditions: each law's. -/
import Derived.Test.YtfjdbbpimklecaaGreatDoorV30
import Derived.Test.YtfjdbbpimklecaaGreatDoorV29
import Derived.Shelf.Strings.Builder1
import Derived.Shelf.Small.Bits
import Derived.Shelf.Small.Strs
import Derived.Shelf.Strings.BuilderF
import Derived.Shelf.Strings.BuilderK
import Derived.Shelf.Strconv.Itoa0
import Derived.Shelf.Strconv.Itoa1
import Derived.Shelf.LaysM
import Derived.Shelf.Strconv.Itoa2
import Derived.Shelf.Strconv.Itoa3
import Derived.Shelf.Strconv.AtoiErrFast
import Derived.Shelf.Strconv.ParseIntEmpty
import Derived.Shelf.Strconv.AtoiFail
import Derived.Shelf.Strconv.Clone
import Derived.Shelf.Strconv.SyntaxError
import Derived.Shelf.LaysC
import Derived.Shelf.Strconv.ToError
import Derived.Shelf.Strconv.AtoiErr
import Derived.Shelf.Strings.Search1
import Derived.Shelf.Strings.Search2
import Derived.Shelf.Strings.Cut
import Derived.Shelf.Strings.Shaped
import Derived.Shelf.GgClosure.StringsIndexFunc
import Derived.Ground.GgwProg
import Derived.Shelf.GgClosure.StringsIndexFuncTop
import Derived.Shelf.Strings.FuncGrows
import Derived.Shelf.Strings.BuilderCap
import Derived.Test.YtfjdbbpimklecaaGreatDoorProg
import Derived.Test.YtfjdbbpimklecaaGreatDoorV17
import Derived.Shelf.Strconv.Atoi
import Derived.Ground.Names2Prog
import Derived.Shelf.Slices.SearchI
import Derived.Shelf.Slices.Empties
set_option maxHeartbeats 3200000
set_option maxRecDepth 10000
namespace Go.Proofs
section
open Go.Shelf
open Go.RowKit in
open Go.RowKit in
open Go.RowKit in
def Tryz.XB:Go.Shelf.Ren:=⟨fun|137=>220|217=>233|266=>245|n=>n,fun|9=>9|5=>5|3=>3|n=>n,fun|n=>n⟩
theorem Tryz.zgV:Go.Proofs.Lays.n137 Tryz.prog Tryz.XB:={
 mixed:=by kernel_rfl
 f137:=Tryz.func220.trans (congrArg some (by kernel_rfl))
 f217:=Tryz.func233.trans (congrArg some (by kernel_rfl))
 f266:=Tryz.func245.trans (congrArg some (by kernel_rfl))
 t3:=Tryz.underlying3
 a3:=Tryz.isAgg3
 z3:=Tryz.sizeOf3
 v3:=Tryz.zeroValue3
 t5:=Tryz.underlying5
 a5:=Tryz.isAgg5
 z5:=Tryz.sizeOf5
 v5:=Tryz.zeroValue5
 t9:=Tryz.underlying9
 a9:=Tryz.isAgg9
 z9:=Tryz.sizeOf9
 v9:=Tryz.zeroValue9}
open Go.RowKit in
theorem Tryz.strings_IndexByte(s:ByteArray)(c:Int)(w:World):
  Calls Tryz.prog 220 #[.string s,.int .u8 c] w fun e w'=>e=.returned (.int .i64 (Lib.indexByte s.data.toList c.toNat.toUInt8))∧w'=w:=Any.strings_IndexByte Tryz.zgV s c w
open Go.RowKit in
open Go.RowKit in
open Go.RowKit in
open Go.RowKit in
open Go.RowKit in
open Go.RowKit in
open Go.Lib in
open Go.Lib in
open Go.Lib in
open Go.Lib in
open Go.RowKit Go.Sort Go.Lib in
open Go.RowKit Go.Sort Go.Lib in
open Go.RowKit Go.Sort Go.Lib in
open Go.RowKit Go.Sort Go.Lib in
open Go.RowKit Go.Sort Go.Lib in
open Go.RowKit Go.Sort Go.Lib in
open Go.RowKit Go.Sort Go.Lib in
open Go.RowKit in
open Go.RowKit in
open Go.RowKit in
open Go.RowKit in
open Go.RowKit in
open Go.RowKit in
open Go.RowKit in
def Tryz.Jw:Go.Shelf.Ren:=⟨fun|172=>232|244=>243|245=>244|247=>253|279=>254|280=>255|281=>256|282=>257|287=>261|316=>262|171=>152|205=>263|321=>264|322=>265|243=>196|246=>224|283=>237|284=>238|285=>239|286=>240|129=>206|317=>246|318=>247|319=>248|320=>249|337=>258|338=>259|n=>n,fun|9=>9|3=>3|75=>190|76=>191|4=>4|5=>5|167=>370|37=>186|0=>0|85=>371|2=>2|168=>373|53=>342|175=>378|46=>306|210=>381|127=>275|145=>389|143=>387|21=>21|171=>359|173=>361|212=>368|51=>340|20=>20|213=>369|232=>383|233=>384|80=>194|n=>n,fun|15=>2|16=>3|17=>0|18=>4|19=>5|n=>n⟩
theorem Tryz.zet:Go.Proofs.LaysC.n172 Tryz.prog Tryz.Jw:={
 mixed:=by kernel_rfl
 f129:=Tryz.func206.trans (congrArg some (by kernel_rfl))
 f171:=Tryz.func152.trans (congrArg some (by kernel_rfl))
 f172:=Tryz.func232.trans (congrArg some (by kernel_rfl))
 f205:=Tryz.func263.trans (congrArg some (by kernel_rfl))
 f243:=Tryz.func196.trans (congrArg some (by kernel_rfl))
 f244:=Tryz.func243.trans (congrArg some (by kernel_rfl))
 f245:=Tryz.func244.trans (congrArg some (by kernel_rfl))
 f246:=Tryz.func224.trans (congrArg some (by kernel_rfl))
 f247:=Tryz.func253.trans (congrArg some (by kernel_rfl))
 f279:=Tryz.func254.trans (congrArg some (by kernel_rfl))
 f280:=Tryz.func255.trans (congrArg some (by kernel_rfl))
 f281:=Tryz.func256.trans (congrArg some (by kernel_rfl))
 f282:=Tryz.func257.trans (congrArg some (by kernel_rfl))
 f283:=Tryz.func237.trans (congrArg some (by kernel_rfl))
 f284:=Tryz.func238.trans (congrArg some (by kernel_rfl))
 f285:=Tryz.func239.trans (congrArg some (by kernel_rfl))
 f286:=Tryz.func240.trans (congrArg some (by kernel_rfl))
 f287:=Tryz.func261.trans (congrArg some (by kernel_rfl))
 f316:=Tryz.func262.trans (congrArg some (by kernel_rfl))
 f317:=Tryz.func246.trans (congrArg some (by kernel_rfl))
 f318:=Tryz.func247.trans (congrArg some (by kernel_rfl))
 f319:=Tryz.func248.trans (congrArg some (by kernel_rfl))
 f320:=Tryz.func249.trans (congrArg some (by kernel_rfl))
 f321:=Tryz.func264.trans (congrArg some (by kernel_rfl))
 f322:=Tryz.func265.trans (congrArg some (by kernel_rfl))
 f337:=Tryz.func258.trans (congrArg some (by kernel_rfl))
 f338:=Tryz.func259.trans (congrArg some (by kernel_rfl))
 t0:=Tryz.underlying0
 a0:=Tryz.isAgg0
 z0:=Tryz.sizeOf0
 v0:=Tryz.zeroValue0
 t2:=Tryz.underlying2
 a2:=Tryz.isAgg2
 z2:=Tryz.sizeOf2
 v2:=Tryz.zeroValue2
 t3:=Tryz.underlying3
 a3:=Tryz.isAgg3
 z3:=Tryz.sizeOf3
 v3:=Tryz.zeroValue3
 t4:=Tryz.underlying4
 a4:=Tryz.isAgg4
 z4:=Tryz.sizeOf4
 v4:=Tryz.zeroValue4
 t5:=Tryz.underlying5
 a5:=Tryz.isAgg5
 z5:=Tryz.sizeOf5
 v5:=Tryz.zeroValue5
 t9:=Tryz.underlying9
 a9:=Tryz.isAgg9
 z9:=Tryz.sizeOf9
 v9:=Tryz.zeroValue9
 t20:=Tryz.underlying20
 a20:=Tryz.isAgg20
 z20:=Tryz.sizeOf20
 v20:=Tryz.zeroValue20
 t21:=Tryz.underlying21
 a21:=Tryz.isAgg21
 z21:=Tryz.sizeOf21
 v21:=Tryz.zeroValue21
 t37:=Tryz.underlying186
 a37:=Tryz.isAgg186
 z37:=Tryz.sizeOf186
 v37:=Tryz.zeroValue186
 t46:=Tryz.underlying306
 a46:=Tryz.isAgg306
 z46:=Tryz.sizeOf306
 v46:=Tryz.zeroValue306
 t51:=Tryz.underlying340
 a51:=Tryz.isAgg340
 z51:=Tryz.sizeOf340
 v51:=Tryz.zeroValue340
 t53:=Tryz.underlying342
 a53:=Tryz.isAgg342
 z53:=Tryz.sizeOf342
 v53:=Tryz.zeroValue342
 t75:=Tryz.underlying190
 a75:=Tryz.isAgg190
 z75:=Tryz.sizeOf190
 v75:=Tryz.zeroValue190
 t76:=Tryz.underlying191
 a76:=Tryz.isAgg191
 z76:=Tryz.sizeOf191
 v76:=Tryz.zeroValue191
 t85:=Tryz.underlying371
 a85:=Tryz.isAgg371
 z85:=Tryz.sizeOf371
 v85:=Tryz.zeroValue371
 t127:=Tryz.underlying275
 a127:=Tryz.isAgg275
 z127:=Tryz.sizeOf275
 v127:=Tryz.zeroValue275
 t143:=Tryz.underlying387
 a143:=Tryz.isAgg387
 z143:=Tryz.sizeOf387
 v143:=Tryz.zeroValue387
 t145:=Tryz.underlying389
 a145:=Tryz.isAgg389
 z145:=Tryz.sizeOf389
 v145:=Tryz.zeroValue389
 t167:=Tryz.underlying370
 a167:=Tryz.isAgg370
 z167:=Tryz.sizeOf370
 v167:=Tryz.zeroValue370
 t168:=Tryz.underlying373
 a168:=Tryz.isAgg373
 z168:=Tryz.sizeOf373
 v168:=Tryz.zeroValue373
 t171:=Tryz.underlying359
 a171:=Tryz.isAgg359
 z171:=Tryz.sizeOf359
 v171:=Tryz.zeroValue359
 t173:=Tryz.underlying361
 a173:=Tryz.isAgg361
 z173:=Tryz.sizeOf361
 v173:=Tryz.zeroValue361
 t175:=Tryz.underlying378
 a175:=Tryz.isAgg378
 z175:=Tryz.sizeOf378
 v175:=Tryz.zeroValue378
 t210:=Tryz.underlying381
 a210:=Tryz.isAgg381
 z210:=Tryz.sizeOf381
 v210:=Tryz.zeroValue381
 t212:=Tryz.underlying368
 a212:=Tryz.isAgg368
 z212:=Tryz.sizeOf368
 v212:=Tryz.zeroValue368
 t213:=Tryz.underlying369
 a213:=Tryz.isAgg369
 z213:=Tryz.sizeOf369
 t232:=Tryz.underlying383
 a232:=Tryz.isAgg383
 z232:=Tryz.sizeOf383
 v232:=Tryz.zeroValue383
 t233:=Tryz.underlying384
 a233:=Tryz.isAgg384
 z233:=Tryz.sizeOf384
 v233:=Tryz.zeroValue384
 g15:=by kernel_rfl
 g16:=by kernel_rfl
 g17:=by kernel_rfl
 g18:=by kernel_rfl
 g19:=by kernel_rfl
 t80:=Tryz.underlying194
 a80:=Tryz.isAgg194
 z80:=Tryz.sizeOf194
 v80:=Tryz.zeroValue194
 i0:=by kernel_rfl
 i2:=by kernel_rfl
 i3:=by kernel_rfl
 i4:=by kernel_rfl
 i5:=by kernel_rfl
 i9:=by kernel_rfl
 i20:=by kernel_rfl
 i21:=by kernel_rfl
 i37:=by kernel_rfl
 i46:=by kernel_rfl
 i51:=by kernel_rfl
 i53:=by kernel_rfl
 i75:=by kernel_rfl
 i76:=by kernel_rfl
 i80:=by kernel_rfl
 i85:=by kernel_rfl
 i127:=by kernel_rfl
 i143:=by kernel_rfl
 i145:=by kernel_rfl
 i167:=by kernel_rfl
 i168:=by kernel_rfl
 i171:=by kernel_rfl
 i173:=by kernel_rfl
 i175:=by kernel_rfl
 i210:=by kernel_rfl
 i212:=by kernel_rfl
 i232:=by kernel_rfl
 i233:=by kernel_rfl
 m15:=by kernel_rfl
 m16:=by kernel_rfl
 m17:=by kernel_rfl
 m18:=by kernel_rfl
 m19:=by kernel_rfl
 c0:=by kernel_rfl
 c2:=by kernel_rfl
 c3:=by kernel_rfl
 c4:=by kernel_rfl
 c5:=by kernel_rfl
 c9:=by kernel_rfl
 c20:=by kernel_rfl
 c21:=by kernel_rfl
 c37:=by kernel_rfl
 c46:=by kernel_rfl
 c51:=by kernel_rfl
 c53:=by kernel_rfl
 c75:=by kernel_rfl
 c76:=by kernel_rfl
 c80:=by kernel_rfl
 c85:=by kernel_rfl
 c127:=by kernel_rfl
 c143:=by kernel_rfl
 c145:=by kernel_rfl
 c167:=by kernel_rfl
 c168:=by kernel_rfl
 c171:=by kernel_rfl
 c173:=by kernel_rfl
 c175:=by kernel_rfl
 c210:=by kernel_rfl
 c212:=by kernel_rfl
 c213:=by kernel_rfl
 c232:=by kernel_rfl
 c233:=by kernel_rfl}
open Go.RowKit in
theorem Tryz.strconv_Atoi_err(s:ByteArray)(hl:s.size≤18)(h:Lib.atoi s.data.toList=none)(ev:Value)(w:World)(hv:w.cell? ⟨2,0,none⟩=some ev)(hev:ev=.nilIface∨∃te pe,ev=.iface te pe):
  Calls Tryz.prog 232 #[.string s] w fun e w'=>∃N,e=.returned (.tuple #[.int .i64 0,.iface 373 (.pointer (some ⟨N,0,none⟩))])∧w.heap.size≤N∧w'.heap[N]?=some (.cells #[.string ⟨#[65,116,111,105]⟩,.string s,ev] 381 (0,0))∧Below w.heap.size w w':=Any.strconv_Atoi_err Tryz.zet s hl h ev w hv hev
def Tryz.XS:Go.Shelf.Ren:=⟨fun|217=>233|266=>245|n=>n,fun|9=>9|5=>5|3=>3|n=>n,fun|n=>n⟩
theorem Tryz.zgh:Go.Proofs.Lays.n217 Tryz.prog Tryz.XS:={
 mixed:=by kernel_rfl
 f217:=Tryz.func233.trans (congrArg some (by kernel_rfl))
 f266:=Tryz.func245.trans (congrArg some (by kernel_rfl))
 t3:=Tryz.underlying3
 a3:=Tryz.isAgg3
 z3:=Tryz.sizeOf3
 v3:=Tryz.zeroValue3
 t5:=Tryz.underlying5
 a5:=Tryz.isAgg5
 z5:=Tryz.sizeOf5
 v5:=Tryz.zeroValue5
 t9:=Tryz.underlying9
 a9:=Tryz.isAgg9
 z9:=Tryz.sizeOf9
 v9:=Tryz.zeroValue9}
open Go.RowKit Go.Lib in
theorem Tryz.stringslite_IndexByte(s:ByteArray)(c:Int)(w:World):
  Calls Tryz.prog 233 #[.string s,.int .u8 c] w fun e w'=>e=.returned (.int .i64 (Lib.indexByte s.data.toList c.toNat.toUInt8))∧w'=w:=Any.stringslite_IndexByte Tryz.zgh s c w
open Go.RowKit Go.Lib in
open Go.RowKit Go.Lib in
open Go.RowKit Go.Lib in
open Go.RowKit Go.Lib in
open Go.RowKit Go.Lib in
open Go.RowKit Go.Lib in
open Go.RowKit Go.Lib in
open Go.RowKit Go.Lib in
open Go.RowKit Go.Lib in
open Go.RowKit Go.Lib in
open Go.RowKit Go.Lib in
def Tryz.YD:Go.Shelf.Ren:=⟨fun|15=>188|20=>217|n=>n,fun|9=>9|23=>125|3=>3|4=>4|0=>0|21=>21|n=>n,fun|n=>n⟩
theorem Tryz.zfu:Go.Proofs.LaysGw.n15 Tryz.prog Tryz.YD:={
 mixed:=by kernel_rfl
 f15:=Tryz.func188.trans (congrArg some (by kernel_rfl))
 f20:=Tryz.func217.trans (congrArg some (by kernel_rfl))
 t0:=Tryz.underlying0
 a0:=Tryz.isAgg0
 z0:=Tryz.sizeOf0
 v0:=Tryz.zeroValue0
 i0:=by kernel_rfl
 t3:=Tryz.underlying3
 a3:=Tryz.isAgg3
 z3:=Tryz.sizeOf3
 v3:=Tryz.zeroValue3
 i3:=by kernel_rfl
 t4:=Tryz.underlying4
 a4:=Tryz.isAgg4
 z4:=Tryz.sizeOf4
 v4:=Tryz.zeroValue4
 i4:=by kernel_rfl
 t9:=Tryz.underlying9
 a9:=Tryz.isAgg9
 z9:=Tryz.sizeOf9
 v9:=Tryz.zeroValue9
 i9:=by kernel_rfl
 t21:=Tryz.underlying21
 a21:=Tryz.isAgg21
 z21:=Tryz.sizeOf21
 v21:=Tryz.zeroValue21
 i21:=by kernel_rfl
 t23:=Tryz.underlying125
 a23:=Tryz.isAgg125
 z23:=Tryz.sizeOf125
 v23:=Tryz.zeroValue125
 i23:=by kernel_rfl}
open Go.RowKit Go.Lib in
open Go.RowKit Go.Lib in
open Go.RowKit Go.Lib in
theorem Tryz.strings_IndexFunc_grows(g:Nat)(lb:Array Value)(eg:∀args w,(callFunc g args).run Tryz.prog w=.ok (.enter g args) w)(p:Nat→Bool)(s:ByteArray)(w:World)(hp:PredGrows Tryz.prog g lb p w):
  Calls Tryz.prog 188 #[.string s,.func (.func g) #[] lb] w fun e w'=>e=.returned (.int .i64 (Lib.idxFunc p true s))∧Below w.heap.size w w':=Any.strings_IndexFunc_grows Tryz.zfu g lb eg p s w hp
end
end Go.Proofs
namespace Go.Proofs.YtfjdbbpimklecaaGreatDoor
section
open Go.AM
def U1:Array Value:=(Lib.pow10Tab.map fun z=>Value.int .u64 z).toArray
instance doorGi:Gi:=⟨fun b=>if b=0 then some U1 else none⟩
theorem zhJ:Tryz.prog.globalNamed "internal/strconv.uint64pow10" =some 0:=by kernel_rfl
variable [Gi]
end
section
open Go.AM
structure AOp where
 k:Int
 a:Int
 b:Int
 t:List UInt8
 deriving Inhabited,DecidableEq
def opP(o:AOp):PV:=.agg [.int .i64 o.k,.int .i64 o.a,.int .i64 o.b,.str o.t]
attribute [go_sem] opP
def jl(n:Int):List UInt8:=Lib.decDigits (min (max n 0) 9999).toNat
theorem QR(n:Int):(jl n).length≤4:=by
 have h:∀u:Nat,u≤9999→Lib.nDigits u≤4:=fun u hu=>by
  rw[Lib.nDigits];split
  ·omega
  ·rw[Lib.nDigits];split
   ·omega
   ·rw[Lib.nDigits];split
    ·omega
    ·rw[Lib.nDigits];split
     ·omega
     ·exfalso;omega
 rw[jl,Lib.decDigits_length]
 exact h _ (by omega)
def byL(a:Int)(c:List UInt8):List UInt8:=if a=1 then [27,91]++c else [27,91]++jl a++c
def Qb(o:AOp):List UInt8:=
 if o.k=1 then o.t
 else if o.k=2 then [27,91]++jl (min o.a 9999+1)++[59]++jl (min o.b 9999+1)++[72]
 else if o.k=3 then [27,91,75]
 else if o.k=4 then [27,91,50,74]
 else if o.k=5 then [7]
 else if o.k=6 then [13]
 else if o.k=7 then [10]
 else if o.k=8 then byL o.a [67]
 else if o.k=9 then byL o.a [68]
 else if o.k=10 then byL o.a [65]
 else if o.k=11 then byL o.a [66]
 else []
def vV(n:Int):Int:=if 9999<n then 9999 else n+1
theorem zb4(n:Int)(h: -9223372036854775808≤n):CR Tryz.prog 92 [] [.p (.int .i64 n)] [] (is (.p (.int .i64 (vV n)))):=by
 refine zH mixed 3 [] Tryz.func92 rfl (by kernel_rfl) rfl (by simp) (by simp) ?_
 simp (maxSteps:=1000000) (disch:=omega) [go_sem,Tryz.f92]
 refine zq (fun h=>?_) (fun h=>?_)
 ·simp (maxSteps:=1000000) (disch:=omega) [go_sem]
  exact zn (.p (.int .i64 9999)) rfl (by simp[go_sem,zg,leA]) ⟨rfl,by rw[vV,if_pos h]⟩
 ·simp (maxSteps:=1000000) (disch:=omega) [go_sem,wrap64]
  exact zn (.p (.int .i64 (n+1))) rfl (by simp[go_sem,zg,leA]) ⟨rfl,by rw[vV,if_neg h]⟩
theorem zfG(m:Nat)(h:0<m):(if m=0 then []else Lib.decDigits m)=(if m/10=0 then []else Lib.decDigits (m/10))++[UInt8.ofNat (48+m%10)]:=by
 rw[if_neg (by omega),Lib.decDigits]
 by_cases h1:m<10
 ·rw[dif_pos h1,if_pos (by omega),show m%10=m from by omega];rfl
 ·rw[dif_neg h1,if_neg (by omega)]
theorem jM(n:Int):CR Tryz.prog 91 [] [.p (.int .i64 n)] [] (is (.p (.str (jl n)))):=by
 refine zH mixed 4 [] Tryz.func91 rfl (by kernel_rfl) rfl (by simp) (by simp) ?_
 simp (maxSteps:=1000000) (disch:=omega) [go_sem,Tryz.f91]
 refine zq (fun h=>?_) (fun h=>?_)
 ·simp (maxSteps:=1000000) (disch:=omega) [go_sem]
  refine zn (.p (.str [48])) rfl (by simp[go_sem,zg,leA]) ⟨rfl,?_⟩
  have:(min (max n 0) 9999).toNat=0:=by omega
  rw[jl,this,Lib.decDigits_one (by decide)];rfl
 ·simp (maxSteps:=1000000) (disch:=omega) [go_sem]
  refine zq (fun h2=>?_) (fun h2=>?_)
  ·simp (maxSteps:=1000000) (disch:=omega) [go_sem]
   refine zn (.p (.str [57,57,57,57])) rfl (by simp[go_sem,zg,leA]) ⟨rfl,?_⟩
   have:(min (max n 0) 9999).toNat=9999:=by omega
   rw[jl,this]
   have:Lib.decDigits 9999=[57,57,57,57]:=by decide+kernel
   rw[this]
  ·obtain⟨u,rfl⟩:∃u:Nat,n=u:=⟨n.toNat,by omega⟩
   have hd:jl u=Lib.decDigits u:=by
    have:(min (max (u:Int) 0) 9999).toNat=u:=by omega
    rw[jl,this]
   rw[hd]
   have hu:Lib.decDigits u=if u=0 then []else Lib.decDigits u:=by rw[if_neg (by omega)]
   simp (maxSteps:=1000000) (disch:=omega) [go_sem]
   refine QT (fun i:Nat×List UInt8=>i.1≤u∧i.2.length+i.1≤10000∧Lib.decDigits u=(if i.1=0 then []else Lib.decDigits i.1)++i.2) (fun i=>{n:=21,nv:=4,vs:=[(0,.p (.int .i64 i.1)),(3,.p (.str i.2))],ts:=[],rs:=[]}) (fun i=>i.1) (u,[]) ⟨Nat.le_refl _,by simp;omega,by rw[List.append_nil];exact hu⟩ (by simp[go_sem,LeS,leV,leR,leA]) ?_
   rintro⟨m,t⟩ ⟨hm,ht,he⟩
   simp only at hm ht he
   simp (maxSteps:=1000000) (disch:=omega) [go_sem]
   refine zq (fun h3=>?_) (fun h3=>?_)
   ·simp (maxSteps:=1000000) (disch:=omega) [go_sem,wrap64]
    have e0:(m:Int).tmod 10=((m%10:Nat):Int):=by
     rw[Int.tmod_eq_emod_of_nonneg (by omega)];rfl
    have e1:UInt8.ofNat (IntKind.u8.wrap (IntKind.i64.wrap (48+(m:Int).tmod 10))).toNat=UInt8.ofNat (48+m%10):=by
     rw[e0,wrap64 (by omega) (by omega)]
     have:IntKind.u8.wrap (48+((m%10:Nat):Int))=((48+m%10:Nat):Int):=by
      simp[IntKind.wrap,IntKind.signed,IntKind.bits];omega
     rw[this,Int.toNat_natCast]
    refine⟨by omega,zj (m/10,UInt8.ofNat (48+m%10)::t) ⟨by simp only;omega,by simp only[List.length_cons];omega,?_⟩ (by simp[go_sem,LeS,leV,leR,leA,e1]) (by simp only;omega)⟩
    show Lib.decDigits u=(if m/10=0 then []else Lib.decDigits (m/10))++UInt8.ofNat (48+m%10)::t
    rw[he,zfG m (by omega)]
    simp
   ·obtain rfl:m=0:=by omega
    simp (maxSteps:=1000000) (disch:=omega) [go_sem]
    exact zn (.p (.str t)) rfl (by simp[go_sem,zg,leA]) ⟨rfl,by rw[he];rfl⟩
theorem zeH(n:Int):jl (vV n)=jl (min n 9999+1):=by
 rw[vV,jl,jl]
 have:(min (max (if 9999<n then 9999 else n+1) 0) 9999).toNat=(min (max (min n 9999+1) 0) 9999).toNat:=by split<;>omega
 rw[this]
theorem zgx(o:AOp)(ha: -9223372036854775808≤o.a)(hb: -9223372036854775808≤o.b):CR Tryz.prog 40 [] [.p (opP o)] [] (is (.p (.str (Qb o)))):=by
 refine zN [5] mixed 6 [6,10,24,26,28,30,32,34] Tryz.func40 rfl (by kernel_rfl) rfl (by simp) (by simp) ?_
 simp (maxSteps:=1000000) (disch:=omega) [go_sem,Tryz.f40]
 refine zq (fun h1=>?_) (fun h1=>?_)
 ·simp (maxSteps:=1000000) (disch:=omega) [go_sem]
  exact zn (.p (.str o.t)) rfl (by simp[go_sem,zg,leA]) ⟨rfl,by simp[Qb,h1]⟩
 simp (maxSteps:=1000000) (disch:=omega) [go_sem]
 refine zq (fun h2=>?_) (fun h2=>?_)
 ·have l1:=QR (min o.a 9999+1)
  have l2:=QR (min o.b 9999+1)
  have m1:=zb4 o.a ha
  have m2:=zb4 o.b hb
  have hn1:=jM (vV o.a)
  have hn2:=jM (vV o.b)
  have hp:Qb o=[27,91]++jl (min o.a 9999+1)++[59]++jl (min o.b 9999+1)++[72]:=by simp[Qb,h2]
  rw[hp]
  rw[zeH]at hn1 hn2
  clear hp
  generalize jl (min o.a 9999+1)=d1 at*
  generalize jl (min o.b 9999+1)=d2 at*
  generalize vV o.a=r1 at*
  generalize vV o.b=r2 at*
  simp (maxSteps:=1000000) (disch:=omega) [go_sem]
  refine Za (.p (.int .i64 r1)) rfl rfl (fun _=>Zb 92 m1 rfl ⟨rfl,by simp[Tryz.f92]⟩ ⟨by simp[go_sem],by simp[go_sem]⟩) ?_
  simp (maxSteps:=1000000) (disch:=omega) [go_sem]
  refine Za (.p (.str d1)) rfl rfl (fun _=>Zb 91 hn1 rfl ⟨rfl,by simp[Tryz.f91]⟩ ⟨by simp[go_sem],by simp[go_sem]⟩) ?_
  simp (maxSteps:=1000000) (disch:=omega) [go_sem]
  refine⟨by omega,by omega,?_⟩
  refine Za (.p (.int .i64 r2)) rfl rfl (fun _=>Zb 92 m2 rfl ⟨rfl,by simp[Tryz.f92]⟩ ⟨by simp[go_sem],by simp[go_sem]⟩) ?_
  simp (maxSteps:=1000000) (disch:=omega) [go_sem]
  refine Za (.p (.str d2)) rfl rfl (fun _=>Zb 91 hn2 rfl ⟨rfl,by simp[Tryz.f91]⟩ ⟨by simp[go_sem],by simp[go_sem]⟩) ?_
  simp (maxSteps:=1000000) (disch:=omega) [go_sem]
  exact⟨by omega,by omega,zn (.p (.str (27::91::(d1++59::(d2++[72]))))) rfl (by simp[go_sem,zg,leA]) ⟨rfl,rfl⟩⟩
 simp (maxSteps:=1000000) (disch:=omega) [go_sem]
 refine zq (fun h3=>?_) (fun h3=>?_)
 ·simp (maxSteps:=1000000) (disch:=omega) [go_sem]
  exact zn (.p (.str [27,91,75])) rfl (by simp[go_sem,zg,leA]) ⟨rfl,by simp[Qb,h3]⟩
 simp (maxSteps:=1000000) (disch:=omega) [go_sem]
 refine zq (fun h4=>?_) (fun h4=>?_)
 ·simp (maxSteps:=1000000) (disch:=omega) [go_sem]
  exact zn (.p (.str [27,91,50,74])) rfl (by simp[go_sem,zg,leA]) ⟨rfl,by simp[Qb,h4]⟩
 simp (maxSteps:=1000000) (disch:=omega) [go_sem]
 refine zq (fun h5=>?_) (fun h5=>?_)
 ·simp (maxSteps:=1000000) (disch:=omega) [go_sem]
  exact zn (.p (.str [7])) rfl (by simp[go_sem,zg,leA]) ⟨rfl,by simp[Qb,h5]⟩
 simp (maxSteps:=1000000) (disch:=omega) [go_sem]
 refine zq (fun h6=>?_) (fun h6=>?_)
 ·simp (maxSteps:=1000000) (disch:=omega) [go_sem]
  exact zn (.p (.str [13])) rfl (by simp[go_sem,zg,leA]) ⟨rfl,by simp[Qb,h6]⟩
 simp (maxSteps:=1000000) (disch:=omega) [go_sem]
 refine zq (fun h7=>?_) (fun h7=>?_)
 ·simp (maxSteps:=1000000) (disch:=omega) [go_sem]
  exact zn (.p (.str [10])) rfl (by simp[go_sem,zg,leA]) ⟨rfl,by simp[Qb,h7]⟩
 simp (maxSteps:=1000000) (disch:=omega) [go_sem]
 refine zq (fun h8=>?_) (fun h8=>?_)
 ·simp (maxSteps:=1000000) (disch:=omega) [go_sem,h8]
  refine yh (fun p=>?_) (fun p=>?_)
  ·have hn:=jM o.a
   have hl:=QR o.a
   have hp:Qb o=[27,91]++jl o.a++[67]:=by simp[Qb,h8,byL,p]
   rw[hp]
   clear hp
   generalize jl o.a=d1 at*
   simp (maxSteps:=1000000) (disch:=omega) [go_sem]
   refine⟨⟨rfl,by simp[Tryz.f91]⟩,zh [] hn (by simp[go_sem]) ⟨by simp[go_sem],by simp[go_sem]⟩ (by simp[go_sem]) ?_⟩
   rintro y rs ⟨rfl,rfl⟩
   simp (maxSteps:=1000000) (disch:=omega) [go_sem,wrap64,cut]
   exact⟨by omega,by omega,zn (.p (.str ([27,91]++d1++[67]))) rfl (by simp[go_sem,zg,leA]) ⟨rfl,rfl⟩⟩
  ·have hp:Qb o=[27,91]++[67]:=by simp[Qb,h8,byL];omega
   rw[hp]
   clear hp
   simp (maxSteps:=1000000) (disch:=omega) [go_sem,wrap64,cut]
   exact zn (.p (.str [27,91,67])) rfl (by simp[go_sem,zg,leA]) ⟨rfl,rfl⟩
 simp (maxSteps:=1000000) (disch:=omega) [go_sem]
 refine zq (fun h9=>?_) (fun h9=>?_)
 ·simp (maxSteps:=1000000) (disch:=omega) [go_sem,h9]
  refine yh (fun p=>?_) (fun p=>?_)
  ·have hn:=jM o.a
   have hl:=QR o.a
   have hp:Qb o=[27,91]++jl o.a++[68]:=by simp[Qb,h9,byL,p]
   rw[hp]
   clear hp
   generalize jl o.a=d1 at*
   simp (maxSteps:=1000000) (disch:=omega) [go_sem]
   refine⟨⟨rfl,by simp[Tryz.f91]⟩,zh [] hn (by simp[go_sem]) ⟨by simp[go_sem],by simp[go_sem]⟩ (by simp[go_sem]) ?_⟩
   rintro y rs ⟨rfl,rfl⟩
   simp (maxSteps:=1000000) (disch:=omega) [go_sem,wrap64,cut]
   exact⟨by omega,by omega,zn (.p (.str ([27,91]++d1++[68]))) rfl (by simp[go_sem,zg,leA]) ⟨rfl,rfl⟩⟩
  ·have hp:Qb o=[27,91]++[68]:=by simp[Qb,h9,byL];omega
   rw[hp]
   clear hp
   simp (maxSteps:=1000000) (disch:=omega) [go_sem,wrap64,cut]
   exact zn (.p (.str [27,91,68])) rfl (by simp[go_sem,zg,leA]) ⟨rfl,rfl⟩
 simp (maxSteps:=1000000) (disch:=omega) [go_sem]
 refine zq (fun h10=>?_) (fun h10=>?_)
 ·simp (maxSteps:=1000000) (disch:=omega) [go_sem,h10]
  refine yh (fun p=>?_) (fun p=>?_)
  ·have hn:=jM o.a
   have hl:=QR o.a
   have hp:Qb o=[27,91]++jl o.a++[65]:=by simp[Qb,h10,byL,p]
   rw[hp]
   clear hp
   generalize jl o.a=d1 at*
   simp (maxSteps:=1000000) (disch:=omega) [go_sem]
   refine⟨⟨rfl,by simp[Tryz.f91]⟩,zh [] hn (by simp[go_sem]) ⟨by simp[go_sem],by simp[go_sem]⟩ (by simp[go_sem]) ?_⟩
   rintro y rs ⟨rfl,rfl⟩
   simp (maxSteps:=1000000) (disch:=omega) [go_sem,wrap64,cut]
   exact⟨by omega,by omega,zn (.p (.str ([27,91]++d1++[65]))) rfl (by simp[go_sem,zg,leA]) ⟨rfl,rfl⟩⟩
  ·have hp:Qb o=[27,91]++[65]:=by simp[Qb,h10,byL];omega
   rw[hp]
   clear hp
   simp (maxSteps:=1000000) (disch:=omega) [go_sem,wrap64,cut]
   exact zn (.p (.str [27,91,65])) rfl (by simp[go_sem,zg,leA]) ⟨rfl,rfl⟩
 simp (maxSteps:=1000000) (disch:=omega) [go_sem]
 by_cases h11:o.k=11
 ·simp (maxSteps:=1000000) (disch:=omega) [go_sem,h11]
  refine yh (fun p=>?_) (fun p=>?_)
  ·have hn:=jM o.a
   have hl:=QR o.a
   have hp:Qb o=[27,91]++jl o.a++[66]:=by simp[Qb,h11,byL,p]
   rw[hp]
   clear hp
   generalize jl o.a=d1 at*
   simp (maxSteps:=1000000) (disch:=omega) [go_sem]
   refine⟨⟨rfl,by simp[Tryz.f91]⟩,zh [] hn (by simp[go_sem]) ⟨by simp[go_sem],by simp[go_sem]⟩ (by simp[go_sem]) ?_⟩
   rintro y rs ⟨rfl,rfl⟩
   simp (maxSteps:=1000000) (disch:=omega) [go_sem,wrap64,cut]
   exact⟨by omega,by omega,zn (.p (.str ([27,91]++d1++[66]))) rfl (by simp[go_sem,zg,leA]) ⟨rfl,rfl⟩⟩
  ·have hp:Qb o=[27,91]++[66]:=by simp[Qb,h11,byL];omega
   rw[hp]
   clear hp
   simp (maxSteps:=1000000) (disch:=omega) [go_sem,wrap64,cut]
   exact zn (.p (.str [27,91,66])) rfl (by simp[go_sem,zg,leA]) ⟨rfl,rfl⟩
 simp (maxSteps:=1000000) (disch:=omega) [go_sem,h11]
 exact zn (.p (.str [])) rfl (by simp[go_sem,zg,leA]) ⟨rfl,by simp[Qb,h1,h2,h3,h4,h5,h6,h7,h8,h9,h10,h11]⟩
def vD(l:List AOp):PV:=.sl 4 (l.map opP)
def AOp.ok(o:AOp):Prop:= -9223372036854775808≤o.a∧ -9223372036854775808≤o.b
end
end Go.Proofs.YtfjdbbpimklecaaGreatDoor
namespace Go.Proofs
section
open Go.RowKit in
def Tryz.zag:Go.Shelf.Ren:=⟨fun|172=>232|244=>243|245=>244|247=>253|279=>254|280=>255|281=>256|282=>257|287=>261|316=>262|171=>152|205=>263|321=>264|322=>265|243=>196|246=>224|283=>237|284=>238|285=>239|286=>240|129=>206|317=>246|318=>247|319=>248|320=>249|337=>258|338=>259|n=>n,fun|9=>9|3=>3|75=>190|76=>191|4=>4|5=>5|167=>370|37=>186|0=>0|85=>371|2=>2|168=>373|53=>342|175=>378|46=>306|210=>381|127=>275|145=>389|143=>387|21=>21|171=>359|173=>361|212=>368|51=>340|20=>20|213=>369|232=>383|233=>384|80=>194|n=>n,fun|15=>2|16=>3|17=>0|18=>4|19=>5|n=>n⟩
theorem Tryz.zgC:Go.Proofs.Lays.n172 Tryz.prog Tryz.zag:={
 mixed:=by kernel_rfl
 f129:=Tryz.func206.trans (congrArg some (by kernel_rfl))
 f171:=Tryz.func152.trans (congrArg some (by kernel_rfl))
 f172:=Tryz.func232.trans (congrArg some (by kernel_rfl))
 f205:=Tryz.func263.trans (congrArg some (by kernel_rfl))
 f243:=Tryz.func196.trans (congrArg some (by kernel_rfl))
 f244:=Tryz.func243.trans (congrArg some (by kernel_rfl))
 f245:=Tryz.func244.trans (congrArg some (by kernel_rfl))
 f246:=Tryz.func224.trans (congrArg some (by kernel_rfl))
 f247:=Tryz.func253.trans (congrArg some (by kernel_rfl))
 f279:=Tryz.func254.trans (congrArg some (by kernel_rfl))
 f280:=Tryz.func255.trans (congrArg some (by kernel_rfl))
 f281:=Tryz.func256.trans (congrArg some (by kernel_rfl))
 f282:=Tryz.func257.trans (congrArg some (by kernel_rfl))
 f283:=Tryz.func237.trans (congrArg some (by kernel_rfl))
 f284:=Tryz.func238.trans (congrArg some (by kernel_rfl))
 f285:=Tryz.func239.trans (congrArg some (by kernel_rfl))
 f286:=Tryz.func240.trans (congrArg some (by kernel_rfl))
 f287:=Tryz.func261.trans (congrArg some (by kernel_rfl))
 f316:=Tryz.func262.trans (congrArg some (by kernel_rfl))
 f317:=Tryz.func246.trans (congrArg some (by kernel_rfl))
 f318:=Tryz.func247.trans (congrArg some (by kernel_rfl))
 f319:=Tryz.func248.trans (congrArg some (by kernel_rfl))
 f320:=Tryz.func249.trans (congrArg some (by kernel_rfl))
 f321:=Tryz.func264.trans (congrArg some (by kernel_rfl))
 f322:=Tryz.func265.trans (congrArg some (by kernel_rfl))
 f337:=Tryz.func258.trans (congrArg some (by kernel_rfl))
 f338:=Tryz.func259.trans (congrArg some (by kernel_rfl))
 t0:=Tryz.underlying0
 a0:=Tryz.isAgg0
 z0:=Tryz.sizeOf0
 v0:=Tryz.zeroValue0
 t2:=Tryz.underlying2
 a2:=Tryz.isAgg2
 z2:=Tryz.sizeOf2
 v2:=Tryz.zeroValue2
 t3:=Tryz.underlying3
 a3:=Tryz.isAgg3
 z3:=Tryz.sizeOf3
 v3:=Tryz.zeroValue3
 t4:=Tryz.underlying4
 a4:=Tryz.isAgg4
 z4:=Tryz.sizeOf4
 v4:=Tryz.zeroValue4
 t5:=Tryz.underlying5
 a5:=Tryz.isAgg5
 z5:=Tryz.sizeOf5
 v5:=Tryz.zeroValue5
 t9:=Tryz.underlying9
 a9:=Tryz.isAgg9
 z9:=Tryz.sizeOf9
 v9:=Tryz.zeroValue9
 t20:=Tryz.underlying20
 a20:=Tryz.isAgg20
 z20:=Tryz.sizeOf20
 v20:=Tryz.zeroValue20
 t21:=Tryz.underlying21
 a21:=Tryz.isAgg21
 z21:=Tryz.sizeOf21
 v21:=Tryz.zeroValue21
 t37:=Tryz.underlying186
 a37:=Tryz.isAgg186
 z37:=Tryz.sizeOf186
 v37:=Tryz.zeroValue186
 t46:=Tryz.underlying306
 a46:=Tryz.isAgg306
 z46:=Tryz.sizeOf306
 v46:=Tryz.zeroValue306
 t51:=Tryz.underlying340
 a51:=Tryz.isAgg340
 z51:=Tryz.sizeOf340
 v51:=Tryz.zeroValue340
 t53:=Tryz.underlying342
 a53:=Tryz.isAgg342
 z53:=Tryz.sizeOf342
 v53:=Tryz.zeroValue342
 t75:=Tryz.underlying190
 a75:=Tryz.isAgg190
 z75:=Tryz.sizeOf190
 v75:=Tryz.zeroValue190
 t76:=Tryz.underlying191
 a76:=Tryz.isAgg191
 z76:=Tryz.sizeOf191
 v76:=Tryz.zeroValue191
 t85:=Tryz.underlying371
 a85:=Tryz.isAgg371
 z85:=Tryz.sizeOf371
 v85:=Tryz.zeroValue371
 t127:=Tryz.underlying275
 a127:=Tryz.isAgg275
 z127:=Tryz.sizeOf275
 v127:=Tryz.zeroValue275
 t143:=Tryz.underlying387
 a143:=Tryz.isAgg387
 z143:=Tryz.sizeOf387
 v143:=Tryz.zeroValue387
 t145:=Tryz.underlying389
 a145:=Tryz.isAgg389
 z145:=Tryz.sizeOf389
 v145:=Tryz.zeroValue389
 t167:=Tryz.underlying370
 a167:=Tryz.isAgg370
 z167:=Tryz.sizeOf370
 v167:=Tryz.zeroValue370
 t168:=Tryz.underlying373
 a168:=Tryz.isAgg373
 z168:=Tryz.sizeOf373
 v168:=Tryz.zeroValue373
 t171:=Tryz.underlying359
 a171:=Tryz.isAgg359
 z171:=Tryz.sizeOf359
 v171:=Tryz.zeroValue359
 t173:=Tryz.underlying361
 a173:=Tryz.isAgg361
 z173:=Tryz.sizeOf361
 v173:=Tryz.zeroValue361
 t175:=Tryz.underlying378
 a175:=Tryz.isAgg378
 z175:=Tryz.sizeOf378
 v175:=Tryz.zeroValue378
 t210:=Tryz.underlying381
 a210:=Tryz.isAgg381
 z210:=Tryz.sizeOf381
 v210:=Tryz.zeroValue381
 t212:=Tryz.underlying368
 a212:=Tryz.isAgg368
 z212:=Tryz.sizeOf368
 v212:=Tryz.zeroValue368
 t213:=Tryz.underlying369
 a213:=Tryz.isAgg369
 z213:=Tryz.sizeOf369
 t232:=Tryz.underlying383
 a232:=Tryz.isAgg383
 z232:=Tryz.sizeOf383
 v232:=Tryz.zeroValue383
 t233:=Tryz.underlying384
 a233:=Tryz.isAgg384
 z233:=Tryz.sizeOf384
 v233:=Tryz.zeroValue384
 g15:=by kernel_rfl
 g16:=by kernel_rfl
 g17:=by kernel_rfl
 g18:=by kernel_rfl
 g19:=by kernel_rfl}
open Go.RowKit in
theorem Tryz.strconv_Atoi(s:ByteArray)(n:Int)(hl:s.size≤18)(h:Lib.atoi s.data.toList=some n)(w:World):
  Calls Tryz.prog 232 #[.string s] w fun e w'=>e=.returned (.tuple #[.int .i64 n,.nilIface])∧∃t,w'=Lib.bytesWorld w 5 t:=Any.strconv_Atoi Tryz.zgC s n hl h w
open Go.RowKit Go.Lib in
open Go.RowKit Go.Lib in
open Go.RowKit Go.Lib in
open Go.RowKit Go.Lib in
open Go.RowKit Go.Lib in
end
end Go.Proofs
namespace Go.Proofs.YtfjdbbpimklecaaGreatDoor
section
end
section
open Go.AM
structure Chd where
 r:Int
 f:Int
 t:Int
 s:List UInt8
 e:Bool
 deriving Inhabited
def Chd.ok(c:Chd):Prop:=(0≤c.r∧c.r≤1000)∧(0≤c.f∧c.f≤1000)∧0≤c.t∧c.t≤1000
structure OSt where
 l:List AOp
 r:Int
 c:Int
 k:Bool
end
end Go.Proofs.YtfjdbbpimklecaaGreatDoor
