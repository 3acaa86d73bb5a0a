/- Part of a proof over the given program: texts of lemmas (conditions: none beyond each lemma as stated). -/
import Derived.Test.YtdmoefbfepeeaaaGreatDoorN7
import Derived.Shelf.Strings.Builder1
import Derived.Shelf.Strings.Trim
import Derived.Shelf.Small.Utf8
import Derived.Shelf.Small.Bits
import Derived.Shelf.Small.Strs
import Derived.Shelf.Strings.BuilderF
import Derived.Shelf.Strings.BuilderK
import Derived.Shelf.Strconv.Itoa0
import Derived.Shelf.Strconv.Itoa1
import Derived.Shelf.LaysM
import Derived.Shelf.Strconv.Itoa2
import Derived.Shelf.Strconv.Itoa3
import Derived.Shelf.Strings.Search1
import Derived.Shelf.Unicode.Decode
import Derived.Shelf.Strings.Runes
import Derived.Shelf.Strings.AsciiSet
import Derived.Shelf.Unicode.DecodeSlow
import Derived.Shelf.Unicode.DecodeAny
import Derived.Shelf.Strings.BuilderCap
import Derived.Ground.SlgnProg
import Derived.Shelf.SlicesE.Clone
import Derived.Test.YtdmoefbfepeeaaaGreatDoorProg
set_option linter.unnecessarySimpa false
set_option linter.unusedVariables false
set_option linter.unusedSimpArgs false

namespace Go.Proofs
open Go.Shelf
def Tryz.lays169_ren:Go.Shelf.Ren:=⟨λ | 169=>70 | n=>n,λ | 70=>147 | 9=>9 | 0=>0 | 72=>150 | 37=>148 | 127=>232 | 3=>3 | 5=>5 | n=>n,λ | n=>n⟩
theorem Tryz.lays169:Go.Proofs.Lays.n169 Tryz.prog Tryz.lays169_ren:={
 mixed:=by kernel_rfl
 f169:=Tryz.func70.trans (congrArg some (by kernel_rfl))
 t0:=Tryz.underlying0
 a0:=Tryz.isAgg0
 z0:=Tryz.sizeOf0
 v0:=Tryz.zeroValue0
 t3:=Tryz.underlying3
 a3:=Tryz.isAgg3
 z3:=Tryz.sizeOf3
 v3:=Tryz.zeroValue3
 t9:=Tryz.underlying9
 a9:=Tryz.isAgg9
 z9:=Tryz.sizeOf9
 v9:=Tryz.zeroValue9
 t37:=Tryz.underlying148
 a37:=Tryz.isAgg148
 z37:=Tryz.sizeOf148
 v37:=Tryz.zeroValue148
 t70:=Tryz.underlying147
 a70:=Tryz.isAgg147
 z70:=Tryz.sizeOf147
 v70:=Tryz.zeroValue147
 t72:=Tryz.underlying150
 a72:=Tryz.isAgg150
 z72:=Tryz.sizeOf150
 v72:=Tryz.zeroValue150
 t127:=Tryz.underlying232
 a127:=Tryz.isAgg232
 z127:=Tryz.sizeOf232
 v127:=Tryz.zeroValue232 }
theorem Tryz.Builder_Extra_169:Builder.Extra Tryz.prog Tryz.lays169_ren:={
 sizeBuilder:=by kernel_rfl
 liesBuilder:=by kernel_rfl
 t5:=Tryz.underlying5
 a5:=Tryz.isAgg5
 z5:=Tryz.sizeOf5
 v5:=Tryz.zeroValue5
 infoByte:=by kernel_rfl
 cellsByte:=by kernel_rfl
 sizeByte:=by kernel_rfl
 neB5:=by decide }
def Tryz.lays161_ren:Go.Shelf.Ren:=⟨λ | 161=>129 | 231=>203 | 227=>204 | 233=>205 | 235=>206 | 228=>269 | 197=>270 | 151=>271 | 260=>317 | 152=>318 | 137=>353 | 119=>354 | 224=>355 | 225=>356 | 217=>369 | 266=>371 | n=>n,λ | 9=>9 | 4=>4 | 3=>3 | 5=>5 | 117=>320 | 116=>319 | 0=>0 | 124=>323 | 105=>382 | 21=>21 | 119=>327 | 46=>46 | 139=>330 | 138=>329 | n=>n,λ | 3=>1 | 4=>2 | n=>n⟩
theorem Tryz.lays161:Go.Proofs.Lays.n161 Tryz.prog Tryz.lays161_ren:={
 mixed:=by kernel_rfl
 f119:=Tryz.func354.trans (congrArg some (by kernel_rfl))
 f137:=Tryz.func353.trans (congrArg some (by kernel_rfl))
 f151:=Tryz.func271.trans (congrArg some (by kernel_rfl))
 f152:=Tryz.func318.trans (congrArg some (by kernel_rfl))
 f161:=Tryz.func129.trans (congrArg some (by kernel_rfl))
 f197:=Tryz.func270.trans (congrArg some (by kernel_rfl))
 f217:=Tryz.func369.trans (congrArg some (by kernel_rfl))
 f224:=Tryz.func355.trans (congrArg some (by kernel_rfl))
 f225:=Tryz.func356.trans (congrArg some (by kernel_rfl))
 f227:=Tryz.func204.trans (congrArg some (by kernel_rfl))
 f228:=Tryz.func269.trans (congrArg some (by kernel_rfl))
 f231:=Tryz.func203.trans (congrArg some (by kernel_rfl))
 f233:=Tryz.func205.trans (congrArg some (by kernel_rfl))
 f235:=Tryz.func206.trans (congrArg some (by kernel_rfl))
 f260:=Tryz.func317.trans (congrArg some (by kernel_rfl))
 f266:=Tryz.func371.trans (congrArg some (by kernel_rfl))
 t0:=Tryz.underlying0
 a0:=Tryz.isAgg0
 z0:=Tryz.sizeOf0
 v0:=Tryz.zeroValue0
 t3:=Tryz.underlying3
 a3:=Tryz.isAgg3
 z3:=Tryz.sizeOf3
 v3:=Tryz.zeroValue3
 t4:=Tryz.underlying4
 a4:=Tryz.isAgg4
 z4:=Tryz.sizeOf4
 v4:=Tryz.zeroValue4
 t5:=Tryz.underlying5
 a5:=Tryz.isAgg5
 z5:=Tryz.sizeOf5
 v5:=Tryz.zeroValue5
 t9:=Tryz.underlying9
 a9:=Tryz.isAgg9
 z9:=Tryz.sizeOf9
 v9:=Tryz.zeroValue9
 t21:=Tryz.underlying21
 a21:=Tryz.isAgg21
 z21:=Tryz.sizeOf21
 v21:=Tryz.zeroValue21
 t46:=Tryz.underlying46
 a46:=Tryz.isAgg46
 z46:=Tryz.sizeOf46
 v46:=Tryz.zeroValue46
 t105:=Tryz.underlying382
 a105:=Tryz.isAgg382
 z105:=Tryz.sizeOf382
 v105:=Tryz.zeroValue382
 t116:=Tryz.underlying319
 a116:=Tryz.isAgg319
 z116:=Tryz.sizeOf319
 t117:=Tryz.underlying320
 a117:=Tryz.isAgg320
 z117:=Tryz.sizeOf320
 v117:=Tryz.zeroValue320
 t119:=Tryz.underlying327
 a119:=Tryz.isAgg327
 z119:=Tryz.sizeOf327
 t124:=Tryz.underlying323
 a124:=Tryz.isAgg323
 z124:=Tryz.sizeOf323
 v124:=Tryz.zeroValue323
 t138:=Tryz.underlying329
 a138:=Tryz.isAgg329
 z138:=Tryz.sizeOf329
 v138:=Tryz.zeroValue329
 t139:=Tryz.underlying330
 a139:=Tryz.isAgg330
 z139:=Tryz.sizeOf330
 v139:=Tryz.zeroValue330
 g3:=by kernel_rfl
 g4:=by kernel_rfl }
open Go.RowKit in
theorem Tryz.strings_TrimLeft_one (s:ByteArray) (c:UInt8) (hc:c.toNat<128) (w:World) :
  Calls Tryz.prog 129 #[.string s,.string ⟨#[c]⟩] w λ e w'=>e=.returned (.string ⟨(Lib.trimLeftB s.data.toList c).toArray⟩)/\w'=w:=Any.strings_TrimLeft_one Tryz.lays161 s c hc w
def Tryz.lays134_ren:Go.Shelf.Ren:=⟨λ | 134=>337 | 129=>320 | n=>n,λ | 53=>44 | 3=>3 | 4=>4 | 46=>46 | 5=>5 | 9=>9 | n=>n,λ | n=>n⟩
theorem Tryz.lays134:Go.Proofs.Lays.n134 Tryz.prog Tryz.lays134_ren:={
 mixed:=by kernel_rfl
 f129:=Tryz.func320.trans (congrArg some (by kernel_rfl))
 f134:=Tryz.func337.trans (congrArg some (by kernel_rfl))
 t3:=Tryz.underlying3
 a3:=Tryz.isAgg3
 z3:=Tryz.sizeOf3
 v3:=Tryz.zeroValue3
 t4:=Tryz.underlying4
 a4:=Tryz.isAgg4
 z4:=Tryz.sizeOf4
 v4:=Tryz.zeroValue4
 t5:=Tryz.underlying5
 a5:=Tryz.isAgg5
 z5:=Tryz.sizeOf5
 v5:=Tryz.zeroValue5
 t9:=Tryz.underlying9
 a9:=Tryz.isAgg9
 z9:=Tryz.sizeOf9
 v9:=Tryz.zeroValue9
 t46:=Tryz.underlying46
 a46:=Tryz.isAgg46
 z46:=Tryz.sizeOf46
 v46:=Tryz.zeroValue46
 t53:=Tryz.underlying44
 a53:=Tryz.isAgg44
 z53:=Tryz.sizeOf44
 v53:=Tryz.zeroValue44 }
theorem Tryz.bits_LeadingZeros64 (x:Int) (w:World) (h0:0<=x) (h1:x<=18446744073709551615) :
  Calls Tryz.prog 337 #[.int .u64 x] w λ e w'=>e=.returned (.int .i64 (64-(Lib.bitLen x.toNat:Int)))/\w'=w:=Any.bits_LeadingZeros64 Tryz.lays134 x w h0 h1
open Go.RowKit in
theorem Tryz.Builder_String_any_k (B b:Nat) (l:List UInt8) (w:World) (h:Lib.IsBuilderF 150 5 B b (Lib.byteCells l) w) (hBw:B<=w.heap.size) :
  Calls Tryz.prog 70 #[.pointer (some ⟨b,0,none⟩)] w λ e w'=>e=.returned (.string ⟨l.toArray⟩)/\(Lib.IsBuilderF 150 5 B b (Lib.byteCells l) w'/\Below B w w'/\Lib.OthersKept 5 (some b) w w'):=Any.Builder_String_any_k Tryz.lays169 Tryz.Builder_Extra_169 B b l w h hBw
def Tryz.laysM246_ren:Go.Shelf.Ren:=⟨λ | 246=>208 | 283=>272 | 284=>273 | 285=>274 | 286=>275 | 129=>320 | 317=>319 | 318=>321 | 319=>322 | 320=>323 | 337=>357 | 338=>358 | n=>n,λ | 2=>2 | 3=>3 | 9=>9 | 4=>4 | 171=>386 | 0=>0 | 53=>44 | 37=>148 | 5=>5 | 173=>389 | 212=>428 | 51=>45 | 20=>20 | 213=>429 | 46=>46 | 232=>468 | 233=>469 | n=>n,λ | 17=>3 | 18=>6 | 19=>7 | n=>n⟩
def Tryz.laysM243_ren:Go.Shelf.Ren:=⟨λ | 243=>132 | 246=>208 | 283=>272 | 284=>273 | 285=>274 | 286=>275 | 129=>320 | 317=>319 | 318=>321 | 319=>322 | 320=>323 | 337=>357 | 338=>358 | n=>n,λ | 3=>3 | 9=>9 | 2=>2 | 4=>4 | 171=>386 | 0=>0 | 53=>44 | 37=>148 | 5=>5 | 173=>389 | 212=>428 | 51=>45 | 20=>20 | 213=>429 | 46=>46 | 232=>468 | 233=>469 | n=>n,λ | 17=>3 | 18=>6 | 19=>7 | n=>n⟩
def Tryz.laysM171_ren:Go.Shelf.Ren:=⟨λ | 171=>77 | 243=>132 | 246=>208 | 283=>272 | 284=>273 | 285=>274 | 286=>275 | 129=>320 | 317=>319 | 318=>321 | 319=>322 | 320=>323 | 337=>357 | 338=>358 | n=>n,λ | 3=>3 | 9=>9 | 2=>2 | 4=>4 | 171=>386 | 0=>0 | 53=>44 | 37=>148 | 5=>5 | 173=>389 | 212=>428 | 51=>45 | 20=>20 | 213=>429 | 46=>46 | 232=>468 | 233=>469 | n=>n,λ | 17=>3 | 18=>6 | 19=>7 | n=>n⟩
theorem Tryz.laysM171:Go.Proofs.LaysM.n171 Tryz.prog Tryz.laysM171_ren:={
 mixed:=by kernel_rfl
 f129:=Tryz.func320.trans (congrArg some (by kernel_rfl))
 f171:=Tryz.func77.trans (congrArg some (by kernel_rfl))
 f243:=Tryz.func132.trans (congrArg some (by kernel_rfl))
 f246:=Tryz.func208.trans (congrArg some (by kernel_rfl))
 f283:=Tryz.func272.trans (congrArg some (by kernel_rfl))
 f284:=Tryz.func273.trans (congrArg some (by kernel_rfl))
 f285:=Tryz.func274.trans (congrArg some (by kernel_rfl))
 f286:=Tryz.func275.trans (congrArg some (by kernel_rfl))
 f317:=Tryz.func319.trans (congrArg some (by kernel_rfl))
 f318:=Tryz.func321.trans (congrArg some (by kernel_rfl))
 f319:=Tryz.func322.trans (congrArg some (by kernel_rfl))
 f320:=Tryz.func323.trans (congrArg some (by kernel_rfl))
 f337:=Tryz.func357.trans (congrArg some (by kernel_rfl))
 f338:=Tryz.func358.trans (congrArg some (by kernel_rfl))
 t0:=Tryz.underlying0
 a0:=Tryz.isAgg0
 z0:=Tryz.sizeOf0
 v0:=Tryz.zeroValue0
 t2:=Tryz.underlying2
 a2:=Tryz.isAgg2
 z2:=Tryz.sizeOf2
 v2:=Tryz.zeroValue2
 t3:=Tryz.underlying3
 a3:=Tryz.isAgg3
 z3:=Tryz.sizeOf3
 v3:=Tryz.zeroValue3
 t4:=Tryz.underlying4
 a4:=Tryz.isAgg4
 z4:=Tryz.sizeOf4
 v4:=Tryz.zeroValue4
 t5:=Tryz.underlying5
 a5:=Tryz.isAgg5
 z5:=Tryz.sizeOf5
 v5:=Tryz.zeroValue5
 t9:=Tryz.underlying9
 a9:=Tryz.isAgg9
 z9:=Tryz.sizeOf9
 v9:=Tryz.zeroValue9
 t20:=Tryz.underlying20
 a20:=Tryz.isAgg20
 z20:=Tryz.sizeOf20
 v20:=Tryz.zeroValue20
 t37:=Tryz.underlying148
 a37:=Tryz.isAgg148
 z37:=Tryz.sizeOf148
 v37:=Tryz.zeroValue148
 t46:=Tryz.underlying46
 a46:=Tryz.isAgg46
 z46:=Tryz.sizeOf46
 v46:=Tryz.zeroValue46
 t51:=Tryz.underlying45
 a51:=Tryz.isAgg45
 z51:=Tryz.sizeOf45
 v51:=Tryz.zeroValue45
 t53:=Tryz.underlying44
 a53:=Tryz.isAgg44
 z53:=Tryz.sizeOf44
 v53:=Tryz.zeroValue44
 t171:=Tryz.underlying386
 a171:=Tryz.isAgg386
 z171:=Tryz.sizeOf386
 v171:=Tryz.zeroValue386
 t173:=Tryz.underlying389
 a173:=Tryz.isAgg389
 z173:=Tryz.sizeOf389
 v173:=Tryz.zeroValue389
 t212:=Tryz.underlying428
 a212:=Tryz.isAgg428
 z212:=Tryz.sizeOf428
 v212:=Tryz.zeroValue428
 t213:=Tryz.underlying429
 a213:=Tryz.isAgg429
 z213:=Tryz.sizeOf429
 t232:=Tryz.underlying468
 a232:=Tryz.isAgg468
 z232:=Tryz.sizeOf468
 v232:=Tryz.zeroValue468
 t233:=Tryz.underlying469
 a233:=Tryz.isAgg469
 z233:=Tryz.sizeOf469
 v233:=Tryz.zeroValue469
 g17:=by kernel_rfl
 g18:=by kernel_rfl
 g19:=by kernel_rfl
 i0:=by kernel_rfl
 i2:=by kernel_rfl
 i3:=by kernel_rfl
 i4:=by kernel_rfl
 i5:=by kernel_rfl
 i9:=by kernel_rfl
 i20:=by kernel_rfl
 i37:=by kernel_rfl
 i46:=by kernel_rfl
 i51:=by kernel_rfl
 i53:=by kernel_rfl
 i171:=by kernel_rfl
 i173:=by kernel_rfl
 i212:=by kernel_rfl
 i232:=by kernel_rfl
 i233:=by kernel_rfl
 m17:=by kernel_rfl
 m18:=by kernel_rfl
 m19:=by kernel_rfl }
open Go.RowKit Go.Sort Go.Lib in
theorem Tryz.strconv_Itoa (n:Int) (h0:-9223372036854775808<=n) (h1:n<=9223372036854775807) (w:World) (htab:Lib.TabIs Tryz.prog w "internal/strconv.uint64pow10" .u64 Lib.pow10Tab) :
  Calls Tryz.prog 77 #[.int .i64 n] w λ e w'=>e=.returned (.string ⟨(Lib.itoa n).toArray⟩)/\∃k os,w'=grow (w.drewN k) os:=Any.strconv_Itoa Tryz.laysM171 n h0 h1 w htab
def Tryz.lays171_ren:Go.Shelf.Ren:=⟨λ | 171=>77 | 243=>132 | 246=>208 | 283=>272 | 284=>273 | 285=>274 | 286=>275 | 129=>320 | 317=>319 | 318=>321 | 319=>322 | 320=>323 | 337=>357 | 338=>358 | n=>n,λ | 3=>3 | 9=>9 | 2=>2 | 4=>4 | 171=>386 | 0=>0 | 53=>44 | 37=>148 | 5=>5 | 173=>389 | 212=>428 | 51=>45 | 20=>20 | 213=>429 | 46=>46 | 232=>468 | 233=>469 | n=>n,λ | 17=>3 | 18=>6 | 19=>7 | n=>n⟩
theorem Tryz.lays171:Go.Proofs.Lays.n171 Tryz.prog Tryz.lays171_ren:={
 mixed:=by kernel_rfl
 f129:=Tryz.func320.trans (congrArg some (by kernel_rfl))
 f171:=Tryz.func77.trans (congrArg some (by kernel_rfl))
 f243:=Tryz.func132.trans (congrArg some (by kernel_rfl))
 f246:=Tryz.func208.trans (congrArg some (by kernel_rfl))
 f283:=Tryz.func272.trans (congrArg some (by kernel_rfl))
 f284:=Tryz.func273.trans (congrArg some (by kernel_rfl))
 f285:=Tryz.func274.trans (congrArg some (by kernel_rfl))
 f286:=Tryz.func275.trans (congrArg some (by kernel_rfl))
 f317:=Tryz.func319.trans (congrArg some (by kernel_rfl))
 f318:=Tryz.func321.trans (congrArg some (by kernel_rfl))
 f319:=Tryz.func322.trans (congrArg some (by kernel_rfl))
 f320:=Tryz.func323.trans (congrArg some (by kernel_rfl))
 f337:=Tryz.func357.trans (congrArg some (by kernel_rfl))
 f338:=Tryz.func358.trans (congrArg some (by kernel_rfl))
 t0:=Tryz.underlying0
 a0:=Tryz.isAgg0
 z0:=Tryz.sizeOf0
 v0:=Tryz.zeroValue0
 t2:=Tryz.underlying2
 a2:=Tryz.isAgg2
 z2:=Tryz.sizeOf2
 v2:=Tryz.zeroValue2
 t3:=Tryz.underlying3
 a3:=Tryz.isAgg3
 z3:=Tryz.sizeOf3
 v3:=Tryz.zeroValue3
 t4:=Tryz.underlying4
 a4:=Tryz.isAgg4
 z4:=Tryz.sizeOf4
 v4:=Tryz.zeroValue4
 t5:=Tryz.underlying5
 a5:=Tryz.isAgg5
 z5:=Tryz.sizeOf5
 v5:=Tryz.zeroValue5
 t9:=Tryz.underlying9
 a9:=Tryz.isAgg9
 z9:=Tryz.sizeOf9
 v9:=Tryz.zeroValue9
 t20:=Tryz.underlying20
 a20:=Tryz.isAgg20
 z20:=Tryz.sizeOf20
 v20:=Tryz.zeroValue20
 t37:=Tryz.underlying148
 a37:=Tryz.isAgg148
 z37:=Tryz.sizeOf148
 v37:=Tryz.zeroValue148
 t46:=Tryz.underlying46
 a46:=Tryz.isAgg46
 z46:=Tryz.sizeOf46
 v46:=Tryz.zeroValue46
 t51:=Tryz.underlying45
 a51:=Tryz.isAgg45
 z51:=Tryz.sizeOf45
 v51:=Tryz.zeroValue45
 t53:=Tryz.underlying44
 a53:=Tryz.isAgg44
 z53:=Tryz.sizeOf44
 v53:=Tryz.zeroValue44
 t171:=Tryz.underlying386
 a171:=Tryz.isAgg386
 z171:=Tryz.sizeOf386
 v171:=Tryz.zeroValue386
 t173:=Tryz.underlying389
 a173:=Tryz.isAgg389
 z173:=Tryz.sizeOf389
 v173:=Tryz.zeroValue389
 t212:=Tryz.underlying428
 a212:=Tryz.isAgg428
 z212:=Tryz.sizeOf428
 v212:=Tryz.zeroValue428
 t213:=Tryz.underlying429
 a213:=Tryz.isAgg429
 z213:=Tryz.sizeOf429
 t232:=Tryz.underlying468
 a232:=Tryz.isAgg468
 z232:=Tryz.sizeOf468
 v232:=Tryz.zeroValue468
 t233:=Tryz.underlying469
 a233:=Tryz.isAgg469
 z233:=Tryz.sizeOf469
 v233:=Tryz.zeroValue469
 g17:=by kernel_rfl
 g18:=by kernel_rfl
 g19:=by kernel_rfl }
open Go.RowKit Go.Sort Go.Lib in
theorem Tryz.strconv_Itoa_small (i:Nat) (hi:i<100) (w:World) :
  Calls Tryz.prog 77 #[.int .i64 i] w λ e w'=>e=.returned (.string ⟨(Lib.decDigits i).toArray⟩)/\w'=w:=Any.strconv_Itoa_small Tryz.lays171 i hi w
end Go.Proofs

set_option maxRecDepth 100000
namespace Go.Fw
open Go.Proofs Go.RowKit
theorem wu (n:Int) (h:0<=n/\n<18446744073709551616):IntKind.wrap .u64 n=n:=by rw [wrap_u64];omega
theorem shrn (x:Int) (k:Nat) (hk:k<=64):shr .u64 x k=x / 2 ^ k:=by
 unfold shr
 rw [Int.toNat_natCast,show min k (IntKind.bits .u64)=k by simp [IntKind.bits];omega,Int.fdiv_eq_ediv_of_nonneg _ (by exact Int.pow_nonneg (by decide))]
theorem shln (x:Int) (k:Nat) (hk:k<=64):shl .u64 x k=(x*2 ^ k) % 18446744073709551616:=by
 unfold shl
 rw [Int.toNat_natCast,show min k (IntKind.bits .u64)=k by simp [IntKind.bits];omega,wrap_u64]
theorem bAnd32 (x:Nat) (hx:x<18446744073709551616):bAnd .u64 x 4294967295=((x % 4294967296:Nat):Int):=by
 have:=bAnd_mask (log:=20) (by decide) hx
 unfold bAnd
 have hb:IntKind.bits .u64=64:=rfl
 rw [hb,show (4294967295:Int)=((2 ^ 32-1:Nat):Int) from rfl,BitVec.ofInt_natCast,BitVec.ofInt_natCast,BitVec.toNat_and,BitVec.toNat_ofNat,BitVec.toNat_ofNat]
 rw [Nat.mod_eq_of_lt (show x<2 ^ 64 by omega),Nat.mod_eq_of_lt (show 2 ^ 32-1<2 ^ 64 by decide),Nat.and_two_pow_sub_one_eq_mod,wrap_u64]
 omega
theorem bOr_nat (x y:Nat) (hx:x<18446744073709551616) (hy:y<18446744073709551616):bOr .u64 x y=((x ||| y:Nat):Int):=by
 unfold bOr
 have hb:IntKind.bits .u64=64:=rfl
 rw [hb,BitVec.ofInt_natCast,BitVec.ofInt_natCast,BitVec.toNat_or,BitVec.toNat_ofNat,BitVec.toNat_ofNat]
 rw [Nat.mod_eq_of_lt (show x<2 ^ 64 by omega),Nat.mod_eq_of_lt (show y<2 ^ 64 by omega),wrap_u64]
 have:x ||| y<2 ^ 64:=Nat.or_lt_two_pow (by omega) (by omega)
 omega
theorem or_add (a b k:Nat) (h:b<2 ^ k):(a*2 ^ k) ||| b=a*2 ^ k+b:=by
 have:=Nat.shiftLeft_add_eq_or_of_lt h a
 rw [Nat.shiftLeft_eq] at this
 exact this.symm
theorem C337_m61 (w:World):Calls Tryz.prog 337 #[.int .u64 2305843009213693951] w λ e w'=>e=.returned (.int .i64 3)/\w'=w:=by
 refine (Tryz.bits_LeadingZeros64 2305843009213693951 w (by decide) (by decide)).mono ?_
 rintro _ w' h
 exact h
theorem dv (U:Int) (h:0<=U/\U<18446744073709551608):IntKind.wrap .u64 (Int.tdiv U 4294967295)=U / 4294967295:=by
 rw [Int.tdiv_eq_ediv_of_nonneg (by omega),wu _ (by omega)]
theorem rm (U:Int) (h:0<=U/\U<18446744073709551608):IntKind.wrap .u64 (U-IntKind.wrap .u64 (U / 4294967295*4294967295))=U % 4294967295:=by
 have h1:0<=U / 4294967295*4294967295/\U / 4294967295*4294967295<18446744073709551616:=by omega
 rw [wu _ h1]
 have h2:U-U / 4294967295*4294967295=U % 4294967295:=by omega
 rw [h2,wu]
 omega
theorem low (U u1 Q:Int) (hU:0<=U/\U<18446744073709551608) (h1:0<=u1/\u1<4294967296) (a1:Q*18446744073709551608<=U*4294967296+u1) (a2:U*4294967296+u1<(Q+1)*18446744073709551608) :
  IntKind.wrap .u64 (IntKind.wrap .u64 (IntKind.wrap .u64 (U*4294967296)+u1)-IntKind.wrap .u64 (Q*18446744073709551608))=U*4294967296+u1-Q*18446744073709551608/\(0<=U*4294967296+u1-Q*18446744073709551608/\U*4294967296+u1-Q*18446744073709551608<18446744073709551608):=by
 refine ⟨?_,by omega⟩
 simp only [wrap_u64]
 rw [show (U*4294967296 % 18446744073709551616+u1) % 18446744073709551616=(U*4294967296+u1) % 18446744073709551616 by rw [Int.emod_add_emod]]
 rw [<-Int.sub_emod]
 exact Int.emod_eq_of_lt (by omega) (by omega)
theorem parts (hi lo:Nat) (h:hi<2305843009213693951) (hl:lo<18446744073709551616):∃U u1 u0:Nat,hi*8+lo / 2305843009213693952=U/\(lo*8 % 18446744073709551616) / 4294967296=u1/\(lo*8 % 18446744073709551616) % 4294967296=u0/\U<18446744073709551608/\u1<4294967296/\u0<4294967296/\lo*8 % 18446744073709551616<18446744073709551616/\
  (U:Int)*18446744073709551616+u1*4294967296+u0=((hi*18446744073709551616+lo:Nat):Int)*8:=by
 have key:∀p V v1 v0:Nat,lo / 2305843009213693952=p->lo*8 % 18446744073709551616=V->V / 4294967296=v1->V % 4294967296=v0->((hi*8+p:Nat):Int)*18446744073709551616+v1*4294967296+v0=((hi*18446744073709551616+lo:Nat):Int)*8:=by
  intro p V v1 v0 h1 h2 h3 h4
  omega
 exact ⟨_,_,_,rfl,rfl,rfl,by omega,by omega,by omega,by omega,key _ _ _ _ rfl rfl rfl rfl⟩
theorem resE (U u1 u0:Int) (T:Nat) (hT:U*18446744073709551616+u1*4294967296+u0=(T:Int)*8) (Q1 Q0:Int) (a1:0<=(U*4294967296+u1-Q1*18446744073709551608)*4294967296+u0-Q0*18446744073709551608) (a2:(U*4294967296+u1-Q1*18446744073709551608)*4294967296+u0-Q0*18446744073709551608<18446744073709551608) :
  ((U*4294967296+u1-Q1*18446744073709551608)*4294967296+u0-Q0*18446744073709551608) / 8=((T % 2305843009213693951:Nat):Int):=by omega
theorem first_q (U u1 q r:Int) (hU:0<=U/\U<18446744073709551608) (h1:0<=u1/\u1<4294967296) (he:q*4294967295+r=U) (hr:0<=r/\r<4294967296) (hq:U*4294967296+u1<(q+1)*18446744073709551608):0<=q/\q<=4294967297:=by omega
theorem V294_m61 (hi lo:Nat) (h:hi<2305843009213693951) (hl:lo<18446744073709551616) (w:World) {Q:Value->World->Prop} (res:Int) (hre:res=(((hi*18446744073709551616+lo) % 2305843009213693951:Nat):Int))
  (hQ:∀q w',Keep No w w'->Q (.tuple #[.int .u64 q,.int .u64 res]) w'):V294 hi lo 2305843009213693951 w Q:=by
 unfold V294
 refine bsel_neg rfl ?_
 unfold V294J6
 refine bsel_neg (by simp;omega) ?_
 unfold V294J5
 refine bsel_split (λ h0=>?_) λ h0=>?_
 ·have h0:hi=0:=by simpa using h0
  subst h0
  have e:Int.tmod (lo:Int) 2305843009213693951=res:=by
   rw [hre,Int.tmod_eq_emod_of_nonneg (by omega)];omega
  rw [e]
  exact ⟨by decide,by decide,hQ _ _ (Keep.drawn w)⟩
 refine (C337_m61 w).mono ?_
 rintro _ w1 ⟨rfl,rfl⟩
 have e3:IntKind.wrap .u64 3=3:=rfl
 have e61:IntKind.wrap .u64 (64-3)=61:=rfl
 have ey:shl .u64 2305843009213693951 3=18446744073709551608:=rfl
 have e32:shr .u64 18446744073709551608 32=4294967295:=rfl
 have ed:bAnd .u64 18446744073709551608 4294967295=4294967288:=rfl
 refine ⟨_,rfl,?_⟩
 simp only [e3,e61,ey,e32,ed]
 refine ⟨by decide,by decide,by decide,by decide,by decide,by decide,by decide,?_⟩
 have eh:shl .u64 hi 3=((hi*8:Nat):Int):=by
  rw [show (3:Int)=((3:Nat):Int) from rfl,shln _ 3 (by decide)];omega
 have el:shr .u64 lo 61=((lo / 2305843009213693952:Nat):Int):=by
  rw [show (61:Int)=((61:Nat):Int) from rfl,shrn _ 61 (by decide)];omega
 have eU:bOr .u64 (shl .u64 hi 3) (shr .u64 lo 61)=((hi*8+lo / 2305843009213693952:Nat):Int):=by
  rw [eh,el,bOr_nat _ _ (by omega) (by omega)]
  have:=or_add hi (lo / 2305843009213693952) 3 (by omega)
  rw [show (2:Nat) ^ 3=8 from rfl] at this
  rw [this]
 have e10:shl .u64 lo 3=((lo*8 % 18446744073709551616:Nat):Int):=by
  rw [show (3:Int)=((3:Nat):Int) from rfl,shln _ 3 (by decide)];omega
 rw [eU,e10]
 obtain ⟨U,u1,u0,hU,hV1,hV0,hUlt,hu1,hu0,hVlt,hN⟩:=parts hi lo h hl
 have e1:∀V:Nat,shr .u64 V 32=((V / 4294967296:Nat):Int):=λ V=>by
  rw [show (32:Int)=((32:Nat):Int) from rfl,shrn _ 32 (by decide)];omega
 rw [e1,bAnd32 _ hVlt,hU,hV1,hV0]
 have hUi:(0:Int)<=U/\(U:Int)<18446744073709551608:=⟨Int.natCast_nonneg _,by omega⟩
 have h1i:(0:Int)<=u1/\(u1:Int)<4294967296:=⟨Int.natCast_nonneg _,by omega⟩
 have h0i:(0:Int)<=u0/\(u0:Int)<4294967296:=⟨Int.natCast_nonneg _,by omega⟩
 have hres:=resE U u1 u0 _ hN
 rw [<-hre] at hres
 clear hU hV1 hV0 hVlt hN hre e1 eU e10 eh el h hl h0 hUlt hu1 hu0
 generalize (U:Int)=U at *
 generalize (u1:Int)=u1 at *
 generalize (u0:Int)=u0 at *
 rw [dv U hUi,rm U hUi]
 have second:∀(Q1:Int),Q1*18446744073709551608<=U*4294967296+u1->U*4294967296+u1<(Q1+1)*18446744073709551608->∀u30:Int,
   V294J3 Q 18446744073709551608 3 4294967295 4294967288 U u1 u0 Q1 w1:=by
  intro Q1 a1 a2 _
  have hq1:0<=Q1/\Q1<=4294967296:=by omega
  obtain ⟨hu21,hXb⟩:=low U u1 Q1 hUi h1i a1 a2
  have hres:=hres Q1
  unfold V294J3
  rw [hu21]
  obtain ⟨X,hX⟩:∃X,U*4294967296+u1-Q1*18446744073709551608=X:=⟨_,rfl⟩
  rw [hX] at hres hXb ⊢
  clear hu21 hX a1 a2
  rw [dv X hXb,rm X hXb]
  have fin:∀Q0:Int,Q0*18446744073709551608<=X*4294967296+u0->X*4294967296+u0<(Q0+1)*18446744073709551608->
    V294J1 Q 18446744073709551608 3 u0 Q1 X Q0 w1:=by
   intro Q0 b1 b2
   unfold V294J1
   obtain ⟨hf,hf2⟩:=low X u0 Q0 hXb h0i b1 b2
   rw [hf,show (3:Int)=((3:Nat):Int) from rfl,shrn _ 3 (by decide)]
   rw [show (2:Int) ^ 3=8 from rfl]
   rw [hres Q0 hf2.1 hf2.2]
   exact ⟨by decide,hQ _ _ (Keep.refl _ _)⟩
  refine ⟨by decide,λ r q w'=>w'=w1/\q*4294967295+r=X/\(0<=r/\r<4294967296)/\X*4294967296+u0<(q+1)*18446744073709551608,λ r _ _=>(4294967296-r).toNat,⟨rfl,by omega,by omega,by omega⟩,?_⟩
  rintro j r q w2 ⟨rfl,he,hrb,hub⟩
  have hq:0<=q/\q<=4294967297:=first_q X u0 q r hXb h0i he hrb hub
  have hdec:q*18446744073709551608>X*4294967296+u0->V294J2 Q
    (λ r q w'=>w'=w2/\q*4294967295+r=X/\(0<=r/\r<4294967296)/\X*4294967296+u0<(q+1)*18446744073709551608) (λ r _ _=>(4294967296-r).toNat) r q w2 18446744073709551608 3 4294967295 4294967288 u0 Q1 r X q true w2:=by
   intro hc
   unfold V294J2
   refine bsel_pos rfl ?_
   rw [wu (r+4294967295) (by omega),wu (q-1) (by omega)]
   refine bsel_split (λ hb=>?_) λ hb=>?_
   ·have hb:4294967296<=r+4294967295:=by simpa using hb
    exact fin (q-1) (by omega) (by omega)
   ·have hb:r+4294967295<4294967296:=by simpa using hb
    exact ⟨⟨rfl,by omega,by omega,by omega⟩,by simp only;omega⟩
  refine bsel_split (λ hb=>?_) λ hb=>?_
  ·have hb:4294967296<=q:=by simpa using hb
   exact hdec (by omega)
  ·have hb:q<4294967296:=by simpa using hb
   rw [wu (q*4294967288) (by omega),wu (4294967296*r) (by omega),wu _ (by omega)]
   by_cases hc:q*4294967288>4294967296*r+u0
   ·rw [decide_eq_true hc]
    exact hdec (by omega)
   ·rw [decide_eq_false hc]
    unfold V294J2
    exact bsel_neg rfl (fin q (by omega) (by omega))
 refine ⟨λ q r w'=>w'=w1/\q*4294967295+r=U/\(0<=r/\r<4294967296)/\U*4294967296+u1<(q+1)*18446744073709551608,λ _ r _=>(4294967296-r).toNat,⟨rfl,by omega,by omega,by omega⟩,?_⟩
 rintro j q r w2 ⟨rfl,he,hrb,hub⟩
 have hq:0<=q/\q<=4294967297:=first_q U u1 q r hUi h1i he hrb hub
 have hdec:q*18446744073709551608>U*4294967296+u1->V294J4 Q
   (λ q r w'=>w'=w2/\q*4294967295+r=U/\(0<=r/\r<4294967296)/\U*4294967296+u1<(q+1)*18446744073709551608) (λ _ r _=>(4294967296-r).toNat) q r w2 18446744073709551608 3 4294967295 4294967288 U u1 u0 q r true w2:=by
  intro hc
  unfold V294J4
  refine bsel_pos rfl ?_
  rw [wu (r+4294967295) (by omega),wu (q-1) (by omega)]
  refine bsel_split (λ hb=>?_) λ hb=>?_
  ·have hb:4294967296<=r+4294967295:=by simpa using hb
   exact second (q-1) (by omega) (by omega) 0
  ·have hb:r+4294967295<4294967296:=by simpa using hb
   exact ⟨⟨rfl,by omega,by omega,by omega⟩,by simp only;omega⟩
 refine bsel_split (λ hb=>?_) λ hb=>?_
 ·have hb:4294967296<=q:=by simpa using hb
  exact hdec (by omega)
 ·have hb:q<4294967296:=by simpa using hb
  rw [wu (q*4294967288) (by omega),wu (4294967296*r) (by omega),wu _ (by omega)]
  by_cases hc:q*4294967288>4294967296*r+u1
  ·rw [decide_eq_true hc]
   exact hdec (by omega)
  ·rw [decide_eq_false hc]
   unfold V294J4
   exact bsel_neg rfl (second q (by omega) (by omega) 0)
end Go.Fw

set_option maxRecDepth 100000
namespace Go.Fw
open Go.Proofs
def V207 (x1 x2:Int) (w:World) (Q:Value->World->Prop):Prop:=
newK w #[.int .u8 0,.int .u8 0,.int .u8 0,.int .u8 0] 385 λ a3 w4=>
∃(I5:Int->Int->World->Prop) (μ6:Int->Int->World->Nat),I5 x1 0 w4/\∀(j10:Fr) (i7:Int) (i8:Int) (w9:World),I5 i7 i8 w9->
bsel (decide (i8<x2)) (
sidxK (⟨#[48,49,50,51,52,53,54,55,56,57,97,98,99,100,101,102]⟩:ByteArray) (bAnd .i32 i7 15) λ c11=>
aidxK a3 4 (IntKind.wrap .i64 (IntKind.wrap .i64 (x2-1)-i8)) 1 λ a12=>
stK w9 a12 (.int .u8 c11) λ w13=>
((0:Int)<=4)/\
(I5 (shr .i32 i7 4) (IntKind.wrap .i64 (i8+1)) w13/\μ6 (shr .i32 i7 4) (IntKind.wrap .i64 (i8+1)) w13<μ6 i7 i8 w9)) (
∃t14 t15 t16,(∀w:World,(Instr.sliceAt 385 (.pointer (some a3)) none (some (.int .i64 x2)) none).run Tryz.prog w=.ok (.slice t14 t15 t16) w)/\
∃w17:World,∃t18,(Go.convert 148 9 (.slice t14 t15 t16)).run Tryz.prog w9=.ok (.string t18) w17/\
Q (.string t18) w17)
def V207_ann:Nat->Ann:=λ k=>match k with | 0=>⟨[1,5,7],[(0,.int .i32),(8,.int .i64)]⟩ | _=>⟨[],[]⟩
def V397  (w:World) (Q:Value->World->Prop):Prop:=
newK w #[] 83 λ a1 w2=>
Q (.int .i64 0) w2
def V397_ann:Nat->Ann:=λ _=>⟨[],[]⟩
theorem V397_sound (w Q) (h:V397  w Q):Calls Tryz.prog 397 #[.agg #[]] w λ e w'=>∃v,e=.returned v/\Q v w':=
 sound_of Tryz.func397 V397_ann rfl (Eq.mpr (by kernel_rfl) h)
def V398  (w:World) (Q:Value->World->Prop):Prop:=
newK w #[] 85 λ a1 w2=>
Q (.int .i64 1) w2
def V398_ann:Nat->Ann:=λ _=>⟨[],[]⟩
theorem V398_sound (w Q) (h:V398  w Q):Calls Tryz.prog 398 #[.agg #[]] w λ e w'=>∃v,e=.returned v/\Q v w':=
 sound_of Tryz.func398 V398_ann rfl (Eq.mpr (by kernel_rfl) h)
def V399 (x1:Bool) (w:World) (Q:Value->World->Prop):Prop:=
newK w #[.bool x1] 87 λ a2 w3=>
Q (.int .i64 2) w3
def V399_ann:Nat->Ann:=λ _=>⟨[],[]⟩
theorem V399_sound (x1 w Q) (h:V399 x1 w Q):Calls Tryz.prog 399 #[.agg #[.bool x1]] w λ e w'=>∃v,e=.returned v/\Q v w':=
 sound_of Tryz.func399 V399_ann rfl (Eq.mpr (by kernel_rfl) h)
def V158 (x1:Option Addr) (w:World) (Q:Value->World->Prop):Prop:=
nilK x1 λ a2=>
∃t3,w.cell? (a2.add 2)=some (.int .i64 t3)/\
Q (.int .i64 t3) w
def V158_ann:Nat->Ann:=λ _=>⟨[],[]⟩
theorem V158_sound (x1 w Q) (h:V158 x1 w Q):Calls Tryz.prog 158 #[.pointer x1] w λ e w'=>∃v,e=.returned v/\Q v w':=
 sound_of Tryz.func158 V158_ann rfl (Eq.mpr (by kernel_rfl) h)
def V401 (x1:Int) (w:World) (Q:Value->World->Prop):Prop:=
newK w #[.int .i64 x1] 98 λ a2 w3=>
∃t4,w3.cell? (a2.add 0)=some (.int .i64 t4)/\
Q (.int .i64 t4) w3
def V401_ann:Nat->Ann:=λ _=>⟨[],[]⟩
theorem V401_sound (x1 w Q) (h:V401 x1 w Q):Calls Tryz.prog 401 #[.agg #[.int .i64 x1]] w λ e w'=>∃v,e=.returned v/\Q v w':=
 sound_of Tryz.func401 V401_ann rfl (Eq.mpr (by kernel_rfl) h)
def V409 (x1:ByteArray) (w:World) (Q:Value->World->Prop):Prop:=
newK w #[.string x1] 160 λ a2 w3=>
Q (.int .i64 4) w3
def V409_ann:Nat->Ann:=λ _=>⟨[],[]⟩
theorem V409_sound (x1 w Q) (h:V409 x1 w Q):Calls Tryz.prog 409 #[.agg #[.string x1]] w λ e w'=>∃v,e=.returned v/\Q v w':=
 sound_of Tryz.func409 V409_ann rfl (Eq.mpr (by kernel_rfl) h)
def V49 (x1:Option Addr) (w:World) (Q:Value->World->Prop):Prop:=
nilK x1 λ a2=>
∃t3,w.cell? (a2.add 2)=some (.int .i64 t3)/\
Q (.int .i64 t3) w
def V49_ann:Nat->Ann:=λ _=>⟨[],[]⟩
theorem V49_sound (x1 w Q) (h:V49 x1 w Q):Calls Tryz.prog 49 #[.pointer x1] w λ e w'=>∃v,e=.returned v/\Q v w':=
 sound_of Tryz.func49 V49_ann rfl (Eq.mpr (by kernel_rfl) h)
def V173 (x1:Option Addr) (w:World) (Q:Value->World->Prop):Prop:=
nilK x1 λ a2=>
∃t3,w.cell? (a2.add 2)=some (.int .i64 t3)/\
Q (.int .i64 t3) w
def V173_ann:Nat->Ann:=λ _=>⟨[],[]⟩
theorem V173_sound (x1 w Q) (h:V173 x1 w Q):Calls Tryz.prog 173 #[.pointer x1] w λ e w'=>∃v,e=.returned v/\Q v w':=
 sound_of Tryz.func173 V173_ann rfl (Eq.mpr (by kernel_rfl) h)
def V411 (x1:Option Addr) (w:World) (Q:Value->World->Prop):Prop:=
Q (.int .i64 14) w
def V411_ann:Nat->Ann:=λ _=>⟨[],[]⟩
theorem V411_sound (x1 w Q) (h:V411 x1 w Q):Calls Tryz.prog 411 #[.pointer x1] w λ e w'=>∃v,e=.returned v/\Q v w':=
 sound_of Tryz.func411 V411_ann rfl (Eq.mpr (by kernel_rfl) h)
def V414 (x1:Bool) (x2:Option Addr) (x3 x4:Nat) (w:World) (Q:Value->World->Prop):Prop:=
newK w #[.bool x1,.slice x2 x3 x4] 172 λ a5 w6=>
Q (.int .i64 3) w6
def V414_ann:Nat->Ann:=λ _=>⟨[],[]⟩
theorem V414_sound (x1 x2 x3 x4 w Q) (h:V414 x1 x2 x3 x4 w Q):Calls Tryz.prog 414 #[.agg #[.bool x1,.slice x2 x3 x4]] w λ e w'=>∃v,e=.returned v/\Q v w':=
 sound_of Tryz.func414 V414_ann rfl (Eq.mpr (by kernel_rfl) h)
def V419 (x1:Option Addr) (w:World) (Q:Value->World->Prop):Prop:=
Q (.int .i64 13) w
def V419_ann:Nat->Ann:=λ _=>⟨[],[]⟩
theorem V419_sound (x1 w Q) (h:V419 x1 w Q):Calls Tryz.prog 419 #[.pointer x1] w λ e w'=>∃v,e=.returned v/\Q v w':=
 sound_of Tryz.func419 V419_ann rfl (Eq.mpr (by kernel_rfl) h)
def V42 (x1:Option Addr) (x2:Int) (w:World) (Q:Value->World->Prop):Prop:=
newK w #[.bool false,.slice none 0 0] 40 λ a3 w4=>
Calls Tryz.prog 41 #[.pointer x1,.int .i64 x2] w4 λ e5 w6=>∃t7,e5=.returned (t7)/\
∃t8 t9,(∀w:World,(Instr.typeAssert t7 77 87 true).run Tryz.prog w=.ok (.tuple #[.agg #[.bool t8],.bool t9]) w)/\
bsel t9 (
newK w6 #[.bool false] 87 λ a10 w11=>
stK w11 (a10.add 0) (.bool t8) λ w12=>
∃t13,w12.cell? (a10.add 0)=some (.bool t13)/\
bsel t13 (
Calls Tryz.prog 93 #[.int .i64 1] w12 λ e14 w15=>∃t16 t17 t18 t19,e14=.returned (.agg #[.bool t16,.slice t17 t18 t19])/\
stK w15 (a3.add 0) (.bool t16) λ w20=>
stK w20 (a3.add 1) (.slice t17 t18 t19) λ w21=>
∃t22 t23 t24 t25,CellsAt w21 a3 [.bool t22,.slice t23 t24 t25]/\
Q (.tuple #[.agg #[.bool t22,.slice t23 t24 t25],.bool true]) w21) (
Calls Tryz.prog 93 #[.int .i64 0] w12 λ e26 w27=>∃t28 t29 t30 t31,e26=.returned (.agg #[.bool t28,.slice t29 t30 t31])/\
stK w27 (a3.add 0) (.bool t28) λ w32=>
stK w32 (a3.add 1) (.slice t29 t30 t31) λ w33=>
∃t34 t35 t36 t37,CellsAt w33 a3 [.bool t34,.slice t35 t36 t37]/\
Q (.tuple #[.agg #[.bool t34,.slice t35 t36 t37],.bool true]) w33)) (
∃t38 t39 t40 t41 t42,(∀w:World,(Instr.typeAssert t7 77 172 true).run Tryz.prog w=.ok (.tuple #[.agg #[.bool t38,.slice t39 t40 t41],.bool t42]) w)/\
bsel t42 (
newK w6 #[.bool false,.slice none 0 0] 172 λ a43 w44=>
stK w44 (a43.add 0) (.bool t38) λ w45=>
stK w45 (a43.add 1) (.slice t39 t40 t41) λ w46=>
∃t47 t48 t49 t50,CellsAt w46 (a43.add 0) [.bool t47,.slice t48 t49 t50]/\
stK w46 (a3.add 0) (.bool t47) λ w51=>
stK w51 (a3.add 1) (.slice t48 t49 t50) λ w52=>
∃t53 t54 t55 t56,CellsAt w52 a3 [.bool t53,.slice t54 t55 t56]/\
Q (.tuple #[.agg #[.bool t53,.slice t54 t55 t56],.bool true]) w52) (
stK w6 (a3.add 0) (.bool false) λ w57=>
stK w57 (a3.add 1) (.slice none 0 0) λ w58=>
∃t59 t60 t61 t62,CellsAt w58 a3 [.bool t59,.slice t60 t61 t62]/\
Q (.tuple #[.agg #[.bool t59,.slice t60 t61 t62],.bool false]) w58))
def V42_ann:Nat->Ann:=λ _=>⟨[],[]⟩
theorem V42_sound (x1 x2 w Q) (h:V42 x1 x2 w Q):Calls Tryz.prog 42 #[.pointer x1,.int .i64 x2] w λ e w'=>∃v,e=.returned v/\Q v w':=
 sound_of Tryz.func42 V42_ann rfl (Eq.mpr (by kernel_rfl) h)
def V43J1 (Q:Value->World->Prop) (x27 x28:Addr) (x29 x30:Int) (w31:World):Prop:=
bsel (decide (x29<x30)) (
Q (.int .i64 (-1)) w31) (
bsel (decide (x29>x30)) (
Q (.int .i64 1) w31) (
∃t32 t33 t34,w31.cell? (x27.add 1)=some (.slice t32 t33 t34)/\
∃t35 t36 t37,w31.cell? (x28.add 1)=some (.slice t35 t36 t37)/\
Calls Tryz.prog 95 #[.slice t32 t33 t34,.slice t35 t36 t37] w31 λ e38 w39=>∃t40,e38=.returned (.int .i64 t40)/\
Q (.int .i64 (IntKind.wrap .i64 (x29*t40))) w39))
def V43 (x1:Bool) (x2:Option Addr) (x3 x4:Nat) (x5:Bool) (x6:Option Addr) (x7 x8:Nat) (w:World) (Q:Value->World->Prop):Prop:=
newK w #[.bool x1,.slice x2 x3 x4] 40 λ a9 w10=>
newK w10 #[.bool x5,.slice x6 x7 x8] 40 λ a11 w12=>
∃t13 t14 t15 t16,CellsAt w12.drew a9 [.bool t13,.slice t14 t15 t16]/\
∃t17 t18 t19 t20,CellsAt w12.drew a11 [.bool t17,.slice t18 t19 t20]/\
Calls Tryz.prog 94 #[.agg #[.bool t13,.slice t14 t15 t16]] w12.drew λ e21 w22=>∃t23,e21=.returned (.int .i64 t23)/\
(CellsAt w22 a11 [.bool t17,.slice t18 t19 t20])/\
Calls Tryz.prog 94 #[.agg #[.bool t17,.slice t18 t19 t20]] w22 λ e24 w25=>∃t26,e24=.returned (.int .i64 t26)/\
V43J1 Q a9 a11 t23 t26 w25
def V43_ann:Nat->Ann:=λ _=>⟨[],[]⟩
theorem V43_sound (x1 x2 x3 x4 x5 x6 x7 x8 w Q) (h:V43 x1 x2 x3 x4 x5 x6 x7 x8 w Q):Calls Tryz.prog 43 #[.agg #[.bool x1,.slice x2 x3 x4],.agg #[.bool x5,.slice x6 x7 x8]] w λ e w'=>∃v,e=.returned v/\Q v w':=
 sound_of Tryz.func43 V43_ann rfl (Eq.mpr (by kernel_rfl) h)
def V44 (x1:Option Addr) (x2:Int) (w:World) (Q:Value->World->Prop):Prop:=
Calls Tryz.prog 41 #[.pointer x1,.int .i64 x2] w λ e3 w4=>∃t5,e3=.returned (t5)/\
∃t6 t7,(∀w:World,(Instr.typeAssert t5 77 160 true).run Tryz.prog w=.ok (.tuple #[.agg #[.string t6],.bool t7]) w)/\
newK w4 #[.string ⟨#[]⟩] 160 λ a8 w9=>
stK w9 (a8.add 0) (.string t6) λ w10=>
∃t11,w10.cell? (a8.add 0)=some (.string t11)/\
Q (.tuple #[.string t11,.bool t7]) w10
def V44_ann:Nat->Ann:=λ _=>⟨[],[]⟩
theorem V44_sound (x1 x2 w Q) (h:V44 x1 x2 w Q):Calls Tryz.prog 44 #[.pointer x1,.int .i64 x2] w λ e w'=>∃v,e=.returned v/\Q v w':=
 sound_of Tryz.func44 V44_ann rfl (Eq.mpr (by kernel_rfl) h)
def V72 (x1:Option Addr) (w:World) (Q:Value->World->Prop):Prop:=
bsel (Option.isNone x1) (
Q (.int .i64 0) w) (
nilK x1 λ a2=>
∃t3,w.cell? (a2.add 0)=some (.pointer t3)/\
Calls Tryz.prog 121 #[.pointer t3] w λ e4 w5=>∃t6,e4=.returned (.int .i64 t6)/\
Q (.int .i64 t6) w5)
def V72_ann:Nat->Ann:=λ _=>⟨[],[]⟩
theorem V72_sound (x1 w Q) (h:V72 x1 w Q):Calls Tryz.prog 72 #[.pointer x1] w λ e w'=>∃v,e=.returned v/\Q v w':=
 sound_of Tryz.func72 V72_ann rfl (Eq.mpr (by kernel_rfl) h)
def V75 (x1:Bool) (x2:Option Addr) (x3 x4:Nat) (w:World) (Q:Value->World->Prop):Prop:=
newK w #[.bool x1,.slice x2 x3 x4] 40 λ a5 w6=>
∃t7 t8 t9,w6.cell? (a5.add 1)=some (.slice t7 t8 t9)/\
Calls Tryz.prog 124 #[.slice t7 t8 t9] w6 λ e10 w11=>∃t12 t13 t14,e10=.returned (.slice t12 t13 t14)/\
Calls Tryz.prog 123 #[.slice t12 t13 t14] w11 λ e15 w16=>∃t17 t18 t19,e15=.returned (.slice t17 t18 t19)/\
bsel ((t18:Int) == 0) (
Q (.string (⟨#[48]⟩:ByteArray)) w16) (
∃(I20:Option Addr->Nat->Nat->Option Addr->Nat->Nat->World->Prop) (μ21:Option Addr->Nat->Nat->Option Addr->Nat->Nat->World->Nat),I20 t17 t18 t19 none 0 0 w16/\∀(j29:Fr) (i22:Option Addr) (i23:Nat) (i24:Nat) (i25:Option Addr) (i26:Nat) (i27:Nat) (w28:World),I20 i22 i23 i24 i25 i26 i27 w28->
bsel (decide ((i23:Int)>0)) (
∃(I30:Int->Int->World->Prop) (μ31:Int->Int->World->Nat),I30 0 (IntKind.wrap .i64 ((i23:Int)-1)) w28/\∀(j35:Fr) (i32:Int) (i33:Int) (w34:World),I30 i32 i33 w34->
bsel (decide (i33>=0)) (
idxK i22 i23 i33 1 λ a36=>
∃t37,w34.cell? a36=some (.int .u32 t37)/\
Calls Tryz.prog 125 #[.int .u32 i32,.int .u32 t37,.int .u32 1000000000] w34 λ e38 w39=>∃t40 t41,e38=.returned (.tuple #[.int .u32 t40,.int .u32 t41])/\
idxK i22 i23 i33 1 λ a42=>
stK w39 a42 (.int .u32 t40) λ w43=>
(I30 t41 (IntKind.wrap .i64 (i33-1)) w43/\μ31 t41 (IntKind.wrap .i64 (i33-1)) w43<μ31 i32 i33 w34)) (
newK w34 #[.int .u32 i32] 45 λ a44 w45=>
∃w46:World,∃t47 t48 t49,(vcEff.bltV .append #[38,38] 38 #[.slice i25 i26 i27,.slice (some a44) 1 1]).run Tryz.prog w45=.ok (.slice t47 t48 t49) w46/\
Calls Tryz.prog 124 #[.slice i22 i23 i24] w46 λ e50 w51=>∃t52 t53 t54,e50=.returned (.slice t52 t53 t54)/\
(I20 t52 t53 t54 t47 t48 t49 w51/\μ21 t52 t53 t54 t47 t48 t49 w51<μ21 i22 i23 i24 i25 i26 i27 w28))) (
newK w28 #[.pointer none,.slice none 0 0] 150 λ a55 w56=>
Calls Tryz.prog 126 #[.slice i25 i26 i27] w56 λ e57 w58=>∃t59,e57=.returned (t59)/\
∀Rec60:LoopState->Option Code->Obj,(∀s p c e f,Rec60 s p≠.cells c e f)->
(∀(w61:World) (K62:Bool->World->Prop),w61.heap[(w58.heap.size+1)]?=some (Rec60 .ready none)->∀(y63:Value) (y64:Int),(
w61.heap[(w58.heap.size+1)]?=some (Rec60 .ready none)/\
Calls Tryz.prog 127 #[.int .u32 y64] (w61.putObj (w58.heap.size+1) (Rec60 .busy none)) λ e65 w66=>∃t67 t68 t69 t70 t71 t72 t73 t74 t75,e65=.returned (.agg #[.int .u8 t67,.int .u8 t68,.int .u8 t69,.int .u8 t70,.int .u8 t71,.int .u8 t72,.int .u8 t73,.int .u8 t74,.int .u8 t75])/\
newK w66 #[.int .u8 0,.int .u8 0,.int .u8 0,.int .u8 0,.int .u8 0,.int .u8 0,.int .u8 0,.int .u8 0,.int .u8 0] 246 λ a76 w77=>
stK w77 (a76.add 0) (.int .u8 t67) λ w78=>
stK w78 (a76.add 1) (.int .u8 t68) λ w79=>
stK w79 (a76.add 2) (.int .u8 t69) λ w80=>
stK w80 (a76.add 3) (.int .u8 t70) λ w81=>
stK w81 (a76.add 4) (.int .u8 t71) λ w82=>
stK w82 (a76.add 5) (.int .u8 t72) λ w83=>
stK w83 (a76.add 6) (.int .u8 t73) λ w84=>
stK w84 (a76.add 7) (.int .u8 t74) λ w85=>
stK w85 (a76.add 8) (.int .u8 t75) λ w86=>
∃t87 t88 t89,(∀w:World,(Instr.sliceAt 246 (.pointer (some a76)) none none none).run Tryz.prog w=.ok (.slice t87 t88 t89) w)/\
Calls Tryz.prog 128 #[.pointer (some a55),.slice t87 t88 t89] w86 λ e90 w91=>∃t92 t93,e90=.returned (.tuple #[.int .i64 t92,t93])/\
((∃s p,w91.heap[(w58.heap.size+1)]?=some (Rec60 s p))/\K62 true (w91.putObj (w58.heap.size+1) (Rec60 .ready none))))->RoundK Tryz.prog (w58.heap.size+1) #[y63,.int .u32 y64] w61 K62)->
CallG Tryz.prog t59 #[.func (.yield (w58.heap.size+1)) #[] #[]] ((w58.alloc (.deferred (some []))).alloc (Rec60 .ready none)) λ e94 w95=>(∃v96,e94=.returned v96)/\((w95.heap[(w58.heap.size+1)]?=some (Rec60 .ready none)/\
Calls Tryz.prog 70 #[.pointer (some a55)] (w95.putObj (w58.heap.size+1) (Rec60 .exhausted none)) λ e97 w98=>∃t99,e97=.returned (.string t99)/\
Calls Tryz.prog 129 #[.string t99,.string (⟨#[48]⟩:ByteArray)] w98 λ e100 w101=>∃t102,e100=.returned (.string t102)/\
∃t103,w101.cell? (a5.add 0)=some (.bool t103)/\
bsel t103 (
((((⟨#[45]⟩:ByteArray).size+t102.size:Nat):Int)<=9223372036854775807)/\
((w101.heap[w58.heap.size]?=some (.deferred (some [])))/\Q (.string ((⟨#[45]⟩:ByteArray) ++ t102)) (w101.putObj w58.heap.size (.deferred none)))) (
((w101.heap[w58.heap.size]?=some (.deferred (some [])))/\Q (.string t102) (w101.putObj w58.heap.size (.deferred none)))))\/False)))
def V75_sh:Nat->List (Nat × Shape):=λ k=>match k with | 2=>[(49,.one (.raw)),(50,.one (.int .u32))] | _=>[]
def V75_ann:Nat->Ann:=λ k=>match k with | 0=>⟨[1],[(3,.slice),(4,.slice)]⟩ | 1=>⟨[1,3,4],[(5,.int .u32),(6,.int .i64)]⟩ | _=>⟨[],[]⟩
theorem V75_sound (x1 x2 x3 x4 w Q) (h:V75 x1 x2 x3 x4 w Q):Calls Tryz.prog 75 #[.agg #[.bool x1,.slice x2 x3 x4]] w λ e w'=>∃v,e=.returned v/\Q v w':=
 sound_ofM Tryz.func75 V75_ann V75_sh rfl (Eq.mpr (by kernel_rfl) h)
end Go.Fw
