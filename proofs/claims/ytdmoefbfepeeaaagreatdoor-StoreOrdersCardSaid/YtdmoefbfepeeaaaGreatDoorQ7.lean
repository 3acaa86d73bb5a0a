/- Part of a proof over the given program: texts of lemmas (conditions: none beyond each lemma as stated). -/
import Derived.Test.YtdmoefbfepeeaaaGreatDoorQ6
import Derived.Shelf.Strings.Builder1
import Derived.Shelf.Strings.Trim
import Derived.Shelf.Small.Utf8
import Derived.Shelf.Small.Bits
import Derived.Shelf.Small.Strs
import Derived.Shelf.Strings.BuilderF
import Derived.Shelf.Strings.BuilderK
import Derived.Shelf.Strconv.Itoa0
import Derived.Shelf.Strconv.Itoa1
import Derived.Shelf.LaysM
import Derived.Shelf.Strconv.Itoa2
import Derived.Shelf.Strconv.Itoa3
import Derived.Shelf.Strings.Search1
import Derived.Shelf.Unicode.Decode
import Derived.Shelf.Strings.Runes
import Derived.Shelf.Strings.AsciiSet
import Derived.Shelf.Unicode.DecodeSlow
import Derived.Shelf.Unicode.DecodeAny
import Derived.Shelf.Strings.BuilderCap
import Derived.Ground.SlgnProg
import Derived.Shelf.SlicesE.Clone
import Derived.Test.YtdmoefbfepeeaaaGreatDoorProg
set_option linter.unnecessarySimpa false
set_option linter.unusedVariables false
set_option linter.unusedSimpArgs false

namespace Go.Proofs
open Go.Shelf
def Tryz.lays169_ren : Go.Shelf.Ren := ⟨fun | 169 => 70 | n => n, fun | 70 => 147 | 9 => 9 | 0 => 0 | 72 => 150 | 37 => 148 | 127 => 232 | 3 => 3 | 5 => 5 | n => n, fun | n => n⟩
theorem Tryz.lays169 : Go.Proofs.Lays.n169 Tryz.prog Tryz.lays169_ren := {
  mixed := by kernel_rfl
  f169 := Tryz.func70.trans (congrArg some (by kernel_rfl))
  t0 := Tryz.underlying0
  a0 := Tryz.isAgg0
  z0 := Tryz.sizeOf0
  v0 := Tryz.zeroValue0
  t3 := Tryz.underlying3
  a3 := Tryz.isAgg3
  z3 := Tryz.sizeOf3
  v3 := Tryz.zeroValue3
  t9 := Tryz.underlying9
  a9 := Tryz.isAgg9
  z9 := Tryz.sizeOf9
  v9 := Tryz.zeroValue9
  t37 := Tryz.underlying148
  a37 := Tryz.isAgg148
  z37 := Tryz.sizeOf148
  v37 := Tryz.zeroValue148
  t70 := Tryz.underlying147
  a70 := Tryz.isAgg147
  z70 := Tryz.sizeOf147
  v70 := Tryz.zeroValue147
  t72 := Tryz.underlying150
  a72 := Tryz.isAgg150
  z72 := Tryz.sizeOf150
  v72 := Tryz.zeroValue150
  t127 := Tryz.underlying232
  a127 := Tryz.isAgg232
  z127 := Tryz.sizeOf232
  v127 := Tryz.zeroValue232 }
theorem Tryz.Builder_Extra_169 : Builder.Extra Tryz.prog Tryz.lays169_ren := {
  sizeBuilder := by kernel_rfl
  liesBuilder := by kernel_rfl
  t5 := Tryz.underlying5
  a5 := Tryz.isAgg5
  z5 := Tryz.sizeOf5
  v5 := Tryz.zeroValue5
  infoByte := by kernel_rfl
  cellsByte := by kernel_rfl
  sizeByte := by kernel_rfl
  neB5 := by decide }
def Tryz.lays161_ren : Go.Shelf.Ren := ⟨fun | 161 => 129 | 231 => 203 | 227 => 204 | 233 => 205 | 235 => 206 | 228 => 269 | 197 => 270 | 151 => 271 | 260 => 317 | 152 => 318 | 137 => 353 | 119 => 354 | 224 => 355 | 225 => 356 | 217 => 369 | 266 => 371 | n => n, fun | 9 => 9 | 4 => 4 | 3 => 3 | 5 => 5 | 117 => 320 | 116 => 319 | 0 => 0 | 124 => 323 | 105 => 382 | 21 => 21 | 119 => 327 | 46 => 46 | 139 => 330 | 138 => 329 | n => n, fun | 3 => 1 | 4 => 2 | n => n⟩
theorem Tryz.lays161 : Go.Proofs.Lays.n161 Tryz.prog Tryz.lays161_ren := {
  mixed := by kernel_rfl
  f119 := Tryz.func354.trans (congrArg some (by kernel_rfl))
  f137 := Tryz.func353.trans (congrArg some (by kernel_rfl))
  f151 := Tryz.func271.trans (congrArg some (by kernel_rfl))
  f152 := Tryz.func318.trans (congrArg some (by kernel_rfl))
  f161 := Tryz.func129.trans (congrArg some (by kernel_rfl))
  f197 := Tryz.func270.trans (congrArg some (by kernel_rfl))
  f217 := Tryz.func369.trans (congrArg some (by kernel_rfl))
  f224 := Tryz.func355.trans (congrArg some (by kernel_rfl))
  f225 := Tryz.func356.trans (congrArg some (by kernel_rfl))
  f227 := Tryz.func204.trans (congrArg some (by kernel_rfl))
  f228 := Tryz.func269.trans (congrArg some (by kernel_rfl))
  f231 := Tryz.func203.trans (congrArg some (by kernel_rfl))
  f233 := Tryz.func205.trans (congrArg some (by kernel_rfl))
  f235 := Tryz.func206.trans (congrArg some (by kernel_rfl))
  f260 := Tryz.func317.trans (congrArg some (by kernel_rfl))
  f266 := Tryz.func371.trans (congrArg some (by kernel_rfl))
  t0 := Tryz.underlying0
  a0 := Tryz.isAgg0
  z0 := Tryz.sizeOf0
  v0 := Tryz.zeroValue0
  t3 := Tryz.underlying3
  a3 := Tryz.isAgg3
  z3 := Tryz.sizeOf3
  v3 := Tryz.zeroValue3
  t4 := Tryz.underlying4
  a4 := Tryz.isAgg4
  z4 := Tryz.sizeOf4
  v4 := Tryz.zeroValue4
  t5 := Tryz.underlying5
  a5 := Tryz.isAgg5
  z5 := Tryz.sizeOf5
  v5 := Tryz.zeroValue5
  t9 := Tryz.underlying9
  a9 := Tryz.isAgg9
  z9 := Tryz.sizeOf9
  v9 := Tryz.zeroValue9
  t21 := Tryz.underlying21
  a21 := Tryz.isAgg21
  z21 := Tryz.sizeOf21
  v21 := Tryz.zeroValue21
  t46 := Tryz.underlying46
  a46 := Tryz.isAgg46
  z46 := Tryz.sizeOf46
  v46 := Tryz.zeroValue46
  t105 := Tryz.underlying382
  a105 := Tryz.isAgg382
  z105 := Tryz.sizeOf382
  v105 := Tryz.zeroValue382
  t116 := Tryz.underlying319
  a116 := Tryz.isAgg319
  z116 := Tryz.sizeOf319
  t117 := Tryz.underlying320
  a117 := Tryz.isAgg320
  z117 := Tryz.sizeOf320
  v117 := Tryz.zeroValue320
  t119 := Tryz.underlying327
  a119 := Tryz.isAgg327
  z119 := Tryz.sizeOf327
  t124 := Tryz.underlying323
  a124 := Tryz.isAgg323
  z124 := Tryz.sizeOf323
  v124 := Tryz.zeroValue323
  t138 := Tryz.underlying329
  a138 := Tryz.isAgg329
  z138 := Tryz.sizeOf329
  v138 := Tryz.zeroValue329
  t139 := Tryz.underlying330
  a139 := Tryz.isAgg330
  z139 := Tryz.sizeOf330
  v139 := Tryz.zeroValue330
  g3 := by kernel_rfl
  g4 := by kernel_rfl }
open Go.RowKit in
theorem Tryz.strings_TrimLeft_one (s : ByteArray) (c : UInt8) (hc : c.toNat < 128) (w : World) :
    Calls Tryz.prog 129 #[.string s, .string ⟨#[c]⟩] w fun e w' => e = .returned (.string ⟨(Lib.trimLeftB s.data.toList c).toArray⟩) ∧ w' = w := Any.strings_TrimLeft_one Tryz.lays161 s c hc w
def Tryz.lays134_ren : Go.Shelf.Ren := ⟨fun | 134 => 337 | 129 => 320 | n => n, fun | 53 => 44 | 3 => 3 | 4 => 4 | 46 => 46 | 5 => 5 | 9 => 9 | n => n, fun | n => n⟩
theorem Tryz.lays134 : Go.Proofs.Lays.n134 Tryz.prog Tryz.lays134_ren := {
  mixed := by kernel_rfl
  f129 := Tryz.func320.trans (congrArg some (by kernel_rfl))
  f134 := Tryz.func337.trans (congrArg some (by kernel_rfl))
  t3 := Tryz.underlying3
  a3 := Tryz.isAgg3
  z3 := Tryz.sizeOf3
  v3 := Tryz.zeroValue3
  t4 := Tryz.underlying4
  a4 := Tryz.isAgg4
  z4 := Tryz.sizeOf4
  v4 := Tryz.zeroValue4
  t5 := Tryz.underlying5
  a5 := Tryz.isAgg5
  z5 := Tryz.sizeOf5
  v5 := Tryz.zeroValue5
  t9 := Tryz.underlying9
  a9 := Tryz.isAgg9
  z9 := Tryz.sizeOf9
  v9 := Tryz.zeroValue9
  t46 := Tryz.underlying46
  a46 := Tryz.isAgg46
  z46 := Tryz.sizeOf46
  v46 := Tryz.zeroValue46
  t53 := Tryz.underlying44
  a53 := Tryz.isAgg44
  z53 := Tryz.sizeOf44
  v53 := Tryz.zeroValue44 }
theorem Tryz.bits_LeadingZeros64 (x : Int) (w : World) (h0 : 0 ≤ x) (h1 : x ≤ 18446744073709551615) :
    Calls Tryz.prog 337 #[.int .u64 x] w fun e w' => e = .returned (.int .i64 (64 - (Lib.bitLen x.toNat : Int))) ∧ w' = w := Any.bits_LeadingZeros64 Tryz.lays134 x w h0 h1
open Go.RowKit in
theorem Tryz.Builder_String_any_k (B b : Nat) (l : List UInt8) (w : World) (h : Lib.IsBuilderF 150 5 B b (Lib.byteCells l) w) (hBw : B ≤ w.heap.size) :
    Calls Tryz.prog 70 #[.pointer (some ⟨b, 0, none⟩)] w fun e w' => e = .returned (.string ⟨l.toArray⟩) ∧ (Lib.IsBuilderF 150 5 B b (Lib.byteCells l) w' ∧ Below B w w' ∧ Lib.OthersKept 5 (some b) w w') := Any.Builder_String_any_k Tryz.lays169 Tryz.Builder_Extra_169 B b l w h hBw
def Tryz.laysM246_ren : Go.Shelf.Ren := ⟨fun | 246 => 208 | 283 => 272 | 284 => 273 | 285 => 274 | 286 => 275 | 129 => 320 | 317 => 319 | 318 => 321 | 319 => 322 | 320 => 323 | 337 => 357 | 338 => 358 | n => n, fun | 2 => 2 | 3 => 3 | 9 => 9 | 4 => 4 | 171 => 386 | 0 => 0 | 53 => 44 | 37 => 148 | 5 => 5 | 173 => 389 | 212 => 428 | 51 => 45 | 20 => 20 | 213 => 429 | 46 => 46 | 232 => 468 | 233 => 469 | n => n, fun | 17 => 3 | 18 => 6 | 19 => 7 | n => n⟩
def Tryz.laysM243_ren : Go.Shelf.Ren := ⟨fun | 243 => 132 | 246 => 208 | 283 => 272 | 284 => 273 | 285 => 274 | 286 => 275 | 129 => 320 | 317 => 319 | 318 => 321 | 319 => 322 | 320 => 323 | 337 => 357 | 338 => 358 | n => n, fun | 3 => 3 | 9 => 9 | 2 => 2 | 4 => 4 | 171 => 386 | 0 => 0 | 53 => 44 | 37 => 148 | 5 => 5 | 173 => 389 | 212 => 428 | 51 => 45 | 20 => 20 | 213 => 429 | 46 => 46 | 232 => 468 | 233 => 469 | n => n, fun | 17 => 3 | 18 => 6 | 19 => 7 | n => n⟩
def Tryz.laysM171_ren : Go.Shelf.Ren := ⟨fun | 171 => 77 | 243 => 132 | 246 => 208 | 283 => 272 | 284 => 273 | 285 => 274 | 286 => 275 | 129 => 320 | 317 => 319 | 318 => 321 | 319 => 322 | 320 => 323 | 337 => 357 | 338 => 358 | n => n, fun | 3 => 3 | 9 => 9 | 2 => 2 | 4 => 4 | 171 => 386 | 0 => 0 | 53 => 44 | 37 => 148 | 5 => 5 | 173 => 389 | 212 => 428 | 51 => 45 | 20 => 20 | 213 => 429 | 46 => 46 | 232 => 468 | 233 => 469 | n => n, fun | 17 => 3 | 18 => 6 | 19 => 7 | n => n⟩
def Tryz.lays171_ren : Go.Shelf.Ren := ⟨fun | 171 => 77 | 243 => 132 | 246 => 208 | 283 => 272 | 284 => 273 | 285 => 274 | 286 => 275 | 129 => 320 | 317 => 319 | 318 => 321 | 319 => 322 | 320 => 323 | 337 => 357 | 338 => 358 | n => n, fun | 3 => 3 | 9 => 9 | 2 => 2 | 4 => 4 | 171 => 386 | 0 => 0 | 53 => 44 | 37 => 148 | 5 => 5 | 173 => 389 | 212 => 428 | 51 => 45 | 20 => 20 | 213 => 429 | 46 => 46 | 232 => 468 | 233 => 469 | n => n, fun | 17 => 3 | 18 => 6 | 19 => 7 | n => n⟩
theorem Tryz.lays171 : Go.Proofs.Lays.n171 Tryz.prog Tryz.lays171_ren := {
  mixed := by kernel_rfl
  f129 := Tryz.func320.trans (congrArg some (by kernel_rfl))
  f171 := Tryz.func77.trans (congrArg some (by kernel_rfl))
  f243 := Tryz.func132.trans (congrArg some (by kernel_rfl))
  f246 := Tryz.func208.trans (congrArg some (by kernel_rfl))
  f283 := Tryz.func272.trans (congrArg some (by kernel_rfl))
  f284 := Tryz.func273.trans (congrArg some (by kernel_rfl))
  f285 := Tryz.func274.trans (congrArg some (by kernel_rfl))
  f286 := Tryz.func275.trans (congrArg some (by kernel_rfl))
  f317 := Tryz.func319.trans (congrArg some (by kernel_rfl))
  f318 := Tryz.func321.trans (congrArg some (by kernel_rfl))
  f319 := Tryz.func322.trans (congrArg some (by kernel_rfl))
  f320 := Tryz.func323.trans (congrArg some (by kernel_rfl))
  f337 := Tryz.func357.trans (congrArg some (by kernel_rfl))
  f338 := Tryz.func358.trans (congrArg some (by kernel_rfl))
  t0 := Tryz.underlying0
  a0 := Tryz.isAgg0
  z0 := Tryz.sizeOf0
  v0 := Tryz.zeroValue0
  t2 := Tryz.underlying2
  a2 := Tryz.isAgg2
  z2 := Tryz.sizeOf2
  v2 := Tryz.zeroValue2
  t3 := Tryz.underlying3
  a3 := Tryz.isAgg3
  z3 := Tryz.sizeOf3
  v3 := Tryz.zeroValue3
  t4 := Tryz.underlying4
  a4 := Tryz.isAgg4
  z4 := Tryz.sizeOf4
  v4 := Tryz.zeroValue4
  t5 := Tryz.underlying5
  a5 := Tryz.isAgg5
  z5 := Tryz.sizeOf5
  v5 := Tryz.zeroValue5
  t9 := Tryz.underlying9
  a9 := Tryz.isAgg9
  z9 := Tryz.sizeOf9
  v9 := Tryz.zeroValue9
  t20 := Tryz.underlying20
  a20 := Tryz.isAgg20
  z20 := Tryz.sizeOf20
  v20 := Tryz.zeroValue20
  t37 := Tryz.underlying148
  a37 := Tryz.isAgg148
  z37 := Tryz.sizeOf148
  v37 := Tryz.zeroValue148
  t46 := Tryz.underlying46
  a46 := Tryz.isAgg46
  z46 := Tryz.sizeOf46
  v46 := Tryz.zeroValue46
  t51 := Tryz.underlying45
  a51 := Tryz.isAgg45
  z51 := Tryz.sizeOf45
  v51 := Tryz.zeroValue45
  t53 := Tryz.underlying44
  a53 := Tryz.isAgg44
  z53 := Tryz.sizeOf44
  v53 := Tryz.zeroValue44
  t171 := Tryz.underlying386
  a171 := Tryz.isAgg386
  z171 := Tryz.sizeOf386
  v171 := Tryz.zeroValue386
  t173 := Tryz.underlying389
  a173 := Tryz.isAgg389
  z173 := Tryz.sizeOf389
  v173 := Tryz.zeroValue389
  t212 := Tryz.underlying428
  a212 := Tryz.isAgg428
  z212 := Tryz.sizeOf428
  v212 := Tryz.zeroValue428
  t213 := Tryz.underlying429
  a213 := Tryz.isAgg429
  z213 := Tryz.sizeOf429
  t232 := Tryz.underlying468
  a232 := Tryz.isAgg468
  z232 := Tryz.sizeOf468
  v232 := Tryz.zeroValue468
  t233 := Tryz.underlying469
  a233 := Tryz.isAgg469
  z233 := Tryz.sizeOf469
  v233 := Tryz.zeroValue469
  g17 := by kernel_rfl
  g18 := by kernel_rfl
  g19 := by kernel_rfl }
open Go.RowKit Go.Sort Go.Lib in
theorem Tryz.strconv_Itoa_small (i : Nat) (hi : i < 100) (w : World) :
    Calls Tryz.prog 77 #[.int .i64 i] w fun e w' => e = .returned (.string ⟨(Lib.decDigits i).toArray⟩) ∧ w' = w := Any.strconv_Itoa_small Tryz.lays171 i hi w
end Go.Proofs


set_option autoImplicit false
set_option linter.unusedVariables false
set_option maxRecDepth 100000
namespace Go.Fw
open Go.Proofs Go.RowKit
theorem wu (n : Int) (h : 0 ≤ n ∧ n < 18446744073709551616) : IntKind.wrap .u64 n = n := by rw [wrap_u64]; omega
theorem shrn (x : Int) (k : Nat) (hk : k ≤ 64) : shr .u64 x k = x / 2 ^ k := by
  unfold shr
  rw [Int.toNat_natCast, show min k (IntKind.bits .u64) = k by simp [IntKind.bits]; omega, Int.fdiv_eq_ediv_of_nonneg _ (by exact Int.pow_nonneg (by decide))]
theorem shln (x : Int) (k : Nat) (hk : k ≤ 64) : shl .u64 x k = (x * 2 ^ k) % 18446744073709551616 := by
  unfold shl
  rw [Int.toNat_natCast, show min k (IntKind.bits .u64) = k by simp [IntKind.bits]; omega, wrap_u64]
theorem bAnd32 (x : Nat) (hx : x < 18446744073709551616) : bAnd .u64 x 4294967295 = ((x % 4294967296 : Nat) : Int) := by
  have := bAnd_mask (log := 20) (by decide) hx
  unfold bAnd
  have hb : IntKind.bits .u64 = 64 := rfl
  rw [hb, show (4294967295 : Int) = ((2 ^ 32 - 1 : Nat) : Int) from rfl, BitVec.ofInt_natCast, BitVec.ofInt_natCast, BitVec.toNat_and, BitVec.toNat_ofNat, BitVec.toNat_ofNat]
  rw [Nat.mod_eq_of_lt (show x < 2 ^ 64 by omega), Nat.mod_eq_of_lt (show 2 ^ 32 - 1 < 2 ^ 64 by decide), Nat.and_two_pow_sub_one_eq_mod, wrap_u64]
  omega
theorem bOr_nat (x y : Nat) (hx : x < 18446744073709551616) (hy : y < 18446744073709551616) : bOr .u64 x y = ((x ||| y : Nat) : Int) := by
  unfold bOr
  have hb : IntKind.bits .u64 = 64 := rfl
  rw [hb, BitVec.ofInt_natCast, BitVec.ofInt_natCast, BitVec.toNat_or, BitVec.toNat_ofNat, BitVec.toNat_ofNat]
  rw [Nat.mod_eq_of_lt (show x < 2 ^ 64 by omega), Nat.mod_eq_of_lt (show y < 2 ^ 64 by omega), wrap_u64]
  have : x ||| y < 2 ^ 64 := Nat.or_lt_two_pow (by omega) (by omega)
  omega
theorem or_add (a b k : Nat) (h : b < 2 ^ k) : (a * 2 ^ k) ||| b = a * 2 ^ k + b := by
  have := Nat.shiftLeft_add_eq_or_of_lt h a
  rw [Nat.shiftLeft_eq] at this
  exact this.symm
theorem C337_m61 (w : World) : Calls Tryz.prog 337 #[.int .u64 2305843009213693951] w fun e w' => e = .returned (.int .i64 3) ∧ w' = w := by
  refine (Tryz.bits_LeadingZeros64 2305843009213693951 w (by decide) (by decide)).mono ?_
  rintro _ w' h
  exact h
theorem dv (U : Int) (h : 0 ≤ U ∧ U < 18446744073709551608) : IntKind.wrap .u64 (Int.tdiv U 4294967295) = U / 4294967295 := by
  rw [Int.tdiv_eq_ediv_of_nonneg (by omega), wu _ (by omega)]
theorem rm (U : Int) (h : 0 ≤ U ∧ U < 18446744073709551608) : IntKind.wrap .u64 (U - IntKind.wrap .u64 (U / 4294967295 * 4294967295)) = U % 4294967295 := by
  have h1 : 0 ≤ U / 4294967295 * 4294967295 ∧ U / 4294967295 * 4294967295 < 18446744073709551616 := by omega
  rw [wu _ h1]
  have h2 : U - U / 4294967295 * 4294967295 = U % 4294967295 := by omega
  rw [h2, wu]
  omega
theorem low (U u1 Q : Int) (hU : 0 ≤ U ∧ U < 18446744073709551608) (h1 : 0 ≤ u1 ∧ u1 < 4294967296) (a1 : Q * 18446744073709551608 ≤ U * 4294967296 + u1) (a2 : U * 4294967296 + u1 < (Q + 1) * 18446744073709551608) :
    IntKind.wrap .u64 (IntKind.wrap .u64 (IntKind.wrap .u64 (U * 4294967296) + u1) - IntKind.wrap .u64 (Q * 18446744073709551608)) = U * 4294967296 + u1 - Q * 18446744073709551608 ∧ (0 ≤ U * 4294967296 + u1 - Q * 18446744073709551608 ∧ U * 4294967296 + u1 - Q * 18446744073709551608 < 18446744073709551608) := by
  refine ⟨?_, by omega⟩
  simp only [wrap_u64]
  rw [show (U * 4294967296 % 18446744073709551616 + u1) % 18446744073709551616 = (U * 4294967296 + u1) % 18446744073709551616 by rw [Int.emod_add_emod]]
  rw [← Int.sub_emod]
  exact Int.emod_eq_of_lt (by omega) (by omega)
theorem parts (hi lo : Nat) (h : hi < 2305843009213693951) (hl : lo < 18446744073709551616) : ∃ U u1 u0 : Nat, hi * 8 + lo / 2305843009213693952 = U ∧ (lo * 8 % 18446744073709551616) / 4294967296 = u1 ∧ (lo * 8 % 18446744073709551616) % 4294967296 = u0 ∧ U < 18446744073709551608 ∧ u1 < 4294967296 ∧ u0 < 4294967296 ∧ lo * 8 % 18446744073709551616 < 18446744073709551616 ∧
    (U : Int) * 18446744073709551616 + u1 * 4294967296 + u0 = ((hi * 18446744073709551616 + lo : Nat) : Int) * 8 := by
  have key : ∀ p V v1 v0 : Nat, lo / 2305843009213693952 = p → lo * 8 % 18446744073709551616 = V → V / 4294967296 = v1 → V % 4294967296 = v0 → ((hi * 8 + p : Nat) : Int) * 18446744073709551616 + v1 * 4294967296 + v0 = ((hi * 18446744073709551616 + lo : Nat) : Int) * 8 := by
    intro p V v1 v0 h1 h2 h3 h4
    omega
  exact ⟨_, _, _, rfl, rfl, rfl, by omega, by omega, by omega, by omega, key _ _ _ _ rfl rfl rfl rfl⟩
theorem resE (U u1 u0 : Int) (T : Nat) (hT : U * 18446744073709551616 + u1 * 4294967296 + u0 = (T : Int) * 8) (Q1 Q0 : Int) (a1 : 0 ≤ (U * 4294967296 + u1 - Q1 * 18446744073709551608) * 4294967296 + u0 - Q0 * 18446744073709551608) (a2 : (U * 4294967296 + u1 - Q1 * 18446744073709551608) * 4294967296 + u0 - Q0 * 18446744073709551608 < 18446744073709551608) :
    ((U * 4294967296 + u1 - Q1 * 18446744073709551608) * 4294967296 + u0 - Q0 * 18446744073709551608) / 8 = ((T % 2305843009213693951 : Nat) : Int) := by omega
theorem first_q (U u1 q r : Int) (hU : 0 ≤ U ∧ U < 18446744073709551608) (h1 : 0 ≤ u1 ∧ u1 < 4294967296) (he : q * 4294967295 + r = U) (hr : 0 ≤ r ∧ r < 4294967296) (hq : U * 4294967296 + u1 < (q + 1) * 18446744073709551608) : 0 ≤ q ∧ q ≤ 4294967297 := by omega
theorem V294_m61 (hi lo : Nat) (h : hi < 2305843009213693951) (hl : lo < 18446744073709551616) (w : World) {Q : Value → World → Prop} (res : Int) (hre : res = (((hi * 18446744073709551616 + lo) % 2305843009213693951 : Nat) : Int))
    (hQ : ∀ q w', Keep No w w' → Q (.tuple #[.int .u64 q, .int .u64 res]) w') : V294 hi lo 2305843009213693951 w Q := by
  unfold V294
  refine bsel_neg rfl ?_
  unfold V294J6
  refine bsel_neg (by simp; omega) ?_
  unfold V294J5
  refine bsel_split (fun h0 => ?_) fun h0 => ?_
  · have h0 : hi = 0 := by simpa using h0
    subst h0
    have e : Int.tmod (lo : Int) 2305843009213693951 = res := by
      rw [hre, Int.tmod_eq_emod_of_nonneg (by omega)]; omega
    rw [e]
    exact ⟨by decide, by decide, hQ _ _ (Keep.drawn w)⟩
  refine (C337_m61 w).mono ?_
  rintro _ w1 ⟨rfl, rfl⟩
  have e3 : IntKind.wrap .u64 3 = 3 := rfl
  have e61 : IntKind.wrap .u64 (64 - 3) = 61 := rfl
  have ey : shl .u64 2305843009213693951 3 = 18446744073709551608 := rfl
  have e32 : shr .u64 18446744073709551608 32 = 4294967295 := rfl
  have ed : bAnd .u64 18446744073709551608 4294967295 = 4294967288 := rfl
  refine ⟨_, rfl, ?_⟩
  simp only [e3, e61, ey, e32, ed]
  refine ⟨by decide, by decide, by decide, by decide, by decide, by decide, by decide, ?_⟩
  -- the words of the number
  have eh : shl .u64 hi 3 = ((hi * 8 : Nat) : Int) := by
    rw [show (3 : Int) = ((3 : Nat) : Int) from rfl, shln _ 3 (by decide)]; omega
  have el : shr .u64 lo 61 = ((lo / 2305843009213693952 : Nat) : Int) := by
    rw [show (61 : Int) = ((61 : Nat) : Int) from rfl, shrn _ 61 (by decide)]; omega
  have eU : bOr .u64 (shl .u64 hi 3) (shr .u64 lo 61) = ((hi * 8 + lo / 2305843009213693952 : Nat) : Int) := by
    rw [eh, el, bOr_nat _ _ (by omega) (by omega)]
    have := or_add hi (lo / 2305843009213693952) 3 (by omega)
    rw [show (2 : Nat) ^ 3 = 8 from rfl] at this
    rw [this]
  have e10 : shl .u64 lo 3 = ((lo * 8 % 18446744073709551616 : Nat) : Int) := by
    rw [show (3 : Int) = ((3 : Nat) : Int) from rfl, shln _ 3 (by decide)]; omega
  rw [eU, e10]
  obtain ⟨U, u1, u0, hU, hV1, hV0, hUlt, hu1, hu0, hVlt, hN⟩ := parts hi lo h hl
  have e1 : ∀ V : Nat, shr .u64 V 32 = ((V / 4294967296 : Nat) : Int) := fun V => by
    rw [show (32 : Int) = ((32 : Nat) : Int) from rfl, shrn _ 32 (by decide)]; omega
  rw [e1, bAnd32 _ hVlt, hU, hV1, hV0]
  have hUi : (0 : Int) ≤ U ∧ (U : Int) < 18446744073709551608 := ⟨Int.natCast_nonneg _, by omega⟩
  have h1i : (0 : Int) ≤ u1 ∧ (u1 : Int) < 4294967296 := ⟨Int.natCast_nonneg _, by omega⟩
  have h0i : (0 : Int) ≤ u0 ∧ (u0 : Int) < 4294967296 := ⟨Int.natCast_nonneg _, by omega⟩
  have hres := resE U u1 u0 _ hN
  rw [← hre] at hres
  clear hU hV1 hV0 hVlt hN hre e1 eU e10 eh el h hl h0 hUlt hu1 hu0
  generalize (U : Int) = U at *
  generalize (u1 : Int) = u1 at *
  generalize (u0 : Int) = u0 at *
  rw [dv U hUi, rm U hUi]
  -- the second word of the quotient
  have second : ∀ (Q1 : Int), Q1 * 18446744073709551608 ≤ U * 4294967296 + u1 → U * 4294967296 + u1 < (Q1 + 1) * 18446744073709551608 → ∀ u30 : Int,
      V294J3 Q 18446744073709551608 3 4294967295 4294967288 U u1 u0 Q1 w1 := by
    intro Q1 a1 a2 _
    have hq1 : 0 ≤ Q1 ∧ Q1 ≤ 4294967296 := by omega
    obtain ⟨hu21, hXb⟩ := low U u1 Q1 hUi h1i a1 a2
    have hres := hres Q1
    unfold V294J3
    rw [hu21]
    obtain ⟨X, hX⟩ : ∃ X, U * 4294967296 + u1 - Q1 * 18446744073709551608 = X := ⟨_, rfl⟩
    rw [hX] at hres hXb ⊢
    clear hu21 hX a1 a2
    rw [dv X hXb, rm X hXb]
    have fin : ∀ Q0 : Int, Q0 * 18446744073709551608 ≤ X * 4294967296 + u0 → X * 4294967296 + u0 < (Q0 + 1) * 18446744073709551608 →
        V294J1 Q 18446744073709551608 3 u0 Q1 X Q0 w1 := by
      intro Q0 b1 b2
      unfold V294J1
      obtain ⟨hf, hf2⟩ := low X u0 Q0 hXb h0i b1 b2
      rw [hf, show (3 : Int) = ((3 : Nat) : Int) from rfl, shrn _ 3 (by decide)]
      rw [show (2 : Int) ^ 3 = 8 from rfl]
      rw [hres Q0 hf2.1 hf2.2]
      exact ⟨by decide, hQ _ _ (Keep.refl _ _)⟩
    refine ⟨by decide, fun r q w' => w' = w1 ∧ q * 4294967295 + r = X ∧ (0 ≤ r ∧ r < 4294967296) ∧ X * 4294967296 + u0 < (q + 1) * 18446744073709551608, fun r _ _ => (4294967296 - r).toNat, ⟨rfl, by omega, by omega, by omega⟩, ?_⟩
    rintro j r q w2 ⟨rfl, he, hrb, hub⟩
    have hq : 0 ≤ q ∧ q ≤ 4294967297 := first_q X u0 q r hXb h0i he hrb hub
    have hdec : q * 18446744073709551608 > X * 4294967296 + u0 → V294J2 Q
        (fun r q w' => w' = w2 ∧ q * 4294967295 + r = X ∧ (0 ≤ r ∧ r < 4294967296) ∧ X * 4294967296 + u0 < (q + 1) * 18446744073709551608) (fun r _ _ => (4294967296 - r).toNat) r q w2 18446744073709551608 3 4294967295 4294967288 u0 Q1 r X q true w2 := by
      intro hc
      unfold V294J2
      refine bsel_pos rfl ?_
      rw [wu (r + 4294967295) (by omega), wu (q - 1) (by omega)]
      refine bsel_split (fun hb => ?_) fun hb => ?_
      · have hb : 4294967296 ≤ r + 4294967295 := by simpa using hb
        exact fin (q - 1) (by omega) (by omega)
      · have hb : r + 4294967295 < 4294967296 := by simpa using hb
        exact ⟨⟨rfl, by omega, by omega, by omega⟩, by simp only; omega⟩
    refine bsel_split (fun hb => ?_) fun hb => ?_
    · have hb : 4294967296 ≤ q := by simpa using hb
      exact hdec (by omega)
    · have hb : q < 4294967296 := by simpa using hb
      rw [wu (q * 4294967288) (by omega), wu (4294967296 * r) (by omega), wu _ (by omega)]
      by_cases hc : q * 4294967288 > 4294967296 * r + u0
      · rw [decide_eq_true hc]
        exact hdec (by omega)
      · rw [decide_eq_false hc]
        unfold V294J2
        exact bsel_neg rfl (fin q (by omega) (by omega))
  refine ⟨fun q r w' => w' = w1 ∧ q * 4294967295 + r = U ∧ (0 ≤ r ∧ r < 4294967296) ∧ U * 4294967296 + u1 < (q + 1) * 18446744073709551608, fun _ r _ => (4294967296 - r).toNat, ⟨rfl, by omega, by omega, by omega⟩, ?_⟩
  rintro j q r w2 ⟨rfl, he, hrb, hub⟩
  have hq : 0 ≤ q ∧ q ≤ 4294967297 := first_q U u1 q r hUi h1i he hrb hub
  have hdec : q * 18446744073709551608 > U * 4294967296 + u1 → V294J4 Q
      (fun q r w' => w' = w2 ∧ q * 4294967295 + r = U ∧ (0 ≤ r ∧ r < 4294967296) ∧ U * 4294967296 + u1 < (q + 1) * 18446744073709551608) (fun _ r _ => (4294967296 - r).toNat) q r w2 18446744073709551608 3 4294967295 4294967288 U u1 u0 q r true w2 := by
    intro hc
    unfold V294J4
    refine bsel_pos rfl ?_
    rw [wu (r + 4294967295) (by omega), wu (q - 1) (by omega)]
    refine bsel_split (fun hb => ?_) fun hb => ?_
    · have hb : 4294967296 ≤ r + 4294967295 := by simpa using hb
      exact second (q - 1) (by omega) (by omega) 0
    · have hb : r + 4294967295 < 4294967296 := by simpa using hb
      exact ⟨⟨rfl, by omega, by omega, by omega⟩, by simp only; omega⟩
  refine bsel_split (fun hb => ?_) fun hb => ?_
  · have hb : 4294967296 ≤ q := by simpa using hb
    exact hdec (by omega)
  · have hb : q < 4294967296 := by simpa using hb
    rw [wu (q * 4294967288) (by omega), wu (4294967296 * r) (by omega), wu _ (by omega)]
    by_cases hc : q * 4294967288 > 4294967296 * r + u1
    · rw [decide_eq_true hc]
      exact hdec (by omega)
    · rw [decide_eq_false hc]
      unfold V294J4
      exact bsel_neg rfl (second q (by omega) (by omega) 0)
end Go.Fw


set_option autoImplicit false
set_option linter.unusedVariables false
set_option maxRecDepth 100000
namespace Go.Fw
open Go.Proofs
def V207 (x1 : Int) (x2 : Int) (w : World) (Q : Value → World → Prop) : Prop :=
newK w #[.int .u8 0, .int .u8 0, .int .u8 0, .int .u8 0] 385 fun a3 w4 =>
∃ (I5 : Int → Int → World → Prop) (μ6 : Int → Int → World → Nat), I5 x1 0 w4 ∧ ∀ (j10 : Fr) (i7 : Int) (i8 : Int) (w9 : World), I5 i7 i8 w9 →
bsel (decide (i8 < x2)) (
sidxK (⟨#[48, 49, 50, 51, 52, 53, 54, 55, 56, 57, 97, 98, 99, 100, 101, 102]⟩ : ByteArray) (bAnd .i32 i7 15) fun c11 =>
aidxK a3 4 (IntKind.wrap .i64 (IntKind.wrap .i64 (x2 - 1) - i8)) 1 fun a12 =>
stK w9 a12 (.int .u8 c11) fun w13 =>
((0 : Int) ≤ 4) ∧
(I5 (shr .i32 i7 4) (IntKind.wrap .i64 (i8 + 1)) w13 ∧ μ6 (shr .i32 i7 4) (IntKind.wrap .i64 (i8 + 1)) w13 < μ6 i7 i8 w9)) (
∃ t14 : Option Addr, ∃ t15 : Nat, ∃ t16 : Nat, (∀ w : World, (Instr.sliceAt 385 (.pointer (some a3)) none (some (.int .i64 x2)) none).run Tryz.prog w = .ok (.slice t14 t15 t16) w) ∧
∃ w17 : World, ∃ t18 : ByteArray, (Go.convert 148 9 (.slice t14 t15 t16)).run Tryz.prog w9 = .ok (.string t18) w17 ∧
Q (.string t18) w17)
def V207_ann : Nat → Ann := fun k => match k with | 0 => ⟨[1, 5, 7], [(0, .int .i32), (8, .int .i64)]⟩ | _ => ⟨[], []⟩
theorem V207_eq (x1 : Int) (x2 : Int) (w : World) (Q : Value → World → Prop) : (match Tryz.f207.body with | some c => wpC Tryz.prog Tryz.f207.ntmps V207_ann c 0 (resQ Tryz.prog Tryz.f207.ntmps Tryz.f207.results.toList Q) (argsF [.int .i32 x1, .int .i64 x2]) w | none => False) = V207 x1 x2 w Q := by kernel_rfl
def V397  (w : World) (Q : Value → World → Prop) : Prop :=
newK w #[] 83 fun a1 w2 =>
Q (.int .i64 0) w2
def V397_ann : Nat → Ann := fun _ => ⟨[], []⟩
theorem V397_eq  (w : World) (Q : Value → World → Prop) : (match Tryz.f397.body with | some c => wpC Tryz.prog Tryz.f397.ntmps V397_ann c 0 (resQ Tryz.prog Tryz.f397.ntmps Tryz.f397.results.toList Q) (argsF [.agg #[]]) w | none => False) = V397  w Q := by kernel_rfl
theorem V397_sound  (w : World) (Q : Value → World → Prop) (h : V397  w Q) : Calls Tryz.prog 397 #[.agg #[]] w fun e w' => ∃ v, e = .returned v ∧ Q v w' :=
  sound_of Tryz.func397 V397_ann rfl ((V397_eq  w Q).mpr h)
def V398  (w : World) (Q : Value → World → Prop) : Prop :=
newK w #[] 85 fun a1 w2 =>
Q (.int .i64 1) w2
def V398_ann : Nat → Ann := fun _ => ⟨[], []⟩
theorem V398_eq  (w : World) (Q : Value → World → Prop) : (match Tryz.f398.body with | some c => wpC Tryz.prog Tryz.f398.ntmps V398_ann c 0 (resQ Tryz.prog Tryz.f398.ntmps Tryz.f398.results.toList Q) (argsF [.agg #[]]) w | none => False) = V398  w Q := by kernel_rfl
theorem V398_sound  (w : World) (Q : Value → World → Prop) (h : V398  w Q) : Calls Tryz.prog 398 #[.agg #[]] w fun e w' => ∃ v, e = .returned v ∧ Q v w' :=
  sound_of Tryz.func398 V398_ann rfl ((V398_eq  w Q).mpr h)
def V399 (x1 : Bool) (w : World) (Q : Value → World → Prop) : Prop :=
newK w #[.bool x1] 87 fun a2 w3 =>
Q (.int .i64 2) w3
def V399_ann : Nat → Ann := fun _ => ⟨[], []⟩
theorem V399_eq (x1 : Bool) (w : World) (Q : Value → World → Prop) : (match Tryz.f399.body with | some c => wpC Tryz.prog Tryz.f399.ntmps V399_ann c 0 (resQ Tryz.prog Tryz.f399.ntmps Tryz.f399.results.toList Q) (argsF [.agg #[.bool x1]]) w | none => False) = V399 x1 w Q := by kernel_rfl
theorem V399_sound (x1 : Bool) (w : World) (Q : Value → World → Prop) (h : V399 x1 w Q) : Calls Tryz.prog 399 #[.agg #[.bool x1]] w fun e w' => ∃ v, e = .returned v ∧ Q v w' :=
  sound_of Tryz.func399 V399_ann rfl ((V399_eq x1 w Q).mpr h)
def V158 (x1 : Option Addr) (w : World) (Q : Value → World → Prop) : Prop :=
nilK x1 fun a2 =>
∃ t3 : Int, w.cell? (a2.add 2) = some (.int .i64 t3) ∧
Q (.int .i64 t3) w
def V158_ann : Nat → Ann := fun _ => ⟨[], []⟩
theorem V158_eq (x1 : Option Addr) (w : World) (Q : Value → World → Prop) : (match Tryz.f158.body with | some c => wpC Tryz.prog Tryz.f158.ntmps V158_ann c 0 (resQ Tryz.prog Tryz.f158.ntmps Tryz.f158.results.toList Q) (argsF [.pointer x1]) w | none => False) = V158 x1 w Q := by kernel_rfl
theorem V158_sound (x1 : Option Addr) (w : World) (Q : Value → World → Prop) (h : V158 x1 w Q) : Calls Tryz.prog 158 #[.pointer x1] w fun e w' => ∃ v, e = .returned v ∧ Q v w' :=
  sound_of Tryz.func158 V158_ann rfl ((V158_eq x1 w Q).mpr h)
def V401 (x1 : Int) (w : World) (Q : Value → World → Prop) : Prop :=
newK w #[.int .i64 x1] 98 fun a2 w3 =>
∃ t4 : Int, w3.cell? (a2.add 0) = some (.int .i64 t4) ∧
Q (.int .i64 t4) w3
def V401_ann : Nat → Ann := fun _ => ⟨[], []⟩
theorem V401_eq (x1 : Int) (w : World) (Q : Value → World → Prop) : (match Tryz.f401.body with | some c => wpC Tryz.prog Tryz.f401.ntmps V401_ann c 0 (resQ Tryz.prog Tryz.f401.ntmps Tryz.f401.results.toList Q) (argsF [.agg #[.int .i64 x1]]) w | none => False) = V401 x1 w Q := by kernel_rfl
theorem V401_sound (x1 : Int) (w : World) (Q : Value → World → Prop) (h : V401 x1 w Q) : Calls Tryz.prog 401 #[.agg #[.int .i64 x1]] w fun e w' => ∃ v, e = .returned v ∧ Q v w' :=
  sound_of Tryz.func401 V401_ann rfl ((V401_eq x1 w Q).mpr h)
def V409 (x1 : ByteArray) (w : World) (Q : Value → World → Prop) : Prop :=
newK w #[.string x1] 160 fun a2 w3 =>
Q (.int .i64 4) w3
def V409_ann : Nat → Ann := fun _ => ⟨[], []⟩
theorem V409_eq (x1 : ByteArray) (w : World) (Q : Value → World → Prop) : (match Tryz.f409.body with | some c => wpC Tryz.prog Tryz.f409.ntmps V409_ann c 0 (resQ Tryz.prog Tryz.f409.ntmps Tryz.f409.results.toList Q) (argsF [.agg #[.string x1]]) w | none => False) = V409 x1 w Q := by kernel_rfl
theorem V409_sound (x1 : ByteArray) (w : World) (Q : Value → World → Prop) (h : V409 x1 w Q) : Calls Tryz.prog 409 #[.agg #[.string x1]] w fun e w' => ∃ v, e = .returned v ∧ Q v w' :=
  sound_of Tryz.func409 V409_ann rfl ((V409_eq x1 w Q).mpr h)
def V49 (x1 : Option Addr) (w : World) (Q : Value → World → Prop) : Prop :=
nilK x1 fun a2 =>
∃ t3 : Int, w.cell? (a2.add 2) = some (.int .i64 t3) ∧
Q (.int .i64 t3) w
def V49_ann : Nat → Ann := fun _ => ⟨[], []⟩
theorem V49_eq (x1 : Option Addr) (w : World) (Q : Value → World → Prop) : (match Tryz.f49.body with | some c => wpC Tryz.prog Tryz.f49.ntmps V49_ann c 0 (resQ Tryz.prog Tryz.f49.ntmps Tryz.f49.results.toList Q) (argsF [.pointer x1]) w | none => False) = V49 x1 w Q := by kernel_rfl
theorem V49_sound (x1 : Option Addr) (w : World) (Q : Value → World → Prop) (h : V49 x1 w Q) : Calls Tryz.prog 49 #[.pointer x1] w fun e w' => ∃ v, e = .returned v ∧ Q v w' :=
  sound_of Tryz.func49 V49_ann rfl ((V49_eq x1 w Q).mpr h)
def V173 (x1 : Option Addr) (w : World) (Q : Value → World → Prop) : Prop :=
nilK x1 fun a2 =>
∃ t3 : Int, w.cell? (a2.add 2) = some (.int .i64 t3) ∧
Q (.int .i64 t3) w
def V173_ann : Nat → Ann := fun _ => ⟨[], []⟩
theorem V173_eq (x1 : Option Addr) (w : World) (Q : Value → World → Prop) : (match Tryz.f173.body with | some c => wpC Tryz.prog Tryz.f173.ntmps V173_ann c 0 (resQ Tryz.prog Tryz.f173.ntmps Tryz.f173.results.toList Q) (argsF [.pointer x1]) w | none => False) = V173 x1 w Q := by kernel_rfl
theorem V173_sound (x1 : Option Addr) (w : World) (Q : Value → World → Prop) (h : V173 x1 w Q) : Calls Tryz.prog 173 #[.pointer x1] w fun e w' => ∃ v, e = .returned v ∧ Q v w' :=
  sound_of Tryz.func173 V173_ann rfl ((V173_eq x1 w Q).mpr h)
def V411 (x1 : Option Addr) (w : World) (Q : Value → World → Prop) : Prop :=
Q (.int .i64 14) w
def V411_ann : Nat → Ann := fun _ => ⟨[], []⟩
theorem V411_eq (x1 : Option Addr) (w : World) (Q : Value → World → Prop) : (match Tryz.f411.body with | some c => wpC Tryz.prog Tryz.f411.ntmps V411_ann c 0 (resQ Tryz.prog Tryz.f411.ntmps Tryz.f411.results.toList Q) (argsF [.pointer x1]) w | none => False) = V411 x1 w Q := by kernel_rfl
theorem V411_sound (x1 : Option Addr) (w : World) (Q : Value → World → Prop) (h : V411 x1 w Q) : Calls Tryz.prog 411 #[.pointer x1] w fun e w' => ∃ v, e = .returned v ∧ Q v w' :=
  sound_of Tryz.func411 V411_ann rfl ((V411_eq x1 w Q).mpr h)
def V414 (x1 : Bool) (x2 : Option Addr) (x3 : Nat) (x4 : Nat) (w : World) (Q : Value → World → Prop) : Prop :=
newK w #[.bool x1, .slice x2 x3 x4] 172 fun a5 w6 =>
Q (.int .i64 3) w6
def V414_ann : Nat → Ann := fun _ => ⟨[], []⟩
theorem V414_eq (x1 : Bool) (x2 : Option Addr) (x3 : Nat) (x4 : Nat) (w : World) (Q : Value → World → Prop) : (match Tryz.f414.body with | some c => wpC Tryz.prog Tryz.f414.ntmps V414_ann c 0 (resQ Tryz.prog Tryz.f414.ntmps Tryz.f414.results.toList Q) (argsF [.agg #[.bool x1, .slice x2 x3 x4]]) w | none => False) = V414 x1 x2 x3 x4 w Q := by kernel_rfl
theorem V414_sound (x1 : Bool) (x2 : Option Addr) (x3 : Nat) (x4 : Nat) (w : World) (Q : Value → World → Prop) (h : V414 x1 x2 x3 x4 w Q) : Calls Tryz.prog 414 #[.agg #[.bool x1, .slice x2 x3 x4]] w fun e w' => ∃ v, e = .returned v ∧ Q v w' :=
  sound_of Tryz.func414 V414_ann rfl ((V414_eq x1 x2 x3 x4 w Q).mpr h)
def V419 (x1 : Option Addr) (w : World) (Q : Value → World → Prop) : Prop :=
Q (.int .i64 13) w
def V419_ann : Nat → Ann := fun _ => ⟨[], []⟩
theorem V419_eq (x1 : Option Addr) (w : World) (Q : Value → World → Prop) : (match Tryz.f419.body with | some c => wpC Tryz.prog Tryz.f419.ntmps V419_ann c 0 (resQ Tryz.prog Tryz.f419.ntmps Tryz.f419.results.toList Q) (argsF [.pointer x1]) w | none => False) = V419 x1 w Q := by kernel_rfl
theorem V419_sound (x1 : Option Addr) (w : World) (Q : Value → World → Prop) (h : V419 x1 w Q) : Calls Tryz.prog 419 #[.pointer x1] w fun e w' => ∃ v, e = .returned v ∧ Q v w' :=
  sound_of Tryz.func419 V419_ann rfl ((V419_eq x1 w Q).mpr h)
def V42 (x1 : Option Addr) (x2 : Int) (w : World) (Q : Value → World → Prop) : Prop :=
newK w #[.bool false, .slice none 0 0] 40 fun a3 w4 =>
Calls Tryz.prog 41 #[.pointer x1, .int .i64 x2] w4 fun e5 w6 => ∃ t7 : Value, e5 = .returned (t7) ∧
∃ t8 : Bool, ∃ t9 : Bool, (∀ w : World, (Instr.typeAssert t7 77 87 true).run Tryz.prog w = .ok (.tuple #[.agg #[.bool t8], .bool t9]) w) ∧
bsel t9 (
newK w6 #[.bool false] 87 fun a10 w11 =>
stK w11 (a10.add 0) (.bool t8) fun w12 =>
∃ t13 : Bool, w12.cell? (a10.add 0) = some (.bool t13) ∧
bsel t13 (
Calls Tryz.prog 93 #[.int .i64 1] w12 fun e14 w15 => ∃ t16 : Bool, ∃ t17 : Option Addr, ∃ t18 : Nat, ∃ t19 : Nat, e14 = .returned (.agg #[.bool t16, .slice t17 t18 t19]) ∧
stK w15 (a3.add 0) (.bool t16) fun w20 =>
stK w20 (a3.add 1) (.slice t17 t18 t19) fun w21 =>
∃ t22 : Bool, ∃ t23 : Option Addr, ∃ t24 : Nat, ∃ t25 : Nat, CellsAt w21 a3 [.bool t22, .slice t23 t24 t25] ∧
Q (.tuple #[.agg #[.bool t22, .slice t23 t24 t25], .bool true]) w21) (
Calls Tryz.prog 93 #[.int .i64 0] w12 fun e26 w27 => ∃ t28 : Bool, ∃ t29 : Option Addr, ∃ t30 : Nat, ∃ t31 : Nat, e26 = .returned (.agg #[.bool t28, .slice t29 t30 t31]) ∧
stK w27 (a3.add 0) (.bool t28) fun w32 =>
stK w32 (a3.add 1) (.slice t29 t30 t31) fun w33 =>
∃ t34 : Bool, ∃ t35 : Option Addr, ∃ t36 : Nat, ∃ t37 : Nat, CellsAt w33 a3 [.bool t34, .slice t35 t36 t37] ∧
Q (.tuple #[.agg #[.bool t34, .slice t35 t36 t37], .bool true]) w33)) (
∃ t38 : Bool, ∃ t39 : Option Addr, ∃ t40 : Nat, ∃ t41 : Nat, ∃ t42 : Bool, (∀ w : World, (Instr.typeAssert t7 77 172 true).run Tryz.prog w = .ok (.tuple #[.agg #[.bool t38, .slice t39 t40 t41], .bool t42]) w) ∧
bsel t42 (
newK w6 #[.bool false, .slice none 0 0] 172 fun a43 w44 =>
stK w44 (a43.add 0) (.bool t38) fun w45 =>
stK w45 (a43.add 1) (.slice t39 t40 t41) fun w46 =>
∃ t47 : Bool, ∃ t48 : Option Addr, ∃ t49 : Nat, ∃ t50 : Nat, CellsAt w46 (a43.add 0) [.bool t47, .slice t48 t49 t50] ∧
stK w46 (a3.add 0) (.bool t47) fun w51 =>
stK w51 (a3.add 1) (.slice t48 t49 t50) fun w52 =>
∃ t53 : Bool, ∃ t54 : Option Addr, ∃ t55 : Nat, ∃ t56 : Nat, CellsAt w52 a3 [.bool t53, .slice t54 t55 t56] ∧
Q (.tuple #[.agg #[.bool t53, .slice t54 t55 t56], .bool true]) w52) (
stK w6 (a3.add 0) (.bool false) fun w57 =>
stK w57 (a3.add 1) (.slice none 0 0) fun w58 =>
∃ t59 : Bool, ∃ t60 : Option Addr, ∃ t61 : Nat, ∃ t62 : Nat, CellsAt w58 a3 [.bool t59, .slice t60 t61 t62] ∧
Q (.tuple #[.agg #[.bool t59, .slice t60 t61 t62], .bool false]) w58))
def V42_ann : Nat → Ann := fun _ => ⟨[], []⟩
theorem V42_eq (x1 : Option Addr) (x2 : Int) (w : World) (Q : Value → World → Prop) : (match Tryz.f42.body with | some c => wpC Tryz.prog Tryz.f42.ntmps V42_ann c 0 (resQ Tryz.prog Tryz.f42.ntmps Tryz.f42.results.toList Q) (argsF [.pointer x1, .int .i64 x2]) w | none => False) = V42 x1 x2 w Q := by kernel_rfl
theorem V42_sound (x1 : Option Addr) (x2 : Int) (w : World) (Q : Value → World → Prop) (h : V42 x1 x2 w Q) : Calls Tryz.prog 42 #[.pointer x1, .int .i64 x2] w fun e w' => ∃ v, e = .returned v ∧ Q v w' :=
  sound_of Tryz.func42 V42_ann rfl ((V42_eq x1 x2 w Q).mpr h)
def V43J1 (Q : Value → World → Prop) (x27 : Addr) (x28 : Addr) (x29 : Int) (x30 : Int) (w31 : World) : Prop :=
bsel (decide (x29 < x30)) (
Q (.int .i64 (-1)) w31) (
bsel (decide (x29 > x30)) (
Q (.int .i64 1) w31) (
∃ t32 : Option Addr, ∃ t33 : Nat, ∃ t34 : Nat, w31.cell? (x27.add 1) = some (.slice t32 t33 t34) ∧
∃ t35 : Option Addr, ∃ t36 : Nat, ∃ t37 : Nat, w31.cell? (x28.add 1) = some (.slice t35 t36 t37) ∧
Calls Tryz.prog 95 #[.slice t32 t33 t34, .slice t35 t36 t37] w31 fun e38 w39 => ∃ t40 : Int, e38 = .returned (.int .i64 t40) ∧
Q (.int .i64 (IntKind.wrap .i64 (x29 * t40))) w39))
def V43 (x1 : Bool) (x2 : Option Addr) (x3 : Nat) (x4 : Nat) (x5 : Bool) (x6 : Option Addr) (x7 : Nat) (x8 : Nat) (w : World) (Q : Value → World → Prop) : Prop :=
newK w #[.bool x1, .slice x2 x3 x4] 40 fun a9 w10 =>
newK w10 #[.bool x5, .slice x6 x7 x8] 40 fun a11 w12 =>
∃ t13 : Bool, ∃ t14 : Option Addr, ∃ t15 : Nat, ∃ t16 : Nat, CellsAt w12.drew a9 [.bool t13, .slice t14 t15 t16] ∧
∃ t17 : Bool, ∃ t18 : Option Addr, ∃ t19 : Nat, ∃ t20 : Nat, CellsAt w12.drew a11 [.bool t17, .slice t18 t19 t20] ∧
Calls Tryz.prog 94 #[.agg #[.bool t13, .slice t14 t15 t16]] w12.drew fun e21 w22 => ∃ t23 : Int, e21 = .returned (.int .i64 t23) ∧
(CellsAt w22 a11 [.bool t17, .slice t18 t19 t20]) ∧
Calls Tryz.prog 94 #[.agg #[.bool t17, .slice t18 t19 t20]] w22 fun e24 w25 => ∃ t26 : Int, e24 = .returned (.int .i64 t26) ∧
V43J1 Q a9 a11 t23 t26 w25
def V43_ann : Nat → Ann := fun _ => ⟨[], []⟩
theorem V43_eq (x1 : Bool) (x2 : Option Addr) (x3 : Nat) (x4 : Nat) (x5 : Bool) (x6 : Option Addr) (x7 : Nat) (x8 : Nat) (w : World) (Q : Value → World → Prop) : (match Tryz.f43.body with | some c => wpC Tryz.prog Tryz.f43.ntmps V43_ann c 0 (resQ Tryz.prog Tryz.f43.ntmps Tryz.f43.results.toList Q) (argsF [.agg #[.bool x1, .slice x2 x3 x4], .agg #[.bool x5, .slice x6 x7 x8]]) w | none => False) = V43 x1 x2 x3 x4 x5 x6 x7 x8 w Q := by kernel_rfl
theorem V43_sound (x1 : Bool) (x2 : Option Addr) (x3 : Nat) (x4 : Nat) (x5 : Bool) (x6 : Option Addr) (x7 : Nat) (x8 : Nat) (w : World) (Q : Value → World → Prop) (h : V43 x1 x2 x3 x4 x5 x6 x7 x8 w Q) : Calls Tryz.prog 43 #[.agg #[.bool x1, .slice x2 x3 x4], .agg #[.bool x5, .slice x6 x7 x8]] w fun e w' => ∃ v, e = .returned v ∧ Q v w' :=
  sound_of Tryz.func43 V43_ann rfl ((V43_eq x1 x2 x3 x4 x5 x6 x7 x8 w Q).mpr h)
def V44 (x1 : Option Addr) (x2 : Int) (w : World) (Q : Value → World → Prop) : Prop :=
Calls Tryz.prog 41 #[.pointer x1, .int .i64 x2] w fun e3 w4 => ∃ t5 : Value, e3 = .returned (t5) ∧
∃ t6 : ByteArray, ∃ t7 : Bool, (∀ w : World, (Instr.typeAssert t5 77 160 true).run Tryz.prog w = .ok (.tuple #[.agg #[.string t6], .bool t7]) w) ∧
newK w4 #[.string ⟨#[]⟩] 160 fun a8 w9 =>
stK w9 (a8.add 0) (.string t6) fun w10 =>
∃ t11 : ByteArray, w10.cell? (a8.add 0) = some (.string t11) ∧
Q (.tuple #[.string t11, .bool t7]) w10
def V44_ann : Nat → Ann := fun _ => ⟨[], []⟩
theorem V44_eq (x1 : Option Addr) (x2 : Int) (w : World) (Q : Value → World → Prop) : (match Tryz.f44.body with | some c => wpC Tryz.prog Tryz.f44.ntmps V44_ann c 0 (resQ Tryz.prog Tryz.f44.ntmps Tryz.f44.results.toList Q) (argsF [.pointer x1, .int .i64 x2]) w | none => False) = V44 x1 x2 w Q := by kernel_rfl
theorem V44_sound (x1 : Option Addr) (x2 : Int) (w : World) (Q : Value → World → Prop) (h : V44 x1 x2 w Q) : Calls Tryz.prog 44 #[.pointer x1, .int .i64 x2] w fun e w' => ∃ v, e = .returned v ∧ Q v w' :=
  sound_of Tryz.func44 V44_ann rfl ((V44_eq x1 x2 w Q).mpr h)
def V72 (x1 : Option Addr) (w : World) (Q : Value → World → Prop) : Prop :=
bsel (Option.isNone x1) (
Q (.int .i64 0) w) (
nilK x1 fun a2 =>
∃ t3 : Option Addr, w.cell? (a2.add 0) = some (.pointer t3) ∧
Calls Tryz.prog 121 #[.pointer t3] w fun e4 w5 => ∃ t6 : Int, e4 = .returned (.int .i64 t6) ∧
Q (.int .i64 t6) w5)
def V72_ann : Nat → Ann := fun _ => ⟨[], []⟩
theorem V72_eq (x1 : Option Addr) (w : World) (Q : Value → World → Prop) : (match Tryz.f72.body with | some c => wpC Tryz.prog Tryz.f72.ntmps V72_ann c 0 (resQ Tryz.prog Tryz.f72.ntmps Tryz.f72.results.toList Q) (argsF [.pointer x1]) w | none => False) = V72 x1 w Q := by kernel_rfl
theorem V72_sound (x1 : Option Addr) (w : World) (Q : Value → World → Prop) (h : V72 x1 w Q) : Calls Tryz.prog 72 #[.pointer x1] w fun e w' => ∃ v, e = .returned v ∧ Q v w' :=
  sound_of Tryz.func72 V72_ann rfl ((V72_eq x1 w Q).mpr h)
def V75 (x1 : Bool) (x2 : Option Addr) (x3 : Nat) (x4 : Nat) (w : World) (Q : Value → World → Prop) : Prop :=
newK w #[.bool x1, .slice x2 x3 x4] 40 fun a5 w6 =>
∃ t7 : Option Addr, ∃ t8 : Nat, ∃ t9 : Nat, w6.cell? (a5.add 1) = some (.slice t7 t8 t9) ∧
Calls Tryz.prog 124 #[.slice t7 t8 t9] w6 fun e10 w11 => ∃ t12 : Option Addr, ∃ t13 : Nat, ∃ t14 : Nat, e10 = .returned (.slice t12 t13 t14) ∧
Calls Tryz.prog 123 #[.slice t12 t13 t14] w11 fun e15 w16 => ∃ t17 : Option Addr, ∃ t18 : Nat, ∃ t19 : Nat, e15 = .returned (.slice t17 t18 t19) ∧
bsel ((t18 : Int) == 0) (
Q (.string (⟨#[48]⟩ : ByteArray)) w16) (
∃ (I20 : Option Addr → Nat → Nat → Option Addr → Nat → Nat → World → Prop) (μ21 : Option Addr → Nat → Nat → Option Addr → Nat → Nat → World → Nat), I20 t17 t18 t19 none 0 0 w16 ∧ ∀ (j29 : Fr) (i22 : Option Addr) (i23 : Nat) (i24 : Nat) (i25 : Option Addr) (i26 : Nat) (i27 : Nat) (w28 : World), I20 i22 i23 i24 i25 i26 i27 w28 →
bsel (decide ((i23 : Int) > 0)) (
∃ (I30 : Int → Int → World → Prop) (μ31 : Int → Int → World → Nat), I30 0 (IntKind.wrap .i64 ((i23 : Int) - 1)) w28 ∧ ∀ (j35 : Fr) (i32 : Int) (i33 : Int) (w34 : World), I30 i32 i33 w34 →
bsel (decide (i33 ≥ 0)) (
idxK i22 i23 i33 1 fun a36 =>
∃ t37 : Int, w34.cell? a36 = some (.int .u32 t37) ∧
Calls Tryz.prog 125 #[.int .u32 i32, .int .u32 t37, .int .u32 1000000000] w34 fun e38 w39 => ∃ t40 : Int, ∃ t41 : Int, e38 = .returned (.tuple #[.int .u32 t40, .int .u32 t41]) ∧
idxK i22 i23 i33 1 fun a42 =>
stK w39 a42 (.int .u32 t40) fun w43 =>
(I30 t41 (IntKind.wrap .i64 (i33 - 1)) w43 ∧ μ31 t41 (IntKind.wrap .i64 (i33 - 1)) w43 < μ31 i32 i33 w34)) (
newK w34 #[.int .u32 i32] 45 fun a44 w45 =>
∃ w46 : World, ∃ t47 : Option Addr, ∃ t48 : Nat, ∃ t49 : Nat, (vcEff.bltV .append #[38, 38] 38 #[.slice i25 i26 i27, .slice (some a44) 1 1]).run Tryz.prog w45 = .ok (.slice t47 t48 t49) w46 ∧
Calls Tryz.prog 124 #[.slice i22 i23 i24] w46 fun e50 w51 => ∃ t52 : Option Addr, ∃ t53 : Nat, ∃ t54 : Nat, e50 = .returned (.slice t52 t53 t54) ∧
(I20 t52 t53 t54 t47 t48 t49 w51 ∧ μ21 t52 t53 t54 t47 t48 t49 w51 < μ21 i22 i23 i24 i25 i26 i27 w28))) (
newK w28 #[.pointer none, .slice none 0 0] 150 fun a55 w56 =>
Calls Tryz.prog 126 #[.slice i25 i26 i27] w56 fun e57 w58 => ∃ t59 : Value, e57 = .returned (t59) ∧
∀ Rec60 : LoopState → Option Code → Obj, (∀ s p c e f, Rec60 s p ≠ .cells c e f) →
(∀ (w61 : World) (K62 : Bool → World → Prop), w61.heap[(w58.heap.size + 1)]? = some (Rec60 .ready none) → ∀ (y63 : Value) (y64 : Int), (
w61.heap[(w58.heap.size + 1)]? = some (Rec60 .ready none) ∧
Calls Tryz.prog 127 #[.int .u32 y64] (w61.putObj (w58.heap.size + 1) (Rec60 .busy none)) fun e65 w66 => ∃ t67 : Int, ∃ t68 : Int, ∃ t69 : Int, ∃ t70 : Int, ∃ t71 : Int, ∃ t72 : Int, ∃ t73 : Int, ∃ t74 : Int, ∃ t75 : Int, e65 = .returned (.agg #[.int .u8 t67, .int .u8 t68, .int .u8 t69, .int .u8 t70, .int .u8 t71, .int .u8 t72, .int .u8 t73, .int .u8 t74, .int .u8 t75]) ∧
newK w66 #[.int .u8 0, .int .u8 0, .int .u8 0, .int .u8 0, .int .u8 0, .int .u8 0, .int .u8 0, .int .u8 0, .int .u8 0] 246 fun a76 w77 =>
stK w77 (a76.add 0) (.int .u8 t67) fun w78 =>
stK w78 (a76.add 1) (.int .u8 t68) fun w79 =>
stK w79 (a76.add 2) (.int .u8 t69) fun w80 =>
stK w80 (a76.add 3) (.int .u8 t70) fun w81 =>
stK w81 (a76.add 4) (.int .u8 t71) fun w82 =>
stK w82 (a76.add 5) (.int .u8 t72) fun w83 =>
stK w83 (a76.add 6) (.int .u8 t73) fun w84 =>
stK w84 (a76.add 7) (.int .u8 t74) fun w85 =>
stK w85 (a76.add 8) (.int .u8 t75) fun w86 =>
∃ t87 : Option Addr, ∃ t88 : Nat, ∃ t89 : Nat, (∀ w : World, (Instr.sliceAt 246 (.pointer (some a76)) none none none).run Tryz.prog w = .ok (.slice t87 t88 t89) w) ∧
Calls Tryz.prog 128 #[.pointer (some a55), .slice t87 t88 t89] w86 fun e90 w91 => ∃ t92 : Int, ∃ t93 : Value, e90 = .returned (.tuple #[.int .i64 t92, t93]) ∧
((∃ s p, w91.heap[(w58.heap.size + 1)]? = some (Rec60 s p)) ∧ K62 true (w91.putObj (w58.heap.size + 1) (Rec60 .ready none)))) → RoundK Tryz.prog (w58.heap.size + 1) #[y63, .int .u32 y64] w61 K62) →
CallG Tryz.prog t59 #[.func (.yield (w58.heap.size + 1)) #[] #[]] ((w58.alloc (.deferred (some []))).alloc (Rec60 .ready none)) fun e94 w95 => (∃ v96, e94 = .returned v96) ∧ ((w95.heap[(w58.heap.size + 1)]? = some (Rec60 .ready none) ∧
Calls Tryz.prog 70 #[.pointer (some a55)] (w95.putObj (w58.heap.size + 1) (Rec60 .exhausted none)) fun e97 w98 => ∃ t99 : ByteArray, e97 = .returned (.string t99) ∧
Calls Tryz.prog 129 #[.string t99, .string (⟨#[48]⟩ : ByteArray)] w98 fun e100 w101 => ∃ t102 : ByteArray, e100 = .returned (.string t102) ∧
∃ t103 : Bool, w101.cell? (a5.add 0) = some (.bool t103) ∧
bsel t103 (
((((⟨#[45]⟩ : ByteArray).size + t102.size : Nat) : Int) ≤ 9223372036854775807) ∧
((w101.heap[w58.heap.size]? = some (.deferred (some []))) ∧ Q (.string ((⟨#[45]⟩ : ByteArray) ++ t102)) (w101.putObj w58.heap.size (.deferred none)))) (
((w101.heap[w58.heap.size]? = some (.deferred (some []))) ∧ Q (.string t102) (w101.putObj w58.heap.size (.deferred none))))) ∨ False)))
def V75_sh : Nat → List (Nat × Shape) := fun k => match k with | 2 => [(49, .one (.raw)), (50, .one (.int .u32))] | _ => []
def V75_ann : Nat → Ann := fun k => match k with | 0 => ⟨[1], [(3, .slice), (4, .slice)]⟩ | 1 => ⟨[1, 3, 4], [(5, .int .u32), (6, .int .i64)]⟩ | _ => ⟨[], []⟩
theorem V75_eq (x1 : Bool) (x2 : Option Addr) (x3 : Nat) (x4 : Nat) (w : World) (Q : Value → World → Prop) : (match Tryz.f75.body with | some c => wpM Tryz.prog Tryz.f75.ntmps V75_ann V75_sh c 0 [] (resM Tryz.prog Tryz.f75.ntmps Tryz.f75.results.toList Q) (argsF [.agg #[.bool x1, .slice x2 x3 x4]]) w | none => False) = V75 x1 x2 x3 x4 w Q := by kernel_rfl
theorem V75_sound (x1 : Bool) (x2 : Option Addr) (x3 : Nat) (x4 : Nat) (w : World) (Q : Value → World → Prop) (h : V75 x1 x2 x3 x4 w Q) : Calls Tryz.prog 75 #[.agg #[.bool x1, .slice x2 x3 x4]] w fun e w' => ∃ v, e = .returned v ∧ Q v w' :=
  sound_ofM Tryz.func75 V75_ann V75_sh rfl ((V75_eq x1 x2 x3 x4 w Q).mpr h)
end Go.Fw


set_option autoImplicit false
set_option linter.unusedVariables false
set_option maxRecDepth 100000
namespace Go.Fw
open Go.Proofs
def V3J1 (Q : Value → World → Prop) (I83 : Int → World → Prop) (μ84 : Int → World → Nat) (i85 : Int) (w86 : World) (I116 : Int → World → Prop) (μ117 : Int → World → Nat) (i118 : Int) (w119 : World) (x121 : Option Addr) (x122 : Nat) (x123 : Nat) (x124 : Option Addr) (x125 : Option Addr) (x126 : Nat) (x127 : Nat) (x128 : Int) (x129 : Int) (x130 : Int) (x131 : Int) (x132 : Bool) (x133 : Int) (x134 : Bool) (w135 : World) : Prop :=
bsel x134 (
idxK x125 x126 x131 1 fun a136 =>
∃ t137 : Int, w135.drew.cell? a136 = some (.int .i64 t137) ∧
idxK x125 x126 x133 1 fun a138 =>
∃ t139 : Int, w135.drew.cell? a138 = some (.int .i64 t139) ∧
Calls Tryz.prog 16 #[.pointer x124, .int .i64 t137, .int .i64 t139] w135.drew fun e140 w141 => ∃ t142 : Bool, e140 = .returned (.bool t142) ∧
bsel t142 (
idxK x125 x126 x129 1 fun a143 =>
∃ t144 : Int, w141.cell? a143 = some (.int .i64 t144) ∧
idxK x125 x126 x133 1 fun a145 =>
∃ t146 : Int, w141.cell? a145 = some (.int .i64 t146) ∧
Calls Tryz.prog 16 #[.pointer x124, .int .i64 t144, .int .i64 t146] w141 fun e147 w148 => ∃ t149 : Bool, e147 = .returned (.bool t149) ∧
bsel (!t149) (
Q (.bool false) w148) (
(I116 (IntKind.wrap .i64 (x133 + 1)) w148 ∧ μ117 (IntKind.wrap .i64 (x133 + 1)) w148 < μ117 i118 w119))) (
(I116 (IntKind.wrap .i64 (x133 + 1)) w141 ∧ μ117 (IntKind.wrap .i64 (x133 + 1)) w141 < μ117 i118 w119))) (
(I83 (IntKind.wrap .i64 (x131 + 1)) w135 ∧ μ84 (IntKind.wrap .i64 (x131 + 1)) w135 < μ84 i85 w86))
def V3J2 (Q : Value → World → Prop) (I83 : Int → World → Prop) (μ84 : Int → World → Nat) (i85 : Int) (w86 : World) (x102 : Option Addr) (x103 : Nat) (x104 : Nat) (x105 : Option Addr) (x106 : Option Addr) (x107 : Nat) (x108 : Nat) (x109 : Int) (x110 : Int) (x111 : Int) (x112 : Int) (x113 : Bool) (x114 : Bool) (w115 : World) : Prop :=
bsel x114 (
Q (.bool false) w115) (
∃ (I116 : Int → World → Prop) (μ117 : Int → World → Nat), I116 0 w115 ∧ ∀ (j120 : Fr) (i118 : Int) (w119 : World), I116 i118 w119 →
bsel (decide (i118 < (x107 : Int))) (
V3J1 Q I83 μ84 i85 w86 I116 μ117 i118 w119 x102 x103 x104 x105 x106 x107 x108 x109 x110 x111 x112 x113 i118 x113 w119) (
V3J1 Q I83 μ84 i85 w86 I116 μ117 i118 w119 x102 x103 x104 x105 x106 x107 x108 x109 x110 x111 x112 x113 i118 false w119))
def V3J3 (Q : Value → World → Prop) (I50 : Int → Int → World → Prop) (μ51 : Int → Int → World → Nat) (i52 : Int) (i53 : Int) (w54 : World) (x72 : Option Addr) (x73 : Nat) (x74 : Nat) (x75 : Option Addr) (x76 : Option Addr) (x77 : Nat) (x78 : Nat) (x79 : Int) (x80 : Int) (x81 : Int) (w82 : World) : Prop :=
∃ (I83 : Int → World → Prop) (μ84 : Int → World → Nat), I83 0 w82 ∧ ∀ (j87 : Fr) (i85 : Int) (w86 : World), I83 i85 w86 →
bsel (decide (i85 < (x77 : Int))) (
idxK x76 x77 x80 1 fun a88 =>
∃ t89 : Int, w86.drew.cell? a88 = some (.int .i64 t89) ∧
idxK x76 x77 i85 1 fun a90 =>
∃ t91 : Int, w86.drew.cell? a90 = some (.int .i64 t91) ∧
Calls Tryz.prog 16 #[.pointer x75, .int .i64 t89, .int .i64 t91] w86.drew fun e92 w93 => ∃ t94 : Bool, e92 = .returned (.bool t94) ∧
idxK x76 x77 x80 1 fun a95 =>
∃ t96 : Int, w93.drew.cell? a95 = some (.int .i64 t96) ∧
idxK x76 x77 i85 1 fun a97 =>
∃ t98 : Int, w93.drew.cell? a97 = some (.int .i64 t98) ∧
Calls Tryz.prog 17 #[.pointer x75, .int .i64 t96, .int .i64 t98] w93.drew fun e99 w100 => ∃ t101 : Bool, e99 = .returned (.bool t101) ∧
bsel t101 (
bsel (!t94) (
V3J2 Q I83 μ84 i85 w86 x72 x73 x74 x75 x76 x77 x78 x79 x80 x81 i85 t94 true w100.drew) (
idxK x76 x77 i85 1 fun a165 =>
∃ t166 : Int, w100.drew.cell? a165 = some (.int .i64 t166) ∧
idxK x76 x77 x80 1 fun a167 =>
∃ t168 : Int, w100.drew.cell? a167 = some (.int .i64 t168) ∧
Calls Tryz.prog 16 #[.pointer x75, .int .i64 t166, .int .i64 t168] w100.drew fun e169 w170 => ∃ t171 : Bool, e169 = .returned (.bool t171) ∧
bsel (!(t94 == t171)) (
V3J2 Q I83 μ84 i85 w86 x72 x73 x74 x75 x76 x77 x78 x79 x80 x81 i85 t94 true w170) (
idxK x76 x77 i85 1 fun a172 =>
∃ t173 : Int, w170.cell? a172 = some (.int .i64 t173) ∧
idxK x76 x77 x80 1 fun a174 =>
∃ t175 : Int, w170.cell? a174 = some (.int .i64 t175) ∧
Calls Tryz.prog 17 #[.pointer x75, .int .i64 t173, .int .i64 t175] w170 fun e176 w177 => ∃ t178 : Bool, e176 = .returned (.bool t178) ∧
bsel (!(t101 == t178)) (
V3J2 Q I83 μ84 i85 w86 x72 x73 x74 x75 x76 x77 x78 x79 x80 x81 i85 t94 true w177) (
bsel (x80 == i85) (
bsel (!t101) (
V3J2 Q I83 μ84 i85 w86 x72 x73 x74 x75 x76 x77 x78 x79 x80 x81 i85 t94 true w177) (
bsel (decide (x81 > 0)) (
idxK x76 x77 x80 1 fun a179 =>
∃ t180 : Int, w177.cell? a179 = some (.int .i64 t180) ∧
idxK x76 x77 i85 1 fun a181 =>
∃ t182 : Int, w177.cell? a181 = some (.int .i64 t182) ∧
V3J2 Q I83 μ84 i85 w86 x72 x73 x74 x75 x76 x77 x78 x79 x80 x81 i85 t94 (!(t94 == (t180 == t182))) w177) (
idxK x76 x77 i85 1 fun a183 =>
∃ t184 : Int, w177.cell? a183 = some (.int .i64 t184) ∧
Calls Tryz.prog 15 #[.pointer x75, .int .i64 t184] w177 fun e185 w186 => ∃ t187 : Int, e185 = .returned (.int .i64 t187) ∧
bsel (decide (t187 > 0)) (
idxK x76 x77 x80 1 fun a188 =>
∃ t189 : Int, w186.cell? a188 = some (.int .i64 t189) ∧
idxK x76 x77 i85 1 fun a190 =>
∃ t191 : Int, w186.cell? a190 = some (.int .i64 t191) ∧
V3J2 Q I83 μ84 i85 w86 x72 x73 x74 x75 x76 x77 x78 x79 x80 x81 i85 t94 (!(t94 == (t189 == t191))) w186) (
V3J2 Q I83 μ84 i85 w86 x72 x73 x74 x75 x76 x77 x78 x79 x80 x81 i85 t94 false w186)))) (
bsel (decide (x81 > 0)) (
idxK x76 x77 x80 1 fun a192 =>
∃ t193 : Int, w177.cell? a192 = some (.int .i64 t193) ∧
idxK x76 x77 i85 1 fun a194 =>
∃ t195 : Int, w177.cell? a194 = some (.int .i64 t195) ∧
V3J2 Q I83 μ84 i85 w86 x72 x73 x74 x75 x76 x77 x78 x79 x80 x81 i85 t94 (!(t94 == (t193 == t195))) w177) (
idxK x76 x77 i85 1 fun a196 =>
∃ t197 : Int, w177.cell? a196 = some (.int .i64 t197) ∧
Calls Tryz.prog 15 #[.pointer x75, .int .i64 t197] w177 fun e198 w199 => ∃ t200 : Int, e198 = .returned (.int .i64 t200) ∧
bsel (decide (t200 > 0)) (
idxK x76 x77 x80 1 fun a201 =>
∃ t202 : Int, w199.cell? a201 = some (.int .i64 t202) ∧
idxK x76 x77 i85 1 fun a203 =>
∃ t204 : Int, w199.cell? a203 = some (.int .i64 t204) ∧
V3J2 Q I83 μ84 i85 w86 x72 x73 x74 x75 x76 x77 x78 x79 x80 x81 i85 t94 (!(t94 == (t202 == t204))) w199) (
V3J2 Q I83 μ84 i85 w86 x72 x73 x74 x75 x76 x77 x78 x79 x80 x81 i85 t94 false w199))))))) (
idxK x76 x77 i85 1 fun a205 =>
∃ t206 : Int, w100.drew.cell? a205 = some (.int .i64 t206) ∧
idxK x76 x77 x80 1 fun a207 =>
∃ t208 : Int, w100.drew.cell? a207 = some (.int .i64 t208) ∧
Calls Tryz.prog 16 #[.pointer x75, .int .i64 t206, .int .i64 t208] w100.drew fun e209 w210 => ∃ t211 : Bool, e209 = .returned (.bool t211) ∧
bsel (!(t94 == t211)) (
V3J2 Q I83 μ84 i85 w86 x72 x73 x74 x75 x76 x77 x78 x79 x80 x81 i85 t94 true w210) (
idxK x76 x77 i85 1 fun a212 =>
∃ t213 : Int, w210.cell? a212 = some (.int .i64 t213) ∧
idxK x76 x77 x80 1 fun a214 =>
∃ t215 : Int, w210.cell? a214 = some (.int .i64 t215) ∧
Calls Tryz.prog 17 #[.pointer x75, .int .i64 t213, .int .i64 t215] w210 fun e216 w217 => ∃ t218 : Bool, e216 = .returned (.bool t218) ∧
bsel (!(t101 == t218)) (
V3J2 Q I83 μ84 i85 w86 x72 x73 x74 x75 x76 x77 x78 x79 x80 x81 i85 t94 true w217) (
bsel (x80 == i85) (
bsel (!t101) (
V3J2 Q I83 μ84 i85 w86 x72 x73 x74 x75 x76 x77 x78 x79 x80 x81 i85 t94 true w217) (
bsel (decide (x81 > 0)) (
idxK x76 x77 x80 1 fun a219 =>
∃ t220 : Int, w217.cell? a219 = some (.int .i64 t220) ∧
idxK x76 x77 i85 1 fun a221 =>
∃ t222 : Int, w217.cell? a221 = some (.int .i64 t222) ∧
V3J2 Q I83 μ84 i85 w86 x72 x73 x74 x75 x76 x77 x78 x79 x80 x81 i85 t94 (!(t94 == (t220 == t222))) w217) (
idxK x76 x77 i85 1 fun a223 =>
∃ t224 : Int, w217.cell? a223 = some (.int .i64 t224) ∧
Calls Tryz.prog 15 #[.pointer x75, .int .i64 t224] w217 fun e225 w226 => ∃ t227 : Int, e225 = .returned (.int .i64 t227) ∧
bsel (decide (t227 > 0)) (
idxK x76 x77 x80 1 fun a228 =>
∃ t229 : Int, w226.cell? a228 = some (.int .i64 t229) ∧
idxK x76 x77 i85 1 fun a230 =>
∃ t231 : Int, w226.cell? a230 = some (.int .i64 t231) ∧
V3J2 Q I83 μ84 i85 w86 x72 x73 x74 x75 x76 x77 x78 x79 x80 x81 i85 t94 (!(t94 == (t229 == t231))) w226) (
V3J2 Q I83 μ84 i85 w86 x72 x73 x74 x75 x76 x77 x78 x79 x80 x81 i85 t94 false w226)))) (
bsel (decide (x81 > 0)) (
idxK x76 x77 x80 1 fun a232 =>
∃ t233 : Int, w217.cell? a232 = some (.int .i64 t233) ∧
idxK x76 x77 i85 1 fun a234 =>
∃ t235 : Int, w217.cell? a234 = some (.int .i64 t235) ∧
V3J2 Q I83 μ84 i85 w86 x72 x73 x74 x75 x76 x77 x78 x79 x80 x81 i85 t94 (!(t94 == (t233 == t235))) w217) (
idxK x76 x77 i85 1 fun a236 =>
∃ t237 : Int, w217.cell? a236 = some (.int .i64 t237) ∧
Calls Tryz.prog 15 #[.pointer x75, .int .i64 t237] w217 fun e238 w239 => ∃ t240 : Int, e238 = .returned (.int .i64 t240) ∧
bsel (decide (t240 > 0)) (
idxK x76 x77 x80 1 fun a241 =>
∃ t242 : Int, w239.cell? a241 = some (.int .i64 t242) ∧
idxK x76 x77 i85 1 fun a243 =>
∃ t244 : Int, w239.cell? a243 = some (.int .i64 t244) ∧
V3J2 Q I83 μ84 i85 w86 x72 x73 x74 x75 x76 x77 x78 x79 x80 x81 i85 t94 (!(t94 == (t242 == t244))) w239) (
V3J2 Q I83 μ84 i85 w86 x72 x73 x74 x75 x76 x77 x78 x79 x80 x81 i85 t94 false w239))))))) (
(I50 x79 (IntKind.wrap .i64 (x80 + 1)) w86 ∧ μ51 x79 (IntKind.wrap .i64 (x80 + 1)) w86 < μ51 i52 i53 w54))
def V3J4 (Q : Value → World → Prop) (I50 : Int → Int → World → Prop) (μ51 : Int → Int → World → Nat) (i52 : Int) (i53 : Int) (w54 : World) (x61 : Option Addr) (x62 : Nat) (x63 : Nat) (x64 : Option Addr) (x65 : Option Addr) (x66 : Nat) (x67 : Nat) (x68 : Int) (x69 : Int) (x70 : Bool) (w71 : World) : Prop :=
bsel x70 (
Q (.bool false) w71) (
V3J3 Q I50 μ51 i52 i53 w54 x61 x62 x63 x64 x65 x66 x67 x69 x68 x69 w71)
def V3J5 (Q : Value → World → Prop) (x30 : Option Addr) (x31 : Nat) (x32 : Nat) (x33 : Option Addr) (x34 : Bool) (w35 : World) : Prop :=
bsel x34 (
Q (.bool false) w35) (
Calls Tryz.prog 13 #[.pointer x33, .slice x30 x31 x32] w35 fun e36 w37 => ∃ t38 : Option Addr, ∃ t39 : Nat, ∃ t40 : Nat, ∃ t41 : Int, e36 = .returned (.tuple #[.slice t38 t39 t40, .int .i64 t41]) ∧
bsel (t41 != 0) (
bsel ((t39 : Int) == 0) (
Calls Tryz.prog 14 #[.pointer x33] w37 fun e42 w43 => ∃ t44 : Int, e42 = .returned (.int .i64 t44) ∧
bsel (t44 == 0) (
Calls Tryz.prog 10 #[] w43 fun e45 w46 => ∃ t47 : Bool, e45 = .returned (.bool t47) ∧
Q (.bool t47) w46) (
Q (.bool false) w43)) (
Q (.bool false) w37)) (
∃ (I50 : Int → Int → World → Prop) (μ51 : Int → Int → World → Nat), I50 0 0 w37 ∧ ∀ (j55 : Fr) (i52 : Int) (i53 : Int) (w54 : World), I50 i52 i53 w54 →
bsel (decide (i53 < (t39 : Int))) (
idxK t38 t39 i53 1 fun a56 =>
∃ t57 : Int, w54.cell? a56 = some (.int .i64 t57) ∧
Calls Tryz.prog 15 #[.pointer x33, .int .i64 t57] w54 fun e58 w59 => ∃ t60 : Int, e58 = .returned (.int .i64 t60) ∧
bsel (decide (t60 > 0)) (
bsel (decide (t60 ≤ i52)) (
V3J4 Q I50 μ51 i52 i53 w54 x30 x31 x32 x33 t38 t39 t40 i53 t60 true w59) (
bsel (decide (t60 > IntKind.wrap .i64 (i52 + 2))) (
V3J4 Q I50 μ51 i52 i53 w54 x30 x31 x32 x33 t38 t39 t40 i53 t60 true w59) (
bsel (t60 == IntKind.wrap .i64 (i52 + 2)) (
idxK x30 x31 i53 8 fun a245 =>
∃ t246 : Int, w59.cell? (a245.add 0) = some (.int .i64 t246) ∧
V3J4 Q I50 μ51 i52 i53 w54 x30 x31 x32 x33 t38 t39 t40 i53 t60 (t246 != 14) w59) (
V3J4 Q I50 μ51 i52 i53 w54 x30 x31 x32 x33 t38 t39 t40 i53 t60 false w59)))) (
V3J3 Q I50 μ51 i52 i53 w54 x30 x31 x32 x33 t38 t39 t40 i52 i53 t60 w59)) (
Calls Tryz.prog 14 #[.pointer x33] w54 fun e247 w248 => ∃ t249 : Int, e247 = .returned (.int .i64 t249) ∧
bsel (t249 == i52) (
Calls Tryz.prog 10 #[] w248 fun e250 w251 => ∃ t252 : Bool, e250 = .returned (.bool t252) ∧
Q (.bool t252) w251) (
Q (.bool false) w248))))
def V3J6 (Q : Value → World → Prop) (x7 : Option Addr) (x8 : Nat) (x9 : Nat) (x10 : Bool) (w11 : World) : Prop :=
bsel x10 (
Calls Tryz.prog 10 #[] w11 fun e12 w13 => ∃ t14 : Bool, e12 = .returned (.bool t14) ∧
Q (.bool t14) w13) (
Calls Tryz.prog 12 #[.int .i64 1000, .int .i64 5] w11 fun e15 w16 => ∃ t17 : Int, ∃ t18 : Int, ∃ t19 : Int, ∃ t20 : Option Addr, ∃ t21 : Nat, ∃ t22 : Nat, ∃ t23 : Option Addr, ∃ t24 : Nat, ∃ t25 : Nat, e15 = .returned (.agg #[.int .i64 t17, .int .i64 t18, .int .i64 t19, .slice t20 t21 t22, .slice t23 t24 t25]) ∧
Calls Tryz.prog 11 #[.agg #[.int .i64 t17, .int .i64 t18, .int .i64 t19, .slice t20 t21 t22, .slice t23 t24 t25], .pointer none] w16 fun e26 w27 => ∃ t28 : Option Addr, ∃ t29 : Int, e26 = .returned (.tuple #[.pointer t28, .int .i64 t29]) ∧
bsel (t29 != 0) (
V3J5 Q x7 x8 x9 t28 true w27) (
V3J5 Q x7 x8 x9 t28 (Option.isNone t28) w27))
def V3 (x1 : Option Addr) (x2 : Nat) (x3 : Nat) (w : World) (Q : Value → World → Prop) : Prop :=
Calls Tryz.prog 9 #[.slice x1 x2 x3] w fun e4 w5 => ∃ t6 : Bool, e4 = .returned (.bool t6) ∧
bsel t6 (
V3J6 Q x1 x2 x3 true w5) (
V3J6 Q x1 x2 x3 (decide ((x2 : Int) > 40)) w5)
def V3_ann : Nat → Ann := fun k => match k with | 0 => ⟨[0, 3, 5], [(6, .int .i64), (7, .int .i64)]⟩ | 1 => ⟨[0, 3, 5, 6, 7, 8], [(9, .int .i64)]⟩ | 2 => ⟨[0, 3, 5, 6, 7, 8, 9, 10], [(12, .int .i64)]⟩ | _ => ⟨[], []⟩
theorem V3_eq (x1 : Option Addr) (x2 : Nat) (x3 : Nat) (w : World) (Q : Value → World → Prop) : (match Tryz.f3.body with | some c => wpC Tryz.prog Tryz.f3.ntmps V3_ann c 0 (resQ Tryz.prog Tryz.f3.ntmps Tryz.f3.results.toList Q) (argsF [.slice x1 x2 x3]) w | none => False) = V3 x1 x2 x3 w Q := by kernel_rfl
theorem V3_sound (x1 : Option Addr) (x2 : Nat) (x3 : Nat) (w : World) (Q : Value → World → Prop) (h : V3 x1 x2 x3 w Q) : Calls Tryz.prog 3 #[.slice x1 x2 x3] w fun e w' => ∃ v, e = .returned v ∧ Q v w' :=
  sound_of Tryz.func3 V3_ann rfl ((V3_eq x1 x2 x3 w Q).mpr h)
def V84 (x1 : Option Addr) (x2 : Bool) (x3 : Option Addr) (x4 : Nat) (x5 : Nat) (w : World) (Q : Value → World → Prop) : Prop :=
newK w #[.bool x2, .slice x3 x4 x5] 40 fun a6 w7 =>
Calls Tryz.prog 138 #[.pointer x1] w7 fun e8 w9 => ∃ t10 : Value, e8 = .returned (t10) ∧
nilK x1 fun a11 =>
∃ t12 : Option Addr, w9.drew.cell? (a11.add 6) = some (.pointer t12) ∧
∃ t13 : Bool, ∃ t14 : Option Addr, ∃ t15 : Nat, ∃ t16 : Nat, CellsAt w9.drew a6 [.bool t13, .slice t14 t15 t16] ∧
Calls Tryz.prog 38 #[.pointer t12, .iface 172 (.agg #[.bool t13, .slice t14 t15 t16])] w9.drew fun e17 w18 => ∃ t19 : Int, e17 = .returned (.int .i64 t19) ∧
Q (.int .i64 t19) w18
def V84_ann : Nat → Ann := fun _ => ⟨[], []⟩
theorem V84_eq (x1 : Option Addr) (x2 : Bool) (x3 : Option Addr) (x4 : Nat) (x5 : Nat) (w : World) (Q : Value → World → Prop) : (match Tryz.f84.body with | some c => wpC Tryz.prog Tryz.f84.ntmps V84_ann c 0 (resQ Tryz.prog Tryz.f84.ntmps Tryz.f84.results.toList Q) (argsF [.pointer x1, .agg #[.bool x2, .slice x3 x4 x5]]) w | none => False) = V84 x1 x2 x3 x4 x5 w Q := by kernel_rfl
theorem V84_sound (x1 : Option Addr) (x2 : Bool) (x3 : Option Addr) (x4 : Nat) (x5 : Nat) (w : World) (Q : Value → World → Prop) (h : V84 x1 x2 x3 x4 x5 w Q) : Calls Tryz.prog 84 #[.pointer x1, .agg #[.bool x2, .slice x3 x4 x5]] w fun e w' => ∃ v, e = .returned v ∧ Q v w' :=
  sound_of Tryz.func84 V84_ann rfl ((V84_eq x1 x2 x3 x4 x5 w Q).mpr h)
def V85 (x1 : Bool) (x2 : Option Addr) (x3 : Nat) (x4 : Nat) (w : World) (Q : Value → World → Prop) : Prop :=
newK w #[.bool x1, .slice x2 x3 x4] 40 fun a5 w6 =>
newK w6 #[.bool false, .slice none 0 0] 40 fun a7 w8 =>
∃ t9 : Bool, ∃ t10 : Option Addr, ∃ t11 : Nat, ∃ t12 : Nat, CellsAt w8 a5 [.bool t9, .slice t10 t11 t12] ∧
Calls Tryz.prog 139 #[.agg #[.bool t9, .slice t10 t11 t12]] w8 fun e13 w14 => ∃ t15 : Bool, ∃ t16 : Option Addr, ∃ t17 : Nat, ∃ t18 : Nat, e13 = .returned (.agg #[.bool t15, .slice t16 t17 t18]) ∧
Calls Tryz.prog 139 #[.agg #[.bool t15, .slice t16 t17 t18]] w14 fun e19 w20 => ∃ t21 : Bool, ∃ t22 : Option Addr, ∃ t23 : Nat, ∃ t24 : Nat, e19 = .returned (.agg #[.bool t21, .slice t22 t23 t24]) ∧
stK w20 (a7.add 0) (.bool t21) fun w25 =>
stK w25 (a7.add 1) (.slice t22 t23 t24) fun w26 =>
∃ t27 : Bool, ∃ t28 : Option Addr, ∃ t29 : Nat, ∃ t30 : Nat, CellsAt w26 a7 [.bool t27, .slice t28 t29 t30] ∧
Q (.agg #[.bool t27, .slice t28 t29 t30]) w26
def V85_ann : Nat → Ann := fun _ => ⟨[], []⟩
theorem V85_eq (x1 : Bool) (x2 : Option Addr) (x3 : Nat) (x4 : Nat) (w : World) (Q : Value → World → Prop) : (match Tryz.f85.body with | some c => wpC Tryz.prog Tryz.f85.ntmps V85_ann c 0 (resQ Tryz.prog Tryz.f85.ntmps Tryz.f85.results.toList Q) (argsF [.agg #[.bool x1, .slice x2 x3 x4]]) w | none => False) = V85 x1 x2 x3 x4 w Q := by kernel_rfl
theorem V85_sound (x1 : Bool) (x2 : Option Addr) (x3 : Nat) (x4 : Nat) (w : World) (Q : Value → World → Prop) (h : V85 x1 x2 x3 x4 w Q) : Calls Tryz.prog 85 #[.agg #[.bool x1, .slice x2 x3 x4]] w fun e w' => ∃ v, e = .returned v ∧ Q v w' :=
  sound_of Tryz.func85 V85_ann rfl ((V85_eq x1 x2 x3 x4 w Q).mpr h)
def V88J1 (I46 : Int → World → Prop) (μ47 : Int → World → Nat) (i48 : Int) (w49 : World) (x65 : Option Addr) (x66 : Addr) (x67 : Int) (x68 : Option Addr) (x69 : Int) (x70 : Int) (x71 : Option Addr) (x72 : Nat) (x73 : Nat) (x74 : Int) (x75 : Int) (w76 : World) : Prop :=
Calls Tryz.prog 142 #[.pointer x65, .pointer x68, .int .i64 x69, .int .i64 x70] w76 fun e77 w78 => ∃ t79 : Value, e77 = .returned (t79) ∧
(I46 (IntKind.wrap .i64 (x75 + 1)) w78 ∧ μ47 (IntKind.wrap .i64 (x75 + 1)) w78 < μ47 i48 w49)
def V88 (x1 : Option Addr) (x2 : Int) (x3 : Bool) (x4 : Bool) (x5 : Option Addr) (x6 : Nat) (x7 : Nat) (x8 : ByteArray) (x9 : Option Addr) (x10 : Nat) (x11 : Nat) (x12 : Bool) (x13 : Bool) (w : World) (Q : Value → World → Prop) : Prop :=
newK w #[.int .i64 x2, .bool x3, .bool x4, .slice x5 x6 x7, .string x8, .slice x9 x10 x11, .bool x12, .bool x13] 42 fun a14 w15 =>
nilK x1 fun a16 =>
∃ t17 : Option Addr, w15.drew.cell? (a16.add 0) = some (.pointer t17) ∧
∃ t18 : Int, w15.drew.cell? (a14.add 0) = some (.int .i64 t18) ∧
Calls Tryz.prog 141 #[.pointer t17, .int .i64 t18] w15.drew fun e19 w20 => ∃ t21 : Int, e19 = .returned (.int .i64 t21) ∧
nilK x1 fun a22 =>
∃ t23 : Option Addr, w20.cell? (a22.add 0) = some (.pointer t23) ∧
Calls Tryz.prog 41 #[.pointer t23, .int .i64 t21] w20 fun e24 w25 => ∃ t26 : Value, e24 = .returned (t26) ∧
∃ t27 : Option Addr, ∃ t28 : Bool, (∀ w : World, (Instr.typeAssert t26 77 111 true).run Tryz.prog w = .ok (.tuple #[.pointer t27, .bool t28]) w) ∧
bsel (!t28) (
Q (.int .i64 t21) w25) (
∃ t29 : Int, ∃ t30 : Bool, ∃ t31 : Bool, ∃ t32 : Option Addr, ∃ t33 : Nat, ∃ t34 : Nat, ∃ t35 : ByteArray, ∃ t36 : Option Addr, ∃ t37 : Nat, ∃ t38 : Nat, ∃ t39 : Bool, ∃ t40 : Bool, CellsAt w25 a14 [.int .i64 t29, .bool t30, .bool t31, .slice t32 t33 t34, .string t35, .slice t36 t37 t38, .bool t39, .bool t40] ∧
Calls Tryz.prog 134 #[.agg #[.int .i64 t29, .bool t30, .bool t31, .slice t32 t33 t34, .string t35, .slice t36 t37 t38, .bool t39, .bool t40]] w25 fun e41 w42 => ∃ t43 : Option Addr, ∃ t44 : Nat, ∃ t45 : Nat, e41 = .returned (.slice t43 t44 t45) ∧
∃ (I46 : Int → World → Prop) (μ47 : Int → World → Nat), I46 0 w42 ∧ ∀ (j50 : Fr) (i48 : Int) (w49 : World), I46 i48 w49 →
bsel (decide (i48 < (t44 : Int))) (
idxK t43 t44 i48 1 fun a51 =>
∃ t52 : Int, w49.cell? a51 = some (.int .i64 t52) ∧
∃ t53 : Int, w49.cell? (a14.add 0) = some (.int .i64 t53) ∧
bsel (t53 == 7) (
nilK x1 fun a54 =>
∃ t55 : Option Addr, ∃ t56 : Nat, ∃ t57 : Nat, w49.drew.cell? (a54.add 2) = some (.slice t55 t56 t57) ∧
∃ t58 : Option Addr, ∃ t59 : Nat, ∃ t60 : Nat, w49.drew.cell? (a14.add 5) = some (.slice t58 t59 t60) ∧
idxK t58 t59 (IntKind.wrap .i64 (IntKind.wrap .i64 (2 * i48) + 1)) 1 fun a61 =>
∃ t62 : Int, w49.drew.cell? a61 = some (.int .i64 t62) ∧
idxK t55 t56 t62 1 fun a63 =>
∃ t64 : Int, w49.drew.cell? a63 = some (.int .i64 t64) ∧
V88J1 I46 μ47 i48 w49 x1 a14 t21 t27 t52 t64 t43 t44 t45 (t44 : Int) i48 w49.drew) (
V88J1 I46 μ47 i48 w49 x1 a14 t21 t27 t52 0 t43 t44 t45 (t44 : Int) i48 w49)) (
Q (.int .i64 t21) w49))
def V88_ann : Nat → Ann := fun k => match k with | 0 => ⟨[0, 3, 5, 6, 32, 33], [(34, .int .i64)]⟩ | _ => ⟨[], []⟩
theorem V88_eq (x1 : Option Addr) (x2 : Int) (x3 : Bool) (x4 : Bool) (x5 : Option Addr) (x6 : Nat) (x7 : Nat) (x8 : ByteArray) (x9 : Option Addr) (x10 : Nat) (x11 : Nat) (x12 : Bool) (x13 : Bool) (w : World) (Q : Value → World → Prop) : (match Tryz.f88.body with | some c => wpC Tryz.prog Tryz.f88.ntmps V88_ann c 0 (resQ Tryz.prog Tryz.f88.ntmps Tryz.f88.results.toList Q) (argsF [.pointer x1, .agg #[.int .i64 x2, .bool x3, .bool x4, .slice x5 x6 x7, .string x8, .slice x9 x10 x11, .bool x12, .bool x13]]) w | none => False) = V88 x1 x2 x3 x4 x5 x6 x7 x8 x9 x10 x11 x12 x13 w Q := by kernel_rfl
theorem V88_sound (x1 : Option Addr) (x2 : Int) (x3 : Bool) (x4 : Bool) (x5 : Option Addr) (x6 : Nat) (x7 : Nat) (x8 : ByteArray) (x9 : Option Addr) (x10 : Nat) (x11 : Nat) (x12 : Bool) (x13 : Bool) (w : World) (Q : Value → World → Prop) (h : V88 x1 x2 x3 x4 x5 x6 x7 x8 x9 x10 x11 x12 x13 w Q) : Calls Tryz.prog 88 #[.pointer x1, .agg #[.int .i64 x2, .bool x3, .bool x4, .slice x5 x6 x7, .string x8, .slice x9 x10 x11, .bool x12, .bool x13]] w fun e w' => ∃ v, e = .returned v ∧ Q v w' :=
  sound_of Tryz.func88 V88_ann rfl ((V88_eq x1 x2 x3 x4 x5 x6 x7 x8 x9 x10 x11 x12 x13 w Q).mpr h)
def V89 (x1 : Option Addr) (x2 : ByteArray) (x3 : Int) (w : World) (Q : Value → World → Prop) : Prop :=
nilK x1 fun a4 =>
∃ t5 : Int, w.drew.cell? ((a4.add 0).add 1) = some (.int .i64 t5) ∧
nilK x1 fun a6 =>
∃ t7 : Option Addr, w.drew.cell? (a6.add 5) = some (.pointer t7) ∧
Calls Tryz.prog 143 #[.int .i64 t5, .pointer t7] w.drew fun e8 w9 => ∃ t10 : Option Addr, ∃ t11 : Int, e8 = .returned (.tuple #[.pointer t10, .int .i64 t11]) ∧
nilK x1 fun a12 =>
∃ t13 : Int, w9.drew.cell? ((a12.add 0).add 2) = some (.int .i64 t13) ∧
nilK x1 fun a14 =>
∃ t15 : Int, w9.drew.cell? ((a14.add 0).add 1) = some (.int .i64 t15) ∧
nilK x1 fun a16 =>
∃ t17 : Option Addr, w9.drew.cell? (a16.add 5) = some (.pointer t17) ∧
Calls Tryz.prog 144 #[.int .i64 t13, .int .i64 t15, .pointer t17] w9.drew fun e18 w19 => ∃ t20 : Option Addr, ∃ t21 : Int, e18 = .returned (.tuple #[.pointer t20, .int .i64 t21]) ∧
nilK x1 fun a22 =>
∃ t23 : Option Addr, w19.drew.cell? (a22.add 6) = some (.pointer t23) ∧
Calls Tryz.prog 140 #[.pointer x1] w19.drew fun e24 w25 => ∃ t26 : Int, e24 = .returned (.agg #[.int .i64 t26]) ∧
(w25.cell? (a22.add 6) = some (.pointer t23)) ∧
newK w25 #[.int .i64 t26, .pointer t10, .string x2, .int .i64 x3, .pointer t20, .bool false, .bool false] 194 fun a27 w28 =>
(w28.cell? (a22.add 6) = some (.pointer t23)) ∧
Calls Tryz.prog 38 #[.pointer t23, .iface 190 (.pointer (some a27))] w28 fun e29 w30 => ∃ t31 : Int, e29 = .returned (.int .i64 t31) ∧
Q (.int .i64 t31) w30
def V89_ann : Nat → Ann := fun _ => ⟨[], []⟩
theorem V89_eq (x1 : Option Addr) (x2 : ByteArray) (x3 : Int) (w : World) (Q : Value → World → Prop) : (match Tryz.f89.body with | some c => wpC Tryz.prog Tryz.f89.ntmps V89_ann c 0 (resQ Tryz.prog Tryz.f89.ntmps Tryz.f89.results.toList Q) (argsF [.pointer x1, .string x2, .int .i64 x3]) w | none => False) = V89 x1 x2 x3 w Q := by kernel_rfl
theorem V89_sound (x1 : Option Addr) (x2 : ByteArray) (x3 : Int) (w : World) (Q : Value → World → Prop) (h : V89 x1 x2 x3 w Q) : Calls Tryz.prog 89 #[.pointer x1, .string x2, .int .i64 x3] w fun e w' => ∃ v, e = .returned v ∧ Q v w' :=
  sound_of Tryz.func89 V89_ann rfl ((V89_eq x1 x2 x3 w Q).mpr h)
def V90J1 (Q : Value → World → Prop) (x19 : Option Addr) (x20 : Addr) (w21 : World) : Prop :=
nilK x19 fun a22 =>
∃ t23 : Option Addr, w21.cell? (a22.add 6) = some (.pointer t23) ∧
Calls Tryz.prog 38 #[.pointer t23, .iface 163 (.pointer (some x20))] w21 fun e24 w25 => ∃ t26 : Int, e24 = .returned (.int .i64 t26) ∧
Q (.int .i64 t26) w25
def V90 (x1 : Option Addr) (x2 : Int) (w : World) (Q : Value → World → Prop) : Prop :=
Calls Tryz.prog 140 #[.pointer x1] w fun e3 w4 => ∃ t5 : Int, e3 = .returned (.agg #[.int .i64 t5]) ∧
newK w4 #[.int .i64 t5, .pointer none, .int .i64 x2] 169 fun a6 w7 =>
Calls Tryz.prog 41 #[.pointer x1, .int .i64 x2] w7 fun e8 w9 => ∃ t10 : Value, e8 = .returned (t10) ∧
∃ t11 : Option Addr, ∃ t12 : Bool, (∀ w : World, (Instr.typeAssert t10 77 190 true).run Tryz.prog w = .ok (.tuple #[.pointer t11, .bool t12]) w) ∧
bsel t12 (
nilK t11 fun a13 =>
∃ t14 : Option Addr, w9.cell? (a13.add 4) = some (.pointer t14) ∧
Calls Tryz.prog 145 #[.pointer t14] w9 fun e15 w16 => ∃ t17 : Option Addr, e15 = .returned (.pointer t17) ∧
stK w16 (a6.add 1) (.pointer t17) fun w18 =>
V90J1 Q x1 a6 w18) (
V90J1 Q x1 a6 w9)
def V90_ann : Nat → Ann := fun _ => ⟨[], []⟩
theorem V90_eq (x1 : Option Addr) (x2 : Int) (w : World) (Q : Value → World → Prop) : (match Tryz.f90.body with | some c => wpC Tryz.prog Tryz.f90.ntmps V90_ann c 0 (resQ Tryz.prog Tryz.f90.ntmps Tryz.f90.results.toList Q) (argsF [.pointer x1, .int .i64 x2]) w | none => False) = V90 x1 x2 w Q := by kernel_rfl
theorem V90_sound (x1 : Option Addr) (x2 : Int) (w : World) (Q : Value → World → Prop) (h : V90 x1 x2 w Q) : Calls Tryz.prog 90 #[.pointer x1, .int .i64 x2] w fun e w' => ∃ v, e = .returned v ∧ Q v w' :=
  sound_of Tryz.func90 V90_ann rfl ((V90_eq x1 x2 w Q).mpr h)
def V91 (x1 : Option Addr) (x2 : Int) (x3 : Int) (w : World) (Q : Value → World → Prop) : Prop :=
nilK x1 fun a4 =>
∃ t5 : Option Addr, w.drew.cell? (a4.add 6) = some (.pointer t5) ∧
Calls Tryz.prog 140 #[.pointer x1] w.drew fun e6 w7 => ∃ t8 : Int, e6 = .returned (.agg #[.int .i64 t8]) ∧
(w7.cell? (a4.add 6) = some (.pointer t5)) ∧
newK w7 #[.int .i64 t8, .int .i64 x3, .int .i64 x2] 166 fun a9 w10 =>
(w10.cell? (a4.add 6) = some (.pointer t5)) ∧
Calls Tryz.prog 38 #[.pointer t5, .iface 162 (.pointer (some a9))] w10 fun e11 w12 => ∃ t13 : Int, e11 = .returned (.int .i64 t13) ∧
Q (.int .i64 t13) w12
def V91_ann : Nat → Ann := fun _ => ⟨[], []⟩
theorem V91_eq (x1 : Option Addr) (x2 : Int) (x3 : Int) (w : World) (Q : Value → World → Prop) : (match Tryz.f91.body with | some c => wpC Tryz.prog Tryz.f91.ntmps V91_ann c 0 (resQ Tryz.prog Tryz.f91.ntmps Tryz.f91.results.toList Q) (argsF [.pointer x1, .int .i64 x2, .int .i64 x3]) w | none => False) = V91 x1 x2 x3 w Q := by kernel_rfl
theorem V91_sound (x1 : Option Addr) (x2 : Int) (x3 : Int) (w : World) (Q : Value → World → Prop) (h : V91 x1 x2 x3 w Q) : Calls Tryz.prog 91 #[.pointer x1, .int .i64 x2, .int .i64 x3] w fun e w' => ∃ v, e = .returned v ∧ Q v w' :=
  sound_of Tryz.func91 V91_ann rfl ((V91_eq x1 x2 x3 w Q).mpr h)
def V93J1 (Q : Value → World → Prop) (x4 : Int) (x5 : Addr) (x6 : Int) (w7 : World) : Prop :=
((0 : Int) ≤ 32) ∧
newK w7 #[.int .u32 (IntKind.wrap .u32 x6), .int .u32 (IntKind.wrap .u32 (shr .u64 x6 32))] 45 fun a8 w9 =>
Calls Tryz.prog 147 #[.bool (decide (x4 < 0)), .slice (some a8) 2 2] w9 fun e10 w11 => ∃ t12 : Bool, ∃ t13 : Option Addr, ∃ t14 : Nat, ∃ t15 : Nat, e10 = .returned (.agg #[.bool t12, .slice t13 t14 t15]) ∧
stK w11 (x5.add 0) (.bool t12) fun w16 =>
stK w16 (x5.add 1) (.slice t13 t14 t15) fun w17 =>
∃ t18 : Bool, ∃ t19 : Option Addr, ∃ t20 : Nat, ∃ t21 : Nat, CellsAt w17 x5 [.bool t18, .slice t19 t20 t21] ∧
Q (.agg #[.bool t18, .slice t19 t20 t21]) w17
def V93 (x1 : Int) (w : World) (Q : Value → World → Prop) : Prop :=
newK w #[.bool false, .slice none 0 0] 40 fun a2 w3 =>
bsel (decide (x1 < 0)) (
V93J1 Q x1 a2 (IntKind.wrap .u64 (0 - IntKind.wrap .u64 x1)) w3) (
V93J1 Q x1 a2 (IntKind.wrap .u64 x1) w3)
def V93_ann : Nat → Ann := fun _ => ⟨[], []⟩
theorem V93_eq (x1 : Int) (w : World) (Q : Value → World → Prop) : (match Tryz.f93.body with | some c => wpC Tryz.prog Tryz.f93.ntmps V93_ann c 0 (resQ Tryz.prog Tryz.f93.ntmps Tryz.f93.results.toList Q) (argsF [.int .i64 x1]) w | none => False) = V93 x1 w Q := by kernel_rfl
theorem V93_sound (x1 : Int) (w : World) (Q : Value → World → Prop) (h : V93 x1 w Q) : Calls Tryz.prog 93 #[.int .i64 x1] w fun e w' => ∃ v, e = .returned v ∧ Q v w' :=
  sound_of Tryz.func93 V93_ann rfl ((V93_eq x1 w Q).mpr h)
def V94 (x1 : Bool) (x2 : Option Addr) (x3 : Nat) (x4 : Nat) (w : World) (Q : Value → World → Prop) : Prop :=
newK w #[.bool x1, .slice x2 x3 x4] 40 fun a5 w6 =>
∃ t7 : Option Addr, ∃ t8 : Nat, ∃ t9 : Nat, w6.cell? (a5.add 1) = some (.slice t7 t8 t9) ∧
Calls Tryz.prog 124 #[.slice t7 t8 t9] w6 fun e10 w11 => ∃ t12 : Option Addr, ∃ t13 : Nat, ∃ t14 : Nat, e10 = .returned (.slice t12 t13 t14) ∧
bsel ((t13 : Int) == 0) (
Q (.int .i64 0) w11) (
∃ t15 : Bool, w11.cell? (a5.add 0) = some (.bool t15) ∧
bsel t15 (
Q (.int .i64 (-1)) w11) (
Q (.int .i64 1) w11))
def V94_ann : Nat → Ann := fun _ => ⟨[], []⟩
theorem V94_eq (x1 : Bool) (x2 : Option Addr) (x3 : Nat) (x4 : Nat) (w : World) (Q : Value → World → Prop) : (match Tryz.f94.body with | some c => wpC Tryz.prog Tryz.f94.ntmps V94_ann c 0 (resQ Tryz.prog Tryz.f94.ntmps Tryz.f94.results.toList Q) (argsF [.agg #[.bool x1, .slice x2 x3 x4]]) w | none => False) = V94 x1 x2 x3 x4 w Q := by kernel_rfl
theorem V94_sound (x1 : Bool) (x2 : Option Addr) (x3 : Nat) (x4 : Nat) (w : World) (Q : Value → World → Prop) (h : V94 x1 x2 x3 x4 w Q) : Calls Tryz.prog 94 #[.agg #[.bool x1, .slice x2 x3 x4]] w fun e w' => ∃ v, e = .returned v ∧ Q v w' :=
  sound_of Tryz.func94 V94_ann rfl ((V94_eq x1 x2 x3 x4 w Q).mpr h)
def V95 (x1 : Option Addr) (x2 : Nat) (x3 : Nat) (x4 : Option Addr) (x5 : Nat) (x6 : Nat) (w : World) (Q : Value → World → Prop) : Prop :=
Calls Tryz.prog 124 #[.slice x1 x2 x3] w fun e7 w8 => ∃ t9 : Option Addr, ∃ t10 : Nat, ∃ t11 : Nat, e7 = .returned (.slice t9 t10 t11) ∧
Calls Tryz.prog 124 #[.slice x4 x5 x6] w8 fun e12 w13 => ∃ t14 : Option Addr, ∃ t15 : Nat, ∃ t16 : Nat, e12 = .returned (.slice t14 t15 t16) ∧
bsel ((t10 : Int) != (t15 : Int)) (
bsel (decide ((t10 : Int) < (t15 : Int))) (
Q (.int .i64 (-1)) w13) (
Q (.int .i64 1) w13)) (
∃ (I17 : Int → World → Prop) (μ18 : Int → World → Nat), I17 (IntKind.wrap .i64 ((t10 : Int) - 1)) w13 ∧ ∀ (j21 : Fr) (i19 : Int) (w20 : World), I17 i19 w20 →
bsel (decide (i19 ≥ 0)) (
idxK t9 t10 i19 1 fun a22 =>
∃ t23 : Int, w20.drew.cell? a22 = some (.int .u32 t23) ∧
idxK t14 t15 i19 1 fun a24 =>
∃ t25 : Int, w20.drew.cell? a24 = some (.int .u32 t25) ∧
bsel (decide (t23 < t25)) (
Q (.int .i64 (-1)) w20.drew) (
idxK t9 t10 i19 1 fun a26 =>
∃ t27 : Int, w20.drew.drew.cell? a26 = some (.int .u32 t27) ∧
idxK t14 t15 i19 1 fun a28 =>
∃ t29 : Int, w20.drew.drew.cell? a28 = some (.int .u32 t29) ∧
bsel (decide (t27 > t29)) (
Q (.int .i64 1) w20.drew.drew) (
(I17 (IntKind.wrap .i64 (i19 - 1)) w20.drew.drew ∧ μ18 (IntKind.wrap .i64 (i19 - 1)) w20.drew.drew < μ18 i19 w20)))) (
Q (.int .i64 0) w20))
def V95_ann : Nat → Ann := fun k => match k with | 0 => ⟨[0, 1], [(5, .int .i64)]⟩ | _ => ⟨[], []⟩
theorem V95_eq (x1 : Option Addr) (x2 : Nat) (x3 : Nat) (x4 : Option Addr) (x5 : Nat) (x6 : Nat) (w : World) (Q : Value → World → Prop) : (match Tryz.f95.body with | some c => wpC Tryz.prog Tryz.f95.ntmps V95_ann c 0 (resQ Tryz.prog Tryz.f95.ntmps Tryz.f95.results.toList Q) (argsF [.slice x1 x2 x3, .slice x4 x5 x6]) w | none => False) = V95 x1 x2 x3 x4 x5 x6 w Q := by kernel_rfl
theorem V95_sound (x1 : Option Addr) (x2 : Nat) (x3 : Nat) (x4 : Option Addr) (x5 : Nat) (x6 : Nat) (w : World) (Q : Value → World → Prop) (h : V95 x1 x2 x3 x4 x5 x6 w Q) : Calls Tryz.prog 95 #[.slice x1 x2 x3, .slice x4 x5 x6] w fun e w' => ∃ v, e = .returned v ∧ Q v w' :=
  sound_of Tryz.func95 V95_ann rfl ((V95_eq x1 x2 x3 x4 x5 x6 w Q).mpr h)
def V123 (x1 : Option Addr) (x2 : Nat) (x3 : Nat) (w : World) (Q : Value → World → Prop) : Prop :=
bsel (Option.isNone x1) (
Q (.slice none 0 0) w) (
newK w #[] 45 fun a4 w5 =>
∃ w6 : World, ∃ t7 : Option Addr, ∃ t8 : Nat, ∃ t9 : Nat, (vcEff.bltV .append #[38, 38] 38 #[.slice (some a4) 0 0, .slice x1 x2 x3]).run Tryz.prog w5 = .ok (.slice t7 t8 t9) w6 ∧
Q (.slice t7 t8 t9) w6)
def V123_ann : Nat → Ann := fun _ => ⟨[], []⟩
theorem V123_eq (x1 : Option Addr) (x2 : Nat) (x3 : Nat) (w : World) (Q : Value → World → Prop) : (match Tryz.f123.body with | some c => wpC Tryz.prog Tryz.f123.ntmps V123_ann c 0 (resQ Tryz.prog Tryz.f123.ntmps Tryz.f123.results.toList Q) (argsF [.slice x1 x2 x3]) w | none => False) = V123 x1 x2 x3 w Q := by kernel_rfl
theorem V123_sound (x1 : Option Addr) (x2 : Nat) (x3 : Nat) (w : World) (Q : Value → World → Prop) (h : V123 x1 x2 x3 w Q) : Calls Tryz.prog 123 #[.slice x1 x2 x3] w fun e w' => ∃ v, e = .returned v ∧ Q v w' :=
  sound_of Tryz.func123 V123_ann rfl ((V123_eq x1 x2 x3 w Q).mpr h)
def V124J1 (Q : Value → World → Prop) (I4 : Option Addr → Nat → Nat → World → Prop) (μ5 : Option Addr → Nat → Nat → World → Nat) (i6 : Option Addr) (i7 : Nat) (i8 : Nat) (w9 : World) (x13 : Option Addr) (x14 : Nat) (x15 : Nat) (x16 : Bool) (w17 : World) : Prop :=
bsel x16 (
slcK x13 x15 0 (IntKind.wrap .i64 ((x14 : Int) - 1)) 1 fun t18 t19 t20 =>
(I4 t18 t19 t20 w17 ∧ μ5 t18 t19 t20 w17 < μ5 i6 i7 i8 w9)) (
Q (.slice x13 x14 x15) w17)
def V124 (x1 : Option Addr) (x2 : Nat) (x3 : Nat) (w : World) (Q : Value → World → Prop) : Prop :=
∃ (I4 : Option Addr → Nat → Nat → World → Prop) (μ5 : Option Addr → Nat → Nat → World → Nat), I4 x1 x2 x3 w ∧ ∀ (j10 : Fr) (i6 : Option Addr) (i7 : Nat) (i8 : Nat) (w9 : World), I4 i6 i7 i8 w9 →
bsel (decide ((i7 : Int) > 0)) (
idxK i6 i7 (IntKind.wrap .i64 ((i7 : Int) - 1)) 1 fun a11 =>
∃ t12 : Int, w9.cell? a11 = some (.int .u32 t12) ∧
V124J1 Q I4 μ5 i6 i7 i8 w9 i6 i7 i8 (t12 == 0) w9) (
V124J1 Q I4 μ5 i6 i7 i8 w9 i6 i7 i8 false w9)
def V124_ann : Nat → Ann := fun k => match k with | 0 => ⟨[], [(0, .slice)]⟩ | _ => ⟨[], []⟩
theorem V124_eq (x1 : Option Addr) (x2 : Nat) (x3 : Nat) (w : World) (Q : Value → World → Prop) : (match Tryz.f124.body with | some c => wpC Tryz.prog Tryz.f124.ntmps V124_ann c 0 (resQ Tryz.prog Tryz.f124.ntmps Tryz.f124.results.toList Q) (argsF [.slice x1 x2 x3]) w | none => False) = V124 x1 x2 x3 w Q := by kernel_rfl
theorem V124_sound (x1 : Option Addr) (x2 : Nat) (x3 : Nat) (w : World) (Q : Value → World → Prop) (h : V124 x1 x2 x3 w Q) : Calls Tryz.prog 124 #[.slice x1 x2 x3] w fun e w' => ∃ v, e = .returned v ∧ Q v w' :=
  sound_of Tryz.func124 V124_ann rfl ((V124_eq x1 x2 x3 w Q).mpr h)
def V125J1 (Q : Value → World → Prop) (x10 : Int) (x11 : Int) (x12 : Int) (w13 : World) : Prop :=
((0 : Int) ≤ 32) ∧
((IntKind.wrap .u64 x12 : Int) ≠ 0) ∧
((IntKind.wrap .u64 x12 : Int) ≠ 0) ∧
Q (.tuple #[.int .u32 (IntKind.wrap .u32 (IntKind.wrap .u64 (Int.tdiv (bOr .u64 (shl .u64 (IntKind.wrap .u64 x10) 32) (IntKind.wrap .u64 x11)) (IntKind.wrap .u64 x12)))), .int .u32 (IntKind.wrap .u32 (Int.tmod (bOr .u64 (shl .u64 (IntKind.wrap .u64 x10) 32) (IntKind.wrap .u64 x11)) (IntKind.wrap .u64 x12)))]) w13.drew
def V125J2 (Q : Value → World → Prop) (x4 : Int) (x5 : Int) (x6 : Int) (x7 : Bool) (w8 : World) : Prop :=
bsel x7 (
∃ t9 : Value, w8.cell? ⟨0, 0, none⟩ = some (t9) ∧
False) (
V125J1 Q x4 x5 x6 w8)
def V125 (x1 : Int) (x2 : Int) (x3 : Int) (w : World) (Q : Value → World → Prop) : Prop :=
bsel (x3 != 0) (
V125J2 Q x1 x2 x3 (decide (x3 ≤ x1)) w) (
V125J2 Q x1 x2 x3 false w)
def V125_ann : Nat → Ann := fun _ => ⟨[], []⟩
theorem V125_eq (x1 : Int) (x2 : Int) (x3 : Int) (w : World) (Q : Value → World → Prop) : (match Tryz.f125.body with | some c => wpC Tryz.prog Tryz.f125.ntmps V125_ann c 0 (resQ Tryz.prog Tryz.f125.ntmps Tryz.f125.results.toList Q) (argsF [.int .u32 x1, .int .u32 x2, .int .u32 x3]) w | none => False) = V125 x1 x2 x3 w Q := by kernel_rfl
theorem V125_sound (x1 : Int) (x2 : Int) (x3 : Int) (w : World) (Q : Value → World → Prop) (h : V125 x1 x2 x3 w Q) : Calls Tryz.prog 125 #[.int .u32 x1, .int .u32 x2, .int .u32 x3] w fun e w' => ∃ v, e = .returned v ∧ Q v w' :=
  sound_of Tryz.func125 V125_ann rfl ((V125_eq x1 x2 x3 w Q).mpr h)
def V126 (x1 : Option Addr) (x2 : Nat) (x3 : Nat) (w : World) (Q : Value → World → Prop) : Prop :=
newK w #[.slice x1 x2 x3] 38 fun a4 w5 =>
Q (.func (.func 202) #[] #[.pointer (some a4)]) w5
def V126_ann : Nat → Ann := fun _ => ⟨[], []⟩
theorem V126_eq (x1 : Option Addr) (x2 : Nat) (x3 : Nat) (w : World) (Q : Value → World → Prop) : (match Tryz.f126.body with | some c => wpC Tryz.prog Tryz.f126.ntmps V126_ann c 0 (resQ Tryz.prog Tryz.f126.ntmps Tryz.f126.results.toList Q) (argsF [.slice x1 x2 x3]) w | none => False) = V126 x1 x2 x3 w Q := by kernel_rfl
theorem V126_sound (x1 : Option Addr) (x2 : Nat) (x3 : Nat) (w : World) (Q : Value → World → Prop) (h : V126 x1 x2 x3 w Q) : Calls Tryz.prog 126 #[.slice x1 x2 x3] w fun e w' => ∃ v, e = .returned v ∧ Q v w' :=
  sound_of Tryz.func126 V126_ann rfl ((V126_eq x1 x2 x3 w Q).mpr h)
def V127 (x1 : Int) (w : World) (Q : Value → World → Prop) : Prop :=
newK w #[.int .u8 0, .int .u8 0, .int .u8 0, .int .u8 0, .int .u8 0, .int .u8 0, .int .u8 0, .int .u8 0, .int .u8 0] 246 fun a2 w3 =>
newK w3 #[.int .u8 0, .int .u8 0, .int .u8 0, .int .u8 0, .int .u8 0, .int .u8 0, .int .u8 0, .int .u8 0, .int .u8 0] 246 fun a4 w5 =>
∃ (I6 : Int → Int → World → Prop) (μ7 : Int → Int → World → Nat), I6 x1 0 w5 ∧ ∀ (j11 : Fr) (i8 : Int) (i9 : Int) (w10 : World), I6 i8 i9 w10 →
bsel (decide (i9 < 9)) (
((10 : Int) ≠ 0) ∧
aidxK a4 9 (IntKind.wrap .i64 (8 - i9)) 1 fun a12 =>
stK w10 a12 (.int .u8 (IntKind.wrap .u8 (IntKind.wrap .u32 (48 + Int.tmod i8 10)))) fun w13 =>
((10 : Int) ≠ 0) ∧
(I6 (IntKind.wrap .u32 (Int.tdiv i8 10)) (IntKind.wrap .i64 (i9 + 1)) w13 ∧ μ7 (IntKind.wrap .u32 (Int.tdiv i8 10)) (IntKind.wrap .i64 (i9 + 1)) w13 < μ7 i8 i9 w10)) (
∃ t14 : Int, ∃ t15 : Int, ∃ t16 : Int, ∃ t17 : Int, ∃ t18 : Int, ∃ t19 : Int, ∃ t20 : Int, ∃ t21 : Int, ∃ t22 : Int, CellsAt w10 a4 [.int .u8 t14, .int .u8 t15, .int .u8 t16, .int .u8 t17, .int .u8 t18, .int .u8 t19, .int .u8 t20, .int .u8 t21, .int .u8 t22] ∧
stK w10 (a2.add 0) (.int .u8 t14) fun w23 =>
stK w23 (a2.add 1) (.int .u8 t15) fun w24 =>
stK w24 (a2.add 2) (.int .u8 t16) fun w25 =>
stK w25 (a2.add 3) (.int .u8 t17) fun w26 =>
stK w26 (a2.add 4) (.int .u8 t18) fun w27 =>
stK w27 (a2.add 5) (.int .u8 t19) fun w28 =>
stK w28 (a2.add 6) (.int .u8 t20) fun w29 =>
stK w29 (a2.add 7) (.int .u8 t21) fun w30 =>
stK w30 (a2.add 8) (.int .u8 t22) fun w31 =>
∃ t32 : Int, ∃ t33 : Int, ∃ t34 : Int, ∃ t35 : Int, ∃ t36 : Int, ∃ t37 : Int, ∃ t38 : Int, ∃ t39 : Int, ∃ t40 : Int, CellsAt w31 a2 [.int .u8 t32, .int .u8 t33, .int .u8 t34, .int .u8 t35, .int .u8 t36, .int .u8 t37, .int .u8 t38, .int .u8 t39, .int .u8 t40] ∧
Q (.agg #[.int .u8 t32, .int .u8 t33, .int .u8 t34, .int .u8 t35, .int .u8 t36, .int .u8 t37, .int .u8 t38, .int .u8 t39, .int .u8 t40]) w31)
def V127_ann : Nat → Ann := fun k => match k with | 0 => ⟨[2, 3], [(0, .int .u32), (5, .int .i64)]⟩ | _ => ⟨[], []⟩
theorem V127_eq (x1 : Int) (w : World) (Q : Value → World → Prop) : (match Tryz.f127.body with | some c => wpC Tryz.prog Tryz.f127.ntmps V127_ann c 0 (resQ Tryz.prog Tryz.f127.ntmps Tryz.f127.results.toList Q) (argsF [.int .u32 x1]) w | none => False) = V127 x1 w Q := by kernel_rfl
theorem V127_sound (x1 : Int) (w : World) (Q : Value → World → Prop) (h : V127 x1 w Q) : Calls Tryz.prog 127 #[.int .u32 x1] w fun e w' => ∃ v, e = .returned v ∧ Q v w' :=
  sound_of Tryz.func127 V127_ann rfl ((V127_eq x1 w Q).mpr h)
def V139 (x1 : Bool) (x2 : Option Addr) (x3 : Nat) (x4 : Nat) (w : World) (Q : Value → World → Prop) : Prop :=
newK w #[.bool x1, .slice x2 x3 x4] 40 fun a5 w6 =>
newK w6 #[.bool false, .slice none 0 0] 40 fun a7 w8 =>
∃ t9 : Bool, ∃ t10 : Option Addr, ∃ t11 : Nat, ∃ t12 : Nat, CellsAt w8 a5 [.bool t9, .slice t10 t11 t12] ∧
Calls Tryz.prog 211 #[.agg #[.bool t9, .slice t10 t11 t12]] w8 fun e13 w14 => ∃ t15 : Bool, ∃ t16 : Option Addr, ∃ t17 : Nat, ∃ t18 : Nat, e13 = .returned (.agg #[.bool t15, .slice t16 t17 t18]) ∧
newK w14 #[.bool false, .slice none 0 0] 40 fun a19 w20 =>
stK w20 (a19.add 0) (.bool t15) fun w21 =>
stK w21 (a19.add 1) (.slice t16 t17 t18) fun w22 =>
∃ t23 : Bool, w22.cell? (a19.add 0) = some (.bool t23) ∧
∃ t24 : Option Addr, ∃ t25 : Nat, ∃ t26 : Nat, w22.cell? (a19.add 1) = some (.slice t24 t25 t26) ∧
Calls Tryz.prog 147 #[.bool (!t23), .slice t24 t25 t26] w22 fun e27 w28 => ∃ t29 : Bool, ∃ t30 : Option Addr, ∃ t31 : Nat, ∃ t32 : Nat, e27 = .returned (.agg #[.bool t29, .slice t30 t31 t32]) ∧
stK w28 (a7.add 0) (.bool t29) fun w33 =>
stK w33 (a7.add 1) (.slice t30 t31 t32) fun w34 =>
∃ t35 : Bool, ∃ t36 : Option Addr, ∃ t37 : Nat, ∃ t38 : Nat, CellsAt w34 a7 [.bool t35, .slice t36 t37 t38] ∧
Q (.agg #[.bool t35, .slice t36 t37 t38]) w34
def V139_ann : Nat → Ann := fun _ => ⟨[], []⟩
theorem V139_eq (x1 : Bool) (x2 : Option Addr) (x3 : Nat) (x4 : Nat) (w : World) (Q : Value → World → Prop) : (match Tryz.f139.body with | some c => wpC Tryz.prog Tryz.f139.ntmps V139_ann c 0 (resQ Tryz.prog Tryz.f139.ntmps Tryz.f139.results.toList Q) (argsF [.agg #[.bool x1, .slice x2 x3 x4]]) w | none => False) = V139 x1 x2 x3 x4 w Q := by kernel_rfl
theorem V139_sound (x1 : Bool) (x2 : Option Addr) (x3 : Nat) (x4 : Nat) (w : World) (Q : Value → World → Prop) (h : V139 x1 x2 x3 x4 w Q) : Calls Tryz.prog 139 #[.agg #[.bool x1, .slice x2 x3 x4]] w fun e w' => ∃ v, e = .returned v ∧ Q v w' :=
  sound_of Tryz.func139 V139_ann rfl ((V139_eq x1 x2 x3 x4 w Q).mpr h)
def V141 (x1 : Option Addr) (x2 : Int) (w : World) (Q : Value → World → Prop) : Prop :=
nilK x1 fun a3 =>
∃ t4 : Int, w.drew.cell? ((a3.add 0).add 1) = some (.int .i64 t4) ∧
nilK x1 fun a5 =>
∃ t6 : Option Addr, w.drew.cell? (a5.add 5) = some (.pointer t6) ∧
Calls Tryz.prog 143 #[.int .i64 t4, .pointer t6] w.drew fun e7 w8 => ∃ t9 : Option Addr, ∃ t10 : Int, e7 = .returned (.tuple #[.pointer t9, .int .i64 t10]) ∧
Calls Tryz.prog 212 #[.pointer x1, .int .i64 x2, .pointer t9] w8 fun e11 w12 => ∃ t13 : Int, e11 = .returned (.int .i64 t13) ∧
Q (.int .i64 t13) w12
def V141_ann : Nat → Ann := fun _ => ⟨[], []⟩
theorem V141_eq (x1 : Option Addr) (x2 : Int) (w : World) (Q : Value → World → Prop) : (match Tryz.f141.body with | some c => wpC Tryz.prog Tryz.f141.ntmps V141_ann c 0 (resQ Tryz.prog Tryz.f141.ntmps Tryz.f141.results.toList Q) (argsF [.pointer x1, .int .i64 x2]) w | none => False) = V141 x1 x2 w Q := by kernel_rfl
theorem V141_sound (x1 : Option Addr) (x2 : Int) (w : World) (Q : Value → World → Prop) (h : V141 x1 x2 w Q) : Calls Tryz.prog 141 #[.pointer x1, .int .i64 x2] w fun e w' => ∃ v, e = .returned v ∧ Q v w' :=
  sound_of Tryz.func141 V141_ann rfl ((V141_eq x1 x2 w Q).mpr h)
def V142J1 (I37 : World → Prop) (μ38 : World → Nat) (w39 : World) (x57 : Option Addr) (x58 : Int) (x59 : Option Addr) (x60 : Addr) (w61 : World) : Prop :=
Calls Tryz.prog 150 #[.pointer x59] w61 fun e62 w63 => ∃ t64 : Int, ∃ t65 : Int, ∃ t66 : Bool, ∃ t67 : Int, ∃ t68 : Int, e62 = .returned (.agg #[.int .i64 t64, .int .i64 t65, .bool t66, .int .i64 t67, .int .i64 t68]) ∧
stK w63 (x60.add 0) (.int .i64 t64) fun w69 =>
stK w69 (x60.add 1) (.int .i64 t65) fun w70 =>
stK w70 (x60.add 2) (.bool t66) fun w71 =>
stK w71 (x60.add 3) (.int .i64 t67) fun w72 =>
stK w72 (x60.add 4) (.int .i64 t68) fun w73 =>
(I37  w73 ∧ μ38  w73 < μ38  w39)
def V142J2 (Q : Value → World → Prop) (x19 : Option Addr) (x20 : Int) (x21 : Option Addr) (w22 : World) : Prop :=
Calls Tryz.prog 150 #[.pointer x21] w22 fun e23 w24 => ∃ t25 : Int, ∃ t26 : Int, ∃ t27 : Bool, ∃ t28 : Int, ∃ t29 : Int, e23 = .returned (.agg #[.int .i64 t25, .int .i64 t26, .bool t27, .int .i64 t28, .int .i64 t29]) ∧
newK w24 #[.int .i64 0, .int .i64 0, .bool false, .int .i64 0, .int .i64 0] 272 fun a30 w31 =>
stK w31 (a30.add 0) (.int .i64 t25) fun w32 =>
stK w32 (a30.add 1) (.int .i64 t26) fun w33 =>
stK w33 (a30.add 2) (.bool t27) fun w34 =>
stK w34 (a30.add 3) (.int .i64 t28) fun w35 =>
stK w35 (a30.add 4) (.int .i64 t29) fun w36 =>
∃ (I37 : World → Prop) (μ38 : World → Nat), I37  w36 ∧ ∀ (j40 : Fr)  (w39 : World), I37  w39 →
∃ t41 : Int, w39.cell? (a30.add 0) = some (.int .i64 t41) ∧
bsel (t41 == 1) (
nilK x19 fun a42 =>
∃ t43 : Option Addr, w39.drew.cell? (a42.add 0) = some (.pointer t43) ∧
∃ t44 : Int, w39.drew.cell? (a30.add 1) = some (.int .i64 t44) ∧
nilK x19 fun a45 =>
∃ t46 : Option Addr, ∃ t47 : Nat, ∃ t48 : Nat, w39.drew.cell? (a45.add 2) = some (.slice t46 t47 t48) ∧
idxK t46 t47 x20 1 fun a49 =>
∃ t50 : Int, w39.drew.cell? a49 = some (.int .i64 t50) ∧
Calls Tryz.prog 16 #[.pointer t43, .int .i64 t44, .int .i64 t50] w39.drew fun e51 w52 => ∃ t53 : Bool, e51 = .returned (.bool t53) ∧
Calls Tryz.prog 152 #[.pointer x21, .bool t53] w52 fun e54 w55 => ∃ t56 : Int, e54 = .returned (.int .i64 t56) ∧
V142J1 I37 μ38 w39 x19 x20 x21 a30 w55) (
Q (.tuple #[]) w39)
def V142 (x1 : Option Addr) (x2 : Option Addr) (x3 : Int) (x4 : Int) (w : World) (Q : Value → World → Prop) : Prop :=
nilK x2 fun a5 =>
∃ t6 : Option Addr, w.drew.cell? (a5.add 1) = some (.pointer t6) ∧
nilK x1 fun a7 =>
∃ t8 : Option Addr, ∃ t9 : Nat, ∃ t10 : Nat, w.drew.cell? (a7.add 2) = some (.slice t8 t9 t10) ∧
idxK t8 t9 x3 1 fun a11 =>
∃ t12 : Int, w.drew.cell? a11 = some (.int .i64 t12) ∧
Calls Tryz.prog 213 #[.pointer x1, .int .i64 x3] w.drew fun e13 w14 => ∃ t15 : Int, e13 = .returned (.int .i64 t15) ∧
(w14.cell? a11 = some (.int .i64 t12)) ∧
(w14.cell? (a7.add 2) = some (.slice t8 t9 t10)) ∧
(w14.cell? (a5.add 1) = some (.pointer t6)) ∧
Calls Tryz.prog 148 #[.pointer t6, .int .i64 2, .int .i64 t15, .int .i64 t12, .int .i64 x4] w14 fun e16 w17 => ∃ t18 : Option Addr, e16 = .returned (.pointer t18) ∧
V142J2 Q x1 x3 t18 w17
def V142_ann : Nat → Ann := fun k => match k with | 0 => ⟨[0, 2, 8, 9], []⟩ | _ => ⟨[], []⟩
theorem V142_eq (x1 : Option Addr) (x2 : Option Addr) (x3 : Int) (x4 : Int) (w : World) (Q : Value → World → Prop) : (match Tryz.f142.body with | some c => wpC Tryz.prog Tryz.f142.ntmps V142_ann c 0 (resQ Tryz.prog Tryz.f142.ntmps Tryz.f142.results.toList Q) (argsF [.pointer x1, .pointer x2, .int .i64 x3, .int .i64 x4]) w | none => False) = V142 x1 x2 x3 x4 w Q := by kernel_rfl
theorem V142_sound (x1 : Option Addr) (x2 : Option Addr) (x3 : Int) (x4 : Int) (w : World) (Q : Value → World → Prop) (h : V142 x1 x2 x3 x4 w Q) : Calls Tryz.prog 142 #[.pointer x1, .pointer x2, .int .i64 x3, .int .i64 x4] w fun e w' => ∃ v, e = .returned v ∧ Q v w' :=
  sound_of Tryz.func142 V142_ann rfl ((V142_eq x1 x2 x3 x4 w Q).mpr h)
def V143J1 (Q : Value → World → Prop) (x3 : Int) (x4 : Option Addr) (x5 : Bool) (w6 : World) : Prop :=
bsel x5 (
Q (.tuple #[.pointer none, .int .i64 1]) w6) (
Calls Tryz.prog 214 #[.pointer x4] w6 fun e7 w8 => ∃ t9 : Option Addr, e7 = .returned (.pointer t9) ∧
newK w8 #[.pointer t9, .int .i64 x3, .int .u64 0] 235 fun a10 w11 =>
Q (.tuple #[.pointer (some a10), .int .i64 0]) w11)
def V143 (x1 : Int) (x2 : Option Addr) (w : World) (Q : Value → World → Prop) : Prop :=
bsel (decide (x1 < 0)) (
V143J1 Q x1 x2 true w) (
V143J1 Q x1 x2 (decide (x1 > 65536)) w)
def V143_ann : Nat → Ann := fun _ => ⟨[], []⟩
theorem V143_eq (x1 : Int) (x2 : Option Addr) (w : World) (Q : Value → World → Prop) : (match Tryz.f143.body with | some c => wpC Tryz.prog Tryz.f143.ntmps V143_ann c 0 (resQ Tryz.prog Tryz.f143.ntmps Tryz.f143.results.toList Q) (argsF [.int .i64 x1, .pointer x2]) w | none => False) = V143 x1 x2 w Q := by kernel_rfl
theorem V143_sound (x1 : Int) (x2 : Option Addr) (w : World) (Q : Value → World → Prop) (h : V143 x1 x2 w Q) : Calls Tryz.prog 143 #[.int .i64 x1, .pointer x2] w fun e w' => ∃ v, e = .returned v ∧ Q v w' :=
  sound_of Tryz.func143 V143_ann rfl ((V143_eq x1 x2 w Q).mpr h)
def V144J1 (Q : Value → World → Prop) (x4 : Int) (x5 : Int) (x6 : Option Addr) (x7 : Bool) (w8 : World) : Prop :=
bsel x7 (
Q (.tuple #[.pointer none, .int .i64 1]) w8) (
Calls Tryz.prog 214 #[.pointer x6] w8 fun e9 w10 => ∃ t11 : Option Addr, e9 = .returned (.pointer t11) ∧
∃ w12 : World, ∃ t13 : Option Nat, (Instr.makeMap 259 none).run Tryz.prog w10 = .ok (.map t13) w12 ∧
newK w12 #[.int .i64 x4, .int .i64 x5, .pointer x6, .pointer t11, .slice none 0 0, .map t13] 334 fun a14 w15 =>
Q (.tuple #[.pointer (some a14), .int .i64 0]) w15)
def V144 (x1 : Int) (x2 : Int) (x3 : Option Addr) (w : World) (Q : Value → World → Prop) : Prop :=
bsel (decide (x1 < 0)) (
V144J1 Q x1 x2 x3 true w) (
bsel (decide (x1 > 256)) (
V144J1 Q x1 x2 x3 true w) (
bsel (decide (x2 < 0)) (
V144J1 Q x1 x2 x3 true w) (
V144J1 Q x1 x2 x3 (decide (x2 > 65536)) w)))
def V144_ann : Nat → Ann := fun _ => ⟨[], []⟩
theorem V144_eq (x1 : Int) (x2 : Int) (x3 : Option Addr) (w : World) (Q : Value → World → Prop) : (match Tryz.f144.body with | some c => wpC Tryz.prog Tryz.f144.ntmps V144_ann c 0 (resQ Tryz.prog Tryz.f144.ntmps Tryz.f144.results.toList Q) (argsF [.int .i64 x1, .int .i64 x2, .pointer x3]) w | none => False) = V144 x1 x2 x3 w Q := by kernel_rfl
theorem V144_sound (x1 : Int) (x2 : Int) (x3 : Option Addr) (w : World) (Q : Value → World → Prop) (h : V144 x1 x2 x3 w Q) : Calls Tryz.prog 144 #[.int .i64 x1, .int .i64 x2, .pointer x3] w fun e w' => ∃ v, e = .returned v ∧ Q v w' :=
  sound_of Tryz.func144 V144_ann rfl ((V144_eq x1 x2 x3 w Q).mpr h)
def V145 (x1 : Option Addr) (w : World) (Q : Value → World → Prop) : Prop :=
bsel (Option.isNone x1) (
Q (.pointer none) w) (
Calls Tryz.prog 215 #[.pointer x1] w fun e2 w3 => ∃ t4 : Option Addr, e2 = .returned (.pointer t4) ∧
newK w3 #[.slice none 0 0] 338 fun a5 w6 =>
newK w6 #[.pointer t4, .iface 336 (.pointer (some a5)), .int .u64 0] 239 fun a7 w8 =>
Q (.pointer (some a7)) w8)
def V145_ann : Nat → Ann := fun _ => ⟨[], []⟩
theorem V145_eq (x1 : Option Addr) (w : World) (Q : Value → World → Prop) : (match Tryz.f145.body with | some c => wpC Tryz.prog Tryz.f145.ntmps V145_ann c 0 (resQ Tryz.prog Tryz.f145.ntmps Tryz.f145.results.toList Q) (argsF [.pointer x1]) w | none => False) = V145 x1 w Q := by kernel_rfl
theorem V145_sound (x1 : Option Addr) (w : World) (Q : Value → World → Prop) (h : V145 x1 w Q) : Calls Tryz.prog 145 #[.pointer x1] w fun e w' => ∃ v, e = .returned v ∧ Q v w' :=
  sound_of Tryz.func145 V145_ann rfl ((V145_eq x1 w Q).mpr h)
def V147 (x1 : Bool) (x2 : Option Addr) (x3 : Nat) (x4 : Nat) (w : World) (Q : Value → World → Prop) : Prop :=
newK w #[.bool false, .slice none 0 0] 40 fun a5 w6 =>
Calls Tryz.prog 124 #[.slice x2 x3 x4] w6 fun e7 w8 => ∃ t9 : Option Addr, ∃ t10 : Nat, ∃ t11 : Nat, e7 = .returned (.slice t9 t10 t11) ∧
bsel ((t10 : Int) == 0) (
stK w8 (a5.add 0) (.bool false) fun w12 =>
stK w12 (a5.add 1) (.slice none 0 0) fun w13 =>
∃ t14 : Bool, ∃ t15 : Option Addr, ∃ t16 : Nat, ∃ t17 : Nat, CellsAt w13 a5 [.bool t14, .slice t15 t16 t17] ∧
Q (.agg #[.bool t14, .slice t15 t16 t17]) w13) (
stK w8 (a5.add 0) (.bool x1) fun w18 =>
stK w18 (a5.add 1) (.slice t9 t10 t11) fun w19 =>
∃ t20 : Bool, ∃ t21 : Option Addr, ∃ t22 : Nat, ∃ t23 : Nat, CellsAt w19 a5 [.bool t20, .slice t21 t22 t23] ∧
Q (.agg #[.bool t20, .slice t21 t22 t23]) w19)
def V147_ann : Nat → Ann := fun _ => ⟨[], []⟩
theorem V147_eq (x1 : Bool) (x2 : Option Addr) (x3 : Nat) (x4 : Nat) (w : World) (Q : Value → World → Prop) : (match Tryz.f147.body with | some c => wpC Tryz.prog Tryz.f147.ntmps V147_ann c 0 (resQ Tryz.prog Tryz.f147.ntmps Tryz.f147.results.toList Q) (argsF [.bool x1, .slice x2 x3 x4]) w | none => False) = V147 x1 x2 x3 x4 w Q := by kernel_rfl
theorem V147_sound (x1 : Bool) (x2 : Option Addr) (x3 : Nat) (x4 : Nat) (w : World) (Q : Value → World → Prop) (h : V147 x1 x2 x3 x4 w Q) : Calls Tryz.prog 147 #[.bool x1, .slice x2 x3 x4] w fun e w' => ∃ v, e = .returned v ∧ Q v w' :=
  sound_of Tryz.func147 V147_ann rfl ((V147_eq x1 x2 x3 x4 w Q).mpr h)
def V202 (x1 : Value) (x2 : Addr) (w : World) (Q : Value → World → Prop) : Prop :=
∃ t3 : Option Addr, ∃ t4 : Nat, ∃ t5 : Nat, w.cell? x2 = some (.slice t3 t4 t5) ∧
∃ (I6 : Int → World → Prop) (μ7 : Int → World → Nat), I6 (IntKind.wrap .i64 ((t4 : Int) - 1)) w ∧ ∀ (j10 : Fr) (i8 : Int) (w9 : World), I6 i8 w9 →
bsel (decide (i8 ≥ 0)) (
∃ t11 : Option Addr, ∃ t12 : Nat, ∃ t13 : Nat, w9.cell? x2 = some (.slice t11 t12 t13) ∧
idxK t11 t12 i8 1 fun a14 =>
∃ t15 : Int, w9.cell? a14 = some (.int .u32 t15) ∧
CallV Tryz.prog x1 #[.int .i64 i8, .int .u32 t15] w9 fun e16 w17 => ∃ t18 : Bool, e16 = .returned (.bool t18) ∧
bsel (!t18) (
Q (.tuple #[]) w17) (
(I6 (IntKind.wrap .i64 (i8 - 1)) w17 ∧ μ7 (IntKind.wrap .i64 (i8 - 1)) w17 < μ7 i8 w9))) (
Q (.tuple #[]) w9)
def V202_ann : Nat → Ann := fun k => match k with | 0 => ⟨[0, 1], [(3, .int .i64)]⟩ | _ => ⟨[], []⟩
theorem V202_eq (x1 : Value) (x2 : Addr) (w : World) (Q : Value → World → Prop) : (match Tryz.f202.body with | some c => wpC Tryz.prog Tryz.f202.ntmps V202_ann c 0 (resQ Tryz.prog Tryz.f202.ntmps Tryz.f202.results.toList Q) (argsF [x1, .pointer (some x2)]) w | none => False) = V202 x1 x2 w Q := by kernel_rfl
theorem V202_sound (x1 : Value) (x2 : Addr) (w : World) (Q : Value → World → Prop) (h : V202 x1 x2 w Q) : Calls Tryz.prog 202 #[x1, .pointer (some x2)] w fun e w' => ∃ v, e = .returned v ∧ Q v w' :=
  sound_of Tryz.func202 V202_ann rfl ((V202_eq x1 x2 w Q).mpr h)
def V211 (x1 : Bool) (x2 : Option Addr) (x3 : Nat) (x4 : Nat) (w : World) (Q : Value → World → Prop) : Prop :=
newK w #[.bool x1, .slice x2 x3 x4] 40 fun a5 w6 =>
newK w6 #[.bool false, .slice none 0 0] 40 fun a7 w8 =>
∃ t9 : Bool, w8.drew.cell? (a5.add 0) = some (.bool t9) ∧
∃ t10 : Option Addr, ∃ t11 : Nat, ∃ t12 : Nat, w8.drew.cell? (a5.add 1) = some (.slice t10 t11 t12) ∧
Calls Tryz.prog 124 #[.slice t10 t11 t12] w8.drew fun e13 w14 => ∃ t15 : Option Addr, ∃ t16 : Nat, ∃ t17 : Nat, e13 = .returned (.slice t15 t16 t17) ∧
(w14.cell? (a5.add 0) = some (.bool t9)) ∧
Calls Tryz.prog 123 #[.slice t15 t16 t17] w14 fun e18 w19 => ∃ t20 : Option Addr, ∃ t21 : Nat, ∃ t22 : Nat, e18 = .returned (.slice t20 t21 t22) ∧
(w19.cell? (a5.add 0) = some (.bool t9)) ∧
Calls Tryz.prog 147 #[.bool t9, .slice t20 t21 t22] w19 fun e23 w24 => ∃ t25 : Bool, ∃ t26 : Option Addr, ∃ t27 : Nat, ∃ t28 : Nat, e23 = .returned (.agg #[.bool t25, .slice t26 t27 t28]) ∧
stK w24 (a7.add 0) (.bool t25) fun w29 =>
stK w29 (a7.add 1) (.slice t26 t27 t28) fun w30 =>
∃ t37 : Bool, ∃ t38 : Option Addr, ∃ t39 : Nat, ∃ t40 : Nat, CellsAt w30 a7 [.bool t37, .slice t38 t39 t40] ∧
Q (.agg #[.bool t37, .slice t38 t39 t40]) w30
def V211_ann : Nat → Ann := fun _ => ⟨[], []⟩
theorem V211_eq (x1 : Bool) (x2 : Option Addr) (x3 : Nat) (x4 : Nat) (w : World) (Q : Value → World → Prop) : (match Tryz.f211.body with | some c => wpC Tryz.prog Tryz.f211.ntmps V211_ann c 0 (resQ Tryz.prog Tryz.f211.ntmps Tryz.f211.results.toList Q) (argsF [.agg #[.bool x1, .slice x2 x3 x4]]) w | none => False) = V211 x1 x2 x3 x4 w Q := by kernel_rfl
theorem V211_sound (x1 : Bool) (x2 : Option Addr) (x3 : Nat) (x4 : Nat) (w : World) (Q : Value → World → Prop) (h : V211 x1 x2 x3 x4 w Q) : Calls Tryz.prog 211 #[.agg #[.bool x1, .slice x2 x3 x4]] w fun e w' => ∃ v, e = .returned v ∧ Q v w' :=
  sound_of Tryz.func211 V211_ann rfl ((V211_eq x1 x2 x3 x4 w Q).mpr h)
def V212 (x1 : Option Addr) (x2 : Int) (x3 : Option Addr) (w : World) (Q : Value → World → Prop) : Prop :=
nilK x1 fun a4 =>
∃ t5 : Option Addr, w.drew.cell? (a4.add 6) = some (.pointer t5) ∧
Calls Tryz.prog 140 #[.pointer x1] w.drew fun e6 w7 => ∃ t8 : Int, e6 = .returned (.agg #[.int .i64 t8]) ∧
(w7.cell? (a4.add 6) = some (.pointer t5)) ∧
newK w7 #[.int .i64 t8, .pointer x3, .int .i64 x2] 120 fun a9 w10 =>
(w10.cell? (a4.add 6) = some (.pointer t5)) ∧
Calls Tryz.prog 38 #[.pointer t5, .iface 111 (.pointer (some a9))] w10 fun e11 w12 => ∃ t13 : Int, e11 = .returned (.int .i64 t13) ∧
Q (.int .i64 t13) w12
def V212_ann : Nat → Ann := fun _ => ⟨[], []⟩
theorem V212_eq (x1 : Option Addr) (x2 : Int) (x3 : Option Addr) (w : World) (Q : Value → World → Prop) : (match Tryz.f212.body with | some c => wpC Tryz.prog Tryz.f212.ntmps V212_ann c 0 (resQ Tryz.prog Tryz.f212.ntmps Tryz.f212.results.toList Q) (argsF [.pointer x1, .int .i64 x2, .pointer x3]) w | none => False) = V212 x1 x2 x3 w Q := by kernel_rfl
theorem V212_sound (x1 : Option Addr) (x2 : Int) (x3 : Option Addr) (w : World) (Q : Value → World → Prop) (h : V212 x1 x2 x3 w Q) : Calls Tryz.prog 212 #[.pointer x1, .int .i64 x2, .pointer x3] w fun e w' => ∃ v, e = .returned v ∧ Q v w' :=
  sound_of Tryz.func212 V212_ann rfl ((V212_eq x1 x2 x3 w Q).mpr h)
def V148J1 (Q : Value → World → Prop) (x17 : Option Addr) (x18 : Int) (x19 : Int) (x20 : Int) (x21 : Addr) (x22 : Bool) (w23 : World) : Prop :=
bsel x22 (
Q (.pointer none) w23) (
∃ t24 : Value, ∃ t25 : Value, CellsAt w23 x21 [t24, t25] ∧
newK w23 #[.pointer none, .pointer x17, t24, t25, .int .i64 x18, .int .i64 x19, .int .i64 x20, .int .i64 0, .int .i64 0, .int .i64 0, .int .u64 0, .int .i64 0, .int .i64 0, .bool false, .int .i64 0, .int .i64 0] 348 fun a26 w27 =>
Q (.pointer (some a26)) w27)
def V148 (x1 : Option Addr) (x2 : Int) (x3 : Int) (x4 : Int) (x5 : Int) (w : World) (Q : Value → World → Prop) : Prop :=
Calls Tryz.prog 216 #[] w fun e6 w7 => ∃ t8 : Option Nat, e6 = .returned (.map t8) ∧
∃ w9 : World, ∃ t10 : Value, ∃ t11 : Value, ∃ t12 : Bool, (Instr.lookup 344 (.map t8) (.int .i64 x2) true).run Tryz.prog w7 = .ok (.tuple #[.agg #[t10, t11], .bool t12]) w9 ∧
newK w9 #[.nilFunc, .nilFunc] 342 fun a13 w14 =>
plK t10 (
stK w14 (a13.add 0) (t10) fun w15 =>
plK t11 (
stK w15 (a13.add 1) (t11) fun w16 =>
bsel (Option.isNone x1) (
V148J1 Q x1 x3 x4 x5 a13 true w16) (
V148J1 Q x1 x3 x4 x5 a13 (!t12) w16)))
def V148_ann : Nat → Ann := fun _ => ⟨[], []⟩
theorem V148_eq (x1 : Option Addr) (x2 : Int) (x3 : Int) (x4 : Int) (x5 : Int) (w : World) (Q : Value → World → Prop) : (match Tryz.f148.body with | some c => wpC Tryz.prog Tryz.f148.ntmps V148_ann c 0 (resQ Tryz.prog Tryz.f148.ntmps Tryz.f148.results.toList Q) (argsF [.pointer x1, .int .i64 x2, .int .i64 x3, .int .i64 x4, .int .i64 x5]) w | none => False) = V148 x1 x2 x3 x4 x5 w Q := by kernel_rfl
theorem V148_sound (x1 : Option Addr) (x2 : Int) (x3 : Int) (x4 : Int) (x5 : Int) (w : World) (Q : Value → World → Prop) (h : V148 x1 x2 x3 x4 x5 w Q) : Calls Tryz.prog 148 #[.pointer x1, .int .i64 x2, .int .i64 x3, .int .i64 x4, .int .i64 x5] w fun e w' => ∃ v, e = .returned v ∧ Q v w' :=
  sound_of Tryz.func148 V148_ann rfl ((V148_eq x1 x2 x3 x4 x5 w Q).mpr h)
def V213J1 (Q : Value → World → Prop) (x87 : Addr) (w88 : World) : Prop :=
∃ t89 : Bool, ∃ t90 : Option Addr, ∃ t91 : Nat, ∃ t92 : Nat, CellsAt w88 x87 [.bool t89, .slice t90 t91 t92] ∧
Calls Tryz.prog 103 #[.agg #[.bool t89, .slice t90 t91 t92]] w88 fun e93 w94 => ∃ t95 : Int, e93 = .returned (.int .i64 t95) ∧
Q (.int .i64 t95) w94
def V213 (x1 : Option Addr) (x2 : Int) (w : World) (Q : Value → World → Prop) : Prop :=
nilK x1 fun a3 =>
∃ t4 : Option Addr, ∃ t5 : Nat, ∃ t6 : Nat, w.cell? (a3.add 1) = some (.slice t4 t5 t6) ∧
idxK t4 t5 x2 8 fun a7 =>
∃ t8 : Int, ∃ t9 : Bool, ∃ t10 : Bool, ∃ t11 : Option Addr, ∃ t12 : Nat, ∃ t13 : Nat, ∃ t14 : ByteArray, ∃ t15 : Option Addr, ∃ t16 : Nat, ∃ t17 : Nat, ∃ t18 : Bool, ∃ t19 : Bool, CellsAt w a7 [.int .i64 t8, .bool t9, .bool t10, .slice t11 t12 t13, .string t14, .slice t15 t16 t17, .bool t18, .bool t19] ∧
newK w #[.int .i64 0, .bool false, .bool false, .slice none 0 0, .string ⟨#[]⟩, .slice none 0 0, .bool false, .bool false] 42 fun a20 w21 =>
stK w21 (a20.add 0) (.int .i64 t8) fun w22 =>
stK w22 (a20.add 1) (.bool t9) fun w23 =>
stK w23 (a20.add 2) (.bool t10) fun w24 =>
stK w24 (a20.add 3) (.slice t11 t12 t13) fun w25 =>
stK w25 (a20.add 4) (.string t14) fun w26 =>
stK w26 (a20.add 5) (.slice t15 t16 t17) fun w27 =>
stK w27 (a20.add 6) (.bool t18) fun w28 =>
stK w28 (a20.add 7) (.bool t19) fun w29 =>
∃ t30 : Int, w29.cell? (a20.add 0) = some (.int .i64 t30) ∧
bsel (t30 == 1) (
Calls Tryz.prog 93 #[.int .i64 (-7)] w29 fun e31 w32 => ∃ t33 : Bool, ∃ t34 : Option Addr, ∃ t35 : Nat, ∃ t36 : Nat, e31 = .returned (.agg #[.bool t33, .slice t34 t35 t36]) ∧
Calls Tryz.prog 103 #[.agg #[.bool t33, .slice t34 t35 t36]] w32 fun e37 w38 => ∃ t39 : Int, e37 = .returned (.int .i64 t39) ∧
Q (.int .i64 t39) w38) (
bsel (t30 == 4) (
∃ t40 : ByteArray, w29.cell? (a20.add 4) = some (.string t40) ∧
Calls Tryz.prog 104 #[.string t40] w29 fun e41 w42 => ∃ t43 : Int, e41 = .returned (.int .i64 t43) ∧
Q (.int .i64 t43) w42) (
bsel (t30 == 14) (
∃ t44 : Bool, w29.cell? (a20.add 6) = some (.bool t44) ∧
bsel t44 (
∃ t45 : Bool, ∃ t46 : Option Addr, ∃ t47 : Nat, ∃ t48 : Nat, CellsAt w29 (a20.add 2) [.bool t45, .slice t46 t47 t48] ∧
Calls Tryz.prog 103 #[.agg #[.bool t45, .slice t46 t47 t48]] w29 fun e49 w50 => ∃ t51 : Int, e49 = .returned (.int .i64 t51) ∧
Q (.int .i64 t51) w50) (
nilK x1 fun a52 =>
∃ t53 : Option Addr, w29.drew.cell? (a52.add 0) = some (.pointer t53) ∧
nilK x1 fun a54 =>
∃ t55 : Option Addr, ∃ t56 : Nat, ∃ t57 : Nat, w29.drew.cell? (a54.add 2) = some (.slice t55 t56 t57) ∧
idxK t55 t56 x2 1 fun a58 =>
∃ t59 : Int, w29.drew.cell? a58 = some (.int .i64 t59) ∧
Calls Tryz.prog 15 #[.pointer t53, .int .i64 t59] w29.drew fun e60 w61 => ∃ t62 : Int, e60 = .returned (.int .i64 t62) ∧
Calls Tryz.prog 164 #[.int .i64 t62] w61 fun e63 w64 => ∃ t65 : Int, e63 = .returned (.int .i64 t65) ∧
Q (.int .i64 t65) w64)) (
nilK x1 fun a68 =>
∃ t69 : Option Addr, w29.drew.cell? (a68.add 0) = some (.pointer t69) ∧
nilK x1 fun a70 =>
∃ t71 : Option Addr, ∃ t72 : Nat, ∃ t73 : Nat, w29.drew.cell? (a70.add 2) = some (.slice t71 t72 t73) ∧
idxK t71 t72 x2 1 fun a74 =>
∃ t75 : Int, w29.drew.cell? a74 = some (.int .i64 t75) ∧
(Calls Tryz.prog 42 #[.pointer t69, .int .i64 t75] w29.drew fun e76 w77 => ∃ t78 : Bool, ∃ t79 : Option Addr, ∃ t80 : Nat, ∃ t81 : Nat, ∃ t82 : Bool, e76 = .returned (.tuple #[.agg #[.bool t78, .slice t79 t80 t81], .bool t82]) ∧
newK w77 #[.bool false, .slice none 0 0] 40 fun a83 w84 =>
stK w84 (a83.add 0) (.bool t78) fun w85 =>
stK w85 (a83.add 1) (.slice t79 t80 t81) fun w86 =>
V213J1 Q a83 w86) ∧
(newK w29.drew #[.bool false, .slice none 0 0] 40 fun a96 w97 =>
(w97.cell? a74 = some (.int .i64 t75)) ∧
(w97.cell? (a70.add 2) = some (.slice t71 t72 t73)) ∧
(w97.cell? (a68.add 0) = some (.pointer t69)) ∧
Calls Tryz.prog 42 #[.pointer t69, .int .i64 t75] w97 fun e98 w99 => ∃ t100 : Bool, ∃ t101 : Option Addr, ∃ t102 : Nat, ∃ t103 : Nat, ∃ t104 : Bool, e98 = .returned (.tuple #[.agg #[.bool t100, .slice t101 t102 t103], .bool t104]) ∧
stK w99 (a96.add 0) (.bool t100) fun w105 =>
stK w105 (a96.add 1) (.slice t101 t102 t103) fun w106 =>
V213J1 Q a96 w106))))
def V213_ann : Nat → Ann := fun _ => ⟨[], []⟩
theorem V213_eq (x1 : Option Addr) (x2 : Int) (w : World) (Q : Value → World → Prop) : (match Tryz.f213.body with | some c => wpC Tryz.prog Tryz.f213.ntmps V213_ann c 0 (resQ Tryz.prog Tryz.f213.ntmps Tryz.f213.results.toList Q) (argsF [.pointer x1, .int .i64 x2]) w | none => False) = V213 x1 x2 w Q := by kernel_rfl
theorem V213_sound (x1 : Option Addr) (x2 : Int) (w : World) (Q : Value → World → Prop) (h : V213 x1 x2 w Q) : Calls Tryz.prog 213 #[.pointer x1, .int .i64 x2] w fun e w' => ∃ v, e = .returned v ∧ Q v w' :=
  sound_of Tryz.func213 V213_ann rfl ((V213_eq x1 x2 w Q).mpr h)
def V150J1 (Q : Value → World → Prop) (x160 : Option Addr) (x161 : Addr) (w162 : World) : Prop :=
nilK x160 fun a163 =>
∃ t164 : Int, ∃ t165 : Int, ∃ t166 : Bool, ∃ t167 : Int, ∃ t168 : Int, CellsAt w162 (a163.add 11) [.int .i64 t164, .int .i64 t165, .bool t166, .int .i64 t167, .int .i64 t168] ∧
stK w162 (x161.add 0) (.int .i64 t164) fun w169 =>
stK w169 (x161.add 1) (.int .i64 t165) fun w170 =>
stK w170 (x161.add 2) (.bool t166) fun w171 =>
stK w171 (x161.add 3) (.int .i64 t167) fun w172 =>
stK w172 (x161.add 4) (.int .i64 t168) fun w173 =>
∃ t174 : Int, ∃ t175 : Int, ∃ t176 : Bool, ∃ t177 : Int, ∃ t178 : Int, CellsAt w173 x161 [.int .i64 t174, .int .i64 t175, .bool t176, .int .i64 t177, .int .i64 t178] ∧
Q (.agg #[.int .i64 t174, .int .i64 t175, .bool t176, .int .i64 t177, .int .i64 t178]) w173
def V150J2 (Q : Value → World → Prop) (x71 : Option Addr) (x72 : Addr) (w73 : World) : Prop :=
∃ (I74 : World → Prop) (μ75 : World → Nat), I74  w73 ∧ ∀ (j77 : Fr)  (w76 : World), I74  w76 →
nilK x71 fun a78 =>
∃ t79 : Option Addr, w76.cell? (a78.add 0) = some (.pointer t79) ∧
Calls Tryz.prog 220 #[.pointer t79] w76 fun e80 w81 => ∃ t82 : Int, ∃ t83 : Bool, e80 = .returned (.tuple #[.int .i64 t82, .bool t83]) ∧
bsel (!t83) (
nilK x71 fun a84 =>
∃ t85 : Value, w81.cell? ((a84.add 2).add 1) = some (t85) ∧
CallV Tryz.prog t85 #[.pointer x71] w81 fun e86 w87 => ∃ t88 : Int, ∃ t89 : Int, ∃ t90 : Bool, ∃ t91 : Int, ∃ t92 : Int, e86 = .returned (.agg #[.int .i64 t88, .int .i64 t89, .bool t90, .int .i64 t91, .int .i64 t92]) ∧
Calls Tryz.prog 221 #[.pointer x71, .agg #[.int .i64 t88, .int .i64 t89, .bool t90, .int .i64 t91, .int .i64 t92]] w87 fun e93 w94 => ∃ t95 : Int, ∃ t96 : Int, ∃ t97 : Bool, ∃ t98 : Int, ∃ t99 : Int, e93 = .returned (.agg #[.int .i64 t95, .int .i64 t96, .bool t97, .int .i64 t98, .int .i64 t99]) ∧
stK w94 (x72.add 0) (.int .i64 t95) fun w100 =>
stK w100 (x72.add 1) (.int .i64 t96) fun w101 =>
stK w101 (x72.add 2) (.bool t97) fun w102 =>
stK w102 (x72.add 3) (.int .i64 t98) fun w103 =>
stK w103 (x72.add 4) (.int .i64 t99) fun w104 =>
∃ t105 : Int, ∃ t106 : Int, ∃ t107 : Bool, ∃ t108 : Int, ∃ t109 : Int, CellsAt w104 x72 [.int .i64 t105, .int .i64 t106, .bool t107, .int .i64 t108, .int .i64 t109] ∧
Q (.agg #[.int .i64 t105, .int .i64 t106, .bool t107, .int .i64 t108, .int .i64 t109]) w104) (
nilK x71 fun a110 =>
∃ t111 : Option Addr, w81.cell? (a110.add 1) = some (.pointer t111) ∧
nilK t111 fun a112 =>
∃ t113 : Option Addr, w81.cell? (a112.add 0) = some (.pointer t113) ∧
Calls Tryz.prog 222 #[.pointer t113, .int .i64 t82] w81 fun e114 w115 => ∃ t116 : Bool, ∃ t117 : Int, ∃ t118 : Int, ∃ t119 : Int, ∃ t120 : Int, ∃ t121 : Int, e114 = .returned (.tuple #[.agg #[.bool t116, .int .i64 t117, .int .i64 t118, .int .i64 t119, .int .i64 t120], .int .i64 t121]) ∧
newK w115 #[.bool false, .int .i64 0, .int .i64 0, .int .i64 0, .int .i64 0] 295 fun a122 w123 =>
stK w123 (a122.add 0) (.bool t116) fun w124 =>
stK w124 (a122.add 1) (.int .i64 t117) fun w125 =>
stK w125 (a122.add 2) (.int .i64 t118) fun w126 =>
stK w126 (a122.add 3) (.int .i64 t119) fun w127 =>
stK w127 (a122.add 4) (.int .i64 t120) fun w128 =>
∃ t129 : Int, w128.drew.cell? (a122.add 2) = some (.int .i64 t129) ∧
nilK x71 fun a130 =>
∃ t131 : Int, w128.drew.cell? (a130.add 5) = some (.int .i64 t131) ∧
bsel (t129 == t131) (
Calls Tryz.prog 219 #[.pointer x71, .int .i64 t82] w128.drew fun e132 w133 => ∃ t134 : Int, ∃ t135 : Int, ∃ t136 : Bool, ∃ t137 : Int, ∃ t138 : Int, e132 = .returned (.agg #[.int .i64 t134, .int .i64 t135, .bool t136, .int .i64 t137, .int .i64 t138]) ∧
stK w133 (x72.add 0) (.int .i64 t134) fun w139 =>
stK w139 (x72.add 1) (.int .i64 t135) fun w140 =>
stK w140 (x72.add 2) (.bool t136) fun w141 =>
stK w141 (x72.add 3) (.int .i64 t137) fun w142 =>
stK w142 (x72.add 4) (.int .i64 t138) fun w143 =>
∃ t144 : Int, ∃ t145 : Int, ∃ t146 : Bool, ∃ t147 : Int, ∃ t148 : Int, CellsAt w143 x72 [.int .i64 t144, .int .i64 t145, .bool t146, .int .i64 t147, .int .i64 t148] ∧
Q (.agg #[.int .i64 t144, .int .i64 t145, .bool t146, .int .i64 t147, .int .i64 t148]) w143) (
∃ t149 : Int, w128.drew.drew.cell? (a122.add 2) = some (.int .i64 t149) ∧
nilK x71 fun a150 =>
stK w128.drew.drew (a150.add 7) (.int .i64 2) fun w151 =>
(w151.cell? (a122.add 2) = some (.int .i64 t149)) ∧
nilK x71 fun a152 =>
stK w151 (a152.add 8) (.int .i64 t82) fun w153 =>
(w153.cell? (a122.add 2) = some (.int .i64 t149)) ∧
nilK x71 fun a154 =>
stK w153 ((a154.add 11).add 0) (.int .i64 1) fun w155 =>
stK w155 ((a154.add 11).add 1) (.int .i64 t149) fun w156 =>
stK w156 ((a154.add 11).add 2) (.bool false) fun w157 =>
stK w157 ((a154.add 11).add 3) (.int .i64 0) fun w158 =>
stK w158 ((a154.add 11).add 4) (.int .i64 0) fun w159 =>
V150J1 Q x71 x72 w159))
def V150J3 (Q : Value → World → Prop) (x58 : Option Addr) (x59 : Addr) (w60 : World) : Prop :=
nilK x58 fun a61 =>
∃ t62 : Option Addr, w60.cell? (a61.add 1) = some (.pointer t62) ∧
nilK t62 fun a63 =>
∃ t64 : Int, w60.cell? (a63.add 2) = some (.int .u64 t64) ∧
nilK x58 fun a65 =>
stK w60 (a65.add 10) (.int .u64 t64) fun w66 =>
nilK x58 fun a67 =>
∃ t68 : Int, w66.cell? (a67.add 9) = some (.int .i64 t68) ∧
nilK x58 fun a69 =>
stK w66 (a69.add 9) (.int .i64 (IntKind.wrap .i64 (t68 + 1))) fun w70 =>
V150J2 Q x58 x59 w70
def V150J4 (Q : Value → World → Prop) (x42 : Option Addr) (x43 : Addr) (x44 : Bool) (w45 : World) : Prop :=
bsel x44 (
nilK x42 fun a46 =>
∃ t47 : Option Addr, w45.drew.cell? (a46.add 1) = some (.pointer t47) ∧
nilK x42 fun a48 =>
∃ t49 : Int, w45.drew.cell? (a48.add 4) = some (.int .i64 t49) ∧
Calls Tryz.prog 217 #[.pointer t47] w45.drew fun e50 w51 => ∃ t52 : Option Addr, e50 = .returned (.pointer t52) ∧
(w51.cell? (a48.add 4) = some (.int .i64 t49)) ∧
Calls Tryz.prog 218 #[.pointer t52, .int .i64 t49] w51 fun e53 w54 => ∃ t55 : Option Addr, e53 = .returned (.pointer t55) ∧
nilK x42 fun a56 =>
stK w54 (a56.add 0) (.pointer t55) fun w57 =>
V150J3 Q x42 x43 w57) (
nilK x42 fun a179 =>
∃ t180 : Int, w45.cell? (a179.add 7) = some (.int .i64 t180) ∧
bsel (t180 == 3) (
nilK x42 fun a181 =>
∃ t182 : Int, w45.cell? (a181.add 8) = some (.int .i64 t182) ∧
Calls Tryz.prog 219 #[.pointer x42, .int .i64 t182] w45 fun e183 w184 => ∃ t185 : Int, ∃ t186 : Int, ∃ t187 : Bool, ∃ t188 : Int, ∃ t189 : Int, e183 = .returned (.agg #[.int .i64 t185, .int .i64 t186, .bool t187, .int .i64 t188, .int .i64 t189]) ∧
stK w184 (x43.add 0) (.int .i64 t185) fun w190 =>
stK w190 (x43.add 1) (.int .i64 t186) fun w191 =>
stK w191 (x43.add 2) (.bool t187) fun w192 =>
stK w192 (x43.add 3) (.int .i64 t188) fun w193 =>
stK w193 (x43.add 4) (.int .i64 t189) fun w194 =>
∃ t195 : Int, ∃ t196 : Int, ∃ t197 : Bool, ∃ t198 : Int, ∃ t199 : Int, CellsAt w194 x43 [.int .i64 t195, .int .i64 t196, .bool t197, .int .i64 t198, .int .i64 t199] ∧
Q (.agg #[.int .i64 t195, .int .i64 t196, .bool t197, .int .i64 t198, .int .i64 t199]) w194) (
V150J2 Q x42 x43 w45))
def V150J5 (Q : Value → World → Prop) (x20 : Option Addr) (x21 : Addr) (x22 : Bool) (w23 : World) : Prop :=
bsel x22 (
nilK x20 fun a24 =>
∃ t25 : Int, ∃ t26 : Int, ∃ t27 : Bool, ∃ t28 : Int, ∃ t29 : Int, CellsAt w23 (a24.add 11) [.int .i64 t25, .int .i64 t26, .bool t27, .int .i64 t28, .int .i64 t29] ∧
stK w23 (x21.add 0) (.int .i64 t25) fun w30 =>
stK w30 (x21.add 1) (.int .i64 t26) fun w31 =>
stK w31 (x21.add 2) (.bool t27) fun w32 =>
stK w32 (x21.add 3) (.int .i64 t28) fun w33 =>
stK w33 (x21.add 4) (.int .i64 t29) fun w34 =>
∃ t35 : Int, ∃ t36 : Int, ∃ t37 : Bool, ∃ t38 : Int, ∃ t39 : Int, CellsAt w34 x21 [.int .i64 t35, .int .i64 t36, .bool t37, .int .i64 t38, .int .i64 t39] ∧
Q (.agg #[.int .i64 t35, .int .i64 t36, .bool t37, .int .i64 t38, .int .i64 t39]) w34) (
nilK x20 fun a40 =>
∃ t41 : Int, w23.drew.cell? (a40.add 7) = some (.int .i64 t41) ∧
bsel (t41 == 0) (
V150J4 Q x20 x21 true w23.drew) (
nilK x20 fun a200 =>
∃ t201 : Int, w23.drew.cell? (a200.add 10) = some (.int .u64 t201) ∧
nilK x20 fun a202 =>
∃ t203 : Option Addr, w23.drew.cell? (a202.add 1) = some (.pointer t203) ∧
nilK t203 fun a204 =>
∃ t205 : Int, w23.drew.cell? (a204.add 2) = some (.int .u64 t205) ∧
V150J4 Q x20 x21 (t201 != t205) w23.drew))
def V150J6 (Q : Value → World → Prop) (x4 : Option Addr) (x5 : Addr) (x6 : Bool) (w7 : World) : Prop :=
bsel x6 (
stK w7 (x5.add 0) (.int .i64 0) fun w8 =>
stK w8 (x5.add 1) (.int .i64 0) fun w9 =>
stK w9 (x5.add 2) (.bool false) fun w10 =>
stK w10 (x5.add 3) (.int .i64 0) fun w11 =>
stK w11 (x5.add 4) (.int .i64 0) fun w12 =>
∃ t13 : Int, ∃ t14 : Int, ∃ t15 : Bool, ∃ t16 : Int, ∃ t17 : Int, CellsAt w12 x5 [.int .i64 t13, .int .i64 t14, .bool t15, .int .i64 t16, .int .i64 t17] ∧
Q (.agg #[.int .i64 t13, .int .i64 t14, .bool t15, .int .i64 t16, .int .i64 t17]) w12) (
nilK x4 fun a18 =>
∃ t19 : Int, w7.cell? (a18.add 7) = some (.int .i64 t19) ∧
bsel (t19 == 4) (
V150J5 Q x4 x5 true w7) (
nilK x4 fun a206 =>
∃ t207 : Int, w7.cell? (a206.add 7) = some (.int .i64 t207) ∧
V150J5 Q x4 x5 (t207 == 2) w7))
def V150 (x1 : Option Addr) (w : World) (Q : Value → World → Prop) : Prop :=
newK w #[.int .i64 0, .int .i64 0, .bool false, .int .i64 0, .int .i64 0] 272 fun a2 w3 =>
bsel (Option.isNone x1) (
V150J6 Q x1 a2 true w3) (
nilK x1 fun a208 =>
∃ t209 : Option Addr, w3.cell? (a208.add 1) = some (.pointer t209) ∧
V150J6 Q x1 a2 (Option.isNone t209) w3)
def V150_ann : Nat → Ann := fun k => match k with | 0 => ⟨[0, 2], []⟩ | _ => ⟨[], []⟩
theorem V150_eq (x1 : Option Addr) (w : World) (Q : Value → World → Prop) : (match Tryz.f150.body with | some c => wpC Tryz.prog Tryz.f150.ntmps V150_ann c 0 (resQ Tryz.prog Tryz.f150.ntmps Tryz.f150.results.toList Q) (argsF [.pointer x1]) w | none => False) = V150 x1 w Q := by kernel_rfl
theorem V150_sound (x1 : Option Addr) (w : World) (Q : Value → World → Prop) (h : V150 x1 w Q) : Calls Tryz.prog 150 #[.pointer x1] w fun e w' => ∃ v, e = .returned v ∧ Q v w' :=
  sound_of Tryz.func150 V150_ann rfl ((V150_eq x1 w Q).mpr h)
def V152 (x1 : Option Addr) (x2 : Bool) (w : World) (Q : Value → World → Prop) : Prop :=
bsel (Option.isNone x1) (
Q (.int .i64 1) w) (
nilK x1 fun a3 =>
∃ t4 : Int, w.cell? (a3.add 7) = some (.int .i64 t4) ∧
bsel (t4 != 2) (
Q (.int .i64 8) w) (
bsel x2 (
nilK x1 fun a5 =>
stK w (a5.add 7) (.int .i64 3) fun w6 =>
Q (.int .i64 0) w6) (
nilK x1 fun a8 =>
stK w (a8.add 7) (.int .i64 1) fun w9 =>
Q (.int .i64 0) w9)))
def V152_ann : Nat → Ann := fun _ => ⟨[], []⟩
theorem V152_eq (x1 : Option Addr) (x2 : Bool) (w : World) (Q : Value → World → Prop) : (match Tryz.f152.body with | some c => wpC Tryz.prog Tryz.f152.ntmps V152_ann c 0 (resQ Tryz.prog Tryz.f152.ntmps Tryz.f152.results.toList Q) (argsF [.pointer x1, .bool x2]) w | none => False) = V152 x1 x2 w Q := by kernel_rfl
theorem V152_sound (x1 : Option Addr) (x2 : Bool) (w : World) (Q : Value → World → Prop) (h : V152 x1 x2 w Q) : Calls Tryz.prog 152 #[.pointer x1, .bool x2] w fun e w' => ∃ v, e = .returned v ∧ Q v w' :=
  sound_of Tryz.func152 V152_ann rfl ((V152_eq x1 x2 w Q).mpr h)
def V215 (x1 : Option Addr) (w : World) (Q : Value → World → Prop) : Prop :=
nilK x1 fun a2 =>
∃ t3 : Option Addr, w.cell? (a2.add 3) = some (.pointer t3) ∧
bsel (Option.isNone t3) (
Calls Tryz.prog 214 #[.pointer none] w fun e4 w5 => ∃ t6 : Option Addr, e4 = .returned (.pointer t6) ∧
∃ w7 : World, ∃ t8 : Option Nat, (Instr.makeMap 259 none).run Tryz.prog w5 = .ok (.map t8) w7 ∧
nilK x1 fun a9 =>
stK w7 (a9.add 3) (.pointer t6) fun w10 =>
nilK x1 fun a11 =>
stK w10 (a11.add 5) (.map t8) fun w12 =>
Q (.pointer x1) w12) (
Q (.pointer x1) w)
def V215_ann : Nat → Ann := fun _ => ⟨[], []⟩
theorem V215_eq (x1 : Option Addr) (w : World) (Q : Value → World → Prop) : (match Tryz.f215.body with | some c => wpC Tryz.prog Tryz.f215.ntmps V215_ann c 0 (resQ Tryz.prog Tryz.f215.ntmps Tryz.f215.results.toList Q) (argsF [.pointer x1]) w | none => False) = V215 x1 w Q := by kernel_rfl
theorem V215_sound (x1 : Option Addr) (w : World) (Q : Value → World → Prop) (h : V215 x1 w Q) : Calls Tryz.prog 215 #[.pointer x1] w fun e w' => ∃ v, e = .returned v ∧ Q v w' :=
  sound_of Tryz.func215 V215_ann rfl ((V215_eq x1 w Q).mpr h)
end Go.Fw


set_option autoImplicit false
set_option linter.unusedVariables false
set_option maxRecDepth 100000
namespace Go.Fw
open Go.Proofs
def V9J1 (Q : Value → World → Prop) (I4 : Int → Int → World → Prop) (μ5 : Int → Int → World → Nat) (i6 : Int) (i7 : Int) (w8 : World) (x10 : Option Addr) (x11 : Nat) (x12 : Nat) (x13 : Int) (x14 : Int) (x15 : Bool) (w16 : World) : Prop :=
bsel x15 (
idxK x10 x11 x14 8 fun a17 =>
∃ t18 : Option Addr, ∃ t19 : Nat, ∃ t20 : Nat, w16.drew.cell? (a17.add 5) = some (.slice t18 t19 t20) ∧
idxK x10 x11 x14 8 fun a21 =>
∃ t22 : ByteArray, w16.drew.cell? (a21.add 4) = some (.string t22) ∧
idxK x10 x11 x14 8 fun a23 =>
∃ t24 : Option Addr, ∃ t25 : Nat, ∃ t26 : Nat, w16.drew.cell? ((a23.add 2).add 1) = some (.slice t24 t25 t26) ∧
(I4 (IntKind.wrap .i64 (IntKind.wrap .i64 (IntKind.wrap .i64 (x13 + (t19 : Int)) + (t22.size : Int)) + (t25 : Int))) (IntKind.wrap .i64 (x14 + 1)) w16.drew ∧ μ5 (IntKind.wrap .i64 (IntKind.wrap .i64 (IntKind.wrap .i64 (x13 + (t19 : Int)) + (t22.size : Int)) + (t25 : Int))) (IntKind.wrap .i64 (x14 + 1)) w16.drew < μ5 i6 i7 w8)) (
Q (.bool (decide (x13 > 3000))) w16)
def V9 (x1 : Option Addr) (x2 : Nat) (x3 : Nat) (w : World) (Q : Value → World → Prop) : Prop :=
bsel (decide ((x2 : Int) > 120)) (
Q (.bool true) w) (
∃ (I4 : Int → Int → World → Prop) (μ5 : Int → Int → World → Nat), I4 0 0 w ∧ ∀ (j9 : Fr) (i6 : Int) (i7 : Int) (w8 : World), I4 i6 i7 w8 →
bsel (decide (i7 < (x2 : Int))) (
V9J1 Q I4 μ5 i6 i7 w8 x1 x2 x3 i6 i7 (decide (i6 ≤ 3000)) w8) (
V9J1 Q I4 μ5 i6 i7 w8 x1 x2 x3 i6 i7 false w8))
def V9_ann : Nat → Ann := fun k => match k with | 0 => ⟨[0], [(3, .int .i64), (4, .int .i64)]⟩ | _ => ⟨[], []⟩
theorem V9_eq (x1 : Option Addr) (x2 : Nat) (x3 : Nat) (w : World) (Q : Value → World → Prop) : (match Tryz.f9.body with | some c => wpC Tryz.prog Tryz.f9.ntmps V9_ann c 0 (resQ Tryz.prog Tryz.f9.ntmps Tryz.f9.results.toList Q) (argsF [.slice x1 x2 x3]) w | none => False) = V9 x1 x2 x3 w Q := by kernel_rfl
theorem V9_sound (x1 : Option Addr) (x2 : Nat) (x3 : Nat) (w : World) (Q : Value → World → Prop) (h : V9 x1 x2 x3 w Q) : Calls Tryz.prog 9 #[.slice x1 x2 x3] w fun e w' => ∃ v, e = .returned v ∧ Q v w' :=
  sound_of Tryz.func9 V9_ann rfl ((V9_eq x1 x2 x3 w Q).mpr h)
def V10J1 (Q : Value → World → Prop) (x29 : Option Addr) (x30 : Option Addr) (x31 : Nat) (x32 : Nat) (x33 : Bool) (w34 : World) : Prop :=
bsel x33 (
Q (.bool false) w34) (
idxK x30 x31 1 1 fun a35 =>
∃ t36 : Int, w34.cell? a35 = some (.int .i64 t36) ∧
Calls Tryz.prog 33 #[.pointer x29, .int .i64 t36] w34 fun e37 w38 => ∃ t39 : Int, ∃ t40 : Int, e37 = .returned (.tuple #[.int .i64 t39, .int .i64 t40]) ∧
bsel (t40 == 0) (
bsel (t39 == 2) (
idxK x30 x31 0 1 fun a41 =>
∃ t42 : Int, w38.cell? a41 = some (.int .i64 t42) ∧
Calls Tryz.prog 34 #[.pointer x29, .int .i64 t42] w38 fun e43 w44 => ∃ t45 : ByteArray, e43 = .returned (.string t45) ∧
bsel (t45.toList == (⟨#[39, 97, 39]⟩ : ByteArray).toList) (
idxK x30 x31 1 1 fun a46 =>
∃ t47 : Int, w44.cell? a46 = some (.int .i64 t47) ∧
Calls Tryz.prog 34 #[.pointer x29, .int .i64 t47] w44 fun e48 w49 => ∃ t50 : ByteArray, e48 = .returned (.string t50) ∧
bsel (t50.toList == (⟨#[35, 49]⟩ : ByteArray).toList) (
idxK x30 x31 0 1 fun a51 =>
∃ t52 : Int, w49.cell? a51 = some (.int .i64 t52) ∧
Calls Tryz.prog 35 #[.pointer x29, .int .i64 t52] w49 fun e53 w54 => ∃ t55 : Bool, e53 = .returned (.bool t55) ∧
Q (.bool t55) w54) (
Q (.bool false) w49)) (
Q (.bool false) w44)) (
Q (.bool false) w38)) (
Q (.bool false) w38))
def V10J2 (Q : Value → World → Prop) (x16 : Option Addr) (x17 : Bool) (w18 : World) : Prop :=
bsel x17 (
Q (.bool false) w18) (
newK w18 #[.int .i64 0, .int .i64 0] 3 fun a19 w20 =>
newK w20 #[.int .i64 4, .bool false, .bool false, .slice none 0 0, .string (⟨#[97]⟩ : ByteArray), .slice none 0 0, .bool false, .bool false, .int .i64 5, .bool false, .bool false, .slice none 0 0, .string ⟨#[]⟩, .slice (some a19) 2 2, .bool false, .bool false] 42 fun a21 w22 =>
Calls Tryz.prog 13 #[.pointer x16, .slice (some a21) 2 2] w22 fun e23 w24 => ∃ t25 : Option Addr, ∃ t26 : Nat, ∃ t27 : Nat, ∃ t28 : Int, e23 = .returned (.tuple #[.slice t25 t26 t27, .int .i64 t28]) ∧
bsel (t28 != 0) (
V10J1 Q x16 t25 t26 t27 true w24) (
V10J1 Q x16 t25 t26 t27 ((t26 : Int) != 2) w24))
def V10  (w : World) (Q : Value → World → Prop) : Prop :=
Calls Tryz.prog 12 #[.int .i64 10, .int .i64 3] w fun e1 w2 => ∃ t3 : Int, ∃ t4 : Int, ∃ t5 : Int, ∃ t6 : Option Addr, ∃ t7 : Nat, ∃ t8 : Nat, ∃ t9 : Option Addr, ∃ t10 : Nat, ∃ t11 : Nat, e1 = .returned (.agg #[.int .i64 t3, .int .i64 t4, .int .i64 t5, .slice t6 t7 t8, .slice t9 t10 t11]) ∧
Calls Tryz.prog 11 #[.agg #[.int .i64 t3, .int .i64 t4, .int .i64 t5, .slice t6 t7 t8, .slice t9 t10 t11], .pointer none] w2 fun e12 w13 => ∃ t14 : Option Addr, ∃ t15 : Int, e12 = .returned (.tuple #[.pointer t14, .int .i64 t15]) ∧
bsel (t15 != 0) (
V10J2 Q t14 true w13) (
V10J2 Q t14 (Option.isNone t14) w13)
def V10_ann : Nat → Ann := fun _ => ⟨[], []⟩
theorem V10_eq  (w : World) (Q : Value → World → Prop) : (match Tryz.f10.body with | some c => wpC Tryz.prog Tryz.f10.ntmps V10_ann c 0 (resQ Tryz.prog Tryz.f10.ntmps Tryz.f10.results.toList Q) (argsF []) w | none => False) = V10  w Q := by kernel_rfl
theorem V10_sound  (w : World) (Q : Value → World → Prop) (h : V10  w Q) : Calls Tryz.prog 10 #[] w fun e w' => ∃ v, e = .returned v ∧ Q v w' :=
  sound_of Tryz.func10 V10_ann rfl ((V10_eq  w Q).mpr h)
def V11J1 (Q : Value → World → Prop) (x38 : Addr) (w39 : World) : Prop :=
newK w39 #[.iface 85 (.agg #[]), .iface 87 (.agg #[.bool false]), .iface 87 (.agg #[.bool true])] 77 fun a40 w41 =>
∃ (I42 : Int → World → Prop) (μ43 : Int → World → Nat), I42 0 w41 ∧ ∀ (j46 : Fr) (i44 : Int) (w45 : World), I42 i44 w45 →
bsel (decide (i44 < (3 : Int))) (
idxK (some a40) 3 i44 1 fun a47 =>
∃ t48 : Value, w45.cell? a47 = some (t48) ∧
∃ t49 : Option Addr, w45.cell? (x38.add 6) = some (.pointer t49) ∧
Calls Tryz.prog 38 #[.pointer t49, t48] w45 fun e50 w51 => ∃ t52 : Int, e50 = .returned (.int .i64 t52) ∧
(I42 (IntKind.wrap .i64 (i44 + 1)) w51 ∧ μ43 (IntKind.wrap .i64 (i44 + 1)) w51 < μ43 i44 w45)) (
Q (.tuple #[.pointer (some x38), .int .i64 0]) w45)
def V11J2 (Q : Value → World → Prop) (x14 : Option Addr) (x15 : Addr) (x16 : Bool) (w17 : World) : Prop :=
bsel x16 (
Q (.tuple #[.pointer none, .int .i64 1]) w17) (
∃ t18 : Int, ∃ t19 : Int, ∃ t20 : Int, ∃ t21 : Option Addr, ∃ t22 : Nat, ∃ t23 : Nat, ∃ t24 : Option Addr, ∃ t25 : Nat, ∃ t26 : Nat, CellsAt w17.drew x15 [.int .i64 t18, .int .i64 t19, .int .i64 t20, .slice t21 t22 t23, .slice t24 t25 t26] ∧
∃ t27 : Option Addr, ∃ t28 : Nat, ∃ t29 : Nat, w17.drew.cell? (x15.add 4) = some (.slice t27 t28 t29) ∧
Calls Tryz.prog 36 #[] w17.drew fun e30 w31 => ∃ t32 : Option Addr, e30 = .returned (.pointer t32) ∧
(w31.cell? (x15.add 4) = some (.slice t27 t28 t29)) ∧
(CellsAt w31 x15 [.int .i64 t18, .int .i64 t19, .int .i64 t20, .slice t21 t22 t23, .slice t24 t25 t26]) ∧
Calls Tryz.prog 37 #[.slice t27 t28 t29] w31 fun e33 w34 => ∃ t35 : Option Addr, e33 = .returned (.pointer t35) ∧
(CellsAt w34 x15 [.int .i64 t18, .int .i64 t19, .int .i64 t20, .slice t21 t22 t23, .slice t24 t25 t26]) ∧
newK w34 #[.int .i64 t18, .int .i64 t19, .int .i64 t20, .slice t21 t22 t23, .slice t24 t25 t26, .pointer x14, .pointer t32, .int .i64 0, .int .i64 0, .int .i64 0, .pointer t35, .bool false] 81 fun a36 w37 =>
V11J1 Q a36 w37)
def V11 (x1 : Int) (x2 : Int) (x3 : Int) (x4 : Option Addr) (x5 : Nat) (x6 : Nat) (x7 : Option Addr) (x8 : Nat) (x9 : Nat) (x10 : Option Addr) (w : World) (Q : Value → World → Prop) : Prop :=
newK w #[.int .i64 x1, .int .i64 x2, .int .i64 x3, .slice x4 x5 x6, .slice x7 x8 x9] 32 fun a11 w12 =>
∃ t13 : Int, w12.cell? (a11.add 0) = some (.int .i64 t13) ∧
bsel (decide (t13 < 0)) (
V11J2 Q x10 a11 true w12) (
∃ t53 : Int, w12.cell? (a11.add 0) = some (.int .i64 t53) ∧
bsel (decide (t53 > 100000)) (
V11J2 Q x10 a11 true w12) (
∃ t54 : Int, w12.cell? (a11.add 1) = some (.int .i64 t54) ∧
bsel (decide (t54 < 0)) (
V11J2 Q x10 a11 true w12) (
∃ t55 : Int, w12.cell? (a11.add 1) = some (.int .i64 t55) ∧
bsel (decide (t55 > 65536)) (
V11J2 Q x10 a11 true w12) (
∃ t56 : Int, w12.cell? (a11.add 2) = some (.int .i64 t56) ∧
bsel (decide (t56 < 0)) (
V11J2 Q x10 a11 true w12) (
∃ t57 : Int, w12.cell? (a11.add 2) = some (.int .i64 t57) ∧
V11J2 Q x10 a11 (decide (t57 > 256)) w12)))))
def V11_ann : Nat → Ann := fun k => match k with | 0 => ⟨[6, 51, 52], [(53, .int .i64)]⟩ | _ => ⟨[], []⟩
theorem V11_eq (x1 : Int) (x2 : Int) (x3 : Int) (x4 : Option Addr) (x5 : Nat) (x6 : Nat) (x7 : Option Addr) (x8 : Nat) (x9 : Nat) (x10 : Option Addr) (w : World) (Q : Value → World → Prop) : (match Tryz.f11.body with | some c => wpC Tryz.prog Tryz.f11.ntmps V11_ann c 0 (resQ Tryz.prog Tryz.f11.ntmps Tryz.f11.results.toList Q) (argsF [.agg #[.int .i64 x1, .int .i64 x2, .int .i64 x3, .slice x4 x5 x6, .slice x7 x8 x9], .pointer x10]) w | none => False) = V11 x1 x2 x3 x4 x5 x6 x7 x8 x9 x10 w Q := by kernel_rfl
theorem V11_sound (x1 : Int) (x2 : Int) (x3 : Int) (x4 : Option Addr) (x5 : Nat) (x6 : Nat) (x7 : Option Addr) (x8 : Nat) (x9 : Nat) (x10 : Option Addr) (w : World) (Q : Value → World → Prop) (h : V11 x1 x2 x3 x4 x5 x6 x7 x8 x9 x10 w Q) : Calls Tryz.prog 11 #[.agg #[.int .i64 x1, .int .i64 x2, .int .i64 x3, .slice x4 x5 x6, .slice x7 x8 x9], .pointer x10] w fun e w' => ∃ v, e = .returned v ∧ Q v w' :=
  sound_of Tryz.func11 V11_ann rfl ((V11_eq x1 x2 x3 x4 x5 x6 x7 x8 x9 x10 w Q).mpr h)
def V12 (x1 : Int) (x2 : Int) (w : World) (Q : Value → World → Prop) : Prop :=
newK w #[.int .i64 0, .int .i64 0, .int .i64 0, .slice none 0 0, .slice none 0 0] 32 fun a3 w4 =>
stK w4 (a3.add 0) (.int .i64 0) fun w5 =>
stK w5 (a3.add 1) (.int .i64 x1) fun w6 =>
stK w6 (a3.add 2) (.int .i64 x2) fun w7 =>
stK w7 (a3.add 3) (.slice none 0 0) fun w8 =>
stK w8 (a3.add 4) (.slice none 0 0) fun w9 =>
∃ t10 : Int, ∃ t11 : Int, ∃ t12 : Int, ∃ t13 : Option Addr, ∃ t14 : Nat, ∃ t15 : Nat, ∃ t16 : Option Addr, ∃ t17 : Nat, ∃ t18 : Nat, CellsAt w9 a3 [.int .i64 t10, .int .i64 t11, .int .i64 t12, .slice t13 t14 t15, .slice t16 t17 t18] ∧
Q (.agg #[.int .i64 t10, .int .i64 t11, .int .i64 t12, .slice t13 t14 t15, .slice t16 t17 t18]) w9
def V12_ann : Nat → Ann := fun _ => ⟨[], []⟩
theorem V12_eq (x1 : Int) (x2 : Int) (w : World) (Q : Value → World → Prop) : (match Tryz.f12.body with | some c => wpC Tryz.prog Tryz.f12.ntmps V12_ann c 0 (resQ Tryz.prog Tryz.f12.ntmps Tryz.f12.results.toList Q) (argsF [.int .i64 x1, .int .i64 x2]) w | none => False) = V12 x1 x2 w Q := by kernel_rfl
theorem V12_sound (x1 : Int) (x2 : Int) (w : World) (Q : Value → World → Prop) (h : V12 x1 x2 w Q) : Calls Tryz.prog 12 #[.int .i64 x1, .int .i64 x2] w fun e w' => ∃ v, e = .returned v ∧ Q v w' :=
  sound_of Tryz.func12 V12_ann rfl ((V12_eq x1 x2 w Q).mpr h)
def V13 (x1 : Option Addr) (x2 : Option Addr) (x3 : Nat) (x4 : Nat) (w : World) (Q : Value → World → Prop) : Prop :=
bsel (Option.isNone x1) (
Q (.tuple #[.slice none 0 0, .int .i64 1]) w) (
newK w #[.pointer x1, .slice x2 x3 x4, .slice none 0 0] 92 fun a5 w6 =>
∃ (I7 : Int → World → Prop) (μ8 : Int → World → Nat), I7 0 w6 ∧ ∀ (j11 : Fr) (i9 : Int) (w10 : World), I7 i9 w10 →
bsel (decide (i9 < (x3 : Int))) (
Calls Tryz.prog 39 #[.pointer (some a5), .int .i64 i9] w10 fun e12 w13 => ∃ t14 : Int, e12 = .returned (.int .i64 t14) ∧
bsel (t14 != 0) (
Q (.tuple #[.slice none 0 0, .int .i64 t14]) w13) (
(I7 (IntKind.wrap .i64 (i9 + 1)) w13 ∧ μ8 (IntKind.wrap .i64 (i9 + 1)) w13 < μ8 i9 w10))) (
∃ (I15 : Int → World → Prop) (μ16 : Int → World → Nat), I15 0 w10 ∧ ∀ (j19 : Fr) (i17 : Int) (w18 : World), I15 i17 w18 →
bsel (decide (i17 < (x3 : Int))) (
idxK x2 x3 i17 8 fun a20 =>
∃ t21 : Int, ∃ t22 : Bool, ∃ t23 : Bool, ∃ t24 : Option Addr, ∃ t25 : Nat, ∃ t26 : Nat, ∃ t27 : ByteArray, ∃ t28 : Option Addr, ∃ t29 : Nat, ∃ t30 : Nat, ∃ t31 : Bool, ∃ t32 : Bool, CellsAt w18 a20 [.int .i64 t21, .bool t22, .bool t23, .slice t24 t25 t26, .string t27, .slice t28 t29 t30, .bool t31, .bool t32] ∧
newK w18 #[.int .i64 0, .bool false, .bool false, .slice none 0 0, .string ⟨#[]⟩, .slice none 0 0, .bool false, .bool false] 42 fun a33 w34 =>
stK w34 (a33.add 0) (.int .i64 t21) fun w35 =>
stK w35 (a33.add 1) (.bool t22) fun w36 =>
stK w36 (a33.add 2) (.bool t23) fun w37 =>
stK w37 (a33.add 3) (.slice t24 t25 t26) fun w38 =>
stK w38 (a33.add 4) (.string t27) fun w39 =>
stK w39 (a33.add 5) (.slice t28 t29 t30) fun w40 =>
stK w40 (a33.add 6) (.bool t31) fun w41 =>
stK w41 (a33.add 7) (.bool t32) fun w42 =>
∃ t43 : Option Addr, ∃ t44 : Nat, ∃ t45 : Nat, w42.drew.cell? (a5.add 2) = some (.slice t43 t44 t45) ∧
∃ t46 : Int, ∃ t47 : Bool, ∃ t48 : Bool, ∃ t49 : Option Addr, ∃ t50 : Nat, ∃ t51 : Nat, ∃ t52 : ByteArray, ∃ t53 : Option Addr, ∃ t54 : Nat, ∃ t55 : Nat, ∃ t56 : Bool, ∃ t57 : Bool, CellsAt w42.drew a33 [.int .i64 t46, .bool t47, .bool t48, .slice t49 t50 t51, .string t52, .slice t53 t54 t55, .bool t56, .bool t57] ∧
Calls Tryz.prog 40 #[.pointer (some a5), .agg #[.int .i64 t46, .bool t47, .bool t48, .slice t49 t50 t51, .string t52, .slice t53 t54 t55, .bool t56, .bool t57]] w42.drew fun e58 w59 => ∃ t60 : Int, e58 = .returned (.int .i64 t60) ∧
(w59.cell? (a5.add 2) = some (.slice t43 t44 t45)) ∧
newK w59 #[.int .i64 t60] 3 fun a61 w62 =>
(w62.cell? (a5.add 2) = some (.slice t43 t44 t45)) ∧
∃ w63 : World, ∃ t64 : Option Addr, ∃ t65 : Nat, ∃ t66 : Nat, (vcEff.bltV .append #[30, 30] 30 #[.slice t43 t44 t45, .slice (some a61) 1 1]).run Tryz.prog w62 = .ok (.slice t64 t65 t66) w63 ∧
stK w63 (a5.add 2) (.slice t64 t65 t66) fun w67 =>
(I15 (IntKind.wrap .i64 (i17 + 1)) w67 ∧ μ16 (IntKind.wrap .i64 (i17 + 1)) w67 < μ16 i17 w18)) (
∃ (I79 : Int → World → Prop) (μ80 : Int → World → Nat), I79 0 w18 ∧ ∀ (j83 : Fr) (i81 : Int) (w82 : World), I79 i81 w82 →
bsel (decide (i81 < (x3 : Int))) (
idxK x2 x3 i81 8 fun a84 =>
∃ t85 : Int, ∃ t86 : Bool, ∃ t87 : Bool, ∃ t88 : Option Addr, ∃ t89 : Nat, ∃ t90 : Nat, ∃ t91 : ByteArray, ∃ t92 : Option Addr, ∃ t93 : Nat, ∃ t94 : Nat, ∃ t95 : Bool, ∃ t96 : Bool, CellsAt w82 a84 [.int .i64 t85, .bool t86, .bool t87, .slice t88 t89 t90, .string t91, .slice t92 t93 t94, .bool t95, .bool t96] ∧
newK w82 #[.int .i64 0, .bool false, .bool false, .slice none 0 0, .string ⟨#[]⟩, .slice none 0 0, .bool false, .bool false] 42 fun a97 w98 =>
stK w98 (a97.add 0) (.int .i64 t85) fun w99 =>
stK w99 (a97.add 1) (.bool t86) fun w100 =>
stK w100 (a97.add 2) (.bool t87) fun w101 =>
stK w101 (a97.add 3) (.slice t88 t89 t90) fun w102 =>
stK w102 (a97.add 4) (.string t91) fun w103 =>
stK w103 (a97.add 5) (.slice t92 t93 t94) fun w104 =>
stK w104 (a97.add 6) (.bool t95) fun w105 =>
stK w105 (a97.add 7) (.bool t96) fun w106 =>
∃ t107 : Option Addr, ∃ t108 : Nat, ∃ t109 : Nat, w106.cell? (a5.add 2) = some (.slice t107 t108 t109) ∧
idxK t107 t108 i81 1 fun a110 =>
∃ t111 : Int, w106.cell? a110 = some (.int .i64 t111) ∧
Calls Tryz.prog 41 #[.pointer x1, .int .i64 t111] w106 fun e112 w113 => ∃ t114 : Value, e112 = .returned (t114) ∧
∃ t115 : Option Addr, ∃ t116 : Bool, (∀ w : World, (Instr.typeAssert t114 77 94 true).run Tryz.prog w = .ok (.tuple #[.pointer t115, .bool t116]) w) ∧
bsel t116 (
∃ t117 : Option Addr, ∃ t118 : Nat, ∃ t119 : Nat, w113.cell? (a97.add 5) = some (.slice t117 t118 t119) ∧
∃ (I120 : Int → World → Prop) (μ121 : Int → World → Nat), I120 0 w113 ∧ ∀ (j124 : Fr) (i122 : Int) (w123 : World), I120 i122 w123 →
bsel (decide (i122 < (t118 : Int))) (
idxK t117 t118 i122 1 fun a125 =>
∃ t126 : Int, w123.cell? a125 = some (.int .i64 t126) ∧
nilK t115 fun a127 =>
∃ t128 : Option Addr, ∃ t129 : Nat, ∃ t130 : Nat, w123.drew.cell? (a127.add 1) = some (.slice t128 t129 t130) ∧
∃ t131 : Option Addr, ∃ t132 : Nat, ∃ t133 : Nat, w123.drew.cell? (a5.add 2) = some (.slice t131 t132 t133) ∧
idxK t131 t132 t126 1 fun a134 =>
∃ t135 : Int, w123.drew.cell? a134 = some (.int .i64 t135) ∧
idxK t128 t129 i122 1 fun a136 =>
stK w123.drew a136 (.int .i64 t135) fun w137 =>
(I120 (IntKind.wrap .i64 (i122 + 1)) w137 ∧ μ121 (IntKind.wrap .i64 (i122 + 1)) w137 < μ121 i122 w123)) (
(I79 (IntKind.wrap .i64 (i81 + 1)) w123 ∧ μ80 (IntKind.wrap .i64 (i81 + 1)) w123 < μ80 i81 w82))) (
(I79 (IntKind.wrap .i64 (i81 + 1)) w113 ∧ μ80 (IntKind.wrap .i64 (i81 + 1)) w113 < μ80 i81 w82))) (
∃ t146 : Option Addr, ∃ t147 : Nat, ∃ t148 : Nat, w82.drew.cell? (a5.add 2) = some (.slice t146 t147 t148) ∧
∃ t149 : Option Addr, ∃ t150 : Nat, ∃ t151 : Nat, w82.drew.cell? (a5.add 2) = some (.slice t149 t150 t151) ∧
∃ w152 : World, ∃ t153 : Option Addr, ∃ t154 : Nat, ∃ t155 : Nat, (Instr.makeSlice 30 (.int .i64 0) (.int .i64 (t147 : Int))).run Tryz.prog w82.drew = .ok (.slice t153 t154 t155) w152 ∧
(w152.cell? (a5.add 2) = some (.slice t149 t150 t151)) ∧
∃ w156 : World, ∃ t157 : Option Addr, ∃ t158 : Nat, ∃ t159 : Nat, (vcEff.bltV .append #[30, 30] 30 #[.slice t153 t154 t155, .slice t149 t150 t151]).run Tryz.prog w152 = .ok (.slice t157 t158 t159) w156 ∧
Q (.tuple #[.slice t157 t158 t159, .int .i64 0]) w156))))
def V13_ann : Nat → Ann := fun k => match k with | 0 => ⟨[0, 1, 6, 24], [(25, .int .i64)]⟩ | 1 => ⟨[0, 1, 6, 35, 36], [(37, .int .i64)]⟩ | 2 => ⟨[0, 6, 54, 55], [(56, .int .i64)]⟩ | 3 => ⟨[0, 6, 13, 54, 55, 56, 76, 77], [(78, .int .i64)]⟩ | _ => ⟨[], []⟩
theorem V13_eq (x1 : Option Addr) (x2 : Option Addr) (x3 : Nat) (x4 : Nat) (w : World) (Q : Value → World → Prop) : (match Tryz.f13.body with | some c => wpC Tryz.prog Tryz.f13.ntmps V13_ann c 0 (resQ Tryz.prog Tryz.f13.ntmps Tryz.f13.results.toList Q) (argsF [.pointer x1, .slice x2 x3 x4]) w | none => False) = V13 x1 x2 x3 x4 w Q := by kernel_rfl
theorem V13_sound (x1 : Option Addr) (x2 : Option Addr) (x3 : Nat) (x4 : Nat) (w : World) (Q : Value → World → Prop) (h : V13 x1 x2 x3 x4 w Q) : Calls Tryz.prog 13 #[.pointer x1, .slice x2 x3 x4] w fun e w' => ∃ v, e = .returned v ∧ Q v w' :=
  sound_of Tryz.func13 V13_ann rfl ((V13_eq x1 x2 x3 x4 w Q).mpr h)
def V14 (x1 : Option Addr) (w : World) (Q : Value → World → Prop) : Prop :=
bsel (Option.isNone x1) (
Q (.int .i64 0) w) (
nilK x1 fun a2 =>
∃ t3 : Int, w.cell? (a2.add 8) = some (.int .i64 t3) ∧
Q (.int .i64 t3) w)
def V14_ann : Nat → Ann := fun _ => ⟨[], []⟩
theorem V14_eq (x1 : Option Addr) (w : World) (Q : Value → World → Prop) : (match Tryz.f14.body with | some c => wpC Tryz.prog Tryz.f14.ntmps V14_ann c 0 (resQ Tryz.prog Tryz.f14.ntmps Tryz.f14.results.toList Q) (argsF [.pointer x1]) w | none => False) = V14 x1 w Q := by kernel_rfl
theorem V14_sound (x1 : Option Addr) (w : World) (Q : Value → World → Prop) (h : V14 x1 w Q) : Calls Tryz.prog 14 #[.pointer x1] w fun e w' => ∃ v, e = .returned v ∧ Q v w' :=
  sound_of Tryz.func14 V14_ann rfl ((V14_eq x1 w Q).mpr h)
def V15 (x1 : Option Addr) (x2 : Int) (w : World) (Q : Value → World → Prop) : Prop :=
Calls Tryz.prog 41 #[.pointer x1, .int .i64 x2] w fun e3 w4 => ∃ t5 : Value, e3 = .returned (t5) ∧
eqNilI t5 fun b6 =>
bsel (!b6) (
InvK Tryz.prog t5 "lexicon/store.numbered" #[] w4 fun e7 w8 => ∃ t9 : Int, e7 = .returned (.int .i64 t9) ∧
Q (.int .i64 t9) w8) (
Q (.int .i64 0) w4)
def V15_ann : Nat → Ann := fun _ => ⟨[], []⟩
theorem V15_eq (x1 : Option Addr) (x2 : Int) (w : World) (Q : Value → World → Prop) : (match Tryz.f15.body with | some c => wpC Tryz.prog Tryz.f15.ntmps V15_ann c 0 (resQ Tryz.prog Tryz.f15.ntmps Tryz.f15.results.toList Q) (argsF [.pointer x1, .int .i64 x2]) w | none => False) = V15 x1 x2 w Q := by kernel_rfl
theorem V15_sound (x1 : Option Addr) (x2 : Int) (w : World) (Q : Value → World → Prop) (h : V15 x1 x2 w Q) : Calls Tryz.prog 15 #[.pointer x1, .int .i64 x2] w fun e w' => ∃ v, e = .returned v ∧ Q v w' :=
  sound_of Tryz.func15 V15_ann rfl ((V15_eq x1 x2 w Q).mpr h)
def V16J1 (w : World) (Q : Value → World → Prop) (x40 : Option Addr) (x41 : Int) (x42 : Int) (x43 : Value) (x44 : Value) (x45 : Addr) (x46 : Addr) (x47 : Bool) (w48 : World) : Prop :=
bsel x47 (
∃ t49 : Bool, ∃ t50 : Option Addr, ∃ t51 : Nat, ∃ t52 : Nat, CellsAt w48 x45 [.bool t49, .slice t50 t51 t52] ∧
∃ t53 : Bool, ∃ t54 : Option Addr, ∃ t55 : Nat, ∃ t56 : Nat, CellsAt w48 x46 [.bool t53, .slice t54 t55 t56] ∧
Calls Tryz.prog 43 #[.agg #[.bool t49, .slice t50 t51 t52], .agg #[.bool t53, .slice t54 t55 t56]] w48 fun e57 w58 => ∃ t59 : Int, e57 = .returned (.int .i64 t59) ∧
Q (.bool (t59 == 0)) w58) (
∃ t60 : Int, ∃ t61 : ByteArray, ∃ t62 : Bool, (∀ w : World, (Instr.typeAssert x43 77 105 true).run Tryz.prog w = .ok (.tuple #[.agg #[.int .i64 t60, .string t61], .bool t62]) w) ∧
newK w48 #[.int .i64 0, .string ⟨#[]⟩] 105 fun a63 w64 =>
stK w64 (a63.add 0) (.int .i64 t60) fun w65 =>
stK w65 (a63.add 1) (.string t61) fun w66 =>
bsel t62 (
∃ t67 : Int, ∃ t68 : ByteArray, CellsAt w66 a63 [.int .i64 t67, .string t68] ∧
∃ b69 : Bool, (∀ w : World, (eqSem .eql 77 (.tmp 61) (.tmp 62) (.iface 105 (.agg #[.int .i64 t67, .string t68])) x44).run Tryz.prog w = .ok (.bool b69) w) ∧
Q (.bool b69) w66) (
Calls Tryz.prog 44 #[.pointer x40, .int .i64 x41] w66 fun e70 w71 => ∃ t72 : ByteArray, ∃ t73 : Bool, e70 = .returned (.tuple #[.string t72, .bool t73]) ∧
Calls Tryz.prog 44 #[.pointer x40, .int .i64 x42] w71 fun e74 w75 => ∃ t76 : ByteArray, ∃ t77 : Bool, e74 = .returned (.tuple #[.string t76, .bool t77]) ∧
bsel t73 (
bsel t77 (
bsel (t72.toList == t76.toList) (
Q (.bool true) w75) (
InvK Tryz.prog x43 "Kind" #[] w75 fun e80 w81 => ∃ t82 : Int, e80 = .returned (.int .i64 t82) ∧
bsel (t82 == 1) (
InvK Tryz.prog x44 "Kind" #[] w81 fun e83 w84 => ∃ t85 : Int, e83 = .returned (.int .i64 t85) ∧
Q (.bool (t85 == 1)) w84) (
Q (.bool false) w81))) (
InvK Tryz.prog x43 "Kind" #[] w75 fun e86 w87 => ∃ t88 : Int, e86 = .returned (.int .i64 t88) ∧
bsel (t88 == 1) (
InvK Tryz.prog x44 "Kind" #[] w87 fun e89 w90 => ∃ t91 : Int, e89 = .returned (.int .i64 t91) ∧
Q (.bool (t91 == 1)) w90) (
Q (.bool false) w87))) (
InvK Tryz.prog x43 "Kind" #[] w75 fun e92 w93 => ∃ t94 : Int, e92 = .returned (.int .i64 t94) ∧
bsel (t94 == 1) (
InvK Tryz.prog x44 "Kind" #[] w93 fun e95 w96 => ∃ t97 : Int, e95 = .returned (.int .i64 t97) ∧
Q (.bool (t97 == 1)) w96) (
Q (.bool false) w93))))
def V16J2 (w : World) (Q : Value → World → Prop) (x11 : Option Addr) (x12 : Int) (x13 : Int) (x14 : Value) (x15 : Value) (x16 : Bool) (w17 : World) : Prop :=
bsel x16 (
Q (.bool false) w17) (
bsel (x12 == x13) (
Q (.bool true) w17) (
Calls Tryz.prog 42 #[.pointer x11, .int .i64 x12] w17 fun e18 w19 => ∃ t20 : Bool, ∃ t21 : Option Addr, ∃ t22 : Nat, ∃ t23 : Nat, ∃ t24 : Bool, e18 = .returned (.tuple #[.agg #[.bool t20, .slice t21 t22 t23], .bool t24]) ∧
newK w19 #[.bool false, .slice none 0 0] 40 fun a25 w26 =>
stK w26 (a25.add 0) (.bool t20) fun w27 =>
stK w27 (a25.add 1) (.slice t21 t22 t23) fun w28 =>
Calls Tryz.prog 42 #[.pointer x11, .int .i64 x13] w28 fun e29 w30 => ∃ t31 : Bool, ∃ t32 : Option Addr, ∃ t33 : Nat, ∃ t34 : Nat, ∃ t35 : Bool, e29 = .returned (.tuple #[.agg #[.bool t31, .slice t32 t33 t34], .bool t35]) ∧
newK w30 #[.bool false, .slice none 0 0] 40 fun a36 w37 =>
stK w37 (a36.add 0) (.bool t31) fun w38 =>
stK w38 (a36.add 1) (.slice t32 t33 t34) fun w39 =>
bsel t24 (
V16J1 w Q x11 x12 x13 x14 x15 a25 a36 t35 w39) (
V16J1 w Q x11 x12 x13 x14 x15 a25 a36 false w39)))
def V16 (x1 : Option Addr) (x2 : Int) (x3 : Int) (w : World) (Q : Value → World → Prop) : Prop :=
Calls Tryz.prog 41 #[.pointer x1, .int .i64 x2] w fun e4 w5 => ∃ t6 : Value, e4 = .returned (t6) ∧
Calls Tryz.prog 41 #[.pointer x1, .int .i64 x3] w5 fun e7 w8 => ∃ t9 : Value, e7 = .returned (t9) ∧
eqNilI t6 fun b10 =>
bsel b10 (
V16J2 w Q x1 x2 x3 t6 t9 true w8) (
eqNilI t9 fun b98 =>
V16J2 w Q x1 x2 x3 t6 t9 b98 w8)
def V16_ann : Nat → Ann := fun _ => ⟨[], []⟩
theorem V16_eq (x1 : Option Addr) (x2 : Int) (x3 : Int) (w : World) (Q : Value → World → Prop) : (match Tryz.f16.body with | some c => wpC Tryz.prog Tryz.f16.ntmps V16_ann c 0 (resQ Tryz.prog Tryz.f16.ntmps Tryz.f16.results.toList Q) (argsF [.pointer x1, .int .i64 x2, .int .i64 x3]) w | none => False) = V16 x1 x2 x3 w Q := by kernel_rfl
theorem V16_sound (x1 : Option Addr) (x2 : Int) (x3 : Int) (w : World) (Q : Value → World → Prop) (h : V16 x1 x2 x3 w Q) : Calls Tryz.prog 16 #[.pointer x1, .int .i64 x2, .int .i64 x3] w fun e w' => ∃ v, e = .returned v ∧ Q v w' :=
  sound_of Tryz.func16 V16_ann rfl ((V16_eq x1 x2 x3 w Q).mpr h)
def V17 (x1 : Option Addr) (x2 : Int) (x3 : Int) (w : World) (Q : Value → World → Prop) : Prop :=
Calls Tryz.prog 45 #[.pointer x1, .int .i64 x2] w fun e4 w5 => ∃ t6 : Int, e4 = .returned (.int .i64 t6) ∧
Calls Tryz.prog 45 #[.pointer x1, .int .i64 x3] w5 fun e7 w8 => ∃ t9 : Int, e7 = .returned (.int .i64 t9) ∧
bsel (t6 == t9) (
Calls Tryz.prog 16 #[.pointer x1, .int .i64 x2, .int .i64 x3] w8 fun e10 w11 => ∃ t12 : Bool, e10 = .returned (.bool t12) ∧
Q (.bool t12) w11) (
Q (.bool false) w8)
def V17_ann : Nat → Ann := fun _ => ⟨[], []⟩
theorem V17_eq (x1 : Option Addr) (x2 : Int) (x3 : Int) (w : World) (Q : Value → World → Prop) : (match Tryz.f17.body with | some c => wpC Tryz.prog Tryz.f17.ntmps V17_ann c 0 (resQ Tryz.prog Tryz.f17.ntmps Tryz.f17.results.toList Q) (argsF [.pointer x1, .int .i64 x2, .int .i64 x3]) w | none => False) = V17 x1 x2 x3 w Q := by kernel_rfl
theorem V17_sound (x1 : Option Addr) (x2 : Int) (x3 : Int) (w : World) (Q : Value → World → Prop) (h : V17 x1 x2 x3 w Q) : Calls Tryz.prog 17 #[.pointer x1, .int .i64 x2, .int .i64 x3] w fun e w' => ∃ v, e = .returned v ∧ Q v w' :=
  sound_of Tryz.func17 V17_ann rfl ((V17_eq x1 x2 x3 w Q).mpr h)
def V33 (x1 : Option Addr) (x2 : Int) (w : World) (Q : Value → World → Prop) : Prop :=
Calls Tryz.prog 41 #[.pointer x1, .int .i64 x2] w fun e3 w4 => ∃ t5 : Value, e3 = .returned (t5) ∧
∃ t6 : ByteArray, ∃ t7 : Bool, (∀ w : World, (Instr.typeAssert t5 77 160 true).run Tryz.prog w = .ok (.tuple #[.agg #[.string t6], .bool t7]) w) ∧
bsel t7 (
newK w4 #[.string ⟨#[]⟩] 160 fun a8 w9 =>
stK w9 (a8.add 0) (.string t6) fun w10 =>
∃ t11 : ByteArray, w10.cell? (a8.add 0) = some (.string t11) ∧
Calls Tryz.prog 71 #[.string t11] w10 fun e12 w13 => ∃ t14 : Int, e12 = .returned (.int .i64 t14) ∧
Q (.tuple #[.int .i64 t14, .int .i64 0]) w13) (
∃ t15 : Option Addr, ∃ t16 : Bool, (∀ w : World, (Instr.typeAssert t5 77 94 true).run Tryz.prog w = .ok (.tuple #[.pointer t15, .bool t16]) w) ∧
bsel t16 (
nilK t15 fun a17 =>
∃ t18 : Option Addr, ∃ t19 : Nat, ∃ t20 : Nat, w4.cell? (a17.add 1) = some (.slice t18 t19 t20) ∧
Q (.tuple #[.int .i64 (t19 : Int), .int .i64 0]) w4) (
∃ t21 : Option Addr, ∃ t22 : Bool, (∀ w : World, (Instr.typeAssert t5 77 111 true).run Tryz.prog w = .ok (.tuple #[.pointer t21, .bool t22]) w) ∧
bsel t22 (
nilK t21 fun a23 =>
∃ t24 : Option Addr, w4.cell? (a23.add 1) = some (.pointer t24) ∧
Calls Tryz.prog 72 #[.pointer t24] w4 fun e25 w26 => ∃ t27 : Int, e25 = .returned (.int .i64 t27) ∧
Q (.tuple #[.int .i64 t27, .int .i64 0]) w26) (
∃ t28 : Option Addr, ∃ t29 : Bool, (∀ w : World, (Instr.typeAssert t5 77 162 true).run Tryz.prog w = .ok (.tuple #[.pointer t28, .bool t29]) w) ∧
bsel t29 (
nilK t28 fun a30 =>
∃ t31 : Int, w4.cell? (a30.add 1) = some (.int .i64 t31) ∧
Calls Tryz.prog 41 #[.pointer x1, .int .i64 t31] w4 fun e32 w33 => ∃ t34 : Value, e32 = .returned (t34) ∧
∃ t35 : Option Addr, ∃ t36 : Bool, (∀ w : World, (Instr.typeAssert t34 77 163 true).run Tryz.prog w = .ok (.tuple #[.pointer t35, .bool t36]) w) ∧
bsel t36 (
nilK t35 fun a37 =>
∃ t38 : Option Addr, w33.cell? (a37.add 1) = some (.pointer t38) ∧
Calls Tryz.prog 73 #[.pointer t38] w33 fun e39 w40 => ∃ t41 : Int, e39 = .returned (.int .i64 t41) ∧
Q (.tuple #[.int .i64 t41, .int .i64 0]) w40) (
nilK t28 fun a42 =>
∃ t43 : Int, w33.cell? (a42.add 1) = some (.int .i64 t43) ∧
Calls Tryz.prog 74 #[.pointer x1, .int .i64 t43] w33 fun e44 w45 => ∃ t46 : Option Addr, e44 = .returned (.pointer t46) ∧
Calls Tryz.prog 72 #[.pointer t46] w45 fun e47 w48 => ∃ t49 : Int, e47 = .returned (.int .i64 t49) ∧
Q (.tuple #[.int .i64 t49, .int .i64 0]) w48)) (
Q (.tuple #[.int .i64 0, .int .i64 12]) w4))))
def V33_ann : Nat → Ann := fun _ => ⟨[], []⟩
theorem V33_eq (x1 : Option Addr) (x2 : Int) (w : World) (Q : Value → World → Prop) : (match Tryz.f33.body with | some c => wpC Tryz.prog Tryz.f33.ntmps V33_ann c 0 (resQ Tryz.prog Tryz.f33.ntmps Tryz.f33.results.toList Q) (argsF [.pointer x1, .int .i64 x2]) w | none => False) = V33 x1 x2 w Q := by kernel_rfl
theorem V33_sound (x1 : Option Addr) (x2 : Int) (w : World) (Q : Value → World → Prop) (h : V33 x1 x2 w Q) : Calls Tryz.prog 33 #[.pointer x1, .int .i64 x2] w fun e w' => ∃ v, e = .returned v ∧ Q v w' :=
  sound_of Tryz.func33 V33_ann rfl ((V33_eq x1 x2 w Q).mpr h)
def V45 (x1 : Option Addr) (x2 : Int) (w : World) (Q : Value → World → Prop) : Prop :=
Calls Tryz.prog 41 #[.pointer x1, .int .i64 x2] w fun e3 w4 => ∃ t5 : Value, e3 = .returned (t5) ∧
eqNilI t5 fun b6 =>
bsel (!b6) (
InvK Tryz.prog t5 "Kind" #[] w4 fun e7 w8 => ∃ t9 : Int, e7 = .returned (.int .i64 t9) ∧
Q (.int .i64 t9) w8) (
Q (.int .i64 0) w4)
def V45_ann : Nat → Ann := fun _ => ⟨[], []⟩
theorem V45_eq (x1 : Option Addr) (x2 : Int) (w : World) (Q : Value → World → Prop) : (match Tryz.f45.body with | some c => wpC Tryz.prog Tryz.f45.ntmps V45_ann c 0 (resQ Tryz.prog Tryz.f45.ntmps Tryz.f45.results.toList Q) (argsF [.pointer x1, .int .i64 x2]) w | none => False) = V45 x1 x2 w Q := by kernel_rfl
theorem V45_sound (x1 : Option Addr) (x2 : Int) (w : World) (Q : Value → World → Prop) (h : V45 x1 x2 w Q) : Calls Tryz.prog 45 #[.pointer x1, .int .i64 x2] w fun e w' => ∃ v, e = .returned v ∧ Q v w' :=
  sound_of Tryz.func45 V45_ann rfl ((V45_eq x1 x2 w Q).mpr h)
def V34 (x1 : Option Addr) (x2 : Int) (w : World) (Q : Value → World → Prop) : Prop :=
Calls Tryz.prog 41 #[.pointer x1, .int .i64 x2] w fun e3 w4 => ∃ t5 : Value, e3 = .returned (t5) ∧
eqNilI t5 fun b6 =>
bsel b6 (
Q (.string (⟨#[]⟩ : ByteArray)) w4) (
∃ t7 : Bool, (∀ w : World, (Instr.typeAssert t5 77 85 true).run Tryz.prog w = .ok (.tuple #[.agg #[], .bool t7]) w) ∧
bsel t7 (
newK w4 #[] 85 fun a8 w9 =>
Q (.string (⟨#[78, 111, 110, 101]⟩ : ByteArray)) w9) (
∃ t10 : Bool, ∃ t11 : Bool, (∀ w : World, (Instr.typeAssert t5 77 87 true).run Tryz.prog w = .ok (.tuple #[.agg #[.bool t10], .bool t11]) w) ∧
bsel t11 (
newK w4 #[.bool false] 87 fun a12 w13 =>
stK w13 (a12.add 0) (.bool t10) fun w14 =>
∃ t15 : Bool, w14.cell? (a12.add 0) = some (.bool t15) ∧
bsel t15 (
Q (.string (⟨#[84, 114, 117, 101]⟩ : ByteArray)) w14) (
Q (.string (⟨#[70, 97, 108, 115, 101]⟩ : ByteArray)) w14)) (
∃ t16 : Bool, ∃ t17 : Option Addr, ∃ t18 : Nat, ∃ t19 : Nat, ∃ t20 : Bool, (∀ w : World, (Instr.typeAssert t5 77 172 true).run Tryz.prog w = .ok (.tuple #[.agg #[.bool t16, .slice t17 t18 t19], .bool t20]) w) ∧
bsel t20 (
newK w4 #[.bool false, .slice none 0 0] 172 fun a21 w22 =>
stK w22 (a21.add 0) (.bool t16) fun w23 =>
stK w23 (a21.add 1) (.slice t17 t18 t19) fun w24 =>
∃ t25 : Bool, ∃ t26 : Option Addr, ∃ t27 : Nat, ∃ t28 : Nat, CellsAt w24 (a21.add 0) [.bool t25, .slice t26 t27 t28] ∧
Calls Tryz.prog 75 #[.agg #[.bool t25, .slice t26 t27 t28]] w24 fun e29 w30 => ∃ t31 : ByteArray, e29 = .returned (.string t31) ∧
Q (.string t31) w30) (
∃ t32 : ByteArray, ∃ t33 : Bool, (∀ w : World, (Instr.typeAssert t5 77 160 true).run Tryz.prog w = .ok (.tuple #[.agg #[.string t32], .bool t33]) w) ∧
bsel t33 (
newK w4 #[.string ⟨#[]⟩] 160 fun a34 w35 =>
stK w35 (a34.add 0) (.string t32) fun w36 =>
∃ t37 : ByteArray, w36.cell? (a34.add 0) = some (.string t37) ∧
Calls Tryz.prog 76 #[.string t37] w36 fun e38 w39 => ∃ t40 : ByteArray, e38 = .returned (.string t40) ∧
Q (.string t40) w39) (
∃ t41 : Int, ∃ t42 : ByteArray, ∃ t43 : Bool, (∀ w : World, (Instr.typeAssert t5 77 105 true).run Tryz.prog w = .ok (.tuple #[.agg #[.int .i64 t41, .string t42], .bool t43]) w) ∧
bsel t43 (
newK w4 #[.int .i64 0, .string ⟨#[]⟩] 105 fun a44 w45 =>
stK w45 (a44.add 0) (.int .i64 t41) fun w46 =>
stK w46 (a44.add 1) (.string t42) fun w47 =>
∃ t48 : ByteArray, w47.cell? (a44.add 1) = some (.string t48) ∧
((((⟨#[60, 110, 97, 116, 105, 118, 101, 32]⟩ : ByteArray).size + t48.size : Nat) : Int) ≤ 9223372036854775807) ∧
(((((⟨#[60, 110, 97, 116, 105, 118, 101, 32]⟩ : ByteArray) ++ t48).size + (⟨#[62]⟩ : ByteArray).size : Nat) : Int) ≤ 9223372036854775807) ∧
Q (.string (((⟨#[60, 110, 97, 116, 105, 118, 101, 32]⟩ : ByteArray) ++ t48) ++ (⟨#[62]⟩ : ByteArray))) w47) (
InvK Tryz.prog t5 "lexicon/store.numbered" #[] w4 fun e49 w50 => ∃ t51 : Int, e49 = .returned (.int .i64 t51) ∧
Calls Tryz.prog 77 #[.int .i64 t51] w50 fun e52 w53 => ∃ t54 : ByteArray, e52 = .returned (.string t54) ∧
((((⟨#[35]⟩ : ByteArray).size + t54.size : Nat) : Int) ≤ 9223372036854775807) ∧
Q (.string ((⟨#[35]⟩ : ByteArray) ++ t54)) w53))))))
def V34_ann : Nat → Ann := fun _ => ⟨[], []⟩
theorem V34_eq (x1 : Option Addr) (x2 : Int) (w : World) (Q : Value → World → Prop) : (match Tryz.f34.body with | some c => wpC Tryz.prog Tryz.f34.ntmps V34_ann c 0 (resQ Tryz.prog Tryz.f34.ntmps Tryz.f34.results.toList Q) (argsF [.pointer x1, .int .i64 x2]) w | none => False) = V34 x1 x2 w Q := by kernel_rfl
theorem V34_sound (x1 : Option Addr) (x2 : Int) (w : World) (Q : Value → World → Prop) (h : V34 x1 x2 w Q) : Calls Tryz.prog 34 #[.pointer x1, .int .i64 x2] w fun e w' => ∃ v, e = .returned v ∧ Q v w' :=
  sound_of Tryz.func34 V34_ann rfl ((V34_eq x1 x2 w Q).mpr h)
def V35J1 (Q : Value → World → Prop) (x35 : Option Addr) (x36 : Int) (w37 : World) : Prop :=
Calls Tryz.prog 33 #[.pointer x35, .int .i64 x36] w37 fun e38 w39 => ∃ t40 : Int, ∃ t41 : Int, e38 = .returned (.tuple #[.int .i64 t40, .int .i64 t41]) ∧
bsel (t41 != 0) (
Q (.bool true) w39) (
Q (.bool (decide (t40 > 0))) w39)
def V35J2 (w : World) (Q : Value → World → Prop) (x8 : Option Addr) (x9 : Int) (x10 : Value) (x11 : Bool) (w12 : World) : Prop :=
bsel x11 (
Q (.bool false) w12) (
∃ t13 : Bool, ∃ t14 : Bool, (∀ w : World, (Instr.typeAssert x10 77 87 true).run Tryz.prog w = .ok (.tuple #[.agg #[.bool t13], .bool t14]) w) ∧
bsel t14 (
newK w12 #[.bool false] 87 fun a15 w16 =>
stK w16 (a15.add 0) (.bool t13) fun w17 =>
∃ t18 : Bool, w17.cell? (a15.add 0) = some (.bool t18) ∧
Q (.bool t18) w17) (
∃ t19 : Bool, ∃ t20 : Option Addr, ∃ t21 : Nat, ∃ t22 : Nat, ∃ t23 : Bool, (∀ w : World, (Instr.typeAssert x10 77 172 true).run Tryz.prog w = .ok (.tuple #[.agg #[.bool t19, .slice t20 t21 t22], .bool t23]) w) ∧
bsel t23 (
newK w12 #[.bool false, .slice none 0 0] 172 fun a24 w25 =>
stK w25 (a24.add 0) (.bool t19) fun w26 =>
stK w26 (a24.add 1) (.slice t20 t21 t22) fun w27 =>
∃ t28 : Option Addr, ∃ t29 : Nat, ∃ t30 : Nat, w27.cell? ((a24.add 0).add 1) = some (.slice t28 t29 t30) ∧
Q (.bool (decide ((t29 : Int) > 0))) w27) (
∃ t31 : Option Addr, ∃ t32 : Bool, (∀ w : World, (Instr.typeAssert x10 77 162 true).run Tryz.prog w = .ok (.tuple #[.pointer t31, .bool t32]) w) ∧
bsel t32 (
nilK t31 fun a33 =>
∃ t34 : Int, w12.cell? (a33.add 2) = some (.int .i64 t34) ∧
bsel (t34 == 18) (
V35J1 Q x8 x9 w12) (
V35J1 Q x8 x9 w12)) (
V35J1 Q x8 x9 w12))))
def V35 (x1 : Option Addr) (x2 : Int) (w : World) (Q : Value → World → Prop) : Prop :=
Calls Tryz.prog 41 #[.pointer x1, .int .i64 x2] w fun e3 w4 => ∃ t5 : Value, e3 = .returned (t5) ∧
eqNilI t5 fun b6 =>
∃ t7 : Bool, (∀ w : World, (Instr.typeAssert t5 77 85 true).run Tryz.prog w = .ok (.tuple #[.agg #[], .bool t7]) w) ∧
bsel b6 (
V35J2 w Q x1 x2 t5 true w4) (
V35J2 w Q x1 x2 t5 t7 w4)
def V35_ann : Nat → Ann := fun _ => ⟨[], []⟩
theorem V35_eq (x1 : Option Addr) (x2 : Int) (w : World) (Q : Value → World → Prop) : (match Tryz.f35.body with | some c => wpC Tryz.prog Tryz.f35.ntmps V35_ann c 0 (resQ Tryz.prog Tryz.f35.ntmps Tryz.f35.results.toList Q) (argsF [.pointer x1, .int .i64 x2]) w | none => False) = V35 x1 x2 w Q := by kernel_rfl
theorem V35_sound (x1 : Option Addr) (x2 : Int) (w : World) (Q : Value → World → Prop) (h : V35 x1 x2 w Q) : Calls Tryz.prog 35 #[.pointer x1, .int .i64 x2] w fun e w' => ∃ v, e = .returned v ∧ Q v w' :=
  sound_of Tryz.func35 V35_ann rfl ((V35_eq x1 x2 w Q).mpr h)
def V36  (w : World) (Q : Value → World → Prop) : Prop :=
newK w #[.slice none 0 0, .slice none 0 0, .slice none 0 0] 178 fun a1 w2 =>
Q (.pointer (some a1)) w2
def V36_ann : Nat → Ann := fun _ => ⟨[], []⟩
theorem V36_eq  (w : World) (Q : Value → World → Prop) : (match Tryz.f36.body with | some c => wpC Tryz.prog Tryz.f36.ntmps V36_ann c 0 (resQ Tryz.prog Tryz.f36.ntmps Tryz.f36.results.toList Q) (argsF []) w | none => False) = V36  w Q := by kernel_rfl
theorem V36_sound  (w : World) (Q : Value → World → Prop) (h : V36  w Q) : Calls Tryz.prog 36 #[] w fun e w' => ∃ v, e = .returned v ∧ Q v w' :=
  sound_of Tryz.func36 V36_ann rfl ((V36_eq  w Q).mpr h)
def V37 (x1 : Option Addr) (x2 : Nat) (x3 : Nat) (w : World) (Q : Value → World → Prop) : Prop :=
∃ w4 : World, ∃ t5 : Option Nat, (Instr.makeMap 179 none).run Tryz.prog w = .ok (.map t5) w4 ∧
newK w4 #[.map t5, .int .i64 0] 181 fun a6 w7 =>
∃ (I8 : Int → World → Prop) (μ9 : Int → World → Nat), I8 0 w7 ∧ ∀ (j12 : Fr) (i10 : Int) (w11 : World), I8 i10 w11 →
bsel (decide (i10 < (x2 : Int))) (
idxK x1 x2 i10 1 fun a13 =>
∃ t14 : Int, w11.cell? a13 = some (.int .i64 t14) ∧
∃ t15 : Option Nat, w11.cell? (a6.add 0) = some (.map t15) ∧
∃ w16 : World, ∃ t17 : Int, (Instr.lookup 179 (.map t15) (.int .i64 t14) false).run Tryz.prog w11 = .ok (.int .i64 t17) w16 ∧
∃ w18 : World, (Instr.mapUpdate 179 (.map t15) (.int .i64 t14) (.int .i64 (IntKind.wrap .i64 (t17 + 1)))).run Tryz.prog w16 = .ok () w18 ∧
(I8 (IntKind.wrap .i64 (i10 + 1)) w18 ∧ μ9 (IntKind.wrap .i64 (i10 + 1)) w18 < μ9 i10 w11)) (
Q (.pointer (some a6)) w11)
def V37_ann : Nat → Ann := fun k => match k with | 0 => ⟨[3, 9, 10], [(11, .int .i64)]⟩ | _ => ⟨[], []⟩
theorem V37_eq (x1 : Option Addr) (x2 : Nat) (x3 : Nat) (w : World) (Q : Value → World → Prop) : (match Tryz.f37.body with | some c => wpC Tryz.prog Tryz.f37.ntmps V37_ann c 0 (resQ Tryz.prog Tryz.f37.ntmps Tryz.f37.results.toList Q) (argsF [.slice x1 x2 x3]) w | none => False) = V37 x1 x2 x3 w Q := by kernel_rfl
theorem V37_sound (x1 : Option Addr) (x2 : Nat) (x3 : Nat) (w : World) (Q : Value → World → Prop) (h : V37 x1 x2 x3 w Q) : Calls Tryz.prog 37 #[.slice x1 x2 x3] w fun e w' => ∃ v, e = .returned v ∧ Q v w' :=
  sound_of Tryz.func37 V37_ann rfl ((V37_eq x1 x2 x3 w Q).mpr h)
def V38J1 (Q : Value → World → Prop) (x31 : Option Addr) (w32 : World) : Prop :=
nilK x31 fun a33 =>
∃ t34 : Option Addr, ∃ t35 : Nat, ∃ t36 : Nat, w32.cell? (a33.add 0) = some (.slice t34 t35 t36) ∧
Q (.int .i64 (IntKind.wrap .i64 ((t35 : Int) - 1))) w32
def V38 (x1 : Option Addr) (x2 : Value) (w : World) (Q : Value → World → Prop) : Prop :=
bsel (Option.isNone x1) (
Q (.int .i64 (-1)) w) (
nilK x1 fun a3 =>
∃ t4 : Option Addr, ∃ t5 : Nat, ∃ t6 : Nat, w.cell? (a3.add 2) = some (.slice t4 t5 t6) ∧
bsel ((t5 : Int) == 0) (
nilK x1 fun a7 =>
∃ t8 : Option Addr, ∃ t9 : Nat, ∃ t10 : Nat, w.drew.cell? (a7.add 0) = some (.slice t8 t9 t10) ∧
nilK x1 fun a11 =>
∃ t12 : Option Addr, ∃ t13 : Nat, ∃ t14 : Nat, w.drew.cell? (a11.add 1) = some (.slice t12 t13 t14) ∧
(plK x2 (
newK w.drew #[x2] 77 fun a15 w16 =>
(w16.cell? (a11.add 1) = some (.slice t12 t13 t14)) ∧
(w16.cell? (a7.add 0) = some (.slice t8 t9 t10)) ∧
(∃ w17 : World, ∃ t18 : Option Addr, ∃ t19 : Nat, ∃ t20 : Nat, (vcEff.bltV .append #[88, 88] 88 #[.slice t8 t9 t10, .slice (some a15) 1 1]).run Tryz.prog w16 = .ok (.slice t18 t19 t20) w17 ∧
(w17.cell? (a11.add 1) = some (.slice t12 t13 t14)) ∧
newK w17 #[.bool true] 4 fun a21 w22 =>
(w22.cell? (a11.add 1) = some (.slice t12 t13 t14)) ∧
∃ w23 : World, ∃ t24 : Option Addr, ∃ t25 : Nat, ∃ t26 : Nat, (vcEff.bltV .append #[175, 175] 175 #[.slice t12 t13 t14, .slice (some a21) 1 1]).run Tryz.prog w22 = .ok (.slice t24 t25 t26) w23 ∧
nilK x1 fun a27 =>
stK w23 (a27.add 0) (.slice t18 t19 t20) fun w28 =>
nilK x1 fun a29 =>
stK w28 (a29.add 1) (.slice t24 t25 t26) fun w30 =>
V38J1 Q x1 w30) ∧
(newK w16 #[.bool true] 4 fun a37 w38 =>
(w38.cell? (a11.add 1) = some (.slice t12 t13 t14)) ∧
(w38.cell? (a7.add 0) = some (.slice t8 t9 t10)) ∧
∃ w39 : World, ∃ t40 : Option Addr, ∃ t41 : Nat, ∃ t42 : Nat, (vcEff.bltV .append #[88, 88] 88 #[.slice t8 t9 t10, .slice (some a15) 1 1]).run Tryz.prog w38 = .ok (.slice t40 t41 t42) w39 ∧
(w39.cell? (a11.add 1) = some (.slice t12 t13 t14)) ∧
∃ w43 : World, ∃ t44 : Option Addr, ∃ t45 : Nat, ∃ t46 : Nat, (vcEff.bltV .append #[175, 175] 175 #[.slice t12 t13 t14, .slice (some a37) 1 1]).run Tryz.prog w39 = .ok (.slice t44 t45 t46) w43 ∧
nilK x1 fun a47 =>
stK w43 (a47.add 0) (.slice t40 t41 t42) fun w48 =>
nilK x1 fun a49 =>
stK w48 (a49.add 1) (.slice t44 t45 t46) fun w50 =>
V38J1 Q x1 w50))) ∧
(newK w.drew #[.bool true] 4 fun a51 w52 =>
(w52.cell? (a11.add 1) = some (.slice t12 t13 t14)) ∧
(w52.cell? (a7.add 0) = some (.slice t8 t9 t10)) ∧
plK x2 (
newK w52 #[x2] 77 fun a53 w54 =>
(w54.cell? (a11.add 1) = some (.slice t12 t13 t14)) ∧
(w54.cell? (a7.add 0) = some (.slice t8 t9 t10)) ∧
∃ w55 : World, ∃ t56 : Option Addr, ∃ t57 : Nat, ∃ t58 : Nat, (vcEff.bltV .append #[88, 88] 88 #[.slice t8 t9 t10, .slice (some a53) 1 1]).run Tryz.prog w54 = .ok (.slice t56 t57 t58) w55 ∧
(w55.cell? (a11.add 1) = some (.slice t12 t13 t14)) ∧
∃ w59 : World, ∃ t60 : Option Addr, ∃ t61 : Nat, ∃ t62 : Nat, (vcEff.bltV .append #[175, 175] 175 #[.slice t12 t13 t14, .slice (some a51) 1 1]).run Tryz.prog w55 = .ok (.slice t60 t61 t62) w59 ∧
nilK x1 fun a63 =>
stK w59 (a63.add 0) (.slice t56 t57 t58) fun w64 =>
nilK x1 fun a65 =>
stK w64 (a65.add 1) (.slice t60 t61 t62) fun w66 =>
V38J1 Q x1 w66))) (
nilK x1 fun a67 =>
∃ t68 : Option Addr, ∃ t69 : Nat, ∃ t70 : Nat, w.cell? (a67.add 2) = some (.slice t68 t69 t70) ∧
idxK t68 t69 0 1 fun a71 =>
∃ t72 : Int, w.cell? a71 = some (.int .i64 t72) ∧
nilK x1 fun a73 =>
Calls Tryz.prog 78 #[.iface 183 (.pointer (some (a73.add 2)))] w fun e74 w75 => ∃ t76 : Value, e74 = .returned (t76) ∧
nilK x1 fun a77 =>
∃ t78 : Option Addr, ∃ t79 : Nat, ∃ t80 : Nat, w75.drew.cell? (a77.add 0) = some (.slice t78 t79 t80) ∧
nilK x1 fun a81 =>
∃ t82 : Option Addr, ∃ t83 : Nat, ∃ t84 : Nat, w75.drew.cell? (a81.add 1) = some (.slice t82 t83 t84) ∧
idxK t78 t79 t72 1 fun a85 =>
plK x2 (
stK w75.drew a85 (x2) fun w86 =>
idxK t82 t83 t72 1 fun a87 =>
stK w86 a87 (.bool true) fun w88 =>
Q (.int .i64 t72) w88)))
def V38_ann : Nat → Ann := fun _ => ⟨[], []⟩
theorem V38_eq (x1 : Option Addr) (x2 : Value) (w : World) (Q : Value → World → Prop) : (match Tryz.f38.body with | some c => wpC Tryz.prog Tryz.f38.ntmps V38_ann c 0 (resQ Tryz.prog Tryz.f38.ntmps Tryz.f38.results.toList Q) (argsF [.pointer x1, x2]) w | none => False) = V38 x1 x2 w Q := by kernel_rfl
theorem V38_sound (x1 : Option Addr) (x2 : Value) (w : World) (Q : Value → World → Prop) (h : V38 x1 x2 w Q) : Calls Tryz.prog 38 #[.pointer x1, x2] w fun e w' => ∃ v, e = .returned v ∧ Q v w' :=
  sound_of Tryz.func38 V38_ann rfl ((V38_eq x1 x2 w Q).mpr h)
def V39J1 (Q : Value → World → Prop) (x37 : Option Addr) (x38 : Int) (x39 : Bool) (w40 : World) : Prop :=
bsel x39 (
Q (.int .i64 1) w40) (
Calls Tryz.prog 82 #[.pointer x37, .int .i64 x38] w40 fun e41 w42 => ∃ t43 : Bool, e41 = .returned (.bool t43) ∧
bsel t43 (
Q (.int .i64 3) w42) (
Q (.int .i64 0) w42))
def V39 (x1 : Option Addr) (x2 : Int) (w : World) (Q : Value → World → Prop) : Prop :=
nilK x1 fun a3 =>
∃ t4 : Option Addr, ∃ t5 : Nat, ∃ t6 : Nat, w.cell? (a3.add 1) = some (.slice t4 t5 t6) ∧
idxK t4 t5 x2 8 fun a7 =>
∃ t8 : Int, ∃ t9 : Bool, ∃ t10 : Bool, ∃ t11 : Option Addr, ∃ t12 : Nat, ∃ t13 : Nat, ∃ t14 : ByteArray, ∃ t15 : Option Addr, ∃ t16 : Nat, ∃ t17 : Nat, ∃ t18 : Bool, ∃ t19 : Bool, CellsAt w a7 [.int .i64 t8, .bool t9, .bool t10, .slice t11 t12 t13, .string t14, .slice t15 t16 t17, .bool t18, .bool t19] ∧
newK w #[.int .i64 0, .bool false, .bool false, .slice none 0 0, .string ⟨#[]⟩, .slice none 0 0, .bool false, .bool false] 42 fun a20 w21 =>
stK w21 (a20.add 0) (.int .i64 t8) fun w22 =>
stK w22 (a20.add 1) (.bool t9) fun w23 =>
stK w23 (a20.add 2) (.bool t10) fun w24 =>
stK w24 (a20.add 3) (.slice t11 t12 t13) fun w25 =>
stK w25 (a20.add 4) (.string t14) fun w26 =>
stK w26 (a20.add 5) (.slice t15 t16 t17) fun w27 =>
stK w27 (a20.add 6) (.bool t18) fun w28 =>
stK w28 (a20.add 7) (.bool t19) fun w29 =>
∃ t30 : Int, w29.cell? (a20.add 0) = some (.int .i64 t30) ∧
Calls Tryz.prog 79 #[.int .i64 t30] w29 fun e31 w32 => ∃ t33 : Bool, e31 = .returned (.bool t33) ∧
bsel (!t33) (
Q (.int .i64 12) w32) (
Calls Tryz.prog 80 #[.pointer x1, .int .i64 x2] w32 fun e34 w35 => ∃ t36 : Bool, e34 = .returned (.bool t36) ∧
bsel t36 (
V39J1 Q x1 x2 true w35) (
∃ t44 : Int, w35.cell? (a20.add 0) = some (.int .i64 t44) ∧
bsel (t44 == 4) (
∃ t45 : ByteArray, w35.cell? (a20.add 4) = some (.string t45) ∧
Calls Tryz.prog 81 #[.string t45] w35 fun e46 w47 => ∃ t48 : Bool, e46 = .returned (.bool t48) ∧
V39J1 Q x1 x2 (!t48) w47) (
V39J1 Q x1 x2 false w35)))
def V39_ann : Nat → Ann := fun _ => ⟨[], []⟩
theorem V39_eq (x1 : Option Addr) (x2 : Int) (w : World) (Q : Value → World → Prop) : (match Tryz.f39.body with | some c => wpC Tryz.prog Tryz.f39.ntmps V39_ann c 0 (resQ Tryz.prog Tryz.f39.ntmps Tryz.f39.results.toList Q) (argsF [.pointer x1, .int .i64 x2]) w | none => False) = V39 x1 x2 w Q := by kernel_rfl
theorem V39_sound (x1 : Option Addr) (x2 : Int) (w : World) (Q : Value → World → Prop) (h : V39 x1 x2 w Q) : Calls Tryz.prog 39 #[.pointer x1, .int .i64 x2] w fun e w' => ∃ v, e = .returned v ∧ Q v w' :=
  sound_of Tryz.func39 V39_ann rfl ((V39_eq x1 x2 w Q).mpr h)
def V40J1 (Q : Value → World → Prop) (x105 : Option Addr) (x106 : Int) (w107 : World) : Prop :=
nilK x105 fun a108 =>
∃ t109 : Option Addr, w107.cell? (a108.add 0) = some (.pointer t109) ∧
Calls Tryz.prog 90 #[.pointer t109, .int .i64 x106] w107 fun e110 w111 => ∃ t112 : Int, e110 = .returned (.int .i64 t112) ∧
Q (.int .i64 t112) w111
def V40J2 (Q : Value → World → Prop) (x102 : Option Addr) (x103 : Int) (w104 : World) : Prop :=
V40J1 Q x102 x103 w104
def V40J3 (w : World) (Q : Value → World → Prop) (x64 : Option Addr) (x65 : Addr) (x66 : Int) (x67 : Bool) (w68 : World) : Prop :=
bsel x67 (
∃ t69 : Int, ∃ t70 : Bool, ∃ t71 : Bool, ∃ t72 : Option Addr, ∃ t73 : Nat, ∃ t74 : Nat, ∃ t75 : ByteArray, ∃ t76 : Option Addr, ∃ t77 : Nat, ∃ t78 : Nat, ∃ t79 : Bool, ∃ t80 : Bool, CellsAt w68 x65 [.int .i64 t69, .bool t70, .bool t71, .slice t72 t73 t74, .string t75, .slice t76 t77 t78, .bool t79, .bool t80] ∧
Calls Tryz.prog 88 #[.pointer x64, .agg #[.int .i64 t69, .bool t70, .bool t71, .slice t72 t73 t74, .string t75, .slice t76 t77 t78, .bool t79, .bool t80]] w68 fun e81 w82 => ∃ t83 : Int, e81 = .returned (.int .i64 t83) ∧
Q (.int .i64 t83) w82) (
bsel (x66 == 14) (
nilK x64 fun a84 =>
∃ t85 : Option Addr, w68.cell? (a84.add 0) = some (.pointer t85) ∧
Calls Tryz.prog 89 #[.pointer t85, .string (⟨#[67]⟩ : ByteArray), .int .i64 (-1)] w68 fun e86 w87 => ∃ t88 : Int, e86 = .returned (.int .i64 t88) ∧
nilK x64 fun a89 =>
∃ t90 : Option Addr, w87.cell? (a89.add 0) = some (.pointer t90) ∧
Calls Tryz.prog 41 #[.pointer t90, .int .i64 t88] w87 fun e91 w92 => ∃ t93 : Value, e91 = .returned (t93) ∧
∃ t94 : Option Addr, ∃ t95 : Bool, (∀ w : World, (Instr.typeAssert t93 77 190 true).run Tryz.prog w = .ok (.tuple #[.pointer t94, .bool t95]) w) ∧
bsel t95 (
∃ t96 : Bool, w92.drew.cell? (x65.add 6) = some (.bool t96) ∧
∃ t97 : Bool, w92.drew.cell? (x65.add 7) = some (.bool t97) ∧
nilK t94 fun a98 =>
stK w92.drew (a98.add 5) (.bool t96) fun w99 =>
(w99.cell? (x65.add 7) = some (.bool t97)) ∧
nilK t94 fun a100 =>
stK w99 (a100.add 6) (.bool t97) fun w101 =>
V40J2 Q x64 t88 w101) (
V40J1 Q x64 t88 w92)) (
nilK x64 fun a113 =>
∃ t114 : Option Addr, w68.drew.cell? (a113.add 0) = some (.pointer t114) ∧
∃ t115 : Int, w68.drew.cell? (x65.add 0) = some (.int .i64 t115) ∧
nilK x64 fun a116 =>
∃ t117 : Option Addr, ∃ t118 : Nat, ∃ t119 : Nat, w68.drew.cell? (a116.add 2) = some (.slice t117 t118 t119) ∧
∃ t120 : Option Addr, ∃ t121 : Nat, ∃ t122 : Nat, w68.drew.cell? (x65.add 5) = some (.slice t120 t121 t122) ∧
idxK t120 t121 0 1 fun a123 =>
∃ t124 : Int, w68.drew.cell? a123 = some (.int .i64 t124) ∧
idxK t117 t118 t124 1 fun a125 =>
∃ t126 : Int, w68.drew.cell? a125 = some (.int .i64 t126) ∧
Calls Tryz.prog 91 #[.pointer t114, .int .i64 t115, .int .i64 t126] w68.drew fun e127 w128 => ∃ t129 : Int, e127 = .returned (.int .i64 t129) ∧
Q (.int .i64 t129) w128))
def V40J4 (w : World) (Q : Value → World → Prop) (x44 : Option Addr) (x45 : Addr) (x46 : Int) (x47 : Bool) (w48 : World) : Prop :=
bsel x47 (
nilK x44 fun a49 =>
∃ t50 : Option Addr, w48.drew.cell? (a49.add 0) = some (.pointer t50) ∧
∃ t51 : Int, w48.drew.cell? (x45.add 0) = some (.int .i64 t51) ∧
∃ t52 : Option Addr, ∃ t53 : Nat, ∃ t54 : Nat, w48.drew.cell? (x45.add 5) = some (.slice t52 t53 t54) ∧
∃ w55 : World, ∃ t56 : Option Addr, ∃ t57 : Nat, ∃ t58 : Nat, (Instr.makeSlice 30 (.int .i64 (t53 : Int)) (.int .i64 (t53 : Int))).run Tryz.prog w48.drew = .ok (.slice t56 t57 t58) w55 ∧
(w55.cell? (x45.add 0) = some (.int .i64 t51)) ∧
(w55.cell? (a49.add 0) = some (.pointer t50)) ∧
Calls Tryz.prog 87 #[.pointer t50, .int .i64 t51, .slice t56 t57 t58] w55 fun e59 w60 => ∃ t61 : Int, e59 = .returned (.int .i64 t61) ∧
Q (.int .i64 t61) w60) (
bsel (x46 == 7) (
V40J3 w Q x44 x45 x46 true w48) (
bsel (x46 == 8) (
V40J3 w Q x44 x45 x46 true w48) (
V40J3 w Q x44 x45 x46 (x46 == 9) w48)))
def V40 (x1 : Option Addr) (x2 : Int) (x3 : Bool) (x4 : Bool) (x5 : Option Addr) (x6 : Nat) (x7 : Nat) (x8 : ByteArray) (x9 : Option Addr) (x10 : Nat) (x11 : Nat) (x12 : Bool) (x13 : Bool) (w : World) (Q : Value → World → Prop) : Prop :=
newK w #[.int .i64 x2, .bool x3, .bool x4, .slice x5 x6 x7, .string x8, .slice x9 x10 x11, .bool x12, .bool x13] 42 fun a14 w15 =>
∃ t16 : Int, w15.cell? (a14.add 0) = some (.int .i64 t16) ∧
bsel (t16 == 1) (
Q (.int .i64 0) w15) (
bsel (t16 == 2) (
∃ t17 : Bool, w15.cell? (a14.add 1) = some (.bool t17) ∧
Calls Tryz.prog 83 #[.bool t17] w15 fun e18 w19 => ∃ t20 : Int, e18 = .returned (.int .i64 t20) ∧
Q (.int .i64 t20) w19) (
bsel (t16 == 3) (
nilK x1 fun a21 =>
∃ t22 : Option Addr, w15.drew.cell? (a21.add 0) = some (.pointer t22) ∧
∃ t23 : Bool, ∃ t24 : Option Addr, ∃ t25 : Nat, ∃ t26 : Nat, CellsAt w15.drew (a14.add 2) [.bool t23, .slice t24 t25 t26] ∧
Calls Tryz.prog 85 #[.agg #[.bool t23, .slice t24 t25 t26]] w15.drew fun e27 w28 => ∃ t29 : Bool, ∃ t30 : Option Addr, ∃ t31 : Nat, ∃ t32 : Nat, e27 = .returned (.agg #[.bool t29, .slice t30 t31 t32]) ∧
(w28.cell? (a21.add 0) = some (.pointer t22)) ∧
Calls Tryz.prog 84 #[.pointer t22, .agg #[.bool t29, .slice t30 t31 t32]] w28 fun e33 w34 => ∃ t35 : Int, e33 = .returned (.int .i64 t35) ∧
Q (.int .i64 t35) w34) (
bsel (t16 == 4) (
nilK x1 fun a38 =>
∃ t39 : Option Addr, w15.drew.cell? (a38.add 0) = some (.pointer t39) ∧
∃ t40 : ByteArray, w15.drew.cell? (a14.add 4) = some (.string t40) ∧
Calls Tryz.prog 86 #[.pointer t39, .string t40] w15.drew fun e41 w42 => ∃ t43 : Int, e41 = .returned (.int .i64 t43) ∧
Q (.int .i64 t43) w42) (
bsel (t16 == 5) (
V40J4 w Q x1 a14 t16 true w15) (
V40J4 w Q x1 a14 t16 (t16 == 6) w15)))))
def V40_ann : Nat → Ann := fun _ => ⟨[], []⟩
theorem V40_eq (x1 : Option Addr) (x2 : Int) (x3 : Bool) (x4 : Bool) (x5 : Option Addr) (x6 : Nat) (x7 : Nat) (x8 : ByteArray) (x9 : Option Addr) (x10 : Nat) (x11 : Nat) (x12 : Bool) (x13 : Bool) (w : World) (Q : Value → World → Prop) : (match Tryz.f40.body with | some c => wpC Tryz.prog Tryz.f40.ntmps V40_ann c 0 (resQ Tryz.prog Tryz.f40.ntmps Tryz.f40.results.toList Q) (argsF [.pointer x1, .agg #[.int .i64 x2, .bool x3, .bool x4, .slice x5 x6 x7, .string x8, .slice x9 x10 x11, .bool x12, .bool x13]]) w | none => False) = V40 x1 x2 x3 x4 x5 x6 x7 x8 x9 x10 x11 x12 x13 w Q := by kernel_rfl
theorem V40_sound (x1 : Option Addr) (x2 : Int) (x3 : Bool) (x4 : Bool) (x5 : Option Addr) (x6 : Nat) (x7 : Nat) (x8 : ByteArray) (x9 : Option Addr) (x10 : Nat) (x11 : Nat) (x12 : Bool) (x13 : Bool) (w : World) (Q : Value → World → Prop) (h : V40 x1 x2 x3 x4 x5 x6 x7 x8 x9 x10 x11 x12 x13 w Q) : Calls Tryz.prog 40 #[.pointer x1, .agg #[.int .i64 x2, .bool x3, .bool x4, .slice x5 x6 x7, .string x8, .slice x9 x10 x11, .bool x12, .bool x13]] w fun e w' => ∃ v, e = .returned v ∧ Q v w' :=
  sound_of Tryz.func40 V40_ann rfl ((V40_eq x1 x2 x3 x4 x5 x6 x7 x8 x9 x10 x11 x12 x13 w Q).mpr h)
def V41 (x1 : Option Addr) (x2 : Int) (w : World) (Q : Value → World → Prop) : Prop :=
bsel (Option.isNone x1) (
Q .nilIface w) (
nilK x1 fun a3 =>
∃ t4 : Option Addr, w.cell? (a3.add 6) = some (.pointer t4) ∧
Calls Tryz.prog 92 #[.pointer t4, .int .i64 x2] w fun e5 w6 => ∃ t7 : Value, ∃ t8 : Bool, e5 = .returned (.tuple #[t7, .bool t8]) ∧
Q t7 w6)
def V41_ann : Nat → Ann := fun _ => ⟨[], []⟩
theorem V41_eq (x1 : Option Addr) (x2 : Int) (w : World) (Q : Value → World → Prop) : (match Tryz.f41.body with | some c => wpC Tryz.prog Tryz.f41.ntmps V41_ann c 0 (resQ Tryz.prog Tryz.f41.ntmps Tryz.f41.results.toList Q) (argsF [.pointer x1, .int .i64 x2]) w | none => False) = V41 x1 x2 w Q := by kernel_rfl
theorem V41_sound (x1 : Option Addr) (x2 : Int) (w : World) (Q : Value → World → Prop) (h : V41 x1 x2 w Q) : Calls Tryz.prog 41 #[.pointer x1, .int .i64 x2] w fun e w' => ∃ v, e = .returned v ∧ Q v w' :=
  sound_of Tryz.func41 V41_ann rfl ((V41_eq x1 x2 w Q).mpr h)
def V71 (x1 : ByteArray) (w : World) (Q : Value → World → Prop) : Prop :=
∃ w2 : World, ∃ t3 : Option Addr, (Instr.range 9 (.string x1)).run Tryz.prog w = .ok (.pointer t3) w2 ∧
∃ (I4 : Int → World → Prop) (μ5 : Int → World → Nat), I4 0 w2 ∧ ∀ (j8 : Fr) (i6 : Int) (w7 : World), I4 i6 w7 →
nextSK (.pointer t3) w7 (fun w9 => (
Q (.int .i64 i6) w9)) fun t10 t11 w12 =>
(I4 (IntKind.wrap .i64 (i6 + 1)) w12 ∧ μ5 (IntKind.wrap .i64 (i6 + 1)) w12 < μ5 i6 w7)
def V71_ann : Nat → Ann := fun k => match k with | 0 => ⟨[5], [(3, .int .i64)]⟩ | _ => ⟨[], []⟩
theorem V71_eq (x1 : ByteArray) (w : World) (Q : Value → World → Prop) : (match Tryz.f71.body with | some c => wpC Tryz.prog Tryz.f71.ntmps V71_ann c 0 (resQ Tryz.prog Tryz.f71.ntmps Tryz.f71.results.toList Q) (argsF [.string x1]) w | none => False) = V71 x1 w Q := by kernel_rfl
theorem V71_sound (x1 : ByteArray) (w : World) (Q : Value → World → Prop) (h : V71 x1 w Q) : Calls Tryz.prog 71 #[.string x1] w fun e w' => ∃ v, e = .returned v ∧ Q v w' :=
  sound_of Tryz.func71 V71_ann rfl ((V71_eq x1 w Q).mpr h)
def V76 (x1 : ByteArray) (w : World) (Q : Value → World → Prop) : Prop :=
newK w #[.pointer none, .slice none 0 0] 150 fun a2 w3 =>
Calls Tryz.prog 130 #[.pointer (some a2), .int .u8 39] w3 fun e4 w5 => ∃ t6 : Value, e4 = .returned (t6) ∧
∃ w7 : World, ∃ t8 : Option Addr, (Instr.range 9 (.string x1)).run Tryz.prog w5 = .ok (.pointer t8) w7 ∧
∃ (I9 : World → Prop) (μ10 : World → Nat), I9  w7 ∧ ∀ (j12 : Fr)  (w11 : World), I9  w11 →
nextSK (.pointer t8) w11 (fun w13 => (
Calls Tryz.prog 130 #[.pointer (some a2), .int .u8 39] w13 fun e17 w18 => ∃ t19 : Value, e17 = .returned (t19) ∧
Calls Tryz.prog 70 #[.pointer (some a2)] w18 fun e20 w21 => ∃ t22 : ByteArray, e20 = .returned (.string t22) ∧
Q (.string t22) w21)) fun t14 t15 w16 =>
Calls Tryz.prog 131 #[.int .i32 t15] w16 fun e23 w24 => ∃ t25 : ByteArray, e23 = .returned (.string t25) ∧
Calls Tryz.prog 69 #[.pointer (some a2), .string t25] w24 fun e26 w27 => ∃ t28 : Int, ∃ t29 : Value, e26 = .returned (.tuple #[.int .i64 t28, t29]) ∧
(I9  w27 ∧ μ10  w27 < μ10  w11)
def V76_ann : Nat → Ann := fun k => match k with | 0 => ⟨[3, 8], []⟩ | _ => ⟨[], []⟩
theorem V76_eq (x1 : ByteArray) (w : World) (Q : Value → World → Prop) : (match Tryz.f76.body with | some c => wpC Tryz.prog Tryz.f76.ntmps V76_ann c 0 (resQ Tryz.prog Tryz.f76.ntmps Tryz.f76.results.toList Q) (argsF [.string x1]) w | none => False) = V76 x1 w Q := by kernel_rfl
theorem V76_sound (x1 : ByteArray) (w : World) (Q : Value → World → Prop) (h : V76 x1 w Q) : Calls Tryz.prog 76 #[.string x1] w fun e w' => ∃ v, e = .returned v ∧ Q v w' :=
  sound_of Tryz.func76 V76_ann rfl ((V76_eq x1 w Q).mpr h)
def V79 (x1 : Int) (w : World) (Q : Value → World → Prop) : Prop :=
bsel (decide (x1 ≥ 1)) (
bsel (decide (x1 ≤ 9)) (
Q (.bool true) w) (
bsel (x1 == 14) (
Q (.bool true) w) (
bsel (decide (x1 ≥ 15)) (
Q (.bool (decide (x1 ≤ 17))) w) (
Q (.bool false) w)))) (
bsel (x1 == 14) (
Q (.bool true) w) (
bsel (decide (x1 ≥ 15)) (
Q (.bool (decide (x1 ≤ 17))) w) (
Q (.bool false) w)))
def V79_ann : Nat → Ann := fun _ => ⟨[], []⟩
theorem V79_eq (x1 : Int) (w : World) (Q : Value → World → Prop) : (match Tryz.f79.body with | some c => wpC Tryz.prog Tryz.f79.ntmps V79_ann c 0 (resQ Tryz.prog Tryz.f79.ntmps Tryz.f79.results.toList Q) (argsF [.int .i64 x1]) w | none => False) = V79 x1 w Q := by kernel_rfl
theorem V79_sound (x1 : Int) (w : World) (Q : Value → World → Prop) (h : V79 x1 w Q) : Calls Tryz.prog 79 #[.int .i64 x1] w fun e w' => ∃ v, e = .returned v ∧ Q v w' :=
  sound_of Tryz.func79 V79_ann rfl ((V79_eq x1 w Q).mpr h)
def V80J1 (Q : Value → World → Prop) (x112 : Option Addr) (x113 : Addr) (x114 : Bool) (w115 : World) : Prop :=
bsel x114 (
∃ t116 : Option Addr, ∃ t117 : Nat, ∃ t118 : Nat, w115.drew.cell? (x113.add 5) = some (.slice t116 t117 t118) ∧
bsel ((t117 : Int) != 1) (
Q (.bool true) w115.drew) (
nilK x112 fun a121 =>
∃ t122 : Option Addr, ∃ t123 : Nat, ∃ t124 : Nat, w115.drew.cell? (a121.add 1) = some (.slice t122 t123 t124) ∧
∃ t125 : Option Addr, ∃ t126 : Nat, ∃ t127 : Nat, w115.drew.cell? (x113.add 5) = some (.slice t125 t126 t127) ∧
idxK t125 t126 0 1 fun a128 =>
∃ t129 : Int, w115.drew.cell? a128 = some (.int .i64 t129) ∧
idxK t122 t123 t129 8 fun a130 =>
∃ t131 : Int, w115.drew.cell? (a130.add 0) = some (.int .i64 t131) ∧
Q (.bool (t131 != 7)) w115.drew)) (
∃ t132 : Option Addr, ∃ t133 : Nat, ∃ t134 : Nat, w115.cell? (x113.add 5) = some (.slice t132 t133 t134) ∧
Q (.bool (decide ((t133 : Int) > 0))) w115)
def V80J2 (Q : Value → World → Prop) (x104 : Option Addr) (x105 : Addr) (x106 : Int) (x107 : Bool) (w108 : World) : Prop :=
bsel x107 (
Q (.bool false) w108) (
bsel (x106 == 7) (
∃ t109 : Option Addr, ∃ t110 : Nat, ∃ t111 : Nat, w108.cell? (x105.add 5) = some (.slice t109 t110 t111) ∧
((2 : Int) ≠ 0) ∧
Q (.bool (Int.tmod (t110 : Int) 2 == 1)) w108) (
bsel (x106 == 15) (
V80J1 Q x104 x105 true w108) (
bsel (x106 == 16) (
V80J1 Q x104 x105 true w108) (
V80J1 Q x104 x105 (x106 == 17) w108))))
def V80J3 (Q : Value → World → Prop) (x35 : Option Addr) (x36 : Addr) (x37 : Int) (w38 : World) : Prop :=
∃ t39 : Option Addr, ∃ t40 : Nat, ∃ t41 : Nat, w38.cell? (x36.add 5) = some (.slice t39 t40 t41) ∧
∃ (I42 : Int → World → Prop) (μ43 : Int → World → Nat), I42 0 w38 ∧ ∀ (j46 : Fr) (i44 : Int) (w45 : World), I42 i44 w45 →
bsel (decide (i44 < (t40 : Int))) (
idxK t39 t40 i44 1 fun a47 =>
∃ t48 : Int, w45.cell? a47 = some (.int .i64 t48) ∧
bsel (decide (t48 < 0)) (
Q (.bool true) w45) (
bsel (decide (t48 ≥ x37)) (
Q (.bool true) w45) (
(I42 (IntKind.wrap .i64 (i44 + 1)) w45 ∧ μ43 (IntKind.wrap .i64 (i44 + 1)) w45 < μ43 i44 w45)))) (
∃ t59 : Int, ∃ t60 : Bool, ∃ t61 : Bool, ∃ t62 : Option Addr, ∃ t63 : Nat, ∃ t64 : Nat, ∃ t65 : ByteArray, ∃ t66 : Option Addr, ∃ t67 : Nat, ∃ t68 : Nat, ∃ t69 : Bool, ∃ t70 : Bool, CellsAt w45 x36 [.int .i64 t59, .bool t60, .bool t61, .slice t62 t63 t64, .string t65, .slice t66 t67 t68, .bool t69, .bool t70] ∧
Calls Tryz.prog 134 #[.agg #[.int .i64 t59, .bool t60, .bool t61, .slice t62 t63 t64, .string t65, .slice t66 t67 t68, .bool t69, .bool t70]] w45 fun e71 w72 => ∃ t73 : Option Addr, ∃ t74 : Nat, ∃ t75 : Nat, e71 = .returned (.slice t73 t74 t75) ∧
∃ (I76 : Int → World → Prop) (μ77 : Int → World → Nat), I76 0 w72 ∧ ∀ (j80 : Fr) (i78 : Int) (w79 : World), I76 i78 w79 →
bsel (decide (i78 < (t74 : Int))) (
idxK t73 t74 i78 1 fun a81 =>
∃ t82 : Int, w79.cell? a81 = some (.int .i64 t82) ∧
nilK x35 fun a83 =>
∃ t84 : Option Addr, ∃ t85 : Nat, ∃ t86 : Nat, w79.cell? (a83.add 1) = some (.slice t84 t85 t86) ∧
idxK t84 t85 t82 8 fun a87 =>
∃ t88 : Int, ∃ t89 : Bool, ∃ t90 : Bool, ∃ t91 : Option Addr, ∃ t92 : Nat, ∃ t93 : Nat, ∃ t94 : ByteArray, ∃ t95 : Option Addr, ∃ t96 : Nat, ∃ t97 : Nat, ∃ t98 : Bool, ∃ t99 : Bool, CellsAt w79 a87 [.int .i64 t88, .bool t89, .bool t90, .slice t91 t92 t93, .string t94, .slice t95 t96 t97, .bool t98, .bool t99] ∧
Calls Tryz.prog 135 #[.agg #[.int .i64 t88, .bool t89, .bool t90, .slice t91 t92 t93, .string t94, .slice t95 t96 t97, .bool t98, .bool t99]] w79 fun e100 w101 => ∃ t102 : Bool, e100 = .returned (.bool t102) ∧
bsel (!t102) (
Q (.bool true) w101) (
(I76 (IntKind.wrap .i64 (i78 + 1)) w101 ∧ μ77 (IntKind.wrap .i64 (i78 + 1)) w101 < μ77 i78 w79))) (
∃ t103 : Int, w79.cell? (x36.add 0) = some (.int .i64 t103) ∧
bsel (t103 == 5) (
V80J2 Q x35 x36 t103 true w79) (
bsel (t103 == 6) (
V80J2 Q x35 x36 t103 true w79) (
bsel (t103 == 8) (
V80J2 Q x35 x36 t103 true w79) (
V80J2 Q x35 x36 t103 (t103 == 9) w79)))))
def V80 (x1 : Option Addr) (x2 : Int) (w : World) (Q : Value → World → Prop) : Prop :=
nilK x1 fun a3 =>
∃ t4 : Option Addr, ∃ t5 : Nat, ∃ t6 : Nat, w.cell? (a3.add 1) = some (.slice t4 t5 t6) ∧
idxK t4 t5 x2 8 fun a7 =>
∃ t8 : Int, ∃ t9 : Bool, ∃ t10 : Bool, ∃ t11 : Option Addr, ∃ t12 : Nat, ∃ t13 : Nat, ∃ t14 : ByteArray, ∃ t15 : Option Addr, ∃ t16 : Nat, ∃ t17 : Nat, ∃ t18 : Bool, ∃ t19 : Bool, CellsAt w a7 [.int .i64 t8, .bool t9, .bool t10, .slice t11 t12 t13, .string t14, .slice t15 t16 t17, .bool t18, .bool t19] ∧
newK w #[.int .i64 0, .bool false, .bool false, .slice none 0 0, .string ⟨#[]⟩, .slice none 0 0, .bool false, .bool false] 42 fun a20 w21 =>
stK w21 (a20.add 0) (.int .i64 t8) fun w22 =>
stK w22 (a20.add 1) (.bool t9) fun w23 =>
stK w23 (a20.add 2) (.bool t10) fun w24 =>
stK w24 (a20.add 3) (.slice t11 t12 t13) fun w25 =>
stK w25 (a20.add 4) (.string t14) fun w26 =>
stK w26 (a20.add 5) (.slice t15 t16 t17) fun w27 =>
stK w27 (a20.add 6) (.bool t18) fun w28 =>
stK w28 (a20.add 7) (.bool t19) fun w29 =>
∃ t30 : Int, w29.cell? (a20.add 0) = some (.int .i64 t30) ∧
bsel (t30 == 6) (
nilK x1 fun a31 =>
∃ t32 : Option Addr, ∃ t33 : Nat, ∃ t34 : Nat, w29.cell? (a31.add 1) = some (.slice t32 t33 t34) ∧
V80J3 Q x1 a20 (t33 : Int) w29) (
V80J3 Q x1 a20 x2 w29)
def V80_ann : Nat → Ann := fun k => match k with | 0 => ⟨[0, 5, 6, 28, 29], [(30, .int .i64)]⟩ | 1 => ⟨[0, 5, 43, 44], [(45, .int .i64)]⟩ | _ => ⟨[], []⟩
theorem V80_eq (x1 : Option Addr) (x2 : Int) (w : World) (Q : Value → World → Prop) : (match Tryz.f80.body with | some c => wpC Tryz.prog Tryz.f80.ntmps V80_ann c 0 (resQ Tryz.prog Tryz.f80.ntmps Tryz.f80.results.toList Q) (argsF [.pointer x1, .int .i64 x2]) w | none => False) = V80 x1 x2 w Q := by kernel_rfl
theorem V80_sound (x1 : Option Addr) (x2 : Int) (w : World) (Q : Value → World → Prop) (h : V80 x1 x2 w Q) : Calls Tryz.prog 80 #[.pointer x1, .int .i64 x2] w fun e w' => ∃ v, e = .returned v ∧ Q v w' :=
  sound_of Tryz.func80 V80_ann rfl ((V80_eq x1 x2 w Q).mpr h)
def V81 (x1 : ByteArray) (w : World) (Q : Value → World → Prop) : Prop :=
Calls Tryz.prog 136 #[.string x1] w fun e2 w3 => ∃ t4 : Bool, e2 = .returned (.bool t4) ∧
Q (.bool t4) w3
def V81_ann : Nat → Ann := fun _ => ⟨[], []⟩
theorem V81_eq (x1 : ByteArray) (w : World) (Q : Value → World → Prop) : (match Tryz.f81.body with | some c => wpC Tryz.prog Tryz.f81.ntmps V81_ann c 0 (resQ Tryz.prog Tryz.f81.ntmps Tryz.f81.results.toList Q) (argsF [.string x1]) w | none => False) = V81 x1 w Q := by kernel_rfl
theorem V81_sound (x1 : ByteArray) (w : World) (Q : Value → World → Prop) (h : V81 x1 w Q) : Calls Tryz.prog 81 #[.string x1] w fun e w' => ∃ v, e = .returned v ∧ Q v w' :=
  sound_of Tryz.func81 V81_ann rfl ((V81_eq x1 w Q).mpr h)
def V82J1 (Q : Value → World → Prop) (x45 : Option Addr) (x46 : Addr) (x47 : Bool) (w48 : World) : Prop :=
bsel x47 (
∃ t49 : Option Addr, ∃ t50 : Nat, ∃ t51 : Nat, w48.cell? (x46.add 5) = some (.slice t49 t50 t51) ∧
Q (.bool (decide ((t50 : Int) > 65536))) w48) (
∃ w52 : World, ∃ t53 : Option Nat, (Instr.makeMap 259 none).run Tryz.prog w48 = .ok (.map t53) w52 ∧
∃ t54 : Int, ∃ t55 : Bool, ∃ t56 : Bool, ∃ t57 : Option Addr, ∃ t58 : Nat, ∃ t59 : Nat, ∃ t60 : ByteArray, ∃ t61 : Option Addr, ∃ t62 : Nat, ∃ t63 : Nat, ∃ t64 : Bool, ∃ t65 : Bool, CellsAt w52 x46 [.int .i64 t54, .bool t55, .bool t56, .slice t57 t58 t59, .string t60, .slice t61 t62 t63, .bool t64, .bool t65] ∧
Calls Tryz.prog 134 #[.agg #[.int .i64 t54, .bool t55, .bool t56, .slice t57 t58 t59, .string t60, .slice t61 t62 t63, .bool t64, .bool t65]] w52 fun e66 w67 => ∃ t68 : Option Addr, ∃ t69 : Nat, ∃ t70 : Nat, e66 = .returned (.slice t68 t69 t70) ∧
∃ (I71 : Int → World → Prop) (μ72 : Int → World → Nat), I71 0 w67 ∧ ∀ (j75 : Fr) (i73 : Int) (w74 : World), I71 i73 w74 →
bsel (decide (i73 < (t69 : Int))) (
idxK t68 t69 i73 1 fun a76 =>
∃ t77 : Int, w74.cell? a76 = some (.int .i64 t77) ∧
Calls Tryz.prog 137 #[.pointer x45, .int .i64 t77] w74 fun e78 w79 => ∃ t80 : ByteArray, e78 = .returned (.string t80) ∧
∃ w81 : World, ∃ t82 : Int, (Instr.lookup 259 (.map t53) (.string t80) false).run Tryz.prog w79 = .ok (.int .i64 t82) w81 ∧
∃ w83 : World, (Instr.mapUpdate 259 (.map t53) (.string t80) (.int .i64 (IntKind.wrap .i64 (t82 + 1)))).run Tryz.prog w81 = .ok () w83 ∧
(I71 (IntKind.wrap .i64 (i73 + 1)) w83 ∧ μ72 (IntKind.wrap .i64 (i73 + 1)) w83 < μ72 i73 w74)) (
nilK x45 fun a84 =>
∃ t85 : Option Addr, w74.drew.cell? (a84.add 0) = some (.pointer t85) ∧
nilK t85 fun a86 =>
∃ t87 : Int, w74.drew.cell? ((a86.add 0).add 1) = some (.int .i64 t87) ∧
∃ w88 : World, ∃ t89 : Int, (vcEff.bltV .len #[259] 3 #[.map t53]).run Tryz.prog w74.drew = .ok (.int .i64 t89) w88 ∧
(w88.cell? ((a86.add 0).add 1) = some (.int .i64 t87)) ∧
(w88.cell? (a84.add 0) = some (.pointer t85)) ∧
Q (.bool (decide (t89 > t87))) w88))
def V82 (x1 : Option Addr) (x2 : Int) (w : World) (Q : Value → World → Prop) : Prop :=
nilK x1 fun a3 =>
∃ t4 : Option Addr, ∃ t5 : Nat, ∃ t6 : Nat, w.cell? (a3.add 1) = some (.slice t4 t5 t6) ∧
idxK t4 t5 x2 8 fun a7 =>
∃ t8 : Int, ∃ t9 : Bool, ∃ t10 : Bool, ∃ t11 : Option Addr, ∃ t12 : Nat, ∃ t13 : Nat, ∃ t14 : ByteArray, ∃ t15 : Option Addr, ∃ t16 : Nat, ∃ t17 : Nat, ∃ t18 : Bool, ∃ t19 : Bool, CellsAt w a7 [.int .i64 t8, .bool t9, .bool t10, .slice t11 t12 t13, .string t14, .slice t15 t16 t17, .bool t18, .bool t19] ∧
newK w #[.int .i64 0, .bool false, .bool false, .slice none 0 0, .string ⟨#[]⟩, .slice none 0 0, .bool false, .bool false] 42 fun a20 w21 =>
stK w21 (a20.add 0) (.int .i64 t8) fun w22 =>
stK w22 (a20.add 1) (.bool t9) fun w23 =>
stK w23 (a20.add 2) (.bool t10) fun w24 =>
stK w24 (a20.add 3) (.slice t11 t12 t13) fun w25 =>
stK w25 (a20.add 4) (.string t14) fun w26 =>
stK w26 (a20.add 5) (.slice t15 t16 t17) fun w27 =>
stK w27 (a20.add 6) (.bool t18) fun w28 =>
stK w28 (a20.add 7) (.bool t19) fun w29 =>
∃ t30 : Int, w29.cell? (a20.add 0) = some (.int .i64 t30) ∧
bsel (t30 == 4) (
∃ t31 : ByteArray, w29.cell? (a20.add 4) = some (.string t31) ∧
Calls Tryz.prog 71 #[.string t31] w29 fun e32 w33 => ∃ t34 : Int, e32 = .returned (.int .i64 t34) ∧
Q (.bool (decide (t34 > 65536))) w33) (
bsel (t30 == 3) (
∃ t35 : Bool, ∃ t36 : Option Addr, ∃ t37 : Nat, ∃ t38 : Nat, CellsAt w29 (a20.add 2) [.bool t35, .slice t36 t37 t38] ∧
Calls Tryz.prog 85 #[.agg #[.bool t35, .slice t36 t37 t38]] w29 fun e39 w40 => ∃ t41 : Bool, ∃ t42 : Option Addr, ∃ t43 : Nat, ∃ t44 : Nat, e39 = .returned (.agg #[.bool t41, .slice t42 t43 t44]) ∧
Q (.bool (decide ((t43 : Int) > 256))) w40) (
bsel (t30 == 5) (
V82J1 Q x1 a20 true w29) (
V82J1 Q x1 a20 (t30 == 6) w29)))
def V82_ann : Nat → Ann := fun k => match k with | 0 => ⟨[0, 6, 41, 42], [(43, .int .i64)]⟩ | _ => ⟨[], []⟩
theorem V82_eq (x1 : Option Addr) (x2 : Int) (w : World) (Q : Value → World → Prop) : (match Tryz.f82.body with | some c => wpC Tryz.prog Tryz.f82.ntmps V82_ann c 0 (resQ Tryz.prog Tryz.f82.ntmps Tryz.f82.results.toList Q) (argsF [.pointer x1, .int .i64 x2]) w | none => False) = V82 x1 x2 w Q := by kernel_rfl
theorem V82_sound (x1 : Option Addr) (x2 : Int) (w : World) (Q : Value → World → Prop) (h : V82 x1 x2 w Q) : Calls Tryz.prog 82 #[.pointer x1, .int .i64 x2] w fun e w' => ∃ v, e = .returned v ∧ Q v w' :=
  sound_of Tryz.func82 V82_ann rfl ((V82_eq x1 x2 w Q).mpr h)
def V83 (x1 : Bool) (w : World) (Q : Value → World → Prop) : Prop :=
bsel x1 (
Q (.int .i64 2) w) (
Q (.int .i64 1) w)
def V83_ann : Nat → Ann := fun _ => ⟨[], []⟩
theorem V83_eq (x1 : Bool) (w : World) (Q : Value → World → Prop) : (match Tryz.f83.body with | some c => wpC Tryz.prog Tryz.f83.ntmps V83_ann c 0 (resQ Tryz.prog Tryz.f83.ntmps Tryz.f83.results.toList Q) (argsF [.bool x1]) w | none => False) = V83 x1 w Q := by kernel_rfl
theorem V83_sound (x1 : Bool) (w : World) (Q : Value → World → Prop) (h : V83 x1 w Q) : Calls Tryz.prog 83 #[.bool x1] w fun e w' => ∃ v, e = .returned v ∧ Q v w' :=
  sound_of Tryz.func83 V83_ann rfl ((V83_eq x1 w Q).mpr h)
def V86 (x1 : Option Addr) (x2 : ByteArray) (w : World) (Q : Value → World → Prop) : Prop :=
Calls Tryz.prog 138 #[.pointer x1] w fun e3 w4 => ∃ t5 : Value, e3 = .returned (t5) ∧
nilK x1 fun a6 =>
∃ t7 : Option Addr, w4.cell? (a6.add 6) = some (.pointer t7) ∧
Calls Tryz.prog 38 #[.pointer t7, .iface 160 (.agg #[.string x2])] w4 fun e8 w9 => ∃ t10 : Int, e8 = .returned (.int .i64 t10) ∧
Q (.int .i64 t10) w9
def V86_ann : Nat → Ann := fun _ => ⟨[], []⟩
theorem V86_eq (x1 : Option Addr) (x2 : ByteArray) (w : World) (Q : Value → World → Prop) : (match Tryz.f86.body with | some c => wpC Tryz.prog Tryz.f86.ntmps V86_ann c 0 (resQ Tryz.prog Tryz.f86.ntmps Tryz.f86.results.toList Q) (argsF [.pointer x1, .string x2]) w | none => False) = V86 x1 x2 w Q := by kernel_rfl
theorem V86_sound (x1 : Option Addr) (x2 : ByteArray) (w : World) (Q : Value → World → Prop) (h : V86 x1 x2 w Q) : Calls Tryz.prog 86 #[.pointer x1, .string x2] w fun e w' => ∃ v, e = .returned v ∧ Q v w' :=
  sound_of Tryz.func86 V86_ann rfl ((V86_eq x1 x2 w Q).mpr h)
def V87 (x1 : Option Addr) (x2 : Int) (x3 : Option Addr) (x4 : Nat) (x5 : Nat) (w : World) (Q : Value → World → Prop) : Prop :=
nilK x1 fun a6 =>
∃ t7 : Option Addr, w.drew.cell? (a6.add 6) = some (.pointer t7) ∧
Calls Tryz.prog 140 #[.pointer x1] w.drew fun e8 w9 => ∃ t10 : Int, e8 = .returned (.agg #[.int .i64 t10]) ∧
(w9.cell? (a6.add 6) = some (.pointer t7)) ∧
newK w9 #[.int .i64 t10, .slice x3 x4 x5, .int .i64 x2] 100 fun a11 w12 =>
(w12.cell? (a6.add 6) = some (.pointer t7)) ∧
Calls Tryz.prog 38 #[.pointer t7, .iface 94 (.pointer (some a11))] w12 fun e13 w14 => ∃ t15 : Int, e13 = .returned (.int .i64 t15) ∧
Q (.int .i64 t15) w14
def V87_ann : Nat → Ann := fun _ => ⟨[], []⟩
theorem V87_eq (x1 : Option Addr) (x2 : Int) (x3 : Option Addr) (x4 : Nat) (x5 : Nat) (w : World) (Q : Value → World → Prop) : (match Tryz.f87.body with | some c => wpC Tryz.prog Tryz.f87.ntmps V87_ann c 0 (resQ Tryz.prog Tryz.f87.ntmps Tryz.f87.results.toList Q) (argsF [.pointer x1, .int .i64 x2, .slice x3 x4 x5]) w | none => False) = V87 x1 x2 x3 x4 x5 w Q := by kernel_rfl
theorem V87_sound (x1 : Option Addr) (x2 : Int) (x3 : Option Addr) (x4 : Nat) (x5 : Nat) (w : World) (Q : Value → World → Prop) (h : V87 x1 x2 x3 x4 x5 w Q) : Calls Tryz.prog 87 #[.pointer x1, .int .i64 x2, .slice x3 x4 x5] w fun e w' => ∃ v, e = .returned v ∧ Q v w' :=
  sound_of Tryz.func87 V87_ann rfl ((V87_eq x1 x2 x3 x4 x5 w Q).mpr h)
def V92 (x1 : Option Addr) (x2 : Int) (w : World) (Q : Value → World → Prop) : Prop :=
Calls Tryz.prog 146 #[.pointer x1, .int .i64 x2] w fun e3 w4 => ∃ t5 : Bool, e3 = .returned (.bool t5) ∧
bsel (!t5) (
newK w4 #[.nilIface] 77 fun a6 w7 =>
∃ t8 : Value, w7.cell? a6 = some (t8) ∧
Q (.tuple #[t8, .bool false]) w7) (
nilK x1 fun a9 =>
∃ t10 : Option Addr, ∃ t11 : Nat, ∃ t12 : Nat, w4.cell? (a9.add 0) = some (.slice t10 t11 t12) ∧
idxK t10 t11 x2 1 fun a13 =>
∃ t14 : Value, w4.cell? a13 = some (t14) ∧
Q (.tuple #[t14, .bool true]) w4)
def V92_ann : Nat → Ann := fun _ => ⟨[], []⟩
theorem V92_eq (x1 : Option Addr) (x2 : Int) (w : World) (Q : Value → World → Prop) : (match Tryz.f92.body with | some c => wpC Tryz.prog Tryz.f92.ntmps V92_ann c 0 (resQ Tryz.prog Tryz.f92.ntmps Tryz.f92.results.toList Q) (argsF [.pointer x1, .int .i64 x2]) w | none => False) = V92 x1 x2 w Q := by kernel_rfl
theorem V92_sound (x1 : Option Addr) (x2 : Int) (w : World) (Q : Value → World → Prop) (h : V92 x1 x2 w Q) : Calls Tryz.prog 92 #[.pointer x1, .int .i64 x2] w fun e w' => ∃ v, e = .returned v ∧ Q v w' :=
  sound_of Tryz.func92 V92_ann rfl ((V92_eq x1 x2 w Q).mpr h)
def V131J1 (Q : Value → World → Prop) (x13 : Int) (x14 : Bool) (w15 : World) : Prop :=
bsel x14 (
Calls Tryz.prog 207 #[.int .i32 x13, .int .i64 4] w15 fun e16 w17 => ∃ t18 : ByteArray, e16 = .returned (.string t18) ∧
((((⟨#[92, 117]⟩ : ByteArray).size + t18.size : Nat) : Int) ≤ 9223372036854775807) ∧
Q (.string ((⟨#[92, 117]⟩ : ByteArray) ++ t18)) w17) (
∃ w19 : World, ∃ t20 : ByteArray, (Go.convert 21 9 (.int .i32 x13)).run Tryz.prog w15 = .ok (.string t20) w19 ∧
Q (.string t20) w19)
def V131J2 (Q : Value → World → Prop) (x7 : Int) (x8 : Bool) (w9 : World) : Prop :=
bsel x8 (
Calls Tryz.prog 207 #[.int .i32 x7, .int .i64 2] w9 fun e10 w11 => ∃ t12 : ByteArray, e10 = .returned (.string t12) ∧
((((⟨#[92, 120]⟩ : ByteArray).size + t12.size : Nat) : Int) ≤ 9223372036854775807) ∧
Q (.string ((⟨#[92, 120]⟩ : ByteArray) ++ t12)) w11) (
bsel (decide (x7 ≥ 128)) (
bsel (decide (x7 ≤ 159)) (
V131J1 Q x7 true w9) (
bsel (x7 == 8232) (
V131J1 Q x7 true w9) (
bsel (x7 == 8233) (
V131J1 Q x7 true w9) (
V131J1 Q x7 (x7 == 65279) w9)))) (
bsel (x7 == 8232) (
V131J1 Q x7 true w9) (
bsel (x7 == 8233) (
V131J1 Q x7 true w9) (
V131J1 Q x7 (x7 == 65279) w9))))
def V131J3 (Q : Value → World → Prop) (x2 : Int) (x3 : Bool) (w4 : World) : Prop :=
bsel x3 (
∃ w5 : World, ∃ t6 : ByteArray, (Go.convert 21 9 (.int .i32 x2)).run Tryz.prog w4 = .ok (.string t6) w5 ∧
((((⟨#[92]⟩ : ByteArray).size + t6.size : Nat) : Int) ≤ 9223372036854775807) ∧
Q (.string ((⟨#[92]⟩ : ByteArray) ++ t6)) w5) (
bsel (x2 == 10) (
Q (.string (⟨#[92, 110]⟩ : ByteArray)) w4) (
bsel (x2 == 9) (
Q (.string (⟨#[92, 116]⟩ : ByteArray)) w4) (
bsel (decide (x2 < 32)) (
V131J2 Q x2 true w4) (
V131J2 Q x2 (x2 == 127) w4))))
def V131 (x1 : Int) (w : World) (Q : Value → World → Prop) : Prop :=
bsel (x1 == 39) (
V131J3 Q x1 true w) (
V131J3 Q x1 (x1 == 92) w)
def V131_ann : Nat → Ann := fun _ => ⟨[], []⟩
theorem V131_eq (x1 : Int) (w : World) (Q : Value → World → Prop) : (match Tryz.f131.body with | some c => wpC Tryz.prog Tryz.f131.ntmps V131_ann c 0 (resQ Tryz.prog Tryz.f131.ntmps Tryz.f131.results.toList Q) (argsF [.int .i32 x1]) w | none => False) = V131 x1 w Q := by kernel_rfl
theorem V131_sound (x1 : Int) (w : World) (Q : Value → World → Prop) (h : V131 x1 w Q) : Calls Tryz.prog 131 #[.int .i32 x1] w fun e w' => ∃ v, e = .returned v ∧ Q v w' :=
  sound_of Tryz.func131 V131_ann rfl ((V131_eq x1 w Q).mpr h)
def V134J1 (Q : Value → World → Prop) (x16 : Addr) (x17 : Int) (x18 : Bool) (w19 : World) : Prop :=
bsel x18 (
∃ t20 : Option Addr, ∃ t21 : Nat, ∃ t22 : Nat, w19.cell? (x16.add 5) = some (.slice t20 t21 t22) ∧
Q (.slice t20 t21 t22) w19) (
bsel (x17 == 7) (
∃ (I23 : Option Addr → Nat → Nat → Int → World → Prop) (μ24 : Option Addr → Nat → Nat → Int → World → Nat), I23 none 0 0 0 w19 ∧ ∀ (j30 : Fr) (i25 : Option Addr) (i26 : Nat) (i27 : Nat) (i28 : Int) (w29 : World), I23 i25 i26 i27 i28 w29 →
∃ t31 : Option Addr, ∃ t32 : Nat, ∃ t33 : Nat, w29.cell? (x16.add 5) = some (.slice t31 t32 t33) ∧
bsel (decide (i28 < (t32 : Int))) (
∃ t34 : Option Addr, ∃ t35 : Nat, ∃ t36 : Nat, w29.cell? (x16.add 5) = some (.slice t34 t35 t36) ∧
idxK t34 t35 i28 1 fun a37 =>
∃ t38 : Int, w29.cell? a37 = some (.int .i64 t38) ∧
newK w29 #[.int .i64 t38] 3 fun a39 w40 =>
∃ w41 : World, ∃ t42 : Option Addr, ∃ t43 : Nat, ∃ t44 : Nat, (vcEff.bltV .append #[30, 30] 30 #[.slice i25 i26 i27, .slice (some a39) 1 1]).run Tryz.prog w40 = .ok (.slice t42 t43 t44) w41 ∧
(I23 t42 t43 t44 (IntKind.wrap .i64 (i28 + 2)) w41 ∧ μ24 t42 t43 t44 (IntKind.wrap .i64 (i28 + 2)) w41 < μ24 i25 i26 i27 i28 w29)) (
Q (.slice i25 i26 i27) w29)) (
Q (.slice none 0 0) w19))
def V134 (x1 : Int) (x2 : Bool) (x3 : Bool) (x4 : Option Addr) (x5 : Nat) (x6 : Nat) (x7 : ByteArray) (x8 : Option Addr) (x9 : Nat) (x10 : Nat) (x11 : Bool) (x12 : Bool) (w : World) (Q : Value → World → Prop) : Prop :=
newK w #[.int .i64 x1, .bool x2, .bool x3, .slice x4 x5 x6, .string x7, .slice x8 x9 x10, .bool x11, .bool x12] 42 fun a13 w14 =>
∃ t15 : Int, w14.cell? (a13.add 0) = some (.int .i64 t15) ∧
bsel (t15 == 8) (
V134J1 Q a13 t15 true w14) (
V134J1 Q a13 t15 (t15 == 9) w14)
def V134_ann : Nat → Ann := fun k => match k with | 0 => ⟨[1], [(3, .slice), (4, .int .i64)]⟩ | _ => ⟨[], []⟩
theorem V134_eq (x1 : Int) (x2 : Bool) (x3 : Bool) (x4 : Option Addr) (x5 : Nat) (x6 : Nat) (x7 : ByteArray) (x8 : Option Addr) (x9 : Nat) (x10 : Nat) (x11 : Bool) (x12 : Bool) (w : World) (Q : Value → World → Prop) : (match Tryz.f134.body with | some c => wpC Tryz.prog Tryz.f134.ntmps V134_ann c 0 (resQ Tryz.prog Tryz.f134.ntmps Tryz.f134.results.toList Q) (argsF [.agg #[.int .i64 x1, .bool x2, .bool x3, .slice x4 x5 x6, .string x7, .slice x8 x9 x10, .bool x11, .bool x12]]) w | none => False) = V134 x1 x2 x3 x4 x5 x6 x7 x8 x9 x10 x11 x12 w Q := by kernel_rfl
theorem V134_sound (x1 : Int) (x2 : Bool) (x3 : Bool) (x4 : Option Addr) (x5 : Nat) (x6 : Nat) (x7 : ByteArray) (x8 : Option Addr) (x9 : Nat) (x10 : Nat) (x11 : Bool) (x12 : Bool) (w : World) (Q : Value → World → Prop) (h : V134 x1 x2 x3 x4 x5 x6 x7 x8 x9 x10 x11 x12 w Q) : Calls Tryz.prog 134 #[.agg #[.int .i64 x1, .bool x2, .bool x3, .slice x4 x5 x6, .string x7, .slice x8 x9 x10, .bool x11, .bool x12]] w fun e w' => ∃ v, e = .returned v ∧ Q v w' :=
  sound_of Tryz.func134 V134_ann rfl ((V134_eq x1 x2 x3 x4 x5 x6 x7 x8 x9 x10 x11 x12 w Q).mpr h)
def V135 (x1 : Int) (x2 : Bool) (x3 : Bool) (x4 : Option Addr) (x5 : Nat) (x6 : Nat) (x7 : ByteArray) (x8 : Option Addr) (x9 : Nat) (x10 : Nat) (x11 : Bool) (x12 : Bool) (w : World) (Q : Value → World → Prop) : Prop :=
newK w #[.int .i64 x1, .bool x2, .bool x3, .slice x4 x5 x6, .string x7, .slice x8 x9 x10, .bool x11, .bool x12] 42 fun a13 w14 =>
∃ t15 : Int, w14.cell? (a13.add 0) = some (.int .i64 t15) ∧
bsel (decide (t15 ≥ 1)) (
∃ t16 : Int, w14.cell? (a13.add 0) = some (.int .i64 t16) ∧
bsel (decide (t16 ≤ 4)) (
Q (.bool true) w14) (
∃ t19 : Int, w14.cell? (a13.add 0) = some (.int .i64 t19) ∧
bsel (t19 == 14) (
∃ t20 : Bool, w14.cell? (a13.add 6) = some (.bool t20) ∧
bsel t20 (
Q (.bool true) w14) (
∃ t21 : Bool, w14.cell? (a13.add 7) = some (.bool t21) ∧
Q (.bool (!t21)) w14)) (
Q (.bool false) w14))) (
∃ t22 : Int, w14.cell? (a13.add 0) = some (.int .i64 t22) ∧
bsel (t22 == 14) (
∃ t23 : Bool, w14.cell? (a13.add 6) = some (.bool t23) ∧
bsel t23 (
Q (.bool true) w14) (
∃ t24 : Bool, w14.cell? (a13.add 7) = some (.bool t24) ∧
Q (.bool (!t24)) w14)) (
Q (.bool false) w14))
def V135_ann : Nat → Ann := fun _ => ⟨[], []⟩
theorem V135_eq (x1 : Int) (x2 : Bool) (x3 : Bool) (x4 : Option Addr) (x5 : Nat) (x6 : Nat) (x7 : ByteArray) (x8 : Option Addr) (x9 : Nat) (x10 : Nat) (x11 : Bool) (x12 : Bool) (w : World) (Q : Value → World → Prop) : (match Tryz.f135.body with | some c => wpC Tryz.prog Tryz.f135.ntmps V135_ann c 0 (resQ Tryz.prog Tryz.f135.ntmps Tryz.f135.results.toList Q) (argsF [.agg #[.int .i64 x1, .bool x2, .bool x3, .slice x4 x5 x6, .string x7, .slice x8 x9 x10, .bool x11, .bool x12]]) w | none => False) = V135 x1 x2 x3 x4 x5 x6 x7 x8 x9 x10 x11 x12 w Q := by kernel_rfl
theorem V135_sound (x1 : Int) (x2 : Bool) (x3 : Bool) (x4 : Option Addr) (x5 : Nat) (x6 : Nat) (x7 : ByteArray) (x8 : Option Addr) (x9 : Nat) (x10 : Nat) (x11 : Bool) (x12 : Bool) (w : World) (Q : Value → World → Prop) (h : V135 x1 x2 x3 x4 x5 x6 x7 x8 x9 x10 x11 x12 w Q) : Calls Tryz.prog 135 #[.agg #[.int .i64 x1, .bool x2, .bool x3, .slice x4 x5 x6, .string x7, .slice x8 x9 x10, .bool x11, .bool x12]] w fun e w' => ∃ v, e = .returned v ∧ Q v w' :=
  sound_of Tryz.func135 V135_ann rfl ((V135_eq x1 x2 x3 x4 x5 x6 x7 x8 x9 x10 x11 x12 w Q).mpr h)
def V136J1 (I2 : ByteArray → World → Prop) (μ3 : ByteArray → World → Nat) (i4 : ByteArray) (w5 : World) (x23 : ByteArray) (x24 : Bool) (w25 : World) : Prop :=
bsel x24 (
sslK x23 16 x23.size fun s26 =>
∃ (I27 : ByteArray → World → Prop) (μ28 : ByteArray → World → Nat), I27 s26 w25 ∧ ∀ (j31 : Fr) (i29 : ByteArray) (w30 : World), I27 i29 w30 →
bsel (decide ((i29.size : Int) > 32)) (
sslK i29 8 i29.size fun s32 =>
sslK i29 16 i29.size fun s33 =>
sslK i29 24 i29.size fun s34 =>
Calls Tryz.prog 209 #[.string i29] w30.drew fun e35 w36 => ∃ t37 : Int, e35 = .returned (.int .u64 t37) ∧
Calls Tryz.prog 209 #[.string s32] w36 fun e38 w39 => ∃ t40 : Int, e38 = .returned (.int .u64 t40) ∧
Calls Tryz.prog 209 #[.string s33] w39 fun e41 w42 => ∃ t43 : Int, e41 = .returned (.int .u64 t43) ∧
Calls Tryz.prog 209 #[.string s34] w42 fun e44 w45 => ∃ t46 : Int, e44 = .returned (.int .u64 t46) ∧
bsel (bAnd .u64 (bOr .u64 (bOr .u64 t37 t40) (bOr .u64 t43 t46)) 9259542123273814144 == 0) (
sslK i29 32 i29.size fun s57 =>
(I27 s57 w45 ∧ μ28 s57 w45 < μ28 i29 w30)) (
(I2 i29 w45 ∧ μ3 i29 w45 < μ3 i4 w5))) (
(I2 i29 w30.drew ∧ μ3 i29 w30.drew < μ3 i4 w5))) (
(I2 x23 w25 ∧ μ3 x23 w25 < μ3 i4 w5))
def V136J2 (I2 : ByteArray → World → Prop) (μ3 : ByteArray → World → Nat) (i4 : ByteArray) (w5 : World) (x12 : ByteArray) (x13 : Bool) (w14 : World) : Prop :=
bsel x13 (
sslK x12 8 x12.size fun s15 =>
bsel (decide ((s15.size : Int) > 16)) (
sslK s15 8 s15.size fun s16 =>
Calls Tryz.prog 209 #[.string s15] w14.drew fun e17 w18 => ∃ t19 : Int, e17 = .returned (.int .u64 t19) ∧
Calls Tryz.prog 209 #[.string s16] w18 fun e20 w21 => ∃ t22 : Int, e20 = .returned (.int .u64 t22) ∧
V136J1 I2 μ3 i4 w5 s15 (bAnd .u64 (bOr .u64 t19 t22) 9259542123273814144 == 0) w21) (
V136J1 I2 μ3 i4 w5 s15 false w14.drew)) (
(I2 x12 w14 ∧ μ3 x12 w14 < μ3 i4 w5))
def V136 (x1 : ByteArray) (w : World) (Q : Value → World → Prop) : Prop :=
∃ (I2 : ByteArray → World → Prop) (μ3 : ByteArray → World → Nat), I2 x1 w ∧ ∀ (j6 : Fr) (i4 : ByteArray) (w5 : World), I2 i4 w5 →
bsel (decide ((i4.size : Int) > 0)) (
sidxK i4 0 fun c7 =>
bsel (decide (c7 < 128)) (
sslK i4 1 i4.size fun s8 =>
bsel (decide ((s8.size : Int) > 8)) (
Calls Tryz.prog 209 #[.string s8] w5 fun e9 w10 => ∃ t11 : Int, e9 = .returned (.int .u64 t11) ∧
V136J2 I2 μ3 i4 w5 s8 (bAnd .u64 t11 9259542123273814144 == 0) w10) (
V136J2 I2 μ3 i4 w5 s8 false w5)) (
aidxK ⟨1, 0, none⟩ 256 c7 1 fun a58 =>
∃ t59 : Int, w5.cell? a58 = some (.int .u8 t59) ∧
((0 : Int) ≤ 4) ∧
aidxK ⟨2, 0, none⟩ 16 (shr .u8 t59 4) 2 fun a60 =>
∃ t61 : Int, ∃ t62 : Int, CellsAt w5 a60 [.int .u8 t61, .int .u8 t62] ∧
newK w5 #[.int .u8 0, .int .u8 0] 329 fun a63 w64 =>
stK w64 (a63.add 0) (.int .u8 t61) fun w65 =>
stK w65 (a63.add 1) (.int .u8 t62) fun w66 =>
bsel (IntKind.wrap .i64 (bAnd .u8 t59 7) == 2) (
bsel (decide ((i4.size : Int) < 2)) (
Q (.bool false) w66.drew) (
sidxK i4 1 fun c73 =>
∃ t74 : Int, w66.drew.cell? (a63.add 0) = some (.int .u8 t74) ∧
bsel (decide (c73 < t74)) (
Q (.bool false) w66.drew) (
∃ t75 : Int, w66.drew.cell? (a63.add 1) = some (.int .u8 t75) ∧
sidxK i4 1 fun c76 =>
bsel (decide (t75 < c76)) (
Q (.bool false) w66.drew) (
sslK i4 2 i4.size fun s77 =>
(I2 s77 w66.drew ∧ μ3 s77 w66.drew < μ3 i4 w5))))) (
bsel (IntKind.wrap .i64 (bAnd .u8 t59 7) == 3) (
bsel (decide ((i4.size : Int) < 3)) (
Q (.bool false) w66.drew) (
sidxK i4 1 fun c84 =>
∃ t85 : Int, w66.drew.cell? (a63.add 0) = some (.int .u8 t85) ∧
bsel (decide (c84 < t85)) (
Q (.bool false) w66.drew) (
∃ t86 : Int, w66.drew.cell? (a63.add 1) = some (.int .u8 t86) ∧
sidxK i4 1 fun c87 =>
bsel (decide (t86 < c87)) (
Q (.bool false) w66.drew) (
sidxK i4 2 fun c88 =>
bsel (decide (c88 < 128)) (
Q (.bool false) w66.drew) (
sidxK i4 2 fun c89 =>
bsel (decide ((191 : Int) < c89)) (
Q (.bool false) w66.drew) (
sslK i4 3 i4.size fun s90 =>
(I2 s90 w66.drew ∧ μ3 s90 w66.drew < μ3 i4 w5))))))) (
bsel (IntKind.wrap .i64 (bAnd .u8 t59 7) == 4) (
bsel (decide ((i4.size : Int) < 4)) (
Q (.bool false) w66.drew) (
sidxK i4 1 fun c95 =>
∃ t96 : Int, w66.drew.cell? (a63.add 0) = some (.int .u8 t96) ∧
bsel (decide (c95 < t96)) (
Q (.bool false) w66.drew) (
∃ t97 : Int, w66.drew.cell? (a63.add 1) = some (.int .u8 t97) ∧
sidxK i4 1 fun c98 =>
bsel (decide (t97 < c98)) (
Q (.bool false) w66.drew) (
sidxK i4 2 fun c99 =>
bsel (decide (c99 < 128)) (
Q (.bool false) w66.drew) (
sidxK i4 2 fun c100 =>
bsel (decide ((191 : Int) < c100)) (
Q (.bool false) w66.drew) (
sidxK i4 3 fun c101 =>
bsel (decide (c101 < 128)) (
Q (.bool false) w66.drew) (
sidxK i4 3 fun c102 =>
bsel (decide ((191 : Int) < c102)) (
Q (.bool false) w66.drew) (
sslK i4 4 i4.size fun s103 =>
(I2 s103 w66.drew ∧ μ3 s103 w66.drew < μ3 i4 w5))))))))) (
Q (.bool false) w66))))) (
Q (.bool true) w5)
def V136_ann : Nat → Ann := fun k => match k with | 0 => ⟨[], [(0, .str)]⟩ | 1 => ⟨[], [(0, .str)]⟩ | _ => ⟨[], []⟩
theorem V136_eq (x1 : ByteArray) (w : World) (Q : Value → World → Prop) : (match Tryz.f136.body with | some c => wpC Tryz.prog Tryz.f136.ntmps V136_ann c 0 (resQ Tryz.prog Tryz.f136.ntmps Tryz.f136.results.toList Q) (argsF [.string x1]) w | none => False) = V136 x1 w Q := by kernel_rfl
theorem V136_sound (x1 : ByteArray) (w : World) (Q : Value → World → Prop) (h : V136 x1 w Q) : Calls Tryz.prog 136 #[.string x1] w fun e w' => ∃ v, e = .returned v ∧ Q v w' :=
  sound_of Tryz.func136 V136_ann rfl ((V136_eq x1 w Q).mpr h)
def V137 (x1 : Option Addr) (x2 : Int) (w : World) (Q : Value → World → Prop) : Prop :=
nilK x1 fun a3 =>
∃ t4 : Option Addr, ∃ t5 : Nat, ∃ t6 : Nat, w.cell? (a3.add 1) = some (.slice t4 t5 t6) ∧
idxK t4 t5 x2 8 fun a7 =>
∃ t8 : Int, ∃ t9 : Bool, ∃ t10 : Bool, ∃ t11 : Option Addr, ∃ t12 : Nat, ∃ t13 : Nat, ∃ t14 : ByteArray, ∃ t15 : Option Addr, ∃ t16 : Nat, ∃ t17 : Nat, ∃ t18 : Bool, ∃ t19 : Bool, CellsAt w a7 [.int .i64 t8, .bool t9, .bool t10, .slice t11 t12 t13, .string t14, .slice t15 t16 t17, .bool t18, .bool t19] ∧
newK w #[.int .i64 0, .bool false, .bool false, .slice none 0 0, .string ⟨#[]⟩, .slice none 0 0, .bool false, .bool false] 42 fun a20 w21 =>
stK w21 (a20.add 0) (.int .i64 t8) fun w22 =>
stK w22 (a20.add 1) (.bool t9) fun w23 =>
stK w23 (a20.add 2) (.bool t10) fun w24 =>
stK w24 (a20.add 3) (.slice t11 t12 t13) fun w25 =>
stK w25 (a20.add 4) (.string t14) fun w26 =>
stK w26 (a20.add 5) (.slice t15 t16 t17) fun w27 =>
stK w27 (a20.add 6) (.bool t18) fun w28 =>
stK w28 (a20.add 7) (.bool t19) fun w29 =>
∃ t30 : Int, w29.cell? (a20.add 0) = some (.int .i64 t30) ∧
bsel (t30 == 1) (
Q (.string (⟨#[110, 111, 110, 101]⟩ : ByteArray)) w29) (
bsel (t30 == 2) (
∃ t31 : Bool, w29.cell? (a20.add 1) = some (.bool t31) ∧
bsel t31 (
Q (.string (⟨#[105, 49]⟩ : ByteArray)) w29) (
Q (.string (⟨#[105, 48]⟩ : ByteArray)) w29)) (
bsel (t30 == 3) (
∃ t32 : Bool, ∃ t33 : Option Addr, ∃ t34 : Nat, ∃ t35 : Nat, CellsAt w29 (a20.add 2) [.bool t32, .slice t33 t34 t35] ∧
Calls Tryz.prog 75 #[.agg #[.bool t32, .slice t33 t34 t35]] w29 fun e36 w37 => ∃ t38 : ByteArray, e36 = .returned (.string t38) ∧
((((⟨#[105]⟩ : ByteArray).size + t38.size : Nat) : Int) ≤ 9223372036854775807) ∧
Q (.string ((⟨#[105]⟩ : ByteArray) ++ t38)) w37) (
bsel (t30 == 4) (
∃ t39 : ByteArray, w29.cell? (a20.add 4) = some (.string t39) ∧
((((⟨#[115]⟩ : ByteArray).size + t39.size : Nat) : Int) ≤ 9223372036854775807) ∧
Q (.string ((⟨#[115]⟩ : ByteArray) ++ t39)) w29) (
Calls Tryz.prog 77 #[.int .i64 x2] w29 fun e40 w41 => ∃ t42 : ByteArray, e40 = .returned (.string t42) ∧
((((⟨#[111]⟩ : ByteArray).size + t42.size : Nat) : Int) ≤ 9223372036854775807) ∧
Q (.string ((⟨#[111]⟩ : ByteArray) ++ t42)) w41))))
def V137_ann : Nat → Ann := fun _ => ⟨[], []⟩
theorem V137_eq (x1 : Option Addr) (x2 : Int) (w : World) (Q : Value → World → Prop) : (match Tryz.f137.body with | some c => wpC Tryz.prog Tryz.f137.ntmps V137_ann c 0 (resQ Tryz.prog Tryz.f137.ntmps Tryz.f137.results.toList Q) (argsF [.pointer x1, .int .i64 x2]) w | none => False) = V137 x1 x2 w Q := by kernel_rfl
theorem V137_sound (x1 : Option Addr) (x2 : Int) (w : World) (Q : Value → World → Prop) (h : V137 x1 x2 w Q) : Calls Tryz.prog 137 #[.pointer x1, .int .i64 x2] w fun e w' => ∃ v, e = .returned v ∧ Q v w' :=
  sound_of Tryz.func137 V137_ann rfl ((V137_eq x1 x2 w Q).mpr h)
def V138 (x1 : Option Addr) (w : World) (Q : Value → World → Prop) : Prop :=
nilK x1 fun a2 =>
∃ t3 : Option Addr, w.cell? (a2.add 10) = some (.pointer t3) ∧
Calls Tryz.prog 210 #[.pointer t3] w fun e4 w5 => ∃ t6 : Bool, e4 = .returned (.bool t6) ∧
bsel t6 (
nilK x1 fun a7 =>
stK w5 (a7.add 11) (.bool true) fun w8 =>
Q (.tuple #[]) w8) (
Q (.tuple #[]) w5)
def V138_ann : Nat → Ann := fun _ => ⟨[], []⟩
theorem V138_eq (x1 : Option Addr) (w : World) (Q : Value → World → Prop) : (match Tryz.f138.body with | some c => wpC Tryz.prog Tryz.f138.ntmps V138_ann c 0 (resQ Tryz.prog Tryz.f138.ntmps Tryz.f138.results.toList Q) (argsF [.pointer x1]) w | none => False) = V138 x1 w Q := by kernel_rfl
theorem V138_sound (x1 : Option Addr) (w : World) (Q : Value → World → Prop) (h : V138 x1 w Q) : Calls Tryz.prog 138 #[.pointer x1] w fun e w' => ∃ v, e = .returned v ∧ Q v w' :=
  sound_of Tryz.func138 V138_ann rfl ((V138_eq x1 w Q).mpr h)
def V140 (x1 : Option Addr) (w : World) (Q : Value → World → Prop) : Prop :=
newK w #[.int .i64 0] 98 fun a2 w3 =>
Calls Tryz.prog 138 #[.pointer x1] w3 fun e4 w5 => ∃ t6 : Value, e4 = .returned (t6) ∧
nilK x1 fun a7 =>
∃ t8 : Int, w5.cell? (a7.add 7) = some (.int .i64 t8) ∧
nilK x1 fun a9 =>
stK w5 (a9.add 7) (.int .i64 (IntKind.wrap .i64 (t8 + 1))) fun w10 =>
nilK x1 fun a11 =>
∃ t12 : Int, w10.cell? (a11.add 8) = some (.int .i64 t12) ∧
nilK x1 fun a13 =>
stK w10 (a13.add 8) (.int .i64 (IntKind.wrap .i64 (t12 + 1))) fun w14 =>
nilK x1 fun a15 =>
∃ t16 : Int, w14.cell? (a15.add 7) = some (.int .i64 t16) ∧
stK w14 (a2.add 0) (.int .i64 t16) fun w17 =>
∃ t18 : Int, CellsAt w17 a2 [.int .i64 t18] ∧
Q (.agg #[.int .i64 t18]) w17
def V140_ann : Nat → Ann := fun _ => ⟨[], []⟩
theorem V140_eq (x1 : Option Addr) (w : World) (Q : Value → World → Prop) : (match Tryz.f140.body with | some c => wpC Tryz.prog Tryz.f140.ntmps V140_ann c 0 (resQ Tryz.prog Tryz.f140.ntmps Tryz.f140.results.toList Q) (argsF [.pointer x1]) w | none => False) = V140 x1 w Q := by kernel_rfl
theorem V140_sound (x1 : Option Addr) (w : World) (Q : Value → World → Prop) (h : V140 x1 w Q) : Calls Tryz.prog 140 #[.pointer x1] w fun e w' => ∃ v, e = .returned v ∧ Q v w' :=
  sound_of Tryz.func140 V140_ann rfl ((V140_eq x1 w Q).mpr h)
def V146 (x1 : Option Addr) (x2 : Int) (w : World) (Q : Value → World → Prop) : Prop :=
bsel (!(Option.isNone x1)) (
bsel (decide (x2 ≥ 0)) (
nilK x1 fun a3 =>
∃ t4 : Option Addr, ∃ t5 : Nat, ∃ t6 : Nat, w.cell? (a3.add 0) = some (.slice t4 t5 t6) ∧
bsel (decide (x2 < (t5 : Int))) (
nilK x1 fun a7 =>
∃ t8 : Option Addr, ∃ t9 : Nat, ∃ t10 : Nat, w.cell? (a7.add 1) = some (.slice t8 t9 t10) ∧
idxK t8 t9 x2 1 fun a11 =>
∃ t12 : Bool, w.cell? a11 = some (.bool t12) ∧
Q (.bool t12) w) (
Q (.bool false) w)) (
Q (.bool false) w)) (
Q (.bool false) w)
def V146_ann : Nat → Ann := fun _ => ⟨[], []⟩
theorem V146_eq (x1 : Option Addr) (x2 : Int) (w : World) (Q : Value → World → Prop) : (match Tryz.f146.body with | some c => wpC Tryz.prog Tryz.f146.ntmps V146_ann c 0 (resQ Tryz.prog Tryz.f146.ntmps Tryz.f146.results.toList Q) (argsF [.pointer x1, .int .i64 x2]) w | none => False) = V146 x1 x2 w Q := by kernel_rfl
theorem V146_sound (x1 : Option Addr) (x2 : Int) (w : World) (Q : Value → World → Prop) (h : V146 x1 x2 w Q) : Calls Tryz.prog 146 #[.pointer x1, .int .i64 x2] w fun e w' => ∃ v, e = .returned v ∧ Q v w' :=
  sound_of Tryz.func146 V146_ann rfl ((V146_eq x1 x2 w Q).mpr h)
def V210 (x1 : Option Addr) (w : World) (Q : Value → World → Prop) : Prop :=
bsel (Option.isNone x1) (
Q (.bool false) w) (
nilK x1 fun a2 =>
∃ t3 : Int, w.cell? (a2.add 1) = some (.int .i64 t3) ∧
nilK x1 fun a4 =>
stK w (a4.add 1) (.int .i64 (IntKind.wrap .i64 (t3 + 1))) fun w5 =>
nilK x1 fun a6 =>
∃ t7 : Option Nat, w5.drew.cell? (a6.add 0) = some (.map t7) ∧
nilK x1 fun a8 =>
∃ t9 : Int, w5.drew.cell? (a8.add 1) = some (.int .i64 t9) ∧
∃ w10 : World, ∃ t11 : Int, (Instr.lookup 179 (.map t7) (.int .i64 t9) false).run Tryz.prog w5.drew = .ok (.int .i64 t11) w10 ∧
Q (.bool (decide (t11 > 0))) w10)
def V210_ann : Nat → Ann := fun _ => ⟨[], []⟩
theorem V210_eq (x1 : Option Addr) (w : World) (Q : Value → World → Prop) : (match Tryz.f210.body with | some c => wpC Tryz.prog Tryz.f210.ntmps V210_ann c 0 (resQ Tryz.prog Tryz.f210.ntmps Tryz.f210.results.toList Q) (argsF [.pointer x1]) w | none => False) = V210 x1 w Q := by kernel_rfl
theorem V210_sound (x1 : Option Addr) (w : World) (Q : Value → World → Prop) (h : V210 x1 w Q) : Calls Tryz.prog 210 #[.pointer x1] w fun e w' => ∃ v, e = .returned v ∧ Q v w' :=
  sound_of Tryz.func210 V210_ann rfl ((V210_eq x1 w Q).mpr h)
end Go.Fw


set_option autoImplicit false
namespace Go.Fw
open Go.Proofs
def notIface (d : TypeDesc) : Bool := match d with | .interface _ => false | _ => true
theorem ta_yes {P : Program} {A : TypeId} {d : TypeDesc} (hu : P.underlying A = some d) (hd : notIface d = true) (x : TypeId) (v : Value) :
    ∀ w : World, (Instr.typeAssert (.iface A v) x A true).run P w = .ok (.tuple #[v, .bool true]) w := by
  intro w
  cases d <;> simp_all [Instr.typeAssert, run_underlying hu, notIface]
theorem ta_no {P : Program} {A u : TypeId} {d : TypeDesc} {z : Value} (hu : P.underlying A = some d) (hd : notIface d = true) (hz : ∀ w, (zeroValue A).run P w = .ok z w) (h : u ≠ A) (x : TypeId) (v : Value) :
    ∀ w : World, (Instr.typeAssert (.iface u v) x A true).run P w = .ok (.tuple #[z, .bool false]) w := by
  intro w
  cases d <;> simp_all [Instr.typeAssert, run_underlying hu, notIface]
theorem no70 {u : TypeId} (h : u ≠ 85) (x : TypeId) (v : Value) : ∀ w : World, (Instr.typeAssert (.iface u v) x 85 true).run Tryz.prog w = .ok (.tuple #[.agg #[], .bool false]) w := ta_no Tryz.underlying85 rfl Tryz.zeroValue85 h x v
theorem yes72 (x : TypeId) (v : Value) : ∀ w : World, (Instr.typeAssert (.iface 87 v) x 87 true).run Tryz.prog w = .ok (.tuple #[v, .bool true]) w := ta_yes Tryz.underlying87 rfl x v
theorem no72 {u : TypeId} (h : u ≠ 87) (x : TypeId) (v : Value) : ∀ w : World, (Instr.typeAssert (.iface u v) x 87 true).run Tryz.prog w = .ok (.tuple #[.agg #[.bool false], .bool false]) w := ta_no Tryz.underlying87 rfl Tryz.zeroValue87 h x v
theorem yes80 (x : TypeId) (v : Value) : ∀ w : World, (Instr.typeAssert (.iface 94 v) x 94 true).run Tryz.prog w = .ok (.tuple #[v, .bool true]) w := ta_yes Tryz.underlying94 rfl x v
theorem no80 {u : TypeId} (h : u ≠ 94) (x : TypeId) (v : Value) : ∀ w : World, (Instr.typeAssert (.iface u v) x 94 true).run Tryz.prog w = .ok (.tuple #[.pointer none, .bool false]) w := ta_no Tryz.underlying94 rfl Tryz.zeroValue94 h x v
theorem no91 {u : TypeId} (h : u ≠ 105) (x : TypeId) (v : Value) : ∀ w : World, (Instr.typeAssert (.iface u v) x 105 true).run Tryz.prog w = .ok (.tuple #[.agg #[.int .i64 0, .string ⟨#[]⟩], .bool false]) w := ta_no Tryz.underlying105 rfl Tryz.zeroValue105 h x v
theorem yes96 (x : TypeId) (v : Value) : ∀ w : World, (Instr.typeAssert (.iface 160 v) x 160 true).run Tryz.prog w = .ok (.tuple #[v, .bool true]) w := ta_yes Tryz.underlying160 rfl x v
theorem no96 {u : TypeId} (h : u ≠ 160) (x : TypeId) (v : Value) : ∀ w : World, (Instr.typeAssert (.iface u v) x 160 true).run Tryz.prog w = .ok (.tuple #[.agg #[.string ⟨#[]⟩], .bool false]) w := ta_no Tryz.underlying160 rfl Tryz.zeroValue160 h x v
theorem yes98 (x : TypeId) (v : Value) : ∀ w : World, (Instr.typeAssert (.iface 111 v) x 111 true).run Tryz.prog w = .ok (.tuple #[v, .bool true]) w := ta_yes Tryz.underlying111 rfl x v
theorem no102 {u : TypeId} (h : u ≠ 162) (x : TypeId) (v : Value) : ∀ w : World, (Instr.typeAssert (.iface u v) x 162 true).run Tryz.prog w = .ok (.tuple #[.pointer none, .bool false]) w := ta_no Tryz.underlying162 rfl Tryz.zeroValue162 h x v
theorem yes112 (x : TypeId) (v : Value) : ∀ w : World, (Instr.typeAssert (.iface 172 v) x 172 true).run Tryz.prog w = .ok (.tuple #[v, .bool true]) w := ta_yes Tryz.underlying172 rfl x v
theorem no112 {u : TypeId} (h : u ≠ 172) (x : TypeId) (v : Value) : ∀ w : World, (Instr.typeAssert (.iface u v) x 172 true).run Tryz.prog w = .ok (.tuple #[.agg #[.bool false, .slice none 0 0], .bool false]) w := ta_no Tryz.underlying172 rfl Tryz.zeroValue172 h x v
theorem yes117 (x : TypeId) (v : Value) : ∀ w : World, (Instr.typeAssert (.iface 190 v) x 190 true).run Tryz.prog w = .ok (.tuple #[v, .bool true]) w := ta_yes Tryz.underlying190 rfl x v
end Go.Fw


set_option autoImplicit false
set_option linter.unusedVariables false
namespace Go.Fw
open Go.Proofs Go.RowKit
@[simp] theorem eqNilI_nil (K : Bool → Prop) : eqNilI .nilIface K = K true := rfl
@[simp] theorem eqNilI_iface (u : TypeId) (v : Value) (K : Bool → Prop) : eqNilI (.iface u v) K = K false := rfl
end Go.Fw

