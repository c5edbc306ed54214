/-
  Walks at TextIgnores: texts, numbers and cells, patterns, samples, instruments, song.Valid, strings.Builder, the first words of the writer and the reader. Conditions: the lengths that each theorem states.
-/
import Derived.Test.YtgjnimemofmncaaGreatDoorMC
import Derived.Shelf.Strings.Builder1
import Derived.Shelf.Strings.Builder2
import Derived.Shelf.Strings.OnBuilder
import Derived.Shelf.Small.Strs
import Derived.Shelf.Strings.BuilderF
import Derived.Shelf.Utf8.RuneCount
import Derived.Shelf.Strings.Builder2Cap
import Derived.Shelf.Strconv.Itoa0
import Derived.Shelf.Strconv.Itoa1
import Derived.Shelf.LaysM
import Derived.Shelf.Strconv.Itoa2
import Derived.Shelf.Strconv.Itoa3
import Derived.Shelf.Strings.Search1
import Derived.Shelf.Strings.Search2
import Derived.Shelf.Strings.Search3
import Derived.Shelf.Strings.Cut
import Derived.Shelf.Strings.Count
import Derived.Shelf.Strings.Shaped
import Derived.Shelf.Strings.Prefix
import Derived.Shelf.Strings.Split
import Derived.Shelf.Strings.SplitShaped
import Derived.Shelf.Unicode.Decode
import Derived.Shelf.Strings.RuneCount
import Derived.Shelf.Strings.Explode
import Derived.Shelf.Unicode.DecodeSlow
import Derived.Shelf.Unicode.DecodeAny
import Derived.Test.YtgjnimemofmncaaGreatDoorProg
import Derived.Lib.AppendIntMem
import Derived.Lib.ItoaLen
set_option linter.unusedVariables false
set_option linter.unusedSimpArgs false
namespace Go.Proofs
open Go.Shelf
def Tryz.lays156_ren : Go.Shelf.Ren := ⟨fun | 156 => 34 | 165 => 73 | 166 => 38 | 169 => 18 | 240 => 74 | 241 => 111 | 276 => 112 | 277 => 145 | n => n, fun | 31 => 35 | 9 => 9 | 3 => 3 | 4 => 4 | 0 => 0 | 20 => 20 | 72 => 57 | 76 => 100 | 70 => 55 | 37 => 37 | 75 => 99 | 127 => 102 | 164 => 179 | 5 => 5 | 80 => 66 | n => n, fun | n => n⟩
theorem Tryz.lays156 : Go.Proofs.Lays.n156 Tryz.prog Tryz.lays156_ren := {
  mixed := by kernel_rfl
  f156 := Tryz.func34.trans (congrArg some (by kernel_rfl))
  f165 := Tryz.func73.trans (congrArg some (by kernel_rfl))
  f166 := Tryz.func38.trans (congrArg some (by kernel_rfl))
  f169 := Tryz.func18.trans (congrArg some (by kernel_rfl))
  f240 := Tryz.func74.trans (congrArg some (by kernel_rfl))
  f241 := Tryz.func111.trans (congrArg some (by kernel_rfl))
  f276 := Tryz.func112.trans (congrArg some (by kernel_rfl))
  f277 := Tryz.func145.trans (congrArg some (by kernel_rfl))
  t0 := Tryz.underlying0
  a0 := Tryz.isAgg0
  z0 := Tryz.sizeOf0
  v0 := Tryz.zeroValue0
  t3 := Tryz.underlying3
  a3 := Tryz.isAgg3
  z3 := Tryz.sizeOf3
  v3 := Tryz.zeroValue3
  t4 := Tryz.underlying4
  a4 := Tryz.isAgg4
  z4 := Tryz.sizeOf4
  v4 := Tryz.zeroValue4
  t9 := Tryz.underlying9
  a9 := Tryz.isAgg9
  z9 := Tryz.sizeOf9
  v9 := Tryz.zeroValue9
  t20 := Tryz.underlying20
  a20 := Tryz.isAgg20
  z20 := Tryz.sizeOf20
  v20 := Tryz.zeroValue20
  t31 := Tryz.underlying35
  a31 := Tryz.isAgg35
  z31 := Tryz.sizeOf35
  v31 := Tryz.zeroValue35
  t37 := Tryz.underlying37
  a37 := Tryz.isAgg37
  z37 := Tryz.sizeOf37
  v37 := Tryz.zeroValue37
  t70 := Tryz.underlying55
  a70 := Tryz.isAgg55
  z70 := Tryz.sizeOf55
  v70 := Tryz.zeroValue55
  t72 := Tryz.underlying57
  a72 := Tryz.isAgg57
  z72 := Tryz.sizeOf57
  v72 := Tryz.zeroValue57
  t75 := Tryz.underlying99
  a75 := Tryz.isAgg99
  z75 := Tryz.sizeOf99
  v75 := Tryz.zeroValue99
  t76 := Tryz.underlying100
  a76 := Tryz.isAgg100
  z76 := Tryz.sizeOf100
  v76 := Tryz.zeroValue100
  t127 := Tryz.underlying102
  a127 := Tryz.isAgg102
  z127 := Tryz.sizeOf102
  v127 := Tryz.zeroValue102
  t164 := Tryz.underlying179
  a164 := Tryz.isAgg179
  z164 := Tryz.sizeOf179
  v164 := Tryz.zeroValue179 }
theorem Tryz.Builder_Extra_156 : Builder.Extra Tryz.prog Tryz.lays156_ren := {
  sizeBuilder := by kernel_rfl
  liesBuilder := by kernel_rfl
  t5 := Tryz.underlying5
  a5 := Tryz.isAgg5
  z5 := Tryz.sizeOf5
  v5 := Tryz.zeroValue5
  infoByte := by kernel_rfl
  cellsByte := by kernel_rfl
  sizeByte := by kernel_rfl
  neB5 := by decide }
open Go.RowKit in
theorem Tryz.strings_Join_none (a : Option Addr) (c : Nat) (sep : ByteArray) (w : World) :
    Calls Tryz.prog 34 #[.slice a 0 c, .string sep] w fun e w' => e = .returned (.string ⟨#[]⟩) ∧ w' = w := Any.strings_Join_none Tryz.lays156 Tryz.Builder_Extra_156 a c sep w
open Go.RowKit in
theorem Tryz.strings_Join (bk o c : Nat) (xs : List ByteArray) (sep : ByteArray) (w : World) (hcells : ∀ (j : Nat) x, xs[j]? = some x → w.cell? ⟨bk, o + j, none⟩ = some (.string x)) (hbk : bk < w.heap.size) (hN : xs.length ≤ 140737488355328) (hcap : xs.length ≤ c) (hlen : (Lib.join (xs.map (·.data.toList)) sep.data.toList).length ≤ 140737488355328) :
    Calls Tryz.prog 34 #[.slice (some ⟨bk, o, none⟩) xs.length c, .string sep] w fun e w' => e = .returned (.string ⟨(Lib.join (xs.map (·.data.toList)) sep.data.toList).toArray⟩) ∧ Below w.heap.size w w' := Any.strings_Join Tryz.lays156 Tryz.Builder_Extra_156 bk o c xs sep w hcells hbk hN hcap hlen
def Tryz.lays137_ren : Go.Shelf.Ren := ⟨fun | 137 => 121 | 217 => 150 | 266 => 167 | n => n, fun | 9 => 9 | 5 => 5 | 3 => 3 | n => n, fun | n => n⟩
theorem Tryz.lays137 : Go.Proofs.Lays.n137 Tryz.prog Tryz.lays137_ren := {
  mixed := by kernel_rfl
  f137 := Tryz.func121.trans (congrArg some (by kernel_rfl))
  f217 := Tryz.func150.trans (congrArg some (by kernel_rfl))
  f266 := Tryz.func167.trans (congrArg some (by kernel_rfl))
  t3 := Tryz.underlying3
  a3 := Tryz.isAgg3
  z3 := Tryz.sizeOf3
  v3 := Tryz.zeroValue3
  t5 := Tryz.underlying5
  a5 := Tryz.isAgg5
  z5 := Tryz.sizeOf5
  v5 := Tryz.zeroValue5
  t9 := Tryz.underlying9
  a9 := Tryz.isAgg9
  z9 := Tryz.sizeOf9
  v9 := Tryz.zeroValue9 }
open Go.RowKit in
theorem Tryz.strings_IndexByte (s : ByteArray) (c : Int) (w : World) :
    Calls Tryz.prog 121 #[.string s, .int .u8 c] w fun e w' => e = .returned (.int .i64 (Lib.indexByte s.data.toList c.toNat.toUInt8)) ∧ w' = w := Any.strings_IndexByte Tryz.lays137 s c w
def Tryz.laysM171_ren : Go.Shelf.Ren := ⟨fun | 171 => 32 | 243 => 68 | 246 => 107 | 283 => 141 | 284 => 142 | 285 => 143 | 286 => 144 | 129 => 162 | 317 => 161 | 318 => 163 | 319 => 164 | 320 => 165 | 337 => 175 | 338 => 176 | n => n, fun | 3 => 3 | 9 => 9 | 2 => 2 | 4 => 4 | 171 => 199 | 0 => 0 | 53 => 200 | 37 => 37 | 5 => 5 | 173 => 203 | 212 => 226 | 51 => 163 | 20 => 20 | 213 => 227 | 46 => 209 | 232 => 258 | 233 => 259 | n => n, fun | 17 => 1 | 18 => 4 | 19 => 5 | n => n⟩
theorem Tryz.laysM171 : Go.Proofs.LaysM.n171 Tryz.prog Tryz.laysM171_ren := {
  mixed := by kernel_rfl
  f129 := Tryz.func162.trans (congrArg some (by kernel_rfl))
  f171 := Tryz.func32.trans (congrArg some (by kernel_rfl))
  f243 := Tryz.func68.trans (congrArg some (by kernel_rfl))
  f246 := Tryz.func107.trans (congrArg some (by kernel_rfl))
  f283 := Tryz.func141.trans (congrArg some (by kernel_rfl))
  f284 := Tryz.func142.trans (congrArg some (by kernel_rfl))
  f285 := Tryz.func143.trans (congrArg some (by kernel_rfl))
  f286 := Tryz.func144.trans (congrArg some (by kernel_rfl))
  f317 := Tryz.func161.trans (congrArg some (by kernel_rfl))
  f318 := Tryz.func163.trans (congrArg some (by kernel_rfl))
  f319 := Tryz.func164.trans (congrArg some (by kernel_rfl))
  f320 := Tryz.func165.trans (congrArg some (by kernel_rfl))
  f337 := Tryz.func175.trans (congrArg some (by kernel_rfl))
  f338 := Tryz.func176.trans (congrArg some (by kernel_rfl))
  t0 := Tryz.underlying0
  a0 := Tryz.isAgg0
  z0 := Tryz.sizeOf0
  v0 := Tryz.zeroValue0
  t2 := Tryz.underlying2
  a2 := Tryz.isAgg2
  z2 := Tryz.sizeOf2
  v2 := Tryz.zeroValue2
  t3 := Tryz.underlying3
  a3 := Tryz.isAgg3
  z3 := Tryz.sizeOf3
  v3 := Tryz.zeroValue3
  t4 := Tryz.underlying4
  a4 := Tryz.isAgg4
  z4 := Tryz.sizeOf4
  v4 := Tryz.zeroValue4
  t5 := Tryz.underlying5
  a5 := Tryz.isAgg5
  z5 := Tryz.sizeOf5
  v5 := Tryz.zeroValue5
  t9 := Tryz.underlying9
  a9 := Tryz.isAgg9
  z9 := Tryz.sizeOf9
  v9 := Tryz.zeroValue9
  t20 := Tryz.underlying20
  a20 := Tryz.isAgg20
  z20 := Tryz.sizeOf20
  v20 := Tryz.zeroValue20
  t37 := Tryz.underlying37
  a37 := Tryz.isAgg37
  z37 := Tryz.sizeOf37
  v37 := Tryz.zeroValue37
  t46 := Tryz.underlying209
  a46 := Tryz.isAgg209
  z46 := Tryz.sizeOf209
  v46 := Tryz.zeroValue209
  t51 := Tryz.underlying163
  a51 := Tryz.isAgg163
  z51 := Tryz.sizeOf163
  v51 := Tryz.zeroValue163
  t53 := Tryz.underlying200
  a53 := Tryz.isAgg200
  z53 := Tryz.sizeOf200
  v53 := Tryz.zeroValue200
  t171 := Tryz.underlying199
  a171 := Tryz.isAgg199
  z171 := Tryz.sizeOf199
  v171 := Tryz.zeroValue199
  t173 := Tryz.underlying203
  a173 := Tryz.isAgg203
  z173 := Tryz.sizeOf203
  v173 := Tryz.zeroValue203
  t212 := Tryz.underlying226
  a212 := Tryz.isAgg226
  z212 := Tryz.sizeOf226
  v212 := Tryz.zeroValue226
  t213 := Tryz.underlying227
  a213 := Tryz.isAgg227
  z213 := Tryz.sizeOf227
  t232 := Tryz.underlying258
  a232 := Tryz.isAgg258
  z232 := Tryz.sizeOf258
  v232 := Tryz.zeroValue258
  t233 := Tryz.underlying259
  a233 := Tryz.isAgg259
  z233 := Tryz.sizeOf259
  v233 := Tryz.zeroValue259
  g17 := by kernel_rfl
  g18 := by kernel_rfl
  g19 := by kernel_rfl
  i0 := by kernel_rfl
  i2 := by kernel_rfl
  i3 := by kernel_rfl
  i4 := by kernel_rfl
  i5 := by kernel_rfl
  i9 := by kernel_rfl
  i20 := by kernel_rfl
  i37 := by kernel_rfl
  i46 := by kernel_rfl
  i51 := by kernel_rfl
  i53 := by kernel_rfl
  i171 := by kernel_rfl
  i173 := by kernel_rfl
  i212 := by kernel_rfl
  i232 := by kernel_rfl
  i233 := by kernel_rfl
  m17 := by kernel_rfl
  m18 := by kernel_rfl
  m19 := by kernel_rfl }
open Go.RowKit Go.Sort Go.Lib in
theorem Tryz.strconv_Itoa (n : Int) (h0 : -9223372036854775808 ≤ n) (h1 : n ≤ 9223372036854775807) (w : World) (htab : Lib.TabIs Tryz.prog w "internal/strconv.uint64pow10" .u64 Lib.pow10Tab) :
    Calls Tryz.prog 32 #[.int .i64 n] w fun e w' => e = .returned (.string ⟨(Lib.itoa n).toArray⟩) ∧ ∃ k os, w' = grow (w.drewN k) os := Any.strconv_Itoa Tryz.laysM171 n h0 h1 w htab
def Tryz.lays145_ren : Go.Shelf.Ren := ⟨fun | 145 => 54 | 220 => 83 | 219 => 122 | 217 => 150 | 225 => 151 | 224 => 152 | 267 => 153 | 266 => 167 | 314 => 168 | n => n, fun | 9 => 9 | 4 => 4 | 59 => 115 | 3 => 3 | 5 => 5 | 46 => 209 | 146 => 229 | 51 => 163 | n => n, fun | 1 => 0 | n => n⟩
theorem Tryz.lays145 : Go.Proofs.Lays.n145 Tryz.prog Tryz.lays145_ren := {
  mixed := by kernel_rfl
  f145 := Tryz.func54.trans (congrArg some (by kernel_rfl))
  f217 := Tryz.func150.trans (congrArg some (by kernel_rfl))
  f219 := Tryz.func122.trans (congrArg some (by kernel_rfl))
  f220 := Tryz.func83.trans (congrArg some (by kernel_rfl))
  f224 := Tryz.func152.trans (congrArg some (by kernel_rfl))
  f225 := Tryz.func151.trans (congrArg some (by kernel_rfl))
  f266 := Tryz.func167.trans (congrArg some (by kernel_rfl))
  f267 := Tryz.func153.trans (congrArg some (by kernel_rfl))
  f314 := Tryz.func168.trans (congrArg some (by kernel_rfl))
  t3 := Tryz.underlying3
  a3 := Tryz.isAgg3
  z3 := Tryz.sizeOf3
  v3 := Tryz.zeroValue3
  t4 := Tryz.underlying4
  a4 := Tryz.isAgg4
  z4 := Tryz.sizeOf4
  v4 := Tryz.zeroValue4
  t5 := Tryz.underlying5
  a5 := Tryz.isAgg5
  z5 := Tryz.sizeOf5
  v5 := Tryz.zeroValue5
  t9 := Tryz.underlying9
  a9 := Tryz.isAgg9
  z9 := Tryz.sizeOf9
  v9 := Tryz.zeroValue9
  t46 := Tryz.underlying209
  a46 := Tryz.isAgg209
  z46 := Tryz.sizeOf209
  v46 := Tryz.zeroValue209
  t51 := Tryz.underlying163
  a51 := Tryz.isAgg163
  z51 := Tryz.sizeOf163
  v51 := Tryz.zeroValue163
  t59 := Tryz.underlying115
  a59 := Tryz.isAgg115
  z59 := Tryz.sizeOf115
  v59 := Tryz.zeroValue115
  t146 := Tryz.underlying229
  a146 := Tryz.isAgg229
  z146 := Tryz.sizeOf229
  v146 := Tryz.zeroValue229
  g1 := by kernel_rfl }
open Go.RowKit Go.Lib in
theorem Tryz.strings_Cut (s sep : ByteArray) (m : Int) (w : World) (hs : s.size < 4294967281) (hm : w.cell? ⟨0, 0, none⟩ = some (.int .i64 m)) :
    Calls Tryz.prog 54 #[.string s, .string sep] w fun e w' => e = .returned (.tuple #[.string ⟨(Lib.cut s.data.toList sep.data.toList).1.toArray⟩, .string ⟨(Lib.cut s.data.toList sep.data.toList).2.1.toArray⟩, .bool (Lib.cut s.data.toList sep.data.toList).2.2]) ∧ ∃ n, w' = w.drewN n := Any.strings_Cut Tryz.lays145 s sep m w hs hm
def Tryz.lays138_ren : Go.Shelf.Ren := ⟨fun | 138 => 114 | 195 => 146 | 218 => 148 | 143 => 115 | 219 => 122 | 217 => 150 | 225 => 151 | 224 => 152 | 267 => 153 | 266 => 167 | 314 => 168 | n => n, fun | 9 => 9 | 3 => 3 | 4 => 4 | 5 => 5 | 0 => 0 | 46 => 209 | 146 => 229 | 51 => 163 | n => n, fun | 1 => 0 | n => n⟩
theorem Tryz.lays138 : Go.Proofs.Lays.n138 Tryz.prog Tryz.lays138_ren := {
  mixed := by kernel_rfl
  f138 := Tryz.func114.trans (congrArg some (by kernel_rfl))
  f143 := Tryz.func115.trans (congrArg some (by kernel_rfl))
  f195 := Tryz.func146.trans (congrArg some (by kernel_rfl))
  f217 := Tryz.func150.trans (congrArg some (by kernel_rfl))
  f218 := Tryz.func148.trans (congrArg some (by kernel_rfl))
  f219 := Tryz.func122.trans (congrArg some (by kernel_rfl))
  f224 := Tryz.func152.trans (congrArg some (by kernel_rfl))
  f225 := Tryz.func151.trans (congrArg some (by kernel_rfl))
  f266 := Tryz.func167.trans (congrArg some (by kernel_rfl))
  f267 := Tryz.func153.trans (congrArg some (by kernel_rfl))
  f314 := Tryz.func168.trans (congrArg some (by kernel_rfl))
  t0 := Tryz.underlying0
  a0 := Tryz.isAgg0
  z0 := Tryz.sizeOf0
  v0 := Tryz.zeroValue0
  t3 := Tryz.underlying3
  a3 := Tryz.isAgg3
  z3 := Tryz.sizeOf3
  v3 := Tryz.zeroValue3
  t4 := Tryz.underlying4
  a4 := Tryz.isAgg4
  z4 := Tryz.sizeOf4
  v4 := Tryz.zeroValue4
  t5 := Tryz.underlying5
  a5 := Tryz.isAgg5
  z5 := Tryz.sizeOf5
  v5 := Tryz.zeroValue5
  t9 := Tryz.underlying9
  a9 := Tryz.isAgg9
  z9 := Tryz.sizeOf9
  v9 := Tryz.zeroValue9
  t46 := Tryz.underlying209
  a46 := Tryz.isAgg209
  z46 := Tryz.sizeOf209
  v46 := Tryz.zeroValue209
  t51 := Tryz.underlying163
  a51 := Tryz.isAgg163
  z51 := Tryz.sizeOf163
  v51 := Tryz.zeroValue163
  t146 := Tryz.underlying229
  a146 := Tryz.isAgg229
  z146 := Tryz.sizeOf229
  v146 := Tryz.zeroValue229
  g1 := by kernel_rfl }
open Go.RowKit Go.Lib in
theorem Tryz.strings_Count_one (s : ByteArray) (c : UInt8) (w : World) :
    Calls Tryz.prog 114 #[.string s, .string ⟨#[c]⟩] w fun e w' => e = .returned (.int .i64 (Lib.countByte s.data.toList c)) ∧ w' = w := Any.strings_Count_one Tryz.lays138 s c w
def Tryz.lays99_ren : Go.Shelf.Ren := ⟨fun | 99 => 45 | 206 => 78 | n => n, fun | 9 => 9 | 4 => 4 | 3 => 3 | n => n, fun | n => n⟩
theorem Tryz.lays99 : Go.Proofs.Lays.n99 Tryz.prog Tryz.lays99_ren := {
  mixed := by kernel_rfl
  f99 := Tryz.func45.trans (congrArg some (by kernel_rfl))
  f206 := Tryz.func78.trans (congrArg some (by kernel_rfl))
  t3 := Tryz.underlying3
  a3 := Tryz.isAgg3
  z3 := Tryz.sizeOf3
  v3 := Tryz.zeroValue3
  t4 := Tryz.underlying4
  a4 := Tryz.isAgg4
  z4 := Tryz.sizeOf4
  v4 := Tryz.zeroValue4
  t9 := Tryz.underlying9
  a9 := Tryz.isAgg9
  z9 := Tryz.sizeOf9
  v9 := Tryz.zeroValue9 }
open Go.RowKit Go.Lib in
theorem Tryz.strings_HasPrefix (s p : ByteArray) (w : World) :
    Calls Tryz.prog 45 #[.string s, .string p] w fun e w' => e = .returned (.bool (Lib.hasPrefix s.data.toList p.data.toList)) ∧ w' = w := Any.strings_HasPrefix Tryz.lays99 s p w
def Tryz.lays101_ren : Go.Shelf.Ren := ⟨fun | 101 => 77 | 208 => 117 | 206 => 78 | n => n, fun | 9 => 9 | 4 => 4 | 3 => 3 | n => n, fun | n => n⟩
theorem Tryz.lays101 : Go.Proofs.Lays.n101 Tryz.prog Tryz.lays101_ren := {
  mixed := by kernel_rfl
  f101 := Tryz.func77.trans (congrArg some (by kernel_rfl))
  f206 := Tryz.func78.trans (congrArg some (by kernel_rfl))
  f208 := Tryz.func117.trans (congrArg some (by kernel_rfl))
  t3 := Tryz.underlying3
  a3 := Tryz.isAgg3
  z3 := Tryz.sizeOf3
  v3 := Tryz.zeroValue3
  t4 := Tryz.underlying4
  a4 := Tryz.isAgg4
  z4 := Tryz.sizeOf4
  v4 := Tryz.zeroValue4
  t9 := Tryz.underlying9
  a9 := Tryz.isAgg9
  z9 := Tryz.sizeOf9
  v9 := Tryz.zeroValue9 }
open Go.RowKit Go.Lib in
theorem Tryz.strings_TrimPrefix (s p : ByteArray) (w : World) :
    Calls Tryz.prog 77 #[.string s, .string p] w fun e w' => e = .returned (.string ⟨(Lib.trimPrefix s.data.toList p.data.toList).toArray⟩) ∧ w' = w := Any.strings_TrimPrefix Tryz.lays101 s p w
def Tryz.lays102_ren : Go.Shelf.Ren := ⟨fun | 102 => 40 | 209 => 76 | 207 => 116 | n => n, fun | 9 => 9 | 4 => 4 | 3 => 3 | n => n, fun | n => n⟩
theorem Tryz.lays102 : Go.Proofs.Lays.n102 Tryz.prog Tryz.lays102_ren := {
  mixed := by kernel_rfl
  f102 := Tryz.func40.trans (congrArg some (by kernel_rfl))
  f207 := Tryz.func116.trans (congrArg some (by kernel_rfl))
  f209 := Tryz.func76.trans (congrArg some (by kernel_rfl))
  t3 := Tryz.underlying3
  a3 := Tryz.isAgg3
  z3 := Tryz.sizeOf3
  v3 := Tryz.zeroValue3
  t4 := Tryz.underlying4
  a4 := Tryz.isAgg4
  z4 := Tryz.sizeOf4
  v4 := Tryz.zeroValue4
  t9 := Tryz.underlying9
  a9 := Tryz.isAgg9
  z9 := Tryz.sizeOf9
  v9 := Tryz.zeroValue9 }
open Go.RowKit Go.Lib in
theorem Tryz.strings_TrimSuffix (s p : ByteArray) (w : World) (hs : s.size ≤ 9223372036854775807) :
    Calls Tryz.prog 40 #[.string s, .string p] w fun e w' => e = .returned (.string ⟨(Lib.trimSuffix s.data.toList p.data.toList).toArray⟩) ∧ w' = w := Any.strings_TrimSuffix Tryz.lays102 s p w hs
def Tryz.lays146_ren : Go.Shelf.Ren := ⟨fun | 146 => 39 | 221 => 75 | 268 => 113 | 138 => 114 | 143 => 115 | 195 => 146 | 197 => 147 | 218 => 148 | 219 => 122 | 260 => 166 | 217 => 150 | 225 => 151 | 224 => 152 | 267 => 153 | 266 => 167 | 314 => 168 | n => n, fun | 9 => 9 | 31 => 35 | 3 => 3 | 4 => 4 | 0 => 0 | 105 => 206 | 21 => 21 | 5 => 5 | 46 => 209 | 119 => 219 | 139 => 248 | 138 => 247 | 146 => 229 | 51 => 163 | n => n, fun | 1 => 0 | 3 => 2 | 4 => 3 | n => n⟩
theorem Tryz.lays146 : Go.Proofs.Lays.n146 Tryz.prog Tryz.lays146_ren := {
  mixed := by kernel_rfl
  f138 := Tryz.func114.trans (congrArg some (by kernel_rfl))
  f143 := Tryz.func115.trans (congrArg some (by kernel_rfl))
  f146 := Tryz.func39.trans (congrArg some (by kernel_rfl))
  f195 := Tryz.func146.trans (congrArg some (by kernel_rfl))
  f197 := Tryz.func147.trans (congrArg some (by kernel_rfl))
  f217 := Tryz.func150.trans (congrArg some (by kernel_rfl))
  f218 := Tryz.func148.trans (congrArg some (by kernel_rfl))
  f219 := Tryz.func122.trans (congrArg some (by kernel_rfl))
  f221 := Tryz.func75.trans (congrArg some (by kernel_rfl))
  f224 := Tryz.func152.trans (congrArg some (by kernel_rfl))
  f225 := Tryz.func151.trans (congrArg some (by kernel_rfl))
  f260 := Tryz.func166.trans (congrArg some (by kernel_rfl))
  f266 := Tryz.func167.trans (congrArg some (by kernel_rfl))
  f267 := Tryz.func153.trans (congrArg some (by kernel_rfl))
  f268 := Tryz.func113.trans (congrArg some (by kernel_rfl))
  f314 := Tryz.func168.trans (congrArg some (by kernel_rfl))
  t0 := Tryz.underlying0
  a0 := Tryz.isAgg0
  z0 := Tryz.sizeOf0
  v0 := Tryz.zeroValue0
  t3 := Tryz.underlying3
  a3 := Tryz.isAgg3
  z3 := Tryz.sizeOf3
  v3 := Tryz.zeroValue3
  t4 := Tryz.underlying4
  a4 := Tryz.isAgg4
  z4 := Tryz.sizeOf4
  v4 := Tryz.zeroValue4
  t5 := Tryz.underlying5
  a5 := Tryz.isAgg5
  z5 := Tryz.sizeOf5
  v5 := Tryz.zeroValue5
  t9 := Tryz.underlying9
  a9 := Tryz.isAgg9
  z9 := Tryz.sizeOf9
  v9 := Tryz.zeroValue9
  t21 := Tryz.underlying21
  a21 := Tryz.isAgg21
  z21 := Tryz.sizeOf21
  v21 := Tryz.zeroValue21
  t31 := Tryz.underlying35
  a31 := Tryz.isAgg35
  z31 := Tryz.sizeOf35
  v31 := Tryz.zeroValue35
  t46 := Tryz.underlying209
  a46 := Tryz.isAgg209
  z46 := Tryz.sizeOf209
  v46 := Tryz.zeroValue209
  t51 := Tryz.underlying163
  a51 := Tryz.isAgg163
  z51 := Tryz.sizeOf163
  v51 := Tryz.zeroValue163
  t105 := Tryz.underlying206
  a105 := Tryz.isAgg206
  z105 := Tryz.sizeOf206
  v105 := Tryz.zeroValue206
  t119 := Tryz.underlying219
  a119 := Tryz.isAgg219
  z119 := Tryz.sizeOf219
  t138 := Tryz.underlying247
  a138 := Tryz.isAgg247
  z138 := Tryz.sizeOf247
  v138 := Tryz.zeroValue247
  t139 := Tryz.underlying248
  a139 := Tryz.isAgg248
  z139 := Tryz.sizeOf248
  v139 := Tryz.zeroValue248
  t146 := Tryz.underlying229
  a146 := Tryz.isAgg229
  z146 := Tryz.sizeOf229
  v146 := Tryz.zeroValue229
  g1 := by kernel_rfl
  g3 := by kernel_rfl
  g4 := by kernel_rfl }
open Go.RowKit Go.Lib in
theorem Tryz.strings_Split (s sep : ByteArray) (m : Int) (w : World) (hs : s.size < 4294967281) (hm : w.cell? ⟨0, 0, none⟩ = some (.int .i64 m)) (h1 : 1 ≤ sep.size) :
    Calls Tryz.prog 39 #[.string s, .string sep] w fun e w' =>
      e = .returned (.slice (some ⟨w.heap.size, 0, none⟩) (Lib.countB s sep + 1) (Lib.countB s sep + 1)) ∧ w' = w.alloc (.cells ((Lib.splitB sep 0 (Lib.countB s sep) s).map Value.string).toArray 9) := Any.strings_Split Tryz.lays146 (by kernel_rfl) s sep m w hs hm h1
end Go.Proofs

namespace Go.Proofs.YtgjnimemofmncaaGreatDoor
open Go.Abs
set_option maxHeartbeats 400000
set_option maxRecDepth 20000
abbrev i64 (n : Int) : AV := .c (.int .i64 n)
abbrev str (l : List UInt8) : AV := .c (.str l)
def KN (m : Int) : List (Nat × List Value) := [(0, [.int .i64 m]), (1, Lib.pow10Tab.map fun z => Value.int .u64 z)]
theorem kn_max {m : Int} {G : Gh} {S : St} {w : World} (h : Inv G S w) (hk : S.known = KN m) : w.cell? ⟨0, 0, none⟩ = some (.int .i64 m) :=
  known_cell h (g := 0) (l := [.int .i64 m]) (by rw [hk]; simp [KN]) rfl
theorem kn_pow {m : Int} {G : Gh} {S : St} {w : World} (h : Inv G S w) (hk : S.known = KN m) : Lib.TabIs Tryz.prog w "internal/strconv.uint64pow10" .u64 Lib.pow10Tab := by
  obtain ⟨⟨T, fr, h1⟩, _⟩ := h.known (1, Lib.pow10Tab.map fun z => Value.int .u64 z) (by rw [hk]; simp [KN])
  have hg : Tryz.prog.globalNamed "internal/strconv.uint64pow10" = some 1 := by kernel_rfl
  unfold Lib.TabIs World.var?
  rw [hg]
  simp only [Option.bind_some]
  rw [h1]
open Go.RowKit in
theorem wc39 {m : Int} {S : St} (hk : S.known = KN m) (s sep : List UInt8) (hs : s.length ≤ 4000000000) (h1 : 1 ≤ sep.length) :
    WC Tryz.prog 39 [str s, str sep] (Is (.c (.sl ((Lib.split s sep).map .str))) S) S := by
  refine wc_calls' (fun vals w => Tryz.call39 vals w) fun G vals w hr hI => ?_
  obtain ⟨x, y, rfl, hx, hy⟩ := relL_two hr
  rw [rel_str hx, rel_str hy]
  have hsz : (⟨s.toArray⟩ : ByteArray).size = s.length := by simp [ByteArray.size]
  have hsz' : (⟨sep.toArray⟩ : ByteArray).size = sep.length := by simp [ByteArray.size]
  refine Calls.mono (Tryz.strings_Split ⟨s.toArray⟩ ⟨sep.toArray⟩ m w (by rw [hsz]; omega) (kn_max hI hk) (by rw [hsz']; exact h1)) ?_
  rintro e w' ⟨rfl, rfl⟩
  have hlen : Lib.countB ⟨s.toArray⟩ ⟨sep.toArray⟩ + 1 = (Lib.splitB ⟨sep.toArray⟩ 0 (Lib.countB ⟨s.toArray⟩ ⟨sep.toArray⟩) ⟨s.toArray⟩).length :=
    (Lib.splitB_all _ (by rw [hsz']; exact h1) 0 _ _ rfl).symm
  have hdat : (Lib.splitB ⟨sep.toArray⟩ 0 (Lib.countB ⟨s.toArray⟩ ⟨sep.toArray⟩) ⟨s.toArray⟩).map (·.data.toList) = Lib.split s sep := Lib.splitB_data _ _ _ _
  obtain ⟨G', k1, k2, k3⟩ := row_of_alloc hI (Lib.splitB ⟨sep.toArray⟩ 0 (Lib.countB ⟨s.toArray⟩ ⟨sep.toArray⟩) ⟨s.toArray⟩) 9 _ hlen
  rw [hdat] at k1
  exact ⟨_, G', rfl, k1, k2, k3⟩
open Go.RowKit in
theorem wc40 (s p : List UInt8) (hs : s.length ≤ 4000000000) (S : St) : WC Tryz.prog 40 [str s, str p] (Is (str (Lib.trimSuffix s p)) S) S := by
  refine wc_calls (fun vals w => Tryz.call40 vals w) fun G vals w hr hI => ?_
  obtain ⟨x, y, rfl, hx, hy⟩ := relL_two hr
  rw [rel_str hx, rel_str hy]
  refine Calls.mono (Tryz.strings_TrimSuffix ⟨s.toArray⟩ ⟨p.toArray⟩ w (by simp [ByteArray.size]; omega)) ?_
  rintro e w' ⟨rfl, rfl⟩
  exact ⟨_, rfl, str_rel _ _, .refl _ _⟩
open Go.RowKit in
theorem wc77 (s p : List UInt8) (S : St) : WC Tryz.prog 77 [str s, str p] (Is (str (Lib.trimPrefix s p)) S) S := by
  refine wc_calls (fun vals w => Tryz.call77 vals w) fun G vals w hr hI => ?_
  obtain ⟨x, y, rfl, hx, hy⟩ := relL_two hr
  rw [rel_str hx, rel_str hy]
  refine Calls.mono (Tryz.strings_TrimPrefix ⟨s.toArray⟩ ⟨p.toArray⟩ w) ?_
  rintro e w' ⟨rfl, rfl⟩
  exact ⟨_, rfl, str_rel _ _, .refl _ _⟩
open Go.RowKit in
theorem wc45 (s p : List UInt8) (S : St) : WC Tryz.prog 45 [str s, str p] (Is (.c (.bool (Lib.hasPrefix s p))) S) S := by
  refine wc_calls (fun vals w => Tryz.call45 vals w) fun G vals w hr hI => ?_
  obtain ⟨x, y, rfl, hx, hy⟩ := relL_two hr
  rw [rel_str hx, rel_str hy]
  refine Calls.mono (Tryz.strings_HasPrefix ⟨s.toArray⟩ ⟨p.toArray⟩ w) ?_
  rintro e w' ⟨rfl, rfl⟩
  exact ⟨_, rfl, .c (.bool _), .refl _ _⟩
open Go.RowKit in
theorem wc121 (s : List UInt8) (c : Int) (S : St) : WC Tryz.prog 121 [str s, .c (.int .u8 c)] (Is (i64 (Lib.indexByte s c.toNat.toUInt8)) S) S := by
  refine wc_calls (fun vals w => Tryz.call121 vals w) fun G vals w hr hI => ?_
  obtain ⟨x, y, rfl, hx, hy⟩ := relL_two hr
  rw [rel_str hx, rel_int hy]
  refine Calls.mono (Tryz.strings_IndexByte ⟨s.toArray⟩ c w) ?_
  rintro e w' ⟨rfl, rfl⟩
  exact ⟨_, rfl, .c (.int _ _), .refl _ _⟩
open Go.RowKit in
theorem wc32 {m : Int} {S : St} (hk : S.known = KN m) (n : Int) (h0 : -9223372036854775808 ≤ n) (h1 : n ≤ 9223372036854775807) : WC Tryz.prog 32 [i64 n] (Is (str (Lib.itoa n)) S) S := by
  refine wc_calls (fun vals w => Tryz.call32 vals w) fun G vals w hr hI => ?_
  obtain ⟨x, rfl, hx⟩ := relL_one hr
  rw [rel_int hx]
  refine Calls.mono (Tryz.strconv_Itoa n h0 h1 w (kn_pow hI hk)) ?_
  rintro e w' ⟨rfl, k, os, rfl⟩
  exact ⟨_, rfl, str_rel _ _, Lib.below_grow _ _ (Nat.le_refl _) _ _⟩
open Go.RowKit in
theorem wc54 {m : Int} {S : St} (hk : S.known = KN m) (s sep : List UInt8) (hs : s.length ≤ 4000000000) :
    WC Tryz.prog 54 [str s, str sep] (Is (.tup [str (Lib.cut s sep).1, str (Lib.cut s sep).2.1, .c (.bool (Lib.cut s sep).2.2)]) S) S := by
  refine wc_calls (fun vals w => Tryz.call54 vals w) fun G vals w hr hI => ?_
  obtain ⟨x, y, rfl, hx, hy⟩ := relL_two hr
  rw [rel_str hx, rel_str hy]
  refine Calls.mono (Tryz.strings_Cut ⟨s.toArray⟩ ⟨sep.toArray⟩ m w (by simp [ByteArray.size]; omega) (kn_max hI hk)) ?_
  rintro e w' ⟨rfl, n, rfl⟩
  refine ⟨_, rfl, ?_, ⟨rfl, rfl, rfl, Nat.le_refl _, fun _ _ => rfl⟩⟩
  exact .tup (vs := [_, _, _]) rfl fun i a b ha hb => by
    match i, ha, hb with
    | 0, ha, hb => cases ha; cases hb; exact str_rel _ _
    | 1, ha, hb => cases ha; cases hb; exact str_rel _ _
    | 2, ha, hb => cases ha; cases hb; exact .c (.bool _)
end Go.Proofs.YtgjnimemofmncaaGreatDoor

namespace Go.Proofs.YtgjnimemofmncaaGreatDoor
open Go.Abs Go.Tx
set_option maxHeartbeats 1000000
set_option maxRecDepth 20000
abbrev cellFV (a b c d e f : Int) : FV := .agg [.int .i64 a, .int .i64 b, .int .i64 c, .int .i64 d, .int .i64 e, .int .i64 f]
theorem wc108 (x lo hi : Int) (S : St) : WC Tryz.prog 108 [i64 x, i64 lo, i64 hi] (Is (.c (.bool (decide (lo ≤ x) && decide (x ≤ hi)))) S) S := by
  refine wc_fn (fn := Tryz.f108) (N := 15) (rs := [.tmp 6]) (by rfl) (by kernel_rfl) (by rfl) (by rfl) (by rfl) (by rfl) fun hS => ?_
  simp only [go_sem, ne_up1, ne_dn1, ne_up5, ne_up6, Nat.reduceAdd, Nat.reduceLT]
  by_cases h : lo ≤ x
  · simp only [h, go_sem, ne_up1, ne_dn1, ne_up2, ne_dn2, ne_up3, ne_up4, ne_up5, ne_up6, Nat.reduceEqDiff, Nat.reduceLT]
    exact ends_now ⟨rfl, rfl⟩
  · simp only [h, go_sem, ne_up1, ne_up2, ne_up3, Nat.reduceLT]
    exact ends_now ⟨rfl, rfl⟩
theorem wc109 (x lo hi : Int) (S : St) : WC Tryz.prog 109 [i64 x, i64 lo, i64 hi] (Is (.c (.bool (decide (lo ≤ x) && decide (x ≤ hi)))) S) S := by
  refine wc_fn (fn := Tryz.f109) (N := 15) (rs := [.tmp 6]) (by rfl) (by kernel_rfl) (by rfl) (by rfl) (by rfl) (by rfl) fun hS => ?_
  simp only [go_sem, ne_up1, ne_dn1, ne_up5, ne_up6, Nat.reduceAdd, Nat.reduceEqDiff, Nat.reduceLT]
  by_cases h : lo ≤ x
  · simp only [h, go_sem, ne_up1, ne_dn1, ne_up2, ne_dn2, ne_up3, ne_up4, ne_up5, ne_up6, Nat.reduceEqDiff, Nat.reduceLT]
    exact ends_now ⟨rfl, rfl⟩
  · simp only [h, go_sem, ne_up1, ne_up2, ne_up3, Nat.reduceLT]
    exact ends_now ⟨rfl, rfl⟩
theorem wc110 (S : St) : WC Tryz.prog 110 [] (Is (.c (.sl (nameList.map .str))) S) S := by
  refine wc_fn (fn := Tryz.f110) (N := 2) (rs := [.tmp 0]) (by rfl) (by kernel_rfl) (by rfl) (by rfl) (by rfl) (by rfl) fun hS => ?_
  simp only [go_sem, Nat.reduceAdd, Nat.reduceMul, Nat.reduceLT, Nat.reduceLeDiff]
  exact ends_row (St.get_new _ _ _ |>.trans (if_pos rfl)) ag9 sz9 rfl rfl (fun _ => rfl) (Nat.le_refl _) (by simp only [popOk_new, hS.2, Nat.le_refl]) ⟨rfl, by simp only [pop_new, pop_self hS.1, Nat.le_refl]⟩
theorem names_get (i : Nat) (h : i < 12) : (nameList.map FV.str)[i]? = some (.str (nameList.getD i [])) := by
  match i, h with
  | 0, _ | 1, _ | 2, _ | 3, _ | 4, _ | 5, _ | 6, _ | 7, _ | 8, _ | 9, _ | 10, _ | 11, _ => rfl
theorem wc71 (x : Int) (S : St) : WC Tryz.prog 71 [i64 x] (Is (.c (.str (toneName x))) S) S := by
  refine wc_fn (fn := Tryz.f71) (N := 17) (rs := [.tmp 2]) (by rfl) (by kernel_rfl) (by rfl) (by rfl) (by rfl) (by rfl) fun hS => ?_
  simp only [go_sem, ne_up2, Nat.reduceAdd, Nat.reduceLT]
  refine wc_is (wc109 _ _ _ _) ?_
  simp only [go_sem, Nat.reduceLT]
  by_cases h : 0 ≤ x ∧ x ≤ 119
  · simp only [h.1, h.2, go_sem, Nat.reduceLT]
    refine wc_is (wc110 _) ?_
    obtain ⟨h0, h1⟩ := h
    have e1 : x.tmod 12 = x % 12 := tmod_pos _ _ h0
    have e2 : x.tdiv 12 = x / 12 := tdiv_pos _ _ h0
    have e3 : IntKind.i64.wrap (x / 12) = x / 12 := wrap_i64 _ (by omega) (by omega)
    have e4 : IntKind.i64.wrap (48 + x / 12) = 48 + x / 12 := wrap_i64 _ (by omega) (by omega)
    have e5 : IntKind.i32.wrap (48 + x / 12) = 48 + x / 12 := wrap_i32 _ (by omega) (by omega)
    have e6 : ¬ (x % 12 < 0) := by omega
    have e7 : (x % 12).toNat < 12 := by omega
    have e8 : (Utf8.encode (48 + x / 12)).data.toList = [UInt8.ofNat (48 + x.toNat / 12)] := by
      rw [encode_small _ (by omega) (by omega)]
      congr 2
      omega
    have e9 : (x % 12).toNat = x.toNat % 12 := by omega
    simp only [e1, e2, e3, e4, e5, e6, e8, e9, names_get _ (Nat.mod_lt x.toNat (show 0 < 12 by decide)), allSize_strs, Nat.mod_lt x.toNat (show 0 < 12 by decide), show nameList.length = 12 from rfl, names_len, go_sem, maxLenA, ne_up1, ne_up2, ne_up3, ne_up4, ne_up5, ne_up6, Nat.reduceAdd, Nat.reduceEqDiff, Nat.reduceLT, Nat.reduceLeDiff, Int.reduceEq]
    exact ends_now ⟨by rw [toneName, if_pos ⟨h0, h1⟩], rfl⟩
  · have hb : (decide (0 ≤ x) && decide (x ≤ 119)) = false := by rw [← Bool.decide_and]; exact decide_eq_false h
    simp only [hb, go_sem, Nat.reduceLT]
    exact ends_now ⟨by rw [toneName, if_neg h], rfl⟩
theorem wc69 (a b c d e f : Int) (S : St) : WC Tryz.prog 69 [.c (cellFV a b c d e f)] (Is (.c (.bool (validC a b c d e f))) S) S := by
  refine wc_fn (fn := Tryz.f69) (N := 72) (rs := [.tmp 2]) (by rfl) (by kernel_rfl) (by rfl) (by rfl) (by rfl) (by rfl) fun hS => ?_
  simp only [cellFV]
  simp only [go_sem, ne_up1, Nat.reduceAdd, Nat.reduceLT]
  with_reducible refine wc_is (wc108 _ _ _ _) ?_
  simp only [go_sem, Nat.reduceLT]
  refine guardK_cut (fun e' S' => S' = S.new (.blk [i64 a, i64 b, i64 c, i64 d, i64 e, i64 f] 0 90) ∧ e'.get 1 = .ref S.next 0 ∧ e'.get 3 = .c (.bool (vnote a))) ?_ ?_
  · repeat' first
      | simp only [*, go_sem, ne_up1, ne_up2, ne_up3, ne_up5, ne_up6, Nat.reduceAdd, Nat.reduceEqDiff, Nat.reduceLT]
      | with_reducible refine guardK_split_not (fun hb => ?_) (fun hb => ?_) | with_reducible refine condK_split_not (fun hb => ?_) (fun hb => ?_) | with_reducible refine opA_split_not (fun hb => ?_) (fun hb => ?_) | with_reducible refine stepA_split_not (fun hb => ?_) (fun hb => ?_) | with_reducible refine guardK_split (fun hb => ?_) (fun hb => ?_) | with_reducible refine condK_split (fun hb => ?_) (fun hb => ?_) | with_reducible refine opA_split (fun hb => ?_) (fun hb => ?_) | with_reducible refine stepA_split (fun hb => ?_) (fun hb => ?_)
    all_goals ((try simp only [beq_iff_eq, beq_eq_false_iff_ne] at *); simp [vnote, *])
  rintro e' S' ⟨rfl, g1, g3⟩
  simp only [g1, go_sem, Nat.reduceAdd, Nat.reduceLT]
  with_reducible refine wc_is (wc108 _ _ _ _) ?_
  simp only [go_sem, Nat.reduceLT]
  refine guardK_cut (fun e' S' => S' = S.new (.blk [i64 a, i64 b, i64 c, i64 d, i64 e, i64 f] 0 90) ∧ e'.get 1 = .ref S.next 0 ∧ e'.get 3 = .c (.bool (vnote a)) ∧ e'.get 4 = .c (.bool (vpart 12 99 c d))) ?_ ?_
  · repeat' first
      | (with_reducible refine wc_is (wc108 _ _ _ _) ?_)
      | simp only [*, go_sem, ne_up1, ne_up2, ne_up3, ne_up4, ne_up5, ne_up6, Nat.reduceAdd, Nat.reduceEqDiff, Nat.reduceLT]
      | with_reducible refine guardK_split_not (fun hb => ?_) (fun hb => ?_) | with_reducible refine condK_split_not (fun hb => ?_) (fun hb => ?_) | with_reducible refine opA_split_not (fun hb => ?_) (fun hb => ?_) | with_reducible refine stepA_split_not (fun hb => ?_) (fun hb => ?_) | with_reducible refine guardK_split (fun hb => ?_) (fun hb => ?_) | with_reducible refine condK_split (fun hb => ?_) (fun hb => ?_) | with_reducible refine opA_split (fun hb => ?_) (fun hb => ?_) | with_reducible refine stepA_split (fun hb => ?_) (fun hb => ?_)
    all_goals ((try simp only [beq_iff_eq, beq_eq_false_iff_ne] at *); simp [vpart, *])
  rintro e' S' ⟨rfl, g1, g3, g4⟩
  simp only [g1, go_sem, Nat.reduceAdd, Nat.reduceLT]
  with_reducible refine wc_is (wc108 _ _ _ _) ?_
  simp only [go_sem, Nat.reduceLT]
  refine guardK_cut (fun e' S' => S' = S.new (.blk [i64 a, i64 b, i64 c, i64 d, i64 e, i64 f] 0 90) ∧ e'.get 1 = .ref S.next 0 ∧ e'.get 3 = .c (.bool (vnote a)) ∧ e'.get 4 = .c (.bool (vpart 12 99 c d)) ∧ e'.get 5 = .c (.bool (vpart 36 255 e f))) ?_ ?_
  · repeat' first
      | (with_reducible refine wc_is (wc108 _ _ _ _) ?_)
      | simp only [*, go_sem, ne_up1, ne_up2, ne_up3, ne_up4, ne_up5, ne_up6, Nat.reduceAdd, Nat.reduceEqDiff, Nat.reduceLT]
      | with_reducible refine guardK_split_not (fun hb => ?_) (fun hb => ?_) | with_reducible refine condK_split_not (fun hb => ?_) (fun hb => ?_) | with_reducible refine opA_split_not (fun hb => ?_) (fun hb => ?_) | with_reducible refine stepA_split_not (fun hb => ?_) (fun hb => ?_) | with_reducible refine guardK_split (fun hb => ?_) (fun hb => ?_) | with_reducible refine condK_split (fun hb => ?_) (fun hb => ?_) | with_reducible refine opA_split (fun hb => ?_) (fun hb => ?_) | with_reducible refine stepA_split (fun hb => ?_) (fun hb => ?_)
    all_goals ((try simp only [beq_iff_eq, beq_eq_false_iff_ne] at *); simp [vpart, *])
  rintro e' S' ⟨rfl, g1, g3, g4, g5⟩
  repeat' first
    | (with_reducible refine wc_is (wc108 _ _ _ _) ?_)
    | simp only [*, go_sem, ne_up1, ne_up2, ne_up3, Nat.reduceAdd, Nat.reduceEqDiff, Nat.reduceLT]
    | with_reducible refine guardK_split_not (fun hb => ?_) (fun hb => ?_) | with_reducible refine condK_split_not (fun hb => ?_) (fun hb => ?_) | with_reducible refine opA_split_not (fun hb => ?_) (fun hb => ?_) | with_reducible refine stepA_split_not (fun hb => ?_) (fun hb => ?_) | with_reducible refine guardK_split (fun hb => ?_) (fun hb => ?_) | with_reducible refine condK_split (fun hb => ?_) (fun hb => ?_) | with_reducible refine opA_split (fun hb => ?_) (fun hb => ?_) | with_reducible refine stepA_split (fun hb => ?_) (fun hb => ?_)
  all_goals (refine ends_popped rfl (by simp only [popOk_new, hS.2, Nat.le_refl]) (by simp only [pop_new, pop_self hS.1, Nat.le_refl]) ⟨?_, rfl⟩; simp [validC, *])
theorem wc124 (x : Int) (S : St) : WC Tryz.prog 124 [i64 x] (Is (.c (.bool (decide (1 ≤ x) && decide (x ≤ 16)))) S) S := by
  refine wc_fn (fn := Tryz.f124) (N := 5) (rs := [.tmp 2]) (by rfl) (by kernel_rfl) (by rfl) (by rfl) (by rfl) (by rfl) fun hS => ?_
  simp only [go_sem, ne_up2, Nat.reduceAdd, Nat.reduceLT]
  refine wc_is (wc108 _ _ _ _) ?_
  simp only [go_sem, Nat.reduceLT]
  exact ends_now ⟨rfl, rfl⟩
theorem effs_all : ∀ i : Fin 36, (effs.take (i.val + 1)).drop i.val = [effs.getD i.val 0] := by decide
theorem effs_one (i : Nat) (h : i < 36) : ((effs.take (i + 1)).drop i) = [effs.getD i 0] := effs_all ⟨i, h⟩
theorem effs_one' (i : Nat) (h : i < 36) : List.drop i (48 :: List.take i [49, 50, 51, 52, 53, 54, 55, 56, 57, 65, 66, 67, 68, 69, 70, 71, 72, 73, 74, 75, 76, 77, 78, 79, 80, 81, 82, 83, 84, 85, 86, 87, 88, 89, 90]) = [effs.getD i 0] := effs_one i h
theorem wc72 (n bs : Int) (h0 : 0 ≤ n) (hb : 0 < bs) (hb2 : bs ≤ 36) (hq : n / bs < 36) (S : St) : WC Tryz.prog 72 [i64 n, i64 bs]
    (Is (.c (.str [effs.getD (n / bs).toNat 0, effs.getD (n % bs).toNat 0])) S) S := by
  refine wc_fn (fn := Tryz.f72) (N := 22) (rs := [.tmp 4]) (by rfl) (by kernel_rfl) (by rfl) (by rfl) (by rfl) (by rfl) fun hS => ?_
  have q0 : 0 ≤ n / bs := Int.ediv_nonneg h0 (by omega)
  have r0 : 0 ≤ n % bs := Int.emod_nonneg _ (by omega)
  have r1 : n % bs < bs := Int.emod_lt_of_pos _ hb
  have e1 : n.tmod bs = n % bs := tmod_pos _ _ h0
  have e2 : n.tdiv bs = n / bs := tdiv_pos _ _ h0
  have e3 : IntKind.i64.wrap (n / bs) = n / bs := wrap_i64 _ (by omega) (by omega)
  have e4 : IntKind.i64.wrap (n / bs + 1) = n / bs + 1 := wrap_i64 _ (by omega) (by omega)
  have e5 : IntKind.i64.wrap (n % bs + 1) = n % bs + 1 := wrap_i64 _ (by omega) (by omega)
  have e6 : ¬ (bs = 0) := by omega
  have e7 : 0 ≤ n / bs + 1 := by omega
  have e8 : 0 ≤ n % bs + 1 := by omega
  have e9 : (n / bs + 1).toNat = (n / bs).toNat + 1 := by omega
  have e10 : (n % bs + 1).toNat = (n % bs).toNat + 1 := by omega
  have e11 : (n / bs).toNat + 1 ≤ 36 := by omega
  have e12 : (n % bs).toNat + 1 ≤ 36 := by omega
  have e13 := effs_one' (n / bs).toNat (by omega)
  have e14 := effs_one' (n % bs).toNat (by omega)
  simp only [go_sem, Nat.reduceAdd, Nat.reduceLT]
  refine wdraw_plan ch72x1 pp72x1 (by kernel_rfl) (by kernel_rfl) (by kernel_rfl) ?_
  simp only [e1, e2, e3, e4, e5, e6, e7, e8, e9, e10, e11, e12, q0, r0, Nat.le_add_right, e13, e14, go_sem, maxLenA, ne_up1, ne_dn1, ne_up2, ne_up3, ne_up4, ne_up5, ne_up6, Nat.reduceAdd, Nat.reduceEqDiff, Nat.reduceLT, Nat.reduceLeDiff]
  exact ends_now ⟨rfl, rfl⟩
end Go.Proofs.YtgjnimemofmncaaGreatDoor

namespace Go.Proofs.YtgjnimemofmncaaGreatDoor
open Go.Abs Go.Tx
set_option maxHeartbeats 1000000
set_option maxRecDepth 20000
def noExt (f : FuncId) (args : List AV) (s : ES) : Ext1 := .no
theorem noExt_ok : ExtOk Tryz.prog noExt := fun f args s x s' h => by cases h
theorem wc64 (d : Int) (S : St) : WC Tryz.prog 64 [i64 d] (Is (.c (.bool (isD d))) S) S := by
  refine wc_fn (fn := Tryz.f64) (N := 9) (rs := [.tmp 2]) (by rfl) (by kernel_rfl) (by rfl) (by rfl) (by rfl) (by rfl) fun hS => ?_
  simp only [go_sem, ne_up2, Nat.reduceAdd, Nat.reduceLT]
  repeat' first
    | simp only [*, go_sem, ne_up1, ne_up2, ne_up3, ne_up4, ne_up5, Nat.reduceLT]
    | with_reducible refine guardK_split_not (fun hb => ?_) (fun hb => ?_) | with_reducible refine condK_split_not (fun hb => ?_) (fun hb => ?_) | with_reducible refine opA_split_not (fun hb => ?_) (fun hb => ?_) | with_reducible refine stepA_split_not (fun hb => ?_) (fun hb => ?_) | with_reducible refine guardK_split (fun hb => ?_) (fun hb => ?_) | with_reducible refine condK_split (fun hb => ?_) (fun hb => ?_) | with_reducible refine opA_split (fun hb => ?_) (fun hb => ?_) | with_reducible refine stepA_split (fun hb => ?_) (fun hb => ?_)
  all_goals (refine ends_now ⟨?_, rfl⟩; simp only [isD, Tx.within, *]; simp)
def qk0 : List FV := [.str [], .int .i64 (0), .int .i64 (0), .int .i64 (0), .int .i64 (0), .int .i64 (0), .bool false, .bool false, .bool false, .int .i64 (0), .int .i64 (0), .int .i64 (0), .bool false, .bool false, .bool false, .bool false, .int .i64 (0), .bool false, .int .i64 (0), .bool false, .bool false, .int .i64 (0), .bool false, .bool false, .bool false, .bool false, .bool false, .bool false, .bool false]
def qk1 : List FV := [.str [102, 111, 117, 114], .int .i64 (4), .int .i64 (32), .int .i64 (64), .int .i64 (49), .int .i64 (84), .bool false, .bool false, .bool false, .int .i64 (1), .int .i64 (453), .int .i64 (3424), .bool false, .bool false, .bool false, .bool false, .int .i64 (5), .bool true, .int .i64 (1), .bool true, .bool false, .int .i64 (1), .bool true, .bool false, .bool false, .bool true, .bool false, .bool false, .bool false]
def qk2 : List FV := [.str [115, 99, 114, 101, 97, 109], .int .i64 (16), .int .i64 (32), .int .i64 (64), .int .i64 (13), .int .i64 (108), .bool false, .bool true, .bool false, .int .i64 (1), .int .i64 (64), .int .i64 (32767), .bool false, .bool false, .bool false, .bool false, .int .i64 (5), .bool false, .int .i64 (0), .bool false, .bool false, .int .i64 (0), .bool false, .bool false, .bool false, .bool false, .bool false, .bool false, .bool false]
def qk3 : List FV := [.str [102, 97, 115, 116], .int .i64 (16), .int .i64 (32), .int .i64 (0), .int .i64 (1), .int .i64 (96), .bool true, .bool true, .bool true, .int .i64 (0), .int .i64 (32), .int .i64 (65535), .bool true, .bool false, .bool false, .bool false, .int .i64 (6), .bool true, .int .i64 (0), .bool true, .bool true, .int .i64 (1), .bool false, .bool true, .bool true, .bool true, .bool true, .bool true, .bool false]
def qk4 : List FV := [.str [105, 109, 112, 117, 108, 115, 101], .int .i64 (16), .int .i64 (32), .int .i64 (0), .int .i64 (1), .int .i64 (120), .bool true, .bool true, .bool true, .int .i64 (0), .int .i64 (16), .int .i64 (65535), .bool false, .bool false, .bool false, .bool true, .int .i64 (6), .bool false, .int .i64 (0), .bool true, .bool false, .int .i64 (2), .bool false, .bool true, .bool false, .bool false, .bool false, .bool true, .bool false]
def qk5 : List FV := [.str [99, 111, 109, 112, 111, 115, 101], .int .i64 (8), .int .i64 (32), .int .i64 (64), .int .i64 (13), .int .i64 (72), .bool false, .bool false, .bool false, .int .i64 (2), .int .i64 (0), .int .i64 (0), .bool false, .bool true, .bool false, .bool false, .int .i64 (5), .bool false, .int .i64 (2), .bool false, .bool false, .int .i64 (0), .bool false, .bool false, .bool false, .bool false, .bool false, .bool false, .bool true]
def qk6 : List FV := [.str [99, 104, 105, 112], .int .i64 (4), .int .i64 (32), .int .i64 (0), .int .i64 (13), .int .i64 (108), .bool true, .bool false, .bool false, .int .i64 (1), .int .i64 (16), .int .i64 (65535), .bool false, .bool false, .bool true, .bool false, .int .i64 (5), .bool true, .int .i64 (2), .bool false, .bool false, .int .i64 (0), .bool false, .bool true, .bool false, .bool false, .bool false, .bool true, .bool false]
def qkL (d : Int) : List FV := if d = 1 then qk1 else if d = 2 then qk2 else if d = 3 then qk3 else if d = 4 then qk4 else if d = 5 then qk5 else if d = 6 then qk6 else qk0
def qkF (d : Int) : FV := .agg (qkL d)
def tabL : List FV := qk0 ++ qk1 ++ qk2 ++ qk3 ++ qk4 ++ qk5 ++ qk6
theorem isD_cases {d : Int} (h : isD d = true) : d = 1 ∨ d = 2 ∨ d = 3 ∨ d = 4 ∨ d = 5 ∨ d = 6 := by
  have := within_spec h
  omega
def noPlans : Nat → Nat → Option (List Nat × Plan) := fun _ _ => none
theorem wc65 (S : St) : WC Tryz.prog 65 [] (Is (.c (.agg tabL)) S) S :=
  wc_run (pl := noPlans) (by kernel_rfl) noExt_ok (fuel := 10) (d := 10) (by decide) rfl (by kernel_rfl) S
theorem wc129 {d : Int} (h : isD d = true) (S : St) : WC Tryz.prog 129 [i64 d] (Is (str (letters d)) S) S := by
  rcases isD_cases h with rfl | rfl | rfl | rfl | rfl | rfl <;>
    exact wc_run (pl := noPlans) (by kernel_rfl) noExt_ok (fuel := 10) (d := 10) rfl rfl (by kernel_rfl) S
theorem wc128 {d : Int} (h : isD d = true) (S : St) : WC Tryz.prog 128 [i64 d] (Is (i64 (volMax d)) S) S := by
  rcases isD_cases h with rfl | rfl | rfl | rfl | rfl | rfl <;>
    exact wc_run (pl := noPlans) (by kernel_rfl) noExt_ok (fuel := 10) (d := 10) rfl rfl (by kernel_rfl) S
theorem wc28 {d : Int} (h : isD d = true) (S : St) : WC Tryz.prog 28 [i64 d] (Is (.tup [.c (qkF d), i64 0]) S) S := by
  rcases isD_cases h with rfl | rfl | rfl | rfl | rfl | rfl <;>
    exact wc_runA (pl := noPlans) (by kernel_rfl) noExt_ok (fuel := 10) (d := 10) (by decide) rfl (by kernel_rfl) S
theorem wc28_none {d : Int} (h : isD d = false) (S : St) : WC Tryz.prog 28 [i64 d] (Is (.tup [.c (.agg qk0), i64 6]) S) S := by
  refine wc_fn (fn := Tryz.f28) (N := 11) (rs := [.cell 2 82, .tmp 3]) (by rfl) (by kernel_rfl) (by rfl) (by rfl) (by rfl) (by rfl) fun hS => ?_
  simp only [go_sem, ne_up2, ne_up3, Nat.reduceAdd, Nat.reduceLT]
  refine wc_is (wc64 _ _) ?_
  simp only [h, go_sem, put_new, ne_up1, ne_up2, ne_up3, ne_up4, ne_up5, Nat.reduceAdd, Nat.reduceLT, Nat.reduceLeDiff]
  exact ends_popped rfl (by simp only [popOk_new, hS.2, Nat.le_refl]) (by simp only [pop_new, pop_self hS.1, Nat.le_refl]) ⟨rfl, rfl⟩
theorem wc130 (e : Int) (h0 : 1 ≤ e) (h1 : e ≤ 36) (S : St) : WC Tryz.prog 130 [i64 e] (Is (.c (.int .u8 (dig (e - 1)).toNat)) S) S := by
  refine wc_fn (fn := Tryz.f130) (N := 6) (rs := [.tmp 2]) (by rfl) (by kernel_rfl) (by rfl) (by rfl) (by rfl) (by rfl) fun hS => ?_
  have w1 : IntKind.i64.wrap (e - 1) = e - 1 := wrap_i64 _ (by omega) (by omega)
  have w2 : ¬ (e - 1 < 0) := by omega
  have w3 : effs[(e - 1).toNat]? = some (dig (e - 1)) := by
    have : (e - 1).toNat < effs.length := by rw [effs_len]; omega
    unfold dig
    rw [List.getD_eq_getElem?_getD, List.getElem?_eq_getElem this]
    rfl
  simp only [effs] at w3
  simp only [w1, w2, w3, Option.map_some, go_sem, ne_up2, Nat.reduceAdd, Nat.reduceLT]
  exact ends_now ⟨rfl, rfl⟩
theorem al1 : allPure (List.take 29 (List.drop 29 (List.map AV.c tabL))) = some qk1 := by kernel_rfl
theorem al2 : allPure (List.take 29 (List.drop 58 (List.map AV.c tabL))) = some qk2 := by kernel_rfl
theorem al3 : allPure (List.take 29 (List.drop 87 (List.map AV.c tabL))) = some qk3 := by kernel_rfl
theorem al4 : allPure (List.take 29 (List.drop 116 (List.map AV.c tabL))) = some qk4 := by kernel_rfl
theorem al5 : allPure (List.take 29 (List.drop 145 (List.map AV.c tabL))) = some qk5 := by kernel_rfl
theorem al6 : allPure (List.take 29 (List.drop 174 (List.map AV.c tabL))) = some qk6 := by kernel_rfl
theorem tabL_len : tabL.length = 203 := by kernel_rfl
theorem wc127 {d : Int} (h : isD d = true) (n : Int) (S : St) : WC Tryz.prog 127 [i64 d, i64 n] (Is (.c (.bool (noteB d n))) S) S := by
  rcases isD_cases h with rfl | rfl | rfl | rfl | rfl | rfl
  all_goals
    refine wc_fn (fn := Tryz.f127) (N := 46) (rs := [.tmp 4]) (by rfl) (by kernel_rfl) (by rfl) (by rfl) (by rfl) (by rfl) fun hS => ?_
    simp only [go_sem, Nat.reduceAdd, Nat.reduceLT]
    refine wc_is (wc65 _) ?_
    simp only [tabL_len, al1, al2, al3, al4, al5, al6, qk1, qk2, qk3, qk4, qk5, qk6, go_sem, put_new, ne_up1, ne_dn1, ne_up3, ne_dn3, ne_up4, ne_up5, ne_up6, Nat.reduceAdd, Nat.reduceMul, Nat.reduceEqDiff, Nat.reduceLT, Nat.reduceLeDiff, Int.reduceLT, Int.reduceToNat]
    repeat' first
      | simp only [*, go_sem, ne_up1, ne_dn1, ne_up2, ne_up3, ne_up4, ne_up5, ne_up6, Nat.reduceAdd, Nat.reduceEqDiff, Nat.reduceLT, Int.reduceBEq]
      | with_reducible refine guardK_split_not (fun hb => ?_) (fun hb => ?_) | with_reducible refine condK_split_not (fun hb => ?_) (fun hb => ?_) | with_reducible refine opA_split_not (fun hb => ?_) (fun hb => ?_) | with_reducible refine stepA_split_not (fun hb => ?_) (fun hb => ?_) | with_reducible refine guardK_split (fun hb => ?_) (fun hb => ?_) | with_reducible refine condK_split (fun hb => ?_) (fun hb => ?_) | with_reducible refine opA_split (fun hb => ?_) (fun hb => ?_) | with_reducible refine stepA_split (fun hb => ?_) (fun hb => ?_)
  all_goals (refine ends_popped rfl (by simp only [popOk_new, hS.2, Nat.le_refl]) (by simp only [pop_new, pop_self hS.1, Nat.le_refl]) ⟨?_, rfl⟩)
  all_goals (simp only [beq_iff_eq, beq_eq_false_iff_ne] at *; simp [noteB, Tx.within, qLow, qHigh, *])
end Go.Proofs.YtgjnimemofmncaaGreatDoor

namespace Go.Proofs.YtgjnimemofmncaaGreatDoor
open Go.Abs Go.Tx
set_option maxHeartbeats 1000000
set_option maxRecDepth 20000
theorem dig_byte (e : Int) : ((dig e).toNat : Int).toNat.toUInt8 = dig e := by simp
theorem wc92 (d : Int) (a b c e f g : Int) (S : St) : WC Tryz.prog 92 [i64 d, .c (cellFV a b c e f g)] (Is (.c (.bool (cellB d (a, b, c, e, f, g)))) S) S := by
  have hv' : C6.valid (a, b, c, e, f, g) = validC a b c e f g := rfl
  refine wc_fn (fn := Tryz.f92) (N := 37) (rs := [.tmp 4]) (by rfl) (by kernel_rfl) (by rfl) (by rfl) (by rfl) (by rfl) fun hS => ?_
  simp only [go_sem, ne_dn1, Nat.reduceAdd, Nat.reduceLT]
  refine wdraw_plan ch92x1 pp92x1 (by kernel_rfl) (by kernel_rfl) (by kernel_rfl) ?_
  simp only [go_sem, ne_up3, ne_up4, Nat.reduceLT]
  refine ⟨_, wc64 _ _, ?_⟩
  cases h : isD d with
  | false =>
    simp only [go_sem, ne_up1, ne_up2, ne_up3, ne_up4, ne_up5, Nat.reduceLT]
    exact ends_popped rfl (by simp only [popOk_new, hS.2, Nat.le_refl]) (by simp only [pop_new, pop_self hS.1, Nat.le_refl]) ⟨by simp [cellB, h], rfl⟩
  | true =>
    simp only [go_sem, ne_up1, ne_up2, ne_up3, ne_up4, ne_up5, Nat.reduceAdd, Nat.reduceLT, Nat.reduceLeDiff]
    refine ⟨_, wc69 _ _ _ _ _ _ _, ?_⟩
    cases hv : validC a b c e f g with
    | false =>
      simp only [go_sem, ne_up1, ne_up2, ne_up3, ne_up4, ne_up5, Nat.reduceLT]
      exact ends_popped rfl (by simp only [popOk_new, hS.2, Nat.le_refl]) (by simp only [pop_new, pop_self hS.1, Nat.le_refl]) ⟨by simp [cellB, h, hv', hv], rfl⟩
    | true =>
      simp only [go_sem, ne_up1, ne_up2, ne_up3, ne_up4, ne_up5, ne_up6, Nat.reduceAdd, Nat.reduceEqDiff, Nat.reduceLT]
      refine ⟨_, wc127 h _ _, ?_⟩
      cases hn : noteB d a with
      | false =>
        simp only [go_sem, ne_up1, ne_up2, ne_up3, ne_up4, ne_up5, Nat.reduceLT]
        exact ends_popped rfl (by simp only [popOk_new, hS.2, Nat.le_refl]) (by simp only [pop_new, pop_self hS.1, Nat.le_refl]) ⟨by simp [cellB, h, hv', hv, hn], rfl⟩
      | true =>
        simp only [go_sem, ne_up1, ne_up2, ne_up3, ne_up4, ne_up5, ne_up6, Nat.reduceAdd, Nat.reduceEqDiff, Nat.reduceLT]
        refine ⟨_, wc128 h _, ?_⟩
        simp only [go_sem, ne_up1, ne_up2, ne_up3, ne_up4, ne_up5, Nat.reduceLT]
        by_cases hm : c ≤ volMax d
        · have hm' : ¬ (c > volMax d) := by omega
          simp only [hm', go_sem, ne_up1, ne_up2, ne_up3, ne_up4, ne_up5, ne_up6, Nat.reduceAdd, Nat.reduceEqDiff, Nat.reduceLT]
          by_cases hf : f = 0
          · subst hf
            simp only [go_sem, Nat.reduceLT, Int.reduceBEq]
            exact ends_popped rfl (by simp only [popOk_new, hS.2, Nat.le_refl]) (by simp only [pop_new, pop_self hS.1, Nat.le_refl]) ⟨by simp [cellB, h, hv', hv, hn, hm], rfl⟩
          · have hf' : (f == 0) = false := by simpa using hf
            simp only [hf', go_sem]
            have hfr : 1 ≤ f ∧ f ≤ 36 := by
              simp only [validC, vpart, Bool.and_eq_true, decide_eq_true_eq] at hv
              omega
            refine wdraw_plan ch92x5 pp92x5 (by kernel_rfl) (by kernel_rfl) (by kernel_rfl) ?_
            simp only [go_sem, ne_up3, ne_up4, ne_up5, ne_up6, Nat.reduceEqDiff, Nat.reduceLT]
            refine ⟨_, wc129 h _, ?_⟩
            simp only [go_sem, ne_up1, ne_up2, ne_up3, ne_up4, ne_up5, ne_up6, Nat.reduceAdd, Nat.reduceEqDiff, Nat.reduceLT]
            refine ⟨_, wc130 f hfr.1 hfr.2 _, ?_⟩
            simp only [go_sem, ne_up1, ne_up2, ne_up3, Nat.reduceLT]
            refine ⟨_, wc121 _ _ _, ?_⟩
            simp only [dig_byte, go_sem, Nat.reduceLT]
            exact ends_popped rfl (by simp only [popOk_new, hS.2, Nat.le_refl]) (by simp only [pop_new, pop_self hS.1, Nat.le_refl]) ⟨by simp [cellB, h, hv', hv, hn, hm, hf], rfl⟩
        · have hm' : c > volMax d := by omega
          simp only [hm', go_sem, Nat.reduceLT]
          exact ends_popped rfl (by simp only [popOk_new, hS.2, Nat.le_refl]) (by simp only [pop_new, pop_self hS.1, Nat.le_refl]) ⟨by simp [cellB, h, hv', hv, hn, hm], rfl⟩
theorem wc88 (x lo hi : Int) (S : St) : WC Tryz.prog 88 [i64 x, i64 lo, i64 hi] (Is (.c (.bool (Tx.within x lo hi))) S) S := by
  refine wc_fn (fn := Tryz.f88) (N := 15) (rs := [.tmp 6]) (by rfl) (by kernel_rfl) (by rfl) (by rfl) (by rfl) (by rfl) fun hS => ?_
  simp only [go_sem, ne_up1, ne_dn1, ne_up5, ne_up6, Nat.reduceAdd, Nat.reduceLT]
  repeat' first
    | simp only [*, go_sem, ne_up1, ne_dn1, ne_up2, ne_dn2, ne_up3, ne_up4, ne_up5, ne_up6, Nat.reduceEqDiff, Nat.reduceLT]
    | with_reducible refine guardK_split_not (fun hb => ?_) (fun hb => ?_) | with_reducible refine condK_split_not (fun hb => ?_) (fun hb => ?_) | with_reducible refine opA_split_not (fun hb => ?_) (fun hb => ?_) | with_reducible refine stepA_split_not (fun hb => ?_) (fun hb => ?_) | with_reducible refine guardK_split (fun hb => ?_) (fun hb => ?_) | with_reducible refine condK_split (fun hb => ?_) (fun hb => ?_) | with_reducible refine opA_split (fun hb => ?_) (fun hb => ?_) | with_reducible refine stepA_split (fun hb => ?_) (fun hb => ?_)
  all_goals (refine ends_now ⟨?_, rfl⟩; simp [Tx.within, *])
theorem wc135 (x lo hi : Int) (S : St) : WC Tryz.prog 135 [i64 x, i64 lo, i64 hi] (Is (.c (.bool (Tx.within x lo hi))) S) S := by
  refine wc_fn (fn := Tryz.f135) (N := 15) (rs := [.tmp 6]) (by rfl) (by kernel_rfl) (by rfl) (by rfl) (by rfl) (by rfl) fun hS => ?_
  simp only [go_sem, ne_up1, ne_dn1, ne_up5, ne_up6, Nat.reduceAdd, Nat.reduceLT]
  repeat' first
    | simp only [*, go_sem, ne_up1, ne_dn1, ne_up2, ne_dn2, ne_up3, ne_up4, ne_up5, ne_up6, Nat.reduceEqDiff, Nat.reduceLT]
    | with_reducible refine guardK_split_not (fun hb => ?_) (fun hb => ?_) | with_reducible refine condK_split_not (fun hb => ?_) (fun hb => ?_) | with_reducible refine opA_split_not (fun hb => ?_) (fun hb => ?_) | with_reducible refine stepA_split_not (fun hb => ?_) (fun hb => ?_) | with_reducible refine guardK_split (fun hb => ?_) (fun hb => ?_) | with_reducible refine condK_split (fun hb => ?_) (fun hb => ?_) | with_reducible refine opA_split (fun hb => ?_) (fun hb => ?_) | with_reducible refine stepA_split (fun hb => ?_) (fun hb => ?_)
  all_goals (refine ends_now ⟨?_, rfl⟩; simp [Tx.within, *])
theorem wc97 (o : Int) (S : St) : WC Tryz.prog 97 [i64 o] (Is (.c (.bool (o == 254 || o == 255))) S) S := by
  refine wc_fn (fn := Tryz.f97) (N := 9) (rs := [.tmp 2]) (by rfl) (by kernel_rfl) (by rfl) (by rfl) (by rfl) (by rfl) fun hS => ?_
  simp only [go_sem, ne_up2, Nat.reduceAdd, Nat.reduceLT]
  repeat' first
    | simp only [*, go_sem, ne_up1, ne_up2, ne_up3, ne_up4, ne_up5, Nat.reduceLT]
    | with_reducible refine guardK_split_not (fun hb => ?_) (fun hb => ?_) | with_reducible refine condK_split_not (fun hb => ?_) (fun hb => ?_) | with_reducible refine opA_split_not (fun hb => ?_) (fun hb => ?_) | with_reducible refine stepA_split_not (fun hb => ?_) (fun hb => ?_) | with_reducible refine guardK_split (fun hb => ?_) (fun hb => ?_) | with_reducible refine condK_split (fun hb => ?_) (fun hb => ?_) | with_reducible refine opA_split (fun hb => ?_) (fun hb => ?_) | with_reducible refine stepA_split (fun hb => ?_) (fun hb => ?_)
  all_goals (refine ends_now ⟨?_, rfl⟩; simp [*])
theorem wc31 (b : Bool) (S : St) : WC Tryz.prog 31 [.c (.bool b)] (Is (i64 (bN b)) S) S := by
  refine wc_fn (fn := Tryz.f31) (N := 4) (rs := [.tmp 2]) (by rfl) (by kernel_rfl) (by rfl) (by rfl) (by rfl) (by rfl) fun hS => ?_
  simp only [go_sem, ne_up2, Nat.reduceAdd, Nat.reduceLT]
  repeat' first
    | simp only [*, go_sem, Nat.reduceLT]
    | with_reducible refine guardK_split_not (fun hb => ?_) (fun hb => ?_) | with_reducible refine condK_split_not (fun hb => ?_) (fun hb => ?_) | with_reducible refine opA_split_not (fun hb => ?_) (fun hb => ?_) | with_reducible refine stepA_split_not (fun hb => ?_) (fun hb => ?_) | with_reducible refine guardK_split (fun hb => ?_) (fun hb => ?_) | with_reducible refine condK_split (fun hb => ?_) (fun hb => ?_) | with_reducible refine opA_split (fun hb => ?_) (fun hb => ?_) | with_reducible refine stepA_split (fun hb => ?_) (fun hb => ?_)
  all_goals (refine ends_now ⟨?_, rfl⟩; simp [bN, *])
theorem wc132 (k a b n : Int) (S : St) : WC Tryz.prog 132 [i64 k, i64 a, i64 b, i64 n] (Is (.c (.bool (loopB k a b n))) S) S := by
  refine wc_fn (fn := Tryz.f132) (N := 33) (rs := [.tmp 8]) (by rfl) (by kernel_rfl) (by rfl) (by rfl) (by rfl) (by rfl) fun hS => ?_
  simp only [go_sem, Nat.reduceAdd, Nat.reduceEqDiff, Nat.reduceLT]
  repeat' first
    | simp only [*, go_sem, ne_up1, ne_dn1, ne_up2, ne_dn2, ne_up3, ne_dn3, ne_up5, ne_up6, Nat.reduceEqDiff, Nat.reduceLT]
    | with_reducible refine guardK_split_not (fun hb => ?_) (fun hb => ?_) | with_reducible refine condK_split_not (fun hb => ?_) (fun hb => ?_) | with_reducible refine opA_split_not (fun hb => ?_) (fun hb => ?_) | with_reducible refine stepA_split_not (fun hb => ?_) (fun hb => ?_) | with_reducible refine guardK_split (fun hb => ?_) (fun hb => ?_) | with_reducible refine condK_split (fun hb => ?_) (fun hb => ?_) | with_reducible refine opA_split (fun hb => ?_) (fun hb => ?_) | with_reducible refine stepA_split (fun hb => ?_) (fun hb => ?_)
  all_goals (refine ends_now ⟨?_, rfl⟩; simp only [beq_iff_eq, beq_eq_false_iff_ne, ne_eq, decide_eq_true_eq, decide_eq_false_iff_not] at *; simp [loopB, *])
theorem wc131 (b : Int) (h : b = 8 ∨ b = 16) (S : St) : WC Tryz.prog 131 [i64 b] (Is (.tup [i64 (if b = 8 then -128 else -32768), i64 (if b = 8 then 127 else 32767)]) S) S := by
  rcases h with rfl | rfl <;>
    exact wc_runA (pl := fun f r => bif Nat.beq f 131 && Nat.beq r 1 then some (ch131x1, pp131x1) else none) (by kernel_rfl) noExt_ok (fuel := 10) (d := 10) (by decide) rfl (by kernel_rfl) S
theorem within_pr (c : UInt8) : Tx.within (c.toNat : Int) 32 126 = isPr c := by
  unfold Tx.within isPr
  congr 1 <;> (apply decide_eq_decide.2; omega)
theorem wrap_byte (c : UInt8) : IntKind.i64.wrap (c.toNat : Int) = (c.toNat : Int) := wrap_i64 _ (by omega) (by have := c.toNat_lt; omega)
theorem all_drop {s : List UInt8} {i : Nat} (h : i < s.length) (p : UInt8 → Bool) : (s.drop i).all p = (p s[i] && (s.drop (i + 1)).all p) := by
  rw [List.drop_eq_getElem_cons h, List.all_cons]
theorem wc87 (s : List UInt8) (hs : s.length ≤ maxLenA) (S : St) : WC Tryz.prog 87 [str s] (Is (.c (.bool (nameB s))) S) S := by
  refine wc_fn (fn := Tryz.f87) (N := 19) (rs := [.tmp 2]) (by rfl) (by kernel_rfl) (by rfl) (by rfl) (by rfl) (by rfl) fun hS => ?_
  simp only [go_sem, ne_up2, Nat.reduceAdd, Nat.reduceLT]
  refine wloop_meas (fun n e S' => S' = S ∧ ∃ i : Nat, n = s.length - i ∧ i ≤ s.length ∧ e.get 0 = str s ∧ e.get 5 = i64 s.length ∧ e.get 6 = i64 i ∧ (s.drop i).all isPr = s.all isPr) ?_ s.length _ _ ?_
  · rintro n e S' ⟨rfl, i, rfl, hi, g0, g5, g6, hp⟩
    rcases Nat.lt_or_ge i s.length with hlt | hge
    · have h1 : ((i : Int) < (s.length : Int)) := by omega
      have h2 : ¬ ((i : Int) < 0) := by omega
      have h3 : s[i]? = some s[i] := by simp [hlt]
      have hd := all_drop hlt isPr
      simp only [g0, g5, g6, h1, h2, h3, Int.toNat_natCast, wrap_byte, Option.map_some, go_sem, ne_up1, ne_up3, ne_up6, Nat.reduceEqDiff, Nat.reduceLT]
      refine wc_is (wc88 _ _ _ _) ?_
      rw [within_pr]
      cases hx : isPr s[i] with
      | false =>
        simp only [go_sem, Nat.reduceLT]
        refine ends_now ⟨?_, rfl⟩
        simp [nameB, ← hp, hd, hx]
      | true =>
        have h5 : IntKind.i64.wrap ((i : Int) + 1) = ((i + 1 : Nat) : Int) := by
          rw [wrap_i64 _ (by omega) (by simp only [maxLenA] at hs; omega)]; rfl
        simp only [g0, g5, g6, h5, go_sem, ne_up1, ne_up2, ne_dn2, ne_up3, ne_dn3, ne_up4, ne_up5, ne_up6, Nat.reduceEqDiff, Nat.reduceLT]
        refine ⟨s.length - (i + 1), by omega, i + 1, rfl, by omega, rfl, ?_⟩
        rw [← hp, hd, hx]; simp
    · have h1 : ¬ ((i : Int) < (s.length : Int)) := by omega
      simp only [g0, g5, g6, h1, go_sem, Nat.reduceEqDiff, Nat.reduceLT]
      refine ends_now ⟨?_, rfl⟩
      have hall : s.all isPr = true := by rw [← hp, List.drop_eq_nil_of_le hge]; rfl
      have e1 : ((s.length : Int) ≤ 22) ↔ s.length ≤ 22 := by omega
      simp [nameB, hall, e1]
  · exact ⟨rfl, 0, rfl, Nat.zero_le _, by simp only [go_sem, ne_up2, ne_up4, ne_up5, ne_up6], by simp only [go_sem, ne_up1], by simp only [go_sem, Int.cast_ofNat_Int], rfl⟩
end Go.Proofs.YtgjnimemofmncaaGreatDoor

namespace Go.Proofs.YtgjnimemofmncaaGreatDoor
open Go.Abs Go.Tx
set_option maxHeartbeats 1000000
set_option maxRecDepth 20000
def findI {α : Type} (p : α → Bool) : List α → Nat → Int
  | [], _ => -1
  | x :: r, i => if p x then (i : Int) else findI p r (i + 1)
theorem findI_any {α : Type} (p : α → Bool) : ∀ (l : List α) (i : Nat), 0 ≤ findI p l i ↔ l.any p = true
  | [], i => by simp [findI]
  | x :: r, i => by
    unfold findI
    by_cases hx : p x = true
    · rw [if_pos hx]; simp [hx]
    · rw [if_neg hx, findI_any p r (i + 1)]; simp [hx]
abbrev cellV (c : C6) : FV := cellFV c.1 c.2.1 c.2.2.1 c.2.2.2.1 c.2.2.2.2.1 c.2.2.2.2.2
abbrev intV (n : Int) : FV := .int .i64 n
abbrev keyV (k : Int × Int) : FV := .agg [.int .i64 k.1, .int .i64 k.2]
theorem allSize_map {α : Type} {s : Nat} (f : α → FV) (h : ∀ a, (f a).cells.length = s) (l : List α) : allSize s (l.map f) = true :=
  allSize_iff.2 fun x hx => by
    obtain ⟨a, _, rfl⟩ := List.mem_map.1 hx
    exact h a
theorem wc126f {g : FuncId} {first caps : List AV} (p : C6 → Bool) (xs : List (C6)) (hl : xs.length ≤ maxLenA) (S : St)
    (hp : ∀ c ∈ xs, WC Tryz.prog g ([] ++ [.c (cellV c)] ++ []) (Is (.c (.bool (p c))) S) S) : WC Tryz.prog 126 [.c (.sl (xs.map cellV)), (.c (.fn g))] (Is (i64 (findI p xs 0)) S) S := by
  have hsz : allSize 6 (xs.map cellV) = true := allSize_map (s := 6) cellV (fun _ => rfl) xs
  refine wc_fn (fn := Tryz.f126) (N := 19) (rs := [.tmp 4]) (by rfl) (by kernel_rfl) (by rfl) (by rfl) (by rfl) (by rfl) fun hS => ?_
  simp only [List.length_map, go_sem, ne_up4, Nat.reduceAdd, Nat.reduceLT, Int.reduceNeg]
  refine wloop_meas (fun n e S' => S' = S ∧ ∃ i : Nat, n = xs.length - i ∧ i ≤ xs.length ∧ e.get 0 = .c (.sl (xs.map cellV)) ∧ e.get 1 = (.c (.fn g)) ∧ e.get 7 = i64 xs.length ∧ e.get 8 = i64 i ∧ findI p (xs.drop i) i = findI p xs 0) ?_ xs.length _ _ ?_
  · rintro n e S' ⟨rfl, i, rfl, hi, g0, g1, g7, g8, hq⟩
    rcases Nat.lt_or_ge i xs.length with hlt | hge
    · have h1 : ((i : Int) < (xs.length : Int)) := by omega
      have h2 : ¬ ((i : Int) < 0) := by omega
      have h3 : (xs.map cellV)[i]? = some (cellV xs[i]) := by simp [hlt]
      simp only [g0, g1, g7, g8, h1, h2, h3, hlt, hsz, List.length_map, Int.toNat_natCast, Option.map_some, go_sem, ne_up1, ne_up2, ne_up3, ne_up4, ne_up5, ne_up6, Nat.reduceAdd, Nat.reduceEqDiff, Nat.reduceLT, Nat.reduceLeDiff, Int.reduceNeg]
      refine wc_is (hp xs[i] (List.getElem_mem hlt)) ?_
      cases hx : p xs[i] with
      | true =>
        simp only [go_sem, ne_up6, Nat.reduceEqDiff, Nat.reduceLT, Int.reduceNeg]
        refine ends_now ⟨?_, rfl⟩
        rw [← hq, List.drop_eq_getElem_cons hlt, findI, if_pos hx]
      | false =>
        have h5 : IntKind.i64.wrap ((i : Int) + 1) = ((i + 1 : Nat) : Int) := by
          rw [wrap_i64 _ (by omega) (by simp only [maxLenA] at hl; omega)]; rfl
        simp only [g0, g1, g7, g8, h5, go_sem, ne_up1, ne_up2, ne_dn2, ne_up3, ne_dn3, ne_up4, ne_up5, ne_up6, Nat.reduceEqDiff, Nat.reduceLT, Int.reduceNeg]
        refine ⟨xs.length - (i + 1), by omega, i + 1, rfl, by omega, ?_⟩
        refine ⟨rfl, ?_⟩
        rw [← hq, List.drop_eq_getElem_cons hlt, findI, if_neg (by simp [hx])]
    · have h1 : ¬ ((i : Int) < (xs.length : Int)) := by omega
      simp only [g7, g8, h1, go_sem, Nat.reduceLT, Int.reduceNeg]
      refine ends_now ⟨?_, rfl⟩
      rw [← hq, List.drop_eq_nil_of_le hge]; rfl
  · exact ⟨rfl, 0, rfl, Nat.zero_le _, by simp only [go_sem, ne_up4, ne_up6, Nat.reduceEqDiff], by simp only [go_sem, ne_dn1, ne_up3, ne_up5, ne_up6, Nat.reduceEqDiff], by simp only [go_sem, ne_up1], by simp only [go_sem, Int.cast_ofNat_Int], rfl⟩
theorem wc126c {g : FuncId} {first caps : List AV} (p : C6 → Bool) (xs : List (C6)) (hl : xs.length ≤ maxLenA) (S : St)
    (hp : ∀ c ∈ xs, WC Tryz.prog g (first ++ [.c (cellV c)] ++ caps) (Is (.c (.bool (p c))) S) S) : WC Tryz.prog 126 [.c (.sl (xs.map cellV)), (.clo g first caps)] (Is (i64 (findI p xs 0)) S) S := by
  have hsz : allSize 6 (xs.map cellV) = true := allSize_map (s := 6) cellV (fun _ => rfl) xs
  refine wc_fn (fn := Tryz.f126) (N := 19) (rs := [.tmp 4]) (by rfl) (by kernel_rfl) (by rfl) (by rfl) (by rfl) (by rfl) fun hS => ?_
  simp only [List.length_map, go_sem, ne_up4, Nat.reduceAdd, Nat.reduceLT, Int.reduceNeg]
  refine wloop_meas (fun n e S' => S' = S ∧ ∃ i : Nat, n = xs.length - i ∧ i ≤ xs.length ∧ e.get 0 = .c (.sl (xs.map cellV)) ∧ e.get 1 = (.clo g first caps) ∧ e.get 7 = i64 xs.length ∧ e.get 8 = i64 i ∧ findI p (xs.drop i) i = findI p xs 0) ?_ xs.length _ _ ?_
  · rintro n e S' ⟨rfl, i, rfl, hi, g0, g1, g7, g8, hq⟩
    rcases Nat.lt_or_ge i xs.length with hlt | hge
    · have h1 : ((i : Int) < (xs.length : Int)) := by omega
      have h2 : ¬ ((i : Int) < 0) := by omega
      have h3 : (xs.map cellV)[i]? = some (cellV xs[i]) := by simp [hlt]
      simp only [g0, g1, g7, g8, h1, h2, h3, hlt, hsz, List.length_map, Int.toNat_natCast, Option.map_some, go_sem, ne_up1, ne_up2, ne_up3, ne_up4, ne_up5, ne_up6, Nat.reduceAdd, Nat.reduceEqDiff, Nat.reduceLT, Nat.reduceLeDiff, Int.reduceNeg]
      refine wc_is (hp xs[i] (List.getElem_mem hlt)) ?_
      cases hx : p xs[i] with
      | true =>
        simp only [go_sem, ne_up6, Nat.reduceEqDiff, Nat.reduceLT, Int.reduceNeg]
        refine ends_now ⟨?_, rfl⟩
        rw [← hq, List.drop_eq_getElem_cons hlt, findI, if_pos hx]
      | false =>
        have h5 : IntKind.i64.wrap ((i : Int) + 1) = ((i + 1 : Nat) : Int) := by
          rw [wrap_i64 _ (by omega) (by simp only [maxLenA] at hl; omega)]; rfl
        simp only [g0, g1, g7, g8, h5, go_sem, ne_up1, ne_up2, ne_dn2, ne_up3, ne_dn3, ne_up4, ne_up5, ne_up6, Nat.reduceEqDiff, Nat.reduceLT, Int.reduceNeg]
        refine ⟨xs.length - (i + 1), by omega, i + 1, rfl, by omega, ?_⟩
        refine ⟨rfl, ?_⟩
        rw [← hq, List.drop_eq_getElem_cons hlt, findI, if_neg (by simp [hx])]
    · have h1 : ¬ ((i : Int) < (xs.length : Int)) := by omega
      simp only [g7, g8, h1, go_sem, Nat.reduceLT, Int.reduceNeg]
      refine ends_now ⟨?_, rfl⟩
      rw [← hq, List.drop_eq_nil_of_le hge]; rfl
  · exact ⟨rfl, 0, rfl, Nat.zero_le _, by simp only [go_sem, ne_up4, ne_up6, Nat.reduceEqDiff], by simp only [go_sem, ne_dn1, ne_up3, ne_up5, ne_up6, Nat.reduceEqDiff], by simp only [go_sem, ne_up1], by simp only [go_sem, Int.cast_ofNat_Int], rfl⟩
theorem wc95f {g : FuncId} {first caps : List AV} (p : Int → Bool) (xs : List (Int)) (hl : xs.length ≤ maxLenA) (S : St)
    (hp : ∀ c ∈ xs, WC Tryz.prog g ([] ++ [.c (intV c)] ++ []) (Is (.c (.bool (p c))) S) S) : WC Tryz.prog 95 [.c (.sl (xs.map intV)), (.c (.fn g))] (Is (i64 (findI p xs 0)) S) S := by
  have hsz : allSize 1 (xs.map intV) = true := allSize_map (s := 1) intV (fun _ => rfl) xs
  refine wc_fn (fn := Tryz.f95) (N := 19) (rs := [.tmp 4]) (by rfl) (by kernel_rfl) (by rfl) (by rfl) (by rfl) (by rfl) fun hS => ?_
  simp only [List.length_map, go_sem, ne_up4, Nat.reduceAdd, Nat.reduceLT, Int.reduceNeg]
  refine wloop_meas (fun n e S' => S' = S ∧ ∃ i : Nat, n = xs.length - i ∧ i ≤ xs.length ∧ e.get 0 = .c (.sl (xs.map intV)) ∧ e.get 1 = (.c (.fn g)) ∧ e.get 7 = i64 xs.length ∧ e.get 8 = i64 i ∧ findI p (xs.drop i) i = findI p xs 0) ?_ xs.length _ _ ?_
  · rintro n e S' ⟨rfl, i, rfl, hi, g0, g1, g7, g8, hq⟩
    rcases Nat.lt_or_ge i xs.length with hlt | hge
    · have h1 : ((i : Int) < (xs.length : Int)) := by omega
      have h2 : ¬ ((i : Int) < 0) := by omega
      have h3 : (xs.map intV)[i]? = some (intV xs[i]) := by simp [hlt]
      simp only [g0, g1, g7, g8, h1, h2, h3, hlt, hsz, List.length_map, Int.toNat_natCast, Option.map_some, go_sem, ne_up1, ne_up2, ne_up3, ne_up4, ne_up5, ne_up6, Nat.reduceEqDiff, Nat.reduceLT, Int.reduceNeg]
      refine wc_is (hp xs[i] (List.getElem_mem hlt)) ?_
      cases hx : p xs[i] with
      | true =>
        simp only [go_sem, ne_up6, Nat.reduceEqDiff, Nat.reduceLT, Int.reduceNeg]
        refine ends_now ⟨?_, rfl⟩
        rw [← hq, List.drop_eq_getElem_cons hlt, findI, if_pos hx]
      | false =>
        have h5 : IntKind.i64.wrap ((i : Int) + 1) = ((i + 1 : Nat) : Int) := by
          rw [wrap_i64 _ (by omega) (by simp only [maxLenA] at hl; omega)]; rfl
        simp only [g0, g1, g7, g8, h5, go_sem, ne_up1, ne_up2, ne_dn2, ne_up3, ne_dn3, ne_up4, ne_up5, ne_up6, Nat.reduceEqDiff, Nat.reduceLT, Int.reduceNeg]
        refine ⟨xs.length - (i + 1), by omega, i + 1, rfl, by omega, ?_⟩
        refine ⟨rfl, ?_⟩
        rw [← hq, List.drop_eq_getElem_cons hlt, findI, if_neg (by simp [hx])]
    · have h1 : ¬ ((i : Int) < (xs.length : Int)) := by omega
      simp only [g7, g8, h1, go_sem, Nat.reduceLT, Int.reduceNeg]
      refine ends_now ⟨?_, rfl⟩
      rw [← hq, List.drop_eq_nil_of_le hge]; rfl
  · exact ⟨rfl, 0, rfl, Nat.zero_le _, by simp only [go_sem, ne_up4, ne_up6, Nat.reduceEqDiff], by simp only [go_sem, ne_dn1, ne_up3, ne_up5, ne_up6, Nat.reduceEqDiff], by simp only [go_sem, ne_up1], by simp only [go_sem, Int.cast_ofNat_Int], rfl⟩
theorem wc95c {g : FuncId} {first caps : List AV} (p : Int → Bool) (xs : List (Int)) (hl : xs.length ≤ maxLenA) (S : St)
    (hp : ∀ c ∈ xs, WC Tryz.prog g (first ++ [.c (intV c)] ++ caps) (Is (.c (.bool (p c))) S) S) : WC Tryz.prog 95 [.c (.sl (xs.map intV)), (.clo g first caps)] (Is (i64 (findI p xs 0)) S) S := by
  have hsz : allSize 1 (xs.map intV) = true := allSize_map (s := 1) intV (fun _ => rfl) xs
  refine wc_fn (fn := Tryz.f95) (N := 19) (rs := [.tmp 4]) (by rfl) (by kernel_rfl) (by rfl) (by rfl) (by rfl) (by rfl) fun hS => ?_
  simp only [List.length_map, go_sem, ne_up4, Nat.reduceAdd, Nat.reduceLT, Int.reduceNeg]
  refine wloop_meas (fun n e S' => S' = S ∧ ∃ i : Nat, n = xs.length - i ∧ i ≤ xs.length ∧ e.get 0 = .c (.sl (xs.map intV)) ∧ e.get 1 = (.clo g first caps) ∧ e.get 7 = i64 xs.length ∧ e.get 8 = i64 i ∧ findI p (xs.drop i) i = findI p xs 0) ?_ xs.length _ _ ?_
  · rintro n e S' ⟨rfl, i, rfl, hi, g0, g1, g7, g8, hq⟩
    rcases Nat.lt_or_ge i xs.length with hlt | hge
    · have h1 : ((i : Int) < (xs.length : Int)) := by omega
      have h2 : ¬ ((i : Int) < 0) := by omega
      have h3 : (xs.map intV)[i]? = some (intV xs[i]) := by simp [hlt]
      simp only [g0, g1, g7, g8, h1, h2, h3, hlt, hsz, List.length_map, Int.toNat_natCast, Option.map_some, go_sem, ne_up1, ne_up2, ne_up3, ne_up4, ne_up5, ne_up6, Nat.reduceEqDiff, Nat.reduceLT, Int.reduceNeg]
      refine wc_is (hp xs[i] (List.getElem_mem hlt)) ?_
      cases hx : p xs[i] with
      | true =>
        simp only [go_sem, ne_up6, Nat.reduceEqDiff, Nat.reduceLT, Int.reduceNeg]
        refine ends_now ⟨?_, rfl⟩
        rw [← hq, List.drop_eq_getElem_cons hlt, findI, if_pos hx]
      | false =>
        have h5 : IntKind.i64.wrap ((i : Int) + 1) = ((i + 1 : Nat) : Int) := by
          rw [wrap_i64 _ (by omega) (by simp only [maxLenA] at hl; omega)]; rfl
        simp only [g0, g1, g7, g8, h5, go_sem, ne_up1, ne_up2, ne_dn2, ne_up3, ne_dn3, ne_up4, ne_up5, ne_up6, Nat.reduceEqDiff, Nat.reduceLT, Int.reduceNeg]
        refine ⟨xs.length - (i + 1), by omega, i + 1, rfl, by omega, ?_⟩
        refine ⟨rfl, ?_⟩
        rw [← hq, List.drop_eq_getElem_cons hlt, findI, if_neg (by simp [hx])]
    · have h1 : ¬ ((i : Int) < (xs.length : Int)) := by omega
      simp only [g7, g8, h1, go_sem, Nat.reduceLT, Int.reduceNeg]
      refine ends_now ⟨?_, rfl⟩
      rw [← hq, List.drop_eq_nil_of_le hge]; rfl
  · exact ⟨rfl, 0, rfl, Nat.zero_le _, by simp only [go_sem, ne_up4, ne_up6, Nat.reduceEqDiff], by simp only [go_sem, ne_dn1, ne_up3, ne_up5, ne_up6, Nat.reduceEqDiff], by simp only [go_sem, ne_up1], by simp only [go_sem, Int.cast_ofNat_Int], rfl⟩
theorem wc137f {g : FuncId} {first caps : List AV} (p : Int × Int → Bool) (xs : List (Int × Int)) (hl : xs.length ≤ maxLenA) (S : St)
    (hp : ∀ c ∈ xs, WC Tryz.prog g ([] ++ [.c (keyV c)] ++ []) (Is (.c (.bool (p c))) S) S) : WC Tryz.prog 137 [.c (.sl (xs.map keyV)), (.c (.fn g))] (Is (i64 (findI p xs 0)) S) S := by
  have hsz : allSize 2 (xs.map keyV) = true := allSize_map (s := 2) keyV (fun _ => rfl) xs
  refine wc_fn (fn := Tryz.f137) (N := 19) (rs := [.tmp 4]) (by rfl) (by kernel_rfl) (by rfl) (by rfl) (by rfl) (by rfl) fun hS => ?_
  simp only [List.length_map, go_sem, ne_up4, Nat.reduceAdd, Nat.reduceLT, Int.reduceNeg]
  refine wloop_meas (fun n e S' => S' = S ∧ ∃ i : Nat, n = xs.length - i ∧ i ≤ xs.length ∧ e.get 0 = .c (.sl (xs.map keyV)) ∧ e.get 1 = (.c (.fn g)) ∧ e.get 7 = i64 xs.length ∧ e.get 8 = i64 i ∧ findI p (xs.drop i) i = findI p xs 0) ?_ xs.length _ _ ?_
  · rintro n e S' ⟨rfl, i, rfl, hi, g0, g1, g7, g8, hq⟩
    rcases Nat.lt_or_ge i xs.length with hlt | hge
    · have h1 : ((i : Int) < (xs.length : Int)) := by omega
      have h2 : ¬ ((i : Int) < 0) := by omega
      have h3 : (xs.map keyV)[i]? = some (keyV xs[i]) := by simp [hlt]
      simp only [g0, g1, g7, g8, h1, h2, h3, hlt, hsz, List.length_map, Int.toNat_natCast, Option.map_some, go_sem, ne_up1, ne_up2, ne_up3, ne_up4, ne_up5, ne_up6, Nat.reduceAdd, Nat.reduceEqDiff, Nat.reduceLT, Nat.reduceLeDiff, Int.reduceNeg]
      refine wc_is (hp xs[i] (List.getElem_mem hlt)) ?_
      cases hx : p xs[i] with
      | true =>
        simp only [go_sem, ne_up6, Nat.reduceEqDiff, Nat.reduceLT, Int.reduceNeg]
        refine ends_now ⟨?_, rfl⟩
        rw [← hq, List.drop_eq_getElem_cons hlt, findI, if_pos hx]
      | false =>
        have h5 : IntKind.i64.wrap ((i : Int) + 1) = ((i + 1 : Nat) : Int) := by
          rw [wrap_i64 _ (by omega) (by simp only [maxLenA] at hl; omega)]; rfl
        simp only [g0, g1, g7, g8, h5, go_sem, ne_up1, ne_up2, ne_dn2, ne_up3, ne_dn3, ne_up4, ne_up5, ne_up6, Nat.reduceEqDiff, Nat.reduceLT, Int.reduceNeg]
        refine ⟨xs.length - (i + 1), by omega, i + 1, rfl, by omega, ?_⟩
        refine ⟨rfl, ?_⟩
        rw [← hq, List.drop_eq_getElem_cons hlt, findI, if_neg (by simp [hx])]
    · have h1 : ¬ ((i : Int) < (xs.length : Int)) := by omega
      simp only [g7, g8, h1, go_sem, Nat.reduceLT, Int.reduceNeg]
      refine ends_now ⟨?_, rfl⟩
      rw [← hq, List.drop_eq_nil_of_le hge]; rfl
  · exact ⟨rfl, 0, rfl, Nat.zero_le _, by simp only [go_sem, ne_up4, ne_up6, Nat.reduceEqDiff], by simp only [go_sem, ne_dn1, ne_up3, ne_up5, ne_up6, Nat.reduceEqDiff], by simp only [go_sem, ne_up1], by simp only [go_sem, Int.cast_ofNat_Int], rfl⟩
theorem wc137c {g : FuncId} {first caps : List AV} (p : Int × Int → Bool) (xs : List (Int × Int)) (hl : xs.length ≤ maxLenA) (S : St)
    (hp : ∀ c ∈ xs, WC Tryz.prog g (first ++ [.c (keyV c)] ++ caps) (Is (.c (.bool (p c))) S) S) : WC Tryz.prog 137 [.c (.sl (xs.map keyV)), (.clo g first caps)] (Is (i64 (findI p xs 0)) S) S := by
  have hsz : allSize 2 (xs.map keyV) = true := allSize_map (s := 2) keyV (fun _ => rfl) xs
  refine wc_fn (fn := Tryz.f137) (N := 19) (rs := [.tmp 4]) (by rfl) (by kernel_rfl) (by rfl) (by rfl) (by rfl) (by rfl) fun hS => ?_
  simp only [List.length_map, go_sem, ne_up4, Nat.reduceAdd, Nat.reduceLT, Int.reduceNeg]
  refine wloop_meas (fun n e S' => S' = S ∧ ∃ i : Nat, n = xs.length - i ∧ i ≤ xs.length ∧ e.get 0 = .c (.sl (xs.map keyV)) ∧ e.get 1 = (.clo g first caps) ∧ e.get 7 = i64 xs.length ∧ e.get 8 = i64 i ∧ findI p (xs.drop i) i = findI p xs 0) ?_ xs.length _ _ ?_
  · rintro n e S' ⟨rfl, i, rfl, hi, g0, g1, g7, g8, hq⟩
    rcases Nat.lt_or_ge i xs.length with hlt | hge
    · have h1 : ((i : Int) < (xs.length : Int)) := by omega
      have h2 : ¬ ((i : Int) < 0) := by omega
      have h3 : (xs.map keyV)[i]? = some (keyV xs[i]) := by simp [hlt]
      simp only [g0, g1, g7, g8, h1, h2, h3, hlt, hsz, List.length_map, Int.toNat_natCast, Option.map_some, go_sem, ne_up1, ne_up2, ne_up3, ne_up4, ne_up5, ne_up6, Nat.reduceAdd, Nat.reduceEqDiff, Nat.reduceLT, Nat.reduceLeDiff, Int.reduceNeg]
      refine wc_is (hp xs[i] (List.getElem_mem hlt)) ?_
      cases hx : p xs[i] with
      | true =>
        simp only [go_sem, ne_up6, Nat.reduceEqDiff, Nat.reduceLT, Int.reduceNeg]
        refine ends_now ⟨?_, rfl⟩
        rw [← hq, List.drop_eq_getElem_cons hlt, findI, if_pos hx]
      | false =>
        have h5 : IntKind.i64.wrap ((i : Int) + 1) = ((i + 1 : Nat) : Int) := by
          rw [wrap_i64 _ (by omega) (by simp only [maxLenA] at hl; omega)]; rfl
        simp only [g0, g1, g7, g8, h5, go_sem, ne_up1, ne_up2, ne_dn2, ne_up3, ne_dn3, ne_up4, ne_up5, ne_up6, Nat.reduceEqDiff, Nat.reduceLT, Int.reduceNeg]
        refine ⟨xs.length - (i + 1), by omega, i + 1, rfl, by omega, ?_⟩
        refine ⟨rfl, ?_⟩
        rw [← hq, List.drop_eq_getElem_cons hlt, findI, if_neg (by simp [hx])]
    · have h1 : ¬ ((i : Int) < (xs.length : Int)) := by omega
      simp only [g7, g8, h1, go_sem, Nat.reduceLT, Int.reduceNeg]
      refine ends_now ⟨?_, rfl⟩
      rw [← hq, List.drop_eq_nil_of_le hge]; rfl
  · exact ⟨rfl, 0, rfl, Nat.zero_le _, by simp only [go_sem, ne_up4, ne_up6, Nat.reduceEqDiff], by simp only [go_sem, ne_dn1, ne_up3, ne_up5, ne_up6, Nat.reduceEqDiff], by simp only [go_sem, ne_up1], by simp only [go_sem, Int.cast_ofNat_Int], rfl⟩
theorem wc90f {g : FuncId} {first caps : List AV} (p : C6 → Bool) (xs : List (C6)) (hl : xs.length ≤ maxLenA) (S : St)
    (hp : ∀ c ∈ xs, WC Tryz.prog g ([] ++ [.c (cellV c)] ++ []) (Is (.c (.bool (p c))) S) S) : WC Tryz.prog 90 [.c (.sl (xs.map cellV)), .c (.fn g)] (Is (.c (.bool (xs.any p))) S) S := by
  refine wc_fn (fn := Tryz.f90) (N := 9) (rs := [.tmp 4]) (by rfl) (by kernel_rfl) (by rfl) (by rfl) (by rfl) (by rfl) fun hS => ?_
  simp only [go_sem, ne_up1, ne_dn1, ne_up3, ne_up4, Nat.reduceAdd, Nat.reduceLT]
  refine wc_is (wc126f (first := first) (caps := caps) p xs hl S hp) ?_
  simp only [go_sem, Nat.reduceLT]
  refine ends_now ⟨?_, rfl⟩
  have := findI_any p xs 0
  cases ha : xs.any p with
  | true => rw [ha] at this; simp [this.2 rfl]
  | false => rw [ha] at this; simp only [Bool.false_eq_true, iff_false] at this; simp [this]
theorem wc90c {g : FuncId} {first caps : List AV} (p : C6 → Bool) (xs : List (C6)) (hl : xs.length ≤ maxLenA) (S : St)
    (hp : ∀ c ∈ xs, WC Tryz.prog g (first ++ [.c (cellV c)] ++ caps) (Is (.c (.bool (p c))) S) S) : WC Tryz.prog 90 [.c (.sl (xs.map cellV)), .clo g first caps] (Is (.c (.bool (xs.any p))) S) S := by
  refine wc_fn (fn := Tryz.f90) (N := 9) (rs := [.tmp 4]) (by rfl) (by kernel_rfl) (by rfl) (by rfl) (by rfl) (by rfl) fun hS => ?_
  simp only [go_sem, ne_up1, ne_dn1, ne_up3, ne_up4, Nat.reduceAdd, Nat.reduceLT]
  refine wc_is (wc126c (first := first) (caps := caps) p xs hl S hp) ?_
  simp only [go_sem, Nat.reduceLT]
  refine ends_now ⟨?_, rfl⟩
  have := findI_any p xs 0
  cases ha : xs.any p with
  | true => rw [ha] at this; simp [this.2 rfl]
  | false => rw [ha] at this; simp only [Bool.false_eq_true, iff_false] at this; simp [this]
theorem wc103f {g : FuncId} {first caps : List AV} (p : Int × Int → Bool) (xs : List (Int × Int)) (hl : xs.length ≤ maxLenA) (S : St)
    (hp : ∀ c ∈ xs, WC Tryz.prog g ([] ++ [.c (keyV c)] ++ []) (Is (.c (.bool (p c))) S) S) : WC Tryz.prog 103 [.c (.sl (xs.map keyV)), .c (.fn g)] (Is (.c (.bool (xs.any p))) S) S := by
  refine wc_fn (fn := Tryz.f103) (N := 9) (rs := [.tmp 4]) (by rfl) (by kernel_rfl) (by rfl) (by rfl) (by rfl) (by rfl) fun hS => ?_
  simp only [go_sem, ne_up1, ne_dn1, ne_up3, ne_up4, Nat.reduceAdd, Nat.reduceLT]
  refine wc_is (wc137f (first := first) (caps := caps) p xs hl S hp) ?_
  simp only [go_sem, Nat.reduceLT]
  refine ends_now ⟨?_, rfl⟩
  have := findI_any p xs 0
  cases ha : xs.any p with
  | true => rw [ha] at this; simp [this.2 rfl]
  | false => rw [ha] at this; simp only [Bool.false_eq_true, iff_false] at this; simp [this]
theorem wc103c {g : FuncId} {first caps : List AV} (p : Int × Int → Bool) (xs : List (Int × Int)) (hl : xs.length ≤ maxLenA) (S : St)
    (hp : ∀ c ∈ xs, WC Tryz.prog g (first ++ [.c (keyV c)] ++ caps) (Is (.c (.bool (p c))) S) S) : WC Tryz.prog 103 [.c (.sl (xs.map keyV)), .clo g first caps] (Is (.c (.bool (xs.any p))) S) S := by
  refine wc_fn (fn := Tryz.f103) (N := 9) (rs := [.tmp 4]) (by rfl) (by kernel_rfl) (by rfl) (by rfl) (by rfl) (by rfl) fun hS => ?_
  simp only [go_sem, ne_up1, ne_dn1, ne_up3, ne_up4, Nat.reduceAdd, Nat.reduceLT]
  refine wc_is (wc137c (first := first) (caps := caps) p xs hl S hp) ?_
  simp only [go_sem, Nat.reduceLT]
  refine ends_now ⟨?_, rfl⟩
  have := findI_any p xs 0
  cases ha : xs.any p with
  | true => rw [ha] at this; simp [this.2 rfl]
  | false => rw [ha] at this; simp only [Bool.false_eq_true, iff_false] at this; simp [this]
end Go.Proofs.YtgjnimemofmncaaGreatDoor

namespace Go.Proofs.YtgjnimemofmncaaGreatDoor
open Go.Abs Go.Tx
set_option maxHeartbeats 1000000
set_option maxRecDepth 20000
def IsRow (v : FV) (l : List FV) : Prop := (v = .nils ∧ l = []) ∨ v = .sl l
theorem wc125 (c : C6) (S : St) : WC Tryz.prog 125 [.c (cellV c)] (Is (.c (.bool (!c.valid))) S) S := by
  refine wc_fn (fn := Tryz.f125) (N := 6) (rs := [.tmp 2]) (by rfl) (by kernel_rfl) (by rfl) (by rfl) (by rfl) (by rfl) fun hS => ?_
  simp only [go_sem, ne_up1, Nat.reduceAdd, Nat.reduceLT, Nat.reduceLeDiff]
  refine wc_is (wc69 _ _ _ _ _ _ _) ?_
  simp only [go_sem, Nat.reduceLT]
  exact ends_popped rfl (by simp only [popOk_new, hS.2, Nat.le_refl]) (by simp only [pop_new, pop_self hS.1, Nat.le_refl]) ⟨rfl, rfl⟩
abbrev patF (v : FV) (p : PatV) : FV := .agg [.int .i64 p.rows, v]
def patVB (ch : Int) (p : PatV) : Bool := Tx.within ch 1 16 && Tx.within p.rows 1 64 && decide ((p.cells.length : Int) = p.rows * ch) && p.cells.all C6.valid
theorem wc89n (rows : Int)  (ch : Int)  (S : St) : WC Tryz.prog 89 [.c (patF .nils ⟨rows, []⟩), i64 ch] (Is (.c (.bool (patVB ch ⟨rows, []⟩))) S) S := by
  have e1 : (decide (1 ≤ ch) && decide (ch ≤ 16)) = Tx.within ch 1 16 := rfl
  have e2 : (decide (1 ≤ rows) && decide (rows ≤ 64)) = Tx.within rows 1 64 := rfl
  refine wc_fn (fn := Tryz.f89) (N := 28) (rs := [.tmp 4]) (by rfl) (by kernel_rfl) (by rfl) (by rfl) (by rfl) (by rfl) fun hS => ?_
  simp only [go_sem, ne_up1, ne_dn1, ne_up3, Nat.reduceAdd, Nat.reduceLT]
  refine wc_is (wc124 _ _) ?_
  rw [e1]
  cases h1 : Tx.within ch 1 16 with
  | false =>
    simp only [go_sem, ne_up1, ne_up2, ne_up3, ne_up4, ne_up5, ne_up6, Nat.reduceEqDiff, Nat.reduceLT]
    exact ends_popped rfl (by simp only [popOk_new, hS.2, Nat.le_refl]) (by simp only [pop_new, pop_self hS.1, Nat.le_refl]) ⟨by simp [patVB, h1], rfl⟩
  | true =>
    simp only [go_sem, ne_up1, ne_up2, ne_up3, ne_up4, ne_up5, Nat.reduceAdd, Nat.reduceLT]
    refine wc_is (wc108 _ _ _ _) ?_
    rw [e2]
    cases h2 : Tx.within rows 1 64 with
    | false =>
      simp only [go_sem, ne_up1, ne_up2, ne_up3, ne_up4, ne_up5, ne_up6, Nat.reduceEqDiff, Nat.reduceLT]
      exact ends_popped rfl (by simp only [popOk_new, hS.2, Nat.le_refl]) (by simp only [pop_new, pop_self hS.1, Nat.le_refl]) ⟨by simp [patVB, h1, h2], rfl⟩
    | true =>
      have b1 := within_spec h1
      have b2 := within_spec h2
      have b3 : 0 ≤ rows * ch ∧ rows * ch ≤ 64 * 16 := ⟨Int.mul_nonneg (by omega) (by omega), Int.mul_le_mul b2.2 b1.2 (by omega) (by omega)⟩
      have b4 : 0 < rows * ch := Int.mul_pos (by omega) (by omega)
      have hw : IntKind.i64.wrap (rows * ch) = rows * ch := wrap_i64 _ (by omega) (by omega)
      have h3 : ((0 : Int) == rows * ch) = false := by rw [beq_eq_false_iff_ne]; omega
      have h4 : (0 : Int) ≠ rows * ch := by omega
      simp only [hw, h3, go_sem, ne_up1, ne_dn1, ne_up2, ne_up3, ne_up4, ne_up5, ne_up6, Int.cast_ofNat_Int, Nat.reduceAdd, Nat.reduceEqDiff, Nat.reduceLT]
      exact ends_popped rfl (by simp only [popOk_new, hS.2, Nat.le_refl]) (by simp only [pop_new, pop_self hS.1, Nat.le_refl]) ⟨by simp [patVB, h1, h2, h4], rfl⟩
theorem wc89s (rows : Int) (cells : List C6) (ch : Int) (hl : cells.length ≤ maxLenA) (S : St) : WC Tryz.prog 89 [.c (patF (.sl (cells.map cellV)) ⟨rows, cells⟩), i64 ch] (Is (.c (.bool (patVB ch ⟨rows, cells⟩))) S) S := by
  have e1 : (decide (1 ≤ ch) && decide (ch ≤ 16)) = Tx.within ch 1 16 := rfl
  have e2 : (decide (1 ≤ rows) && decide (rows ≤ 64)) = Tx.within rows 1 64 := rfl
  refine wc_fn (fn := Tryz.f89) (N := 28) (rs := [.tmp 4]) (by rfl) (by kernel_rfl) (by rfl) (by rfl) (by rfl) (by rfl) fun hS => ?_
  simp only [go_sem, ne_up1, ne_dn1, ne_up3, Nat.reduceAdd, Nat.reduceLT]
  refine wc_is (wc124 _ _) ?_
  rw [e1]
  cases h1 : Tx.within ch 1 16 with
  | false =>
    simp only [go_sem, ne_up1, ne_up2, ne_up3, ne_up4, ne_up5, ne_up6, Nat.reduceEqDiff, Nat.reduceLT]
    exact ends_popped rfl (by simp only [popOk_new, hS.2, Nat.le_refl]) (by simp only [pop_new, pop_self hS.1, Nat.le_refl]) ⟨by simp [patVB, h1], rfl⟩
  | true =>
    simp only [go_sem, ne_up1, ne_up2, ne_up3, ne_up4, ne_up5, Nat.reduceAdd, Nat.reduceLT]
    refine wc_is (wc108 _ _ _ _) ?_
    rw [e2]
    cases h2 : Tx.within rows 1 64 with
    | false =>
      simp only [go_sem, ne_up1, ne_up2, ne_up3, ne_up4, ne_up5, ne_up6, Nat.reduceEqDiff, Nat.reduceLT]
      exact ends_popped rfl (by simp only [popOk_new, hS.2, Nat.le_refl]) (by simp only [pop_new, pop_self hS.1, Nat.le_refl]) ⟨by simp [patVB, h1, h2], rfl⟩
    | true =>
      have b1 := within_spec h1
      have b2 := within_spec h2
      have b3 : 0 ≤ rows * ch ∧ rows * ch ≤ 64 * 16 := ⟨Int.mul_nonneg (by omega) (by omega), Int.mul_le_mul b2.2 b1.2 (by omega) (by omega)⟩
      have b4 : 0 < rows * ch := Int.mul_pos (by omega) (by omega)
      have hw : IntKind.i64.wrap (rows * ch) = rows * ch := wrap_i64 _ (by omega) (by omega)
      by_cases h3 : (cells.length : Int) = rows * ch
      · have h3' : ((cells.length : Int) == rows * ch) = true := by simpa using h3
        simp only [hw, h3', List.length_map, go_sem, ne_up1, ne_dn1, ne_up2, ne_up3, ne_up4, ne_up5, ne_up6, Nat.reduceAdd, Nat.reduceEqDiff, Nat.reduceLT]
        refine wc_is (wc90f (first := []) (caps := []) (fun c => !C6.valid c) cells hl _ (fun c _ => wc125 c _)) ?_
        simp only [go_sem, ne_up1, ne_up2, ne_up3, ne_up4, Nat.reduceLT]
        refine ends_popped rfl (by simp only [popOk_new, hS.2, Nat.le_refl]) (by simp only [pop_new, pop_self hS.1, Nat.le_refl]) ⟨?_, rfl⟩
        have : (!cells.any fun c => !C6.valid c) = cells.all C6.valid := by simp [List.all_eq_not_any_not]
        simp [patVB, h1, h2, h3, ← this]
      · have h3' : ((cells.length : Int) == rows * ch) = false := by simpa using h3
        simp only [hw, h3', List.length_map, go_sem, ne_up1, ne_dn1, ne_up2, ne_up3, ne_up4, ne_up5, ne_up6, Nat.reduceAdd, Nat.reduceEqDiff, Nat.reduceLT]
        exact ends_popped rfl (by simp only [popOk_new, hS.2, Nat.le_refl]) (by simp only [pop_new, pop_self hS.1, Nat.le_refl]) ⟨by simp [patVB, h1, h2, h3], rfl⟩
theorem wc89 (v : FV) (p : PatV) (hv : IsRow v (p.cells.map cellV)) (ch : Int) (hl : p.cells.length ≤ maxLenA) (S : St) : WC Tryz.prog 89 [.c (patF v p), i64 ch] (Is (.c (.bool (patVB ch p))) S) S := by
  obtain ⟨rows, cells⟩ := p
  rcases hv with ⟨rfl, hc⟩ | rfl
  · have hc' : cells = [] := by simpa using hc
    subst hc'
    exact wc89n rows ch S
  · exact wc89s rows cells ch hl S
theorem lt_pr (c : UInt8) : decide ((c.toNat : Int) < 32) = !decide (32 ≤ c.toNat) ∧ decide ((c.toNat : Int) > 126) = !decide (c.toNat ≤ 126) := by
  constructor
  · by_cases h : 32 ≤ c.toNat
    · have : ¬ (c.toNat : Int) < 32 := by omega
      simp [h, this]
    · have : (c.toNat : Int) < 32 := by omega
      simp [h, this]
  · by_cases h : c.toNat ≤ 126
    · have : ¬ (c.toNat : Int) > 126 := by omega
      simp [h, this]
    · have : (c.toNat : Int) > 126 := by omega
      simp [h, this]
theorem wc133 (s : List UInt8) (hs : s.length ≤ maxLenA) (S : St) : WC Tryz.prog 133 [str s] (Is (.c (.bool (nameB s))) S) S := by
  refine wc_fn (fn := Tryz.f133) (N := 23) (rs := [.tmp 2]) (by rfl) (by kernel_rfl) (by rfl) (by rfl) (by rfl) (by rfl) fun hS => ?_
  simp only [go_sem, ne_up2, Nat.reduceAdd, Nat.reduceLT]
  refine wloop_meas (fun n e S' => S' = S ∧ ∃ i : Nat, n = s.length - i ∧ i ≤ s.length ∧ e.get 0 = str s ∧ e.get 5 = i64 s.length ∧ e.get 6 = i64 i ∧ (s.drop i).all isPr = s.all isPr) ?_ s.length _ _ ?_
  · rintro n e S' ⟨rfl, i, rfl, hi, g0, g5, g6, hp⟩
    rcases Nat.lt_or_ge i s.length with hlt | hge
    · have h1 : ((i : Int) < (s.length : Int)) := by omega
      have h2 : ¬ ((i : Int) < 0) := by omega
      have h3 : s[i]? = some s[i] := by simp [hlt]
      have hd := all_drop hlt isPr
      obtain ⟨p1, p2⟩ := lt_pr s[i]
      have hx : isPr s[i] = (decide (32 ≤ s[i].toNat) && decide (s[i].toNat ≤ 126)) := rfl
      have h5 : IntKind.i64.wrap ((i : Int) + 1) = ((i + 1 : Nat) : Int) := by
        rw [wrap_i64 _ (by omega) (by simp only [maxLenA] at hs; omega)]; rfl
      simp only [g0, g5, g6, h1, h2, h3, Int.toNat_natCast, Option.map_some, p1, go_sem, ne_up1, ne_up3, ne_up6, Nat.reduceEqDiff, Nat.reduceLT]
      by_cases q1 : 32 ≤ s[i].toNat
      · by_cases q2 : s[i].toNat ≤ 126
        · simp only [g0, g5, g6, h2, h3, Int.toNat_natCast, Option.map_some, p2, q1, q2, h5, go_sem, ne_up1, ne_up2, ne_dn2, ne_up3, ne_dn3, ne_up4, ne_up5, ne_up6, Nat.reduceEqDiff, Nat.reduceLT]
          refine ⟨s.length - (i + 1), by omega, i + 1, rfl, by omega, rfl, ?_⟩
          rw [← hp, hd, hx]; simp [q1, q2]
        · simp only [g0, h2, h3, Int.toNat_natCast, Option.map_some, p2, q1, q2, go_sem, ne_up1, ne_up2, ne_up3, ne_up4, ne_up6, Nat.reduceEqDiff, Nat.reduceLT]
          refine ends_now ⟨?_, rfl⟩
          simp [nameB, ← hp, hd, hx, q1, q2]
      · simp only [Option.map_some, q1, go_sem, ne_up1, ne_up2, ne_up3, ne_up4, Nat.reduceLT]
        refine ends_now ⟨?_, rfl⟩
        simp [nameB, ← hp, hd, hx, q1]
    · have h1 : ¬ ((i : Int) < (s.length : Int)) := by omega
      simp only [g0, g5, g6, h1, go_sem, Nat.reduceEqDiff, Nat.reduceLT]
      refine ends_now ⟨?_, rfl⟩
      have hall : s.all isPr = true := by rw [← hp, List.drop_eq_nil_of_le hge]; rfl
      have e1 : ((s.length : Int) ≤ 22) ↔ s.length ≤ 22 := by omega
      simp [nameB, hall, e1]
  · exact ⟨rfl, 0, rfl, Nat.zero_le _, by simp only [go_sem, ne_up2, ne_up4, ne_up5, ne_up6], by simp only [go_sem, ne_up1], by simp only [go_sem, Int.cast_ofNat_Int], rfl⟩
end Go.Proofs.YtgjnimemofmncaaGreatDoor

namespace Go.Proofs.YtgjnimemofmncaaGreatDoor
open Go.Abs Go.Tx
set_option maxHeartbeats 1000000
set_option maxRecDepth 20000
theorem wc134 (k : Int × Int) (S : St) : WC Tryz.prog 134 [.c (keyV k)] (Is (.c (.bool (!keyB k))) S) S := by
  refine wc_fn (fn := Tryz.f134) (N := 13) (rs := [.tmp 2]) (by rfl) (by kernel_rfl) (by rfl) (by rfl) (by rfl) (by rfl) fun hS => ?_
  simp only [go_sem, ne_up1, Nat.reduceAdd, Nat.reduceLT]
  refine wc_is (wc135 _ _ _ _) ?_
  cases h1 : Tx.within k.1 0 119 with
  | false =>
    simp only [go_sem, ne_up1, ne_up2, ne_up3, ne_up4, Nat.reduceLT]
    exact ends_popped rfl (by simp only [popOk_new, hS.2, Nat.le_refl]) (by simp only [pop_new, pop_self hS.1, Nat.le_refl]) ⟨by simp [keyB, h1], rfl⟩
  | true =>
    simp only [go_sem, ne_up1, ne_up2, ne_up3, ne_up4, ne_up5, ne_up6, Nat.reduceAdd, Nat.reduceLT]
    refine wc_is (wc135 _ _ _ _) ?_
    simp only [go_sem, ne_up1, ne_up2, ne_up3, ne_up4, Nat.reduceLT]
    exact ends_popped rfl (by simp only [popOk_new, hS.2, Nat.le_refl]) (by simp only [pop_new, pop_self hS.1, Nat.le_refl]) ⟨by simp [keyB, h1], rfl⟩
theorem wc55 (l : List UInt8) (S : St) : WC Tryz.prog 55 [str l] (Is (.c (.bool (ignored l))) S) S := by
  refine wc_fn (fn := Tryz.f55) (N := 10) (rs := [.tmp 2]) (by rfl) (by kernel_rfl) (by rfl) (by rfl) (by rfl) (by rfl) fun hS => ?_
  cases l with
  | nil =>
    have h0 : (([] : List UInt8) == []) = true := rfl
    simp only [h0, go_sem, ne_up1, ne_up2, ne_up3, Nat.reduceAdd, Nat.reduceLT]
    exact ends_now ⟨rfl, rfl⟩
  | cons b r =>
    have h1 : ((b :: r : List UInt8) == []) = false := rfl
    have h2 : ((b.toNat : Int) == 35) = (b == 35) := by
      cases hb : b == 35 with
      | true =>
        have := beq_iff_eq.1 hb
        subst this; rfl
      | false =>
        rw [beq_eq_false_iff_ne] at hb ⊢
        intro e
        exact hb (UInt8.toNat_inj.1 (by have : ((35 : UInt8).toNat : Int) = 35 := rfl; omega))
    simp only [h1, h2, List.getElem?_cons_zero, Option.map_some, go_sem, ne_up1, ne_up2, ne_up3, ne_up4, ne_up5, Nat.reduceAdd, Nat.reduceLT, Int.reduceLT, Int.reduceToNat]
    exact ends_now ⟨rfl, rfl⟩
def linesV (t : List UInt8) : FV := if t = [] then .nils else .sl ((linesT t).map .str)
theorem wc19 {m : Int} {S : St} (hk : S.known = KN m) (t : List UInt8) (ht : t.length ≤ 4000000000) : WC Tryz.prog 19 [str t] (Is (.c (linesV t)) S) S := by
  refine wc_fn (fn := Tryz.f19) (N := 8) (rs := [.tmp 2]) (by rfl) (by kernel_rfl) (by rfl) (by rfl) (by rfl) (by rfl) fun hS => ?_
  by_cases h : t = []
  · subst h
    have h0 : (([] : List UInt8) == []) = true := rfl
    simp only [h0, go_sem, ne_up2, Nat.reduceAdd, Nat.reduceLT]
    exact ends_now ⟨by simp [linesV], rfl⟩
  · have h1 : (t == []) = false := by simpa using h
    simp only [h1, go_sem, ne_up2, ne_up3, ne_up4, Nat.reduceAdd, Nat.reduceLT]
    refine wc_is (wc40 t [10] ht _) ?_
    simp only [go_sem, Nat.reduceLT]
    refine wc_is (wc39 hk _ [10] (by have := Lib.trimSuffix_le t [10]; omega) (by decide)) ?_
    simp only [go_sem, Nat.reduceLT]
    exact ends_now ⟨by simp [linesV, linesT, h], rfl⟩
theorem wc7 {m : Int} {S : St} (hk : S.known = KN m) (t : List UInt8) (ht : t.length ≤ 4000000000) : WC Tryz.prog 7 [str t] (Is (i64 (linesT t).length) S) S := by
  refine wc_fn (fn := Tryz.f7) (N := 6) (rs := [.tmp 2]) (by rfl) (by kernel_rfl) (by rfl) (by rfl) (by rfl) (by rfl) fun hS => ?_
  simp only [go_sem, ne_up2, Nat.reduceAdd, Nat.reduceLT]
  refine wc_is (wc19 hk t ht) ?_
  by_cases h : t = []
  · subst h
    simp only [linesV, go_sem, Int.cast_ofNat_Int, Nat.reduceLT]
    exact ends_now ⟨rfl, rfl⟩
  · simp only [linesV, h, List.length_map, go_sem, Nat.reduceLT]
    exact ends_now ⟨rfl, rfl⟩
end Go.Proofs.YtgjnimemofmncaaGreatDoor

namespace Go.Proofs.YtgjnimemofmncaaGreatDoor
open Go.Abs Go.Tx
set_option maxHeartbeats 1000000
set_option maxRecDepth 20000
abbrev envF (v : FV) (e : EnvV) : FV := .agg [.bool e.on, v, .bool e.sus, .int .i64 e.susStart, .int .i64 e.susEnd, .bool e.lp, .int .i64 e.lpStart, .int .i64 e.lpEnd]
abbrev envC (v : FV) (e : EnvV) : List AV := [.c (.bool e.on), .c v, .c (.bool e.sus), i64 e.susStart, i64 e.susEnd, .c (.bool e.lp), i64 e.lpStart, i64 e.lpEnd]
theorem wc154 (e : EnvV) (v : FV) (hv : IsRow v (e.points.map keyV)) {S : St} {b : Nat} (hB : S.get b = some (.blk (envC v e) 0 52)) (is : Bool) (x y : Int) :
    WC Tryz.prog 154 [.c (.bool is), i64 x, i64 y, .ref b 0] (Is (.c (.bool (rightB is x y e.points.length))) S) S := by
  obtain ⟨on, points, sus, susStart, susEnd, lp, lpStart, lpEnd⟩ := e
  rcases hv with ⟨rfl, hp⟩ | rfl
  · have hp' : points = [] := by simpa using hp
    subst hp'
    refine wc_fn (fn := Tryz.f154) (N := 30) (rs := [.tmp 7]) (by rfl) (by kernel_rfl) (by rfl) (by rfl) (by rfl) (by rfl) fun hS => ?_
    cases is
    all_goals
      repeat' first
        | simp only [*, go_sem, ne_up1, ne_dn1, ne_up2, ne_dn2, ne_up3, ne_dn3, ne_up4, ne_up5, ne_up6, Int.cast_ofNat_Int, Nat.reduceAdd, Nat.reduceEqDiff, Nat.reduceLT]
        | with_reducible refine guardK_split_not (fun hb => ?_) (fun hb => ?_) | with_reducible refine condK_split_not (fun hb => ?_) (fun hb => ?_) | with_reducible refine opA_split_not (fun hb => ?_) (fun hb => ?_) | with_reducible refine stepA_split_not (fun hb => ?_) (fun hb => ?_) | with_reducible refine guardK_split (fun hb => ?_) (fun hb => ?_) | with_reducible refine condK_split (fun hb => ?_) (fun hb => ?_) | with_reducible refine opA_split (fun hb => ?_) (fun hb => ?_) | with_reducible refine stepA_split (fun hb => ?_) (fun hb => ?_)
      all_goals (refine ends_now ⟨?_, rfl⟩; clear hS hB; simp only [decide_eq_true_eq, decide_eq_false_iff_not, beq_iff_eq, beq_eq_false_iff_ne] at *; simp [rightB, *] <;> omega)
  · refine wc_fn (fn := Tryz.f154) (N := 30) (rs := [.tmp 7]) (by rfl) (by kernel_rfl) (by rfl) (by rfl) (by rfl) (by rfl) fun hS => ?_
    cases is
    all_goals
      repeat' first
        | simp only [*, List.length_map, go_sem, ne_up1, ne_dn1, ne_up2, ne_dn2, ne_up3, ne_dn3, ne_up4, ne_up5, ne_up6, Nat.reduceAdd, Nat.reduceEqDiff, Nat.reduceLT]
        | with_reducible refine guardK_split_not (fun hb => ?_) (fun hb => ?_) | with_reducible refine condK_split_not (fun hb => ?_) (fun hb => ?_) | with_reducible refine opA_split_not (fun hb => ?_) (fun hb => ?_) | with_reducible refine stepA_split_not (fun hb => ?_) (fun hb => ?_) | with_reducible refine guardK_split (fun hb => ?_) (fun hb => ?_) | with_reducible refine condK_split (fun hb => ?_) (fun hb => ?_) | with_reducible refine opA_split (fun hb => ?_) (fun hb => ?_) | with_reducible refine stepA_split (fun hb => ?_) (fun hb => ?_)
      all_goals (refine ends_now ⟨?_, rfl⟩; clear hS hB; simp only [decide_eq_true_eq, decide_eq_false_iff_not, beq_iff_eq, beq_eq_false_iff_ne] at *; simp [rightB, *] <;> omega)
end Go.Proofs.YtgjnimemofmncaaGreatDoor

namespace Go.Proofs.YtgjnimemofmncaaGreatDoor
open Go.Abs Go.Tx
set_option maxHeartbeats 1000000
set_option maxRecDepth 20000
abbrev rdC (lv : FV) (n : Int) (song : List AV) : List AV := .c lv :: i64 n :: song
abbrev stopV (code n : Int) : AV := .c (.iface 68 (.agg [.int .i64 code, .int .i64 n]))
def OptIs {α : Type} (enc : α → AV) (n : Int) (S : St) (o : Option α) (x : CX) (T : St) : Prop :=
  T = S ∧ x = (match o with | some a => .ret (enc a) | none => .panic (stopV 2 (n - 1)))
theorem wc_opt {α : Type} {enc : α → AV} {n : Int} {S : St} {o : Option α} {f : FuncId} {args : List AV} {K : CX → St → Prop} (h : WC Tryz.prog f args (OptIs enc n S o) S)
    (h1 : ∀ a, o = some a → K (.ret (enc a)) S) (h2 : o = none → K (.panic (stopV 2 (n - 1))) S) : WC Tryz.prog f args K S :=
  h.mono fun x T ⟨e1, e2⟩ => by
    subst e1
    subst e2
    cases o with
    | some a => exact h1 a rfl
    | none => exact h2 rfl
theorem wc24 {S : St} {rb : Nat} {lv : FV} {n : Int} {song : List AV} (hr : S.get rb = some (.blk (rdC lv n song) 0 74)) (h0 : 1 ≤ n) (h1 : n ≤ 4000000000) :
    WC Tryz.prog 24 [.ref rb 0] (fun x T => T = S ∧ x = .panic (stopV 2 (n - 1))) S := by
  have hw : IntKind.i64.wrap (n - 1) = n - 1 := wrap_i64 _ (by omega) (by omega)
  refine wc_fn (fn := Tryz.f24) (N := 11) (rs := []) (by rfl) (by kernel_rfl) (by rfl) (by rfl) (by rfl) (by rfl) fun hS => ?_
  simp only [hr, hw, go_sem, mkIface, Nat.reduceAdd, Nat.reduceLT, Nat.reduceLeDiff]
  first | done | trivial | exact ⟨rfl, rfl⟩
theorem wc41 {S : St} {rb : Nat} {lv : FV} {n : Int} {song : List AV} (hr : S.get rb = some (.blk (rdC lv n song) 0 74)) (h0 : 1 ≤ n) (h1 : n ≤ 4000000000) (b : Bool) :
    WC Tryz.prog 41 [.ref rb 0, .c (.bool b)] (OptIs (fun _ : Unit => .tup []) n S (if b = true then some () else none)) S := by
  refine wc_fn (fn := Tryz.f41) (N := 8) (rs := []) (by rfl) (by kernel_rfl) (by rfl) (by rfl) (by rfl) (by rfl) fun hS => ?_
  cases b with
  | true =>
    simp only [go_sem, ne_dn1, Nat.reduceAdd, Nat.reduceLT]
    exact ends_now ⟨rfl, rfl⟩
  | false =>
    simp only [go_sem, ne_dn1, ne_up4, ne_up5, Nat.reduceAdd, Nat.reduceLT]
    refine (wc24 hr h0 h1).mono ?_
    rintro x T ⟨rfl, rfl⟩
    simp only [go_sem]
    first | done | exact ⟨rfl, rfl⟩
end Go.Proofs.YtgjnimemofmncaaGreatDoor

namespace Go.Proofs.YtgjnimemofmncaaGreatDoor
open Go.Abs Go.Tx
set_option maxHeartbeats 1000000
set_option maxRecDepth 20000
theorem wc_must {S : St} {rb : Nat} {lv : FV} {n : Int} {song : List AV} (hr : S.get rb = some (.blk (rdC lv n song) 0 74)) (h0 : 1 ≤ n) (h1 : n ≤ 4000000000) {b : Bool} {K : CX → St → Prop}
    (k1 : b = true → K (.ret (.tup [])) S) (k2 : b = false → K (.panic (stopV 2 (n - 1))) S) : WC Tryz.prog 41 [.ref rb 0, .c (.bool b)] K S := by
  refine wc_opt (wc41 hr h0 h1 b) (fun a ha => ?_) (fun ha => ?_)
  · cases b with
    | true => exact k1 rfl
    | false => simp at ha
  · cases b with
    | true => simp at ha
    | false => exact k2 rfl
theorem wc42 {S : St} {rb : Nat} {lv : FV} {n : Int} {song : List AV} (hr : S.get rb = some (.blk (rdC lv n song) 0 74)) (h0 : 1 ≤ n) (h1 : n ≤ 4000000000) (w : List UInt8) :
    WC Tryz.prog 42 [.ref rb 0, str w] (OptIs i64 n S (num w)) S := by
  refine wc_fn (fn := Tryz.f42) (N := 52) (rs := [.tmp 4]) (by rfl) (by kernel_rfl) (by rfl) (by rfl) (by rfl) (by rfl) fun hS => ?_
  simp only [go_sem, ne_dn1, ne_up3, Nat.reduceAdd, Nat.reduceLT]
  refine wc_is (wc77 w [45] _) ?_
  generalize hd : Lib.trimPrefix w [45] = d
  rcases Nat.lt_or_ge d.length 1 with l1 | l1
  · have q1 : ((d.length : Int) ≥ 1) = False := by simp; omega
    simp only [q1, go_sem, ne_up1, ne_up2, ne_up3, ne_up4, ne_up5, ne_up6, Nat.reduceEqDiff, Nat.reduceLT]
    refine wc_must hr h0 h1 (fun h => by cases h) (fun _ => ?_)
    simp only [go_sem]
    exact ⟨rfl, by unfold num; rw [hd, if_neg (by omega)]⟩
  rcases Nat.lt_or_ge 9 d.length with l2 | l2
  · have q1 : ((d.length : Int) ≥ 1) = True := by simp; omega
    have q2 : ((d.length : Int) ≤ 9) = False := by simp; omega
    simp only [q1, q2, go_sem, ne_up1, ne_up2, ne_up3, ne_up4, ne_up5, ne_up6, Nat.reduceEqDiff, Nat.reduceLT]
    refine wc_must hr h0 h1 (fun h => by cases h) (fun _ => ?_)
    simp only [go_sem]
    exact ⟨rfl, by unfold num; rw [hd, if_neg (by omega)]⟩
  have q1 : ((d.length : Int) ≥ 1) = True := by simp; omega
  have q2 : ((d.length : Int) ≤ 9) = True := by simp; omega
  simp only [q1, q2, go_sem, ne_up1, ne_up2, ne_up3, ne_up4, ne_up5, ne_up6, Nat.reduceEqDiff, Nat.reduceLT]
  refine wc_must hr h0 h1 (fun _ => ?_) (fun h => by cases h)
  simp only [go_sem, ne_up1, ne_up5, ne_up6, Nat.reduceEqDiff, Nat.reduceLT]
  refine wloop_meas (fun k e S' => S' = S ∧ ∃ (i : Nat) (acc : Int), k = d.length - i ∧ i ≤ d.length ∧ e.get 0 = .ref rb 0 ∧ e.get 1 = str w ∧ e.get 5 = str d ∧ e.get 6 = i64 acc ∧ e.get 21 = i64 d.length ∧ e.get 22 = i64 i ∧ 0 ≤ acc ∧ acc < 10 ^ i ∧ digs (d.drop i) acc = digs d 0) ?_ d.length _ _ ?_
  · rintro k e S' ⟨rfl, i, acc, rfl, hi, g0, g1, g5, g6, g21, g22, a0, a1, hp⟩
    rcases Nat.lt_or_ge i d.length with hlt | hge
    · have b1 : ((i : Int) < (d.length : Int)) := by omega
      have b2 : ¬ ((i : Int) < 0) := by omega
      have b3 : d[i]? = some d[i] := by simp [hlt]
      have b5 : IntKind.i64.wrap ((i : Int) + 1) = ((i + 1 : Nat) : Int) := by
        rw [wrap_i64 _ (by omega) (by omega)]; rfl
      have hpn := Nat.pow_le_pow_right (n := 10) (by decide) (show i ≤ 8 by omega)
      have hpi : ((10 : Int) ^ i) = ((10 ^ i : Nat) : Int) := by rw [Int.natCast_pow]; rfl
      have hdr : digs (d.drop i) acc = (if isDig d[i] then digs (d.drop (i + 1)) (acc * 10 + ((d[i].toNat : Int) - 48)) else none) := by
        rw [List.drop_eq_getElem_cons hlt, digs]
      have hdg : isDig d[i] = (decide (48 ≤ d[i].toNat) && decide (d[i].toNat ≤ 57)) := rfl
      have c1 : decide ((d[i].toNat : Int) ≥ 48) = decide (48 ≤ d[i].toNat) := by apply decide_eq_decide.2; omega
      have c2 : decide ((d[i].toNat : Int) ≤ 57) = decide (d[i].toNat ≤ 57) := by apply decide_eq_decide.2; omega
      simp only [g0, g5, g21, g22, b1, b2, b3, c1, Int.toNat_natCast, Option.map_some, go_sem, ne_up1, ne_up2, Nat.reduceEqDiff, Nat.reduceLT]
      by_cases r1 : 48 ≤ d[i].toNat
      · by_cases r2 : d[i].toNat ≤ 57
        · simp only [g5, b2, b3, c2, r1, r2, Int.toNat_natCast, Option.map_some, go_sem, ne_up1, ne_up2, ne_up3, ne_up4, ne_up5, ne_up6, Nat.reduceEqDiff, Nat.reduceLT]
          refine wc_must hr h0 h1 (fun _ => ?_) (fun h => by cases h)
          have w1 : IntKind.i64.wrap (acc * 10) = acc * 10 := wrap_i64 _ (by omega) (by omega)
          have w2 : IntKind.u8.wrap ((d[i].toNat : Int) - 48) = (d[i].toNat : Int) - 48 := wrap_u8 _ (by omega) (by omega)
          have w3 : IntKind.i64.wrap ((d[i].toNat : Int) - 48) = (d[i].toNat : Int) - 48 := wrap_i64 _ (by omega) (by omega)
          have w4 : IntKind.i64.wrap (acc * 10 + ((d[i].toNat : Int) - 48)) = acc * 10 + ((d[i].toNat : Int) - 48) := wrap_i64 _ (by omega) (by omega)
          simp only [g0, g1, g5, g6, g21, g22, b2, b3, w1, w2, w3, w4, b5, Int.toNat_natCast, Option.map_some, go_sem, ne_up1, ne_up2, ne_up3, ne_up4, ne_up5, ne_up6, Nat.reduceEqDiff, Nat.reduceLT]
          refine ⟨d.length - (i + 1), by omega, i + 1, acc * 10 + ((d[i].toNat : Int) - 48), rfl, by omega, rfl, rfl, by omega, ?_, ?_⟩
          · rw [Int.pow_succ]; omega
          · rw [← hp, hdr, hdg]; simp [r1, r2]
        · simp only [g5, b2, b3, c2, r1, r2, Int.toNat_natCast, Option.map_some, go_sem, ne_up1, ne_up2, ne_up3, ne_up4, ne_up5, ne_up6, Nat.reduceEqDiff, Nat.reduceLT]
          refine wc_must hr h0 h1 (fun h => by cases h) (fun _ => ?_)
          simp only [go_sem]
          have hno : digs d 0 = none := by rw [← hp, hdr, hdg]; simp [r2]
          exact ⟨rfl, by unfold num; rw [hd, if_pos ⟨l1, l2⟩, hno]⟩
      · simp only [r1, Option.map_some, go_sem, ne_up1, ne_up2, ne_up3, ne_up4, ne_up5, ne_up6, Nat.reduceEqDiff, Nat.reduceLT]
        refine wc_must hr h0 h1 (fun h => by cases h) (fun _ => ?_)
        simp only [go_sem]
        have hno : digs d 0 = none := by rw [← hp, hdr, hdg]; simp [r1]
        exact ⟨rfl, by unfold num; rw [hd, if_pos ⟨l1, l2⟩, hno]⟩
    · have b1 : ¬ ((i : Int) < (d.length : Int)) := by omega
      have hpn := Nat.pow_le_pow_right (n := 10) (by decide) (show i ≤ 9 by omega)
      have hpi : ((10 : Int) ^ i) = ((10 ^ i : Nat) : Int) := by rw [Int.natCast_pow]; rfl
      have hs : digs d 0 = some acc := by rw [← hp, List.drop_eq_nil_of_le hge]; rfl
      simp only [g1, g5, g21, g22, b1, go_sem, ne_up1, Nat.reduceEqDiff, Nat.reduceLT]
      by_cases e1 : d = w
      · have e2 : (d != w) = false := by simpa using e1
        simp only [g6, e2, go_sem, Nat.reduceEqDiff, Nat.reduceLT]
        exact ends_now ⟨rfl, by unfold num; rw [hd, if_pos ⟨l1, l2⟩, hs]; simp [e1]⟩
      · have e2 : (d != w) = true := by simpa using e1
        have w1 : IntKind.i64.wrap (0 - acc) = -acc := by rw [wrap_i64 _ (by omega) (by omega)]; omega
        simp only [g6, e2, w1, go_sem, Nat.reduceEqDiff, Nat.reduceLT]
        exact ends_now ⟨rfl, by unfold num; rw [hd, if_pos ⟨l1, l2⟩, hs]; simp [e1]⟩
  · exact ⟨rfl, 0, 0, rfl, Nat.zero_le _, by simp only [go_sem, ne_up4, ne_up5, ne_up6, Nat.reduceEqDiff], by simp only [go_sem, ne_dn1, ne_up3, ne_up4, ne_up5, Nat.reduceEqDiff], by simp only [go_sem, ne_up1, ne_up5, ne_up6, Nat.reduceEqDiff], by simp only [go_sem, Nat.reduceEqDiff], by simp only [go_sem, ne_up1], by simp only [go_sem, Int.cast_ofNat_Int], by decide, by decide, rfl⟩
end Go.Proofs.YtgjnimemofmncaaGreatDoor

namespace Go.Proofs.YtgjnimemofmncaaGreatDoor
open Go.Abs Go.Tx
set_option maxHeartbeats 1000000
set_option maxRecDepth 20000
abbrev boolV (b : Bool) : AV := .c (.bool b)
abbrev wordsV (l : List (List UInt8)) : AV := .c (.sl (l.map .str))
theorem split_ne (s sep : List UInt8) : Lib.split s sep ≠ [] := by
  unfold Lib.split
  cases Lib.count s sep with
  | zero => simp [Lib.splitK]
  | succ k =>
    rw [Lib.splitK]
    split <;> simp
section
variable {S : St} {rb : Nat} {lv : FV} {n : Int} {song : List AV} (hr : S.get rb = some (.blk (rdC lv n song) 0 74)) (h0 : 1 ≤ n) (h1 : n ≤ 4000000000)
include hr h0 h1
theorem wc49 (w : List UInt8) : WC Tryz.prog 49 [.ref rb 0, str w] (OptIs boolV n S (truthO w)) S := by
  refine wc_fn (fn := Tryz.f49) (N := 19) (rs := [.tmp 4]) (by rfl) (by kernel_rfl) (by rfl) (by rfl) (by rfl) (by rfl) fun hS => ?_
  simp only [go_sem, ne_up1, ne_dn1, ne_up3, ne_up4, ne_up5, Nat.reduceAdd, Nat.reduceLT]
  refine wc_opt (wc42 hr h0 h1 w) (fun v hv => ?_) (fun hv => ?_)
  · by_cases e0 : v = 0
    · subst e0
      simp only [go_sem, ne_up1, ne_up2, ne_up3, ne_up4, ne_up5, ne_up6, Nat.reduceEqDiff, Nat.reduceLT, Int.reduceBEq]
      refine wc_must hr h0 h1 (fun _ => ?_) (fun h => by cases h)
      simp only [go_sem, ne_up4, ne_up5, ne_up6, Nat.reduceEqDiff, Nat.reduceLT, Int.reduceBEq]
      exact ends_now ⟨rfl, by unfold truthO; rw [hv]; rfl⟩
    · have q0 : (v == 0) = false := by simpa using e0
      by_cases e1 : v = 1
      · subst e1
        simp only [q0, go_sem, ne_up1, ne_up2, ne_up3, ne_up4, ne_up5, ne_up6, Nat.reduceEqDiff, Nat.reduceLT, Int.reduceBEq]
        refine wc_must hr h0 h1 (fun _ => ?_) (fun h => by cases h)
        simp only [go_sem, ne_up4, ne_up5, ne_up6, Nat.reduceEqDiff, Nat.reduceLT, Int.reduceBEq]
        exact ends_now ⟨rfl, by unfold truthO; rw [hv]; rfl⟩
      · have q1 : (v == 1) = false := by simpa using e1
        simp only [q0, q1, go_sem, ne_up1, ne_up2, ne_up3, ne_up4, ne_up5, ne_up6, Nat.reduceEqDiff, Nat.reduceLT]
        refine wc_must hr h0 h1 (fun h => by cases h) (fun _ => ?_)
        simp only [go_sem]
        exact ⟨rfl, by unfold truthO; rw [hv]; simp [e0, e1]⟩
  · simp only [go_sem]
    exact ⟨rfl, by unfold truthO; rw [hv]⟩
theorem wc43 {m : Int} (hk : S.known = KN m) (line word : List UInt8) (k : Int) (hl : line.length ≤ 4000000000) (hk1 : -10 ≤ k) (hk2 : k ≤ 100) :
    WC Tryz.prog 43 [.ref rb 0, str line, str word, i64 k] (OptIs wordsV n S (wordsO line word k)) S := by
  refine wc_fn (fn := Tryz.f43) (N := 32) (rs := [.tmp 8]) (by rfl) (by kernel_rfl) (by rfl) (by rfl) (by rfl) (by rfl) fun hS => ?_
  simp only [go_sem, ne_dn1, Nat.reduceAdd, Nat.reduceEqDiff, Nat.reduceLT]
  refine wc_is (wc39 hk line [32] hl (by decide)) ?_
  cases hs : Lib.split line [32] with
  | nil => exact absurd hs (split_ne _ _)
  | cons w r =>
    have hw : wordsO line word k = if w = word ∧ (k < 0 ∨ (r.length : Int) = k) then some r else none := by unfold wordsO; rw [hs]
    have hsz : allSize 1 ((w :: r).map FV.str) = true := allSize_strs _
    simp only [List.map_cons] at hsz
    have kw : IntKind.i64.wrap (k + 1) = k + 1 := wrap_i64 _ (by omega) (by omega)
    have hlen : ((r.length + 1 : Nat) : Int) = (r.length : Int) + 1 := by omega
    by_cases e1 : w = word
    · have q1 : (w == word) = true := by simpa using e1
      by_cases e2 : k < 0
      · simp only [q1, e2, hsz, List.map_cons, List.length_cons, List.length_map, List.getElem?_cons_zero, Option.map_some, Nat.zero_lt_succ, go_sem, ne_up1, ne_dn1, ne_up2, ne_dn2, ne_up3, ne_dn3, ne_up4, ne_up5, ne_up6, Nat.reduceEqDiff, Nat.reduceLT, Int.reduceLT, Int.reduceToNat]
        refine wc_must hr h0 h1 (fun _ => ?_) (fun h => by cases h)
        simp only [hsz, List.length_cons, List.length_map, Nat.le_add_left, Nat.le_refl, go_sem, ne_up3, ne_up4, ne_up5, ne_up6, Nat.reduceEqDiff, Nat.reduceLT, Int.reduceLE, Int.reduceToNat]
        refine ends_now ⟨rfl, ?_⟩
        rw [hw, if_pos ⟨e1, .inl e2⟩]
        simp [List.take_of_length_le]
      · by_cases e3 : (r.length : Int) = k
        · have q3 : (((r.length + 1 : Nat) : Int) == k + 1) = true := by rw [beq_iff_eq]; omega
          simp only [q1, e2, q3, hsz, kw, List.map_cons, List.length_cons, List.length_map, List.getElem?_cons_zero, Option.map_some, Nat.zero_lt_succ, go_sem, ne_up1, ne_dn1, ne_up2, ne_dn2, ne_up3, ne_dn3, ne_up4, ne_up5, ne_up6, Nat.reduceEqDiff, Nat.reduceLT, Int.reduceLT, Int.reduceToNat]
          refine wc_must hr h0 h1 (fun _ => ?_) (fun h => by cases h)
          simp only [hsz, List.length_cons, List.length_map, Nat.le_add_left, Nat.le_refl, go_sem, ne_up3, ne_up4, ne_up5, ne_up6, Nat.reduceEqDiff, Nat.reduceLT, Int.reduceLE, Int.reduceToNat]
          refine ends_now ⟨rfl, ?_⟩
          rw [hw, if_pos ⟨e1, .inr e3⟩]
          simp [List.take_of_length_le]
        · have q3 : (((r.length + 1 : Nat) : Int) == k + 1) = false := by rw [beq_eq_false_iff_ne]; omega
          simp only [q1, e2, q3, hsz, kw, List.map_cons, List.length_cons, List.length_map, List.getElem?_cons_zero, Option.map_some, Nat.zero_lt_succ, go_sem, ne_up1, ne_dn1, ne_up2, ne_dn2, ne_up3, ne_dn3, ne_up4, ne_up5, ne_up6, Nat.reduceEqDiff, Nat.reduceLT, Int.reduceLT, Int.reduceToNat]
          refine wc_must hr h0 h1 (fun h => by cases h) (fun _ => ?_)
          simp only [go_sem]
          exact ⟨rfl, by rw [hw, if_neg (by rintro ⟨_, h | h⟩; exact e2 h; exact e3 h)]⟩
    · have q1 : (w == word) = false := by simpa using e1
      simp only [q1, hsz, List.map_cons, List.length_cons, List.length_map, List.getElem?_cons_zero, Option.map_some, Nat.zero_lt_succ, go_sem, ne_up1, ne_dn1, ne_up2, ne_dn2, ne_up3, ne_up4, ne_up5, ne_up6, Nat.reduceEqDiff, Nat.reduceLT, Int.reduceLT, Int.reduceToNat]
      refine wc_must hr h0 h1 (fun h => by cases h) (fun _ => ?_)
      simp only [go_sem]
      exact ⟨rfl, by rw [hw, if_neg (fun h => e1 h.1)]⟩
end
end Go.Proofs.YtgjnimemofmncaaGreatDoor

namespace Go.Proofs.YtgjnimemofmncaaGreatDoor
open Go.Abs Go.Tx
set_option maxHeartbeats 1000000
set_option maxRecDepth 20000
section
variable {S : St} {rb : Nat} {lv : FV} {n : Int} {song : List AV} (hr : S.get rb = some (.blk (rdC lv n song) 0 74)) (h0 : 1 ≤ n) (h1 : n ≤ 4000000000)
include hr h0 h1
theorem wc50 (w : List UInt8) : WC Tryz.prog 50 [.ref rb 0, str w] (OptIs i64 n S (orderO w)) S := by
  refine wc_fn (fn := Tryz.f50) (N := 19) (rs := [.tmp 4]) (by rfl) (by kernel_rfl) (by rfl) (by rfl) (by rfl) (by rfl) fun hS => ?_
  by_cases e1 : w = [43]
  · have q1 : (w == [43]) = true := by simpa using e1
    simp only [q1, go_sem, ne_dn1, ne_up3, Nat.reduceAdd, Nat.reduceLT]
    exact ends_now ⟨rfl, by simp [orderO, e1]⟩
  · have q1 : (w == [43]) = false := by simpa using e1
    by_cases e2 : w = [45]
    · have q2 : (w == [45]) = true := by simpa using e2
      simp only [q1, q2, go_sem, ne_up1, ne_dn1, ne_up2, ne_up3, Nat.reduceAdd, Nat.reduceLT]
      exact ends_now ⟨rfl, by simp [orderO, e2]⟩
    · have q2 : (w == [45]) = false := by simpa using e2
      simp only [q1, q2, go_sem, ne_up1, ne_dn1, ne_up2, ne_up3, ne_up4, ne_up5, ne_up6, Nat.reduceAdd, Nat.reduceEqDiff, Nat.reduceLT]
      refine wc_opt (wc42 hr h0 h1 w) (fun v hv => ?_) (fun hv => ?_)
      · by_cases e3 : 0 ≤ v
        · have q3 : (v ≥ 0) = True := by simpa using e3
          simp only [q3, go_sem, ne_up1, ne_up2, ne_up4, ne_up5, ne_up6, Nat.reduceEqDiff, Nat.reduceLT]
          refine wc_must hr h0 h1 (fun _ => ?_) (fun h => by cases h)
          simp only [go_sem, Nat.reduceEqDiff, Nat.reduceLT]
          exact ends_now ⟨rfl, by simp [orderO, e1, e2, hv, e3]⟩
        · have q3 : (v ≥ 0) = False := by simp; omega
          simp only [q3, go_sem, ne_up1, ne_up2, ne_up4, ne_up5, ne_up6, Nat.reduceEqDiff, Nat.reduceLT]
          refine wc_must hr h0 h1 (fun h => by cases h) (fun _ => ?_)
          simp only [go_sem]
          exact ⟨rfl, by simp [orderO, e1, e2, hv, e3]⟩
      · simp only [go_sem]
        exact ⟨rfl, by simp [orderO, e1, e2, hv]⟩
theorem wc81 {m : Int} (hk : S.known = KN m) (w : List UInt8) (hl : w.length ≤ 4000000000) :
    WC Tryz.prog 81 [.ref rb 0, str w] (OptIs (fun p : Int × Int => .tup [i64 p.1, i64 p.2]) n S (pairO w)) S := by
  refine wc_fn (fn := Tryz.f81) (N := 24) (rs := [.tmp 4, .tmp 5]) (by rfl) (by kernel_rfl) (by rfl) (by rfl) (by rfl) (by rfl) fun hS => ?_
  simp only [go_sem, ne_dn1, ne_up3, ne_up4, Nat.reduceAdd, Nat.reduceLT]
  refine wc_is (wc39 hk w [58] hl (by decide)) ?_
  have bad : ∀ l : List (List UInt8), Lib.split w [58] = l → l.length ≠ 2 → pairO w = none := by
    intro l hs hne
    unfold pairO
    rw [hs]
    match l, hne with
    | [], _ => rfl
    | [_], _ => rfl
    | _ :: _ :: _ :: _, _ => rfl
    | [_, _], hne => exact absurd rfl hne
  by_cases h2 : (Lib.split w [58]).length = 2
  · match hs : Lib.split w [58], h2 with
    | [a, b], _ =>
      have hp : pairO w = (match num a, num b with | some x, some y => some (x, y) | _, _ => none) := by simp only [pairO, hs]; cases num a <;> cases num b <;> rfl
      have z : (((0 + 1 + 1 : Nat) : Int) == 2) = true := rfl
      have z2 : (((2 : Nat) : Int) == 2) = true := rfl
      simp only [List.map_cons, List.map_nil, List.length_cons, List.length_nil, go_sem, ne_up1, ne_up2, ne_up3, ne_up4, ne_up5, ne_up6, Int.cast_ofNat_Int, Nat.reduceAdd, Nat.reduceEqDiff, Nat.reduceLT, Int.reduceBEq]
      refine wc_must hr h0 h1 (fun _ => ?_) (fun h => by first | cases h | simp at h)
      simp only [go_sem]
      refine wdraw_plan ch81x3 pp81x3 (by kernel_rfl) (by kernel_rfl) (by kernel_rfl) ?_
      simp only [List.map_cons, List.map_nil, List.length_cons, List.length_nil, allSize, List.getElem?_cons_zero, List.getElem?_cons_succ, Option.map_some, go_sem, ne_up1, ne_up2, ne_up3, ne_up4, ne_up5, ne_up6, Nat.reduceAdd, Nat.reduceEqDiff, Nat.reduceLT, Int.reduceLT, Int.reduceToNat]
      refine wc_opt (wc42 hr h0 h1 a) (fun x hx => ?_) (fun hx => ?_)
      · simp only [List.map_cons, List.map_nil, List.getElem?_cons_zero, List.getElem?_cons_succ, Option.map_some, go_sem, ne_up1, ne_dn1, ne_up2, ne_up3, ne_dn3, ne_up4, ne_dn4, ne_up5, ne_up6, Option.some.injEq, Nat.reduceEqDiff, Nat.reduceLT]
        refine wc_opt (wc42 hr h0 h1 b) (fun y hy => ?_) (fun hy => ?_)
        · simp only [List.map_cons, List.map_nil, List.getElem?_cons_zero, List.getElem?_cons_succ, Option.map_some, go_sem, ne_up1, ne_up2, ne_up3, ne_up4, ne_up5, ne_up6, Option.some.injEq, Nat.reduceEqDiff, Nat.reduceLT]
          exact ends_now ⟨rfl, by rw [hp, hx, hy]⟩
        · simp only [go_sem]
          intro _
          exact ⟨rfl, by rw [hp, hx, hy]⟩
      · simp only [go_sem]
        intro _
        exact ⟨rfl, by rw [hp, hx]⟩
  · have q : (((Lib.split w [58]).length : Int) == 2) = false := by rw [beq_eq_false_iff_ne]; omega
    simp only [List.length_map, q, go_sem, ne_up1, ne_up2, ne_up3, ne_up4, ne_up5, ne_up6, Nat.reduceEqDiff, Nat.reduceLT]
    refine wc_must hr h0 h1 (fun h => by cases h) (fun _ => ?_)
    simp only [go_sem]
    exact ⟨rfl, by rw [bad _ rfl h2]⟩
end
end Go.Proofs.YtgjnimemofmncaaGreatDoor

namespace Go.Proofs.YtgjnimemofmncaaGreatDoor
open Go.Abs Go.Tx
set_option maxHeartbeats 2000000
set_option maxRecDepth 20000
abbrev smpF (d : FV) (s : SmpV) : FV := .agg [.str s.name, d, .int .i64 s.bits, .int .i64 s.rate, .int .i64 s.volume, .int .i64 s.pan, .int .i64 s.fine, .int .i64 s.lp, .int .i64 s.start, .int .i64 s.stop, .int .i64 s.sus, .int .i64 s.susStart, .int .i64 s.susEnd]
abbrev smpC (d : FV) (s : SmpV) : List AV := [str s.name, .c d, i64 s.bits, i64 s.rate, i64 s.volume, i64 s.pan, i64 s.fine, i64 s.lp, i64 s.start, i64 s.stop, i64 s.sus, i64 s.susStart, i64 s.susEnd]
theorem within_not (x lo hi : Int) : Tx.within x lo hi = (!decide (x < lo) && !decide (x > hi)) := by
  unfold Tx.within
  by_cases a : x < lo <;> by_cases b : x > hi <;> simp [a, b] <;> omega
theorem frame_two {bits : Int} (h : bits = 8 ∨ bits = 16) (v : Int) : frameB bits v = (!decide (v < (if bits = 8 then -128 else -32768)) && !decide (v > (if bits = 8 then 127 else 32767))) := by
  rcases h with rfl | rfl
  · unfold frameB Tx.within
    rw [if_pos rfl, if_pos rfl, if_pos rfl]
    by_cases a : v < -128 <;> by_cases b : v > 127 <;> simp [a, b] <;> omega
  · unfold frameB Tx.within
    rw [if_neg (by decide), if_neg (by decide), if_neg (by decide)]
    by_cases a : v < -32768 <;> by_cases b : v > 32767 <;> simp [a, b] <;> omega
theorem wc101s (s : SmpV) (S : St) : WC Tryz.prog 101 [.c (smpF (.sl (s.data.map intV)) s)] (Is (.c (.bool (smpB s))) S) S := by
  obtain ⟨name, data, bits, rate, volume, pan, fine, lp, start, stop, sus, susStart, susEnd⟩ := s
  have hsz : allSize 1 (data.map intV) = true := allSize_map (s := 1) intV (fun _ => rfl) data
  refine wc_fn (fn := Tryz.f101) (N := 129) (rs := [.tmp 2]) (by rfl) (by kernel_rfl) (by rfl) (by rfl) (by rfl) (by rfl) fun hS => ?_
  simp only [go_sem, ne_up1, Nat.reduceAdd, Nat.reduceLT, Int.reduceNeg]
  rcases Nat.lt_or_ge 22 name.length with c1 | c1
  · have c1' : ((name.length : Int) > 22) = True := by simp; omega
    have c1n : ¬ name.length ≤ 22 := by omega
    simp only [c1', go_sem, ne_up1, ne_up2, ne_up3, ne_up4, ne_up5, ne_up6, Nat.reduceEqDiff, Nat.reduceLT, Int.reduceNeg]
    exact ends_popped rfl (by simp only [popOk_new, hS.2, Nat.le_refl]) (by simp only [pop_new, pop_self hS.1, Nat.le_refl]) ⟨by simp [smpB, c1n], rfl⟩
  have c1' : ((name.length : Int) > 22) = False := by simp; omega
  by_cases c2 : ¬ (bits = 8 ∨ bits = 16)
  · simp only [not_or] at c2
    have q1 : (bits != 8) = true := by simpa using c2.1
    have q2 : (bits != 16) = true := by simpa using c2.2
    simp only [c1', q1, q2, go_sem, ne_up1, ne_up2, ne_up3, ne_up4, ne_up5, ne_up6, Nat.reduceAdd, Nat.reduceEqDiff, Nat.reduceLT, Int.reduceNeg]
    exact ends_popped rfl (by simp only [popOk_new, hS.2, Nat.le_refl]) (by simp only [pop_new, pop_self hS.1, Nat.le_refl]) ⟨by simp [smpB, c2.1, c2.2], rfl⟩
  replace c2 := Classical.byContradiction c2
  rcases Nat.lt_or_ge 4096 data.length with c3 | c3
  · have c3' : ((data.length : Int) > 4096) = True := by simp; omega
    have c3n : ¬ data.length ≤ 4096 := by omega
    rcases c2 with rfl | rfl
    all_goals
      simp only [c1', c3', List.length_map, go_sem, ne_up1, ne_up2, ne_up3, ne_up4, ne_up5, ne_up6, Nat.reduceAdd, Nat.reduceEqDiff, Nat.reduceLT, Int.reduceNeg, Int.reduceBNe]
      exact ends_popped rfl (by simp only [popOk_new, hS.2, Nat.le_refl]) (by simp only [pop_new, pop_self hS.1, Nat.le_refl]) ⟨by simp [smpB, c3n], rfl⟩
  have c3' : ((data.length : Int) > 4096) = False := by simp; omega
  obtain ⟨b1, b2, q1, q2, hbb⟩ : ∃ b1 b2, (bits != 8) = b1 ∧ (bits != 16) = b2 ∧ (b1 = false ∨ (b1 = true ∧ b2 = false)) := ⟨_, _, rfl, rfl, by rcases c2 with rfl | rfl <;> simp⟩
  have c2b : (bits == 8 || bits == 16) = true := by rcases c2 with rfl | rfl <;> rfl
  rcases hbb with rfl | ⟨rfl, rfl⟩
  all_goals
    simp only [c1', c3', q1, q2, List.length_map, go_sem, ne_up1, ne_up2, ne_up3, ne_up4, ne_up5, ne_up6, Nat.reduceAdd, Nat.reduceEqDiff, Nat.reduceLT, Int.reduceNeg]
    refine wloop_meas (fun n e S' => S' = S.new (.blk (smpC (.sl (data.map intV)) ⟨name, data, bits, rate, volume, pan, fine, lp, start, stop, sus, susStart, susEnd⟩) 0 48) ∧ ∃ i : Nat, n = name.length - i ∧ i ≤ name.length ∧ e.get 1 = .ref S.next 0 ∧ e.get 30 = i64 name.length ∧ e.get 31 = i64 i ∧ (name.drop i).all isPr = name.all isPr) ?_ name.length _ _ ?_
    · rintro n e S' ⟨rfl, i, rfl, hi, g1, g30, g31, hp⟩
      rcases Nat.lt_or_ge i name.length with hlt | hge
      · have h1 : ((i : Int) < (name.length : Int)) := by omega
        have h2 : ¬ ((i : Int) < 0) := by omega
        have h3 : name[i]? = some name[i] := by simp [hlt]
        have hd := all_drop hlt isPr
        obtain ⟨p1, p2⟩ := lt_pr name[i]
        have hx : isPr name[i] = (decide (32 ≤ name[i].toNat) && decide (name[i].toNat ≤ 126)) := rfl
        have h5 : IntKind.i64.wrap ((i : Int) + 1) = ((i + 1 : Nat) : Int) := by
          rw [wrap_i64 _ (by omega) (by omega)]; rfl
        simp only [g1, g30, g31, h1, h2, h3, Int.toNat_natCast, Option.map_some, p1, go_sem, ne_up1, ne_up2, Nat.reduceAdd, Nat.reduceEqDiff, Nat.reduceLT, Int.reduceNeg]
        by_cases r1 : 32 ≤ name[i].toNat
        · by_cases r2 : name[i].toNat ≤ 126
          · simp only [g1, g30, g31, h2, h3, Int.toNat_natCast, Option.map_some, p2, r1, r2, h5, go_sem, ne_up1, ne_up2, ne_up3, ne_up4, ne_up5, ne_up6, Nat.reduceAdd, Nat.reduceEqDiff, Nat.reduceLT, Int.reduceNeg]
            refine ⟨name.length - (i + 1), by omega, i + 1, rfl, by omega, rfl, ?_⟩
            rw [← hp, hd, hx]; simp [r1, r2]
          · simp only [g1, h2, h3, Int.toNat_natCast, Option.map_some, p2, r1, r2, go_sem, ne_up1, ne_up2, ne_up3, ne_up4, ne_up5, Nat.reduceAdd, Nat.reduceEqDiff, Nat.reduceLT, Int.reduceNeg]
            have hall : name.all isPr = false := by rw [← hp, hd, hx]; simp [r2]
            exact ends_popped rfl (by simp only [popOk_new, hS.2, Nat.le_refl]) (by simp only [pop_new, pop_self hS.1, Nat.le_refl]) ⟨by simp [smpB, hall], rfl⟩
        · simp only [Option.map_some, r1, go_sem, ne_up1, ne_up2, ne_up3, ne_up4, ne_up5, Nat.reduceLT, Int.reduceNeg]
          have hall : name.all isPr = false := by rw [← hp, hd, hx]; simp [r1]
          exact ends_popped rfl (by simp only [popOk_new, hS.2, Nat.le_refl]) (by simp only [pop_new, pop_self hS.1, Nat.le_refl]) ⟨by simp [smpB, hall], rfl⟩
      · have h1 : ¬ ((i : Int) < (name.length : Int)) := by omega
        have hall : name.all isPr = true := by rw [← hp, List.drop_eq_nil_of_le hge]; rfl
        simp only [g1, g30, g31, h1, go_sem, Nat.reduceAdd, Nat.reduceEqDiff, Nat.reduceLT, Int.reduceNeg]
        refine wc_is (wc131 bits c2 _) ?_
        simp only [g1, List.length_map, go_sem, ne_up1, ne_up3, ne_up4, Nat.reduceAdd, Nat.reduceEqDiff, Nat.reduceLT, Int.reduceNeg]
        refine wloop_meas (fun n e S' => S' = S.new (.blk (smpC (.sl (data.map intV)) ⟨name, data, bits, rate, volume, pan, fine, lp, start, stop, sus, susStart, susEnd⟩) 0 48) ∧ ∃ i : Nat, n = data.length - i ∧ i ≤ data.length ∧ e.get 1 = .ref S.next 0 ∧ e.get 4 = i64 (if bits = 8 then -128 else -32768) ∧ e.get 5 = i64 (if bits = 8 then 127 else 32767) ∧ e.get 54 = .c (.sl (data.map intV)) ∧ e.get 55 = i64 data.length ∧ e.get 56 = i64 i ∧ (data.drop i).all (frameB bits) = data.all (frameB bits)) ?_ data.length _ _ ?_
        · rintro n e S' ⟨rfl, i, rfl, hi, g1, g4, g5, g54, g55, g56, hp⟩
          rcases Nat.lt_or_ge i data.length with hlt | hge
          · have h1 : ((i : Int) < (data.length : Int)) := by omega
            have h2 : ¬ ((i : Int) < 0) := by omega
            have h3 : (data.map intV)[i]? = some (intV data[i]) := by simp [hlt]
            have hd : (data.drop i).all (frameB bits) = (frameB bits data[i] && (data.drop (i + 1)).all (frameB bits)) := by rw [List.drop_eq_getElem_cons hlt, List.all_cons]
            have hx := frame_two c2 data[i]
            have h5 : IntKind.i64.wrap ((i : Int) + 1) = ((i + 1 : Nat) : Int) := by
              rw [wrap_i64 _ (by omega) (by omega)]; rfl
            simp only [g4, g54, g55, g56, h1, h2, h3, hlt, hsz, List.length_map, Int.toNat_natCast, Option.map_some, go_sem, ne_up1, ne_up3, Nat.reduceEqDiff, Nat.reduceLT, Int.reduceNeg]
            by_cases r1 : data[i] < (if bits = 8 then -128 else -32768)
            · simp only [r1, go_sem, ne_up1, ne_up2, ne_up3, Nat.reduceLT, Int.reduceNeg]
              have hall : data.all (frameB bits) = false := by rw [← hp, hd, hx]; simp [r1]
              exact ends_popped rfl (by simp only [popOk_new, hS.2, Nat.le_refl]) (by simp only [pop_new, pop_self hS.1, Nat.le_refl]) ⟨by simp [smpB, hall], rfl⟩
            · by_cases r2 : data[i] > (if bits = 8 then 127 else 32767)
              · simp only [g5, r1, r2, go_sem, ne_up1, ne_up2, ne_up3, Nat.reduceEqDiff, Nat.reduceLT, Int.reduceNeg]
                have hall : data.all (frameB bits) = false := by rw [← hp, hd, hx]; simp [r2]
                exact ends_popped rfl (by simp only [popOk_new, hS.2, Nat.le_refl]) (by simp only [pop_new, pop_self hS.1, Nat.le_refl]) ⟨by simp [smpB, hall], rfl⟩
              · simp only [g1, g4, g5, g54, g55, g56, r1, r2, h5, go_sem, ne_up1, ne_up2, ne_up3, ne_up4, ne_up5, ne_up6, Nat.reduceEqDiff, Nat.reduceLT, Int.reduceNeg]
                refine ⟨data.length - (i + 1), by omega, i + 1, rfl, by omega, rfl, ?_⟩
                rw [← hp, hd, hx]; simp [r1, r2]
          · have h1 : ¬ ((i : Int) < (data.length : Int)) := by omega
            have hfr : data.all (frameB bits) = true := by rw [← hp, List.drop_eq_nil_of_le hge]; rfl
            simp only [g1, g55, g56, h1, go_sem, Nat.reduceAdd, Nat.reduceEqDiff, Nat.reduceLT, Int.reduceNeg]
            repeat' first
              | (with_reducible refine wc_is (wc132 _ _ _ _ _) ?_)
              | simp only [*, List.length_map, go_sem, ne_up1, ne_up2, ne_up3, ne_up4, ne_up5, ne_up6, Nat.reduceAdd, Nat.reduceEqDiff, Nat.reduceLT, Int.reduceNeg]
              | with_reducible refine guardK_split_not (fun hb => ?_) (fun hb => ?_) | with_reducible refine condK_split_not (fun hb => ?_) (fun hb => ?_) | with_reducible refine opA_split_not (fun hb => ?_) (fun hb => ?_) | with_reducible refine stepA_split_not (fun hb => ?_) (fun hb => ?_) | with_reducible refine guardK_split (fun hb => ?_) (fun hb => ?_) | with_reducible refine condK_split (fun hb => ?_) (fun hb => ?_) | with_reducible refine opA_split (fun hb => ?_) (fun hb => ?_) | with_reducible refine stepA_split (fun hb => ?_) (fun hb => ?_)
            all_goals (refine ends_popped rfl (by simp only [popOk_new, hS.2, Nat.le_refl]) (by simp only [pop_new, pop_self hS.1, Nat.le_refl]) ⟨?_, rfl⟩)
            all_goals (clear g1 g4 g5 g54 g55 g56 g30 g31 hp hsz hS c1' c3' q1 q2)
            all_goals (have d1 : decide (name.length ≤ 22) = true := by simpa using c1)
            all_goals (have d3 : decide (data.length ≤ 4096) = true := by simpa using c3)
            all_goals (clear c1 c3 c2 hge h1 hi)
            all_goals (simp only [smpB, within_not, *])
            all_goals (simp)
        · exact ⟨rfl, 0, rfl, Nat.zero_le _, by simp only [g1, go_sem, ne_up3, ne_up4, Nat.reduceEqDiff, Int.reduceNeg], by simp only [go_sem, ne_up1, Nat.reduceEqDiff, Int.reduceNeg], by simp only [go_sem, Nat.reduceEqDiff, Int.reduceNeg], by simp only [go_sem, ne_up1, ne_up2, Int.reduceNeg], by simp only [go_sem, ne_up1, Int.reduceNeg], by simp only [go_sem, Int.cast_ofNat_Int, Int.reduceNeg], rfl⟩
    · exact ⟨rfl, 0, rfl, Nat.zero_le _, by simp only [go_sem, ne_up1, Nat.reduceEqDiff], by simp only [go_sem, ne_up1], by simp only [go_sem, Int.cast_ofNat_Int], rfl⟩
end Go.Proofs.YtgjnimemofmncaaGreatDoor

namespace Go.Proofs.YtgjnimemofmncaaGreatDoor
open Go.Abs Go.Tx
set_option maxHeartbeats 1000000
set_option maxRecDepth 20000
abbrev intsV (l : List Int) : FV := .sl (l.map intV)
abbrev patV (p : PatV) : FV := patF (.sl (p.cells.map cellV)) p
abbrev smpV (s : SmpV) : FV := smpF (intsV s.data) s
abbrev ptsV (l : List (Int × Int)) : FV := .sl (l.map keyV)
abbrev envV (e : EnvV) : FV := envF (ptsV e.points) e
abbrev envCv (e : EnvV) : List AV := envC (ptsV e.points) e
abbrev insV (i : InsV) : FV := .agg [.str i.name, ptsV i.keys,
  .bool i.volume.on, ptsV i.volume.points, .bool i.volume.sus, .int .i64 i.volume.susStart, .int .i64 i.volume.susEnd, .bool i.volume.lp, .int .i64 i.volume.lpStart, .int .i64 i.volume.lpEnd,
  .bool i.panning.on, ptsV i.panning.points, .bool i.panning.sus, .int .i64 i.panning.susStart, .int .i64 i.panning.susEnd, .bool i.panning.lp, .int .i64 i.panning.lpStart, .int .i64 i.panning.lpEnd,
  .bool i.pitch.on, ptsV i.pitch.points, .bool i.pitch.sus, .int .i64 i.pitch.susStart, .int .i64 i.pitch.susEnd, .bool i.pitch.lp, .int .i64 i.pitch.lpStart, .int .i64 i.pitch.lpEnd,
  .int .i64 i.fade, .int .i64 i.newNote, .int .i64 i.dup, .int .i64 i.dupDo, .int .i64 i.global, .int .i64 i.cutoff, .int .i64 i.reso]
abbrev songL (s : SongV) : List FV := [.str s.name, .int .i64 s.dialect, .int .i64 s.channels, intsV s.orders, .int .i64 s.restart, .int .i64 s.speed, .int .i64 s.tempo, .int .i64 s.global, .bool s.linear, intsV s.pans,
  .sl (s.patterns.map patV), .sl (s.samples.map smpV), .sl (s.insts.map insV)]
abbrev songV (s : SongV) : FV := .agg (songL s)
theorem isRow_sl (l : List FV) : IsRow (.sl l) l := .inr rfl
theorem step_wrap (i : Nat) (h : i < 4000000000000) : IntKind.i64.wrap ((i : Int) + 1) = ((i + 1 : Nat) : Int) := by
  rw [wrap_i64 _ (by omega) (by omega)]; rfl
def prevT (l : List (Int × Int)) : Nat → Option Int
  | 0 => none
  | i + 1 => (l[i]?).map (·.1)
theorem pts_zero {lo hi : Int} {l : List (Int × Int)} (h : 0 < l.length) :
    ptsB lo hi (prevT l 0) (l.drop 0) = (l[0].1 == 0 && decide (l[0].1 ≤ 9999) && Tx.within l[0].2 lo hi && ptsB lo hi (prevT l 1) (l.drop 1)) := by
  rw [List.drop_eq_getElem_cons h]
  simp [prevT, h, ptsB]
theorem pts_succ {lo hi : Int} {l : List (Int × Int)} {j : Nat} (h : j + 1 < l.length) :
    ptsB lo hi (prevT l (j + 1)) (l.drop (j + 1)) = (decide (l[j].1 < l[j + 1].1) && decide (l[j + 1].1 ≤ 9999) && Tx.within l[j + 1].2 lo hi && ptsB lo hi (prevT l (j + 1 + 1)) (l.drop (j + 1 + 1))) := by
  have hj : j < l.length := by omega
  have e1 : prevT l (j + 1) = some l[j].1 := by simp [prevT, hj]
  have e2 : prevT l (j + 1 + 1) = some l[j + 1].1 := by simp [prevT, h]
  rw [List.drop_eq_getElem_cons h, e1, e2, ptsB]
theorem wc136 (e : EnvV) (lo hi : Int) (S : St) : WC Tryz.prog 136 [.c (envV e), i64 lo, i64 hi] (Is (.c (.bool (envB e lo hi))) S) S := by
  have hsz : allSize 2 (e.points.map keyV) = true := allSize_map (s := 2) keyV (fun _ => rfl) e.points
  have h154 := fun {T : St} (hB : T.get S.next = some (.blk (envCv e) 0 52)) is x y => wc154 e (ptsV e.points) (isRow_sl _) hB is x y
  obtain ⟨on, points, sus, susStart, susEnd, lp, lpStart, lpEnd⟩ := e
  refine wc_fn (fn := Tryz.f136) (N := 92) (rs := [.tmp 6]) (by rfl) (by kernel_rfl) (by rfl) (by rfl) (by rfl) (by rfl) fun hS => ?_
  simp only [List.length_map, go_sem, ne_up3, Nat.reduceAdd, Nat.reduceLT]
  rcases Nat.lt_or_ge 16 points.length with c1 | c1
  · have c1' : ((points.length : Int) > 16) = True := by simp; omega
    simp only [c1', go_sem, ne_up1, ne_up2, ne_up3, ne_up4, ne_up5, ne_up6, Nat.reduceEqDiff, Nat.reduceLT]
    exact ends_popped rfl (by simp only [popOk_new, hS.2, Nat.le_refl]) (by simp only [pop_new, pop_self hS.1, Nat.le_refl]) ⟨by simp [envB]; omega, rfl⟩
  have c1' : ((points.length : Int) > 16) = False := by simp; omega
  by_cases c2 : on = true ∧ points.length = 0
  · obtain ⟨rfl, h0⟩ := c2
    have z2 : ((points.length : Int) == 0) = true := by rw [beq_iff_eq]; omega
    simp only [c1', List.length_map, z2, go_sem, ne_up1, ne_up2, ne_up3, ne_up4, ne_up5, ne_up6, Nat.reduceAdd, Nat.reduceEqDiff, Nat.reduceLT]
    exact ends_popped rfl (by simp only [popOk_new, hS.2, Nat.le_refl]) (by simp only [pop_new, pop_self hS.1, Nat.le_refl]) ⟨by simp [envB, List.length_eq_zero_iff.1 h0], rfl⟩
  have c3 : on = false ∨ (on = true ∧ ((points.length : Int) == 0) = false) := by
    cases on with
    | false => exact .inl rfl
    | true =>
      refine .inr ⟨rfl, ?_⟩
      rw [beq_eq_false_iff_ne]
      intro h
      exact c2 ⟨rfl, by omega⟩
  have c4 : (decide (points.length ≤ 16) && !(on && points.isEmpty)) = true := by
    rcases c3 with rfl | ⟨rfl, h⟩
    · simp [c1]
    · cases points with
      | nil => simp at h
      | cons _ _ => simpa using c1
  refine guardK_cut (fun e' S' => S' = S.new (.blk (envCv ⟨on, points, sus, susStart, susEnd, lp, lpStart, lpEnd⟩) 0 52) ∧ e'.get 1 = i64 lo ∧ e'.get 2 = i64 hi ∧ e'.get 3 = .ref S.next 0 ∧ e'.get 23 = .c (.bool false)) ?_ ?_
  · rcases c3 with rfl | ⟨rfl, h⟩
    · simp only [c1', go_sem, ne_up1, ne_dn1, ne_up2, ne_dn2, ne_up3, ne_up4, ne_up5, ne_up6, Nat.reduceAdd, Nat.reduceEqDiff, Nat.reduceLT]
    · simp only [c1', h, List.length_map, go_sem, ne_up1, ne_dn1, ne_up2, ne_dn2, ne_up3, ne_up4, ne_up5, ne_up6, Nat.reduceAdd, Nat.reduceEqDiff, Nat.reduceLT]
  rintro e S' ⟨rfl, g1, g2, g3, g23⟩
  simp only [g3, g23, List.length_map, go_sem, Nat.reduceAdd, Nat.reduceLT]
  refine wloop_meas (fun n e S' => ∃ i : Nat, n = points.length - i ∧ i ≤ points.length ∧ Fwd S S' ∧ S.next < S'.next ∧ S'.get S.next = some (.blk (envCv ⟨on, points, sus, susStart, susEnd, lp, lpStart, lpEnd⟩) 0 52) ∧ e.get 1 = i64 lo ∧ e.get 2 = i64 hi ∧ e.get 3 = .ref S.next 0 ∧ e.get 25 = .c (ptsV points) ∧ e.get 26 = i64 points.length ∧ e.get 27 = i64 i ∧ ptsB lo hi (prevT points i) (points.drop i) = ptsB lo hi none points) ?_ points.length _ _ ?_
  · rintro n e S' ⟨i, rfl, hi', hF, hlt', hB, g1, g2, g3, g25, g26, g27, hp⟩
    rcases Nat.lt_or_ge i points.length with hlt | hge
    · have h1 : ((i : Int) < (points.length : Int)) := by omega
      have h2 : ¬ ((i : Int) < 0) := by omega
      have h3 : (points.map keyV)[i]? = some (keyV points[i]) := by simp [hlt]
      have h5 := step_wrap i (by omega)
      have hne : (S'.next = S.next) = False := by simp; omega
      have fin : ∀ {o : Ob}, ptsB lo hi none points = false → ends Tryz.prog S.next (Is (.c (.bool (envB ⟨on, points, sus, susStart, susEnd, lp, lpStart, lpEnd⟩ lo hi))) S) (.c (.bool false)) (S'.new o) :=
        fun h => ends_fwd (hF.new _) rfl ⟨by simp [envB, h], rfl⟩
      simp only [g25, g26, g27, h1, h2, h3, hlt, hsz, List.length_map, Int.toNat_natCast, Option.map_some, go_sem, put_new, ne_up1, ne_dn1, ne_up2, ne_up3, ne_up4, Nat.reduceAdd, Nat.reduceEqDiff, Nat.reduceLT, Nat.reduceLeDiff]
      refine wdraw_plan ch136x6 pp136x6 (by kernel_rfl) (by kernel_rfl) (by kernel_rfl) ?_
      rcases i with _ | j
      · have z1 : (((0 : Nat) : Int) == 0) = true := rfl
        have z2 : (((0 : Nat) : Int) > 0) = False := by simp
        have z3 : ((0 : Int) == 0) = true := rfl
        have z4 : ((0 : Int) > 0) = False := by simp
        have hd := pts_zero (lo := lo) (hi := hi) hlt
        rw [hd] at hp
        repeat' first
          | simp only [*, Option.map_some, go_sem, ne_up1, ne_dn1, ne_up2, ne_up3, ne_up4, ne_up5, ne_up6, wrap_i64, Int.cast_ofNat_Int, Nat.reduceAdd, Nat.reduceEqDiff, Nat.reduceLT, Int.reduceLE, Int.reduceNeg, Int.reduceAdd]
          | with_reducible refine guardK_split_not (fun hb => ?_) (fun hb => ?_) | with_reducible refine condK_split_not (fun hb => ?_) (fun hb => ?_) | with_reducible refine opA_split_not (fun hb => ?_) (fun hb => ?_) | with_reducible refine stepA_split_not (fun hb => ?_) (fun hb => ?_) | with_reducible refine guardK_split (fun hb => ?_) (fun hb => ?_) | with_reducible refine condK_split (fun hb => ?_) (fun hb => ?_) | with_reducible refine opA_split (fun hb => ?_) (fun hb => ?_) | with_reducible refine stepA_split (fun hb => ?_) (fun hb => ?_)
        all_goals (clear h154 hB hS; simp only [bne_iff_ne, bne_eq_false_iff_eq, ne_eq, decide_eq_true_eq, decide_eq_false_iff_not] at *)
        all_goals first
          | (refine fin ?_; rw [← hp]; rw [Bool.and_eq_false_iff]; left; simp only [Tx.within, Bool.and_eq_false_iff, beq_eq_false_iff_ne, ne_eq, decide_eq_false_iff_not]; omega)
          | (refine ⟨points.length - 1, by omega, 1, rfl, by omega, hF.new _, rfl, ?_⟩
             rw [← hp, show (points[0].1 == 0 && decide (points[0].1 ≤ 9999) && Tx.within points[0].2 lo hi) = true by (simp only [Tx.within, Bool.and_eq_true, beq_iff_eq, decide_eq_true_eq]; omega)]; rfl)
      · have z1 : (((j + 1 : Nat) : Int) == 0) = false := by rw [beq_eq_false_iff_ne]; omega
        have z2 : (((j + 1 : Nat) : Int) > 0) = True := by simp <;> omega
        have z3 : IntKind.i64.wrap (((j + 1 : Nat) : Int) - 1) = ((j : Nat) : Int) := by rw [wrap_i64 _ (by omega) (by omega)]; omega
        have z4 : (points.map keyV)[j]? = some (keyV points[j]) := by simp [show j < points.length by omega]
        have z5 : ¬ ((j : Int) < 0) := by omega
        have z6 : j < points.length := by omega
        have hd := pts_succ (lo := lo) (hi := hi) hlt
        rw [hd] at hp
        repeat' first
          | simp only [*, List.length_map, Int.toNat_natCast, Option.map_some, go_sem, ne_up1, ne_dn1, ne_up2, ne_up3, ne_up4, ne_up5, ne_up6, Nat.reduceAdd, Nat.reduceEqDiff, Nat.reduceLT]
          | with_reducible refine guardK_split_not (fun hb => ?_) (fun hb => ?_) | with_reducible refine condK_split_not (fun hb => ?_) (fun hb => ?_) | with_reducible refine opA_split_not (fun hb => ?_) (fun hb => ?_) | with_reducible refine stepA_split_not (fun hb => ?_) (fun hb => ?_) | with_reducible refine guardK_split (fun hb => ?_) (fun hb => ?_) | with_reducible refine condK_split (fun hb => ?_) (fun hb => ?_) | with_reducible refine opA_split (fun hb => ?_) (fun hb => ?_) | with_reducible refine stepA_split (fun hb => ?_) (fun hb => ?_)
        all_goals (clear h154 hB hS; simp only [decide_eq_true_eq, decide_eq_false_iff_not] at *)
        all_goals first
          | (refine fin ?_; rw [← hp]; rw [Bool.and_eq_false_iff]; left; simp only [Tx.within, Bool.and_eq_false_iff, decide_eq_false_iff_not]; omega)
          | (refine ⟨points.length - (j + 1 + 1), by omega, j + 1 + 1, rfl, by omega, hF.new _, rfl, ?_⟩
             rw [← hp, show (decide (points[j].1 < points[j + 1].1) && decide (points[j + 1].1 ≤ 9999) && Tx.within points[j + 1].2 lo hi) = true by (simp only [Tx.within, Bool.and_eq_true, decide_eq_true_eq]; omega)]; rfl)
    · have h1 : ¬ ((i : Int) < (points.length : Int)) := by omega
      have hpts : ptsB lo hi none points = true := by rw [← hp, List.drop_eq_nil_of_le hge]; cases prevT points i <;> rfl
      simp only [g3, g26, g27, h1, hB, go_sem, ne_up1, ne_up2, ne_up3, ne_up4, ne_up5, ne_up6, mkClo, Nat.reduceAdd, Nat.reduceEqDiff, Nat.reduceLT]
      refine wc_is (h154 hB _ _ _) ?_
      cases hr1 : rightB sus susStart susEnd points.length with
      | false =>
        simp only [go_sem, ne_up1, ne_up2, ne_up3, ne_up4, ne_up5, ne_up6, Nat.reduceEqDiff, Nat.reduceLT]
        exact ends_fwd hF rfl ⟨by simp [envB, hpts, hr1], rfl⟩
      | true =>
        simp only [g3, hB, go_sem, ne_up1, ne_up2, ne_up3, ne_up4, ne_up5, ne_up6, Nat.reduceAdd, Nat.reduceEqDiff, Nat.reduceLT]
        refine wc_is (h154 hB _ _ _) ?_
        simp only [go_sem, ne_up1, ne_up2, ne_up3, ne_up4, ne_up5, ne_up6, Nat.reduceEqDiff, Nat.reduceLT]
        refine ends_fwd hF rfl ⟨?_, rfl⟩
        have e1 : envB ⟨on, points, sus, susStart, susEnd, lp, lpStart, lpEnd⟩ lo hi = rightB lp lpStart lpEnd points.length := by
          unfold envB
          simp only
          rw [c4, hpts, hr1]
          simp
        rw [e1]
  · exact ⟨0, rfl, Nat.zero_le _, (Fwd.refl hS).new _, by simp [next_new], by simp only [go_sem], g1, g2, g3, by simp only [go_sem, ne_up1, ne_up2], by simp only [go_sem, ne_up1], by simp only [go_sem, Int.cast_ofNat_Int], rfl⟩
end Go.Proofs.YtgjnimemofmncaaGreatDoor

namespace Go.Proofs.YtgjnimemofmncaaGreatDoor
open Go.Abs Go.Tx
set_option maxHeartbeats 1000000
set_option maxRecDepth 20000
theorem wc99f {g : FuncId} {first caps : List AV} (p : SmpV → Bool) (xs : List (SmpV)) (hl : xs.length ≤ maxLenA) (S : St)
    (hp : ∀ c ∈ xs, WC Tryz.prog g ([] ++ [.c (smpV c)] ++ []) (Is (.c (.bool (p c))) S) S) : WC Tryz.prog 99 [.c (.sl (xs.map smpV)), (.c (.fn g))] (Is (i64 (findI p xs 0)) S) S := by
  have hsz : allSize 13 (xs.map smpV) = true := allSize_map (s := 13) smpV (fun _ => rfl) xs
  refine wc_fn (fn := Tryz.f99) (N := 19) (rs := [.tmp 4]) (by rfl) (by kernel_rfl) (by rfl) (by rfl) (by rfl) (by rfl) fun hS => ?_
  simp only [List.length_map, go_sem, ne_up4, Nat.reduceAdd, Nat.reduceLT, Int.reduceNeg]
  refine wloop_meas (fun n e S' => S' = S ∧ ∃ i : Nat, n = xs.length - i ∧ i ≤ xs.length ∧ e.get 0 = .c (.sl (xs.map smpV)) ∧ e.get 1 = (.c (.fn g)) ∧ e.get 7 = i64 xs.length ∧ e.get 8 = i64 i ∧ findI p (xs.drop i) i = findI p xs 0) ?_ xs.length _ _ ?_
  · rintro n e S' ⟨rfl, i, rfl, hi, g0, g1, g7, g8, hq⟩
    rcases Nat.lt_or_ge i xs.length with hlt | hge
    · have h1 : ((i : Int) < (xs.length : Int)) := by omega
      have h2 : ¬ ((i : Int) < 0) := by omega
      have h3 : (xs.map smpV)[i]? = some (smpV xs[i]) := by simp [hlt]
      simp only [g0, g1, g7, g8, h1, h2, h3, hlt, hsz, List.length_map, Int.toNat_natCast, Option.map_some, go_sem, ne_up1, ne_up2, ne_up3, ne_up4, ne_up5, ne_up6, Nat.reduceAdd, Nat.reduceEqDiff, Nat.reduceLT, Nat.reduceLeDiff, Int.reduceNeg]
      refine wc_is (hp xs[i] (List.getElem_mem hlt)) ?_
      cases hx : p xs[i] with
      | true =>
        simp only [go_sem, ne_up6, Nat.reduceEqDiff, Nat.reduceLT, Int.reduceNeg]
        refine ends_now ⟨?_, rfl⟩
        rw [← hq, List.drop_eq_getElem_cons hlt, findI, if_pos hx]
      | false =>
        have h5 : IntKind.i64.wrap ((i : Int) + 1) = ((i + 1 : Nat) : Int) := by
          rw [wrap_i64 _ (by omega) (by simp only [maxLenA] at hl; omega)]; rfl
        simp only [g0, g1, g7, g8, h5, go_sem, ne_up1, ne_up2, ne_dn2, ne_up3, ne_dn3, ne_up4, ne_up5, ne_up6, Nat.reduceEqDiff, Nat.reduceLT, Int.reduceNeg]
        refine ⟨xs.length - (i + 1), by omega, i + 1, rfl, by omega, ?_⟩
        refine ⟨rfl, ?_⟩
        rw [← hq, List.drop_eq_getElem_cons hlt, findI, if_neg (by simp [hx])]
    · have h1 : ¬ ((i : Int) < (xs.length : Int)) := by omega
      simp only [g7, g8, h1, go_sem, Nat.reduceLT, Int.reduceNeg]
      refine ends_now ⟨?_, rfl⟩
      rw [← hq, List.drop_eq_nil_of_le hge]; rfl
  · exact ⟨rfl, 0, rfl, Nat.zero_le _, by simp only [go_sem, ne_up4, ne_up6, Nat.reduceEqDiff], by simp only [go_sem, ne_dn1, ne_up3, ne_up5, ne_up6, Nat.reduceEqDiff], by simp only [go_sem, ne_up1], by simp only [go_sem, Int.cast_ofNat_Int], rfl⟩
theorem wc100 (s : SmpV) (S : St) : WC Tryz.prog 100 [.c (smpV s)] (Is (.c (.bool (!smpB s))) S) S := by
  refine wc_fn (fn := Tryz.f100) (N := 6) (rs := [.tmp 2]) (by rfl) (by kernel_rfl) (by rfl) (by rfl) (by rfl) (by rfl) fun hS => ?_
  simp only [go_sem, ne_up1, Nat.reduceAdd, Nat.reduceLT, Nat.reduceLeDiff]
  refine wc_is (wc101s s _) ?_
  simp only [go_sem, Nat.reduceLT]
  exact ends_popped rfl (by simp only [popOk_new, hS.2, Nat.le_refl]) (by simp only [pop_new, pop_self hS.1, Nat.le_refl]) ⟨rfl, rfl⟩
theorem wc102 (i : InsV) (hn : i.name.length ≤ maxLenA) (hk : i.keys.length ≤ maxLenA) (S : St) : WC Tryz.prog 102 [.c (insV i)] (Is (.c (.bool (insB i))) S) S := by
  have h103 := fun T => wc103f (first := []) (caps := []) (g := 134) (fun k => !keyB k) i.keys hk T (fun c _ => wc134 c T)
  have hany : (i.keys.any fun k => !keyB k) = !i.keys.all keyB := by
    induction i.keys with
    | nil => rfl
    | cons k r ih => simp only [List.any_cons, List.all_cons, ih]; cases keyB k <;> rfl
  refine wc_fn (fn := Tryz.f102) (N := 71) (rs := [.tmp 2]) (by rfl) (by kernel_rfl) (by rfl) (by rfl) (by rfl) (by rfl) fun hS => ?_
  simp only [go_sem, ne_up1, Nat.reduceAdd, Nat.reduceLT, Int.reduceNeg]
  refine wc_is (wc133 _ hn _) ?_
  cases b1 : nameB i.name with
  | false =>
    simp only [go_sem, ne_up1, ne_up2, ne_up3, ne_up4, ne_up5, ne_up6, Nat.reduceEqDiff, Nat.reduceLT, Int.reduceNeg]
    exact ends_popped rfl (by simp only [popOk_new, hS.2, Nat.le_refl]) (by simp only [pop_new, pop_self hS.1, Nat.le_refl]) ⟨by simp [insB, b1], rfl⟩
  | true =>
    by_cases b2 : i.keys.length = 0 ∨ i.keys.length = 120
    · have b2' : (decide (i.keys.length = 0) || decide (i.keys.length = 120)) = true := by simpa using b2
      refine callK_cut (fun e' S' => S' = S.new (.blk ((insV i).cells.map .c) 0 54) ∧ e'.get 1 = .ref S.next 0 ∧ e'.get 18 = .c (.bool false)) ?_ ?_
      · rcases b2 with b2 | b2
        · have z : (((i.keys.length : Nat) : Int) != 0) = false := by rw [b2]; rfl
          simp only [z, List.length_map, go_sem, ne_up1, ne_up2, ne_up3, ne_up4, ne_up5, ne_up6, Nat.reduceAdd, Nat.reduceEqDiff, Nat.reduceLT, Int.reduceNeg]
        · have z : (((i.keys.length : Nat) : Int) != 0) = true := by rw [b2]; rfl
          have z2 : (((i.keys.length : Nat) : Int) != 120) = false := by rw [b2]; rfl
          simp only [z, z2, List.length_map, go_sem, ne_up1, ne_up2, ne_up3, ne_up4, ne_up5, ne_up6, Nat.reduceAdd, Nat.reduceEqDiff, Nat.reduceLT, Int.reduceNeg]
      rintro e S' ⟨rfl, g1, g18⟩
      simp only [g1, g18, go_sem, Nat.reduceAdd, Nat.reduceLT, Int.reduceNeg]
      refine wc_is (h103 _) ?_
      rw [hany]
      cases b3 : i.keys.all keyB with
      | false =>
        simp only [go_sem, Nat.reduceLT, Int.reduceNeg]
        exact ends_popped rfl (by simp only [popOk_new, hS.2, Nat.le_refl]) (by simp only [pop_new, pop_self hS.1, Nat.le_refl]) ⟨by simp [insB, b3], rfl⟩
      | true =>
        simp only [g1, go_sem, Nat.reduceAdd, Nat.reduceEqDiff, Nat.reduceLT, Nat.reduceLeDiff, Int.reduceNeg]
        refine wc_is (wc136 i.volume 0 64 _) ?_
        refine callK_cut (fun e' S' => S' = S.new (.blk ((insV i).cells.map .c) 0 54) ∧ e'.get 1 = .ref S.next 0 ∧ e'.get 37 = .c (.bool (!(envB i.volume 0 64 && envB i.panning (-32) 32 && envB i.pitch (-32) 32)))) ?_ ?_
        · cases v1 : envB i.volume 0 64 with
          | false => simp only [g1, Bool.false_and, Bool.not_false, go_sem, ne_up1, ne_up2, ne_up3, ne_up4, Nat.reduceEqDiff, Nat.reduceLT, Int.reduceNeg]
          | true =>
            simp only [g1, Bool.true_and, go_sem, ne_up1, ne_up2, Nat.reduceAdd, Nat.reduceEqDiff, Nat.reduceLT, Nat.reduceLeDiff, Int.reduceNeg]
            refine wc_is (wc136 i.panning (-32) 32 _) ?_
            cases v2 : envB i.panning (-32) 32 with
            | false => simp only [g1, Bool.false_and, Bool.not_false, go_sem, ne_up1, ne_up2, ne_up3, ne_up4, Nat.reduceEqDiff, Nat.reduceLT, Int.reduceNeg]
            | true =>
              simp only [g1, Bool.true_and, go_sem, ne_up1, ne_up2, ne_up3, ne_up4, Nat.reduceAdd, Nat.reduceEqDiff, Nat.reduceLT, Nat.reduceLeDiff, Int.reduceNeg]
              refine wc_is (wc136 i.pitch (-32) 32 _) ?_
              cases v3 : envB i.pitch (-32) 32 with
              | false => simp only [g1, Bool.not_false, go_sem, ne_up1, ne_up2, ne_up3, ne_up4, Nat.reduceEqDiff, Nat.reduceLT, Int.reduceNeg]
              | true => simp only [g1, go_sem, ne_up1, ne_up2, ne_up3, ne_up4, Nat.reduceEqDiff, Nat.reduceLT, Int.reduceNeg]
        rintro e S' ⟨rfl, g1, g37⟩
        cases b4 : (envB i.volume 0 64 && envB i.panning (-32) 32 && envB i.pitch (-32) 32) with
        | false =>
          rw [b4] at g37
          simp only [g37, go_sem, Nat.reduceLT, Int.reduceNeg]
          exact ends_popped rfl (by simp only [popOk_new, hS.2, Nat.le_refl]) (by simp only [pop_new, pop_self hS.1, Nat.le_refl]) ⟨by
            have : insB i = false := by
              simp only [insB, b1, b2', b3, Bool.true_and]
              rw [b4]; simp
            rw [this], rfl⟩
        | true =>
          rw [b4] at g37
          simp only [g1, g37, go_sem, Nat.reduceAdd, Nat.reduceLT, Int.reduceNeg]
          have e1 : insB i = (Tx.within i.fade 0 1024 && Tx.within i.newNote 0 3 && Tx.within i.dup 0 3 && Tx.within i.dupDo 0 2 && Tx.within i.global 0 64 && Tx.within i.cutoff (-1) 127 && Tx.within i.reso (-1) 127) := by
            simp only [insB, b1, b2', b3, Bool.true_and]
            rw [b4]; simp
          rw [e1]
          clear e1 b1 b2 b2' b3 b4 h103 hany
          repeat' first
            | (with_reducible refine wc_is (wc135 _ _ _ _) ?_)
            | simp only [*, go_sem, ne_up1, ne_up2, ne_up3, Nat.reduceAdd, Nat.reduceEqDiff, Nat.reduceLT, Int.reduceNeg]
            | with_reducible refine guardK_split_not (fun hb => ?_) (fun hb => ?_) | with_reducible refine condK_split_not (fun hb => ?_) (fun hb => ?_) | with_reducible refine opA_split_not (fun hb => ?_) (fun hb => ?_) | with_reducible refine stepA_split_not (fun hb => ?_) (fun hb => ?_) | with_reducible refine guardK_split (fun hb => ?_) (fun hb => ?_) | with_reducible refine condK_split (fun hb => ?_) (fun hb => ?_) | with_reducible refine opA_split (fun hb => ?_) (fun hb => ?_) | with_reducible refine stepA_split (fun hb => ?_) (fun hb => ?_)
          all_goals (refine ends_popped rfl (by simp only [popOk_new, hS.2, Nat.le_refl]) (by simp only [pop_new, pop_self hS.1, Nat.le_refl]) ⟨?_, rfl⟩; clear hS g1 g37; simp [*])
    · have z : (((i.keys.length : Nat) : Int) != 0) = true := by rw [bne_iff_ne]; omega
      have z2 : (((i.keys.length : Nat) : Int) != 120) = true := by rw [bne_iff_ne]; omega
      simp only [z, z2, List.length_map, go_sem, ne_up1, ne_up2, ne_up3, ne_up4, ne_up5, ne_up6, Nat.reduceAdd, Nat.reduceEqDiff, Nat.reduceLT, Int.reduceNeg]
      exact ends_popped rfl (by simp only [popOk_new, hS.2, Nat.le_refl]) (by simp only [pop_new, pop_self hS.1, Nat.le_refl]) ⟨by simp only [not_or] at b2; simp [insB, b1, b2.1, b2.2], rfl⟩
end Go.Proofs.YtgjnimemofmncaaGreatDoor

namespace Go.Proofs.YtgjnimemofmncaaGreatDoor
open Go.Abs Go.Tx
set_option maxHeartbeats 2000000
set_option maxRecDepth 20000
abbrev qkC (s : SongV) (n : Nat → Int) (b : Nat → Bool) : List FV := [.str (dname s.dialect), .int .i64 (qCh s.dialect), .int .i64 (qPat s.dialect), .int .i64 (qRows s.dialect), .int .i64 (n 4), .int .i64 (n 5), .bool (qIns s.dialect), .bool (b 7), .bool (qLin s.dialect), .int .i64 (n 9), .int .i64 (n 10), .int .i64 (n 11), .bool (b 12), .bool (b 13), .bool (b 14), .bool (b 15), .int .i64 (n 16), .bool (b 17), .int .i64 (n 18), .bool (b 19), .bool (b 20), .int .i64 (n 21), .bool (b 22), .bool (b 23), .bool (b 24), .bool (b 25), .bool (b 26), .bool (b 27), .bool (b 28)]
abbrev chkL (s : SongV) (n : Nat → Int) (b : Nat → Bool) : List FV := [.str s.name, .int .i64 s.dialect, .int .i64 s.channels, intsV s.orders, .int .i64 s.restart, .int .i64 s.speed, .int .i64 s.tempo, .int .i64 s.global, .bool s.linear, intsV s.pans, .sl (s.patterns.map patV), .sl (s.samples.map smpV), .sl (s.insts.map insV), .str (dname s.dialect), .int .i64 (qCh s.dialect), .int .i64 (qPat s.dialect), .int .i64 (qRows s.dialect), .int .i64 (n 4), .int .i64 (n 5), .bool (qIns s.dialect), .bool (b 7), .bool (qLin s.dialect), .int .i64 (n 9), .int .i64 (n 10), .int .i64 (n 11), .bool (b 12), .bool (b 13), .bool (b 14), .bool (b 15), .int .i64 (n 16), .bool (b 17), .int .i64 (n 18), .bool (b 19), .bool (b 20), .int .i64 (n 21), .bool (b 22), .bool (b 23), .bool (b 24), .bool (b 25), .bool (b 26), .bool (b 27), .bool (b 28)]
abbrev chkA (s : SongV) (n : Nat → Int) (b : Nat → Bool) : List AV := [.c (.str s.name), .c (.int .i64 s.dialect), .c (.int .i64 s.channels), .c (intsV s.orders), .c (.int .i64 s.restart), .c (.int .i64 s.speed), .c (.int .i64 s.tempo), .c (.int .i64 s.global), .c (.bool s.linear), .c (intsV s.pans), .c (.sl (s.patterns.map patV)), .c (.sl (s.samples.map smpV)), .c (.sl (s.insts.map insV)), .c (.str (dname s.dialect)), .c (.int .i64 (qCh s.dialect)), .c (.int .i64 (qPat s.dialect)), .c (.int .i64 (qRows s.dialect)), .c (.int .i64 (n 4)), .c (.int .i64 (n 5)), .c (.bool (qIns s.dialect)), .c (.bool (b 7)), .c (.bool (qLin s.dialect)), .c (.int .i64 (n 9)), .c (.int .i64 (n 10)), .c (.int .i64 (n 11)), .c (.bool (b 12)), .c (.bool (b 13)), .c (.bool (b 14)), .c (.bool (b 15)), .c (.int .i64 (n 16)), .c (.bool (b 17)), .c (.int .i64 (n 18)), .c (.bool (b 19)), .c (.bool (b 20)), .c (.int .i64 (n 21)), .c (.bool (b 22)), .c (.bool (b 23)), .c (.bool (b 24)), .c (.bool (b 25)), .c (.bool (b 26)), .c (.bool (b 27)), .c (.bool (b 28))]
abbrev songA (s : SongV) : List AV := [.c (.str s.name), .c (.int .i64 s.dialect), .c (.int .i64 s.channels), .c (intsV s.orders), .c (.int .i64 s.restart), .c (.int .i64 s.speed), .c (.int .i64 s.tempo), .c (.int .i64 s.global), .c (.bool s.linear), .c (intsV s.pans), .c (.sl (s.patterns.map patV)), .c (.sl (s.samples.map smpV)), .c (.sl (s.insts.map insV))]
def intAt (l : List FV) (i : Nat) : Int := match l[i]? with | some (.int _ n) => n | _ => 0
def boolAt (l : List FV) (i : Nat) : Bool := match l[i]? with | some (.bool b) => b | _ => false
theorem qk_ex (s : SongV) : ∃ n b, qkL s.dialect = qkC s n b := by
  refine ⟨intAt (qkL s.dialect), boolAt (qkL s.dialect), ?_⟩
  unfold qkC
  generalize hd : s.dialect = d
  by_cases h1 : d = 1
  · subst h1; rfl
  by_cases h2 : d = 2
  · subst h2; rfl
  by_cases h3 : d = 3
  · subst h3; rfl
  by_cases h4 : d = 4
  · subst h4; rfl
  by_cases h5 : d = 5
  · subst h5; rfl
  by_cases h6 : d = 6
  · subst h6; rfl
  have e0 : qkL d = qk0 := by simp [qkL, h1, h2, h3, h4, h5, h6]
  have e1 : dname d = [] := by simp [dname, h1, h2, h3, h4, h5, h6]
  have e2 : qCh d = 0 := by simp [qCh, h1, h2, h3, h4, h5, h6]
  have e3 : qPat d = 0 := by
    have : isD d = false := by
      simp only [isD, Tx.within, Bool.and_eq_false_iff, decide_eq_false_iff_not]; omega
    simp [qPat, this]
  have e4 : qRows d = 0 := by simp [qRows, h1, h2, h5]
  have e5 : qIns d = false := by simp [qIns, h3, h4, h6]
  have e6 : qLin d = false := by simp [qLin, h3, h4]
  rw [e0, e1, e2, e3, e4, e5, e6]
  rfl
theorem gt_not (x y : Int) : decide (x > y) = !decide (x ≤ y) := by
  by_cases h : x ≤ y
  · simp [h]
  · simp only [h, decide_false, Bool.not_false, decide_eq_true_eq]; omega
theorem wc28' (d : Int) (S : St) : WC Tryz.prog 28 [i64 d] (Is (.tup [.c (.agg (qkL d)), i64 (if isD d then 0 else 6)]) S) S := by
  cases h : isD d with
  | true => exact wc28 h S
  | false =>
    have : qkL d = qk0 := by
      simp only [isD, Tx.within, Bool.and_eq_false_iff, decide_eq_false_iff_not] at h
      simp only [qkL]
      repeat rw [if_neg (by omega)]
    rw [this]
    exact wc28_none h S
section
variable (s : SongV) (n : Nat → Int) (b : Nat → Bool)
theorem wc94 (S : St) : WC Tryz.prog 94 [.c (.agg (chkL s n b))] (Is (i64 (names s)) S) S := by
  refine wc_fn (fn := Tryz.f94) (N := 14) (rs := [.tmp 2]) (by rfl) (by kernel_rfl) (by rfl) (by rfl) (by rfl) (by rfl) fun hS => ?_
  cases h : qIns s.dialect with
  | true =>
    simp only [h, List.length_map, go_sem, ne_up1, ne_up2, ne_up3, ne_up4, Nat.reduceAdd, Nat.reduceLT]
    exact ends_popped rfl (by simp only [popOk_new, hS.2, Nat.le_refl]) (by simp only [pop_new, pop_self hS.1, Nat.le_refl]) ⟨by simp [names, h], rfl⟩
  | false =>
    simp only [h, List.length_map, go_sem, ne_up1, ne_up2, ne_up3, ne_up4, Nat.reduceAdd, Nat.reduceLT]
    exact ends_popped rfl (by simp only [popOk_new, hS.2, Nat.le_refl]) (by simp only [pop_new, pop_self hS.1, Nat.le_refl]) ⟨by simp [names, h], rfl⟩
theorem wc91 {S : St} {cb : Nat} (hB : S.get cb = some (.blk (chkA s n b) 0 122)) (c : C6) : WC Tryz.prog 91 [.c (cellV c), .ref cb 0] (Is (.c (.bool (!cellB s.dialect c))) S) S := by
  refine wc_fn (fn := Tryz.f91) (N := 10) (rs := [.tmp 3]) (by rfl) (by kernel_rfl) (by rfl) (by rfl) (by rfl) (by rfl) fun hS => ?_
  have hne : (S.next = cb) = False := by
    have := hS.1 cb _ hB
    simp; omega
  simp only [hB, hne, go_sem, ne_up1, ne_dn1, ne_up2, ne_up3, ne_up4, Nat.reduceAdd, Nat.reduceLT, Nat.reduceLeDiff]
  refine wc_is (wc92 _ _ _ _ _ _ _ _) ?_
  simp only [go_sem, Nat.reduceLT]
  exact ends_popped rfl (by simp only [popOk_new, hS.2, Nat.le_refl]) (by simp only [pop_new, pop_self hS.1, Nat.le_refl]) ⟨rfl, rfl⟩
theorem wc93 {S : St} {cb : Nat} (hB : S.get cb = some (.blk (chkA s n b) 0 122)) (c : C6) : WC Tryz.prog 93 [.c (cellV c), .ref cb 0] (Is (.c (.bool (!decide (c.inst ≤ names s)))) S) S := by
  refine wc_fn (fn := Tryz.f93) (N := 9) (rs := [.tmp 3]) (by rfl) (by kernel_rfl) (by rfl) (by rfl) (by rfl) (by rfl) fun hS => ?_
  have hne : (S.next = cb) = False := by
    have := hS.1 cb _ hB
    simp; omega
  simp only [go_sem, Nat.reduceAdd, Nat.reduceLT]
  refine wdraw_plan ch93x1 pp93x1 (by kernel_rfl) (by kernel_rfl) (by kernel_rfl) ?_
  simp only [hB, hne, go_sem, ne_up1, ne_dn1, ne_up2, ne_up3, ne_up4, Nat.reduceAdd, Nat.reduceLT, Nat.reduceLeDiff]
  refine ⟨_, wc94 s n b _, ?_⟩
  simp only [go_sem, ne_up1, ne_up2, Nat.reduceLT]
  refine ends_popped rfl (by simp only [popOk_new, hS.2, Nat.le_refl]) (by simp only [pop_new, pop_self hS.1, Nat.le_refl]) ⟨?_, rfl⟩
  rw [gt_not]
  rfl
theorem wc96 {S : St} {cb : Nat} (hB : S.get cb = some (.blk (chkA s n b) 0 122)) (hl : s.patterns.length ≤ maxLenA) (o : Int) : WC Tryz.prog 96 [i64 o, .ref cb 0] (Is (.c (.bool (!ordB s o))) S) S := by
  refine wc_fn (fn := Tryz.f96) (N := 17) (rs := [.tmp 3]) (by rfl) (by kernel_rfl) (by rfl) (by rfl) (by rfl) (by rfl) fun hS => ?_
  have hw : IntKind.i64.wrap ((s.patterns.length : Int) - 1) = (s.patterns.length : Int) - 1 := wrap_i64 _ (by omega) (by simp only [maxLenA] at hl; omega)
  simp only [go_sem, ne_up3, Nat.reduceAdd, Nat.reduceLT]
  refine wc_is (wc97 _ _) ?_
  cases h : (o == 254 || o == 255) with
  | true =>
    simp only [go_sem, ne_up1, ne_up2, ne_up3, ne_up4, ne_up5, ne_up6, Nat.reduceEqDiff, Nat.reduceLT]
    exact ends_now ⟨by unfold ordB; rw [h]; rfl, rfl⟩
  | false =>
    simp only [hB, hw, List.length_map, go_sem, ne_up1, ne_dn1, ne_up2, ne_up3, ne_up4, ne_up5, ne_up6, Nat.reduceAdd, Nat.reduceEqDiff, Nat.reduceLT]
    refine wc_is (wc88 _ _ _ _) ?_
    simp only [go_sem, ne_up1, ne_up2, ne_up3, ne_up4, ne_up5, ne_up6, Nat.reduceEqDiff, Nat.reduceLT]
    exact ends_now ⟨by unfold ordB; rw [h]; rfl, rfl⟩
theorem wc98 (p : Int) (S : St) : WC Tryz.prog 98 [i64 p] (Is (.c (.bool (!Tx.within p 0 256))) S) S := by
  refine wc_fn (fn := Tryz.f98) (N := 6) (rs := [.tmp 2]) (by rfl) (by kernel_rfl) (by rfl) (by rfl) (by rfl) (by rfl) fun hS => ?_
  simp only [go_sem, ne_up2, Nat.reduceAdd, Nat.reduceLT]
  refine wc_is (wc88 _ _ _ _) ?_
  simp only [go_sem, Nat.reduceLT]
  exact ends_now ⟨rfl, rfl⟩
theorem wc104 {S : St} {cb : Nat} (hB : S.get cb = some (.blk (chkA s n b) 0 122)) (k : Int × Int) : WC Tryz.prog 104 [.c (keyV k), .ref cb 0] (Is (.c (.bool (!decide (k.2 ≤ s.samples.length)))) S) S := by
  refine wc_fn (fn := Tryz.f104) (N := 11) (rs := [.tmp 3]) (by rfl) (by kernel_rfl) (by rfl) (by rfl) (by rfl) (by rfl) fun hS => ?_
  have hne : (S.next = cb) = False := by
    have := hS.1 cb _ hB
    simp; omega
  simp only [hB, hne, List.length_map, go_sem, ne_up1, ne_dn1, ne_up2, ne_up3, ne_up4, Nat.reduceAdd, Nat.reduceLT]
  refine ends_popped rfl (by simp only [popOk_new, hS.2, Nat.le_refl]) (by simp only [pop_new, pop_self hS.1, Nat.le_refl]) ⟨?_, rfl⟩
  rw [gt_not]
def AskIs (ok : Bool) (S : St) (x : CX) (T : St) : Prop :=
  T = S ∧ ∃ (part : List UInt8) (idx code : Int), x = .ret (.tup [.c (.agg [.str part, .int .i64 idx, .int .i64 code]), .c (.bool (!ok))]) ∧ (ok = false → code ≠ 0)
theorem wc59 (hl : s.name.length ≤ maxLenA) (S : St) : WC Tryz.prog 59 [.c (.agg (chkL s n b))] (AskIs (headB s) S) S := by
  refine wc_fn (fn := Tryz.f59) (N := 28) (rs := [.cell 2 126, .tmp 3]) (by rfl) (by kernel_rfl) (by rfl) (by rfl) (by rfl) (by rfl) fun hS => ?_
  simp only [go_sem, ne_up1, ne_up2, Nat.reduceAdd, Nat.reduceLT]
  refine wc_is (wc87 _ hl _) ?_
  cases b1 : nameB s.name with
  | false =>
    simp only [go_sem, ne_up1, ne_dn1, ne_up2, ne_up3, ne_up4, ne_up5, ne_up6, Nat.reduceAdd, Nat.reduceEqDiff, Nat.reduceLT, Nat.reduceLeDiff]
    exact ends_fwd (by repeat (first | exact Fwd.refl hS | assumption | refine Fwd.new ?_ _ | refine Fwd.put ?_ (by first | exact Nat.le_refl _ | exact Nat.le_succ _ | exact Nat.le_add_right _ _ | (simp only [next_new, next_put] at *; omega)) _)) rfl ⟨rfl, _, _, _, by rw [show headB s = false by simp [headB, b1]]; rfl, fun _ => by decide⟩
  | true =>
    cases b2 : (qCh s.dialect == 0) with
    | true =>
      simp only [b2, go_sem, ne_up1, ne_dn1, ne_up2, ne_up3, ne_up4, ne_up5, ne_up6, Nat.reduceAdd, Nat.reduceEqDiff, Nat.reduceLT, Nat.reduceLeDiff]
      exact ends_fwd (by repeat (first | exact Fwd.refl hS | assumption | refine Fwd.new ?_ _ | refine Fwd.put ?_ (by first | exact Nat.le_refl _ | exact Nat.le_succ _ | exact Nat.le_add_right _ _ | (simp only [next_new, next_put] at *; omega)) _)) rfl ⟨rfl, _, _, _, by rw [show headB s = false by simp only [headB, b1, b2]; simp]; rfl, fun _ => by decide⟩
    | false =>
      simp only [b2, go_sem, ne_up1, ne_up2, ne_up3, ne_up4, ne_up5, ne_up6, Nat.reduceAdd, Nat.reduceEqDiff, Nat.reduceLT]
      refine wc_is (wc88 _ _ _ _) ?_
      cases b3 : Tx.within s.channels 1 (qCh s.dialect) with
      | false =>
        simp only [go_sem, ne_up1, ne_dn1, ne_up2, ne_up3, ne_up4, ne_up5, ne_up6, Nat.reduceAdd, Nat.reduceEqDiff, Nat.reduceLT, Nat.reduceLeDiff]
        exact ends_fwd (by repeat (first | exact Fwd.refl hS | assumption | refine Fwd.new ?_ _ | refine Fwd.put ?_ (by first | exact Nat.le_refl _ | exact Nat.le_succ _ | exact Nat.le_add_right _ _ | (simp only [next_new, next_put] at *; omega)) _)) rfl ⟨rfl, _, _, _, by rw [show headB s = false by simp only [headB, b3]; simp]; rfl, fun _ => by decide⟩
      | true =>
        simp only [go_sem, ne_up1, ne_dn1, ne_up2, ne_up3, ne_up4, ne_up5, ne_up6, Nat.reduceAdd, Nat.reduceEqDiff, Nat.reduceLT, Nat.reduceLeDiff]
        have e : headB s = true := by simp only [headB, b1, b2, b3]; rfl
        exact ends_fwd (by repeat (first | exact Fwd.refl hS | assumption | refine Fwd.new ?_ _ | refine Fwd.put ?_ (by first | exact Nat.le_refl _ | exact Nat.le_succ _ | exact Nat.le_add_right _ _ | (simp only [next_new, next_put] at *; omega)) _)) rfl ⟨rfl, _, _, _, by rw [e]; rfl, fun h => by rw [e] at h; cases h⟩
end
end Go.Proofs.YtgjnimemofmncaaGreatDoor

namespace Go.Proofs.YtgjnimemofmncaaGreatDoor
open Go.Abs Go.Tx
set_option maxHeartbeats 2000000
set_option maxRecDepth 20000
theorem any_not {α : Type} (p : α → Bool) (l : List α) : (l.any fun x => !p x) = !l.all p := by
  induction l with
  | nil => rfl
  | cons k r ih => simp only [List.any_cons, List.all_cons, ih]; cases p k <;> rfl
theorem all_step {α : Type} (p : α → Bool) {l : List α} {i : Nat} (h : i < l.length) : (l.drop i).all p = (p l[i] && (l.drop (i + 1)).all p) := by
  rw [List.drop_eq_getElem_cons h, List.all_cons]
theorem patB_eq (s : SongV) (p : PatV) : patB s p = ((qRows s.dialect == 0 || p.rows == qRows s.dialect) && patVB s.channels p && p.cells.all (cellB s.dialect) && p.cells.all (fun c => decide (c.inst ≤ names s))) := by
  simp only [patB, patVB, Bool.and_assoc]
abbrev flt0 : Ob := .blk [.c (.str []), i64 0, i64 0] 0 126
section
variable (s : SongV) (n : Nat → Int) (b : Nat → Bool)
theorem wc60 (hc : ∀ p ∈ s.patterns, p.cells.length ≤ maxLenA) (S : St) : WC Tryz.prog 60 [.c (.agg (chkL s n b))] (AskIs (patsB s) S) S := by
  have hsz : allSize 2 (s.patterns.map patV) = true := allSize_map (s := 2) patV (fun _ => rfl) s.patterns
  refine wc_fn (fn := Tryz.f60) (N := 61) (rs := [.cell 2 126, .tmp 3]) (by rfl) (by kernel_rfl) (by rfl) (by rfl) (by rfl) (by rfl) fun hS => ?_
  simp only [List.length_map, go_sem, ne_up1, ne_up2, ne_up3, ne_up5, ne_up6, Nat.reduceAdd, Nat.reduceEqDiff, Nat.reduceLT]
  refine wc_is (wc88 _ _ _ _) ?_
  cases b1 : Tx.within s.patterns.length 1 (qPat s.dialect) with
  | false =>
    simp only [go_sem, ne_up1, ne_dn1, ne_up4, ne_up5, ne_up6, Nat.reduceAdd, Nat.reduceEqDiff, Nat.reduceLT, Nat.reduceLeDiff]
    exact ends_fwd (by repeat (first | exact Fwd.refl hS | assumption | refine Fwd.new ?_ _ | refine Fwd.put ?_ (by first | exact Nat.le_refl _ | exact Nat.le_succ _ | exact Nat.le_add_right _ _ | (simp only [next_new, next_put] at *; omega)) _)) rfl ⟨rfl, _, _, _, by rw [show patsB s = false by simp only [patsB, b1]; rfl]; rfl, fun _ => by decide⟩
  | true =>
    have hl : s.patterns.length ≤ 100000000 := by have := within_spec b1; have := qPat_le s.dialect; omega
    simp only [List.length_map, go_sem, ne_up1, ne_up2, ne_up5, ne_up6, Nat.reduceAdd, Nat.reduceEqDiff, Nat.reduceLT]
    refine wloop_meas (fun m e S' => ∃ i : Nat, m = s.patterns.length - i ∧ i ≤ s.patterns.length ∧ Fwd S S' ∧ S.next + 1 < S'.next ∧ S'.get S.next = some (.blk (chkA s n b) 0 122) ∧ S'.get (S.next + 1) = some flt0 ∧
      e.get 1 = .ref S.next 0 ∧ e.get 2 = .ref (S.next + 1) 0 ∧ e.get 18 = .c (.sl (s.patterns.map patV)) ∧ e.get 19 = i64 s.patterns.length ∧ e.get 20 = i64 i ∧ (s.patterns.drop i).all (patB s) = s.patterns.all (patB s)) ?_ s.patterns.length _ _ ?_
    · rintro m e S' ⟨i, rfl, hi, hF, hlt', hB, hB2, g1, g2, g18, g19, g20, hp⟩
      rcases Nat.lt_or_ge i s.patterns.length with hlt | hge
      · have h1 : ((i : Int) < (s.patterns.length : Int)) := by omega
        have h2 : ¬ ((i : Int) < 0) := by omega
        have h3 : (s.patterns.map patV)[i]? = some (patV s.patterns[i]) := by simp [hlt]
        have h5 := step_wrap i (by omega)
        have hne : (S'.next = S.next) = False := by simp; omega
        have hne2 : (S'.next = S.next + 1) = False := by simp; omega
        have hd := all_step (patB s) hlt
        have hmem := hc s.patterns[i] (List.getElem_mem hlt)
        rw [hd, patB_eq] at hp
        generalize s.patterns[i] = p at *
        have bad : patsB s = false → ∀ {o : Ob} {k : Int}, k ≠ 0 → ends Tryz.prog S.next (AskIs (patsB s) S) (.tup [.c (.agg [.str [112, 97, 116, 116, 101, 114, 110, 115], .int .i64 i, .int .i64 k]), .c (.bool true)]) ((S'.new o).put (S.next + 1) (.blk [.c (.str [112, 97, 116, 116, 101, 114, 110, 115]), i64 i, i64 k] 0 126)) := by
          intro h o k hk
          exact ends_fwd (by repeat (first | exact Fwd.refl hS | assumption | refine Fwd.new ?_ _ | refine Fwd.put ?_ (by first | exact Nat.le_refl _ | exact Nat.le_succ _ | exact Nat.le_add_right _ _ | (simp only [next_new, next_put] at *; omega)) _)) rfl ⟨rfl, _, _, _, by rw [h]; rfl, fun _ => hk⟩
        have hfalse : ∀ q r : Bool, (q && r) = s.patterns.all (patB s) → q = false → patsB s = false := by
          intro q r h1 h2
          unfold patsB
          rw [← h1, h2]; simp
        have hpl : p.cells.length ≤ maxLenA := hmem
        have h91 := fun {T : St} (hT : T.get S.next = some (.blk (chkA s n b) 0 122)) => wc90c (first := []) (caps := [.ref S.next 0]) (g := 91) (fun c => !cellB s.dialect c) p.cells hpl T (fun c _ => wc91 s n b hT c)
        have h93 := fun {T : St} (hT : T.get S.next = some (.blk (chkA s n b) 0 122)) => wc90c (first := []) (caps := [.ref S.next 0]) (g := 93) (fun c => !decide (c.inst ≤ names s)) p.cells hpl T (fun c _ => wc93 s n b hT c)
        simp only [any_not] at h91 h93
        have hB' : ∀ o, (S'.new o).get S.next = some (.blk (chkA s n b) 0 122) := fun o => by rw [St.get_new]; simp only [hne, if_false]; exact hB
        simp only [g1, g18, g19, g20, h1, h2, h3, hlt, hsz, hne, hB, List.length_map, Int.toNat_natCast, Option.map_some, go_sem, put_new, ne_up1, ne_dn1, ne_up2, ne_up3, ne_up4, Nat.reduceAdd, Nat.reduceEqDiff, Nat.reduceLT, Nat.reduceLeDiff]
        refine guardK_cut (fun e' S'' => S'' = S'.new (.blk [i64 p.rows, .c (.sl (p.cells.map cellV))] 0 46) ∧ e'.get 1 = .ref S.next 0 ∧ e'.get 2 = .ref (S.next + 1) 0 ∧ e'.get 4 = i64 i ∧ e'.get 5 = .ref S'.next 0 ∧ e'.get 18 = .c (.sl (s.patterns.map patV)) ∧ e'.get 19 = i64 s.patterns.length ∧ e'.get 20 = i64 i ∧
          e'.get 50 = .c (.bool (!((qRows s.dialect == 0 || p.rows == qRows s.dialect) && patVB s.channels p && p.cells.all (cellB s.dialect))))) ?_ ?_
        · have tail : ∀ e1 : Env, e1.get 1 = .ref S.next 0 → True := fun _ _ => trivial
          cases z1 : (qRows s.dialect == 0) with
          | true =>
            have n1 : (qRows s.dialect != 0) = false := by rw [bne, z1]; rfl
            simp only [g1, hne, hB, n1, Bool.true_or, Bool.true_and, go_sem, ne_up1, ne_dn1, ne_up2, ne_up3, ne_up4, ne_up5, ne_up6, Nat.reduceAdd, Nat.reduceEqDiff, Nat.reduceLT, Nat.reduceLeDiff]
            refine wc_is (wc89 _ p (isRow_sl _) _ hpl _) ?_
            cases z3 : patVB s.channels p with
            | false => simp only [g1, g2, g18, g19, g20, Bool.false_and, Bool.not_false, go_sem, ne_up1, ne_dn1, ne_up2, ne_up3, ne_up4, ne_up5, ne_up6, Nat.reduceEqDiff, Nat.reduceLT]
            | true =>
              simp only [g1, Bool.true_and, go_sem, ne_up1, ne_dn1, ne_up2, ne_up3, ne_up4, ne_up5, ne_up6, mkClo, Nat.reduceAdd, Nat.reduceEqDiff, Nat.reduceLT]
              refine wc_is (h91 (hB' _)) ?_
              simp only [g1, g2, g18, g19, g20, go_sem, ne_up1, ne_dn1, ne_up2, ne_up3, ne_up4, ne_up5, ne_up6, Nat.reduceEqDiff, Nat.reduceLT]
          | false =>
            have n1 : (qRows s.dialect != 0) = true := by rw [bne, z1]; rfl
            cases z2 : (p.rows == qRows s.dialect) with
            | false =>
              have n2 : (p.rows != qRows s.dialect) = true := by rw [bne, z2]; rfl
              simp only [g1, g2, g18, g19, g20, hne, hB, n1, n2, Bool.false_or, Bool.false_and, Bool.not_false, go_sem, ne_up1, ne_dn1, ne_up2, ne_up3, ne_up4, ne_up5, ne_up6, Nat.reduceAdd, Nat.reduceEqDiff, Nat.reduceLT]
            | true =>
              have n2 : (p.rows != qRows s.dialect) = false := by rw [bne, z2]; rfl
              simp only [g1, hne, hB, n1, n2, Bool.false_or, Bool.true_and, go_sem, ne_up1, ne_dn1, ne_up2, ne_up3, ne_up4, ne_up5, ne_up6, Nat.reduceAdd, Nat.reduceEqDiff, Nat.reduceLT, Nat.reduceLeDiff]
              refine wc_is (wc89 _ p (isRow_sl _) _ hpl _) ?_
              cases z3 : patVB s.channels p with
              | false => simp only [g1, g2, g18, g19, g20, Bool.false_and, Bool.not_false, go_sem, ne_up1, ne_dn1, ne_up2, ne_up3, ne_up4, ne_up5, ne_up6, Nat.reduceEqDiff, Nat.reduceLT]
              | true =>
                simp only [g1, Bool.true_and, go_sem, ne_up1, ne_dn1, ne_up2, ne_up3, ne_up4, ne_up5, ne_up6, mkClo, Nat.reduceAdd, Nat.reduceEqDiff, Nat.reduceLT]
                refine wc_is (h91 (hB' _)) ?_
                simp only [g1, g2, g18, g19, g20, go_sem, ne_up1, ne_dn1, ne_up2, ne_up3, ne_up4, ne_up5, ne_up6, Nat.reduceEqDiff, Nat.reduceLT]
        rintro e' S'' ⟨rfl, g1, g2, g4, g5, g18, g19, g20, g50⟩
        cases b2 : ((qRows s.dialect == 0 || p.rows == qRows s.dialect) && patVB s.channels p && p.cells.all (cellB s.dialect)) with
        | false =>
          rw [b2] at g50
          simp only [g2, g4, g50, hne2, hB2, go_sem, ne_up1, Nat.reduceAdd, Nat.reduceEqDiff, Nat.reduceLT, Nat.reduceLeDiff]
          refine bad (hfalse _ _ hp ?_) (by decide)
          rw [b2]; rfl
        | true =>
          rw [b2] at g50
          simp only [g1, g5, g50, go_sem, ne_up1, mkClo, Nat.reduceAdd, Nat.reduceEqDiff, Nat.reduceLT]
          refine wc_is (h93 (hB' _)) ?_
          cases b3 : (p.cells.all fun c => decide (c.inst ≤ names s)) with
          | false =>
            simp only [g2, g4, hne2, hB2, go_sem, ne_up1, Nat.reduceAdd, Nat.reduceEqDiff, Nat.reduceLT, Nat.reduceLeDiff]
            refine bad (hfalse _ _ hp ?_) (by decide)
            rw [b2, b3]; rfl
          | true =>
            simp only [g1, g2, g18, g19, g20, hne, hne2, hB, hB2, h5, go_sem, ne_up1, ne_up2, Nat.reduceEqDiff, Nat.reduceLT]
            refine ⟨s.patterns.length - (i + 1), by omega, i + 1, rfl, by omega, hF.new _, by omega, rfl, ?_⟩
            rw [← hp, b2, b3]; rfl
      · have h1 : ¬ ((i : Int) < (s.patterns.length : Int)) := by omega
        have hall : s.patterns.all (patB s) = true := by rw [← hp, List.drop_eq_nil_of_le hge]; rfl
        have hall2 : patsB s = true := by unfold patsB; rw [b1, hall]; rfl
        simp only [g2, g19, g20, h1, hB2, go_sem, ne_up1, Nat.reduceAdd, Nat.reduceEqDiff, Nat.reduceLT, Nat.reduceLeDiff]
        exact ends_fwd (by repeat (first | exact Fwd.refl hS | assumption | refine Fwd.new ?_ _ | refine Fwd.put ?_ (by first | exact Nat.le_refl _ | exact Nat.le_succ _ | exact Nat.le_add_right _ _ | (simp only [next_new, next_put] at *; omega)) _)) rfl ⟨rfl, _, _, _, by rw [hall2]; rfl, fun h => by rw [hall2] at h; cases h⟩
    · exact ⟨0, rfl, Nat.zero_le _, ((Fwd.refl hS).new _).new _, by simp [next_new], by simp only [go_sem, ne_up1], by simp only [go_sem, ne_dn1], by simp only [go_sem, ne_up1, ne_up2, ne_up5, ne_up6, Nat.reduceEqDiff], by simp only [go_sem, ne_up1, ne_up4, ne_up5, ne_up6, Nat.reduceEqDiff], by simp only [go_sem, ne_up1, ne_up2], by simp only [go_sem, ne_up1], by simp only [go_sem, Int.cast_ofNat_Int], rfl⟩
end
end Go.Proofs.YtgjnimemofmncaaGreatDoor

namespace Go.Proofs.YtgjnimemofmncaaGreatDoor
open Go.Abs Go.Tx
set_option maxHeartbeats 2000000
set_option maxRecDepth 20000
theorem findI_neg {α : Type} (p : α → Bool) (l : List α) : decide (findI p l 0 ≥ 0) = l.any p := by
  have := findI_any p l 0
  cases h : l.any p with
  | true => rw [h] at this; simpa using this.2 rfl
  | false => rw [h] at this; simpa using this
section
variable (s : SongV) (n : Nat → Int) (b : Nat → Bool)
theorem wc61 (hp : s.patterns.length ≤ maxLenA) (ho : s.orders.length ≤ maxLenA) (S : St) : WC Tryz.prog 61 [.c (.agg (chkL s n b))] (AskIs (ordsB s) S) S := by
  have hw : IntKind.i64.wrap ((s.orders.length : Int) - 1) = (s.orders.length : Int) - 1 := wrap_i64 _ (by omega) (by simp only [maxLenA] at ho; omega)
  refine wc_fn (fn := Tryz.f61) (N := 32) (rs := [.cell 2 126, .tmp 3]) (by rfl) (by kernel_rfl) (by rfl) (by rfl) (by rfl) (by rfl) fun hS => ?_
  have h96 := fun {T : St} (hT : T.get S.next = some (.blk (chkA s n b) 0 122)) => wc95c (first := []) (caps := [.ref S.next 0]) (g := 96) (fun o => !ordB s o) s.orders ho T (fun c _ => wc96 s n b hT hp c)
  simp only [List.length_map, go_sem, ne_up1, ne_up2, Nat.reduceAdd, Nat.reduceLT]
  refine wc_is (wc88 _ _ _ _) ?_
  cases b1 : Tx.within s.orders.length 1 64 with
  | false =>
    simp only [go_sem, ne_up1, ne_dn1, ne_up3, ne_up4, ne_up5, ne_up6, Nat.reduceAdd, Nat.reduceEqDiff, Nat.reduceLT, Nat.reduceLeDiff]
    exact ends_fwd (by repeat (first | exact Fwd.refl hS | assumption | refine Fwd.new ?_ _ | refine Fwd.put ?_ (by first | exact Nat.le_refl _ | exact Nat.le_succ _ | exact Nat.le_add_right _ _ | omega | (simp only [next_new, next_put]; omega)) _)) rfl ⟨rfl, _, _, _, by rw [show ordsB s = false by simp only [ordsB, b1]; rfl]; rfl, fun _ => by decide⟩
  | true =>
    simp only [go_sem, ne_up1, ne_up2, ne_up4, ne_up5, ne_up6, mkClo, Nat.reduceAdd, Nat.reduceEqDiff, Nat.reduceLT]
    refine wc_is (h96 (by rw [St.get_new, if_neg (by rw [next_new]; omega), St.get_new, if_pos rfl])) ?_
    have hf := findI_neg (fun o => !ordB s o) s.orders
    rw [any_not] at hf
    cases b2 : s.orders.all (ordB s) with
    | false =>
      rw [b2] at hf
      simp only [hf, Bool.not_false, go_sem, ne_up1, ne_dn1, ne_up2, ne_up3, ne_up4, ne_up5, ne_up6, Nat.reduceAdd, Nat.reduceEqDiff, Nat.reduceLT, Nat.reduceLeDiff]
      exact ends_fwd (by repeat (first | exact Fwd.refl hS | assumption | refine Fwd.new ?_ _ | refine Fwd.put ?_ (by first | exact Nat.le_refl _ | exact Nat.le_succ _ | exact Nat.le_add_right _ _ | omega | (simp only [next_new, next_put]; omega)) _)) rfl ⟨rfl, _, _, _, by rw [show ordsB s = false by simp only [ordsB, b1, b2]; rfl]; rfl, fun _ => by decide⟩
    | true =>
      rw [b2] at hf
      simp only [hf, Bool.not_true, hw, List.length_map, go_sem, ne_up1, ne_up2, ne_up3, ne_up4, ne_up5, ne_up6, Nat.reduceAdd, Nat.reduceEqDiff, Nat.reduceLT, Nat.reduceLeDiff]
      refine wc_is (wc88 _ _ _ _) ?_
      simp only [go_sem, ne_up1, ne_dn1, ne_up2, ne_up3, ne_up4, ne_up5, ne_up6, Nat.reduceAdd, Nat.reduceEqDiff, Nat.reduceLT, Nat.reduceLeDiff]
      exact ends_fwd (by repeat (first | exact Fwd.refl hS | assumption | refine Fwd.new ?_ _ | refine Fwd.put ?_ (by first | exact Nat.le_refl _ | exact Nat.le_succ _ | exact Nat.le_add_right _ _ | omega | (simp only [next_new, next_put]; omega)) _)) rfl ⟨rfl, _, _, _, by rw [show ordsB s = Tx.within s.restart 0 (s.orders.length - 1) by simp only [ordsB, b1, b2]; rfl], fun _ => by decide⟩
theorem wc62 (ho : s.pans.length ≤ maxLenA) (S : St) : WC Tryz.prog 62 [.c (.agg (chkL s n b))] (AskIs (numsB s) S) S := by
  refine wc_fn (fn := Tryz.f62) (N := 55) (rs := [.cell 2 126, .tmp 3]) (by rfl) (by kernel_rfl) (by rfl) (by rfl) (by rfl) (by rfl) fun hS => ?_
  have h98 := fun (T : St) => wc95f (first := []) (caps := []) (g := 98) (fun p => !Tx.within p 0 256) s.pans ho T (fun c _ => wc98 c T)
  simp only [go_sem, ne_up1, ne_up2, Nat.reduceAdd, Nat.reduceLT]
  refine wc_is (wc88 _ _ _ _) ?_
  cases b1 : Tx.within s.speed 1 31 with
  | false =>
    simp only [go_sem, ne_up1, ne_dn1, ne_up3, ne_up4, ne_up5, ne_up6, Nat.reduceAdd, Nat.reduceEqDiff, Nat.reduceLT, Nat.reduceLeDiff]
    exact ends_fwd (by repeat (first | exact Fwd.refl hS | assumption | refine Fwd.new ?_ _ | refine Fwd.put ?_ (by first | exact Nat.le_refl _ | exact Nat.le_succ _ | exact Nat.le_add_right _ _ | omega | (simp only [next_new, next_put]; omega)) _)) rfl ⟨rfl, _, _, _, by rw [show numsB s = false by simp only [numsB, b1]; simp]; rfl, fun _ => by decide⟩
  | true =>
  simp only [go_sem, ne_up1, ne_up2, ne_up4, ne_up5, ne_up6, Nat.reduceAdd, Nat.reduceEqDiff, Nat.reduceLT]
  refine wc_is (wc88 _ _ _ _) ?_
  cases b2 : Tx.within s.tempo 32 255 with
  | false =>
    simp only [go_sem, ne_up1, ne_dn1, ne_up3, ne_up4, ne_up5, ne_up6, Nat.reduceAdd, Nat.reduceEqDiff, Nat.reduceLT, Nat.reduceLeDiff]
    exact ends_fwd (by repeat (first | exact Fwd.refl hS | assumption | refine Fwd.new ?_ _ | refine Fwd.put ?_ (by first | exact Nat.le_refl _ | exact Nat.le_succ _ | exact Nat.le_add_right _ _ | omega | (simp only [next_new, next_put]; omega)) _)) rfl ⟨rfl, _, _, _, by rw [show numsB s = false by simp only [numsB, b1, b2]; simp]; rfl, fun _ => by decide⟩
  | true =>
  simp only [go_sem, ne_up1, ne_up2, ne_up4, ne_up5, ne_up6, Nat.reduceAdd, Nat.reduceEqDiff, Nat.reduceLT]
  refine wc_is (wc88 _ _ _ _) ?_
  cases b3 : Tx.within s.global 0 128 with
  | false =>
    simp only [go_sem, ne_up1, ne_dn1, ne_up3, ne_up4, ne_up5, ne_up6, Nat.reduceAdd, Nat.reduceEqDiff, Nat.reduceLT, Nat.reduceLeDiff]
    exact ends_fwd (by repeat (first | exact Fwd.refl hS | assumption | refine Fwd.new ?_ _ | refine Fwd.put ?_ (by first | exact Nat.le_refl _ | exact Nat.le_succ _ | exact Nat.le_add_right _ _ | omega | (simp only [next_new, next_put]; omega)) _)) rfl ⟨rfl, _, _, _, by rw [show numsB s = false by simp only [numsB, b1, b2, b3]; simp]; rfl, fun _ => by decide⟩
  | true =>
  cases l1 : s.linear with
  | true =>
    cases l2 : qLin s.dialect with
    | false =>
      simp only [go_sem, ne_up1, ne_dn1, ne_up2, ne_up3, ne_up4, ne_up5, ne_up6, Nat.reduceAdd, Nat.reduceEqDiff, Nat.reduceLT, Nat.reduceLeDiff]
      exact ends_fwd (by repeat (first | exact Fwd.refl hS | assumption | refine Fwd.new ?_ _ | refine Fwd.put ?_ (by first | exact Nat.le_refl _ | exact Nat.le_succ _ | exact Nat.le_add_right _ _ | omega | (simp only [next_new, next_put]; omega)) _)) rfl ⟨rfl, _, _, _, by rw [show numsB s = false by simp only [numsB, b1, b2, b3, l1, l2]; simp]; rfl, fun _ => by decide⟩
    | true =>
      by_cases b5 : (s.pans.length : Int) = s.channels
      · have b5' : ((s.pans.length : Int) != s.channels) = false := by simpa using b5
        simp only [b5', List.length_map, go_sem, ne_up1, ne_up2, ne_up3, ne_up4, ne_up5, ne_up6, Nat.reduceAdd, Nat.reduceEqDiff, Nat.reduceLT]
        refine wc_is (h98 _) ?_
        have hf := findI_neg (fun p => !Tx.within p 0 256) s.pans
        rw [any_not] at hf
        simp only [hf, go_sem, ne_up1, ne_dn1, ne_up2, ne_up3, ne_up4, ne_up5, ne_up6, Nat.reduceAdd, Nat.reduceEqDiff, Nat.reduceLT, Nat.reduceLeDiff]
        exact ends_fwd (by repeat (first | exact Fwd.refl hS | assumption | refine Fwd.new ?_ _ | refine Fwd.put ?_ (by first | exact Nat.le_refl _ | exact Nat.le_succ _ | exact Nat.le_add_right _ _ | omega | (simp only [next_new, next_put]; omega)) _)) rfl ⟨rfl, _, _, _, by rw [show numsB s = s.pans.all (fun p => Tx.within p 0 256) by simp only [numsB, b1, b2, b3, l1, l2, b5]; simp], fun _ => by decide⟩
      · have b5' : ((s.pans.length : Int) != s.channels) = true := by simpa using b5
        simp only [b5', List.length_map, go_sem, ne_up1, ne_dn1, ne_up2, ne_up3, ne_up4, ne_up5, ne_up6, Nat.reduceAdd, Nat.reduceEqDiff, Nat.reduceLT, Nat.reduceLeDiff]
        exact ends_fwd (by repeat (first | exact Fwd.refl hS | assumption | refine Fwd.new ?_ _ | refine Fwd.put ?_ (by first | exact Nat.le_refl _ | exact Nat.le_succ _ | exact Nat.le_add_right _ _ | omega | (simp only [next_new, next_put]; omega)) _)) rfl ⟨rfl, _, _, _, by rw [show numsB s = false by simp only [numsB, b1, b2, b3, l1, l2, b5]; simp]; rfl, fun _ => by decide⟩
  | false =>
      by_cases b5 : (s.pans.length : Int) = s.channels
      · have b5' : ((s.pans.length : Int) != s.channels) = false := by simpa using b5
        simp only [b5', List.length_map, go_sem, ne_up1, ne_up2, ne_up3, ne_up4, ne_up5, ne_up6, Nat.reduceAdd, Nat.reduceEqDiff, Nat.reduceLT]
        refine wc_is (h98 _) ?_
        have hf := findI_neg (fun p => !Tx.within p 0 256) s.pans
        rw [any_not] at hf
        simp only [hf, go_sem, ne_up1, ne_dn1, ne_up2, ne_up3, ne_up4, ne_up5, ne_up6, Nat.reduceAdd, Nat.reduceEqDiff, Nat.reduceLT, Nat.reduceLeDiff]
        exact ends_fwd (by repeat (first | exact Fwd.refl hS | assumption | refine Fwd.new ?_ _ | refine Fwd.put ?_ (by first | exact Nat.le_refl _ | exact Nat.le_succ _ | exact Nat.le_add_right _ _ | omega | (simp only [next_new, next_put]; omega)) _)) rfl ⟨rfl, _, _, _, by rw [show numsB s = s.pans.all (fun p => Tx.within p 0 256) by simp only [numsB, b1, b2, b3, l1, b5]; simp], fun _ => by decide⟩
      · have b5' : ((s.pans.length : Int) != s.channels) = true := by simpa using b5
        simp only [b5', List.length_map, go_sem, ne_up1, ne_dn1, ne_up2, ne_up3, ne_up4, ne_up5, ne_up6, Nat.reduceAdd, Nat.reduceEqDiff, Nat.reduceLT, Nat.reduceLeDiff]
        exact ends_fwd (by repeat (first | exact Fwd.refl hS | assumption | refine Fwd.new ?_ _ | refine Fwd.put ?_ (by first | exact Nat.le_refl _ | exact Nat.le_succ _ | exact Nat.le_add_right _ _ | omega | (simp only [next_new, next_put]; omega)) _)) rfl ⟨rfl, _, _, _, by rw [show numsB s = false by simp only [numsB, b1, b2, b3, l1, b5]; simp]; rfl, fun _ => by decide⟩
def insOk (s : SongV) (i : InsV) : Bool := insB i && i.keys.all fun k => decide (k.2 ≤ s.samples.length)
theorem sndsB_eq : sndsB s = ((decide (s.samples.length ≤ 31) && !(s.dialect == 6 && decide (0 < s.samples.length))) && s.samples.all smpB && (decide (s.insts.length ≤ 31) && !(!qIns s.dialect && decide (0 < s.insts.length))) && s.insts.all (insOk s)) := by
  unfold sndsB insOk
  simp only [Bool.and_assoc]
theorem wc63 (hs : s.samples.length ≤ maxLenA) (hk : ∀ i ∈ s.insts, i.name.length ≤ maxLenA ∧ i.keys.length ≤ maxLenA) (S : St) : WC Tryz.prog 63 [.c (.agg (chkL s n b))] (AskIs (sndsB s) S) S := by
  have hsz : allSize 33 (s.insts.map insV) = true := allSize_map (s := 33) insV (fun _ => rfl) s.insts
  have h100 := fun (T : St) => wc99f (first := []) (caps := []) (g := 100) (fun x => !smpB x) s.samples hs T (fun c _ => wc100 c T)
  refine wc_fn (fn := Tryz.f63) (N := 75) (rs := [.cell 2 126, .tmp 3]) (by rfl) (by kernel_rfl) (by rfl) (by rfl) (by rfl) (by rfl) fun hS => ?_
  simp only [List.length_map, go_sem, ne_up1, ne_up2, Nat.reduceAdd, Nat.reduceLT]
  refine guardK_cut (fun e' S' => S' = (S.new (.blk (chkA s n b) 0 122)).new flt0 ∧ e'.get 1 = .ref S.next 0 ∧ e'.get 2 = .ref (S.next + 1) 0 ∧ e'.get 24 = .c (.bool (!(decide (s.samples.length ≤ 31) && !(s.dialect == 6 && decide (0 < s.samples.length)))))) ?_ ?_
  · by_cases z1 : s.samples.length ≤ 31
    · have y1 : ((s.samples.length : Int) > 31) = False := eq_false (by omega)
      cases z2 : (s.dialect == 6) with
      | false => simp only [y1, z1, z2, Bool.false_and, Bool.true_and, Bool.not_false, Bool.not_true, decide_true, decide_false, go_sem, ne_up1, ne_up2, ne_up3, ne_up4, ne_up5, ne_up6, Nat.reduceAdd, Nat.reduceEqDiff, Nat.reduceLT]
      | true =>
        by_cases z3 : 0 < s.samples.length
        · have y3 : ((s.samples.length : Int) > 0) = True := eq_true (by omega)
          simp only [y1, z1, z2, y3, z3, List.length_map, Bool.true_and, Bool.and_true, Bool.not_false, Bool.not_true, decide_true, decide_false, go_sem, ne_up1, ne_up2, ne_up3, ne_up4, ne_up5, ne_up6, Nat.reduceAdd, Nat.reduceEqDiff, Nat.reduceLT]
        · have y3 : ((s.samples.length : Int) > 0) = False := eq_false (by omega)
          simp only [y1, z1, z2, y3, z3, List.length_map, Bool.true_and, Bool.and_false, Bool.not_false, Bool.not_true, decide_true, decide_false, go_sem, ne_up1, ne_up2, ne_up3, ne_up4, ne_up5, ne_up6, Nat.reduceAdd, Nat.reduceEqDiff, Nat.reduceLT]
    · have y1 : ((s.samples.length : Int) > 31) = True := eq_true (by omega)
      simp only [y1, z1, Bool.false_and, Bool.not_false, Bool.not_true, decide_true, decide_false, go_sem, ne_up1, ne_up2, ne_up3, ne_up4, ne_up5, ne_up6, Nat.reduceEqDiff, Nat.reduceLT]
  rintro e S' ⟨rfl, g1, g2, g24⟩
  cases b1 : (decide (s.samples.length ≤ 31) && !(s.dialect == 6 && decide (0 < s.samples.length))) with
  | false =>
    rw [b1] at g24
    simp only [g2, g24, go_sem, ne_up1, ne_dn1, Nat.reduceAdd, Nat.reduceEqDiff, Nat.reduceLT, Nat.reduceLeDiff]
    exact ends_fwd (by repeat (first | exact Fwd.refl hS | assumption | refine Fwd.new ?_ _ | refine Fwd.put ?_ (by first | exact Nat.le_refl _ | exact Nat.le_succ _ | exact Nat.le_add_right _ _ | omega | (simp only [next_new, next_put]; omega)) _)) rfl ⟨rfl, _, _, _, by rw [show sndsB s = false by rw [sndsB_eq, b1]; rfl]; rfl, fun _ => by decide⟩
  | true =>
  rw [b1] at g24
  simp only [g1, g24, go_sem, ne_up1, Nat.reduceAdd, Nat.reduceLT]
  refine wc_is (h100 _) ?_
  have hf := findI_neg (fun x => !smpB x) s.samples
  rw [any_not] at hf
  cases b2 : s.samples.all smpB with
  | false =>
    rw [b2] at hf
    simp only [hf, Bool.not_false, g2, go_sem, ne_up1, ne_dn1, ne_up2, Nat.reduceAdd, Nat.reduceEqDiff, Nat.reduceLT, Nat.reduceLeDiff]
    exact ends_fwd (by repeat (first | exact Fwd.refl hS | assumption | refine Fwd.new ?_ _ | refine Fwd.put ?_ (by first | exact Nat.le_refl _ | exact Nat.le_succ _ | exact Nat.le_add_right _ _ | omega | (simp only [next_new, next_put]; omega)) _)) rfl ⟨rfl, _, _, _, by rw [show sndsB s = false by rw [sndsB_eq, b1, b2]; rfl]; rfl, fun _ => by decide⟩
  | true =>
  rw [b2] at hf
  simp only [hf, Bool.not_true, g1, List.length_map, go_sem, ne_up1, ne_up3, Nat.reduceAdd, Nat.reduceEqDiff, Nat.reduceLT]
  refine guardK_cut (fun e' S' => S' = (S.new (.blk (chkA s n b) 0 122)).new flt0 ∧ e'.get 1 = .ref S.next 0 ∧ e'.get 2 = .ref (S.next + 1) 0 ∧ e'.get 51 = .c (.bool (!(decide (s.insts.length ≤ 31) && !(!qIns s.dialect && decide (0 < s.insts.length)))))) ?_ ?_
  · by_cases z1 : s.insts.length ≤ 31
    · have y1 : ((s.insts.length : Int) > 31) = False := eq_false (by omega)
      cases z2 : qIns s.dialect with
      | true => simp only [y1, z1, z2, g1, g2, Bool.false_and, Bool.true_and, Bool.not_false, Bool.not_true, decide_true, decide_false, go_sem, ne_up1, ne_up2, ne_up3, ne_up4, ne_up5, ne_up6, Nat.reduceAdd, Nat.reduceEqDiff, Nat.reduceLT]
      | false =>
        by_cases z3 : 0 < s.insts.length
        · have y3 : ((s.insts.length : Int) > 0) = True := eq_true (by omega)
          simp only [y1, z1, z2, y3, z3, g1, g2, List.length_map, Bool.true_and, Bool.and_true, Bool.not_false, Bool.not_true, decide_true, decide_false, go_sem, ne_up1, ne_up2, ne_up3, ne_up4, ne_up5, ne_up6, Nat.reduceAdd, Nat.reduceEqDiff, Nat.reduceLT]
        · have y3 : ((s.insts.length : Int) > 0) = False := eq_false (by omega)
          simp only [y1, z1, z2, y3, z3, g1, g2, List.length_map, Bool.true_and, Bool.and_false, Bool.not_false, Bool.not_true, decide_true, decide_false, go_sem, ne_up1, ne_up2, ne_up3, ne_up4, ne_up5, ne_up6, Nat.reduceAdd, Nat.reduceEqDiff, Nat.reduceLT]
    · have y1 : ((s.insts.length : Int) > 31) = True := eq_true (by omega)
      simp only [y1, z1, g1, g2, Bool.false_and, Bool.not_false, Bool.not_true, decide_true, decide_false, go_sem, ne_up1, ne_up2, ne_up3, ne_up4, ne_up5, ne_up6, Nat.reduceEqDiff, Nat.reduceLT]
  rintro e S' ⟨rfl, g1, g2, g51⟩
  cases b3 : (decide (s.insts.length ≤ 31) && !(!qIns s.dialect && decide (0 < s.insts.length))) with
  | false =>
    rw [b3] at g51
    simp only [g2, g51, go_sem, ne_up1, ne_dn1, Nat.reduceAdd, Nat.reduceEqDiff, Nat.reduceLT, Nat.reduceLeDiff]
    exact ends_fwd (by repeat (first | exact Fwd.refl hS | assumption | refine Fwd.new ?_ _ | refine Fwd.put ?_ (by first | exact Nat.le_refl _ | exact Nat.le_succ _ | exact Nat.le_add_right _ _ | omega | (simp only [next_new, next_put]; omega)) _)) rfl ⟨rfl, _, _, _, by rw [show sndsB s = false by rw [sndsB_eq, b1, b2, b3]; rfl]; rfl, fun _ => by decide⟩
  | true =>
  rw [b3] at g51
  have hi : s.insts.length ≤ 100000000 := by
    simp only [Bool.and_eq_true, decide_eq_true_eq] at b3
    omega
  simp only [g1, g51, List.length_map, go_sem, ne_up1, Nat.reduceAdd, Nat.reduceLT]
  refine wloop_meas (fun m e S' => ∃ i : Nat, m = s.insts.length - i ∧ i ≤ s.insts.length ∧ Fwd S S' ∧ S.next + 1 < S'.next ∧ S'.get S.next = some (.blk (chkA s n b) 0 122) ∧ S'.get (S.next + 1) = some flt0 ∧
      e.get 1 = .ref S.next 0 ∧ e.get 2 = .ref (S.next + 1) 0 ∧ e.get 55 = .c (.sl (s.insts.map insV)) ∧ e.get 56 = i64 s.insts.length ∧ e.get 57 = i64 i ∧ (s.insts.drop i).all (insOk s) = s.insts.all (insOk s)) ?_ s.insts.length _ _ ?_
  · rintro m e S' ⟨i, rfl, hi', hF, hlt', hB, hB2, g1, g2, g55, g56, g57, hp⟩
    rcases Nat.lt_or_ge i s.insts.length with hlt | hge
    · have h1 : ((i : Int) < (s.insts.length : Int)) := by omega
      have h2 : ¬ ((i : Int) < 0) := by omega
      have h3 : (s.insts.map insV)[i]? = some (insV s.insts[i]) := by simp [hlt]
      have h5 := step_wrap i (by omega)
      have hne : (S'.next = S.next) = False := by simp; omega
      have hne2 : (S'.next = S.next + 1) = False := by simp; omega
      have hd := all_step (insOk s) hlt
      have hmem := hk s.insts[i] (List.getElem_mem hlt)
      rw [hd] at hp
      generalize s.insts[i] = x at *
      have bad : insOk s x = false → ∀ {o : Ob} {k : Int}, k ≠ 0 → ends Tryz.prog S.next (AskIs (sndsB s) S) (.tup [.c (.agg [.str [105, 110, 115, 116, 115], .int .i64 i, .int .i64 k]), .c (.bool true)]) ((S'.new o).put (S.next + 1) (.blk [.c (.str [105, 110, 115, 116, 115]), i64 i, i64 k] 0 126)) := by
        intro h o k hk
        rw [h] at hp
        have h' : s.insts.all (insOk s) = false := by rw [← hp]; rfl
        exact ends_fwd (by repeat (first | exact Fwd.refl hS | assumption | refine Fwd.new ?_ _ | refine Fwd.put ?_ (by first | exact Nat.le_refl _ | exact Nat.le_succ _ | exact Nat.le_add_right _ _ | omega | (simp only [next_new, next_put]; omega)) _)) rfl ⟨rfl, _, _, _, by rw [show sndsB s = false by rw [sndsB_eq, h']; simp]; rfl, fun _ => hk⟩
      have h104 := fun {T : St} (hT : T.get S.next = some (.blk (chkA s n b) 0 122)) => wc103c (first := []) (caps := [.ref S.next 0]) (g := 104) (fun k => !decide (k.2 ≤ s.samples.length)) x.keys hmem.2 T (fun c _ => wc104 s n b hT c)
      simp only [any_not] at h104
      have hB' : ∀ o, (S'.new o).get S.next = some (.blk (chkA s n b) 0 122) := fun o => by rw [St.get_new]; simp only [hne, if_false]; exact hB
      simp only [g55, g56, g57, h1, h2, h3, hlt, hsz, List.length_map, Int.toNat_natCast, Option.map_some, go_sem, put_new, ne_up1, ne_dn1, ne_up2, ne_up3, ne_up4, Nat.reduceAdd, Nat.reduceEqDiff, Nat.reduceLT, Nat.reduceLeDiff]
      refine wc_is (wc102 x hmem.1 hmem.2 _) ?_
      cases b4 : insB x with
      | false =>
        simp only [g2, hne2, hB2, go_sem, ne_up1, ne_up3, ne_up4, Nat.reduceAdd, Nat.reduceEqDiff, Nat.reduceLT, Nat.reduceLeDiff]
        exact bad (by unfold insOk; rw [b4]; rfl) (by decide)
      | true =>
        simp only [g1, go_sem, ne_up1, ne_dn1, ne_up4, ne_up5, mkClo, Nat.reduceAdd, Nat.reduceEqDiff, Nat.reduceLT]
        refine wc_is (h104 (hB' _)) ?_
        cases b5 : (x.keys.all fun k => decide (k.2 ≤ s.samples.length)) with
        | false =>
          simp only [g2, hne2, hB2, go_sem, ne_up1, ne_up3, ne_up4, Nat.reduceAdd, Nat.reduceEqDiff, Nat.reduceLT, Nat.reduceLeDiff]
          exact bad (by unfold insOk; rw [b4, b5]; rfl) (by decide)
        | true =>
          simp only [g1, g2, g55, g56, g57, hne, hne2, hB, hB2, h5, go_sem, ne_up1, ne_up2, ne_up3, ne_up4, ne_up5, ne_up6, Nat.reduceEqDiff, Nat.reduceLT]
          refine ⟨s.insts.length - (i + 1), by omega, i + 1, rfl, by omega, hF.new _, by omega, rfl, ?_⟩
          rw [← hp, show insOk s x = true by unfold insOk; rw [b4, b5]; rfl]; rfl
    · have h1 : ¬ ((i : Int) < (s.insts.length : Int)) := by omega
      have hall : s.insts.all (insOk s) = true := by rw [← hp, List.drop_eq_nil_of_le hge]; rfl
      have hall2 : sndsB s = true := by rw [sndsB_eq, b1, b2, b3, hall]; rfl
      simp only [g2, g56, g57, h1, hB2, go_sem, ne_up1, Nat.reduceAdd, Nat.reduceEqDiff, Nat.reduceLT, Nat.reduceLeDiff]
      exact ends_fwd (by repeat (first | exact Fwd.refl hS | assumption | refine Fwd.new ?_ _ | refine Fwd.put ?_ (by first | exact Nat.le_refl _ | exact Nat.le_succ _ | exact Nat.le_add_right _ _ | omega | (simp only [next_new, next_put]; omega)) _)) rfl ⟨rfl, _, _, _, by rw [hall2]; rfl, fun h => by rw [hall2] at h; cases h⟩
  · exact ⟨0, rfl, Nat.zero_le _, ((Fwd.refl hS).new _).new _, by simp [next_new], by simp only [go_sem, ne_up1], by simp only [go_sem, ne_dn1], g1, g2, by simp only [go_sem, ne_up1, ne_up2], by simp only [go_sem, ne_up1], by simp only [go_sem, Int.cast_ofNat_Int], rfl⟩
structure Sized (s : SongV) : Prop where
  name : s.name.length ≤ maxLenA
  orders : s.orders.length ≤ maxLenA
  pans : s.pans.length ≤ maxLenA
  patterns : s.patterns.length ≤ maxLenA
  cells : ∀ p ∈ s.patterns, p.cells.length ≤ maxLenA
  samples : s.samples.length ≤ maxLenA
  insts : ∀ i ∈ s.insts, i.name.length ≤ maxLenA ∧ i.keys.length ≤ maxLenA
def WrongIs (ok : Bool) (S : St) (x : CX) (T : St) : Prop :=
  T = S ∧ ∃ (part : List UInt8) (idx code : Int), x = .ret (.tup [.c (.str part), i64 idx, i64 code]) ∧ (code == 0) = ok
theorem wc_ask {f : FuncId} {args : List AV} {ok : Bool} {K : CX → St → Prop} {S : St} (h : WC Tryz.prog f args (AskIs ok S) S)
    (h1 : ok = true → ∀ part idx code, K (.ret (.tup [.c (.agg [.str part, .int .i64 idx, .int .i64 code]), .c (.bool false)])) S)
    (h2 : ok = false → ∀ part idx code, (code == 0) = false → K (.ret (.tup [.c (.agg [.str part, .int .i64 idx, .int .i64 code]), .c (.bool true)])) S) : WC Tryz.prog f args K S := by
  refine h.mono ?_
  rintro x T ⟨rfl, part, idx, code, rfl, hc⟩
  cases ok with
  | true => exact h1 rfl part idx code
  | false => exact h2 rfl part idx code (by simpa using hc rfl)
theorem wc27 (h : Sized s) (S : St) : WC Tryz.prog 27 [.c (songV s)] (WrongIs (validS s) S) S := by
  obtain ⟨n, b, hq⟩ := qk_ex s
  refine wc_fn (fn := Tryz.f27) (N := 50) (rs := [.tmp 2, .tmp 3, .tmp 4]) (by rfl) (by kernel_rfl) (by rfl) (by rfl) (by rfl) (by rfl) fun hS => ?_
  simp only [go_sem, ne_up1, ne_up2, ne_up3, Nat.reduceAdd, Nat.reduceLT, Int.reduceNeg]
  refine wc_is (wc28' _ _) ?_
  rw [hq]
  simp only [go_sem, ne_up1, ne_dn1, ne_up2, ne_dn2, ne_up3, ne_up4, ne_up5, ne_up6, mkClo, Int.cast_ofNat_Int, Nat.reduceAdd, Nat.reduceMul, Nat.reduceEqDiff, Nat.reduceLT, Nat.reduceLeDiff, Int.reduceNeg]
  refine wloop_round ?_
  simp only [go_sem, ne_up1, ne_dn1, ne_up2, ne_dn2, ne_up3, ne_dn3, Nat.reduceAdd, Nat.reduceMul, Nat.reduceLT, Int.reduceLT, Int.reduceToNat, Int.reduceNeg]
  refine wc_ask (wc59 s n b h.name _) (fun a0 part idx code => ?_) (fun a0 part idx code hc => ?_)
  rotate_left
  · simp only [go_sem, ne_up1, ne_dn1, ne_dn2, ne_up3, ne_dn3, ne_dn4, Nat.reduceAdd, Nat.reduceEqDiff, Nat.reduceLT, Nat.reduceLeDiff, Int.reduceNeg]
    refine wdraw_plan ch27x8 pp27x8 (by kernel_rfl) (by kernel_rfl) (by kernel_rfl) ?_
    simp only [go_sem, ne_up1, ne_dn1, ne_up2, ne_dn2, ne_up3, ne_dn3, ne_up4, ne_dn4, Nat.reduceAdd, Nat.reduceEqDiff, Nat.reduceLT, Int.reduceNeg]
    exact ends_fwd (by repeat (first | exact Fwd.refl hS | assumption | refine Fwd.new ?_ _ | refine Fwd.put ?_ (by first | exact Nat.le_refl _ | exact Nat.le_succ _ | exact Nat.le_add_right _ _ | omega | (simp only [next_new, next_put]; omega)) _)) rfl ⟨rfl, _, _, _, rfl, by rw [hc]; simp only [validS, a0]; simp⟩
  simp only [go_sem, ne_up1, ne_dn1, ne_up2, ne_dn2, ne_up3, ne_dn3, ne_up4, ne_dn4, ne_up5, ne_up6, wrap_i64, Nat.reduceAdd, Nat.reduceEqDiff, Nat.reduceLT, Nat.reduceLeDiff, Int.reduceLE, Int.reduceNeg, Int.reduceAdd]
  refine wloop_round ?_
  simp only [go_sem, ne_up1, ne_dn1, ne_up2, ne_dn2, ne_up3, ne_dn3, ne_up4, ne_up5, ne_up6, Nat.reduceAdd, Nat.reduceMul, Nat.reduceEqDiff, Nat.reduceLT, Int.reduceLT, Int.reduceToNat, Int.reduceNeg]
  refine wc_ask (wc60 s n b h.cells _) (fun a1 part idx code => ?_) (fun a1 part idx code hc => ?_)
  rotate_left
  · simp only [go_sem, ne_up1, ne_dn1, ne_dn2, ne_up3, ne_dn3, ne_dn4, ne_dn5, Nat.reduceAdd, Nat.reduceEqDiff, Nat.reduceLT, Nat.reduceLeDiff, Int.reduceNeg]
    refine wdraw_plan ch27x8 pp27x8 (by kernel_rfl) (by kernel_rfl) (by kernel_rfl) ?_
    simp only [go_sem, ne_up1, ne_dn1, ne_up2, ne_dn2, ne_up3, ne_dn3, ne_up4, ne_dn4, ne_dn5, Nat.reduceAdd, Nat.reduceEqDiff, Nat.reduceLT, Int.reduceNeg]
    exact ends_fwd (by repeat (first | exact Fwd.refl hS | assumption | refine Fwd.new ?_ _ | refine Fwd.put ?_ (by first | exact Nat.le_refl _ | exact Nat.le_succ _ | exact Nat.le_add_right _ _ | omega | (simp only [next_new, next_put]; omega)) _)) rfl ⟨rfl, _, _, _, rfl, by rw [hc]; simp only [validS, a0, a1]; simp⟩
  simp only [go_sem, ne_up1, ne_dn1, ne_up2, ne_dn2, ne_up3, ne_dn3, ne_up4, ne_dn4, ne_up5, ne_dn5, ne_up6, wrap_i64, Nat.reduceAdd, Nat.reduceEqDiff, Nat.reduceLT, Nat.reduceLeDiff, Int.reduceLE, Int.reduceNeg, Int.reduceAdd]
  refine wloop_round ?_
  simp only [go_sem, ne_up1, ne_dn1, ne_up2, ne_dn2, ne_up3, ne_dn3, ne_up4, ne_up5, ne_up6, Nat.reduceAdd, Nat.reduceMul, Nat.reduceEqDiff, Nat.reduceLT, Int.reduceLT, Int.reduceToNat, Int.reduceNeg]
  refine wc_ask (wc61 s n b h.patterns h.orders _) (fun a2 part idx code => ?_) (fun a2 part idx code hc => ?_)
  rotate_left
  · simp only [go_sem, ne_up1, ne_dn1, ne_dn2, ne_up3, ne_dn3, ne_dn4, ne_dn5, ne_dn6, Nat.reduceAdd, Nat.reduceEqDiff, Nat.reduceLT, Nat.reduceLeDiff, Int.reduceNeg]
    refine wdraw_plan ch27x8 pp27x8 (by kernel_rfl) (by kernel_rfl) (by kernel_rfl) ?_
    simp only [go_sem, ne_up1, ne_dn1, ne_up2, ne_dn2, ne_up3, ne_dn3, ne_up4, ne_dn4, ne_dn5, ne_dn6, Nat.reduceAdd, Nat.reduceEqDiff, Nat.reduceLT, Int.reduceNeg]
    exact ends_fwd (by repeat (first | exact Fwd.refl hS | assumption | refine Fwd.new ?_ _ | refine Fwd.put ?_ (by first | exact Nat.le_refl _ | exact Nat.le_succ _ | exact Nat.le_add_right _ _ | omega | (simp only [next_new, next_put]; omega)) _)) rfl ⟨rfl, _, _, _, rfl, by rw [hc]; simp only [validS, a0, a1, a2]; simp⟩
  simp only [go_sem, ne_up1, ne_dn1, ne_up2, ne_dn2, ne_up3, ne_dn3, ne_up4, ne_dn4, ne_up5, ne_dn5, ne_up6, ne_dn6, wrap_i64, Nat.reduceAdd, Nat.reduceEqDiff, Nat.reduceLT, Nat.reduceLeDiff, Int.reduceLE, Int.reduceNeg, Int.reduceAdd]
  refine wloop_round ?_
  simp only [go_sem, ne_up1, ne_dn1, ne_up2, ne_dn2, ne_up3, ne_dn3, ne_up4, ne_up5, ne_up6, Nat.reduceAdd, Nat.reduceMul, Nat.reduceEqDiff, Nat.reduceLT, Int.reduceLT, Int.reduceToNat, Int.reduceNeg]
  refine wc_ask (wc62 s n b h.pans _) (fun a3 part idx code => ?_) (fun a3 part idx code hc => ?_)
  rotate_left
  · simp only [go_sem, ne_up1, ne_dn1, ne_dn2, ne_up3, ne_dn3, ne_dn4, ne_dn5, ne_dn6, Nat.reduceAdd, Nat.reduceEqDiff, Nat.reduceLT, Nat.reduceLeDiff, Int.reduceNeg]
    refine wdraw_plan ch27x8 pp27x8 (by kernel_rfl) (by kernel_rfl) (by kernel_rfl) ?_
    simp only [go_sem, ne_up1, ne_dn1, ne_up2, ne_dn2, ne_up3, ne_dn3, ne_up4, ne_dn4, ne_dn5, ne_dn6, Nat.reduceAdd, Nat.reduceEqDiff, Nat.reduceLT, Int.reduceNeg]
    exact ends_fwd (by repeat (first | exact Fwd.refl hS | assumption | refine Fwd.new ?_ _ | refine Fwd.put ?_ (by first | exact Nat.le_refl _ | exact Nat.le_succ _ | exact Nat.le_add_right _ _ | omega | (simp only [next_new, next_put]; omega)) _)) rfl ⟨rfl, _, _, _, rfl, by rw [hc]; simp only [validS, a0, a1, a2, a3]; simp⟩
  simp only [go_sem, ne_up1, ne_dn1, ne_up2, ne_dn2, ne_up3, ne_dn3, ne_up4, ne_dn4, ne_up5, ne_dn5, ne_up6, ne_dn6, wrap_i64, Nat.reduceAdd, Nat.reduceEqDiff, Nat.reduceLT, Nat.reduceLeDiff, Int.reduceLE, Int.reduceNeg, Int.reduceAdd]
  refine wloop_round ?_
  simp only [go_sem, ne_up1, ne_dn1, ne_up2, ne_dn2, ne_up3, ne_dn3, ne_up4, ne_up5, ne_up6, Nat.reduceAdd, Nat.reduceMul, Nat.reduceEqDiff, Nat.reduceLT, Int.reduceLT, Int.reduceToNat, Int.reduceNeg]
  refine wc_ask (wc63 s n b h.samples h.insts _) (fun a4 part idx code => ?_) (fun a4 part idx code hc => ?_)
  rotate_left
  · simp only [go_sem, ne_up1, ne_dn1, ne_dn2, ne_up3, ne_dn3, ne_dn4, ne_dn5, ne_dn6, Nat.reduceAdd, Nat.reduceEqDiff, Nat.reduceLT, Nat.reduceLeDiff, Int.reduceNeg]
    refine wdraw_plan ch27x8 pp27x8 (by kernel_rfl) (by kernel_rfl) (by kernel_rfl) ?_
    simp only [go_sem, ne_up1, ne_dn1, ne_up2, ne_dn2, ne_up3, ne_dn3, ne_up4, ne_dn4, ne_dn5, ne_dn6, Nat.reduceAdd, Nat.reduceEqDiff, Nat.reduceLT, Int.reduceNeg]
    exact ends_fwd (by repeat (first | exact Fwd.refl hS | assumption | refine Fwd.new ?_ _ | refine Fwd.put ?_ (by first | exact Nat.le_refl _ | exact Nat.le_succ _ | exact Nat.le_add_right _ _ | omega | (simp only [next_new, next_put]; omega)) _)) rfl ⟨rfl, _, _, _, rfl, by rw [hc]; simp only [validS, a0, a1, a2, a3, a4]; simp⟩
  simp only [go_sem, ne_up1, ne_dn1, ne_up2, ne_dn2, ne_up3, ne_dn3, ne_up4, ne_dn4, ne_up5, ne_dn5, ne_up6, ne_dn6, wrap_i64, Nat.reduceAdd, Nat.reduceEqDiff, Nat.reduceLT, Nat.reduceLeDiff, Int.reduceLE, Int.reduceNeg, Int.reduceAdd]
  refine wloop_round ?_
  simp only [go_sem, ne_up1, ne_up2, ne_up3, ne_up4, ne_up5, ne_up6, Nat.reduceEqDiff, Nat.reduceLT, Int.reduceLT, Int.reduceNeg]
  exact ends_fwd (by repeat (first | exact Fwd.refl hS | assumption | refine Fwd.new ?_ _ | refine Fwd.put ?_ (by first | exact Nat.le_refl _ | exact Nat.le_succ _ | exact Nat.le_add_right _ _ | omega | (simp only [next_new, next_put]; omega)) _)) rfl ⟨rfl, _, _, _, rfl, by simp only [validS, a0, a1, a2, a3, a4]; rfl⟩
theorem wc11 (h : Sized s) (S : St) : WC Tryz.prog 11 [.c (songV s)] (Is (.c (.bool (validS s))) S) S := by
  refine wc_fn (fn := Tryz.f11) (N := 14) (rs := [.tmp 2]) (by rfl) (by kernel_rfl) (by rfl) (by rfl) (by rfl) (by rfl) fun hS => ?_
  simp only [go_sem, ne_up1, Nat.reduceAdd, Nat.reduceLT, Nat.reduceLeDiff]
  refine (wc27 s h _).mono ?_
  rintro x T ⟨rfl, part, idx, code, rfl, hc⟩
  simp only [hc, go_sem, ne_up1, ne_up2, ne_up3, ne_up4, Nat.reduceEqDiff, Nat.reduceLT]
  exact ends_fwd (by repeat (first | exact Fwd.refl hS | assumption | refine Fwd.new ?_ _ | refine Fwd.put ?_ (by first | exact Nat.le_refl _ | exact Nat.le_succ _ | exact Nat.le_add_right _ _ | omega | (simp only [next_new, next_put]; omega)) _)) rfl ⟨rfl, rfl⟩
end
end Go.Proofs.YtgjnimemofmncaaGreatDoor

namespace Go.Proofs.YtgjnimemofmncaaGreatDoor
open Go.Abs Go.Tx
set_option maxHeartbeats 1000000
set_option maxRecDepth 20000
open Go.RowKit in
theorem wc34p (xs : List (List UInt8)) (sep : List UInt8) (S : St) (hlen : (Lib.join xs sep).length ≤ 140737488355328) (hN : xs.length ≤ 140737488355328) :
    WC Tryz.prog 34 [wordsV xs, .c (.str sep)] (Is (.c (.str (Lib.join xs sep))) S) S := by
  refine wc_calls (fun vals w => Tryz.call34 vals w) fun G vals w hr hI => ?_
  obtain ⟨x, y, rfl, hx, hy⟩ := relL_two hr
  rw [rel_str hy]
  have hnone : ∀ a c, xs = [] → Calls Tryz.prog 34 #[.slice a 0 c, .string ⟨sep.toArray⟩] w fun e w' => ∃ x, e = .returned x ∧ RelA G (.c (.str (Lib.join xs sep))) x ∧ Below w.heap.size w w' := by
    intro a c h
    subst h
    refine Calls.mono (Tryz.strings_Join_none a c ⟨sep.toArray⟩ w) ?_
    rintro e w' ⟨rfl, rfl⟩
    exact ⟨_, rfl, (show RelA G (.c (.str [])) (.string ⟨#[]⟩) from str_rel G []), Below.refl _ _⟩
  have hx := relA_c hx
  generalize hxs : xs.map FV.str = l at hx
  cases hx with
  | sl0 a cap => exact hnone _ _ (by simpa using hxs)
  | slN => exact hnone _ _ (by simpa using hxs)
  | sl _ g o s cap vals hs' hcap hF hR ho =>
    subst hxs
    rw [flatF_strs] at hF hR
    by_cases h0 : xs = []
    · subst h0
      exact hnone _ _ rfl
    have hmap : (xs.map fun x => (⟨x.toArray⟩ : ByteArray)).map (·.data.toList) = xs := by simp [List.map_map, Function.comp_def]
    have hcell : ∀ (j : Nat) (z : List UInt8), xs[j]? = some z → w.cell? ⟨g, o + j, none⟩ = some (.string ⟨z.toArray⟩) := by
      intro j z hj
      have h1 : (xs.map FV.str)[j]? = some (.str z) := by rw [List.getElem?_map, hj]; rfl
      have h2 := hI.cells _ _ _ (hF j _ h1)
      have h3 := hR j _ h1
      rw [h2]
      have := rel_str (G := G) (.c h3)
      rw [this]
    have hlt : g < w.heap.size := by
      cases xs with
      | nil => exact absurd rfl h0
      | cons z r => exact cell_lt (hcell 0 z rfl)
    have key := Tryz.strings_Join g o cap (xs.map fun x => (⟨x.toArray⟩ : ByteArray)) ⟨sep.toArray⟩ w (fun j x hj => by
        rw [List.getElem?_map] at hj
        cases hxj : xs[j]? with
        | none => rw [hxj] at hj; cases hj
        | some z =>
          rw [hxj] at hj
          cases hj
          exact hcell j z hxj) hlt (by simpa using hN) (by simpa using hcap) (by rw [hmap]; exact hlen)
    rw [List.length_map, hmap] at key
    rw [List.length_map]
    refine Calls.mono key ?_
    rintro e w' ⟨rfl, hbel⟩
    exact ⟨_, rfl, str_rel _ _, hbel⟩
def Wr (wb : Nat) (bs : List UInt8) (S : St) : Prop :=
  ∃ p v, S.get wb = some (.blk [p, v] 0 59) ∧ (p = .c .nilp ∨ p = .ref wb 0) ∧ ((v = .c .nils ∧ bs = []) ∨ ∃ bb, v = .sl bb 0 bs.length 1 false ∧ wb < bb ∧ S.get bb = some (.blk (byteCells bs) 0 5))
structure WKeep (wb : Nat) (S T : St) : Prop where
  next : S.next ≤ T.next
  spare : T.spare = S.spare
  known : T.known = S.known
  old : ∀ b, b < wb → T.get b = S.get b
  kept : ∀ b cs ro U, wb < b → S.get b = some (.blk cs ro U) → U ≠ 5 → T.get b = some (.blk cs ro U)
theorem WKeep.refl (wb : Nat) (S : St) : WKeep wb S S := ⟨Nat.le_refl _, rfl, rfl, fun _ _ => rfl, fun _ _ _ _ _ h _ => h⟩
theorem WKeep.trans {wb : Nat} {S T U : St} (h : WKeep wb S T) (k : WKeep wb T U) : WKeep wb S U :=
  ⟨Nat.le_trans h.next k.next, k.spare.trans h.spare, k.known.trans h.known, fun b hb => (k.old b hb).trans (h.old b hb), fun b cs ro U hb hg hU => k.kept b cs ro U hb (h.kept b cs ro U hb hg hU) hU⟩
theorem WKeep.new {wb : Nat} {S T : St} (h : WKeep wb S T) (hS : S.Wf) (hw : wb < S.next) (o : Ob) : WKeep wb S (T.new o) := by
  refine ⟨Nat.le_succ_of_le h.next, h.spare, h.known, fun b hb => ?_, fun b cs ro U hb hg hU => ?_⟩
  · rw [St.get_new, if_neg (by have := h.next; omega)]; exact h.old b hb
  · rw [St.get_new, if_neg (by have := h.next; have := hS b _ hg; omega)]; exact h.kept b cs ro U hb hg hU
theorem WKeep.putW {wb : Nat} {S T : St} (h : WKeep wb S T) (o : Ob) : WKeep wb S (T.put wb o) := by
  refine ⟨h.next, h.spare, h.known, fun b hb => ?_, fun b cs ro U hb hg hU => ?_⟩
  · rw [St.get_put, if_neg (by omega)]; exact h.old b hb
  · rw [St.get_put, if_neg (by omega)]; exact h.kept b cs ro U hb hg hU
theorem WKeep.put5 {wb c : Nat} {S T : St} (h : WKeep wb S T) {cs : List AV} {ro : Nat} (hc : T.get c = some (.blk cs ro 5)) (hw : wb < c) (o : Ob) : WKeep wb S (T.put c o) := by
  refine ⟨h.next, h.spare, h.known, fun b hb => ?_, fun b cs' ro' U hb hg hU => ?_⟩
  · rw [St.get_put, if_neg (by omega)]; exact h.old b hb
  · have := h.kept b cs' ro' U hb hg hU
    by_cases e : c = b
    · subst e
      rw [hc] at this
      cases this
      exact absurd rfl hU
    · rw [St.get_put, if_neg e]; exact this
theorem WKeep.putN {wb c : Nat} {S T : St} (h : WKeep wb S T) (hS : S.Wf) (hw : wb < S.next) (hc : S.next ≤ c) (o : Ob) : WKeep wb S (T.put c o) := by
  refine ⟨h.next, h.spare, h.known, fun b hb => ?_, fun b cs' ro' U hb hg hU => ?_⟩
  · rw [St.get_put, if_neg (by omega)]; exact h.old b hb
  · rw [St.get_put, if_neg (by have := hS b _ hg; omega)]; exact h.kept b cs' ro' U hb hg hU
def WrIs (wb : Nat) (bs : List UInt8) (v : AV) (S : St) (x : CX) (T : St) : Prop := x = .ret v ∧ Wr wb bs T ∧ WKeep wb S T
theorem put_self {S : St} {b : Nat} {o : Ob} (h : S.get b = some o) : S.put b o = S := by
  refine St.ext rfl (fun b' => ?_) rfl rfl
  rw [St.get_put]
  split
  · rename_i e; subst e; exact h.symm
  · rfl
theorem ce59 : Tryz.prog.cellsOf 59 = 2 := by kernel_rfl
theorem ro59 : rowAt Tryz.prog (sameLayout Tryz.prog Tryz.prog.depth · 57) Tryz.prog.depth 59 1 0 1 = true := by kernel_rfl
theorem ex112 : Ext0 Tryz.prog 112 Extern.AbiNoEscape.same := ⟨Tryz.f112, Tryz.func112, by kernel_rfl, by kernel_rfl, by kernel_rfl, by kernel_rfl⟩
theorem wc74 {wb : Nat} {p v : AV} {S : St} (hB : S.get wb = some (.blk [p, v] 0 59)) (hp : p = .c .nilp ∨ p = .ref wb 0) : WC Tryz.prog 74 [.ref wb 0] (Is (.tup []) (S.put wb (.blk [.ref wb 0, v] 0 59))) S := by
  refine wc_fn (fn := Tryz.f74) (N := 20) (rs := []) (by rfl) (by kernel_rfl) (by rfl) (by rfl) (by rfl) (by rfl) fun hS => ?_
  rcases hp with rfl | rfl
  · simp only [hB, go_sem, ne_up2, ne_up3, ne_up4, ne_up5, ne_up6, Nat.reduceAdd, Nat.reduceEqDiff, Nat.reduceLT]
    refine wc_is (wc_same ex112 _ _) ?_
    simp only [hB, ce59, ro59, go_sem, ne_up1, ne_up2, ne_up3, ne_up4, Nat.reduceAdd, Nat.reduceLT, Nat.reduceLeDiff]
    exact ends_now ⟨rfl, rfl⟩
  · simp only [hB, go_sem, ne_up1, ne_up2, ne_up3, ne_up4, ne_up5, ne_up6, Nat.reduceAdd, Nat.reduceEqDiff, Nat.reduceLT]
    refine ends_now ⟨rfl, ?_⟩
    rw [put_self hB]
    rfl
theorem t5b : Tryz.t5.bytes = 1 := rfl
theorem t5s : Tryz.t5.size = 1 := rfl
theorem t5z : Tryz.t5.zero = some (.int .u8 0) := rfl
theorem size_one {α : Type} (a : α) : (#[a] : Array α).size = 1 := rfl
theorem wc38 {wb : Nat} {bs s : List UInt8} {S : St} (h : Wr wb bs S) (hl : bs.length + s.length ≤ maxLenA) : WC Tryz.prog 38 [.ref wb 0, str s] (WrIs wb (bs ++ s) (.tup [i64 s.length, .c .nili]) S) S := by
  obtain ⟨p, v, hB, hp, hv⟩ := h
  refine wc_fn (fn := Tryz.f38) (N := 19) (rs := [.tmp 4, .tmp 5]) (by rfl) (by kernel_rfl) (by rfl) (by rfl) (by rfl) (by rfl) fun hS => ?_
  have hw := hS.1 wb _ hB
  simp only [go_sem, ne_up4, ne_up5, Nat.reduceAdd, Nat.reduceLT]
  refine wc_is (wc74 hB hp) ?_
  have hlen : (byteCells s).length = s.length := byteCells_length s
  have hsl : s.length ≤ 140737488355328 := by simp only [maxLenA] at hl; omega
  rcases hv with ⟨rfl, rfl⟩ | ⟨bb, rfl, hlt, hbb⟩
  · by_cases h0 : s.length = 0
    · have hs : s = [] := List.eq_nil_of_length_eq_zero h0
      have hbs : byteCells s = [] := by rw [hs]; rfl
      have e0 : ((s.length : Nat) : Int) = 0 := by rw [h0]; rfl
      simp only [hB, h0, hbs, t5b, t5s, t5z, size_one, List.length_nil, Nat.zero_mul, Option.map_some, go_sem, maxLenA, put_put, ne_up1, ne_dn1, ne_up2, ne_up3, ne_up4, ne_up5, ne_up6, Int.cast_ofNat_Int, Nat.reduceAdd, Nat.reduceEqDiff, Nat.reduceLT, Nat.reduceLeDiff]
      refine ends_now ⟨rfl, ⟨.ref wb 0, .c .nils, ?_, .inr rfl, .inl ⟨rfl, by rw [hs]⟩⟩, ((WKeep.refl wb S).putW _)⟩
      rw [St.get_put, if_pos rfl]
    · have hne : (S.next = wb) = False := by simp; omega
      have hne' : (wb = S.next) = False := by simp; omega
      simp only [hB, hlen, h0, hsl, hne, t5b, t5s, t5z, size_one, Option.map_some, Nat.mul_one, go_sem, maxLenA, ne_up1, ne_dn1, ne_up2, ne_up3, ne_up4, ne_up5, ne_up6, Nat.reduceAdd, Nat.reduceEqDiff, Nat.reduceLT, Nat.reduceLeDiff]
      refine ends_now ⟨rfl, ⟨.ref wb 0, .sl S.next 0 s.length 1 false, ?_, .inr rfl, .inr ⟨S.next, rfl, hw, ?_⟩⟩, (((WKeep.refl wb S).putW _).new hS.1 hw _).putW _⟩
      · rw [St.get_put, if_pos rfl]
      · rw [St.get_put, if_neg (by omega), St.get_new]; exact if_pos rfl
  · have hbbn := hS.1 bb _ hbb
    have hlb : (byteCells bs).length = bs.length := byteCells_length bs
    have n1 : (wb = bb) = False := by simp; omega
    have n2 : (bb = wb) = False := by simp; omega
    by_cases h0 : s.length = 0
    · have hs : s = [] := List.eq_nil_of_length_eq_zero h0
      have hbs : byteCells s = [] := by rw [hs]; rfl
      simp only [hB, hbb, n1, h0, hbs, t5b, t5s, t5z, size_one, List.length_nil, Nat.zero_mul, Option.map_some, go_sem, maxLenA, put_put, ne_up1, ne_dn1, ne_up2, ne_up3, ne_up4, ne_up5, ne_up6, Int.cast_ofNat_Int, Nat.reduceAdd, Nat.reduceSub, Nat.reduceEqDiff, Nat.reduceLT, Nat.reduceLeDiff]
      refine ends_now ⟨rfl, ⟨.ref wb 0, .sl bb 0 bs.length 1 false, ?_, .inr rfl, .inr ⟨bb, by rw [hs, List.append_nil], hlt, ?_⟩⟩, ((WKeep.refl wb S).putW _)⟩
      · rw [St.get_put, if_pos rfl]
      · rw [St.get_put, if_neg (by omega), hs, List.append_nil]; exact hbb
    · have hne : (S.next = wb) = False := by simp; omega
      have hne' : (wb = S.next) = False := by simp; omega
      have hl2 : bs.length + s.length ≤ 140737488355328 := by simpa [maxLenA] using hl
      have hl3 : ¬ (bs.length + s.length ≤ bs.length) := by omega
      have htk : (byteCells bs).take bs.length = byteCells bs := List.take_of_length_le (by omega)
      simp only [hB, hbb, n1, n2, hlen, hlb, h0, hl2, hl3, htk, hne, t5b, t5s, t5z, size_one, Option.map_some, Nat.mul_one, Nat.zero_add, Nat.zero_le, Nat.le_refl, List.drop_zero, go_sem, maxLenA, ne_up1, ne_dn1, ne_up2, ne_up3, ne_up4, ne_up5, ne_up6, Nat.reduceAdd, Nat.reduceSub, Nat.reduceEqDiff, Nat.reduceLT]
      have hcat : byteCells bs ++ byteCells s = byteCells (bs ++ s) := by simp [byteCells]
      refine ends_now ⟨rfl, ⟨.ref wb 0, .sl S.next 0 (bs.length + s.length) 1 false, ?_, .inr rfl, .inr ⟨S.next, by rw [List.length_append], hw, ?_⟩⟩, ((((WKeep.refl wb S).putW _).put5 (c := bb) (ro := 0) (cs := byteCells bs) ?_ hlt _).new hS.1 hw _).putW _⟩
      · rw [St.get_put, if_pos rfl]
      · rw [St.get_put, if_neg (by omega), St.get_new, ← hcat]; exact if_pos rfl
      · rw [St.get_put, if_neg (by omega)]; exact hbb
theorem wc17 {wb : Nat} {bs : List UInt8} {S : St} (h : Wr wb bs S) : WC Tryz.prog 17 [.ref wb 0] (Is (i64 bs.length) S) S := by
  obtain ⟨p, v, hB, hp, hv⟩ := h
  refine wc_fn (fn := Tryz.f17) (N := 8) (rs := [.tmp 2]) (by rfl) (by kernel_rfl) (by rfl) (by rfl) (by rfl) (by rfl) fun hS => ?_
  rcases hv with ⟨rfl, rfl⟩ | ⟨bb, rfl, hlt, hbb⟩
  · simp only [hB, go_sem, ne_up2, Int.cast_ofNat_Int, Nat.reduceAdd, Nat.reduceLT]
    exact ends_now ⟨rfl, rfl⟩
  · simp only [hB, go_sem, ne_up2, Nat.reduceAdd, Nat.reduceLT]
    exact ends_now ⟨rfl, rfl⟩
theorem ce5 : Tryz.prog.cellsOf 5 = 1 := by kernel_rfl
theorem bytesOf_cells : ∀ (l : List UInt8), bytesOf (byteCells l) = some l
  | [] => rfl
  | x :: r => by
    have : byteCells (x :: r) = .c (.int .u8 x.toNat) :: byteCells r := rfl
    rw [this, bytesOf, bytesOf_cells r]
    simp
theorem wc18 {wb : Nat} {bs : List UInt8} {S : St} (h : Wr wb bs S) (h0 : 0 < bs.length) (hl : bs.length ≤ maxLenA) :
    WC Tryz.prog 18 [.ref wb 0] (fun x T => x = .ret (str bs) ∧ ∃ bb, wb < bb ∧ T = S.put bb .dead) S := by
  obtain ⟨p, v, hB, hp, hv⟩ := h
  refine wc_fn (fn := Tryz.f18) (N := 14) (rs := [.tmp 2]) (by rfl) (by kernel_rfl) (by rfl) (by rfl) (by rfl) (by rfl) fun hS => ?_
  rcases hv with ⟨rfl, rfl⟩ | ⟨bb, rfl, hlt, hbb⟩
  · exact absurd h0 (by simp)
  · have hlb : (byteCells bs).length = bs.length := byteCells_length bs
    have htk : (byteCells bs).take bs.length = byteCells bs := List.take_of_length_le (by omega)
    have hl2 : (bs.length : Int) ≤ 140737488355328 := by simp only [maxLenA] at hl; omega
    have h1 : (0 : Int) < (bs.length : Int) := by omega
    have hb := bytesOf_cells bs
    have n2 : (bb = wb) = False := by simp; omega
    simp only [go_sem, Nat.reduceAdd, Nat.reduceLT]
    refine wdraw_plan ch18x1 pp18x1 (by kernel_rfl) (by kernel_rfl) (by kernel_rfl) ?_
    simp only [hB, hbb, h0, h1, hl2, hlb, htk, hb, n2, ce5, aUnsafeString, Int.toNat_natCast, Nat.le_refl, Option.map_some, go_sem, ne_up1, ne_up2, ne_up3, ne_dn3, ne_up4, ne_dn4, ne_up5, ne_dn5, ne_up6, Option.some.injEq, Nat.reduceAdd, Nat.reduceEqDiff, Nat.reduceLT]
    exact ends_now ⟨rfl, bb, hlt, rfl⟩
end Go.Proofs.YtgjnimemofmncaaGreatDoor

namespace Go.Proofs.YtgjnimemofmncaaGreatDoor
open Go.Abs Go.Tx
set_option maxHeartbeats 1000000
set_option maxRecDepth 20000
abbrev strC (x : List UInt8) : AV := .c (.str x)
theorem allPure_c (l : List FV) : allPure (l.map .c) = some l := by
  induction l with
  | nil => rfl
  | cons x r ih => simp [allPure, ih]
theorem unflat_plain : ∀ (l : List FV), unflat false 1 l.length l = l
  | [] => rfl
  | x :: r => by
    have := unflat_plain r
    simp only [List.length_cons, unflat, cond_false, List.headD_cons]
    rw [show (x :: r).drop 1 = r from rfl, this]
theorem frz_plain {b : Nat} {l : List FV} {S : St} {ro : Nat} {T : TypeId} (hT : isAggT Tryz.prog T = some false) (hs : szT Tryz.prog T = some 1) (h : S.get b = some (.blk (l.map .c) ro T)) :
    freezeRow Tryz.prog b 0 l.length 1 S = some (.sl l) := by
  unfold freezeRow
  rw [h]
  simp only [hT, hs, allPure_c, List.length_map, Nat.mul_one, Nat.zero_add, Nat.le_refl, implies_true, and_self, if_true, List.drop_zero, unflat_plain]
theorem t9b : Tryz.t9.bytes = 16 := rfl
theorem t9s : Tryz.t9.size = 1 := rfl
theorem t9z : Tryz.t9.zero = some (.string .empty) := rfl
theorem t3b : Tryz.t3.bytes = 8 := rfl
theorem t3s : Tryz.t3.size = 1 := rfl
theorem t3z : Tryz.t3.zero = some (.int .i64 0) := rfl
def I64 (n : Int) : Prop := -9223372036854775808 ≤ n ∧ n ≤ 9223372036854775807
theorem repCells_one (n : Nat) (a : AV) : repCells n [a] = List.replicate n a := by
  induction n with
  | zero => rfl
  | succ n ih => simp [repCells, ih, List.replicate_succ]
def numC (l : List Int) (i : Nat) : List AV := (((l.take i).map Lib.itoa).map strC) ++ List.replicate (l.length - i) (strC [])
theorem numC_length (l : List Int) (i : Nat) (h : i ≤ l.length) : (numC l i).length = l.length := by
  simp [numC]; omega
theorem numC_step (l : List Int) (i : Nat) (h : i < l.length) : setRange (numC l i) i [strC (Lib.itoa l[i])] = numC l (i + 1) := by
  unfold setRange numC
  have h1 : (((l.take i).map Lib.itoa).map strC).length = i := by simp; omega
  rw [List.take_append_of_le_length (by omega), List.take_of_length_le (by omega), List.drop_append, h1]
  have h2 : i + [strC (Lib.itoa l[i])].length - i = 1 := by simp
  rw [h2, List.drop_of_length_le (by simp; omega), List.nil_append, List.drop_replicate]
  have h3 : l.take (i + 1) = l.take i ++ [l[i]] := by rw [List.take_add_one]; simp [h]
  rw [h3, List.map_append, List.map_append]
  simp
  omega
theorem numC_step' (l : List Int) (i : Nat) (h : i < l.length) : (numC l i).take i ++ [strC (Lib.itoa l[i])] ++ (numC l i).drop (i + 1) = numC l (i + 1) := numC_step l i h
theorem wc35 {m : Int} {S : St} (hk : S.known = KN m) (l : List Int) (hl : ∀ n ∈ l, I64 n) (hn : l.length ≤ 1000000000) : WC Tryz.prog 35 [.c (intsV l)] (Is (wordsV (l.map Lib.itoa)) S) S := by
  have hsz : allSize 1 (l.map intV) = true := allSize_map (s := 1) intV (fun _ => rfl) l
  have q1 : (0 : Int) ≤ (l.length : Int) := by omega
  have q2 : l.length * 16 ≤ 140737488355328 := by omega
  refine wc_fn (fn := Tryz.f35) (N := 22) (rs := [.tmp 2]) (by rfl) (by kernel_rfl) (by rfl) (by rfl) (by rfl) (by rfl) fun hS => ?_
  simp only [List.length_map, q1, q2, t9b, t9s, Int.toNat_natCast, Int.toNat_zero, go_sem, maxLenA, ne_up2, ne_up3, ne_up6, Nat.reduceAdd, Nat.reduceEqDiff, Nat.reduceLT, Int.reduceLE]
  rw [repCells_one]
  refine wloop_meas (fun m e S' => ∃ (i : Nat) (full : Bool), m = l.length - i ∧ i ≤ l.length ∧ Fwd S S' ∧ S.next < S'.next ∧ S'.get S.next = some (.blk (numC l i) 0 9) ∧ (i < l.length → full = false) ∧ e.get 3 = .sl S.next 0 i 1 full ∧ e.get 9 = .c (intsV l) ∧ e.get 10 = i64 l.length ∧ e.get 11 = i64 i) ?_ l.length _ _ ?_
  · rintro m' e S' ⟨i, full, rfl, hi, hF, hlt', hB, hfull, g3, g9, g10, g11⟩
    rcases Nat.lt_or_ge i l.length with hlt | hge
    · have h1 : ((i : Int) < (l.length : Int)) := by omega
      have h2 : ¬ ((i : Int) < 0) := by omega
      have h3 : (l.map intV)[i]? = some (intV l[i]) := by simp [hlt]
      have h5 := step_wrap i (by omega)
      have hne : (S'.next = S.next) = False := by simp; omega
      have hk' : S'.known = KN m := by rw [hF.known]; exact hk
      have hr := hl l[i] (List.getElem_mem hlt)
      have z1 : (i + 1) * 16 ≤ 140737488355328 := by omega
      have z2 : i + 1 ≤ l.length := by omega
      have z3 : (numC l i).length = l.length := numC_length l i hi
      have z4 := numC_step' l i hlt
      have z5 : i ≤ l.length := hi
      rw [hfull hlt] at g3
      simp only [g3, g9, g10, g11, h1, h2, h3, hlt, hsz, List.length_map, Int.toNat_natCast, Option.map_some, go_sem, ne_up1, ne_up2, ne_up3, Nat.reduceEqDiff, Nat.reduceLT]
      refine wc_is (wc32 hk' _ hr.1 hr.2) ?_
      simp only [g9, g10, g11, hne, hB, t9b, t9s, t9z, size_one, z1, z2, z3, z4, z5, h5, Nat.mul_one, Nat.zero_add, Nat.zero_le, Option.map_some, go_sem, maxLenA, ne_up1, ne_up2, ne_up3, ne_up4, ne_dn4, ne_up5, ne_dn5, ne_up6, ne_dn6, Option.some.injEq, Nat.reduceSub, Nat.reduceEqDiff, Nat.reduceLT, Nat.reduceLeDiff]
      exact ⟨l.length - (i + 1), by omega, i + 1, false, rfl, by omega, (hF.new _).put (Nat.le_refl _) _, by omega, rfl, fun _ => rfl, rfl, rfl⟩
    · have h1 : ¬ ((i : Int) < (l.length : Int)) := by omega
      have hi' : i = l.length := by omega
      subst hi'
      simp only [g3, g10, g11, h1, go_sem, Nat.reduceEqDiff, Nat.reduceLT]
      have hc : numC l l.length = ((l.map Lib.itoa).map FV.str).map .c := by
        simp only [numC, List.take_length, Nat.sub_self, List.replicate_zero, List.append_nil, List.map_map]
        rfl
      have hlen : ((l.map Lib.itoa).map FV.str).length = l.length := by simp
      refine ends_fwd_row hF hB ag9 sz9 (by rw [hc]; exact allPure_c _) (by rw [numC_length l _ (Nat.le_refl _)]; omega) (fun _ => rfl) (Nat.le_refl _) ⟨?_, rfl⟩
      rw [List.drop_zero]
      have := unflat_plain ((l.map Lib.itoa).map FV.str)
      rw [hlen] at this
      rw [this]
  · exact ⟨0, _, rfl, Nat.zero_le _, (Fwd.refl hS).new _, Nat.lt_succ_self _, by rw [St.get_new, if_pos rfl]; simp [numC], fun h => decide_eq_false (by omega), rfl, by simp only [go_sem, ne_up1, ne_up2], by simp only [go_sem, ne_up1], by simp only [go_sem, Int.cast_ofNat_Int]⟩
theorem itoa_le {n : Int} (h : I64 n) : (Lib.itoa n).length ≤ 21 := Lib.itoa_length_le n h.1 h.2
theorem wc36 {m : Int} {S : St} (hk : S.known = KN m) (a b : Int) (ha : I64 a) (hb : I64 b) : WC Tryz.prog 36 [i64 a, i64 b] (Is (str (pairT (a, b))) S) S := by
  have la := itoa_le ha
  have lb := itoa_le hb
  have q1 : (Lib.itoa a).length + 1 ≤ 140737488355328 := by omega
  have q2 : (Lib.itoa a).length + 1 + (Lib.itoa b).length ≤ 140737488355328 := by omega
  refine wc_fn (fn := Tryz.f36) (N := 11) (rs := [.tmp 4]) (by rfl) (by kernel_rfl) (by rfl) (by rfl) (by rfl) (by rfl) fun hS => ?_
  simp only [go_sem, ne_up4, Nat.reduceAdd, Nat.reduceLT]
  refine wc_is (wc32 hk _ ha.1 ha.2) ?_
  simp only [q1, List.length_cons, List.length_nil, Nat.zero_add, go_sem, maxLenA, ne_dn1, ne_up3, ne_up4, ne_up5, ne_up6, Nat.reduceLT]
  refine wc_is (wc32 hk _ hb.1 hb.2) ?_
  simp only [q2, List.length_append, List.length_cons, List.length_nil, Nat.zero_add, go_sem, maxLenA, ne_up1, ne_up2, Nat.reduceLT]
  refine ends_now ⟨?_, rfl⟩
  simp [pairT]
theorem wc_wr {wb : Nat} {bs : List UInt8} {v : AV} {S S0 : St} {f : FuncId} {args : List AV} {K : CX → St → Prop} (h : WC Tryz.prog f args (WrIs wb bs v S0) S)
    (k : ∀ T, Wr wb bs T → WKeep wb S0 T → K (.ret v) T) : WC Tryz.prog f args K S :=
  h.mono fun x T ⟨e, h1, h2⟩ => by subst e; exact k T h1 h2
theorem wc16 {wb : Nat} {bs : List UInt8} {S : St} (h : Wr wb bs S) (xs : List (List UInt8)) (hl : bs.length + ((jw xs).length + 1) ≤ maxLenA) (hN : xs.length ≤ maxLenA) :
    WC Tryz.prog 16 [.ref wb 0, wordsV xs] (WrIs wb (bs ++ (jw xs ++ [10])) (.tup []) S) S := by
  have q1 : (Lib.join xs [32]).length + 1 ≤ 140737488355328 := by simp only [maxLenA, jw] at hl; omega
  refine wc_fn (fn := Tryz.f16) (N := 11) (rs := []) (by rfl) (by kernel_rfl) (by rfl) (by rfl) (by rfl) (by rfl) fun hS => ?_
  simp only [go_sem, Nat.reduceAdd]
  refine wdraw_plan ch16x0 pp16x0 (by kernel_rfl) (by kernel_rfl) (by kernel_rfl) ?_
  simp only [go_sem, ne_dn1, ne_up3, ne_up4, ne_up5, Nat.reduceAdd, Nat.reduceLT]
  refine ⟨_, wc34p xs [32] _ (by omega) hN, ?_⟩
  simp only [q1, List.length_cons, List.length_nil, Nat.zero_add, go_sem, maxLenA, ne_up1, ne_up2, ne_up3, Nat.reduceLT]
  refine wc_wr (wc38 h (s := Lib.join xs [32] ++ [10]) (by simpa [jw, Nat.add_assoc] using hl)) fun T hW hK => ?_
  simp only [go_sem]
  refine ends_now ⟨rfl, ?_, hK⟩
  simpa [jw] using hW
theorem Wr.put {wb b : Nat} {bs : List UInt8} {S : St} (h : Wr wb bs S) {cs : List AV} {ro : Nat} {U : TypeId} (hb : S.get b = some (.blk cs ro U)) (h1 : U ≠ 59) (h2 : U ≠ 5) (o : Ob) : Wr wb bs (S.put b o) := by
  obtain ⟨p, v, hB, hp, hv⟩ := h
  have n1 : b ≠ wb := fun e => by subst e; rw [hB] at hb; cases hb; exact h1 rfl
  refine ⟨p, v, by rw [St.get_put, if_neg n1]; exact hB, hp, ?_⟩
  rcases hv with h | ⟨bb, hv, hlt, hbb⟩
  · exact .inl h
  · have n2 : b ≠ bb := fun e => by subst e; rw [hbb] at hb; cases hb; exact h2 rfl
    exact .inr ⟨bb, hv, hlt, by rw [St.get_put, if_neg n2]; exact hbb⟩
theorem Wr.new {wb : Nat} {bs : List UInt8} {S : St} (h : Wr wb bs S) (hS : S.Wf) (o : Ob) : Wr wb bs (S.new o) := by
  obtain ⟨p, v, hB, hp, hv⟩ := h
  have w1 := hS wb _ hB
  refine ⟨p, v, by rw [St.get_new, if_neg (by omega)]; exact hB, hp, ?_⟩
  rcases hv with h | ⟨bb, hv, hlt, hbb⟩
  · exact .inl h
  · have w2 := hS bb _ hbb
    exact .inr ⟨bb, hv, hlt, by rw [St.get_new, if_neg (by omega)]; exact hbb⟩
theorem Wr.lt {wb : Nat} {bs : List UInt8} {S : St} (h : Wr wb bs S) (hS : S.Wf) : wb < S.next := by
  obtain ⟨p, v, hB, hp, hv⟩ := h
  exact hS wb _ hB
theorem wc16r {wb b : Nat} {bs : List UInt8} {S : St} (h : Wr wb bs S) (xs : List (List UInt8)) {ro n : Nat} {full : Bool} (hb : S.get b = some (.blk (xs.map strC) ro 9)) (hx : n = xs.length) (hl : bs.length + ((jw xs).length + 1) ≤ maxLenA) (hN : xs.length ≤ maxLenA) :
    WC Tryz.prog 16 [.ref wb 0, .sl b 0 n 1 full] (WrIs wb (bs ++ (jw xs ++ [10])) (.tup []) (S.put b .dead)) S := by
  subst hx
  have hb' : S.get b = some (.blk ((xs.map FV.str).map .c) ro 9) := by rw [hb, List.map_map]; rfl
  have hf := frz_plain ag9 sz9 hb'
  rw [List.length_map] at hf
  exact wc_frz (k := 1) hf rfl rfl (wc16 (h.put hb (by decide) (by decide) _) xs hl hN)
theorem flat_strs (l : List (List UInt8)) : Abs.flat (l.map .str) = l.map strC := by
  rw [flat_eq, flatF_strs, List.map_map]; rfl
theorem wc30 {m : Int} {wb : Nat} {bs w : List UInt8} {S : St} (hk : S.known = KN m) (h : Wr wb bs S) (l : List Int) (hi : ∀ n ∈ l, I64 n) (hn : l.length ≤ 1000000000) (hl : bs.length + ((jw (w :: l.map Lib.itoa)).length + 1) ≤ maxLenA) :
    WC Tryz.prog 30 [.ref wb 0, str w, .c (intsV l)] (WrIs wb (bs ++ (jw (w :: l.map Lib.itoa) ++ [10])) (.tup []) S) S := by
  refine wc_fn (fn := Tryz.f30) (N := 13) (rs := []) (by rfl) (by kernel_rfl) (by rfl) (by rfl) (by rfl) (by rfl) fun hS => ?_
  have hk1 : ∀ o, (S.new o).known = KN m := fun _ => hk
  simp only [go_sem, ne_dn1, ne_dn2, ne_up4, ne_up5, ne_up6, Nat.reduceAdd, Nat.reduceMul, Nat.reduceLT, Nat.reduceLeDiff]
  refine wc_is (wc35 (hk1 _) l hi hn) ?_
  have hw := h.lt hS.1
  have hne : (S.next = wb) = False := by simp; omega
  have hsz : allSize 1 ((l.map Lib.itoa).map FV.str) = true := allSize_strs _
  have hN : (w :: l.map Lib.itoa).length ≤ maxLenA := by simp [maxLenA]; omega
  by_cases h0 : l.length = 0
  · have hl0 : l = [] := List.eq_nil_of_length_eq_zero h0
    subst hl0
    simp only [t9b, t9s, t9z, size_one, Option.map_some, Nat.mul_one, Nat.zero_add, Nat.zero_le, List.drop_zero, List.map_nil, List.length_nil, allSize, Abs.flat, go_sem, maxLenA, ne_up1, ne_up2, ne_up3, ne_up4, ne_up5, Nat.reduceAdd, Nat.reduceSub, Nat.reduceMul, Nat.reduceEqDiff, Nat.reduceLT, Nat.reduceLeDiff]
    refine wc_wr (wc16r (h.new hS.1 _) [w] (by rw [St.get_new]; exact if_pos rfl) rfl hl hN) fun T hW hK => ?_
    simp only [go_sem]
    exact ends_now ⟨rfl, hW, (((WKeep.refl wb S).new hS.1 hw _).putN hS.1 hw (Nat.le_refl _) _).trans hK⟩
  · have z1 : (1 + l.length) * 16 ≤ 140737488355328 := by omega
    simp only [hsz, h0, z1, t9b, t9s, t9z, size_one, flat_strs, Option.map_some, List.length_map, Nat.mul_one, Nat.zero_add, List.take, List.drop_zero, go_sem, maxLenA, ne_up1, ne_up2, ne_up3, ne_up4, ne_up5, Nat.reduceSub, Nat.reduceEqDiff, Nat.reduceLT, Nat.reduceLeDiff]
    refine wc_wr (wc16r ((h.new hS.1 _).new (wf_new hS.1) _) (w :: l.map Lib.itoa) (by rw [St.get_new]; exact if_pos rfl) (by rw [List.length_cons, List.length_map]; omega) hl hN) fun T hW hK => ?_
    simp only [go_sem]
    exact ends_now ⟨rfl, hW, ((((WKeep.refl wb S).new hS.1 hw _).new hS.1 hw _).putN hS.1 hw (Nat.le_succ _) _).trans hK⟩
end Go.Proofs.YtgjnimemofmncaaGreatDoor

namespace Go.Proofs.YtgjnimemofmncaaGreatDoor
open Go.Abs Go.Tx
set_option maxHeartbeats 1000000
set_option maxRecDepth 20000
abbrev linV (ls : List (List UInt8)) : FV := .sl (ls.map .str)
abbrev rdO (ls : List (List UInt8)) (i : Nat) (song : List AV) : Ob := .blk (rdC (linV ls) i song) 0 74
theorem moreL_drop (ls : List Bs) (k : Nat) (h : k < ls.length) : moreL (ls.drop k) k = if ignored ls[k] then moreL (ls.drop (k + 1)) (k + 1) else (some ls[k], k + 1) := by
  rw [List.drop_eq_getElem_cons h, moreL]
theorem moreL_end (ls : List Bs) (k : Nat) (h : ls.length ≤ k) : moreL (ls.drop k) k = (none, k) := by
  rw [List.drop_eq_nil_of_le h, moreL]
theorem moreL_le : ∀ (l : List Bs) (k : Nat), k ≤ (moreL l k).2 ∧ (moreL l k).2 ≤ k + l.length
  | [], k => by simp [moreL]
  | x :: r, k => by
    rw [moreL]
    split
    · have := moreL_le r (k + 1)
      simp only [List.length_cons]; omega
    · simp
theorem moreL_some : ∀ (l : List Bs) (k : Nat) (x : Bs), (moreL l k).1 = some x → k < (moreL l k).2 ∧ x ∈ l
  | [], k, x, h => by simp [moreL] at h
  | y :: r, k, x, h => by
    rw [moreL] at h ⊢
    split at h
    · rename_i hy
      rw [if_pos hy]
      have := moreL_some r (k + 1) x h
      exact ⟨by omega, List.mem_cons_of_mem _ this.2⟩
    · rename_i hy
      rw [if_neg hy]
      simp only [Option.some.injEq] at h
      subst h
      exact ⟨by simp, by simp⟩
variable {S : St} {rb i : Nat} {ls : List (List UInt8)} {song : List AV}
theorem wc23 (hr : S.get rb = some (rdO ls i song)) (hi : i ≤ ls.length) (hls : ls.length ≤ 1000000000) :
    WC Tryz.prog 23 [.ref rb 0] (fun x T => T = S.put rb (rdO ls (moreL (ls.drop i) i).2 song) ∧ x = .ret (.tup [str ((moreL (ls.drop i) i).1.getD []), boolV ((moreL (ls.drop i) i).1.isSome)])) S := by
  have hsz : allSize 1 (ls.map FV.str) = true := allSize_strs _
  refine wc_fn (fn := Tryz.f23) (N := 37) (rs := [.tmp 2, .tmp 3]) (by rfl) (by kernel_rfl) (by rfl) (by rfl) (by rfl) (by rfl) fun hS => ?_
  have hlt := hS.1 rb _ hr
  simp only [go_sem, Nat.reduceAdd, Nat.reduceLT]
  refine wloop_meas (fun m' e S' => ∃ k : Nat, m' = ls.length - k ∧ i ≤ k ∧ k ≤ ls.length ∧ S' = S.put rb (rdO ls k song) ∧ e.get 0 = .ref rb 0 ∧ moreL (ls.drop k) k = moreL (ls.drop i) i) ?_ (ls.length - i) _ _ ?_
  · rintro m' e S' ⟨k, rfl, hk, hk2, rfl, g0, hm⟩
    have hg : (S.put rb (rdO ls k song)).get rb = some (rdO ls k song) := by rw [St.get_put]; exact if_pos rfl
    refine wdraw_plan ch23x1 pp23x1 (by kernel_rfl) (by kernel_rfl) (by kernel_rfl) ?_
    rcases Nat.lt_or_ge k ls.length with hlt' | hge
    · have h1 : ((k : Int) < (ls.length : Int)) := by omega
      have h5 := step_wrap k (by omega)
      have h6 : IntKind.i64.wrap (((k + 1 : Nat) : Int) - 1) = (k : Int) := by rw [wrap_i64 _ (by omega) (by omega)]; omega
      have h2 : ¬ ((k : Int) < 0) := by omega
      have h3 : (ls.map FV.str)[k]? = some (.str ls[k]) := by simp [hlt']
      simp only [g0, hg, h1, h5, List.length_map, go_sem, put_put, ne_up1, ne_up2, ne_up3, ne_up4, ne_up5, ne_up6, Nat.reduceAdd, Nat.reduceEqDiff, Nat.reduceLT, Nat.reduceLeDiff]
      refine wdraw_plan ch23x3 pp23x3 (by kernel_rfl) (by kernel_rfl) (by kernel_rfl) ?_
      simp only [g0, h6, h2, h3, hlt', hsz, List.length_map, Int.toNat_natCast, Option.map_some, go_sem, ne_up1, ne_up2, ne_up3, ne_up4, ne_up5, ne_up6, Nat.reduceAdd, Nat.reduceEqDiff, Nat.reduceLT]
      refine wc_is (wc55 _ _) ?_
      rw [moreL_drop ls k hlt'] at hm
      cases hig : ignored ls[k] with
      | true =>
        rw [hig, if_pos rfl] at hm
        simp only [g0, go_sem, ne_up4, ne_up5, ne_up6, Nat.reduceEqDiff, Nat.reduceLT]
        exact ⟨ls.length - (k + 1), by omega, k + 1, rfl, by omega, by omega, rfl, hm⟩
      | false =>
        rw [hig, if_neg (by simp)] at hm
        simp only [go_sem, ne_up1, Nat.reduceEqDiff, Nat.reduceLT]
        refine ends_now ⟨?_, ?_⟩
        · rw [← hm]
        · rw [← hm]; rfl
    · have h1 : ¬ ((k : Int) < (ls.length : Int)) := by omega
      rw [moreL_end ls k hge] at hm
      simp only [g0, hg, h1, List.length_map, go_sem, ne_up1, ne_up2, ne_up3, ne_up4, ne_up5, ne_up6, Nat.reduceAdd, Nat.reduceEqDiff, Nat.reduceLT]
      refine ends_now ⟨?_, ?_⟩
      · rw [← hm]
      · rw [← hm]; rfl
  · exact ⟨i, rfl, Nat.le_refl _, hi, (put_self hr).symm, by simp only [go_sem, ne_up2, ne_up3], rfl⟩
theorem wc44 (hr : S.get rb = some (rdO ls i song)) (hi : i ≤ ls.length) (hls : ls.length ≤ 1000000000) :
    WC Tryz.prog 44 [.ref rb 0] (fun x T => T = S.put rb (rdO ls (moreL (ls.drop i) i).2 song) ∧ x = (match (moreL (ls.drop i) i).1 with | some l => .ret (str l) | none => .panic (stopV 12 ls.length))) S := by
  refine wc_fn (fn := Tryz.f44) (N := 24) (rs := [.tmp 2]) (by rfl) (by kernel_rfl) (by rfl) (by rfl) (by rfl) (by rfl) fun hS => ?_
  have hg : (S.put rb (rdO ls (moreL (ls.drop i) i).2 song)).get rb = some (rdO ls (moreL (ls.drop i) i).2 song) := by rw [St.get_put]; exact if_pos rfl
  simp only [go_sem, ne_up2, Nat.reduceAdd, Nat.reduceLT]
  refine (wc23 hr hi hls).mono ?_
  rintro x T ⟨rfl, rfl⟩
  cases hm : (moreL (ls.drop i) i).1 with
  | none =>
    simp only [hg, Option.getD, Option.isSome, List.length_map, go_sem, ne_up1, ne_up2, ne_up3, ne_up4, ne_up5, ne_up6, mkIface, Nat.reduceAdd, Nat.reduceEqDiff, Nat.reduceLT, Nat.reduceLeDiff]
    first | done | exact ⟨rfl, rfl⟩ | exact ends_now ⟨rfl, rfl⟩
  | some l =>
    simp only [Option.getD, Option.isSome, go_sem, ne_up1, ne_up5, Nat.reduceEqDiff, Nat.reduceLT]
    exact ends_now ⟨rfl, rfl⟩
variable {S0 : St} {L : List (Nat × Ob)}
end Go.Proofs.YtgjnimemofmncaaGreatDoor

namespace Go.Proofs.YtgjnimemofmncaaGreatDoor
open Go.Abs Go.Tx
set_option maxHeartbeats 1000000
set_option maxRecDepth 20000
theorem nums_drop (ws : List Bs) (i : Nat) (h : i < ws.length) : nums (ws.drop i) = (match num ws[i] with | some v => (match nums (ws.drop (i + 1)) with | some l => some (v :: l) | none => none) | none => none) := by
  rw [List.drop_eq_getElem_cons h]; rfl
theorem pure_i64 (l : List Int) : allPure (l.map i64) = some (l.map intV) := by
  rw [show l.map i64 = (l.map intV).map AV.c by rw [List.map_map]; rfl]
  exact allPure_c _
inductive NumG (S : St) (l : List Int) : AV → St → Prop
  | nil {T : St} (h : FR S [] T) (hl : l = []) : NumG S l (.c .nils) T
  | row {b : Nat} {T : St} (h : FR S [(b, .blk (l.map i64) 0 3)] T) (hl : 0 < l.length) : NumG S l (.sl b 0 l.length 1 false) T
theorem NumG.fr {S T : St} {l : List Int} {v : AV} (h : NumG S l v T) : FR S [] T := by
  cases h with
  | nil h _ => exact h
  | row h _ => exact h.drop
section
variable {S : St} {rb : Nat} {lv : FV} {n : Int} {song : List AV} (hr : S.get rb = some (.blk (rdC lv n song) 0 74)) (h0 : 1 ≤ n) (h1 : n ≤ 4000000000)
include hr h0 h1
theorem wc48' (ws : List Bs) (hn : ws.length ≤ 1000000000) :
    WC Tryz.prog 48 [.ref rb 0, wordsV ws] (fun x T => T = S ∧ x = (match nums ws with | some l => .ret (if ws = [] then .c .nils else .c (intsV l)) | none => .panic (stopV 2 (n - 1)))) S := by
  have hsz : allSize 1 (ws.map FV.str) = true := allSize_strs _
  refine wc_fwd ?_
  refine wc_fn (fn := Tryz.f48) (N := 22) (rs := [.tmp 4]) (by rfl) (by kernel_rfl) (by rfl) (by rfl) (by rfl) (by rfl) fun hS => ?_
  have hlt := hS.1 rb _ hr
  simp only [List.length_map, go_sem, ne_dn1, ne_up3, ne_up4, Nat.reduceAdd, Nat.reduceLT]
  refine wloop_meas (fun m' e S' => ∃ (i : Nat) (l : List Int) (v : AV), m' = ws.length - i ∧ i ≤ ws.length ∧ l.length = i ∧ NumG S l v S' ∧ (nums (ws.drop i)).map (l ++ ·) = nums ws ∧
    e.get 0 = .ref rb 0 ∧ e.get 5 = v ∧ e.get 8 = wordsV ws ∧ e.get 9 = i64 ws.length ∧ e.get 10 = i64 i) ?_ ws.length _ _ ?_
  · rintro m' e S' ⟨i, l, v, rfl, hi, hl, hg, hm, g0, g5, g8, g9, g10⟩
    have hr' : S'.get rb = some (.blk (rdC lv n song) 0 74) := by rw [hg.fr.old rb hlt]; exact hr
    rcases Nat.lt_or_ge i ws.length with hlt' | hge
    · have q1 : ((i : Int) < (ws.length : Int)) := by omega
      have q2 : ¬ ((i : Int) < 0) := by omega
      have q3 : (ws.map FV.str)[i]? = some (.str ws[i]) := by simp [hlt']
      have q5 := step_wrap i (by omega)
      rw [nums_drop ws i hlt'] at hm
      simp only [g0, g8, g9, g10, q1, q2, q3, hlt', hsz, List.length_map, Int.toNat_natCast, Option.map_some, go_sem, ne_up1, ne_up2, ne_up3, ne_up6, Nat.reduceEqDiff, Nat.reduceLT]
      refine wc_opt (wc42 hr' h0 h1 ws[i]) (fun a ha => ?_) (fun ha => ?_)
      · rw [ha] at hm
        have hm' : (nums (ws.drop (i + 1))).map (l ++ [a] ++ ·) = nums ws := by
          rw [← hm]
          cases nums (ws.drop (i + 1)) <;> simp
        cases hg with
        | nil h hl0 =>
          subst hl0
          simp only [t3b, t3s, t3z, size_one, Option.map_some, Nat.mul_one, Nat.zero_add, List.drop_zero, List.map_cons, List.map_nil, g0, g5, g8, g9, g10, q5, go_sem, maxLenA, ne_up1, ne_dn1, ne_up2, ne_dn2, ne_up3, ne_dn3, ne_up4, ne_dn4, ne_up5, ne_dn5, ne_up6, Nat.reduceMul, Nat.reduceEqDiff, Nat.reduceLT, Nat.reduceLeDiff]
          have h2 := (h.tmp (.blk [i64 a] 0 3)).new (.blk [i64 a] 0 3)
          exact ⟨ws.length - (i + 1), by omega, i + 1, [a], _, rfl, by omega, by rw [← hl]; rfl, .row (l := [a]) h2 (by simp), hm', rfl, rfl⟩
        | row h hpos =>
          rename_i b
          have hb := h.get1
          have hbn : (S'.next = b) = False := h.new_ne (List.mem_cons_self ..)
          have hbn2 : (S'.next + 1 = b) = False := eq_false (by have := h.lt (List.mem_cons_self ..); omega)
          have zt : (l.map i64).take l.length = l.map i64 := List.take_of_length_le (by rw [List.length_map]; omega)
          have z1 : (l.length + 1) * 8 ≤ 140737488355328 := by omega
          have z2 : ¬ (l.length + 1 ≤ l.length) := by omega
          simp only [t3b, t3s, t3z, size_one, Option.map_some, Nat.mul_one, Nat.zero_add, Nat.zero_le, List.drop_zero, List.length_map, List.map_cons, List.map_nil, g0, g5, g8, g9, g10, q5, hb, hbn, zt, z1, z2, Nat.le_refl, go_sem, maxLenA, ne_up1, ne_dn1, ne_up2, ne_dn2, ne_up3, ne_dn3, ne_up4, ne_dn4, ne_up5, ne_dn5, ne_up6, Nat.reduceSub, Nat.reduceEqDiff, Nat.reduceLT, Nat.reduceLeDiff]
          have h2 := ((h.tmp (.blk [i64 a] 0 3)).put .dead).new (.blk (l.map i64 ++ [i64 a]) 0 3)
          have e1 : l.map i64 ++ [i64 a] = (l ++ [a]).map i64 := by rw [List.map_append]; rfl
          rw [e1] at h2 ⊢
          have e2 : l.length + 1 = (l ++ [a]).length := by simp
          rw [e2]
          exact ⟨ws.length - (i + 1), by omega, i + 1, l ++ [a], _, rfl, by omega, by rw [List.length_append, hl]; rfl, .row (h2.sub (List.Sublist.cons_cons _ (List.nil_sublist _))) (by simp), hm', rfl, rfl⟩
      · rw [ha] at hm
        simp only [go_sem]
        refine .inr ⟨rfl, hg.fr.fwd hS, ?_⟩
        rw [← hm]; rfl
    · have q1 : ¬ ((i : Int) < (ws.length : Int)) := by omega
      have hi' : i = ws.length := by omega
      rw [List.drop_eq_nil_of_le hge] at hm
      simp only [nums, Option.map_some, List.append_nil] at hm
      simp only [g5, g9, g10, q1, go_sem, ne_up6, Nat.reduceLT]
      cases hg with
      | nil h hl0 =>
        have hw : ws = [] := by rw [hl0] at hl; exact List.eq_nil_of_length_eq_zero (by rw [← hi', ← hl]; rfl)
        refine ends_fwd (h.fwd hS) rfl (.inl ⟨rfl, ?_⟩)
        rw [← hm, hw]; rfl
      | row h hpos =>
        have hw : ws ≠ [] := fun e => by rw [e] at hi'; simp at hi'; omega
        refine ends_fwd_row (l := l.map intV) (h.fwd hS) h.get1 ag3 sz3 (pure_i64 l) (by rw [List.length_map]; omega) (fun _ => rfl) (h.ge (List.mem_cons_self ..)) (.inl ⟨rfl, ?_⟩)
        have := unflat_plain (l.map intV)
        rw [List.length_map] at this
        rw [List.drop_zero, this, ← hm]
        simp only [if_neg hw]
  · exact ⟨0, [], _, rfl, Nat.zero_le _, rfl, .nil (.start hS.1) rfl, by rw [List.drop_zero]; cases nums ws <;> simp, by simp only [go_sem, ne_up4, ne_up5, Nat.reduceEqDiff], by simp only [go_sem, ne_up3, ne_up4, ne_up5], by simp only [go_sem, ne_up1, ne_up2], by simp only [go_sem, ne_up1], by simp only [go_sem, Int.cast_ofNat_Int]⟩
theorem wc48 (ws : List Bs) (hn : ws.length ≤ 1000000000) : WC Tryz.prog 48 [.ref rb 0, wordsV ws] (OptIs (fun l => .c (intsV l)) n S (nums ws)) S := by
  refine wc_weak (wc48' hr h0 h1 ws hn) ?_ ?_
  · rintro v T ⟨rfl, h2⟩
    cases hm : nums ws with
    | none => rw [hm] at h2; cases h2
    | some l =>
      rw [hm] at h2
      simp only [CX.ret.injEq] at h2
      refine ⟨.c (intsV l), ⟨rfl, rfl⟩, fun G x hx => ?_⟩
      subst h2
      by_cases hw : ws = []
      · subst hw
        simp only [nums, Option.some.injEq] at hm
        subst hm
        exact rel_nils hx
      · rw [if_neg hw] at hx; exact hx
  · rintro v T ⟨rfl, h2⟩
    refine ⟨rfl, ?_⟩
    cases hm : nums ws with
    | none => rw [hm] at h2; exact h2
    | some l => rw [hm] at h2; cases h2
end
end Go.Proofs.YtgjnimemofmncaaGreatDoor
