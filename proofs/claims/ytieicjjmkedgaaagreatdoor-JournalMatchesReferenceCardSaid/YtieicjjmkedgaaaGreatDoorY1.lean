/- Part 1 of what the laws of this seat stand on: Js, Plan, Laws, Ja. -/
import Derived.Test.YtieicjjmkedgaaaGreatDoorY0
import Derived.Shelf.Strconv.Atoi
import Derived.Shelf.Strconv.AtoiErr
import Derived.Shelf.Strconv.AtoiAll
import Derived.Shelf.Strconv.Itoa3
import Derived.Shelf.Strings.Cut
import Derived.Shelf.Strings.Repeat
import Derived.Shelf.Strings.Builder1
import Derived.Shelf.Slices.Clone
import Derived.Shelf.Bits.Mul64
import Derived.Test.YtieicjjmkedgaaaGreatDoorProg
import Derived.StillTailTactics
import Derived.Deep.QuietTactic
import Derived.BigQuiet
import Derived.OrdersHeld
import Derived.Laws.CopyOwn
import Derived.Lib.BufferWrite
import Derived.Lib.LazyBuf
import Derived.Laws.BytesArg
import Derived.Laws.MakeOwn
import Derived.IntWalk
import Derived.Laws.Bits64
import Derived.Laws.Bits64b

/- Contracts of the library laid at this program: the tables of numbers and the facts, as the shelf's tools print them in plain words. -/
namespace Go.Proofs.YtieicjjmkedgaaaGreatDoor
open Go.Shelf
def sh_lays264_ren : Go.Shelf.Ren := ⟨fun | 264 => 111 | n => n, fun | 53 => 123 | 46 => 118 | n => n, fun | n => n⟩
theorem sh_lays264 : Go.Proofs.Lays.n264 Tryz.prog sh_lays264_ren := {
  mixed := by kernel_rfl
  f264 := Tryz.func111.trans (congrArg some (by kernel_rfl))
  t46 := Tryz.underlying118
  a46 := Tryz.isAgg118
  z46 := Tryz.sizeOf118
  v46 := Tryz.zeroValue118
  t53 := Tryz.underlying123
  a53 := Tryz.isAgg123
  z53 := Tryz.sizeOf123
  v53 := Tryz.zeroValue123 }
open Go.RowKit Go.Lib in
theorem sh_bits_Mul64 (x y : Nat) (hx : x < 18446744073709551616) (hy : y < 18446744073709551616) (w : World) :
    Calls Tryz.prog 111 #[.int .u64 x, .int .u64 y] w fun e w' => e = .returned (.tuple #[.int .u64 ((x * y / 18446744073709551616 : Nat) : Int), .int .u64 ((x * y % 18446744073709551616 : Nat) : Int)]) ∧ w' = w := Any.bits_Mul64 sh_lays264 x y hx hy w
def sh_lays105_ren : Go.Shelf.Ren := ⟨fun | 105 => 73 | 212 => 94 | 99 => 95 | 165 => 96 | 166 => 34 | 170 => 97 | 169 => 36 | 263 => 110 | 264 => 111 | 206 => 112 | 240 => 70 | 241 => 113 | 276 => 91 | 277 => 125 | n => n, fun | 9 => 9 | 3 => 3 | 4 => 4 | 20 => 20 | 0 => 0 | 46 => 118 | 109 => 119 | 5 => 5 | 72 => 62 | 76 => 65 | 51 => 136 | 146 => 137 | 53 => 123 | 148 => 139 | 70 => 60 | 37 => 49 | 75 => 64 | 127 => 103 | 164 => 116 | 80 => 70 | n => n, fun | n => n⟩
theorem sh_lays105 : Go.Proofs.Lays.n105 Tryz.prog sh_lays105_ren := {
  mixed := by kernel_rfl
  f99 := Tryz.func95.trans (congrArg some (by kernel_rfl))
  f105 := Tryz.func73.trans (congrArg some (by kernel_rfl))
  f165 := Tryz.func96.trans (congrArg some (by kernel_rfl))
  f166 := Tryz.func34.trans (congrArg some (by kernel_rfl))
  f169 := Tryz.func36.trans (congrArg some (by kernel_rfl))
  f170 := Tryz.func97.trans (congrArg some (by kernel_rfl))
  f206 := Tryz.func112.trans (congrArg some (by kernel_rfl))
  f212 := Tryz.func94.trans (congrArg some (by kernel_rfl))
  f240 := Tryz.func70.trans (congrArg some (by kernel_rfl))
  f241 := Tryz.func113.trans (congrArg some (by kernel_rfl))
  f263 := Tryz.func110.trans (congrArg some (by kernel_rfl))
  f264 := Tryz.func111.trans (congrArg some (by kernel_rfl))
  f276 := Tryz.func91.trans (congrArg some (by kernel_rfl))
  f277 := Tryz.func125.trans (congrArg some (by kernel_rfl))
  t0 := Tryz.underlying0
  a0 := Tryz.isAgg0
  z0 := Tryz.sizeOf0
  v0 := Tryz.zeroValue0
  t3 := Tryz.underlying3
  a3 := Tryz.isAgg3
  z3 := Tryz.sizeOf3
  v3 := Tryz.zeroValue3
  t4 := Tryz.underlying4
  a4 := Tryz.isAgg4
  z4 := Tryz.sizeOf4
  v4 := Tryz.zeroValue4
  t5 := Tryz.underlying5
  a5 := Tryz.isAgg5
  z5 := Tryz.sizeOf5
  v5 := Tryz.zeroValue5
  t9 := Tryz.underlying9
  a9 := Tryz.isAgg9
  z9 := Tryz.sizeOf9
  v9 := Tryz.zeroValue9
  t20 := Tryz.underlying20
  a20 := Tryz.isAgg20
  z20 := Tryz.sizeOf20
  v20 := Tryz.zeroValue20
  t37 := Tryz.underlying49
  a37 := Tryz.isAgg49
  z37 := Tryz.sizeOf49
  v37 := Tryz.zeroValue49
  t46 := Tryz.underlying118
  a46 := Tryz.isAgg118
  z46 := Tryz.sizeOf118
  v46 := Tryz.zeroValue118
  t51 := Tryz.underlying136
  a51 := Tryz.isAgg136
  z51 := Tryz.sizeOf136
  v51 := Tryz.zeroValue136
  t53 := Tryz.underlying123
  a53 := Tryz.isAgg123
  z53 := Tryz.sizeOf123
  v53 := Tryz.zeroValue123
  t70 := Tryz.underlying60
  a70 := Tryz.isAgg60
  z70 := Tryz.sizeOf60
  v70 := Tryz.zeroValue60
  t72 := Tryz.underlying62
  a72 := Tryz.isAgg62
  z72 := Tryz.sizeOf62
  v72 := Tryz.zeroValue62
  t75 := Tryz.underlying64
  a75 := Tryz.isAgg64
  z75 := Tryz.sizeOf64
  v75 := Tryz.zeroValue64
  t76 := Tryz.underlying65
  a76 := Tryz.isAgg65
  z76 := Tryz.sizeOf65
  v76 := Tryz.zeroValue65
  t109 := Tryz.underlying119
  a109 := Tryz.isAgg119
  z109 := Tryz.sizeOf119
  v109 := Tryz.zeroValue119
  t127 := Tryz.underlying103
  a127 := Tryz.isAgg103
  z127 := Tryz.sizeOf103
  v127 := Tryz.zeroValue103
  t146 := Tryz.underlying137
  a146 := Tryz.isAgg137
  z146 := Tryz.sizeOf137
  v146 := Tryz.zeroValue137
  t148 := Tryz.underlying139
  a148 := Tryz.isAgg139
  z148 := Tryz.sizeOf139
  v148 := Tryz.zeroValue139
  t164 := Tryz.underlying116
  a164 := Tryz.isAgg116
  z164 := Tryz.sizeOf116
  v164 := Tryz.zeroValue116 }
theorem sh_Builder_Extra_105 : Builder.Extra Tryz.prog sh_lays105_ren := {
  sizeBuilder := by kernel_rfl
  liesBuilder := by kernel_rfl
  t5 := Tryz.underlying5
  a5 := Tryz.isAgg5
  z5 := Tryz.sizeOf5
  v5 := Tryz.zeroValue5
  infoByte := by kernel_rfl
  cellsByte := by kernel_rfl
  sizeByte := by kernel_rfl
  neB5 := by decide }
open Go.RowKit Go.Lib in
/-- **strings.Repeat: count ≥ 0, the result within one allocation: count copies of s.** (LAID: no walk: one application.) -/
theorem sh_strings_Repeat (s : ByteArray) (c : Nat) (w : World) (hc : c ≤ 9223372036854775807) (hlen : s.size * c ≤ 140737488355328) :
    Calls Tryz.prog 73 #[.string s, .int .i64 c] w fun e w' => e = .returned (.string ⟨(Lib.repeatL s.data.toList c).toArray⟩) ∧ Below w.heap.size w w' := Any.strings_Repeat sh_lays105 sh_Builder_Extra_105 s c w hc hlen
def sh_lays145_ren : Go.Shelf.Ren := ⟨fun | 145 => 71 | 220 => 92 | 219 => 108 | 217 => 117 | 225 => 118 | 224 => 119 | 267 => 120 | 266 => 126 | 314 => 127 | n => n, fun | 9 => 9 | 4 => 4 | 59 => 101 | 3 => 3 | 5 => 5 | 46 => 118 | 146 => 137 | 51 => 136 | n => n, fun | 1 => 2 | n => n⟩
theorem sh_lays145 : Go.Proofs.Lays.n145 Tryz.prog sh_lays145_ren := {
  mixed := by kernel_rfl
  f145 := Tryz.func71.trans (congrArg some (by kernel_rfl))
  f217 := Tryz.func117.trans (congrArg some (by kernel_rfl))
  f219 := Tryz.func108.trans (congrArg some (by kernel_rfl))
  f220 := Tryz.func92.trans (congrArg some (by kernel_rfl))
  f224 := Tryz.func119.trans (congrArg some (by kernel_rfl))
  f225 := Tryz.func118.trans (congrArg some (by kernel_rfl))
  f266 := Tryz.func126.trans (congrArg some (by kernel_rfl))
  f267 := Tryz.func120.trans (congrArg some (by kernel_rfl))
  f314 := Tryz.func127.trans (congrArg some (by kernel_rfl))
  t3 := Tryz.underlying3
  a3 := Tryz.isAgg3
  z3 := Tryz.sizeOf3
  v3 := Tryz.zeroValue3
  t4 := Tryz.underlying4
  a4 := Tryz.isAgg4
  z4 := Tryz.sizeOf4
  v4 := Tryz.zeroValue4
  t5 := Tryz.underlying5
  a5 := Tryz.isAgg5
  z5 := Tryz.sizeOf5
  v5 := Tryz.zeroValue5
  t9 := Tryz.underlying9
  a9 := Tryz.isAgg9
  z9 := Tryz.sizeOf9
  v9 := Tryz.zeroValue9
  t46 := Tryz.underlying118
  a46 := Tryz.isAgg118
  z46 := Tryz.sizeOf118
  v46 := Tryz.zeroValue118
  t51 := Tryz.underlying136
  a51 := Tryz.isAgg136
  z51 := Tryz.sizeOf136
  v51 := Tryz.zeroValue136
  t59 := Tryz.underlying101
  a59 := Tryz.isAgg101
  z59 := Tryz.sizeOf101
  v59 := Tryz.zeroValue101
  t146 := Tryz.underlying137
  a146 := Tryz.isAgg137
  z146 := Tryz.sizeOf137
  v146 := Tryz.zeroValue137
  g1 := by kernel_rfl }
open Go.RowKit Go.Lib in
/-- strings.Cut: "Cut slices s around the first instance of sep, returning the text before and after sep. The found result reports whether sep appears in s. If sep does not appear in s, cut returns s, "", false.": IT RETURNS 'Lib.cut s sep'; the world is as it was but for the count of draws. (LAID: no walk: one application.) -/
theorem sh_strings_Cut (s sep : ByteArray) (m : Int) (w : World) (hs : s.size < 4294967281) (hm : w.cell? ⟨2, 0, none⟩ = some (.int .i64 m)) :
    Calls Tryz.prog 71 #[.string s, .string sep] w fun e w' => e = .returned (.tuple #[.string ⟨(Lib.cut s.data.toList sep.data.toList).1.toArray⟩, .string ⟨(Lib.cut s.data.toList sep.data.toList).2.1.toArray⟩, .bool (Lib.cut s.data.toList sep.data.toList).2.2]) ∧ ∃ n, w' = w.drewN n := Any.strings_Cut sh_lays145 s sep m w hs hm
def sh_laysM171_ren : Go.Shelf.Ren := ⟨fun | 171 => 72 | 243 => 93 | 246 => 109 | 283 => 121 | 284 => 122 | 285 => 123 | 286 => 124 | 129 => 129 | 317 => 128 | 318 => 130 | 319 => 131 | 320 => 132 | 337 => 133 | 338 => 134 | n => n, fun | 3 => 3 | 9 => 9 | 2 => 2 | 4 => 4 | 171 => 147 | 0 => 0 | 53 => 123 | 37 => 49 | 5 => 5 | 173 => 150 | 212 => 155 | 51 => 136 | 20 => 20 | 213 => 156 | 46 => 118 | 232 => 160 | 233 => 161 | n => n, fun | 17 => 3 | 18 => 4 | 19 => 5 | n => n⟩
theorem sh_laysM171 : Go.Proofs.LaysM.n171 Tryz.prog sh_laysM171_ren := {
  mixed := by kernel_rfl
  f129 := Tryz.func129.trans (congrArg some (by kernel_rfl))
  f171 := Tryz.func72.trans (congrArg some (by kernel_rfl))
  f243 := Tryz.func93.trans (congrArg some (by kernel_rfl))
  f246 := Tryz.func109.trans (congrArg some (by kernel_rfl))
  f283 := Tryz.func121.trans (congrArg some (by kernel_rfl))
  f284 := Tryz.func122.trans (congrArg some (by kernel_rfl))
  f285 := Tryz.func123.trans (congrArg some (by kernel_rfl))
  f286 := Tryz.func124.trans (congrArg some (by kernel_rfl))
  f317 := Tryz.func128.trans (congrArg some (by kernel_rfl))
  f318 := Tryz.func130.trans (congrArg some (by kernel_rfl))
  f319 := Tryz.func131.trans (congrArg some (by kernel_rfl))
  f320 := Tryz.func132.trans (congrArg some (by kernel_rfl))
  f337 := Tryz.func133.trans (congrArg some (by kernel_rfl))
  f338 := Tryz.func134.trans (congrArg some (by kernel_rfl))
  t0 := Tryz.underlying0
  a0 := Tryz.isAgg0
  z0 := Tryz.sizeOf0
  v0 := Tryz.zeroValue0
  t2 := Tryz.underlying2
  a2 := Tryz.isAgg2
  z2 := Tryz.sizeOf2
  v2 := Tryz.zeroValue2
  t3 := Tryz.underlying3
  a3 := Tryz.isAgg3
  z3 := Tryz.sizeOf3
  v3 := Tryz.zeroValue3
  t4 := Tryz.underlying4
  a4 := Tryz.isAgg4
  z4 := Tryz.sizeOf4
  v4 := Tryz.zeroValue4
  t5 := Tryz.underlying5
  a5 := Tryz.isAgg5
  z5 := Tryz.sizeOf5
  v5 := Tryz.zeroValue5
  t9 := Tryz.underlying9
  a9 := Tryz.isAgg9
  z9 := Tryz.sizeOf9
  v9 := Tryz.zeroValue9
  t20 := Tryz.underlying20
  a20 := Tryz.isAgg20
  z20 := Tryz.sizeOf20
  v20 := Tryz.zeroValue20
  t37 := Tryz.underlying49
  a37 := Tryz.isAgg49
  z37 := Tryz.sizeOf49
  v37 := Tryz.zeroValue49
  t46 := Tryz.underlying118
  a46 := Tryz.isAgg118
  z46 := Tryz.sizeOf118
  v46 := Tryz.zeroValue118
  t51 := Tryz.underlying136
  a51 := Tryz.isAgg136
  z51 := Tryz.sizeOf136
  v51 := Tryz.zeroValue136
  t53 := Tryz.underlying123
  a53 := Tryz.isAgg123
  z53 := Tryz.sizeOf123
  v53 := Tryz.zeroValue123
  t171 := Tryz.underlying147
  a171 := Tryz.isAgg147
  z171 := Tryz.sizeOf147
  v171 := Tryz.zeroValue147
  t173 := Tryz.underlying150
  a173 := Tryz.isAgg150
  z173 := Tryz.sizeOf150
  v173 := Tryz.zeroValue150
  t212 := Tryz.underlying155
  a212 := Tryz.isAgg155
  z212 := Tryz.sizeOf155
  v212 := Tryz.zeroValue155
  t213 := Tryz.underlying156
  a213 := Tryz.isAgg156
  z213 := Tryz.sizeOf156
  t232 := Tryz.underlying160
  a232 := Tryz.isAgg160
  z232 := Tryz.sizeOf160
  v232 := Tryz.zeroValue160
  t233 := Tryz.underlying161
  a233 := Tryz.isAgg161
  z233 := Tryz.sizeOf161
  v233 := Tryz.zeroValue161
  g17 := by kernel_rfl
  g18 := by kernel_rfl
  g19 := by kernel_rfl
  i0 := by kernel_rfl
  i2 := by kernel_rfl
  i3 := by kernel_rfl
  i4 := by kernel_rfl
  i5 := by kernel_rfl
  i9 := by kernel_rfl
  i20 := by kernel_rfl
  i37 := by kernel_rfl
  i46 := by kernel_rfl
  i51 := by kernel_rfl
  i53 := by kernel_rfl
  i171 := by kernel_rfl
  i173 := by kernel_rfl
  i212 := by kernel_rfl
  i232 := by kernel_rfl
  i233 := by kernel_rfl
  m17 := by kernel_rfl
  m18 := by kernel_rfl
  m19 := by kernel_rfl }
open Go.RowKit Go.Sort Go.Lib in
/-- strconv.Itoa: "Itoa is equivalent to FormatInt(int64(i), 10).": i's DECIMAL NUMERAL ('Lib.itoa': a '-' where i is negative, then the digits), FOR EVERY int. The world behind the call: the world before it, new blocks behind the heap (the library's 'var a [24]byte'), draws. (LAID: no walk: one application.) -/
theorem sh_strconv_Itoa (n : Int) (h0 : -9223372036854775808 ≤ n) (h1 : n ≤ 9223372036854775807) (w : World) (htab : Lib.TabIs Tryz.prog w "internal/strconv.uint64pow10" .u64 Lib.pow10Tab) :
    Calls Tryz.prog 72 #[.int .i64 n] w fun e w' => e = .returned (.string ⟨(Lib.itoa n).toArray⟩) ∧ ∃ k os, w' = grow (w.drewN k) os := Any.strconv_Itoa sh_laysM171 n h0 h1 w htab
def sh_lays172_ren : Go.Shelf.Ren := ⟨fun | 172 => 32 | 244 => 66 | 245 => 67 | 247 => 85 | 279 => 86 | 280 => 87 | 281 => 88 | 282 => 89 | 287 => 102 | 316 => 103 | 171 => 72 | 205 => 104 | 321 => 115 | 322 => 116 | 243 => 93 | 246 => 109 | 283 => 121 | 284 => 122 | 285 => 123 | 286 => 124 | 129 => 129 | 317 => 128 | 318 => 130 | 319 => 131 | 320 => 132 | 337 => 133 | 338 => 134 | n => n, fun | 9 => 9 | 3 => 3 | 75 => 64 | 76 => 65 | 4 => 4 | 5 => 5 | 167 => 108 | 37 => 49 | 0 => 0 | 85 => 109 | 2 => 2 | 168 => 111 | 53 => 123 | 175 => 124 | 46 => 118 | 210 => 127 | 127 => 103 | 145 => 144 | 143 => 142 | 21 => 21 | 171 => 147 | 173 => 150 | 212 => 155 | 51 => 136 | 20 => 20 | 213 => 156 | 232 => 160 | 233 => 161 | 80 => 70 | n => n, fun | 15 => 0 | 16 => 1 | 17 => 3 | 18 => 4 | 19 => 5 | n => n⟩
theorem sh_lays172 : Go.Proofs.Lays.n172 Tryz.prog sh_lays172_ren := {
  mixed := by kernel_rfl
  f129 := Tryz.func129.trans (congrArg some (by kernel_rfl))
  f171 := Tryz.func72.trans (congrArg some (by kernel_rfl))
  f172 := Tryz.func32.trans (congrArg some (by kernel_rfl))
  f205 := Tryz.func104.trans (congrArg some (by kernel_rfl))
  f243 := Tryz.func93.trans (congrArg some (by kernel_rfl))
  f244 := Tryz.func66.trans (congrArg some (by kernel_rfl))
  f245 := Tryz.func67.trans (congrArg some (by kernel_rfl))
  f246 := Tryz.func109.trans (congrArg some (by kernel_rfl))
  f247 := Tryz.func85.trans (congrArg some (by kernel_rfl))
  f279 := Tryz.func86.trans (congrArg some (by kernel_rfl))
  f280 := Tryz.func87.trans (congrArg some (by kernel_rfl))
  f281 := Tryz.func88.trans (congrArg some (by kernel_rfl))
  f282 := Tryz.func89.trans (congrArg some (by kernel_rfl))
  f283 := Tryz.func121.trans (congrArg some (by kernel_rfl))
  f284 := Tryz.func122.trans (congrArg some (by kernel_rfl))
  f285 := Tryz.func123.trans (congrArg some (by kernel_rfl))
  f286 := Tryz.func124.trans (congrArg some (by kernel_rfl))
  f287 := Tryz.func102.trans (congrArg some (by kernel_rfl))
  f316 := Tryz.func103.trans (congrArg some (by kernel_rfl))
  f317 := Tryz.func128.trans (congrArg some (by kernel_rfl))
  f318 := Tryz.func130.trans (congrArg some (by kernel_rfl))
  f319 := Tryz.func131.trans (congrArg some (by kernel_rfl))
  f320 := Tryz.func132.trans (congrArg some (by kernel_rfl))
  f321 := Tryz.func115.trans (congrArg some (by kernel_rfl))
  f322 := Tryz.func116.trans (congrArg some (by kernel_rfl))
  f337 := Tryz.func133.trans (congrArg some (by kernel_rfl))
  f338 := Tryz.func134.trans (congrArg some (by kernel_rfl))
  t0 := Tryz.underlying0
  a0 := Tryz.isAgg0
  z0 := Tryz.sizeOf0
  v0 := Tryz.zeroValue0
  t2 := Tryz.underlying2
  a2 := Tryz.isAgg2
  z2 := Tryz.sizeOf2
  v2 := Tryz.zeroValue2
  t3 := Tryz.underlying3
  a3 := Tryz.isAgg3
  z3 := Tryz.sizeOf3
  v3 := Tryz.zeroValue3
  t4 := Tryz.underlying4
  a4 := Tryz.isAgg4
  z4 := Tryz.sizeOf4
  v4 := Tryz.zeroValue4
  t5 := Tryz.underlying5
  a5 := Tryz.isAgg5
  z5 := Tryz.sizeOf5
  v5 := Tryz.zeroValue5
  t9 := Tryz.underlying9
  a9 := Tryz.isAgg9
  z9 := Tryz.sizeOf9
  v9 := Tryz.zeroValue9
  t20 := Tryz.underlying20
  a20 := Tryz.isAgg20
  z20 := Tryz.sizeOf20
  v20 := Tryz.zeroValue20
  t21 := Tryz.underlying21
  a21 := Tryz.isAgg21
  z21 := Tryz.sizeOf21
  v21 := Tryz.zeroValue21
  t37 := Tryz.underlying49
  a37 := Tryz.isAgg49
  z37 := Tryz.sizeOf49
  v37 := Tryz.zeroValue49
  t46 := Tryz.underlying118
  a46 := Tryz.isAgg118
  z46 := Tryz.sizeOf118
  v46 := Tryz.zeroValue118
  t51 := Tryz.underlying136
  a51 := Tryz.isAgg136
  z51 := Tryz.sizeOf136
  v51 := Tryz.zeroValue136
  t53 := Tryz.underlying123
  a53 := Tryz.isAgg123
  z53 := Tryz.sizeOf123
  v53 := Tryz.zeroValue123
  t75 := Tryz.underlying64
  a75 := Tryz.isAgg64
  z75 := Tryz.sizeOf64
  v75 := Tryz.zeroValue64
  t76 := Tryz.underlying65
  a76 := Tryz.isAgg65
  z76 := Tryz.sizeOf65
  v76 := Tryz.zeroValue65
  t85 := Tryz.underlying109
  a85 := Tryz.isAgg109
  z85 := Tryz.sizeOf109
  v85 := Tryz.zeroValue109
  t127 := Tryz.underlying103
  a127 := Tryz.isAgg103
  z127 := Tryz.sizeOf103
  v127 := Tryz.zeroValue103
  t143 := Tryz.underlying142
  a143 := Tryz.isAgg142
  z143 := Tryz.sizeOf142
  v143 := Tryz.zeroValue142
  t145 := Tryz.underlying144
  a145 := Tryz.isAgg144
  z145 := Tryz.sizeOf144
  v145 := Tryz.zeroValue144
  t167 := Tryz.underlying108
  a167 := Tryz.isAgg108
  z167 := Tryz.sizeOf108
  v167 := Tryz.zeroValue108
  t168 := Tryz.underlying111
  a168 := Tryz.isAgg111
  z168 := Tryz.sizeOf111
  v168 := Tryz.zeroValue111
  t171 := Tryz.underlying147
  a171 := Tryz.isAgg147
  z171 := Tryz.sizeOf147
  v171 := Tryz.zeroValue147
  t173 := Tryz.underlying150
  a173 := Tryz.isAgg150
  z173 := Tryz.sizeOf150
  v173 := Tryz.zeroValue150
  t175 := Tryz.underlying124
  a175 := Tryz.isAgg124
  z175 := Tryz.sizeOf124
  v175 := Tryz.zeroValue124
  t210 := Tryz.underlying127
  a210 := Tryz.isAgg127
  z210 := Tryz.sizeOf127
  v210 := Tryz.zeroValue127
  t212 := Tryz.underlying155
  a212 := Tryz.isAgg155
  z212 := Tryz.sizeOf155
  v212 := Tryz.zeroValue155
  t213 := Tryz.underlying156
  a213 := Tryz.isAgg156
  z213 := Tryz.sizeOf156
  t232 := Tryz.underlying160
  a232 := Tryz.isAgg160
  z232 := Tryz.sizeOf160
  v232 := Tryz.zeroValue160
  t233 := Tryz.underlying161
  a233 := Tryz.isAgg161
  z233 := Tryz.sizeOf161
  v233 := Tryz.zeroValue161
  g15 := by kernel_rfl
  g16 := by kernel_rfl
  g17 := by kernel_rfl
  g18 := by kernel_rfl
  g19 := by kernel_rfl }
open Go.RowKit in
/-- strconv.Atoi: "Atoi is equivalent to ParseInt(s, 10, 0), converted to type int.": AT A DECIMAL NUMERAL OF AT MOST 18 BYTES: its value, and a nil error. The world behind the call: the one new row that the library's '[]byte(s)' lays. (LAID: no walk: one application.) -/
theorem sh_strconv_Atoi (s : ByteArray) (n : Int) (hl : s.size ≤ 18) (h : Lib.atoi s.data.toList = some n) (w : World) :
    Calls Tryz.prog 32 #[.string s] w fun e w' => e = .returned (.tuple #[.int .i64 n, .nilIface]) ∧ ∃ t, w' = Lib.bytesWorld w 5 t := Any.strconv_Atoi sh_lays172 s n hl h w
def sh_laysC172_ren : Go.Shelf.Ren := ⟨fun | 172 => 32 | 244 => 66 | 245 => 67 | 247 => 85 | 279 => 86 | 280 => 87 | 281 => 88 | 282 => 89 | 287 => 102 | 316 => 103 | 171 => 72 | 205 => 104 | 321 => 115 | 322 => 116 | 243 => 93 | 246 => 109 | 283 => 121 | 284 => 122 | 285 => 123 | 286 => 124 | 129 => 129 | 317 => 128 | 318 => 130 | 319 => 131 | 320 => 132 | 337 => 133 | 338 => 134 | n => n, fun | 9 => 9 | 3 => 3 | 75 => 64 | 76 => 65 | 4 => 4 | 5 => 5 | 167 => 108 | 37 => 49 | 0 => 0 | 85 => 109 | 2 => 2 | 168 => 111 | 53 => 123 | 175 => 124 | 46 => 118 | 210 => 127 | 127 => 103 | 145 => 144 | 143 => 142 | 21 => 21 | 171 => 147 | 173 => 150 | 212 => 155 | 51 => 136 | 20 => 20 | 213 => 156 | 232 => 160 | 233 => 161 | 80 => 70 | n => n, fun | 15 => 0 | 16 => 1 | 17 => 3 | 18 => 4 | 19 => 5 | n => n⟩
theorem sh_laysC172 : Go.Proofs.LaysC.n172 Tryz.prog sh_laysC172_ren := {
  mixed := by kernel_rfl
  f129 := Tryz.func129.trans (congrArg some (by kernel_rfl))
  f171 := Tryz.func72.trans (congrArg some (by kernel_rfl))
  f172 := Tryz.func32.trans (congrArg some (by kernel_rfl))
  f205 := Tryz.func104.trans (congrArg some (by kernel_rfl))
  f243 := Tryz.func93.trans (congrArg some (by kernel_rfl))
  f244 := Tryz.func66.trans (congrArg some (by kernel_rfl))
  f245 := Tryz.func67.trans (congrArg some (by kernel_rfl))
  f246 := Tryz.func109.trans (congrArg some (by kernel_rfl))
  f247 := Tryz.func85.trans (congrArg some (by kernel_rfl))
  f279 := Tryz.func86.trans (congrArg some (by kernel_rfl))
  f280 := Tryz.func87.trans (congrArg some (by kernel_rfl))
  f281 := Tryz.func88.trans (congrArg some (by kernel_rfl))
  f282 := Tryz.func89.trans (congrArg some (by kernel_rfl))
  f283 := Tryz.func121.trans (congrArg some (by kernel_rfl))
  f284 := Tryz.func122.trans (congrArg some (by kernel_rfl))
  f285 := Tryz.func123.trans (congrArg some (by kernel_rfl))
  f286 := Tryz.func124.trans (congrArg some (by kernel_rfl))
  f287 := Tryz.func102.trans (congrArg some (by kernel_rfl))
  f316 := Tryz.func103.trans (congrArg some (by kernel_rfl))
  f317 := Tryz.func128.trans (congrArg some (by kernel_rfl))
  f318 := Tryz.func130.trans (congrArg some (by kernel_rfl))
  f319 := Tryz.func131.trans (congrArg some (by kernel_rfl))
  f320 := Tryz.func132.trans (congrArg some (by kernel_rfl))
  f321 := Tryz.func115.trans (congrArg some (by kernel_rfl))
  f322 := Tryz.func116.trans (congrArg some (by kernel_rfl))
  f337 := Tryz.func133.trans (congrArg some (by kernel_rfl))
  f338 := Tryz.func134.trans (congrArg some (by kernel_rfl))
  t0 := Tryz.underlying0
  a0 := Tryz.isAgg0
  z0 := Tryz.sizeOf0
  v0 := Tryz.zeroValue0
  t2 := Tryz.underlying2
  a2 := Tryz.isAgg2
  z2 := Tryz.sizeOf2
  v2 := Tryz.zeroValue2
  t3 := Tryz.underlying3
  a3 := Tryz.isAgg3
  z3 := Tryz.sizeOf3
  v3 := Tryz.zeroValue3
  t4 := Tryz.underlying4
  a4 := Tryz.isAgg4
  z4 := Tryz.sizeOf4
  v4 := Tryz.zeroValue4
  t5 := Tryz.underlying5
  a5 := Tryz.isAgg5
  z5 := Tryz.sizeOf5
  v5 := Tryz.zeroValue5
  t9 := Tryz.underlying9
  a9 := Tryz.isAgg9
  z9 := Tryz.sizeOf9
  v9 := Tryz.zeroValue9
  t20 := Tryz.underlying20
  a20 := Tryz.isAgg20
  z20 := Tryz.sizeOf20
  v20 := Tryz.zeroValue20
  t21 := Tryz.underlying21
  a21 := Tryz.isAgg21
  z21 := Tryz.sizeOf21
  v21 := Tryz.zeroValue21
  t37 := Tryz.underlying49
  a37 := Tryz.isAgg49
  z37 := Tryz.sizeOf49
  v37 := Tryz.zeroValue49
  t46 := Tryz.underlying118
  a46 := Tryz.isAgg118
  z46 := Tryz.sizeOf118
  v46 := Tryz.zeroValue118
  t51 := Tryz.underlying136
  a51 := Tryz.isAgg136
  z51 := Tryz.sizeOf136
  v51 := Tryz.zeroValue136
  t53 := Tryz.underlying123
  a53 := Tryz.isAgg123
  z53 := Tryz.sizeOf123
  v53 := Tryz.zeroValue123
  t75 := Tryz.underlying64
  a75 := Tryz.isAgg64
  z75 := Tryz.sizeOf64
  v75 := Tryz.zeroValue64
  t76 := Tryz.underlying65
  a76 := Tryz.isAgg65
  z76 := Tryz.sizeOf65
  v76 := Tryz.zeroValue65
  t85 := Tryz.underlying109
  a85 := Tryz.isAgg109
  z85 := Tryz.sizeOf109
  v85 := Tryz.zeroValue109
  t127 := Tryz.underlying103
  a127 := Tryz.isAgg103
  z127 := Tryz.sizeOf103
  v127 := Tryz.zeroValue103
  t143 := Tryz.underlying142
  a143 := Tryz.isAgg142
  z143 := Tryz.sizeOf142
  v143 := Tryz.zeroValue142
  t145 := Tryz.underlying144
  a145 := Tryz.isAgg144
  z145 := Tryz.sizeOf144
  v145 := Tryz.zeroValue144
  t167 := Tryz.underlying108
  a167 := Tryz.isAgg108
  z167 := Tryz.sizeOf108
  v167 := Tryz.zeroValue108
  t168 := Tryz.underlying111
  a168 := Tryz.isAgg111
  z168 := Tryz.sizeOf111
  v168 := Tryz.zeroValue111
  t171 := Tryz.underlying147
  a171 := Tryz.isAgg147
  z171 := Tryz.sizeOf147
  v171 := Tryz.zeroValue147
  t173 := Tryz.underlying150
  a173 := Tryz.isAgg150
  z173 := Tryz.sizeOf150
  v173 := Tryz.zeroValue150
  t175 := Tryz.underlying124
  a175 := Tryz.isAgg124
  z175 := Tryz.sizeOf124
  v175 := Tryz.zeroValue124
  t210 := Tryz.underlying127
  a210 := Tryz.isAgg127
  z210 := Tryz.sizeOf127
  v210 := Tryz.zeroValue127
  t212 := Tryz.underlying155
  a212 := Tryz.isAgg155
  z212 := Tryz.sizeOf155
  v212 := Tryz.zeroValue155
  t213 := Tryz.underlying156
  a213 := Tryz.isAgg156
  z213 := Tryz.sizeOf156
  t232 := Tryz.underlying160
  a232 := Tryz.isAgg160
  z232 := Tryz.sizeOf160
  v232 := Tryz.zeroValue160
  t233 := Tryz.underlying161
  a233 := Tryz.isAgg161
  z233 := Tryz.sizeOf161
  v233 := Tryz.zeroValue161
  g15 := by kernel_rfl
  g16 := by kernel_rfl
  g17 := by kernel_rfl
  g18 := by kernel_rfl
  g19 := by kernel_rfl
  t80 := Tryz.underlying70
  a80 := Tryz.isAgg70
  z80 := Tryz.sizeOf70
  v80 := Tryz.zeroValue70
  i0 := by kernel_rfl
  i2 := by kernel_rfl
  i3 := by kernel_rfl
  i4 := by kernel_rfl
  i5 := by kernel_rfl
  i9 := by kernel_rfl
  i20 := by kernel_rfl
  i21 := by kernel_rfl
  i37 := by kernel_rfl
  i46 := by kernel_rfl
  i51 := by kernel_rfl
  i53 := by kernel_rfl
  i75 := by kernel_rfl
  i76 := by kernel_rfl
  i80 := by kernel_rfl
  i85 := by kernel_rfl
  i127 := by kernel_rfl
  i143 := by kernel_rfl
  i145 := by kernel_rfl
  i167 := by kernel_rfl
  i168 := by kernel_rfl
  i171 := by kernel_rfl
  i173 := by kernel_rfl
  i175 := by kernel_rfl
  i210 := by kernel_rfl
  i212 := by kernel_rfl
  i232 := by kernel_rfl
  i233 := by kernel_rfl
  m15 := by kernel_rfl
  m16 := by kernel_rfl
  m17 := by kernel_rfl
  m18 := by kernel_rfl
  m19 := by kernel_rfl
  c0 := by kernel_rfl
  c2 := by kernel_rfl
  c3 := by kernel_rfl
  c4 := by kernel_rfl
  c5 := by kernel_rfl
  c9 := by kernel_rfl
  c20 := by kernel_rfl
  c21 := by kernel_rfl
  c37 := by kernel_rfl
  c46 := by kernel_rfl
  c51 := by kernel_rfl
  c53 := by kernel_rfl
  c75 := by kernel_rfl
  c76 := by kernel_rfl
  c80 := by kernel_rfl
  c85 := by kernel_rfl
  c127 := by kernel_rfl
  c143 := by kernel_rfl
  c145 := by kernel_rfl
  c167 := by kernel_rfl
  c168 := by kernel_rfl
  c171 := by kernel_rfl
  c173 := by kernel_rfl
  c175 := by kernel_rfl
  c210 := by kernel_rfl
  c212 := by kernel_rfl
  c213 := by kernel_rfl
  c232 := by kernel_rfl
  c233 := by kernel_rfl }
open Go.RowKit in
/-- strconv.Atoi, AT EVERY STRING OF AT MOST 18 BYTES THAT IS NO DECIMAL NUMERAL (the empty one too): 0, AND AN ERROR THAT IS NOT nil: a *NumError in a new block N: {Func: "Atoi", Num: s's bytes, Err: what the variable ErrSyntax holds}. Of what was there nothing has turned. (LAID: no walk: one application.) -/
theorem sh_strconv_Atoi_err (s : ByteArray) (hl : s.size ≤ 18) (h : Lib.atoi s.data.toList = none) (ev : Value) (w : World) (hv : w.cell? ⟨0, 0, none⟩ = some ev) (hev : ev = .nilIface ∨ ∃ te pe, ev = .iface te pe) :
    Calls Tryz.prog 32 #[.string s] w fun e w' => ∃ N, e = .returned (.tuple #[.int .i64 0, .iface 111 (.pointer (some ⟨N, 0, none⟩))]) ∧ w.heap.size ≤ N ∧ w'.heap[N]? = some (.cells #[.string ⟨#[65, 116, 111, 105]⟩, .string s, ev] 127 (0, 0)) ∧ Below w.heap.size w w' := Any.strconv_Atoi_err sh_laysC172 s hl h ev w hv hev
open Go.RowKit in
/-- strconv.Atoi, AT EVERY STRING THAT SPELLS AN int ('Lib.atoiAll .. = .ok v'; of whatever length: leading zeros count): v, AND NO ERROR. The world: as it was, or with the one new row that '[]byte(..)' lays. (LAID: no walk: one application.) -/
theorem sh_strconv_Atoi_ok (s : ByteArray) (hmax : s.size ≤ 9223372036854775806) (v : Int) (h : Lib.atoiAll s.data.toList = .ok v) (w : World) :
    Calls Tryz.prog 32 #[.string s] w fun e w' => e = .returned (.tuple #[.int .i64 v, .nilIface]) ∧ (w' = w ∨ ∃ t, w' = Lib.bytesWorld w 5 t) := Any.strconv_Atoi_ok sh_laysC172 s hmax v h w
open Go.RowKit in
/-- strconv.Atoi, AT EVERY STRING THAT IS NO DECIMAL NUMERAL ('.syntax'): 0, AND AN ERROR THAT IS NOT nil: a *NumError in a new block N: {Func: "Atoi", Num: s's bytes, Err: what the variable ErrSyntax holds}. Of what was there nothing has turned. (LAID: no walk: one application.) -/
theorem sh_strconv_Atoi_syntax (s : ByteArray) (hlim : s.size ≤ 281474976710656) (h : Lib.atoiAll s.data.toList = .«syntax») (ev : Value) (w : World) (hv : w.cell? ⟨0, 0, none⟩ = some ev) (hev : ev = .nilIface ∨ ∃ te pe, ev = .iface te pe) :
    Calls Tryz.prog 32 #[.string s] w fun e w' => ∃ N, e = .returned (.tuple #[.int .i64 (0), .iface 111 (.pointer (some ⟨N, 0, none⟩))]) ∧ w.heap.size ≤ N ∧ w'.heap[N]? = some (.cells #[.string ⟨#[65, 116, 111, 105]⟩, .string s, ev] 127 (0, 0)) ∧ Below w.heap.size w w' := Any.strconv_Atoi_syntax sh_laysC172 s hlim h ev w hv hev
open Go.RowKit in
/-- strconv.Atoi, AT EVERY NUMERAL THAT NO int HOLDS ('.range'): THE GREATEST OR THE LEAST int, BY THE SIGN ('Lib.atoiSat'), AND AN ERROR THAT IS NOT nil: a *NumError in a new block N: {Func: "Atoi", Num: s's bytes, Err: what the variable ErrRange holds}. Of what was there nothing has turned. (LAID: no walk: one application.) -/
theorem sh_strconv_Atoi_range (s : ByteArray) (hlim : s.size ≤ 281474976710656) (h : Lib.atoiAll s.data.toList = .range) (ev : Value) (w : World) (hv : w.cell? ⟨1, 0, none⟩ = some ev) (hev : ev = .nilIface ∨ ∃ te pe, ev = .iface te pe) :
    Calls Tryz.prog 32 #[.string s] w fun e w' => ∃ N, e = .returned (.tuple #[.int .i64 (Lib.atoiSat s.data.toList), .iface 111 (.pointer (some ⟨N, 0, none⟩))]) ∧ w.heap.size ≤ N ∧ w'.heap[N]? = some (.cells #[.string ⟨#[65, 116, 111, 105]⟩, .string s, ev] 127 (0, 0)) ∧ Below w.heap.size w w' := Any.strconv_Atoi_range sh_laysC172 s hlim h ev w hv hev
def sh_lays169_ren : Go.Shelf.Ren := ⟨fun | 169 => 36 | n => n, fun | 70 => 60 | 9 => 9 | 0 => 0 | 72 => 62 | 37 => 49 | 127 => 103 | 3 => 3 | 5 => 5 | n => n, fun | n => n⟩
theorem sh_lays169 : Go.Proofs.Lays.n169 Tryz.prog sh_lays169_ren := {
  mixed := by kernel_rfl
  f169 := Tryz.func36.trans (congrArg some (by kernel_rfl))
  t0 := Tryz.underlying0
  a0 := Tryz.isAgg0
  z0 := Tryz.sizeOf0
  v0 := Tryz.zeroValue0
  t3 := Tryz.underlying3
  a3 := Tryz.isAgg3
  z3 := Tryz.sizeOf3
  v3 := Tryz.zeroValue3
  t9 := Tryz.underlying9
  a9 := Tryz.isAgg9
  z9 := Tryz.sizeOf9
  v9 := Tryz.zeroValue9
  t37 := Tryz.underlying49
  a37 := Tryz.isAgg49
  z37 := Tryz.sizeOf49
  v37 := Tryz.zeroValue49
  t70 := Tryz.underlying60
  a70 := Tryz.isAgg60
  z70 := Tryz.sizeOf60
  v70 := Tryz.zeroValue60
  t72 := Tryz.underlying62
  a72 := Tryz.isAgg62
  z72 := Tryz.sizeOf62
  v72 := Tryz.zeroValue62
  t127 := Tryz.underlying103
  a127 := Tryz.isAgg103
  z127 := Tryz.sizeOf103
  v127 := Tryz.zeroValue103 }
theorem sh_Builder_Extra_169 : Builder.Extra Tryz.prog sh_lays169_ren := {
  sizeBuilder := by kernel_rfl
  liesBuilder := by kernel_rfl
  t5 := Tryz.underlying5
  a5 := Tryz.isAgg5
  z5 := Tryz.sizeOf5
  v5 := Tryz.zeroValue5
  infoByte := by kernel_rfl
  cellsByte := by kernel_rfl
  sizeByte := by kernel_rfl
  neB5 := by decide }
open Go.RowKit in
/-- (*strings.Builder).String: "String returns the accumulated string.": WHATEVER THE BUILDER HOLDS. (LAID: no walk: one application.) -/
theorem sh_Builder_String_any (B b : Nat) (l : List UInt8) (w : World) (h : Lib.IsBuilder 62 5 B b (Lib.byteCells l) w) (hBw : B ≤ w.heap.size) :
    Calls Tryz.prog 36 #[.pointer (some ⟨b, 0, none⟩)] w fun e w' => e = .returned (.string ⟨l.toArray⟩) ∧ Below B w w' := Any.Builder_String_any sh_lays169 sh_Builder_Extra_169 B b l w h hBw
def sh_laysNm216_ren : Go.Shelf.Ren := ⟨fun | 16 => 40 | n => n, fun | 24 => 30 | 9 => 9 | 4 => 4 | n => n, fun | n => n⟩
theorem sh_laysNm216 : Go.Proofs.Lays2.n16 Tryz.prog sh_laysNm216_ren := {
  mixed := by kernel_rfl
  f16 := Tryz.func40.trans (congrArg some (by kernel_rfl))
  t4 := Tryz.underlying4
  a4 := Tryz.isAgg4
  z4 := Tryz.sizeOf4
  v4 := Tryz.zeroValue4
  t9 := Tryz.underlying9
  a9 := Tryz.isAgg9
  z9 := Tryz.sizeOf9
  v9 := Tryz.zeroValue9
  t24 := Tryz.underlying30
  a24 := Tryz.isAgg30
  z24 := Tryz.sizeOf30
  v24 := Tryz.zeroValue30
  i9 := by kernel_rfl }
open Go.RowKit Go.Lib in
/-- slices.Clone at []string: "Clone returns a copy of the slice. The elements are copied using assignment, so this is a shallow clone. The result may have additional unused capacity. The result preserves the nilness of s.": OF A SLICE THAT IS NOT nil IT RETURNS A SLICE THAT IS NOT nil, OF THE SAME ELEMENTS, IN MEMORY OF THE CALL's OWN: in the how-to's words (6f): 'w'.ownsRow B e 1 v' n cells': v' begins at the head of a row among the blocks from B on (B: the heap's size at the call), not frozen, whose first cells are the elements · 'Below B w w'': below B all is as it was. The capacity is whatever the run-time gives. 'zs': what the cells behind the slice's address hold; 'zs.take n': its elements. (LAID: no walk: one application.) -/
theorem sh_slices_Clone_string (b off n c : Nat) (zs : List ByteArray) (w : World) (hz : n ≤ zs.length) (hbig : n * 16 ≤ 140737488355328) (hc : ∀ j, j < zs.length → w.cell? ⟨b, off + j, none⟩ = some (.string (zs.getD j ByteArray.empty))) :
    Calls Tryz.prog 40 #[.slice (some ⟨b, off, none⟩) n c] w fun e w' => ∃ v', e = .returned v' ∧ w'.ownsRow w.heap.size 9 1 v' n ((zs.take n).map (Value.string)) ∧ v' ≠ .slice none 0 0 ∧ Below w.heap.size w w' := Any.slices_Clone_string sh_laysNm216 b off n c zs w hz hbig hc
open Go.RowKit Go.Lib in
/-- The same at nil: nil comes back; the world is as it was. (LAID: no walk: one application.) -/
theorem sh_slices_Clone_string_nil (n c : Nat) (w : World) :
    Calls Tryz.prog 40 #[.slice none n c] w fun e w' => e = .returned (.slice none 0 0) ∧ w' = w := Any.slices_Clone_string_nil sh_laysNm216 n c w
open Go.RowKit Go.Lib in
/-- The same at a slice of length 0 that is not nil, WHATEVER ITS ADDRESS (no cell is asked for): a slice that is not nil and owns nothing comes back. (LAID: no walk: one application.) -/
theorem sh_slices_Clone_string_zero (a : Addr) (c : Nat) (w : World) :
    Calls Tryz.prog 40 #[.slice (some a) 0 c] w fun e w' => ∃ v', e = .returned v' ∧ w'.ownsRow w.heap.size 9 1 v' 0 [] ∧ v' ≠ .slice none 0 0 ∧ Below w.heap.size w w' := Any.slices_Clone_string_zero sh_laysNm216 a c w
end Go.Proofs.YtieicjjmkedgaaaGreatDoor

/- A region that draws its order, walked by a plan: some moves first, then operations that only read, in the order of the text, then operations that come up one at a time. Over any program. -/
namespace Go.Proofs.YtieicjjmkedgaaaGreatDoor
open Go.RowKit

section
variable {P : Program} {ops : Array Oper} {md : Region.Mode} {Q : Exit → Act → World → Prop} {w : World}

/-- Operation t waits for operation g, through others if need be. -/
def reachB (md : Region.Mode) (ops : Array Oper) : Nat → Nat → Nat → Bool
  | 0, _, _ => false
  | f + 1, t, g => match ops[t]? with
    | some o => o.after.any fun e => Region.binds md e && (e.on == g || reachB md ops f e.on g)
    | none => false

def Closed (md : Region.Mode) (ops : Array Oper) (listed : Array Bool) : Prop :=
  ∀ j oj, ops[j]? = some oj → listed.getD j false = true → ∀ e ∈ oj.after, Region.binds md e = true → listed.getD e.on false = true

theorem reach_not {listed : Array Bool} (hc : Closed md ops listed) {g : Nat} (hg : listed.getD g false = false) :
    ∀ (f t : Nat), reachB md ops f t g = true → listed.getD t false = false ∧ t ∉ Region.ready md ops listed := by
  intro f
  induction f with
  | zero => intro t h; cases h
  | succ f ih =>
    intro t h
    unfold reachB at h
    cases ho : ops[t]? with
    | none => rw [ho] at h; cases h
    | some o =>
      rw [ho] at h
      obtain ⟨e, he, hb⟩ := Array.any_eq_true'.1 h
      simp only [Bool.and_eq_true, Bool.or_eq_true, beq_iff_eq] at hb
      have hon : listed.getD e.on false = false := by
        rcases hb.2 with h1 | h1
        · rw [h1]; exact hg
        · exact (ih e.on h1).1
      refine ⟨?_, fun hr => ?_⟩
      · cases hl : listed.getD t false with
        | false => rfl
        | true => rw [hc t o ho hl e he hb.1] at hon; cases hon
      · obtain ⟨_, o', ho', hall⟩ := mem_ready.1 hr
        have : o' = o := Option.some.inj (ho'.symm.trans ho)
        subst this
        rw [hall e he hb.1] at hon
        cases hon

theorem Closed.set {i : Nat} {listed : Array Bool} (hc : Closed md ops listed) (hi : i ∈ Region.ready md ops listed) : Closed md ops (listed.setIfInBounds i true) := by
  obtain ⟨_, oi, hoi, hall⟩ := mem_ready.1 hi
  intro j oj hoj hl e he hb
  by_cases hij : i = j
  · subst hij
    have : oj = oi := Option.some.inj (hoj.symm.trans hoi)
    subst this
    exact getD_set_true (hall e he hb)
  · rw [getD_set_ne false hij] at hl
    exact getD_set_true (hc j oj hoj hl e he hb)

/-- Each operation is listed, or of G, or waits for all of G. -/
def AllWait (md : Region.Mode) (ops : Array Oper) (G : List Nat) (listed : Array Bool) : Prop :=
  ∀ t, t ∈ Region.ready md ops listed → t ∈ G ∨ ∀ g ∈ G, listed.getD g false = true

def wpAnyG (P : Program) (md : Region.Mode) (ops : Array Oper) (w : World) (L : Array Bool → Act → Prop) : Nat → Array Bool → Act → Prop
  | 0, listed, a => L listed a
  | f + 1, listed, a => Region.ready md ops listed ≠ [] ∧ ∀ i ∈ Region.ready md ops listed, stOp P ops w i (wpAnyG P md ops w L f (listed.setIfInBounds i true)) a

theorem wpAny_of_G {g : Nat} {L : Array Bool → Act → Prop} (hL : ∀ listed a, L listed a → wpAny P md ops Q g listed a w) :
    ∀ (f : Nat) (listed : Array Bool) (a : Act), wpAnyG P md ops w L f listed a → wpAny P md ops Q (f + g) listed a w
  | 0, listed, a, h => by rw [Nat.zero_add]; exact hL _ _ h
  | f + 1, listed, a, h => by
    rw [show f + 1 + g = (f + g) + 1 by omega]
    exact ⟨fun h0 => absurd h0 h.1, fun i hi => wpOp_of_stOp (fun a' h' => wpAny_of_G hL f _ a' h') (h.2 i hi)⟩

/-- What an operation outside the group must wait for. -/
def waitB (md : Region.Mode) (ops : Array Oper) (rest : List Nat) (hs : List Nat) : Bool := rest.all fun t => hs.all fun g => reachB md ops ops.size t g

theorem wpAnyG_first {i : Nat} {oi : Oper} {v : Value} {L : Array Bool → Act → Prop} {hs rest : List Nat} (hi : ops[i]? = some oi) (hsel : ∀ (j : Nat) (o : Oper) cs b, ops[j]? = some o → o.op ≠ .select cs b)
    (hin : i ∈ hs) (hw : waitB md ops rest hs = true)
    (hdone : ∀ listed a, L listed a → ∀ j ∈ Region.ready md ops listed, j ∈ rest) :
    ∀ (f : Nat) (listed : Array Bool) (a : Act), Closed md ops listed →
      (∀ j oj, ops[j]? = some oj → j ≠ i → listed.getD j true = false → (∀ e ∈ oj.after, Region.binds md e = true → e.on ≠ i) → oi.apart ops oj = true) →
      i ∈ Region.ready md ops listed → YieldsAt P ops w oi v a →
      wpAnyG P md ops w L f (listed.setIfInBounds i true) (a.put oi.dst v) → wpAnyG P md ops w L (f + 1) listed a := by
  intro f
  induction f with
  | zero =>
    intro listed a hc _ hr hy H
    have hun := (mem_ready.1 hr).1
    refine ⟨fun h => (by rw [h] at hr; cases hr), fun j hj => ?_⟩
    by_cases hji : j = i
    · subst hji; exact hy.stOp hi H
    · have h1 := hdone _ _ H j (ready_mono hj hji)
      have h2 : reachB md ops ops.size j i = true := List.all_eq_true.1 (List.all_eq_true.1 hw j h1) i hin
      exact absurd hj (reach_not hc (getD_both hun) _ _ h2).2
  | succ f ih =>
    intro listed a hc hfree hr hy H
    have hun := (mem_ready.1 hr).1
    refine ⟨fun h => (by rw [h] at hr; cases hr), fun j hj => ?_⟩
    by_cases hji : j = i
    · subst hji; exact hy.stOp hi H
    · have h1 := H.2 j (ready_mono hj hji)
      obtain ⟨hjun, oj, hoj, hall⟩ := mem_ready.1 hj
      have hnot : ∀ e ∈ oj.after, Region.binds md e = true → e.on ≠ i := fun e he hb heq => by
        have h1 := hall e he hb
        rw [heq, getD_both hun] at h1
        cases h1
      have h2 := stOp_put hoj (hfree j oj hoj hji hjun hnot) (fun cs b => hsel i oi cs b hi) (fun cs b => hsel j oj cs b hoj) hy h1
      have hfree' : ∀ k ok, ops[k]? = some ok → k ≠ i → (listed.setIfInBounds j true).getD k true = false →
          (∀ e ∈ ok.after, Region.binds md e = true → e.on ≠ i) → oi.apart ops ok = true := fun k ok hk hki hun hno => by
        refine hfree k ok hk hki ?_ hno
        by_cases hjk : j = k
        · subst hjk; exact hjun
        · rw [getD_set_ne true hjk] at hun; exact hun
      refine stOp_mono (fun a' h3 => ih (listed.setIfInBounds j true) a' (hc.set hj) hfree' (ready_mono hr (Ne.symm hji)) h3.1 ?_) h2
      rw [Array.setIfInBounds_comm _ _ hji]
      exact h3.2

/-- Some operations of a list. -/
def pick (l : List Oper) : List Nat → List Oper
  | [] => []
  | i :: is => (l.drop i).head?.toList ++ pick l is

def headB (md : Region.Mode) (ops : Array Oper) : List Nat → Array Bool → Option (Array Bool)
  | [], listed => some listed
  | k :: ks, listed => if (Region.ready md ops listed).contains k && Region.free md ops listed k then headB md ops ks (listed.setIfInBounds k true) else none

theorem drop_head (l : List Oper) (i : Nat) : (l.drop i).head? = l[i]? := by simp [List.head?_drop]

theorem wpAnyG_lex {l : List Oper} {Lq : Act → Prop} {hs rest : List Nat} {listed2 : Array Bool} (hsel : Region.noSelect l.toArray = true) (hw : waitB md l.toArray rest hs = true)
    (hend : ∀ j ∈ Region.ready md l.toArray listed2, j ∈ rest) :
    ∀ (ks : List Nat) (listed : Array Bool) (a : Act), (∀ k ∈ ks, k ∈ hs) → Closed md l.toArray listed → headB md l.toArray ks listed = some listed2 →
    wpStill P l.toArray w Lq (pick l ks) a → wpAnyG P md l.toArray w (fun listed' a' => listed' = listed2 ∧ Lq a') ks.length listed a
  | [], listed, a, _, _, hB, h => by
    simp only [headB, Option.some.injEq] at hB
    exact ⟨hB, h⟩
  | k :: ks, listed, a, hk, hc, hB, h => by
    unfold headB at hB
    split at hB
    · rename_i hrf
      simp only [Bool.and_eq_true] at hrf
      have hr' : k ∈ Region.ready md l.toArray listed := by simpa using hrf.1
      obtain ⟨_, o, h0, _⟩ := mem_ready.1 hr'
      have hp : pick l (k :: ks) = o :: pick l ks := by
        have : l[k]? = some o := by simpa using h0
        simp [pick, this]
      rw [hp] at h
      have hst : stOp P l.toArray w k (wpStill P l.toArray w Lq (pick l ks)) a := by unfold stOp; simp only [h0]; exact h
      obtain ⟨v, hy, hK⟩ := yieldsAt_of_stOp h0 hst
      exact wpAnyG_first (hs := hs) (rest := rest) h0 (Region.noSelect_spec hsel) (hk k (by simp)) hw (fun listed' a' hL => by rw [hL.1]; exact hend) ks.length listed a hc (Region.free_spec h0 hrf.2) hr' hy
        (wpAnyG_lex hsel hw hend ks _ _ (fun k' h' => hk k' (by simp [h'])) (hc.set hr') hB hK)
    · cases hB

def isMove : Option Oper → Bool
  | some ⟨_, .move _, _, _, _, none⟩ => true
  | _ => false
theorem isMove_spec {o : Oper} (h : isMove (some o) = true) : ∃ x, o.op = .move x ∧ o.guard = none := by
  obtain ⟨d, op, ty, pos, after, guard⟩ := o
  unfold isMove at h
  split at h
  · rename_i heq
    injection heq with heq
    injection heq with _ h1 _ _ _ h2
    exact ⟨_, h1, h2⟩
  · cases h
/-- The moves that are done first. -/
def preB (md : Region.Mode) (l : List Oper) : List Nat → Array Bool → Option (Array Bool)
  | [], listed => some listed
  | k :: ks, listed => if (Region.ready md l.toArray listed).contains k && Region.free md l.toArray listed k && isMove l[k]? then preB md l ks (listed.setIfInBounds k true) else none
def putMoves (l : List Oper) : List Nat → Act → Act
  | [], a => a
  | k :: ks, a => match (l.drop k).head? with
    | some ⟨d, .move x, _, _, _, _⟩ => putMoves l ks (a.put d (a.eval x))
    | _ => putMoves l ks a

theorem wpAny_pre {l : List Oper} (hsel : Region.noSelect l.toArray = true) (hQ : ∀ c (d : Option Tmp) (v : Value) a w, Q (.panic c) (a.put d v) w → Q (.panic c) a w) {listed1 : Array Bool} {g : Nat} :
    ∀ (ks : List Nat) (listed : Array Bool) (a : Act), preB md l ks listed = some listed1 → wpAny P md l.toArray Q g listed1 (putMoves l ks a) w → wpAny P md l.toArray Q (ks.length + g) listed a w
  | [], listed, a, hB, h => by
    simp only [preB, Option.some.injEq] at hB
    subst hB
    simpa [putMoves] using h
  | k :: ks, listed, a, hB, h => by
    unfold preB at hB
    split at hB
    · rename_i hrf
      simp only [Bool.and_eq_true] at hrf
      obtain ⟨⟨hr, hf⟩, hm⟩ := hrf
      have hr' : k ∈ Region.ready md l.toArray listed := by simpa using hr
      obtain ⟨_, o, h0, _⟩ := mem_ready.1 hr'
      have h0' : l[k]? = some o := by simpa using h0
      rw [h0'] at hm
      obtain ⟨x, hop, hgd⟩ := isMove_spec hm
      rw [show (k :: ks).length + g = (ks.length + g) + 1 by simp; omega]
      refine wpAny_take h0 hsel hf hr (fun c a w => hQ c _ _ a w) (v := a.eval x) (.inl ⟨by simp [Region.wanted, hgd], fun w' => by unfold execOp; rw [hop]; rfl⟩) ?_
      refine wpAny_pre hsel hQ ks _ _ hB ?_
      have : putMoves l (k :: ks) a = putMoves l ks (a.put o.dst (a.eval x)) := by
        obtain ⟨d, op, ty, pos, after, guard⟩ := o
        simp only at hop
        subst hop
        simp [putMoves, h0']
      rw [this] at h
      exact h
    · cases hB

/-- What comes up one at a time. -/
def tailB (md : Region.Mode) (ops : Array Oper) : List Nat → Array Bool → Bool
  | [], listed => (Region.ready md ops listed).isEmpty
  | t :: ts, listed => decide (Region.ready md ops listed = [t]) && tailB md ops ts (listed.setIfInBounds t true)

theorem wpAny_tail {l : List Oper} : ∀ (ts : List Nat) (listed : Array Bool) (a : Act) (w : World), tailB md l.toArray ts listed = true → wpList P l.toArray Q (pick l ts) a w →
    wpAny P md l.toArray Q ts.length listed a w
  | [], _, _, _, hB, h => ⟨by simpa [tailB] using hB, h⟩
  | t :: ts, listed, a, w, hB, h => by
    simp only [tailB, Bool.and_eq_true, decide_eq_true_eq] at hB
    have hr' : t ∈ Region.ready md l.toArray listed := by rw [hB.1]; simp
    obtain ⟨_, o, h0, _⟩ := mem_ready.1 hr'
    have hp : pick l (t :: ts) = o :: pick l ts := by
      have : l[t]? = some o := by simpa using h0
      simp [pick, this]
    rw [hp] at h
    refine ⟨fun h1 => (by rw [hB.1] at h1; cases h1), fun i hi => ?_⟩
    rw [hB.1] at hi
    obtain rfl : i = t := by simpa using hi
    have hw : wpOp P l.toArray Q i (wpList P l.toArray Q (pick l ts)) a w := by unfold wpOp; simp only [h0]; exact h
    exact wpOp_mono (fun a' w' h' => wpAny_tail ts _ a' w' hB.2 h') hw

def planB (l : List Oper) (pre hs ts : List Nat) : Bool :=
  Region.noSelect l.toArray && decide (pre.length + hs.length + ts.length = l.length) && waitB .any l.toArray ts hs &&
  match preB .any l pre (Array.replicate l.length false) with
  | none => false
  | some l1 => match headB .any l.toArray hs l1 with
    | none => false
    | some l2 => ((Region.ready .any l.toArray l2).all fun j => ts.contains j) && tailB .any l.toArray ts l2

theorem preB_closed {l : List Oper} : ∀ (ks : List Nat) (listed listed1 : Array Bool), Closed md l.toArray listed → preB md l ks listed = some listed1 → Closed md l.toArray listed1
  | [], _, _, hc, hB => by simp only [preB, Option.some.injEq] at hB; subst hB; exact hc
  | k :: ks, listed, listed1, hc, hB => by
    unfold preB at hB
    split at hB
    · rename_i hrf
      simp only [Bool.and_eq_true] at hrf
      exact preB_closed ks _ _ (hc.set (by simpa using hrf.1.1)) hB
    · cases hB

/-- A REGION THAT DRAWS ITS ORDER, BY A PLAN: the moves 'pre' first, then the operations 'hs', which only read, then 'ts', which come up one at a time. -/
theorem wp_region_plan {id : Nat} {l : List Oper} {a : Act} (pre hs ts : List Nat) (hm : P.follows .mixedOrders = true) (hB : planB l pre hs ts = true)
    (hQ : ∀ c (d : Option Tmp) (v : Value) a w, Q (.panic c) (a.put d v) w → Q (.panic c) a w)
    (h : wpStill P l.toArray w.drew (fun a' => wpList P l.toArray Q (pick l ts) a' w.drew) (pick l hs) (putMoves l pre a)) : (Code.region id l.toArray true).wp P Q a w := by
  simp only [planB, Bool.and_eq_true, decide_eq_true_eq] at hB
  obtain ⟨⟨⟨hsel, hlen⟩, hw⟩, hrest⟩ := hB
  cases h1 : preB .any l pre (Array.replicate l.length false) with
  | none => rw [h1] at hrest; cases hrest
  | some l1 =>
    rw [h1] at hrest
    simp only at hrest
    cases h2 : headB .any l.toArray hs l1 with
    | none => rw [h2] at hrest; cases hrest
    | some l2 =>
      rw [h2] at hrest
      simp only [Bool.and_eq_true] at hrest
      have hc0 : Closed .any l.toArray (Array.replicate l.length false) := fun j oj _ hl => by rw [getD_replicate_false] at hl; cases hl
      have hc1 := preB_closed pre _ _ hc0 h1
      refine wp_region_any hm ?_
      have hsz : l.toArray.size = pre.length + (hs.length + ts.length) := by simp; omega
      rw [hsz, show pre.length + (hs.length + ts.length) = l.length by omega, show l.length = pre.length + (hs.length + ts.length) by omega]
      have key := wpAnyG_lex (P := P) (w := w.drew) (Lq := fun a' => wpList P l.toArray Q (pick l ts) a' w.drew) hsel hw (fun j hj => by simpa using List.all_eq_true.1 hrest.1 j hj) hs l1 (putMoves l pre a) (fun k hk => hk) hc1 h2 h
      have k2 := wpAny_of_G (Q := Q) (g := ts.length) (fun listed' a' hL => by
        obtain ⟨rfl, hL⟩ := hL
        exact wpAny_tail ts _ _ _ hrest.2 hL) hs.length l1 _ key
      have k3 := wpAny_pre (Q := Q) hsel hQ pre _ a h1 k2
      have : l.length = pre.length + (hs.length + ts.length) := by omega
      rw [← this] at k3 ⊢
      exact k3

/-! ### Reads that hold as long as S does, taken first; calls that keep S; then the rest -/
def wpAnyE (P : Program) (md : Region.Mode) (ops : Array Oper) (Q : Exit → Act → World → Prop) (S : World → Prop) (late : Nat → Bool) : Nat → Array Bool → Act → World → Prop
  | 0, listed, a, w => Region.ready md ops listed = [] ∧ Q .normal a w
  | fuel + 1, listed, a, w =>
    (Region.ready md ops listed = [] → Q .normal a w) ∧
    ∀ i ∈ Region.ready md ops listed, wpOp P ops Q i (fun a' w' => (late i = false → S w') ∧ wpAnyE P md ops Q S late fuel (listed.setIfInBounds i true) a' w') a w

theorem wpAny_of_E {S : World → Prop} {late : Nat → Bool} : ∀ (fuel : Nat) (listed : Array Bool) (a : Act) (w : World), wpAnyE P md ops Q S late fuel listed a w → wpAny P md ops Q fuel listed a w
  | 0, _, _, _, h => h
  | fuel + 1, _, _, _, h => ⟨h.1, fun i hi => wpOp_mono (fun a' w' h' => wpAny_of_E fuel _ a' w' h'.2) (h.2 i hi)⟩

theorem wpAnyE_first {S : World → Prop} {late : Nat → Bool} {i : Nat} {oi : Oper} {v : Value} (hi : ops[i]? = some oi) (hsel : ∀ (j : Nat) (o : Oper) cs b, ops[j]? = some o → o.op ≠ .select cs b)
    (hQ : ∀ c a w, Q (.panic c) (a.put oi.dst v) w → Q (.panic c) a w) (hlate : ∀ j, late j = true → reachB md ops ops.size j i = true) (hli : late i = false) :
    ∀ (fuel : Nat) (listed : Array Bool) (a : Act) (w : World), Closed md ops listed →
      (∀ j oj, ops[j]? = some oj → j ≠ i → listed.getD j true = false → (∀ e ∈ oj.after, Region.binds md e = true → e.on ≠ i) → oi.apart ops oj = true) →
      i ∈ Region.ready md ops listed → YieldsIf P ops S oi v a → S w →
      wpAnyE P md ops Q S late fuel (listed.setIfInBounds i true) (a.put oi.dst v) w → wpAnyE P md ops Q S late (fuel + 1) listed a w := by
  intro fuel
  induction fuel with
  | zero =>
    intro listed a w hc _ hr hy hS H
    refine ⟨fun h => (by rw [h] at hr; cases hr), fun j hj => ?_⟩
    by_cases hji : j = i
    · subst hji; exact hy.wpOp hi hS ⟨fun _ => hS, H⟩
    · have := ready_mono hj hji
      rw [H.1] at this
      cases this
  | succ fuel ih =>
    intro listed a w hc hfree hr hy hS H
    refine ⟨fun h => (by rw [h] at hr; cases hr), fun j hj => ?_⟩
    by_cases hji : j = i
    · subst hji; exact hy.wpOp hi hS ⟨fun _ => hS, H⟩
    · have h1 := H.2 j (ready_mono hj hji)
      have hun := (mem_ready.1 hr).1
      have hlj : late j = false := by
        cases hl : late j with
        | false => rfl
        | true => exact absurd hj (reach_not hc (getD_both hun) _ _ (hlate j hl)).2
      obtain ⟨hjun, oj, hoj, hall⟩ := mem_ready.1 hj
      have hnot : ∀ e ∈ oj.after, Region.binds md e = true → e.on ≠ i := fun e he hb heq => by
        have h1 := hall e he hb
        rw [heq, getD_both hun] at h1
        cases h1
      have h2 := wpOp_putIf hoj (hfree j oj hoj hji hjun hnot) (fun cs b => hsel i oi cs b hi) (fun cs b => hsel j oj cs b hoj) hQ hy h1
      have hfree' : ∀ k ok, ops[k]? = some ok → k ≠ i → (listed.setIfInBounds j true).getD k true = false →
          (∀ e ∈ ok.after, Region.binds md e = true → e.on ≠ i) → oi.apart ops ok = true := fun k ok hk hki hun hno => by
        refine hfree k ok hk hki ?_ hno
        by_cases hjk : j = k
        · subst hjk; exact hjun
        · rw [getD_set_ne true hjk] at hun; exact hun
      refine wpOp_mono (fun a' w' h3 => ⟨fun _ => h3.2.1 hlj, ih (listed.setIfInBounds j true) a' w' (hc.set hj) hfree' (ready_mono hr (Ne.symm hji)) h3.1 (h3.2.1 hlj) ?_⟩) h2
      rw [Array.setIfInBounds_comm _ _ hji]
      exact h3.2.2

/-- The reads, one behind the other: each yields in every world that meets S. -/
def wpHeld (P : Program) (ops : Array Oper) (S : World → Prop) (K : Act → Prop) : List Oper → Act → Prop
  | [], a => K a
  | o :: rest, a => ∃ v, YieldsIf P ops S o v a ∧ wpHeld P ops S K rest (a.put o.dst v)

theorem wpHeld_nil {S : World → Prop} {K : Act → Prop} {a : Act} (h : K a) : wpHeld P ops S K [] a := h
theorem wpHeld_step {S : World → Prop} {K : Act → Prop} {a : Act} {o : Oper} {rest : List Oper} (v : Value) (hg : o.guard = none) (h : ∀ w, S w → (execOp a.eval o).run P w = .ok (.value v) w) (hK : wpHeld P ops S K rest (a.put o.dst v)) :
    wpHeld P ops S K (o :: rest) a := ⟨v, .inl ⟨by simp [Region.wanted, hg], h⟩, hK⟩

/-- What may come between the reads: behind each S holds. -/
def wpEarly (P : Program) (ops : Array Oper) (S : World → Prop) (Q : Exit → Act → World → Prop) (K : Act → World → Prop) : List Oper → Act → World → Prop
  | [], a, w => K a w
  | o :: rest, a, w => wpList P ops (Exit.then (fun a' w' => S w' ∧ wpEarly P ops S Q K rest a' w') Q) [o] a w

theorem wpOp_of_one {i : Nat} {o : Oper} {K : Act → World → Prop} {a : Act} (hi : ops[i]? = some o) (h : wpList P ops (Exit.then K Q) [o] a w) : wpOp P ops Q i K a w := by
  unfold wpOp
  simp only [hi]
  unfold wpList at h
  split
  · rename_i hw
    rw [if_pos hw] at h
    rcases h with h | ⟨h1, a0, w0, h2⟩
    · left
      unfold Oper.wp at *
      generalize (execOp a.eval o).run P w = r at *
      cases r with
      | ok n w' =>
        cases n <;> simp only [Oper.upon] at h ⊢ <;>
          first
            | exact h
            | exact Calls.mono h (fun e w'' he => by cases e <;> first | exact he | (obtain ⟨a1, w1, h1⟩ := he; exact ⟨a1, w1, h1⟩))
            | exact Rows.mono h (fun _ _ he => he)
      | halt x w' => cases x <;> simp only [Oper.upon] at h ⊢ <;> exact h
    · exact .inr ⟨h1, a0, w0, h2⟩
  · rename_i hw
    rw [if_neg hw] at h
    exact h

def heldB (l : List Oper) (hs es fs : List Nat) : Bool :=
  Region.noSelect l.toArray && decide (hs.length + es.length + fs.length = l.length) && waitB .any l.toArray fs hs && (hs.all fun i => !fs.contains i) &&
  match headB .any l.toArray hs (Array.replicate l.length false) with
  | none => false
  | some l2 => tailB .any l.toArray (es ++ fs) l2

theorem wpAnyE_tail {l : List Oper} {S : World → Prop} {late : Nat → Bool} : ∀ (ts : List Nat) (listed : Array Bool) (a : Act) (w : World), (∀ t ∈ ts, late t = true) → tailB md l.toArray ts listed = true → wpList P l.toArray Q (pick l ts) a w →
    wpAnyE P md l.toArray Q S late ts.length listed a w
  | [], _, _, _, _, hB, h => ⟨by simpa [tailB] using hB, h⟩
  | t :: ts, listed, a, w, hl, hB, h => by
    simp only [tailB, Bool.and_eq_true, decide_eq_true_eq] at hB
    have hr' : t ∈ Region.ready md l.toArray listed := by rw [hB.1]; simp
    obtain ⟨_, o, h0, _⟩ := mem_ready.1 hr'
    have hp : pick l (t :: ts) = o :: pick l ts := by
      have : l[t]? = some o := by simpa using h0
      simp [pick, this]
    rw [hp] at h
    refine ⟨fun h1 => (by rw [hB.1] at h1; cases h1), fun i hi => ?_⟩
    rw [hB.1] at hi
    obtain rfl : i = t := by simpa using hi
    have hw : wpOp P l.toArray Q i (wpList P l.toArray Q (pick l ts)) a w := by unfold wpOp; simp only [h0]; exact h
    exact wpOp_mono (fun a' w' h' => ⟨fun h2 => (by rw [hl i (by simp)] at h2; cases h2), wpAnyE_tail ts _ a' w' (fun t ht => hl t (by simp [ht])) hB.2 h'⟩) hw

theorem wpAnyE_early {l : List Oper} {S : World → Prop} {late : Nat → Bool} {fs : List Nat} (hl : ∀ t ∈ fs, late t = true) : ∀ (es : List Nat) (listed : Array Bool) (a : Act) (w : World), tailB md l.toArray (es ++ fs) listed = true →
    wpEarly P l.toArray S Q (fun a w => wpList P l.toArray Q (pick l fs) a w) (pick l es) a w → wpAnyE P md l.toArray Q S late (es.length + fs.length) listed a w
  | [], listed, a, w, hB, h => by
    rw [List.length_nil, Nat.zero_add]
    exact wpAnyE_tail fs listed a w hl hB h
  | t :: ts, listed, a, w, hB, h => by
    simp only [List.cons_append, tailB, Bool.and_eq_true, decide_eq_true_eq] at hB
    have hr' : t ∈ Region.ready md l.toArray listed := by rw [hB.1]; simp
    obtain ⟨_, o, h0, _⟩ := mem_ready.1 hr'
    have hp : pick l (t :: ts) = o :: pick l ts := by
      have : l[t]? = some o := by simpa using h0
      simp [pick, this]
    rw [hp] at h
    rw [show (t :: ts).length + fs.length = (ts.length + fs.length) + 1 by simp; omega]
    refine ⟨fun h1 => (by rw [hB.1] at h1; cases h1), fun i hi => ?_⟩
    rw [hB.1] at hi
    obtain rfl : i = t := by simpa using hi
    exact wpOp_mono (fun a' w' h' => ⟨fun _ => h'.1, wpAnyE_early hl ts _ a' w' hB.2 h'.2⟩) (wpOp_of_one h0 h)

theorem wpAnyE_held {l : List Oper} {S : World → Prop} {late : Nat → Bool} {K : Act → Prop} {hs : List Nat} {listed2 : Array Bool} {g : Nat} (hsel : Region.noSelect l.toArray = true) (hQ : ∀ c (d : Option Tmp) (v : Value) a w, Q (.panic c) (a.put d v) w → Q (.panic c) a w)
    (hlate : ∀ j i, i ∈ hs → late j = true → reachB md l.toArray l.toArray.size j i = true) (hln : ∀ i ∈ hs, late i = false) (hS : S w)
    (hK : ∀ a, K a → wpAnyE P md l.toArray Q S late g listed2 a w) :
    ∀ (ks : List Nat) (listed : Array Bool) (a : Act), (∀ k ∈ ks, k ∈ hs) → Closed md l.toArray listed → headB md l.toArray ks listed = some listed2 →
    wpHeld P l.toArray S K (pick l ks) a → wpAnyE P md l.toArray Q S late (ks.length + g) listed a w
  | [], listed, a, _, _, hB, h => by
    simp only [headB, Option.some.injEq] at hB
    subst hB
    rw [List.length_nil, Nat.zero_add]
    exact hK a h
  | k :: ks, listed, a, hk, hc, hB, h => by
    unfold headB at hB
    split at hB
    · rename_i hrf
      simp only [Bool.and_eq_true] at hrf
      have hr' : k ∈ Region.ready md l.toArray listed := by simpa using hrf.1
      obtain ⟨_, o, h0, _⟩ := mem_ready.1 hr'
      have hp : pick l (k :: ks) = o :: pick l ks := by
        have : l[k]? = some o := by simpa using h0
        simp [pick, this]
      rw [hp] at h
      obtain ⟨v, hy, hr⟩ := h
      rw [show (k :: ks).length + g = (ks.length + g) + 1 by simp; omega]
      exact wpAnyE_first h0 (Region.noSelect_spec hsel) (fun c a w => hQ c _ _ a w) (fun j => hlate j k (hk k (by simp))) (hln k (hk k (by simp))) _ listed a w hc (Region.free_spec h0 hrf.2) hr' hy hS
        (wpAnyE_held hsel hQ hlate hln hS hK ks _ _ (fun k' h' => hk k' (by simp [h'])) (hc.set hr') hB hr)
    · cases hB

/-- A REGION THAT DRAWS ITS ORDER: the reads 'hs', whose values hold as long as S does, first; then 'es', behind each of which S holds; then 'fs', which wait for all reads. -/
theorem wp_region_hold {id : Nat} {l : List Oper} {a : Act} (S : World → Prop) (hs es fs : List Nat) (hm : P.follows .mixedOrders = true) (hB : heldB l hs es fs = true)
    (hQ : ∀ c (d : Option Tmp) (v : Value) a w, Q (.panic c) (a.put d v) w → Q (.panic c) a w) (hS : S w.drew)
    (h : wpHeld P l.toArray S (fun a' => wpEarly P l.toArray S Q (fun a w => wpList P l.toArray Q (pick l fs) a w) (pick l es) a' w.drew) (pick l hs) a) : (Code.region id l.toArray true).wp P Q a w := by
  simp only [heldB, Bool.and_eq_true, decide_eq_true_eq] at hB
  obtain ⟨⟨⟨⟨hsel, hlen⟩, hw⟩, hnf⟩, hrest⟩ := hB
  cases h2 : headB .any l.toArray hs (Array.replicate l.length false) with
  | none => rw [h2] at hrest; cases hrest
  | some l2 =>
    rw [h2] at hrest
    simp only at hrest
    have hc0 : Closed .any l.toArray (Array.replicate l.length false) := fun j oj _ hl => by rw [getD_replicate_false] at hl; cases hl
    refine wp_region_any hm ?_
    have key := wpAnyE_held (P := P) (Q := Q) (md := .any) (w := w.drew) (S := S) (late := fun j => fs.contains j) (hs := hs) (g := es.length + fs.length) hsel hQ
      (fun j i hi hj => List.all_eq_true.1 (List.all_eq_true.1 hw j (by simpa using hj)) i hi) (fun i hi => by simpa using List.all_eq_true.1 hnf i hi) hS
      (fun a' ha' => wpAnyE_early (fun t ht => by simpa using ht) es l2 a' w.drew hrest ha') hs (Array.replicate l.length false) a (fun k hk => hk) hc0 h2 h
    have k3 := wpAny_of_E _ _ _ _ key
    have : l.length = hs.length + (es.length + fs.length) := by omega
    rw [← this] at k3
    have hsz : l.toArray.size = l.length := by simp
    rw [hsz]
    exact k3
end
end Go.Proofs.YtieicjjmkedgaaaGreatDoor

/- Laws for the walk, over any program: copy into a block that is known whole, the world behind it a variable. -/
namespace Go.Proofs.YtieicjjmkedgaaaGreatDoor
open Go.RowKit

/-- bytes as cells -/
def bc (l : List UInt8) : List Value := l.map fun b => Value.int .u8 (b.toNat : Int)
theorem bc_len (l : List UInt8) : (bc l).length = l.length := by simp [bc]
theorem bc_one (l : List UInt8) : ∀ v ∈ bc l, v.oneCell' = true := by
  intro v hv; simp [bc] at hv; obtain ⟨b, _, rfl⟩ := hv; rfl
theorem bc_at (l : List UInt8) (j : Nat) : (bc l)[j]? = (l[j]?).map fun b => Value.int .u8 (b.toNat : Int) := by simp [bc]
theorem bc_take (l : List UInt8) (n : Nat) : (bc l).take n = bc (l.take n) := by simp [bc, List.map_take]
theorem bc_drop (l : List UInt8) (n : Nat) : (bc l).drop n = bc (l.drop n) := by simp [bc, List.map_drop]
theorem bc_app (l m : List UInt8) : bc (l ++ m) = bc l ++ bc m := by simp [bc]
theorem bc_splice (l m : List UInt8) (k : Nat) : splice (bc l) k (bc m) = bc (splice l k m) := by simp [splice, bc, List.map_take, List.map_drop]

section
variable {P : Program} {w : World} {ops : Array Oper} {rest : List Oper} {o : Oper} {a : Act} {Q : Exit → Act → World → Prop}

theorem only_setRow (w : World) (g : Nat) (cs : Array Value) : Only (· = g) w (w.setRow g cs) :=
  ⟨rfl, rfl, rfl, by simp [World.setRow], fun i _ hn => setRow_other w g i cs hn⟩
theorem size_setRow (w : World) (g : Nat) (cs : Array Value) : (w.setRow g cs).heap.size = w.heap.size := by simp [World.setRow]

/-- copy(dst, src), both slices: dst lies in block g from off on, src at ad; both have at least cs.length elements, and one has no more. -/
theorem wpList_copy_blk (hgd : o.guard = none) (d s : Operand) (dT sT : TypeId)
    (ho : o.op = .call { callee := .builtin .copy, args := #[d, s], argTypes := #[dT, sT] }) (elem : TypeId) (hu : P.underlying dT = some (.slice elem)) (hsz : (P.info? elem).map (·.size) = some 1)
    (g off dLen dCap : Nat) (ad : Addr) (sLen sCap : Nat) (hd : a.eval d = .slice (some ⟨g, off, none⟩) dLen dCap) (hs : a.eval s = .slice (some ad) sLen sCap)
    (cur : List Value) (t : TypeId) (hg : Blk w g t cur.toArray) (cs : List Value) (hn : cs.length = Nat.min sLen dLen)
    (hsrc : ∀ j v, cs[j]? = some v → w.cell? (ad.add j) = some v) (hfit : off + cs.length ≤ cur.length) (h1 : ∀ v ∈ cs, v.oneCell' = true)
    (h : ∀ w', Blk w' g t (splice cur off cs).toArray → Only (· = g) w w' → w.heap.size ≤ w'.heap.size → wpList P ops Q rest (a.put o.dst (goInt cs.length)) w') : wpList P ops Q (o :: rest) a w := by
  refine wpList_copy_own hgd d s dT sT ho elem hu hsz g off dLen dCap ad sLen sCap hd hs cur.toArray t hg cs hn hsrc (by simpa using hfit) h1 ?_
  exact h _ (by simpa [splice, Blk] using setRow_heap w g _ _ t _ hg) (only_setRow _ _ _) (by rw [size_setRow]; exact Nat.le_refl _)

/-- copy(dst, text): the text fits. -/
theorem wpList_copy_str (hgd : o.guard = none) (d s : Operand) (dT sT : TypeId)
    (ho : o.op = .call { callee := .builtin .copy, args := #[d, s], argTypes := #[dT, sT] }) (elem : TypeId) (hu : P.underlying dT = some (.slice elem)) (hsz : (P.info? elem).map (·.size) = some 1)
    (g off dLen dCap : Nat) (x : ByteArray) (hd : a.eval d = .slice (some ⟨g, off, none⟩) dLen dCap) (hs : a.eval s = .string x)
    (cur : List Value) (t : TypeId) (hg : Blk w g t cur.toArray) (hle : x.size ≤ dLen) (hfit : off + x.size ≤ cur.length)
    (h : ∀ w', Blk w' g t (splice cur off (bc x.data.toList)).toArray → Only (· = g) w w' → w.heap.size ≤ w'.heap.size → wpList P ops Q rest (a.put o.dst (goInt x.size)) w') : wpList P ops Q (o :: rest) a w := by
  refine wpList_plain hgd fun K hK => ?_
  have hrun := Lib.run_copy_row_string (P := P) w dT sT o.type elem g off dLen dCap x cur.toArray t hu hsz hg hle (by simpa using hfit)
  unfold Oper.wp
  simp [execOp, ho, resolve, invoke, builtin, hd, hs, hrun, Result.andThen]
  refine hK _ _ (h _ ?_ (only_setRow _ _ _) (by rw [size_setRow]; exact Nat.le_refl _))
  have := setRow_heap w g cur.toArray (splice cur off (bc x.data.toList)).toArray t _ hg
  have hx : x.data.size = x.size := rfl
  simpa [splice, bc, Lib.byteCells, hx, Blk] using this

theorem run_max2 (x y z : Int) (h : z = max x y) (ts : Array TypeId) (t : TypeId) (W : World) : (Builtin.max_ ts t #[.int .i64 x, .int .i64 y]).run P W = .ok (.int .i64 z) W := by
  rw [run_max_int2]; congr 2; subst h; split <;> omega
theorem run_min2 (x y z : Int) (h : z = min x y) (ts : Array TypeId) (t : TypeId) (W : World) : (Builtin.min_ ts t #[.int .i64 x, .int .i64 y]).run P W = .ok (.int .i64 z) W := by
  rw [run_min_int2]; congr 2; subst h; split <;> omega

theorem ext_take (t : ByteArray) (m : Nat) : (t.extract 0 m).data.toList = t.data.toList.take m := by simp [ByteArray.data_extract]
theorem ext_size (t : ByteArray) (i j : Nat) (hj : j ≤ t.size) : (t.extract i j).size = j - i := by simp [ByteArray.size_extract]; omega

/-- string(b[off:off+len]) of a block that is known whole. -/
theorem run_string_of_blk (W : World) (src dst e g : Nat) (t : TypeId) (hs : P.underlying src = some (.slice e)) (he : P.underlying e = some (.int .u8)) (hd : P.underlying dst = some .string)
    (off len cap : Nat) (l : List UInt8) (hb : Blk W g t (bc l).toArray) (hl : off + len ≤ l.length) :
    (convert src dst (.slice (some ⟨g, off, none⟩) len cap)).run P W = .ok (.string ⟨((l.drop off).take len).toArray⟩) W := by
  have hlen : ((l.drop off).take len).length = len := by simp; omega
  have := run_convert_bytes_arg (P := P) W src e hs he g off len cap (((l.drop off).take len).map fun b => (b.toNat : Int)) (by simpa using hlen) (fun i hi => by
    rw [hb.cell (off + i)]
    have : i < ((l.drop off).take len).length := by omega
    simp only [List.getElem?_toArray, bc_at]
    rw [List.getElem?_eq_getElem (by omega)]
    simp [List.getD, hi, List.getElem?_drop, List.getElem?_eq_getElem (show off + i < l.length by omega)]) dst hd
  rw [this]
  congr 2
  unfold strOfNums
  congr 2
  rw [List.map_map]
  have hid : ((fun n : Int => UInt8.ofNat n.toNat) ∘ fun b : UInt8 => (b.toNat : Int)) = id := by funext b; simp
  rw [hid, List.map_id]

/-- make([]T, n), one cell an element. -/
theorem run_make_one (t e : TypeId) (z : Value) (b : Nat) (ht : P.underlying t = some (.slice e)) (hinfo : (P.info? e).map (fun i => (i.zero, i.size, i.bytes)) = some (some z, 1, b)) (hz1 : z.cells = #[z])
    (x : Int) (n : Nat) (hx : x = n) (hb : b * n ≤ 281474976710656) (hn : n ≤ 9223372036854775807) (W : World) :
    (Instr.makeSlice t (.int .i64 x) (.int .i64 x)).run P W = .ok (.slice (some ⟨W.heap.size, 0, none⟩) n n) (W.alloc (.cells (List.replicate n z).toArray e)) := by
  subst hx
  obtain ⟨i, hi, h1, h2, h3⟩ := info_parts hinfo
  have hb' : (i.bytes : Int) * (n : Int) ≤ 281474976710656 := by
    rw [h3]
    have h : ((b * n : Nat) : Int) ≤ 281474976710656 := by omega
    rwa [Int.natCast_mul] at h
  have hr := run_make (P := P) W t e i z ht hi h1 .i64 .i64 n n (by omega) (by omega) hb' (by omega)
  simp only [Int.toNat_natCast] at hr
  rw [hr, h2, hz1, Nat.mul_one]
  have : madeCells #[z] n = (List.replicate n z).toArray := by
    apply Array.toList_inj.1
    rw [toList_madeCells_one]
  rw [this]

/-- x[lo:hi] inside the capacity, one cell an element. -/
theorem run_slice_in (t e : TypeId) (ht : P.underlying t = some (.slice e)) (hs : (P.info? e).map (·.size) = some 1) (g off len cap : Nat) (lo hi : Int) (x y : Nat) (hlo : lo = x) (hhi : hi = y)
    (hxy : x ≤ y) (hy : y ≤ cap) (hx : x < cap) (W : World) :
    (Instr.slice t (.slice (some ⟨g, off, none⟩) len cap) (some (.int .i64 lo)) (some (.int .i64 hi)) none).run P W = .ok (.slice (some ⟨g, off + x, none⟩) (y - x) (cap - x)) W := by
  subst hlo hhi
  have ht' : P.underlying t = some (.slice (P.elem t)) := by simp [Program.elem, ht]
  have he : P.elem t = e := by simp [Program.elem, ht]
  rw [run_slice_lh W t _ len cap ht' .i64 .i64 x y (by omega) (by omega) (by omega), he]
  cases hq : P.info? e with
  | none => simp [hq] at hs
  | some i =>
    have hi : i.size = 1 := by simpa [hq] using hs
    simp [sizeOf, typeInfo, hq, Result.andThen, sliced, hi, Addr.add]
    split
    · omega
    · split
      · subst_vars; simp
      · rfl

/-- A region that draws its order, all of whose operations but the last few only read: in the order of the text. -/
theorem wp_region_tail {id : Nat} {l : List Oper} (n : Nat) (hm : P.follows .mixedOrders = true) (hB : Region.lexTailB .any l.toArray n = true)
    (h : wpStill P l.toArray w.drew (fun a' => wpList P l.toArray Q (l.drop n) a' w.drew) (l.take n) a) : (Code.region id l.toArray true).wp P Q a w :=
  wp_region_still_tail n hm hB h
end
end Go.Proofs.YtieicjjmkedgaaaGreatDoor

/- The digest: mix, a block taken, the digits. -/
namespace Go.Proofs.YtieicjjmkedgaaaGreatDoor
open Go.RowKit Go.Shelf

theorem mul_any (w : World) (x y : Nat) (hx : x < 18446744073709551616) (hy : y < 18446744073709551616) : Calls Tryz.prog 111 #[.int .u64 x, .int .u64 y] w fun e w' => e = .returned (.tuple #[.int .u64 ((x * y / 18446744073709551616 : Nat) : Int), .int .u64 ((x * y % 18446744073709551616 : Nat) : Int)]) ∧ w = w' :=
  (sh_bits_Mul64 x y hx hy w).mono fun _ _ ⟨he, hw⟩ => ⟨he, hw.symm⟩

set_option maxRecDepth 100000 in
theorem mix_any (w : World) (x : Nat) (hx : x < two64) : Calls Tryz.prog 106 #[.int .u64 x] w fun e w' => e = .returned (.int .u64 (mixN x : Nat)) ∧ w = w' := by
  have m1 := fun W => mul_any W x 6364136223846793005 hx (by decide)
  obtain ⟨a, ha⟩ : ∃ a : Nat, x * 6364136223846793005 % 18446744073709551616 = a := ⟨_, rfl⟩
  have la : a < 18446744073709551616 := by rw [← ha]; exact Nat.mod_lt _ (by decide)
  rw [ha] at m1
  obtain ⟨z, hz⟩ : ∃ z : Nat, x * 6364136223846793005 / 18446744073709551616 = z := ⟨_, rfl⟩
  rw [hz] at m1
  obtain ⟨b, hb⟩ : ∃ b : Nat, a ^^^ (a / 2147483648) = b := ⟨_, rfl⟩
  have lb : b < 18446744073709551616 := by rw [← hb]; exact Nat.xor_lt_two_pow (n := 64) (by omega) (by omega)
  have e1 : bits .xor .u64 (a : Int) ((a : Int) / 2147483648) = (b : Int) := by
    rw [show ((a : Int) / 2147483648) = ((a / 2147483648 : Nat) : Int) by omega, bits_xor_u64_nat _ _ la (by omega), hb]
  have m2 := fun W => mul_any W b 3202034522624059733 lb (by decide)
  obtain ⟨c, hc⟩ : ∃ c : Nat, b * 3202034522624059733 % 18446744073709551616 = c := ⟨_, rfl⟩
  have lc : c < 18446744073709551616 := by rw [← hc]; exact Nat.mod_lt _ (by decide)
  rw [hc] at m2
  obtain ⟨y, hy⟩ : ∃ y : Nat, b * 3202034522624059733 / 18446744073709551616 = y := ⟨_, rfl⟩
  rw [hy] at m2
  obtain ⟨d, hd⟩ : ∃ d : Nat, c ^^^ (c / 1073741824) = d := ⟨_, rfl⟩
  have e2 : bits .xor .u64 (c : Int) ((c : Int) / 1073741824) = (d : Int) := by
    rw [show ((c : Int) / 1073741824) = ((c / 1073741824 : Nat) : Int) by omega, bits_xor_u64_nat _ _ lc (by omega), hd]
  have hm : mixN x = d := by
    unfold mixN two64
    simp only [Nat.shiftRight_eq_div_pow]
    rw [ha, show a / 2 ^ 31 = a / 2147483648 from rfl, hb, hc, show c / 2 ^ 30 = c / 1073741824 from rfl, hd]
  rw [hm]
  have M1 := Lib.hid m1
  have M2 := Lib.hid m2
  clear m1 m2 ha hb hc hd hz hy hm hx
  go_enter Tryz.func106, Tryz.ntmps106
  go_wp2_with fail
  refine (M1.out _).mono ?_
  rintro e w1 ⟨rfl, rfl⟩
  go_wp2_with fail
  refine (M2.out _).mono ?_
  rintro e w1 ⟨rfl, rfl⟩
  go_wp2
  go_ret
  exact ⟨rfl, rfl⟩

/-- The eight bytes of a block. -/
def blk8 (l : List UInt8) : List UInt8 := (l ++ List.replicate 8 0).take 8
theorem blk8_len (l : List UInt8) : (blk8 l).length = 8 := by simp [blk8]
theorem valF_snoc (l : List UInt8) (b : UInt8) : valF 0 (l ++ [b]) = valF 0 l * 256 + b.toNat := by
  unfold valF; rw [List.foldl_append]; rfl
theorem or_byte {n b : Nat} (hb : b < 256) : n * 256 ||| b = n * 256 + b := by
  have := Nat.two_pow_add_eq_or_of_lt (i := 8) hb n
  rw [show (2 : Nat) ^ 8 = 256 from rfl, Nat.mul_comm] at this
  exact this.symm
theorem splice_blk8 {l : List UInt8} (h : l.length ≤ 8) : splice (bc (List.replicate 8 0)) 0 (bc l) = bc (blk8 l) := by
  unfold splice blk8
  rw [List.take_zero, List.nil_append, Nat.zero_add, bc_len]
  unfold bc
  rw [← List.map_drop, ← List.map_append]
  congr 1
  rw [List.take_append, List.take_of_length_le h, List.drop_replicate, List.take_replicate]
  congr 2
  omega

set_option maxRecDepth 100000 in
set_option maxHeartbeats 2000000 in
theorem take_any (w : World) (gs : Nat) (st : Nat) (hst : st < two64) (hg : Blk w gs 123 #[.int .u64 st]) (p : ByteArray) (hp : p.size ≤ 8) :
    Calls Tryz.prog 105 #[.string p, .pointer (some ⟨gs, 0, none⟩)] w fun e w' => e = .returned (.tuple #[]) ∧ Blk w' gs 123 #[.int .u64 (mixN (st ^^^ blockN p.data.toList) : Nat)] ∧ Only (· = gs) w w' := by
  have hl := len_bytes p
  have h8 := splice_blk8 (l := p.data.toList) (by omega)
  have hB := blk8_len p.data.toList
  have hbl : blockN p.data.toList = valF 0 (blk8 p.data.toList) := rfl
  rw [hbl]
  have kb : Blk (w.alloc (.cells #[.int .u8 0, .int .u8 0, .int .u8 0, .int .u8 0, .int .u8 0, .int .u8 0, .int .u8 0, .int .u8 0] 129)) w.heap.size 129 (bc (List.replicate 8 0)).toArray := Blk.new w 129 _
  have kg := hg.alloc (.cells #[.int .u8 0, .int .u8 0, .int .u8 0, .int .u8 0, .int .u8 0, .int .u8 0, .int .u8 0, .int .u8 0] 129)
  have O1 := (Only.refl (· = gs) w).alloc (.cells #[.int .u8 0, .int .u8 0, .int .u8 0, .int .u8 0, .int .u8 0, .int .u8 0, .int .u8 0, .int .u8 0] 129)
  have hgl := hg.lt
  generalize blk8 p.data.toList = B at *
  obtain ⟨r, hr⟩ : ∃ r, mixN (st ^^^ valF 0 B) = r := ⟨_, rfl⟩
  rw [hr]
  have HR := Lib.hid hr
  clear hr
  have HP := Lib.hid hp
  have HL := Lib.hid hl
  have H8 := Lib.hid h8
  have HB := Lib.hid hB
  clear hp hl h8 hB hbl
  go_enter Tryz.func105, Tryz.ntmps105
  go_wp2_with (refine wpList_copy_str rfl (.tmp 6) (.tmp 7) _ _ rfl 5 (by kernel_rfl) (by kernel_rfl) w.heap.size 0 8 8 p rfl rfl (bc (List.replicate 8 0)) _ kb HP.out (by have := HP.out; simp [bc_len]; omega) ?_; intro w2 kb2 O2 s2)
  rw [H8.out] at kb2
  have kg2 := O2.blk kg (Nat.ne_of_lt hgl)
  have O3 : Only (· = gs) w w2 := O1.trans O2 (fun i hi => .inr (by rw [hi]; exact Nat.le_refl _))
  have hgn : gs ≠ w.heap.size := Nat.ne_of_lt hgl
  clear kb kg O1 O2 s2 hg
  have KB := Lib.hid kb2
  clear kb2
  go_loopw [9, 4] (fun i n wr => wr = w2 ∧ ∃ k : Nat, k ≤ 8 ∧ i = .int .i64 (k : Int) ∧ n = .int .u64 (valF 0 (B.take k) : Nat)) (fun i _ _ => 8 - (intOf i).toNat)
  case atStart => exact ⟨rfl, 0, by omega, rfl, rfl⟩
  case round =>
    obtain ⟨rfl, k, hk, rfl, rfl⟩ := hrel
    by_cases hlt : k < 8
    · obtain ⟨b, hb⟩ : ∃ b, B[k]? = some b := ⟨_, List.getElem?_eq_getElem (by rw [HB.out]; exact hlt)⟩
      have htk : B.take (k + 1) = B.take k ++ [b] := by
        obtain ⟨h1, h2⟩ := List.getElem?_eq_some_iff.1 hb
        rw [List.take_succ_eq_append_getElem h1, h2]
      have hval := valF_snoc (B.take k) b
      rw [← htk] at hval
      have hlt2 := val_lt (B.take k)
      rw [List.length_take, HB.out, Nat.min_eq_left (by omega)] at hlt2
      have h7 : 256 ^ k ≤ 256 ^ 7 := Nat.pow_le_pow_right (by decide) (by omega)
      have h77 : 256 ^ 7 = 72057594037927936 := rfl
      have cb := KB.out.cell k
      have hbt := b.toNat_lt
      rw [show ((bc B).toArray)[k]? = some (.int .u8 (b.toNat : Int)) by rw [List.getElem?_toArray, bc_at, hb]; rfl] at cb
      obtain ⟨n, hn⟩ : ∃ n, valF 0 (B.take k) = n := ⟨_, rfl⟩
      obtain ⟨m, hm⟩ : ∃ m, valF 0 (B.take (k + 1)) = m := ⟨_, rfl⟩
      rw [hn] at hval hlt2
      rw [hm] at hval
      have hn7 : n < 72057594037927936 := by omega
      have e1 : bits .or .u64 ((n : Int) * 256) (b.toNat : Int) = (m : Int) := by
        rw [show ((n : Int) * 256) = ((n * 256 : Nat) : Int) by omega, bits_or_u64_nat _ _ (by omega) (by omega), or_byte (by omega), ← hval]
      have HM := Lib.hid hm
      rw [hn]
      clear hb htk hval hlt2 h7 h77 hn hm
      go_wp2
      go_roundw
      case rel => exact ⟨by first | trivial | rfl, k + 1, by omega, by go_num, by rw [HM.out]⟩
      case measure => simp [intOf]; omega
    · obtain rfl : k = 8 := by omega
      rw [List.take_of_length_le (by rw [HB.out]; exact Nat.le_refl _)]
      have hv8 := val_lt B
      rw [HB.out] at hv8
      obtain ⟨n, hn⟩ : ∃ n, valF 0 B = n := ⟨_, rfl⟩
      rw [hn] at hv8 ⊢
      have h88 : 256 ^ 8 = 18446744073709551616 := rfl
      rw [h88] at hv8
      have hx : st ^^^ n < two64 := xor_lt hst hv8
      have e1 : bits .xor .u64 (st : Int) (n : Int) = ((st ^^^ n : Nat) : Int) := bits_xor_u64_nat _ _ hst hv8
      have hmx := fun W => mix_any W (st ^^^ n) hx
      have hr := HR.out
      rw [hn] at hr
      rw [hr] at hmx
      clear hr
      generalize st ^^^ n = x at *
      obtain ⟨c0, c1, c2⟩ := kg2.all
      have HMX := Lib.hid hmx
      clear hmx hn h88
      go_wp2_with fail
      refine (HMX.out _).mono ?_
      rintro e w3 ⟨rfl, rfl⟩
      have kg3 : Blk (wr.setCell ⟨gs, 0, none⟩ (.int .u64 r)) gs 123 #[.int .u64 r] := kg2.set_ 0 _
      have O4 := O3.setCell (p := ⟨gs, 0, none⟩) (.inl rfl) (.int .u64 r)
      go_wp2
      go_end0
      exact ⟨rfl, kg3, O4⟩
end Go.Proofs.YtieicjjmkedgaaaGreatDoor
