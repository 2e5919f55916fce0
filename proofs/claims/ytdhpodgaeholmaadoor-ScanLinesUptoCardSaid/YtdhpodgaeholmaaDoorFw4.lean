/-
  A part of the proof: what the given program's functions answer, each once; conditions that are enough for it.
-/
import Derived.Shelf.Strings.Builder1
import Derived.Shelf.Strings.Builder2
import Derived.Shelf.Strings.OnBuilder
import Derived.Shelf.Strings.TrimSpace
import Derived.Shelf.Small.Utf8
import Derived.Shelf.Strings.BuilderF
import Derived.Shelf.Strings.BuilderK
import Derived.Shelf.Utf8.RuneCount
import Derived.Shelf.Strings.Builder2Cap
import Derived.Shelf.Strconv.Itoa0
import Derived.Shelf.Strconv.Itoa1
import Derived.Shelf.LaysM
import Derived.Shelf.Strconv.Itoa2
import Derived.Shelf.Strconv.Itoa3
import Derived.Shelf.Strconv.Itoa4
import Derived.Shelf.Strconv.Clone
import Derived.Shelf.Strconv.SyntaxError
import Derived.Shelf.Strconv.Lower
import Derived.Shelf.Strconv.ParseUint10
import Derived.Shelf.Strconv.ParseUint10Empty
import Derived.Shelf.Strconv.RangeError
import Derived.Shelf.Strconv.ParseUintEmpty
import Derived.Shelf.Strconv.ParseUint10b64
import Derived.Shelf.Strconv.ParseUint10b32
import Derived.Shelf.Strconv.ParseUint10b16
import Derived.Shelf.Strconv.ParseUint10b8
import Derived.Shelf.Strings.Search1
import Derived.Shelf.Strings.Search2
import Derived.Shelf.Strings.Search3
import Derived.Shelf.Strings.Cut
import Derived.Shelf.Strings.Count
import Derived.Shelf.Strings.Shaped
import Derived.Shelf.Strings.Prefix
import Derived.Shelf.Strings.Split
import Derived.Shelf.Strings.SplitShaped
import Derived.Shelf.Unicode.Latin
import Derived.Shelf.Unicode.Decode
import Derived.Shelf.Strings.RuneCount
import Derived.Shelf.Strings.Explode
import Derived.Shelf.Unicode.DecodeSlow
import Derived.Shelf.Unicode.DecodeAny
import Derived.Shelf.Unicode.Is16White
import Derived.Shelf.Unicode.IsSpaceAny
import Derived.Shelf.Unicode.DecodeLast
import Derived.Shelf.Unicode.Is16WhiteD
import Derived.Shelf.Unicode.Is16Any
import Derived.Shelf.Unicode.Is32Any
import Derived.Shelf.Unicode.ExclAny
import Derived.Shelf.Slices.Turned
import Derived.Test.YtdhpodgaeholmaaDoorProg
import Derived.Test.YtdhpodgaeholmaaDoorFw3
import Derived.JoinedCond
import Derived.Deep.DeepHandedRow
import Derived.Lay
/-
  The shelf's contracts at this program (written by lay-shelf.mjs, lay-plain.mjs; trimmed by trimshelf.py).
-/
namespace Go.Proofs
open Go.Shelf
def Tryd.lays156_ren : Go.Shelf.Ren := ⟨fun | 156 => 70 | 165 => 91 | 166 => 53 | 169 => 55 | 240 => 81 | 241 => 107 | 276 => 97 | 277 => 129 | n => n, fun | 31 => 80 | 9 => 9 | 3 => 3 | 4 => 4 | 0 => 0 | 20 => 20 | 72 => 100 | 76 => 104 | 70 => 98 | 37 => 43 | 75 => 103 | 127 => 141 | 164 => 153 | 5 => 5 | 80 => 106 | n => n, fun | n => n⟩
theorem Tryd.lays156 : Go.Proofs.Lays.n156 Tryd.prog Tryd.lays156_ren := {
  mixed := by kernel_rfl
  f156 := Tryd.func70.trans (congrArg some (by kernel_rfl))
  f165 := Tryd.func91.trans (congrArg some (by kernel_rfl))
  f166 := Tryd.func53.trans (congrArg some (by kernel_rfl))
  f169 := Tryd.func55.trans (congrArg some (by kernel_rfl))
  f240 := Tryd.func81.trans (congrArg some (by kernel_rfl))
  f241 := Tryd.func107.trans (congrArg some (by kernel_rfl))
  f276 := Tryd.func97.trans (congrArg some (by kernel_rfl))
  f277 := Tryd.func129.trans (congrArg some (by kernel_rfl))
  t0 := Tryd.underlying0
  a0 := Tryd.isAgg0
  z0 := Tryd.sizeOf0
  v0 := Tryd.zeroValue0
  t3 := Tryd.underlying3
  a3 := Tryd.isAgg3
  z3 := Tryd.sizeOf3
  v3 := Tryd.zeroValue3
  t4 := Tryd.underlying4
  a4 := Tryd.isAgg4
  z4 := Tryd.sizeOf4
  v4 := Tryd.zeroValue4
  t9 := Tryd.underlying9
  a9 := Tryd.isAgg9
  z9 := Tryd.sizeOf9
  v9 := Tryd.zeroValue9
  t20 := Tryd.underlying20
  a20 := Tryd.isAgg20
  z20 := Tryd.sizeOf20
  v20 := Tryd.zeroValue20
  t31 := Tryd.underlying80
  a31 := Tryd.isAgg80
  z31 := Tryd.sizeOf80
  v31 := Tryd.zeroValue80
  t37 := Tryd.underlying43
  a37 := Tryd.isAgg43
  z37 := Tryd.sizeOf43
  v37 := Tryd.zeroValue43
  t70 := Tryd.underlying98
  a70 := Tryd.isAgg98
  z70 := Tryd.sizeOf98
  v70 := Tryd.zeroValue98
  t72 := Tryd.underlying100
  a72 := Tryd.isAgg100
  z72 := Tryd.sizeOf100
  v72 := Tryd.zeroValue100
  t75 := Tryd.underlying103
  a75 := Tryd.isAgg103
  z75 := Tryd.sizeOf103
  v75 := Tryd.zeroValue103
  t76 := Tryd.underlying104
  a76 := Tryd.isAgg104
  z76 := Tryd.sizeOf104
  v76 := Tryd.zeroValue104
  t127 := Tryd.underlying141
  a127 := Tryd.isAgg141
  z127 := Tryd.sizeOf141
  v127 := Tryd.zeroValue141
  t164 := Tryd.underlying153
  a164 := Tryd.isAgg153
  z164 := Tryd.sizeOf153
  v164 := Tryd.zeroValue153 }
theorem Tryd.Builder_Extra_156 : Builder.Extra Tryd.prog Tryd.lays156_ren := {
  sizeBuilder := by kernel_rfl
  liesBuilder := by kernel_rfl
  t5 := Tryd.underlying5
  a5 := Tryd.isAgg5
  z5 := Tryd.sizeOf5
  v5 := Tryd.zeroValue5
  infoByte := by kernel_rfl
  cellsByte := by kernel_rfl
  sizeByte := by kernel_rfl
  neB5 := by decide }
open Go.RowKit in
theorem Tryd.strings_Join_none (a : Option Addr) (c : Nat) (sep : ByteArray) (w : World) :
    Calls Tryd.prog 70 #[.slice a 0 c, .string sep] w fun e w' => e = .returned (.string ⟨#[]⟩) ∧ w' = w := Any.strings_Join_none Tryd.lays156 Tryd.Builder_Extra_156 a c sep w
open Go.RowKit in
theorem Tryd.strings_Join (bk o c : Nat) (xs : List ByteArray) (sep : ByteArray) (w : World) (hcells : ∀ (j : Nat) x, xs[j]? = some x → w.cell? ⟨bk, o + j, none⟩ = some (.string x)) (hbk : bk < w.heap.size) (hN : xs.length ≤ 140737488355328) (hcap : xs.length ≤ c) (hlen : (Lib.join (xs.map (·.data.toList)) sep.data.toList).length ≤ 140737488355328) :
    Calls Tryd.prog 70 #[.slice (some ⟨bk, o, none⟩) xs.length c, .string sep] w fun e w' => e = .returned (.string ⟨(Lib.join (xs.map (·.data.toList)) sep.data.toList).toArray⟩) ∧ Below w.heap.size w w' := Any.strings_Join Tryd.lays156 Tryd.Builder_Extra_156 bk o c xs sep w hcells hbk hN hcap hlen
def Tryd.laysM171_ren : Go.Shelf.Ren := ⟨fun | 171 => 40 | 243 => 74 | 246 => 95 | 283 => 110 | 284 => 111 | 285 => 112 | 286 => 113 | 129 => 133 | 317 => 132 | 318 => 134 | 319 => 135 | 320 => 136 | 337 => 142 | 338 => 143 | n => n, fun | 3 => 3 | 9 => 9 | 2 => 2 | 4 => 4 | 171 => 163 | 0 => 0 | 53 => 145 | 37 => 43 | 5 => 5 | 173 => 166 | 212 => 187 | 51 => 89 | 20 => 20 | 213 => 188 | 46 => 139 | 232 => 205 | 233 => 206 | n => n, fun | 17 => 3 | 18 => 8 | 19 => 9 | n => n⟩
theorem Tryd.laysM171 : Go.Proofs.LaysM.n171 Tryd.prog Tryd.laysM171_ren := {
  mixed := by kernel_rfl
  f129 := Tryd.func133.trans (congrArg some (by kernel_rfl))
  f171 := Tryd.func40.trans (congrArg some (by kernel_rfl))
  f243 := Tryd.func74.trans (congrArg some (by kernel_rfl))
  f246 := Tryd.func95.trans (congrArg some (by kernel_rfl))
  f283 := Tryd.func110.trans (congrArg some (by kernel_rfl))
  f284 := Tryd.func111.trans (congrArg some (by kernel_rfl))
  f285 := Tryd.func112.trans (congrArg some (by kernel_rfl))
  f286 := Tryd.func113.trans (congrArg some (by kernel_rfl))
  f317 := Tryd.func132.trans (congrArg some (by kernel_rfl))
  f318 := Tryd.func134.trans (congrArg some (by kernel_rfl))
  f319 := Tryd.func135.trans (congrArg some (by kernel_rfl))
  f320 := Tryd.func136.trans (congrArg some (by kernel_rfl))
  f337 := Tryd.func142.trans (congrArg some (by kernel_rfl))
  f338 := Tryd.func143.trans (congrArg some (by kernel_rfl))
  t0 := Tryd.underlying0
  a0 := Tryd.isAgg0
  z0 := Tryd.sizeOf0
  v0 := Tryd.zeroValue0
  t2 := Tryd.underlying2
  a2 := Tryd.isAgg2
  z2 := Tryd.sizeOf2
  v2 := Tryd.zeroValue2
  t3 := Tryd.underlying3
  a3 := Tryd.isAgg3
  z3 := Tryd.sizeOf3
  v3 := Tryd.zeroValue3
  t4 := Tryd.underlying4
  a4 := Tryd.isAgg4
  z4 := Tryd.sizeOf4
  v4 := Tryd.zeroValue4
  t5 := Tryd.underlying5
  a5 := Tryd.isAgg5
  z5 := Tryd.sizeOf5
  v5 := Tryd.zeroValue5
  t9 := Tryd.underlying9
  a9 := Tryd.isAgg9
  z9 := Tryd.sizeOf9
  v9 := Tryd.zeroValue9
  t20 := Tryd.underlying20
  a20 := Tryd.isAgg20
  z20 := Tryd.sizeOf20
  v20 := Tryd.zeroValue20
  t37 := Tryd.underlying43
  a37 := Tryd.isAgg43
  z37 := Tryd.sizeOf43
  v37 := Tryd.zeroValue43
  t46 := Tryd.underlying139
  a46 := Tryd.isAgg139
  z46 := Tryd.sizeOf139
  v46 := Tryd.zeroValue139
  t51 := Tryd.underlying89
  a51 := Tryd.isAgg89
  z51 := Tryd.sizeOf89
  v51 := Tryd.zeroValue89
  t53 := Tryd.underlying145
  a53 := Tryd.isAgg145
  z53 := Tryd.sizeOf145
  v53 := Tryd.zeroValue145
  t171 := Tryd.underlying163
  a171 := Tryd.isAgg163
  z171 := Tryd.sizeOf163
  v171 := Tryd.zeroValue163
  t173 := Tryd.underlying166
  a173 := Tryd.isAgg166
  z173 := Tryd.sizeOf166
  v173 := Tryd.zeroValue166
  t212 := Tryd.underlying187
  a212 := Tryd.isAgg187
  z212 := Tryd.sizeOf187
  v212 := Tryd.zeroValue187
  t213 := Tryd.underlying188
  a213 := Tryd.isAgg188
  z213 := Tryd.sizeOf188
  t232 := Tryd.underlying205
  a232 := Tryd.isAgg205
  z232 := Tryd.sizeOf205
  v232 := Tryd.zeroValue205
  t233 := Tryd.underlying206
  a233 := Tryd.isAgg206
  z233 := Tryd.sizeOf206
  v233 := Tryd.zeroValue206
  g17 := by kernel_rfl
  g18 := by kernel_rfl
  g19 := by kernel_rfl
  i0 := by kernel_rfl
  i2 := by kernel_rfl
  i3 := by kernel_rfl
  i4 := by kernel_rfl
  i5 := by kernel_rfl
  i9 := by kernel_rfl
  i20 := by kernel_rfl
  i37 := by kernel_rfl
  i46 := by kernel_rfl
  i51 := by kernel_rfl
  i53 := by kernel_rfl
  i171 := by kernel_rfl
  i173 := by kernel_rfl
  i212 := by kernel_rfl
  i232 := by kernel_rfl
  i233 := by kernel_rfl
  m17 := by kernel_rfl
  m18 := by kernel_rfl
  m19 := by kernel_rfl }
open Go.RowKit Go.Sort Go.Lib in
theorem Tryd.strconv_Itoa (n : Int) (h0 : -9223372036854775808 ≤ n) (h1 : n ≤ 9223372036854775807) (w : World) (htab : Lib.TabIs Tryd.prog w "internal/strconv.uint64pow10" .u64 Lib.pow10Tab) :
    Calls Tryd.prog 40 #[.int .i64 n] w fun e w' => e = .returned (.string ⟨(Lib.itoa n).toArray⟩) ∧ ∃ k os, w' = grow (w.drewN k) os := Any.strconv_Itoa Tryd.laysM171 n h0 h1 w htab
def Tryd.laysM316_ren : Go.Shelf.Ren := ⟨fun | 316 => 140 | n => n, fun | 9 => 9 | 3 => 3 | 4 => 4 | 37 => 43 | 0 => 0 | 127 => 141 | 5 => 5 | n => n, fun | n => n⟩
theorem Tryd.laysM316 : Go.Proofs.LaysM.n316 Tryd.prog Tryd.laysM316_ren := {
  mixed := by kernel_rfl
  f316 := Tryd.func140.trans (congrArg some (by kernel_rfl))
  t0 := Tryd.underlying0
  a0 := Tryd.isAgg0
  z0 := Tryd.sizeOf0
  v0 := Tryd.zeroValue0
  t3 := Tryd.underlying3
  a3 := Tryd.isAgg3
  z3 := Tryd.sizeOf3
  v3 := Tryd.zeroValue3
  t4 := Tryd.underlying4
  a4 := Tryd.isAgg4
  z4 := Tryd.sizeOf4
  v4 := Tryd.zeroValue4
  t9 := Tryd.underlying9
  a9 := Tryd.isAgg9
  z9 := Tryd.sizeOf9
  v9 := Tryd.zeroValue9
  t37 := Tryd.underlying43
  a37 := Tryd.isAgg43
  z37 := Tryd.sizeOf43
  v37 := Tryd.zeroValue43
  t127 := Tryd.underlying141
  a127 := Tryd.isAgg141
  z127 := Tryd.sizeOf141
  v127 := Tryd.zeroValue141
  t5 := Tryd.underlying5
  a5 := Tryd.isAgg5
  z5 := Tryd.sizeOf5
  v5 := Tryd.zeroValue5
  i0 := by kernel_rfl
  i3 := by kernel_rfl
  i4 := by kernel_rfl
  i5 := by kernel_rfl
  i9 := by kernel_rfl
  i37 := by kernel_rfl
  i127 := by kernel_rfl }
open Go.RowKit in
theorem Tryd.stringslite_Clone (s : ByteArray) (w : World) (hlim : s.size ≤ 281474976710656) :
    Calls Tryd.prog 140 #[.string s] w fun e w' => e = .returned (.string s) ∧ Below w.heap.size w w' := Any.stringslite_Clone Tryd.laysM316 s w hlim
def Tryd.laysM279_ren : Go.Shelf.Ren := ⟨fun | 279 => 125 | 316 => 140 | n => n, fun | 9 => 9 | 168 => 181 | 75 => 103 | 210 => 199 | 3 => 3 | 4 => 4 | 37 => 43 | 0 => 0 | 127 => 141 | 80 => 106 | 5 => 5 | n => n, fun | 15 => 6 | n => n⟩
theorem Tryd.laysM279 : Go.Proofs.LaysM.n279 Tryd.prog Tryd.laysM279_ren := {
  mixed := by kernel_rfl
  f279 := Tryd.func125.trans (congrArg some (by kernel_rfl))
  f316 := Tryd.func140.trans (congrArg some (by kernel_rfl))
  t0 := Tryd.underlying0
  a0 := Tryd.isAgg0
  z0 := Tryd.sizeOf0
  v0 := Tryd.zeroValue0
  t3 := Tryd.underlying3
  a3 := Tryd.isAgg3
  z3 := Tryd.sizeOf3
  v3 := Tryd.zeroValue3
  t4 := Tryd.underlying4
  a4 := Tryd.isAgg4
  z4 := Tryd.sizeOf4
  v4 := Tryd.zeroValue4
  t9 := Tryd.underlying9
  a9 := Tryd.isAgg9
  z9 := Tryd.sizeOf9
  v9 := Tryd.zeroValue9
  t37 := Tryd.underlying43
  a37 := Tryd.isAgg43
  z37 := Tryd.sizeOf43
  v37 := Tryd.zeroValue43
  t75 := Tryd.underlying103
  a75 := Tryd.isAgg103
  z75 := Tryd.sizeOf103
  v75 := Tryd.zeroValue103
  t127 := Tryd.underlying141
  a127 := Tryd.isAgg141
  z127 := Tryd.sizeOf141
  v127 := Tryd.zeroValue141
  t168 := Tryd.underlying181
  a168 := Tryd.isAgg181
  z168 := Tryd.sizeOf181
  v168 := Tryd.zeroValue181
  t210 := Tryd.underlying199
  a210 := Tryd.isAgg199
  z210 := Tryd.sizeOf199
  v210 := Tryd.zeroValue199
  g15 := by kernel_rfl
  t5 := Tryd.underlying5
  a5 := Tryd.isAgg5
  z5 := Tryd.sizeOf5
  v5 := Tryd.zeroValue5
  t80 := Tryd.underlying106
  a80 := Tryd.isAgg106
  z80 := Tryd.sizeOf106
  v80 := Tryd.zeroValue106
  i0 := by kernel_rfl
  i3 := by kernel_rfl
  i4 := by kernel_rfl
  i5 := by kernel_rfl
  i9 := by kernel_rfl
  i37 := by kernel_rfl
  i75 := by kernel_rfl
  i80 := by kernel_rfl
  i127 := by kernel_rfl
  i168 := by kernel_rfl
  i210 := by kernel_rfl
  m15 := by kernel_rfl }
open Go.RowKit in
theorem Tryd.strconv_syntaxError (fn s : ByteArray) (ev : Value) (w : World) (hlim : s.size ≤ 281474976710656) (hv : w.cell? ⟨6, 0, none⟩ = some ev) (hev : ev = .nilIface ∨ ∃ te pe, ev = .iface te pe) :
    Calls Tryd.prog 125 #[.string fn, .string s] w fun e w' => ∃ N, e = .returned (.pointer (some ⟨N, 0, none⟩)) ∧ w.heap.size ≤ N ∧ w'.heap[N]? = some (.cells #[.string fn, .string s, ev] 199 (0, 0)) ∧ Below w.heap.size w w' := Any.strconv_syntaxError Tryd.laysM279 fn s ev w hlim hv hev
def Tryd.laysM280_ren : Go.Shelf.Ren := ⟨fun | 280 => 126 | 316 => 140 | n => n, fun | 9 => 9 | 168 => 181 | 75 => 103 | 210 => 199 | 3 => 3 | 4 => 4 | 37 => 43 | 0 => 0 | 127 => 141 | 80 => 106 | 5 => 5 | n => n, fun | 16 => 7 | n => n⟩
theorem Tryd.laysM280 : Go.Proofs.LaysM.n280 Tryd.prog Tryd.laysM280_ren := {
  mixed := by kernel_rfl
  f280 := Tryd.func126.trans (congrArg some (by kernel_rfl))
  f316 := Tryd.func140.trans (congrArg some (by kernel_rfl))
  t0 := Tryd.underlying0
  a0 := Tryd.isAgg0
  z0 := Tryd.sizeOf0
  v0 := Tryd.zeroValue0
  t3 := Tryd.underlying3
  a3 := Tryd.isAgg3
  z3 := Tryd.sizeOf3
  v3 := Tryd.zeroValue3
  t4 := Tryd.underlying4
  a4 := Tryd.isAgg4
  z4 := Tryd.sizeOf4
  v4 := Tryd.zeroValue4
  t9 := Tryd.underlying9
  a9 := Tryd.isAgg9
  z9 := Tryd.sizeOf9
  v9 := Tryd.zeroValue9
  t37 := Tryd.underlying43
  a37 := Tryd.isAgg43
  z37 := Tryd.sizeOf43
  v37 := Tryd.zeroValue43
  t75 := Tryd.underlying103
  a75 := Tryd.isAgg103
  z75 := Tryd.sizeOf103
  v75 := Tryd.zeroValue103
  t127 := Tryd.underlying141
  a127 := Tryd.isAgg141
  z127 := Tryd.sizeOf141
  v127 := Tryd.zeroValue141
  t168 := Tryd.underlying181
  a168 := Tryd.isAgg181
  z168 := Tryd.sizeOf181
  v168 := Tryd.zeroValue181
  t210 := Tryd.underlying199
  a210 := Tryd.isAgg199
  z210 := Tryd.sizeOf199
  v210 := Tryd.zeroValue199
  g16 := by kernel_rfl
  t5 := Tryd.underlying5
  a5 := Tryd.isAgg5
  z5 := Tryd.sizeOf5
  v5 := Tryd.zeroValue5
  t80 := Tryd.underlying106
  a80 := Tryd.isAgg106
  z80 := Tryd.sizeOf106
  v80 := Tryd.zeroValue106
  i0 := by kernel_rfl
  i3 := by kernel_rfl
  i4 := by kernel_rfl
  i5 := by kernel_rfl
  i9 := by kernel_rfl
  i37 := by kernel_rfl
  i75 := by kernel_rfl
  i80 := by kernel_rfl
  i127 := by kernel_rfl
  i168 := by kernel_rfl
  i210 := by kernel_rfl
  m16 := by kernel_rfl }
open Go.RowKit in
theorem Tryd.strconv_rangeError (fn s : ByteArray) (ev : Value) (w : World) (hlim : s.size ≤ 281474976710656) (hv : w.cell? ⟨7, 0, none⟩ = some ev) (hev : ev = .nilIface ∨ ∃ te pe, ev = .iface te pe) :
    Calls Tryd.prog 126 #[.string fn, .string s] w fun e w' => ∃ N, e = .returned (.pointer (some ⟨N, 0, none⟩)) ∧ w.heap.size ≤ N ∧ w'.heap[N]? = some (.cells #[.string fn, .string s, ev] 199 (0, 0)) ∧ Below w.heap.size w w' := Any.strconv_rangeError Tryd.laysM280 fn s ev w hlim hv hev
def Tryd.lays219_ren : Go.Shelf.Ren := ⟨fun | 219 => 102 | 217 => 119 | 225 => 120 | 224 => 121 | 267 => 122 | 266 => 138 | 314 => 139 | n => n, fun | 9 => 9 | 3 => 3 | 4 => 4 | 5 => 5 | 46 => 139 | 146 => 196 | 51 => 89 | n => n, fun | 1 => 2 | n => n⟩
theorem Tryd.lays219 : Go.Proofs.Lays.n219 Tryd.prog Tryd.lays219_ren := {
  mixed := by kernel_rfl
  f217 := Tryd.func119.trans (congrArg some (by kernel_rfl))
  f219 := Tryd.func102.trans (congrArg some (by kernel_rfl))
  f224 := Tryd.func121.trans (congrArg some (by kernel_rfl))
  f225 := Tryd.func120.trans (congrArg some (by kernel_rfl))
  f266 := Tryd.func138.trans (congrArg some (by kernel_rfl))
  f267 := Tryd.func122.trans (congrArg some (by kernel_rfl))
  f314 := Tryd.func139.trans (congrArg some (by kernel_rfl))
  t3 := Tryd.underlying3
  a3 := Tryd.isAgg3
  z3 := Tryd.sizeOf3
  v3 := Tryd.zeroValue3
  t4 := Tryd.underlying4
  a4 := Tryd.isAgg4
  z4 := Tryd.sizeOf4
  v4 := Tryd.zeroValue4
  t5 := Tryd.underlying5
  a5 := Tryd.isAgg5
  z5 := Tryd.sizeOf5
  v5 := Tryd.zeroValue5
  t9 := Tryd.underlying9
  a9 := Tryd.isAgg9
  z9 := Tryd.sizeOf9
  v9 := Tryd.zeroValue9
  t46 := Tryd.underlying139
  a46 := Tryd.isAgg139
  z46 := Tryd.sizeOf139
  v46 := Tryd.zeroValue139
  t51 := Tryd.underlying89
  a51 := Tryd.isAgg89
  z51 := Tryd.sizeOf89
  v51 := Tryd.zeroValue89
  t146 := Tryd.underlying196
  a146 := Tryd.isAgg196
  z146 := Tryd.sizeOf196
  v146 := Tryd.zeroValue196
  g1 := by kernel_rfl }
open Go.RowKit Go.Lib in
theorem Tryd.stringslite_Index_one (s : ByteArray) (c : UInt8) (w : World) :
    Calls Tryd.prog 102 #[.string s, .string ⟨#[c]⟩] w fun e w' => e = .returned (.int .i64 (Lib.indexByte s.data.toList c)) ∧ w' = w := Any.stringslite_Index_one Tryd.lays219 s c w
def Tryd.lays144_ren : Go.Shelf.Ren := ⟨fun | 144 => 89 | 143 => 105 | 219 => 102 | 217 => 119 | 225 => 120 | 224 => 121 | 267 => 122 | 266 => 138 | 314 => 139 | n => n, fun | 9 => 9 | 4 => 4 | 3 => 3 | 5 => 5 | 46 => 139 | 146 => 196 | 51 => 89 | n => n, fun | 1 => 2 | n => n⟩
theorem Tryd.lays144 : Go.Proofs.Lays.n144 Tryd.prog Tryd.lays144_ren := {
  mixed := by kernel_rfl
  f143 := Tryd.func105.trans (congrArg some (by kernel_rfl))
  f144 := Tryd.func89.trans (congrArg some (by kernel_rfl))
  f217 := Tryd.func119.trans (congrArg some (by kernel_rfl))
  f219 := Tryd.func102.trans (congrArg some (by kernel_rfl))
  f224 := Tryd.func121.trans (congrArg some (by kernel_rfl))
  f225 := Tryd.func120.trans (congrArg some (by kernel_rfl))
  f266 := Tryd.func138.trans (congrArg some (by kernel_rfl))
  f267 := Tryd.func122.trans (congrArg some (by kernel_rfl))
  f314 := Tryd.func139.trans (congrArg some (by kernel_rfl))
  t3 := Tryd.underlying3
  a3 := Tryd.isAgg3
  z3 := Tryd.sizeOf3
  v3 := Tryd.zeroValue3
  t4 := Tryd.underlying4
  a4 := Tryd.isAgg4
  z4 := Tryd.sizeOf4
  v4 := Tryd.zeroValue4
  t5 := Tryd.underlying5
  a5 := Tryd.isAgg5
  z5 := Tryd.sizeOf5
  v5 := Tryd.zeroValue5
  t9 := Tryd.underlying9
  a9 := Tryd.isAgg9
  z9 := Tryd.sizeOf9
  v9 := Tryd.zeroValue9
  t46 := Tryd.underlying139
  a46 := Tryd.isAgg139
  z46 := Tryd.sizeOf139
  v46 := Tryd.zeroValue139
  t51 := Tryd.underlying89
  a51 := Tryd.isAgg89
  z51 := Tryd.sizeOf89
  v51 := Tryd.zeroValue89
  t146 := Tryd.underlying196
  a146 := Tryd.isAgg196
  z146 := Tryd.sizeOf196
  v146 := Tryd.zeroValue196
  g1 := by kernel_rfl }
open Go.RowKit Go.Lib in
theorem Tryd.strings_Contains_one (s : ByteArray) (c : UInt8) (w : World) :
    Calls Tryd.prog 89 #[.string s, .string ⟨#[c]⟩] w fun e w' => e = .returned (.bool (decide (0 ≤ Lib.indexByte s.data.toList c))) ∧ w' = w := Any.strings_Contains_one Tryd.lays144 s c w
def Tryd.lays138_ren : Go.Shelf.Ren := ⟨fun | 138 => 109 | 195 => 130 | 218 => 131 | 143 => 105 | 219 => 102 | 217 => 119 | 225 => 120 | 224 => 121 | 267 => 122 | 266 => 138 | 314 => 139 | n => n, fun | 9 => 9 | 3 => 3 | 4 => 4 | 5 => 5 | 0 => 0 | 46 => 139 | 146 => 196 | 51 => 89 | n => n, fun | 1 => 2 | n => n⟩
theorem Tryd.lays138 : Go.Proofs.Lays.n138 Tryd.prog Tryd.lays138_ren := {
  mixed := by kernel_rfl
  f138 := Tryd.func109.trans (congrArg some (by kernel_rfl))
  f143 := Tryd.func105.trans (congrArg some (by kernel_rfl))
  f195 := Tryd.func130.trans (congrArg some (by kernel_rfl))
  f217 := Tryd.func119.trans (congrArg some (by kernel_rfl))
  f218 := Tryd.func131.trans (congrArg some (by kernel_rfl))
  f219 := Tryd.func102.trans (congrArg some (by kernel_rfl))
  f224 := Tryd.func121.trans (congrArg some (by kernel_rfl))
  f225 := Tryd.func120.trans (congrArg some (by kernel_rfl))
  f266 := Tryd.func138.trans (congrArg some (by kernel_rfl))
  f267 := Tryd.func122.trans (congrArg some (by kernel_rfl))
  f314 := Tryd.func139.trans (congrArg some (by kernel_rfl))
  t0 := Tryd.underlying0
  a0 := Tryd.isAgg0
  z0 := Tryd.sizeOf0
  v0 := Tryd.zeroValue0
  t3 := Tryd.underlying3
  a3 := Tryd.isAgg3
  z3 := Tryd.sizeOf3
  v3 := Tryd.zeroValue3
  t4 := Tryd.underlying4
  a4 := Tryd.isAgg4
  z4 := Tryd.sizeOf4
  v4 := Tryd.zeroValue4
  t5 := Tryd.underlying5
  a5 := Tryd.isAgg5
  z5 := Tryd.sizeOf5
  v5 := Tryd.zeroValue5
  t9 := Tryd.underlying9
  a9 := Tryd.isAgg9
  z9 := Tryd.sizeOf9
  v9 := Tryd.zeroValue9
  t46 := Tryd.underlying139
  a46 := Tryd.isAgg139
  z46 := Tryd.sizeOf139
  v46 := Tryd.zeroValue139
  t51 := Tryd.underlying89
  a51 := Tryd.isAgg89
  z51 := Tryd.sizeOf89
  v51 := Tryd.zeroValue89
  t146 := Tryd.underlying196
  a146 := Tryd.isAgg196
  z146 := Tryd.sizeOf196
  v146 := Tryd.zeroValue196
  g1 := by kernel_rfl }
open Go.RowKit Go.Lib in
theorem Tryd.strings_Count_one (s : ByteArray) (c : UInt8) (w : World) :
    Calls Tryd.prog 109 #[.string s, .string ⟨#[c]⟩] w fun e w' => e = .returned (.int .i64 (Lib.countByte s.data.toList c)) ∧ w' = w := Any.strings_Count_one Tryd.lays138 s c w
end Go.Proofs

/-
  From a contract to the law's own statement: what is handed in reads as data, the answer is true, and all stays as it was.
-/
namespace Go.Plat
open Go
open Go.ChangeShapes Go.WideShapes
set_option linter.unusedVariables false
set_option linter.unusedSimpArgs false

theorem okWide_agg {P : Program} {w : World} {r : Reach} {b : Nat} {t : TypeId} {v : Value} (h : Value.okWide P w r b t v) (hu : (∃ fs, P.underlying t = some (.struct fs)) ∨ ∃ n e, P.underlying t = some (.array n e)) : ∃ cs, v = .agg cs := by
  unfold Value.okWide at h
  rcases hu with ⟨fs, hu⟩ | ⟨n, e, hu⟩ <;> rw [hu] at h <;> obtain ⟨cs, h, _⟩ := h <;> exact ⟨cs, h⟩

theorem rep_agg {w : World} {cs : List D} {vs : Array Value} (h : CellsRep w F0 cs vs.toList) : RepP w F0 (.agg cs) (.agg vs) := by
  have : RepP w F0 (.agg cs) (.agg vs.toList.toArray) := .agg cs vs.toList h.1.symm fun i d v hd hv => (h.2 i d v hd hv).1
  simpa using this

theorem rep_cell {w : World} {σ : Sh} {cs : List D} {v : Value} (ha : σ.agg = false) (h : CellsRep w F0 cs [v]) : RepP w F0 (elD σ cs) v := by
  unfold elD
  rw [ha]
  match cs, h with
  | [c], h => exact (h.2 0 c v rfl rfl).1
  | [], h => exact absurd h.1 (by simp)
  | _ :: _ :: _, h => exact absurd h.1 (by simp)

theorem arg_rep {H : Type} {enc : TypeId × Value → H} {P : Program} {w : World} {σ : Sh} {t : TypeId} {v : Value} {d : DataW H} {ps : List MemPlace} {r : Reach} {b : Nat} {fuel : Nat} (hc : chk P σ (.inl t) = true) (hvd : vdB fuel σ = true)
    (hok : Value.okWide P w r b t v) (h : DataW.trod enc P w 0 (fun _ => true) true fuel t v.cells.toList = some (d, ps)) : fit σ (.inl d) ∧ RepP w F0 (rd σ d) v := by
  obtain ⟨h1, h2, _⟩ := (trod_rep σ).1 t fuel _ d ps hc hvd h
  refine ⟨h1, ?_⟩
  have one : σ.agg = false → (∀ cs, v ≠ .agg cs) → RepP w F0 (rd σ d) v := fun ha hv => by
    have hcells : v.cells.toList = [v] := by cases v <;> first | rfl | exact (hv _ rfl).elim
    rw [hcells] at h2
    exact rep_cell ha h2
  cases σ with
  | int k =>
    simp only [chk] at hc; split at hc <;> try cases hc
    rename_i q hu
    refine one rfl fun cs e => ?_
    subst e; simp [Value.okWide, hu, Cell.okWide, Cell.ok] at hok
  | bool =>
    simp only [chk] at hc; split at hc <;> try cases hc
    rename_i hu
    refine one rfl fun cs e => ?_
    subst e; simp [Value.okWide, hu, Cell.okWide, Cell.ok] at hok
  | str =>
    simp only [chk] at hc; split at hc <;> try cases hc
    rename_i hu
    refine one rfl fun cs e => ?_
    subst e; simp [Value.okWide, hu, Cell.okWide, Cell.ok] at hok
  | sl n σ =>
    obtain ⟨e, hu, _⟩ := chk_slice hc
    refine one rfl fun cs e => ?_
    subst e; simp [Value.okWide, hu, Cell.okWide, Cell.ok] at hok
  | fin => simp [chk] at hc
  | fld a b =>
    obtain ⟨fs, hu, _⟩ := chk_fld hc
    obtain ⟨cs, rfl⟩ := okWide_agg hok (.inl ⟨_, hu⟩)
    exact rep_agg h2
  | arr n σ =>
    obtain ⟨e, hu, _⟩ := chk_arr hc
    obtain ⟨cs, rfl⟩ := okWide_agg hok (.inr ⟨_, _, hu⟩)
    exact rep_agg h2
  | void n => simp [vdB] at hvd

def chkAll (P : Program) : List Sh → List TypeId → Bool
  | [], [] => true
  | σ :: σs, t :: ts => chk P σ (.inl t) && chkAll P σs ts
  | _, _ => false

def fitAll {H : Type} : List Sh → List (DataW H) → Prop
  | [], [] => True
  | σ :: σs, d :: ds => fit σ (.inl d) ∧ fitAll σs ds
  | _, _ => False

def rdAll {H : Type} : List Sh → List (DataW H) → List D
  | σ :: σs, d :: ds => rd σ d :: rdAll σs ds
  | _, _ => []

theorem vdB_le {σ : Sh} {k m : Nat} (h : vdB k σ = true) (hle : m ≤ k) : vdB m σ = true := by
  induction k with
  | zero => have : m = 0 := by omega
            subst this; exact h
  | succ k ih =>
    rcases Nat.eq_or_lt_of_le hle with rfl | hlt
    · exact h
    · exact ih (vdB_mono σ k h) (by omega)

theorem args_rep {H : Type} {enc : TypeId × Value → H} {P : Program} {w : World} : ∀ {ts : List TypeId} {vs : List Value} {ds : List (DataW H)} {ps : List MemPlace},
    (∀ (j : Nat) t v, ts[j]? = some t → vs[j]? = some v → ∃ r b, Value.okWide P w r b t v) → DataW.TrodAll enc P w 0 (fun _ => true) true ts vs ds ps →
    ∃ K, ∀ σs : List Sh, chkAll P σs ts = true → (∀ σ ∈ σs, vdB K σ = true) → fitAll σs ds ∧ vs.length = (rdAll σs ds).length ∧ ∀ (i : Nat) d v, (rdAll σs ds)[i]? = some d → vs[i]? = some v → RepP w F0 d v
  | [], vs, ds, ps, _, h => by
    obtain ⟨rfl, rfl, rfl⟩ := trodAll_nil h
    refine ⟨0, fun σs hc _ => ?_⟩
    cases σs with
    | nil => exact ⟨trivial, rfl, fun i d v hd => by simp [rdAll] at hd⟩
    | cons σ σs => simp [chkAll] at hc
  | t :: ts, vs, ds, ps, hok, h => by
    obtain ⟨v, vs1, d, ds1, p, q, rfl, rfl, rfl, h1, h2⟩ := trodAll_cons h
    obtain ⟨r, b, hv⟩ := hok 0 t v rfl rfl
    obtain ⟨fuel, h1⟩ := h1
    obtain ⟨K, hK⟩ := args_rep (fun j t v ht hv => hok (j + 1) t v (by simpa using ht) (by simpa using hv)) h2
    refine ⟨max fuel K, fun σs hc hvd => ?_⟩
    cases σs with
    | nil => simp [chkAll] at hc
    | cons σ σs =>
      simp only [chkAll, Bool.and_eq_true] at hc
      obtain ⟨f1, r1⟩ := arg_rep hc.1 (vdB_le (hvd σ (by simp)) (Nat.le_max_left _ _)) hv h1
      obtain ⟨f2, l2, r2⟩ := hK σs hc.2 fun x hx => vdB_le (hvd x (by simp [hx])) (Nat.le_max_right _ _)
      refine ⟨⟨f1, f2⟩, by simp [rdAll, l2], fun i d' v' hd hv' => ?_⟩
      cases i with
      | zero => simp [rdAll] at hd hv'; subst hd; subst hv'; exact r1
      | succ i => exact r2 i d' v' (by simpa [rdAll] using hd) (by simpa using hv')

theorem chkAll_get {P : Program} : ∀ {σs : List Sh} {ts : List TypeId} {i : Nat} {t : TypeId}, chkAll P σs ts = true → ts[i]? = some t → ∃ σ ∈ σs, chk P σ (.inl t) = true
  | [], [], i, t, _, ht => by simp at ht
  | σ :: σs, t :: ts, i, u, hc, hu => by
    simp only [chkAll, Bool.and_eq_true] at hc
    cases i with
    | zero => simp at hu; subst hu; exact ⟨σ, by simp, hc.1⟩
    | succ i =>
      obtain ⟨x, h1, h2⟩ := chkAll_get hc.2 (by simpa using hu)
      exact ⟨x, by simp [h1], h2⟩
  | [], _ :: _, _, _, hc, _ => by simp [chkAll] at hc
  | _ :: _, [], _, _, hc, _ => by simp [chkAll] at hc
theorem chkAll_shaped {P : Program} {σs : Nat → List Sh} {ts : List TypeId} (hc : ∀ K, chkAll P (σs K) ts = true) (hv : ∀ K, ∀ σ ∈ σs K, vdB K σ = true) : ∀ t ∈ ts, Shaped P t := fun t ht K => by
  obtain ⟨i, hi⟩ := List.getElem?_of_mem ht
  obtain ⟨σ, h1, h2⟩ := chkAll_get (hc K) hi
  exact ⟨σ, h2, hv K σ h1⟩

/-- a law that answers true and leaves all as it was -/
theorem law_contractK {H : Type} {enc : TypeId × Value → H} {P : Program} {f : FuncId} {fn : Func} {s : ChangeSpec} {σs : Nat → List Sh} {spec : Spec} {apart fresh handsOn : Bool} {W : World} {args : Array Value} {ds gs : List (DataW H)} {before : List MemPlace} {tb : TypeId}
    (hc : ∀ K, chkAll P (σs K) fn.params.toList = true) (hvd : ∀ K, ∀ σ ∈ σs K, vdB K σ = true) (hvars : s.vars = []) (hrt : fn.resultTypes = #[tb]) (htb : P.underlying tb = some .bool)
    (hfn : ∀ K, fitAll (σs K) ds → s.fn H (ds ++ gs) = { results := [.lit (.bool true)], args := ds })
    (hval : ∀ (j : Nat) t v, fn.params[j]? = some t → args[j]? = some v → ∃ r b, Value.okWide P W r b t v)
    (hW : DataW.Whole enc P fn.params.toList s.vars apart W args.toList ds gs before) (hG : GOk W F0)
    (hm : Meets P f spec) (hs : ∀ K, fitAll (σs K) ds → spec (rdAll (σs K) ds) [] (.bool true) []) :
    Calls P f args W fun e W' => ∃ v, e = .returned v ∧ s.post enc P fn apart fresh handsOn false W args v W' := by
  have hW' := hW
  obtain ⟨p, q, hA, hV, rfl, hfz, hnd⟩ := hW
  obtain ⟨K, hK⟩ := args_rep (fun j t v ht hv => hval j t v (by simpa using ht) (by simpa using hv)) hA
  obtain ⟨h1, h2, h3⟩ := hK (σs K) (hc K) (hvd K)
  have hq : q = [] ∧ gs = [] := by
    rw [hvars] at hV
    cases gs with
    | nil => exact ⟨hV, rfl⟩
    | cons g gs => exact hV.elim
  obtain ⟨rfl, rfl⟩ := hq
  have hcall := hm.2 (rdAll (σs K) ds) [] (.bool true) [] (hs K h1) W ⟨fun _ => ⟨0, 0, 0⟩, fun _ _ => False⟩ args.toList
    ⟨hG.less fun b off hF => by
      rcases hF with ⟨k, o, h, _⟩ | hF
      · simp at h
      · exact hF.elim, fun _ _ h => h.elim, fun _ _ _ h => h, fun k o h => by simp at h, fun k k' o o' b off h => by simp at h⟩
    ⟨h2, fun i d v hd hv => .pure _ _ ((h3 i d v hd hv).less (fun b off hF => by
      rcases hF with ⟨k, o, h, _⟩ | hF
      · simp at h
      · exact hF.elim))⟩
  rw [show args.toList.toArray = args by simp] at hcall
  refine hcall.mono ?_
  rintro e W' ⟨v, ρ', he, hp⟩
  have hext : Ext F0 W W' := hp.ext.mono fun b off _ h => by
    obtain ⟨k, o, h, _⟩ := h
    simp at h
  have hv : v = .bool true := by
    have := rep_nil hp.rep
    cases this
    rfl
  subst hv
  refine ⟨_, he, ds, [], p ++ [], [], p, [], hW', ?_, ?_, ?_, kept_ext hext _, fun h => by cases h⟩
  · rw [hfn K h1, hrt]
    exact trodAll_mk1 (Go.RowKit.shut_bool htb true)
  · rw [hfn K h1]
    refine all_behind hext (chkAll_shaped hc hvd) hA fun x hx => ?_
    have := hW'.lt x (by simpa using hx)
    simpa using this
  · rw [hvars, hfn K h1]
    rfl
/-- where no type has parts of its own kind -/
theorem law_contract {H : Type} {enc : TypeId × Value → H} {P : Program} {f : FuncId} {fn : Func} {s : ChangeSpec} {σs : List Sh} {spec : Spec} {apart fresh handsOn : Bool} {W : World} {args : Array Value} {ds gs : List (DataW H)} {before : List MemPlace} {tb : TypeId}
    (hc : chkAll P σs fn.params.toList = true) (hfull : σs.all fullB = true) (hvars : s.vars = []) (hrt : fn.resultTypes = #[tb]) (htb : P.underlying tb = some .bool)
    (hfn : fitAll σs ds → s.fn H (ds ++ gs) = { results := [.lit (.bool true)], args := ds })
    (hval : ∀ (j : Nat) t v, fn.params[j]? = some t → args[j]? = some v → ∃ r b, Value.okWide P W r b t v)
    (hW : DataW.Whole enc P fn.params.toList s.vars apart W args.toList ds gs before) (hG : GOk W F0)
    (hm : Meets P f spec) (hs : fitAll σs ds → spec (rdAll σs ds) [] (.bool true) []) :
    Calls P f args W fun e W' => ∃ v, e = .returned v ∧ s.post enc P fn apart fresh handsOn false W args v W' :=
  law_contractK (σs := fun _ => σs) (fun _ => hc) (fun K σ h => fullB_vd σ K (List.all_eq_true.1 hfull σ h)) hvars hrt htb (fun _ => hfn) hval hW hG hm fun _ => hs
end Go.Plat

/-
  What is read off by its shape: numbers, bytes, lists of it.
-/
namespace Go.Plat
open Go
set_option linter.unusedVariables false
set_option linter.unusedSimpArgs false

def elems {H : Type} : DataW H → List (DataW H)
  | .slice el _ => el
  | _ => []

theorem fit_int {H : Type} {k : IntKind} {d : DataW H} (h : fit (.int k) (.inl d)) : ∃ n, rd (.int k) d = .int k n ∧ k.min ≤ n ∧ n ≤ k.max := by
  simp only [fit] at h
  obtain ⟨n, rfl, h⟩ := h
  refine ⟨n, rfl, ?_⟩
  simpa [Lit.wf] using h
theorem fit_i64 {H : Type} {d : DataW H} (h : fit (.int .i64) (.inl d)) : ∃ n, rd (.int .i64) d = .int .i64 n ∧ -9223372036854775808 ≤ n ∧ n ≤ 9223372036854775807 := fit_int h
theorem fit_u8 {H : Type} {d : DataW H} (h : fit (.int .u8) (.inl d)) : ∃ n : UInt8, rd (.int .u8) d = byteD n := by
  obtain ⟨n, h1, h2, h3⟩ := fit_int h
  have h2 : 0 ≤ n := h2
  have h3 : n ≤ 255 := h3
  refine ⟨UInt8.ofNat n.toNat, h1.trans ?_⟩
  have : (UInt8.ofNat n.toNat).toNat = n.toNat := by
    rw [UInt8.toNat_ofNat']; omega
  show D.int .u8 n = D.int .u8 _
  rw [this]; congr 1; omega
theorem fit_bool {H : Type} {d : DataW H} (h : fit .bool (.inl d)) : ∃ b, rd .bool d = .bool b := by
  simp only [fit] at h
  obtain ⟨n, rfl⟩ := h
  exact ⟨n, rfl⟩
theorem fit_str {H : Type} {d : DataW H} (h : fit .str (.inl d)) : ∃ s, d = .lit (.string s) ∧ rd .str d = .str s := by
  simp only [fit] at h
  obtain ⟨n, rfl⟩ := h
  exact ⟨n, rfl, rfl⟩

/-- a slice of what reads as the images of things -/
theorem fit_sl {H : Type} {α : Type} {n : Nat} {σ : Sh} {g : α → D} {Q : DataW H → α → Prop} {d : DataW H} (h : fit (.sl n σ) (.inl d)) (he : ∀ x ∈ elems d, fit σ (.inl x) → ∃ a, rd σ x = g a ∧ Q x a) :
    ∃ l : List α, rd (.sl n σ) d = .sl n (l.map g) none ∧ l.length = (elems d).length ∧ ∀ (i : Nat) x a, (elems d)[i]? = some x → l[i]? = some a → Q x a := by
  have key : ∀ el : List (DataW H), (∀ x ∈ el, ∃ a, rd σ x = g a ∧ Q x a) → ∃ l : List α, el.map (rd σ) = l.map g ∧ l.length = el.length ∧ ∀ (i : Nat) x a, el[i]? = some x → l[i]? = some a → Q x a := by
    intro el
    induction el with
    | nil => intro _; exact ⟨[], rfl, rfl, by simp⟩
    | cons x el ih =>
      intro hx
      obtain ⟨a, h1, h2⟩ := hx x (by simp)
      obtain ⟨l, h3, h4, h5⟩ := ih fun y hy => hx y (by simp [hy])
      refine ⟨a :: l, by simp [h1, h3], by simp [h4], fun i y b hy hb => ?_⟩
      cases i with
      | zero => simp at hy hb; subst hy; subst hb; exact h2
      | succ i => exact h5 i y b (by simpa using hy) (by simpa using hb)
  simp only [fit] at h
  rcases h with rfl | ⟨el, sp, rfl, h⟩
  · exact ⟨[], rfl, rfl, by simp [elems]⟩
  · obtain ⟨l, h1, h2, h3⟩ := key el fun x hx => he x hx (h x hx)
    refine ⟨l, ?_, h2, h3⟩
    show D.sl n (el.map (rd σ)) none = _
    rw [h1]

theorem fit_bytes {H : Type} {d : DataW H} (h : fit (.sl 1 (.int .u8)) (.inl d)) : ∃ b : List UInt8, rd (.sl 1 (.int .u8)) d = bytesD b ∧ b.length = (elems d).length := by
  obtain ⟨l, h1, h2, _⟩ := fit_sl (g := byteD) (Q := fun _ _ => True) h fun x _ hx => by
    obtain ⟨n, h⟩ := fit_u8 hx
    exact ⟨n, h, trivial⟩
  exact ⟨l, h1, h2⟩

/-- the cells of fields -/
def rdF {H : Type} (σ : Sh) (ds : List (DataW H)) : List D := cl σ (.inr ds)
theorem rd_fld {H : Type} {a b : Sh} {p : DataW H} {ps : List (DataW H)} : rd (.fld a b) (.agg (p :: ps)) = .agg (cl a (.inl p) ++ rdF b ps) := rfl
theorem fit_fld {H : Type} {a b : Sh} {d : DataW H} (h : fit (.fld a b) (.inl d)) : ∃ p ps, d = .agg (p :: ps) ∧ fit a (.inl p) ∧ fit b (.inr ps) := by
  simpa only [fit] using h
theorem fit_more {H : Type} {a b : Sh} {ds : List (DataW H)} (h : fit (.fld a b) (.inr ds)) : ∃ p ps, ds = p :: ps ∧ fit a (.inl p) ∧ fit b (.inr ps) := by
  cases ds with
  | nil => simp [fit] at h
  | cons p ps => exact ⟨p, ps, rfl, by simpa only [fit] using h⟩
theorem fit_fin {H : Type} {ds : List (DataW H)} (h : fit .fin (.inr ds)) : ds = [] := by
  cases ds with
  | nil => rfl
  | cons p ps => simp [fit] at h
theorem rdF_cons {H : Type} {a b : Sh} {p : DataW H} {ps : List (DataW H)} : rdF (.fld a b) (p :: ps) = cl a (.inl p) ++ rdF b ps := by simp [rdF, cl]
theorem rdF_nil {H : Type} : rdF (.fin) ([] : List (DataW H)) = [] := by simp [rdF, cl]
theorem cl_fld {H : Type} {a b : Sh} {p : DataW H} {ps : List (DataW H)} : cl (.fld a b) (.inl (.agg (p :: ps))) = cl a (.inl p) ++ rdF b ps := by simp [rdF, cl]
theorem cl_one {H : Type} {σ : Sh} {d : DataW H} {x : D} (h : rd σ d = x) (ha : σ.agg = false) (hx : x ≠ .any) : cl σ (.inl d) = [x] := by
  unfold rd elD at h
  rw [ha] at h
  split at h
  · rename_i h1; cases h1
  · split at h
    · rename_i c hc; rw [hc, h]
    · exact (hx h.symm).elim
theorem fitAll0 {H : Type} {ds : List (DataW H)} (h : fitAll [] ds) : ds = [] := by
  cases ds with
  | nil => rfl
  | cons d ds => simp [fitAll] at h
theorem fitAll_cons {H : Type} {σ : Sh} {σs : List Sh} {ds : List (DataW H)} (h : fitAll (σ :: σs) ds) : ∃ d ds', ds = d :: ds' ∧ fit σ (.inl d) ∧ fitAll σs ds' := by
  cases ds with
  | nil => simp [fitAll] at h
  | cons d ds => exact ⟨d, ds, rfl, h.1, h.2⟩
theorem fitAll1 {H : Type} {a : Sh} {ds : List (DataW H)} (h : fitAll [a] ds) : ∃ d1, ds = [d1] ∧ fit a (.inl d1) := by
  obtain ⟨d1, r, rfl, h1, h⟩ := fitAll_cons h
  obtain rfl := fitAll0 h
  exact ⟨d1, rfl, h1⟩
theorem fitAll2 {H : Type} {a b : Sh} {ds : List (DataW H)} (h : fitAll [a, b] ds) : ∃ d1 d2, ds = [d1, d2] ∧ fit a (.inl d1) ∧ fit b (.inl d2) := by
  obtain ⟨d1, r, rfl, h1, h⟩ := fitAll_cons h
  obtain ⟨d2, rfl, h2⟩ := fitAll1 h
  exact ⟨d1, d2, rfl, h1, h2⟩
theorem fitAll3 {H : Type} {a b c : Sh} {ds : List (DataW H)} (h : fitAll [a, b, c] ds) : ∃ d1 d2 d3, ds = [d1, d2, d3] ∧ fit a (.inl d1) ∧ fit b (.inl d2) ∧ fit c (.inl d3) := by
  obtain ⟨d1, r, rfl, h1, h⟩ := fitAll_cons h
  obtain ⟨d2, d3, rfl, h2, h3⟩ := fitAll2 h
  exact ⟨d1, d2, d3, rfl, h1, h2, h3⟩
end Go.Plat

/-
  Variables of the library that a row lists: what the framework knows of them.
-/
namespace Go.Plat
open Go
set_option linter.unusedVariables false
set_option linter.unusedSimpArgs false

abbrev GFact (w : World) (F : Nat → Nat → Prop) (g : Nat) (cs : List D) : Prop := RepP w F (.ptr cs) (.pointer (some ⟨g, 0, none⟩)) ∧
  (∀ off, ¬ F g off) ∧ (∃ row t z, w.heap[g]? = some (.cells row t z) ∧ (row.size = cs.length ∨ cs = [.any])) ∧
  (cs = [.any] → ∃ u v, w.cell? ⟨g, 0, none⟩ = some (.iface u v))
def GOkL (w : World) (F : Nat → Nat → Prop) (l : List (Nat × Nat × List Nat)) : Prop := ∀ g cs, findG l g = some cs → GFact w F g cs
theorem gokl_nil {w : World} {F : Nat → Nat → Prop} : GOkL w F [] := fun g cs h => by cases h
theorem gokl_cons {w : World} {F : Nat → Nat → Prop} {h k : Nat} {ns : List Nat} {r : List (Nat × Nat × List Nat)} (hf : GFact w F h (globD k ns)) (hr : GOkL w F r) : GOkL w F ((h, k, ns) :: r) := by
  intro g cs hg
  rw [findG] at hg
  cases hb : Nat.beq h g with
  | false => rw [hb] at hg; exact hr g cs hg
  | true =>
    rw [hb] at hg
    have e := Nat.eq_of_beq_eq_true hb
    subst e
    cases hg
    exact hf
theorem gfact {P : Program} {w : World} {name : String} {g : Nat} {k : IntKind} {zs : List Int} {ns : List Nat} (hn : P.globalNamed name = some g) (h : Lib.TabIs P w name k zs)
    (hz : zs = ns.map fun n : Nat => (n : Int)) : GFact w F0 g (ns.map fun n => D.int k (n : Nat)) := by
  have hc := fun i hi => h.cell hn i hi
  refine ⟨.ptr _ _ _ (fun j => .int k (zs.getD j 0)) (fun j c hj => ⟨?_, fun f => f⟩) (fun j c hj => ?_), fun off f => f, ?_, fun e => absurd e (fun e => ?_)⟩
  · have hjl : j < ns.length := by
      have := (List.getElem?_eq_some_iff.1 hj).1
      simpa using this
    rw [Nat.zero_add]
    exact hc j (by rw [hz]; simpa using hjl)
  · have hjl : j < ns.length := by
      have := (List.getElem?_eq_some_iff.1 hj).1
      simpa using this
    rw [List.getElem?_map, List.getElem?_eq_getElem hjl] at hj
    cases hj
    have : zs.getD j 0 = (ns[j] : Int) := by
      rw [hz, List.getD_eq_getElem?_getD, List.getElem?_map, List.getElem?_eq_getElem hjl]; rfl
    dsimp only
    rw [this]
    exact .int _ _
  · unfold Lib.TabIs World.var? at h
    rw [hn] at h
    dsimp only [Option.bind_some] at h
    split at h
    · rename_i cs t z hh
      cases h
      exact ⟨_, _, _, hh, .inl (by rw [hz]; simp)⟩
    · cases h
  · match ns, e with
    | [], e => cases e
    | n :: r, e => cases (List.cons.inj e).1
theorem tab_of_vars {P : Program} {W : World} {name : String} {k : IntKind} {zs : List Int} {rest : List (String × DataW Unit)} {g : Nat} {t e : TypeId} {n : Nat} {ps : List MemPlace} {d : DataW Unit}
    (hg : P.globalNamed name = some g) (hty : (P.globals[g]?).map (·.type) = some t) (ht : P.underlying t = some (.array n e)) (he : P.underlying e = some (.int k)) (hce : P.cellsOf e = 1) (hct : P.cellsOf t = n)
    (hd : d = Lib.tabData k zs) (h : DataW.LaidVars P W ((name, d) :: rest) ps) : Lib.TabIs P W name k zs ∧ ∃ q, DataW.LaidVars P W rest q := by
  subst hd
  obtain ⟨g', t', cs, fuel, p, q, hg', ht', hvar, hd, hr, _⟩ := h
  obtain rfl := Option.some.inj (hg.symm.trans hg')
  obtain rfl := Option.some.inj (hty.symm.trans ht')
  refine ⟨?_, q, hr⟩
  unfold Lib.TabIs
  rw [hvar, ← Lib.cells_of_tab ht he hce hct hd]
theorem laid_tail {P : Program} {W : World} {x : String × DataW Unit} {rest : List (String × DataW Unit)} {ps : List MemPlace} (h : DataW.LaidVars P W (x :: rest) ps) : ∃ q, DataW.LaidVars P W rest q := by
  obtain ⟨g', t', cs, fuel, p, q, hg', ht', hvar, hd, hr, _⟩ := h
  exact ⟨q, hr⟩
def isIf : DataW Unit → Bool
  | .iface _ _ => true
  | _ => false
theorem iface_of_vars {P : Program} {W : World} {name : String} {rest : List (String × DataW Unit)} {g : Nat} {t : TypeId} {ps : List MemPlace} {d : DataW Unit}
    (hg : P.globalNamed name = some g) (hty : (P.globals[g]?).map (·.type) = some t) (ht : ((P.underlying t).map fun | .interface _ => true | _ => false) = some true)
    (hd : isIf d = true) (h : DataW.LaidVars P W ((name, d) :: rest) ps) : GFact W F0 g [.any] ∧ ∃ q, DataW.LaidVars P W rest q := by
  obtain ⟨g', t', cs, fuel, p, q, hg', ht', hvar, htr, hr, _⟩ := h
  obtain rfl := Option.some.inj (hg.symm.trans hg')
  obtain rfl := Option.some.inj (hty.symm.trans ht')
  refine ⟨?_, q, hr⟩
  cases d with
  | iface n x =>
    have hrow : ∃ u v, cs.toList = [Value.iface u v] := by
      cases fuel with
      | zero => simp [DataW.trod] at htr
      | succ fuel =>
        cases hun : P.underlying t with
        | none => rw [hun] at ht; cases ht
        | some dd =>
          rw [hun] at ht
          cases dd with
          | interface ms =>
            generalize cs.toList = l at htr
            unfold DataW.trod at htr
            rw [hun] at htr
            match l, htr with
            | [], htr => cases htr
            | [.nilIface], htr => cases htr
            | [.iface u v], htr => exact ⟨u, v, rfl⟩
            | a :: b :: r, htr => cases a <;> cases htr
            | [.bool _], htr | [.int _ _], htr | [.float _ _], htr | [.string _], htr | [.pointer _], htr | [.slice _ _ _], htr | [.map _], htr | [.chan _], htr | [.func _ _ _], htr | [.nilFunc], htr | [.agg _], htr | [.tuple _], htr => cases htr
          | _ => cases ht
    obtain ⟨u, v, hv⟩ := hrow
    have hcs : cs = #[Value.iface u v] := by
      apply Array.ext'
      rw [hv]
    subst hcs
    unfold World.var? at hvar
    rw [hg] at hvar
    dsimp only [Option.bind_some] at hvar
    split at hvar
    · rename_i cs t z hh
      cases hvar
      have hcell : W.cell? ⟨g, 0, none⟩ = some (.iface u v) := by simp only [World.cell?, hh]; rfl
      refine ⟨.ptr _ _ _ (fun _ => .iface u v) (fun j c hj => ?_) (fun j c hj => ?_), fun off f => f, ⟨_, _, _, hh, .inl rfl⟩, fun _ => ⟨u, v, hcell⟩⟩
      · cases j with
        | zero => exact ⟨hcell, fun f => f⟩
        | succ j => simp at hj
      · cases j with
        | zero =>
          simp at hj
          subst hj
          exact .any _
        | succ j => simp at hj
    · cases hvar
  | _ => cases hd
end Go.Plat
