/-
  What closes the stops: numbers that need not be wrapped, tests, bits.
-/
import Derived.Test.YtgmlcpmkonagcaaPlFw13
namespace Go.Plat
open Go
set_option linter.unusedVariables false
set_option linter.unusedSimpArgs false

theorem wrap_i64 {n : Int} (h1 : -9223372036854775808 ≤ n) (h2 : n ≤ 9223372036854775807) : IntKind.i64.wrap n = n := by
  simp only [IntKind.wrap, IntKind.bits, IntKind.signed]; simp; omega
theorem wrap_u64 {n : Int} (h1 : 0 ≤ n) (h2 : n ≤ 18446744073709551615) : IntKind.u64.wrap n = n := by
  simp only [IntKind.wrap, IntKind.bits, IntKind.signed]; simp; omega
theorem wrap_u32 {n : Int} (h1 : 0 ≤ n) (h2 : n ≤ 4294967295) : IntKind.u32.wrap n = n := by
  simp only [IntKind.wrap, IntKind.bits, IntKind.signed]; simp; omega
theorem wrap_i32 {n : Int} (h1 : -2147483648 ≤ n) (h2 : n ≤ 2147483647) : IntKind.i32.wrap n = n := by
  simp only [IntKind.wrap, IntKind.bits, IntKind.signed]; simp; omega
theorem wrap_u8 {n : Int} (h1 : 0 ≤ n) (h2 : n ≤ 255) : IntKind.u8.wrap n = n := by
  simp only [IntKind.wrap, IntKind.bits, IntKind.signed]; simp; omega
theorem wrap_u8_mod (n : Int) : IntKind.u8.wrap n = n % 256 := by
  simp only [IntKind.wrap, IntKind.bits, IntKind.signed]; simp
theorem wrap_u32_mod (n : Int) : IntKind.u32.wrap n = n % 4294967296 := by
  simp only [IntKind.wrap, IntKind.bits, IntKind.signed]; simp

section
variable {K : D → Prop} {n x y : Int}
theorem ar_i64 (h1 : -9223372036854775808 ≤ n) (h2 : n ≤ 9223372036854775807) (h : K (.int .i64 n)) : Arith .i64 n K := by unfold Arith; rwa [wrap_i64 h1 h2]
theorem ar_u64 (h1 : 0 ≤ n) (h2 : n ≤ 18446744073709551615) (h : K (.int .u64 n)) : Arith .u64 n K := by unfold Arith; rwa [wrap_u64 h1 h2]
theorem ar_u32 (h1 : 0 ≤ n) (h2 : n ≤ 4294967295) (h : K (.int .u32 n)) : Arith .u32 n K := by unfold Arith; rwa [wrap_u32 h1 h2]
theorem ar_i32 (h1 : -2147483648 ≤ n) (h2 : n ≤ 2147483647) (h : K (.int .i32 n)) : Arith .i32 n K := by unfold Arith; rwa [wrap_i32 h1 h2]
theorem ar_u8 (h1 : 0 ≤ n) (h2 : n ≤ 255) (h : K (.int .u8 n)) : Arith .u8 n K := by unfold Arith; rwa [wrap_u8 h1 h2]
theorem ar_byte {c : UInt8} (h : K (.int .i64 (c.toNat : Int))) : Arith .i64 (c.toNat : Int) K := ar_i64 (by omega) (by have := c.toNat_lt; omega) h
theorem ar_u8_mod (h : K (.int .u8 (n % 256))) : Arith .u8 n K := by unfold Arith; rwa [wrap_u8_mod]
theorem ar_u32_mod (h : K (.int .u32 (n % 4294967296))) : Arith .u32 n K := by unfold Arith; rwa [wrap_u32_mod]

theorem quo_pos (h0 : 0 < y) (h1 : 0 ≤ x) (h2 : x ≤ 9223372036854775807) (h : K (.int .i64 (x / y))) : QuoS .i64 x y K := by
  refine ⟨by omega, ?_⟩
  have e : x.tdiv y = x / y := Int.tdiv_eq_ediv_of_nonneg h1
  rw [e, wrap_i64]
  · exact h
  · have := Int.ediv_nonneg h1 (Int.le_of_lt h0); omega
  · have := Int.ediv_le_self y h1; omega
theorem rem_pos (h0 : 0 < y) (h1 : 0 ≤ x) (h : K (.int .i64 (x % y))) : RemS .i64 x y K := by
  refine ⟨by omega, ?_⟩
  rw [Int.tmod_eq_emod_of_nonneg h1]
  exact h
/-- to the left by a known number -/
theorem shl_lit {s : Nat} {m : Int} (hy : y = s) (hs : s ≤ 64) (hm : (2 : Int) ^ s = m) (h1 : -9223372036854775808 ≤ x * m) (h2 : x * m ≤ 9223372036854775807) (h : K (.int .i64 (x * m))) : ShlS .i64 x y K := by
  subst hy
  refine ⟨by omega, ?_⟩
  have : min ((s : Int).toNat) IntKind.i64.bits = s := by simp only [IntKind.bits, Int.toNat_natCast]; omega
  rw [this, hm, wrap_i64 h1 h2]
  exact h
/-- to the right by a known number -/
theorem shr_lit {k : IntKind} {s : Nat} {m : Int} (hy : y = s) (hs : s ≤ k.bits) (hm : (2 : Int) ^ s = m) (h : K (.int k (x / m))) : ShrS k x y K := by
  subst hy
  refine ⟨by omega, ?_⟩
  have : min ((s : Int).toNat) k.bits = s := by simp only [Int.toNat_natCast]; omega
  have hp : (0 : Int) ≤ 2 ^ s := Int.le_of_lt (Int.pow_pos (by decide))
  rw [this, Int.fdiv_eq_ediv_of_nonneg _ hp, hm]
  exact h
end

section
variable {b : Bool} {Kt Kf : Prop} {p : Prop} [Decidable p] {x y : Int}
theorem sp_dec (h1 : p → Kt) (h2 : ¬ p → Kf) : SplitS (decide p) Kt Kf := ⟨fun h => h1 (by simpa using h), fun h => h2 (by simpa using h)⟩
theorem sp_beq (h1 : x = y → Kt) (h2 : x ≠ y → Kf) : SplitS (x == y) Kt Kf := ⟨fun h => h1 (by simpa using h), fun h => h2 (by simpa using h)⟩
theorem sp_bne (h1 : x ≠ y → Kt) (h2 : x = y → Kf) : SplitS (x != y) Kt Kf := ⟨fun h => h1 (by simpa using h), fun h => h2 (by simpa using h)⟩
theorem sp_not (h1 : b = false → Kt) (h2 : b = true → Kf) : SplitS (!b) Kt Kf := ⟨fun h => h1 (by simpa using h), fun h => h2 (by simpa using h)⟩
theorem sp_not_dec (h1 : ¬ p → Kt) (h2 : p → Kf) : SplitS (!decide p) Kt Kf := ⟨fun h => h1 (by simpa using h), fun h => h2 (by simpa using h)⟩
theorem sp_seq {s t : List UInt8} (h1 : s = t → Kt) (h2 : s ≠ t → Kf) : SplitS (s == t) Kt Kf := ⟨fun h => h1 (by simpa using h), fun h => h2 (by simpa using h)⟩
theorem sp_sne {s t : List UInt8} (h1 : s ≠ t → Kt) (h2 : s = t → Kf) : SplitS (!(s == t)) Kt Kf := ⟨fun h => h1 (by simpa using h), fun h => h2 (by simpa using h)⟩
theorem sp_any (h1 : b = true → Kt) (h2 : b = false → Kf) : SplitS b Kt Kf := ⟨h1, h2⟩
end
theorem sd_mk {p K : Prop} (h1 : p) (h2 : K) : SideS p K := ⟨h1, h2⟩
/-- an element of encoded ones -/
theorem ix_map {α : Type} {enc : α → D} {l : List α} {n : Int} {K : D → Prop} (x : α) (h0 : 0 ≤ n) (hx : l[n.toNat]? = some x) (h : K (enc x)) : IdxS (l.map enc) n K :=
  ⟨h0, enc x, by simp [hx], h⟩
theorem ix_getD {α : Type} {enc : α → D} {l : List α} {n : Int} {K : D → Prop} (d : α) (h0 : 0 ≤ n) (hlt : n < l.length) (h : K (enc (l.getD n.toNat d))) : IdxS (l.map enc) n K := by
  have hlt : n.toNat < l.length := by omega
  refine ⟨h0, _, ?_, h⟩
  simp [List.getElem?_eq_getElem hlt]

theorem ix_rfl {ds : List D} {n : Int} {K : D → Prop} {d : D} (h0 : 0 ≤ n) (h : ds[n.toNat]? = some d) (hK : K d) : IdxS ds n K := ⟨h0, d, h, hK⟩

/-- bytes, strings -/
def byteD (c : UInt8) : D := .int .u8 c.toNat
def bytesD (l : List UInt8) : D := .sl 1 (l.map byteD) none
theorem ix_byte {l : List UInt8} {n : Int} {K : D → Prop} (h0 : 0 ≤ n) (hlt : n < l.length) (h : K (.int .u8 ((l.getD n.toNat 0).toNat : Int))) : IdxS (l.map byteD) n K := ix_getD 0 h0 hlt h
theorem ix_byteK {l : List UInt8} {n : Int} {k : Nat} {K : D → Prop} (hk : n.toNat = k) (h0 : 0 ≤ n) (hlt : n < l.length) (h : K (.int .u8 ((l.getD k 0).toNat : Int))) : IdxS (l.map byteD) n K := by
  subst hk; exact ix_getD 0 h0 hlt h
theorem ix_byteN {l : List UInt8} {k : Nat} {K : D → Prop} (hlt : (k : Int) < l.length) (h : K (.int .u8 ((l.getD k 0).toNat : Int))) : IdxS (l.map byteD) (k : Int) K := ix_getD 0 (Int.natCast_nonneg k) hlt h

theorem u8_lt (c : UInt8) : ((c.toNat : Nat) : Int) < 256 := by have := c.toNat_lt; omega

/-! bits -/
theorem or_add {x c : Int} {s : Nat} {m : Int} (hm : (2 : Int) ^ s = m) (h0 : 0 ≤ x) (hc0 : 0 ≤ c) (hc : c < m) (hx : x * m + c ≤ 9223372036854775807) : bitI .or .i64 (x * m) c = x * m + c := by
  obtain ⟨a, rfl⟩ := Int.eq_ofNat_of_zero_le h0
  obtain ⟨d, rfl⟩ := Int.eq_ofNat_of_zero_le hc0
  obtain ⟨q, rfl⟩ : ∃ q : Nat, m = q := ⟨2 ^ s, by rw [← hm]; simp⟩
  have hq : q = 2 ^ s := by exact_mod_cast hm.symm
  have hd : d < 2 ^ s := by rw [← hq]; omega
  unfold bitI
  have e1 : BitVec.ofInt IntKind.i64.bits ((a : Int) * q) = BitVec.ofNat 64 (a * q) := by
    rw [← Int.natCast_mul]; rfl
  have e2 : BitVec.ofInt IntKind.i64.bits (d : Int) = BitVec.ofNat 64 d := rfl
  have hb : a * q + d < 2 ^ 64 := by
    have : ((a * q + d : Nat) : Int) ≤ 9223372036854775807 := by simpa using hx
    omega
  have key : (BitVec.ofNat 64 (a * q) ||| BitVec.ofNat 64 d).toNat = a * q + d := by
    rw [BitVec.toNat_or, BitVec.toNat_ofNat, BitVec.toNat_ofNat, Nat.mod_eq_of_lt (by omega), Nat.mod_eq_of_lt (by omega), hq, ← Nat.shiftLeft_eq, ← Nat.shiftLeft_add_eq_or_of_lt hd]
  have e3 : ((BitVec.ofInt IntKind.i64.bits ((a : Int) * q) ||| BitVec.ofInt IntKind.i64.bits (d : Int)).toNat : Int) = a * q + d := by
    have : (BitVec.ofInt IntKind.i64.bits ((a : Int) * q) ||| BitVec.ofInt IntKind.i64.bits (d : Int)).toNat = a * q + d := by
      rw [e1, e2]; exact key
    rw [this]; simp
  show IntKind.i64.wrap ((BitVec.ofInt IntKind.i64.bits ((a : Int) * q) ||| BitVec.ofInt IntKind.i64.bits (d : Int)).toNat : Int) = _
  rw [e3, wrap_i64 (by omega) (by simpa using hx)]

theorem bit_mk {op : BinOp} {k : IntKind} {x y r : Int} {K : D → Prop} (h : bitI op k x y = r) (hK : K (.int k r)) : BitS op k x y K := by unfold BitS; rwa [h]
theorem cat_mk {s t : List UInt8} {K : D → Prop} (h : ((s.length + t.length : Nat) : Int) ≤ 9223372036854775807) (hK : K (.str (s ++ t))) : CatS s t K := ⟨h, hK⟩
theorem call_pure {P : Program} {f : Nat} {av : List D} {L : List Ob} {KP : D → Prop} {KW : D → List Ob → Prop} {spec : Spec} (h : Meets P f spec) (hs : stripLK av fun av => ∃ d, spec av [] d [] ∧ KP d) : CallS P f av L KP KW :=
  .inl ⟨spec, h, hs⟩
theorem loop_end {α : Type} {I : α → Prop} {S : α → List (Nat × D)} {O : α → List Ob} {μ : α → Nat} {p : α} {σ : List (Nat × D)} {L : List Ob} (p' : α) (h1 : I p') (h2 : μ p' < μ p) {n0 : Nat} (h3 : WeakC σ L (S p') (O p')) : LoopEnd n0 I S O μ p σ L := ⟨p', h1, h2, .inl h3⟩
theorem end_mk {n0 : Nat} {r d : D} {L L' : List Ob} (h : renK (below L'.length) r fun r' => renObsK (below L'.length) L'.length L fun L'' => VS (r' = d) ∧ VS (L'' = L')) : EndS n0 r d L L' := .inl h

theorem bytes_mk {l : List UInt8} {K : D → Prop} (h : K (.str l)) : BytesS (l.map byteD) K := ⟨l, rfl, h⟩

/-! elements, written in a better way -/
theorem norm_mk {ds : List D} {K : List D → Nat → Prop} (h : K ds ds.length) : NormL ds K := h
theorem norm_eq {ds : List D} (r : List D) {K : List D → Nat → Prop} (h : ds = r) (hK : K r r.length) : NormL ds K := h ▸ hK
theorem norm_map {α : Type} {f : α → D} {ds : List D} (l : List α) {K : List D → Nat → Prop} (h : ds = l.map f) (hK : K (l.map f) l.length) : NormL ds K := by
  subst h
  unfold NormL
  rwa [List.length_map]
theorem norm_one {α : Type} {f : α → D} {l : List α} {K : List D → Nat → Prop} (hK : K (l.map f) l.length) : NormL (l.map f) K := norm_map l rfl hK
theorem norm_app {α : Type} {f : α → D} {l m : List α} {K : List D → Nat → Prop} (hK : K ((l ++ m).map f) (l ++ m).length) : NormL (l.map f ++ m.map f) K := norm_map _ List.map_append.symm hK
theorem norm_cut {α : Type} {f : α → D} {l : List α} {a b : Int} {K : List D → Nat → Prop} (hK : K (((l.take a.toNat).drop b.toNat).map f) ((l.take a.toNat).drop b.toNat).length) : NormL (((l.map f).take a.toNat).drop b.toNat) K :=
  norm_map _ (by rw [List.map_drop, List.map_take]) hK
theorem norm_cutEnd {α : Type} {f : α → D} {l : List α} {b : Int} {K : List D → Nat → Prop} (hK : K ((l.drop b.toNat).map f) (l.drop b.toNat).length) : NormL (((l.map f).take (((l.map f).length : Nat) : Int).toNat).drop b.toNat) K :=
  norm_map _ (by rw [Int.toNat_natCast, List.take_length, List.map_drop]) hK
theorem norm_bytes1 {l : List UInt8} {a : UInt8} {K : List D → Nat → Prop} (hK : K ((l ++ [a]).map byteD) (l ++ [a]).length) : NormL (l.map byteD ++ [.int .u8 a.toNat]) K := norm_map _ (by simp [byteD]) hK
theorem norm_bytes2 {l : List UInt8} {a b : UInt8} {K : List D → Nat → Prop} (hK : K ((l ++ [a, b]).map byteD) (l ++ [a, b]).length) : NormL (l.map byteD ++ [.int .u8 a.toNat, .int .u8 b.toNat]) K := norm_map _ (by simp [byteD]) hK
theorem norm_setByte {l : List UInt8} {q : Nat} {a : UInt8} {K : List D → Nat → Prop} (hK : K ((l.set q a).map byteD) (l.set q a).length) : NormL ((l.map byteD).set q (.int .u8 a.toNat)) K := norm_map _ (by simp [byteD, List.map_set]) hK
def intD (n : Int) : D := .int .i64 n
def intsD (l : List Int) : D := .sl 1 (l.map intD) none
theorem norm_int1 {l : List Int} {a : Int} {K : List D → Nat → Prop} (hK : K ((l ++ [a]).map intD) (l ++ [a]).length) : NormL (l.map intD ++ [.int .i64 a]) K := norm_map _ (by simp [intD]) hK

end Go.Plat
