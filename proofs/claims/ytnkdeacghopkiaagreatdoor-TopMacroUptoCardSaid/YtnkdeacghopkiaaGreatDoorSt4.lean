/-
  A part of the proof: what the given program's functions answer, each once; conditions that are enough for it.
-/
import Derived.Test.YtnkdeacghopkiaaGreatDoorSt3
import Derived.Test.YtnkdeacghopkiaaGreatDoorSt1
import Derived.Test.YtnkdeacghopkiaaGreatDoorFw3
import Derived.Test.YtnkdeacghopkiaaGreatDoorSt2
import Derived.Test.YtnkdeacghopkiaaGreatDoorRows
import Derived.WalkKit
import Derived.ProofKit
import Derived.OpenShut
import Derived.JoinedCond
import Derived.Deep.DeepHandedRow
import Derived.Lay
import Derived.Test.YtnkdeacghopkiaaGreatDoorTie
namespace Go.Proofs.YtnkdeacghopkiaaGreatDoor
open Go Go.Plat
set_option linter.unusedVariables false
set_option linter.unusedSimpArgs false
set_option maxRecDepth 100000
attribute [local irreducible] zz wm yZ xm yF xo zh
structure z8 where
 r : Nat → Int
 t : Bool
 pc : Int
 pr : Int
 img : zab
 told : List Int
 steps : Int
def vl (m : z8) : List D :=
 [.int .i64 (m.r 0), .int .i64 (m.r 1), .int .i64 (m.r 2), .int .i64 (m.r 3), .int .i64 (m.r 4), .int .i64 (m.r 5), .int .i64 (m.r 6), .int .i64 (m.r 7),
  .int .i64 (m.r 8), .int .i64 (m.r 9), .int .i64 (m.r 10), .int .i64 (m.r 11), .int .i64 (m.r 12), .int .i64 (m.r 13), .int .i64 (m.r 14), .int .i64 (m.r 15),
  .bool m.t, .int .i64 m.pc, .int .i64 m.pr, .int .i64 m.img.base, vy m.img.bytes, .sl 2 (m.img.syms.map yK) none, .sl 1 (m.told.map zhP) none, .int .i64 m.steps]
def zb4 (m : z8) : D := .agg (vl m)
def wy : z8 := ⟨fun _ => 0, false, 0, 0, zaM, [], 0⟩
def up (r : Nat → Int) (n v : Int) : Nat → Int := fun k => if (k : Int) = n then v else r k
theorem zx2 (r : Nat → Int) (n v : Int) (h : 0 ≤ n) : up r n v n.toNat = v := by unfold up; rw [if_pos (by omega)]
theorem zs9 {r : Nat → Int} {n : Int} {rest : List D} {K : D → Prop} (h0 : 0 ≤ n) (h1 : n < 16) (h : K (.int .i64 (r n.toNat))) :
  zX (.int .i64 (r 0) :: .int .i64 (r 1) :: .int .i64 (r 2) :: .int .i64 (r 3) :: .int .i64 (r 4) :: .int .i64 (r 5) :: .int .i64 (r 6) :: .int .i64 (r 7) :: .int .i64 (r 8) :: .int .i64 (r 9) :: .int .i64 (r 10) :: .int .i64 (r 11) :: .int .i64 (r 12) :: .int .i64 (r 13) :: .int .i64 (r 14) :: .int .i64 (r 15) :: rest) ((0 + n.toNat * 1 : Nat) : Int) K := by
 refine ⟨by omega, .int .i64 (r n.toNat), ?_, h⟩
 obtain ⟨k, rfl⟩ := Int.eq_ofNat_of_zero_le h0
 have hk : k < 16 := by omega
 simp only [Int.toNat_natCast, Nat.mul_one, Nat.zero_add]
 match k, hk with
 | 0, _ | 1, _ | 2, _ | 3, _ | 4, _ | 5, _ | 6, _ | 7, _ | 8, _ | 9, _ | 10, _ | 11, _ | 12, _ | 13, _ | 14, _ | 15, _ => rfl
theorem zpZ {r : Nat → Int} {n v : Int} {rest : List D} {K : List D → Nat → Prop} (h0 : 0 ≤ n) (h1 : n < 16) (h : K (.int .i64 ((up r n v) 0) :: .int .i64 ((up r n v) 1) :: .int .i64 ((up r n v) 2) :: .int .i64 ((up r n v) 3) :: .int .i64 ((up r n v) 4) :: .int .i64 ((up r n v) 5) :: .int .i64 ((up r n v) 6) :: .int .i64 ((up r n v) 7) :: .int .i64 ((up r n v) 8) :: .int .i64 ((up r n v) 9) :: .int .i64 ((up r n v) 10) :: .int .i64 ((up r n v) 11) :: .int .i64 ((up r n v) 12) :: .int .i64 ((up r n v) 13) :: .int .i64 ((up r n v) 14) :: .int .i64 ((up r n v) 15) :: rest) (16 + rest.length)) :
  zo (List.set (.int .i64 (r 0) :: .int .i64 (r 1) :: .int .i64 (r 2) :: .int .i64 (r 3) :: .int .i64 (r 4) :: .int .i64 (r 5) :: .int .i64 (r 6) :: .int .i64 (r 7) :: .int .i64 (r 8) :: .int .i64 (r 9) :: .int .i64 (r 10) :: .int .i64 (r 11) :: .int .i64 (r 12) :: .int .i64 (r 13) :: .int .i64 (r 14) :: .int .i64 (r 15) :: rest) (0 + n.toNat * 1) (.int .i64 v)) K := by
 unfold zo
 have e : List.set (.int .i64 (r 0) :: .int .i64 (r 1) :: .int .i64 (r 2) :: .int .i64 (r 3) :: .int .i64 (r 4) :: .int .i64 (r 5) :: .int .i64 (r 6) :: .int .i64 (r 7) :: .int .i64 (r 8) :: .int .i64 (r 9) :: .int .i64 (r 10) :: .int .i64 (r 11) :: .int .i64 (r 12) :: .int .i64 (r 13) :: .int .i64 (r 14) :: .int .i64 (r 15) :: rest) (0 + n.toNat * 1) (.int .i64 v) = (.int .i64 ((up r n v) 0) :: .int .i64 ((up r n v) 1) :: .int .i64 ((up r n v) 2) :: .int .i64 ((up r n v) 3) :: .int .i64 ((up r n v) 4) :: .int .i64 ((up r n v) 5) :: .int .i64 ((up r n v) 6) :: .int .i64 ((up r n v) 7) :: .int .i64 ((up r n v) 8) :: .int .i64 ((up r n v) 9) :: .int .i64 ((up r n v) 10) :: .int .i64 ((up r n v) 11) :: .int .i64 ((up r n v) 12) :: .int .i64 ((up r n v) 13) :: .int .i64 ((up r n v) 14) :: .int .i64 ((up r n v) 15) :: rest) := by
  obtain ⟨k, rfl⟩ := Int.eq_ofNat_of_zero_le h0
  have hk : k < 16 := by omega
  simp only [Int.toNat_natCast, Nat.mul_one, Nat.zero_add]
  match k, hk with
  | 0, _ | 1, _ | 2, _ | 3, _ | 4, _ | 5, _ | 6, _ | 7, _ | 8, _ | 9, _ | 10, _ | 11, _ | 12, _ | 13, _ | 14, _ | 15, _ => rfl
 rw [e]
 refine cast ?_ h
 congr 1
 simp only [List.length_cons]
 omega
theorem zta {n : Int} {l : List D} {K : Prop} (h0 : 0 ≤ n) (h1 : n < 16) (hl : Nat.ble 16 l.length = true) (h : K) : zr (0 + n.toNat * 1 < l.length) K :=
 ⟨by have := Nat.le_of_ble_eq_true hl; omega, h⟩
def inM (m : z8) (at_ size : Int) : Bool := decide (m.img.base ≤ at_ ∧ at_ % size = 0 ∧ at_ - m.img.base ≤ m.img.bytes.length - size)
def xv (m : z8) (at_ : Int) : Ins × Int := if inM m at_ 2 = true then wm (yZ m.img.bytes (at_ - m.img.base) 2) else (zh1, 6)
def jf (op : Int) : Bool := decide (op = 2 ∨ (17 ≤ op ∧ op ≤ 22))
def vF (op : Int) : Int := match xm op with | some r => r.shape | none => 0
def toM (i : Ins) (at_ : Int) : Int := if vF i.op = 4 ∨ vF i.op = 5 ∨ vF i.op = 7 then at_ + 4 + 2 * i.imm else if vF i.op = 8 then (at_ + 4) - (at_ + 4) % 4 + 4 * i.imm else 0
def zag (a b : Int) : Int := zz .and .i32 a b
def zdt (a b : Int) : Int := zz .or .i32 a b
def zbu (a b : Int) : Int := zz .xor .i32 a b
def xE (m : z8) (n v : Int) : z8 := { m with r := up m.r n v }
def zdM (m : z8) (t : Bool) : z8 := { m with t := t }
def wE (m : z8) (i : Ins) (at_ : Int) : z8 × Int :=
 if inM m (if i.op = 26 then m.r i.m.toNat else toM i at_) (if i.op = 23 then 2 else 4) = true then
  (xE m i.n (if i.op = 23 then zh (zh (yZ m.img.bytes (toM i at_ - m.img.base) 2) 16) 32 else zh (yZ m.img.bytes ((if i.op = 26 then m.r i.m.toNat else toM i at_) - m.img.base) 4) 32), 0)
 else (m, 3)
def zdN (m : z8) (i : Ins) : z8 × Int :=
 if inM m (m.r i.n.toNat) 4 = true then ({ m with img := { m.img with bytes := xo m.img.bytes (m.r i.n.toNat - m.img.base) 4 (m.r i.m.toNat) } }, 0) else (m, 3)
def zgt (m : z8) (i : Ins) : z8 :=
 let n := m.r i.n.toNat
 let v := m.r i.m.toNat
 if i.op = 5 then xE m i.n v
 else if i.op = 6 then xE m i.n (zh (n + v) 32)
 else if i.op = 7 then xE m i.n (zh (n - v) 32)
 else if i.op = 8 then xE m i.n (zag n v)
 else if i.op = 9 then xE m i.n (zdt n v)
 else if i.op = 10 then xE m i.n (zbu n v)
 else if i.op = 11 then zdM m (decide (zag n v = 0))
 else if i.op = 12 then zdM m (decide (n = v))
 else if i.op = 13 then zdM m (decide (n > v))
 else m
def yg (m : z8) (i : Ins) (at_ : Int) : z8 × Int :=
 let n := m.r i.n.toNat
 if i.op = 3 then (xE m i.n i.imm, 0)
 else if i.op = 4 then (xE m i.n (zh (n + i.imm) 32), 0)
 else if i.op = 14 then (zdM (xE m i.n (zh (n * 2) 32)) (decide (n < 0)), 0)
 else if i.op = 15 then (zdM (xE m i.n (n % 4294967296 / 2)) (decide (n % 2 = 1)), 0)
 else if i.op = 16 then (zdM (xE m i.n (zh (n - 1) 32)) (decide (zh (n - 1) 32 = 0)), 0)
 else if i.op = 23 ∨ i.op = 24 ∨ i.op = 26 then wE m i at_
 else if i.op = 25 then zdN m i
 else if i.op = 27 then ({ m with told := m.told ++ [m.r 0] }, 0)
 else (zgt m i, 0)
def x3 (m : z8) (i : Ins) : z8 × Int × Bool :=
 if i.op = 17 then (m, if m.t = true then toM i m.pc else m.pc + 2, false)
 else if i.op = 18 then (m, if m.t = true then m.pc + 2 else toM i m.pc, false)
 else if i.op = 2 then (m, m.pr, true)
 else if i.op = 21 then (m, m.r i.n.toNat, true)
 else if i.op = 22 then ({ m with pr := m.pc + 4 }, m.r i.n.toNat, true)
 else if i.op = 20 then ({ m with pr := m.pc + 4 }, toM i m.pc, true)
 else (m, toM i m.pc, true)
def wF (m : z8) (to : Int) : z8 × Bool × Int :=
 let j := xv m (m.pc + 2)
 if j.2 ≠ 0 then (wy, false, j.2)
 else if jf j.1.op = true ∨ j.1.op = 27 then (wy, false, 8)
 else let x := yg m j.1 (m.pc + 2)
  if x.2 ≠ 0 then (wy, false, x.2) else ({ x.1 with pc := to }, false, 0)
def xz (m : z8) : z8 × Bool × Int :=
 let i := xv m m.pc
 if i.2 ≠ 0 then (wy, false, i.2)
 else
  let m1 : z8 := { m with steps := m.steps + 1 }
  if i.1.op = 27 ∧ i.1.imm = 0 then (m1, true, 0)
  else if jf i.1.op = false then
   let x := yg m1 i.1 m.pc
   if x.2 ≠ 0 then (wy, false, x.2) else ({ x.1 with pc := x.1.pc + 2 }, false, 0)
  else
   let l := x3 m1 i.1
   if l.2.2 = true then wF l.1 l.2.1 else ({ l.1 with pc := l.2.1 }, false, 0)
def wA : Nat → z8 → z8 × Int
 | 0, _ => (wy, 13)
 | n + 1, m => let s := xz m
  if s.2.2 ≠ 0 then (wy, s.2.2) else if s.2.1 = true then (s.1, 0) else wA n s.1
structure InM (k : Nat) (m : z8) : Prop where
 regs : ∀ j, j < 16 → -2147483648 ≤ m.r j ∧ m.r j ≤ 2147483647
 pc : -5000000000 - 100000 * (k : Int) ≤ m.pc ∧ m.pc ≤ 5000000000 + 100000 * (k : Int)
 pr : -5000000000 - 100000 * (k : Int) ≤ m.pr ∧ m.pr ≤ 5000000000 + 100000 * (k : Int)
 base : 0 ≤ m.img.base ∧ m.img.base ≤ 1048576
 len : m.img.bytes.length ≤ 1048576
 syms : m.img.syms.length ≤ 1048576
 told : m.told.length ≤ 1048576 + k
 steps : 0 ≤ m.steps ∧ m.steps ≤ 1000000 + k
theorem InM.mono {k j : Nat} {m : z8} (h : InM k m) (hk : k ≤ j) : InM j m :=
 ⟨h.regs, by have := h.pc; omega, by have := h.pr; omega, h.base, h.len, h.syms, by have := h.told; omega, by have := h.steps; omega⟩
structure InI (i : Ins) : Prop where
 n : 0 ≤ i.n ∧ i.n < 16
 m : 0 ≤ i.m ∧ i.m < 16
 imm : -4096 ≤ i.imm ∧ i.imm ≤ 4096
end Go.Proofs.YtnkdeacghopkiaaGreatDoor
namespace Go.Proofs.YtnkdeacghopkiaaGreatDoor
open Go Go.Plat
set_option linter.unusedVariables false
set_option linter.unusedSimpArgs false
set_option maxRecDepth 100000
theorem ztb (n : Int) : IntKind.i32.wrap n = zh n 32 := by
 have : zh n 32 = if n % 4294967296 / 2147483648 = 1 then n % 4294967296 - 4294967296 else n % 4294967296 := rfl
 rw [this]
 have e : IntKind.i32.wrap n = if n % 4294967296 ≥ 2147483648 then n % 4294967296 - 4294967296 else n % 4294967296 := by
  simp only [IntKind.wrap, IntKind.signed, IntKind.bits, show (2 : Int) ^ 32 = 4294967296 from rfl, show (2 : Int) ^ (32 - 1) = 2147483648 from rfl, Bool.true_and, decide_eq_true_eq]
 rw [e]
 split <;> split <;> omega
theorem zwh (n : Int) : IntKind.u32.wrap n = n % 4294967296 := by simp [IntKind.wrap, IntKind.signed, IntKind.bits]
theorem zwi (n : Int) : IntKind.u16.wrap n = n % 65536 := by simp [IntKind.wrap, IntKind.signed, IntKind.bits]
theorem zxs (n : Int) : IntKind.i16.wrap n = zh n 16 := by
 have : zh n 16 = if n % 65536 / 32768 = 1 then n % 65536 - 65536 else n % 65536 := rfl
 rw [this]
 have e : IntKind.i16.wrap n = if n % 65536 ≥ 32768 then n % 65536 - 65536 else n % 65536 := by
  simp only [IntKind.wrap, IntKind.signed, IntKind.bits, show (2 : Int) ^ 16 = 65536 from rfl, show (2 : Int) ^ (16 - 1) = 32768 from rfl, Bool.true_and, decide_eq_true_eq]
 rw [e]
 split <;> split <;> omega
theorem zxt {n : Int} {K : D → Prop} (h : K (.int .i32 (zh n 32))) : zA .i32 n K := by unfold zA; rw [ztb]; exact h
theorem zxu {n : Int} {K : D → Prop} (h : K (.int .u32 (n % 4294967296))) : zA .u32 n K := by unfold zA; rw [zwh]; exact h
theorem zxv {n : Int} {K : D → Prop} (h : K (.int .u16 (n % 65536))) : zA .u16 n K := by unfold zA; rw [zwi]; exact h
theorem zxw {n : Int} {K : D → Prop} (h : K (.int .i16 (zh n 16))) : zA .i16 n K := by unfold zA; rw [zxs]; exact h
theorem ze3 (n : Int) : -2147483648 ≤ zh n 32 ∧ zh n 32 ≤ 2147483647 := by
 have : zh n 32 = if n % 4294967296 / 2147483648 = 1 then n % 4294967296 - 4294967296 else n % 4294967296 := rfl
 rw [this]
 split <;> omega
theorem zyi {n : Int} (h1 : 0 ≤ n) (h2 : n ≤ 65535) : zh n 16 = if n > 32767 then n - 65536 else n := by
 have : zh n 16 = if n % 65536 / 32768 = 1 then n % 65536 - 65536 else n % 65536 := rfl
 rw [this]
 split <;> split <;> omega
theorem zkp (v : BitVec 64) : IntKind.i64.wrap (v.toNat : Int) = v.toInt := by
 have h := v.isLt
 rw [BitVec.toInt_eq_toNat_cond]
 simp only [IntKind.wrap, IntKind.signed, IntKind.bits, show (2 : Int) ^ 64 = 18446744073709551616 from rfl, show (2 : Int) ^ (64 - 1) = 9223372036854775808 from rfl, Bool.true_and, decide_eq_true_eq]
 have e : (2 : Nat) ^ 64 = 18446744073709551616 := rfl
 rw [e] at h ⊢
 split <;> split <;> omega
theorem zkq (v : BitVec 32) : IntKind.i32.wrap (v.toNat : Int) = v.toInt := by
 have h := v.isLt
 rw [BitVec.toInt_eq_toNat_cond]
 simp only [IntKind.wrap, IntKind.signed, IntKind.bits, show (2 : Int) ^ 32 = 4294967296 from rfl, show (2 : Int) ^ (32 - 1) = 2147483648 from rfl, Bool.true_and, decide_eq_true_eq]
 have e : (2 : Nat) ^ 32 = 4294967296 := rfl
 rw [e] at h ⊢
 split <;> split <;> omega
theorem zaE {a : Int} (h1 : -2147483648 ≤ a) (h2 : a ≤ 2147483647) : BitVec.ofInt 64 a = (BitVec.ofInt 32 a).signExtend 64 := by
 unfold BitVec.signExtend
 rw [BitVec.toInt_ofInt, Int.bmod_eq_of_le (by have : (2 : Nat) ^ 32 = 4294967296 := rfl; omega) (by have : (2 : Nat) ^ 32 = 4294967296 := rfl; omega)]
theorem zia (v : BitVec 32) : (v.signExtend 64).toInt = v.toInt := by
 rw [BitVec.toInt_signExtend_of_le (by decide)]
section
variable {a b : Int} (ha1 : -2147483648 ≤ a) (ha2 : a ≤ 2147483647) (hb1 : -2147483648 ≤ b) (hb2 : b ≤ 2147483647)
include ha1 ha2 hb1 hb2
theorem zx3 : zz .and .i64 a b = zag a b := by
 unfold zag zz
 show IntKind.i64.wrap ((BitVec.ofInt 64 a &&& BitVec.ofInt 64 b).toNat : Int) = IntKind.i32.wrap ((BitVec.ofInt 32 a &&& BitVec.ofInt 32 b).toNat : Int)
 rw [zkp, zkq, zaE ha1 ha2, zaE hb1 hb2, ← BitVec.signExtend_and, zia]
theorem zyj : zz .or .i64 a b = zdt a b := by
 unfold zdt zz
 show IntKind.i64.wrap ((BitVec.ofInt 64 a ||| BitVec.ofInt 64 b).toNat : Int) = IntKind.i32.wrap ((BitVec.ofInt 32 a ||| BitVec.ofInt 32 b).toNat : Int)
 rw [zkp, zkq, zaE ha1 ha2, zaE hb1 hb2, ← BitVec.signExtend_or, zia]
theorem zx4 : zz .xor .i64 a b = zbu a b := by
 unfold zbu zz
 show IntKind.i64.wrap ((BitVec.ofInt 64 a ^^^ BitVec.ofInt 64 b).toNat : Int) = IntKind.i32.wrap ((BitVec.ofInt 32 a ^^^ BitVec.ofInt 32 b).toNat : Int)
 rw [zkp, zkq, zaE ha1 ha2, zaE hb1 hb2, ← BitVec.signExtend_xor, zia]
end
theorem zib (op : BinOp) (a b : Int) : -2147483648 ≤ zz op .i32 a b ∧ zz op .i32 a b ≤ 2147483647 := by
 unfold zz
 rw [ztb]
 exact ze3 _
theorem zwj {a b : Int} (h1 : -2147483648 ≤ a ∧ a ≤ 2147483647) (h2 : -2147483648 ≤ b ∧ b ≤ 2147483647) {K : D → Prop} (h : K (.int .i64 (zag a b))) : yh .and .i64 a b K := by
 unfold yh; rw [zx3 h1.1 h1.2 h2.1 h2.2]; exact h
theorem zxx {a b : Int} (h1 : -2147483648 ≤ a ∧ a ≤ 2147483647) (h2 : -2147483648 ≤ b ∧ b ≤ 2147483647) {K : D → Prop} (h : K (.int .i64 (zdt a b))) : yh .or .i64 a b K := by
 unfold yh; rw [zyj h1.1 h1.2 h2.1 h2.2]; exact h
theorem zwk {a b : Int} (h1 : -2147483648 ≤ a ∧ a ≤ 2147483647) (h2 : -2147483648 ≤ b ∧ b ≤ 2147483647) {K : D → Prop} (h : K (.int .i64 (zbu a b))) : yh .xor .i64 a b K := by
 unfold yh; rw [zx4 h1.1 h1.2 h2.1 h2.2]; exact h
theorem zyk : (~~~ (3#64)).toNat = 18446744073709551612 := by decide
theorem ztc (x : Nat) (hx : x < 18446744073709551616) : x &&& 18446744073709551612 = x / 4 * 4 := by
 have e1 : x / 4 * 4 = (x >>> 2) <<< 2 := by rw [Nat.shiftRight_eq_div_pow, Nat.shiftLeft_eq]
 have e2 : (18446744073709551612 : Nat) = (2 ^ 62 - 1) <<< 2 := by decide
 rw [e1, e2]
 refine Nat.eq_of_testBit_eq fun i => ?_
 rw [Nat.testBit_and, Nat.testBit_shiftLeft, Nat.testBit_shiftLeft, Nat.testBit_shiftRight, Nat.testBit_two_pow_sub_one]
 by_cases hi : 2 ≤ i
 ·rw [show 2 + (i - 2) = i by omega]
  by_cases h64 : i - 2 < 62
  ·simp [hi, h64]
  ·have : x.testBit i = false := Nat.testBit_lt_two_pow (Nat.lt_of_lt_of_le hx (show 2 ^ 64 ≤ 2 ^ i from Nat.pow_le_pow_right (by decide) (by omega)))
   simp [this]
 ·simp [hi]
theorem zxy {n : Int} (h1 : -4611686018427387904 ≤ n) (h2 : n ≤ 4611686018427387904) : zz .andNot .i64 n 3 = n - n % 4 := by
 unfold zz
 show IntKind.i64.wrap ((BitVec.ofInt 64 n &&& ~~~ (BitVec.ofInt 64 3)).toNat : Int) = _
 rw [show BitVec.ofInt 64 3 = 3#64 from rfl, BitVec.toNat_and, zyk, ztc _ (BitVec.ofInt 64 n).isLt]
 have h3 := toNat_ofInt n
 simp only [IntKind.wrap, IntKind.signed, IntKind.bits, show (2 : Int) ^ 64 = 18446744073709551616 from rfl, show (2 : Int) ^ (64 - 1) = 9223372036854775808 from rfl, Bool.true_and, decide_eq_true_eq]
 split <;> omega
end Go.Proofs.YtnkdeacghopkiaaGreatDoor
namespace Go.Proofs.YtnkdeacghopkiaaGreatDoor
open Go Go.Plat
set_option linter.unusedVariables false
set_option linter.unusedSimpArgs false
set_option maxRecDepth 100000
set_option maxHeartbeats 2000000
attribute [local irreducible] AWP zA yh zE zn yu z6 zF zX zY zq za zL yv zo zZ yq yr yj ym zr zu zz wm yZ xm yF xo zh
theorem zcK : za Tryz.prog ztS (ya (fun ((m, at_, size) : z8 × Int × Int) => InM 10000 m ∧ -4000000000000 ≤ at_ ∧ at_ ≤ 4000000000000 ∧ (size = 2 ∨ size = 4))
  (fun (m, at_, size) => [.loc 0 0, .int .i64 at_, .int .i64 size]) (fun (m, _, _) => [.cells (vl m)]) (fun (m, at_, size) => .bool (inM m at_ size)) fun (m, _, _) => [.cells (vl m)]) := by
 refine zf zj Tryz.func72 rfl (by decide) ?_
 rintro ⟨m, at_, size⟩ ⟨hm, h1, h2, hs⟩
 have hb := hm.base
 have hl := hm.len
 refine ⟨Nat.le_refl _, by simp [Tryz.f72], fun E hE => ?_⟩
 refine ze _ ?_
 (all_goals refine qgv ?_ <;> (repeat' first | exact trivial | intro hc | refine And.intro ?_ ?_) <;> refine Lf.mk ?_)
 ·refine v6 (r1 := .bool (inM m at_ size)) (LeD.of_eq (congrArg D.bool ?_)) (yo ?_) (Nat.le_refl _)
  ·exact decide_eq_decide.2 ⟨fun h => ⟨by assumption, by assumption, h⟩, fun h => h.2.2⟩
  ·(repeat' (first | (refine VS.mk ?_) | exact trivial | exact rfl | refine And.intro ?_ ?_))
 ·refine v6 (r1 := .bool (inM m at_ size)) (LeD.ff (decide_eq_false fun h => hc h.2.1)) (yo ?_) (Nat.le_refl _)
  (repeat' (first | (refine VS.mk ?_) | exact trivial | exact rfl | refine And.intro ?_ ?_))
 ·refine v6 (r1 := .bool (inM m at_ size)) (LeD.ff (decide_eq_false fun h => hc h.1)) (yo ?_) (Nat.le_refl _)
  (repeat' (first | (refine VS.mk ?_) | exact trivial | exact rfl | refine And.intro ?_ ?_))
theorem zgu {m : z8} {a s : Int} : inM m a s = true ↔ (m.img.base ≤ a ∧ a % s = 0 ∧ a - m.img.base ≤ m.img.bytes.length - s) := by unfold inM; exact decide_eq_true_iff
attribute [local irreducible] inM
theorem zdO : za Tryz.prog zoQ (ya (fun ((m, at_) : z8 × Int) => InM 10000 m ∧ -4000000000000 ≤ at_ ∧ at_ ≤ 4000000000000)
  (fun (m, at_) => [.loc 0 0, .int .i64 at_]) (fun (m, _) => [.cells (vl m)]) (fun (m, at_) => .tup [ju (xv m at_).1, .int .i64 (xv m at_).2]) fun (m, _) => [.cells (vl m)]) := by
 refine zf zj Tryz.func50 rfl (by decide) ?_
 rintro ⟨m, at_⟩ ⟨hm, h1, h2⟩
 have hb := hm.base
 have hl := hm.len
 refine ⟨Nat.le_refl _, by simp [Tryz.f50], fun E hE => ?_⟩
 refine ze _ ?_
 (all_goals refine qgv (Lf.mk ?_))
 refine yb zcK [0] [0] (m, at_, 2) ⟨hm, h1, h2, .inl rfl⟩ rfl rfl ?_
 refine And.intro (VS.mk (LeL.of_eq rfl)) (And.intro (VS.mk rfl) ?_)
 (all_goals refine qgv ?_ <;> (repeat' first | exact trivial | intro hc | refine And.intro ?_ ?_) <;> refine Lf.mk ?_)
 ·have hf : xv m at_ = (zh1, 6) := by unfold xv; rw [if_neg (by rw [hc]; decide)]
  refine yR [0] rfl rfl ?_
  (repeat' (first | (refine VS.mk ?_) | exact trivial | exact rfl | refine And.intro ?_ ?_))
  all_goals (dsimp only; rw [hf]; rfl)
 ·have hf : xv m at_ = wm (yZ m.img.bytes (at_ - m.img.base) 2) := by unfold xv; rw [if_pos hc]
  have hin : m.img.base ≤ at_ ∧ at_ % 2 = 0 ∧ at_ - m.img.base ≤ m.img.bytes.length - 2 := zgu.1 hc
  refine zb zdh (m.img.bytes, at_ - m.img.base, 2) ⟨by omega, by omega, by decide⟩ (VS.mk (by (first | exact LeL.refl _ | (repeat' (first | exact LeL.nil | exact LeD.refl _ | exact LeD.nil _ | exact LeD.strip _ _ _ | refine LeL.cons ?_ ?_ | refine LeD.tup ?_ | refine LeD.agg ?_))))) ?_
  (all_goals refine qgv (Lf.mk ?_))
  refine zb znj (yZ m.img.bytes (at_ - m.img.base) 2) trivial (VS.mk (by (first | exact LeL.refl _ | (repeat' (first | exact LeL.nil | exact LeD.refl _ | exact LeD.nil _ | exact LeD.strip _ _ _ | refine LeL.cons ?_ ?_ | refine LeD.tup ?_ | refine LeD.agg ?_))))) ?_
  (all_goals refine qgv (Lf.mk ?_))
  refine yR [0] rfl rfl ?_
  (repeat' (first | (refine VS.mk ?_) | exact trivial | exact rfl | refine And.intro ?_ ?_))
  all_goals (dsimp only; rw [hf]; try rfl)
theorem zdP : za Tryz.prog zoR (zx (fun _ : Int => True) (fun op => [.int .i64 op]) fun op => .bool (jf op)) := by
 refine zf zj Tryz.func51 rfl (by decide) fun op _ => ?_
 refine ⟨Nat.le_refl _, by simp [Tryz.f51], fun E hE => ?_⟩
 refine ze _ ?_
 (all_goals refine qgv ?_ <;> (repeat' first | exact trivial | intro hc | refine And.intro ?_ ?_) <;> refine Lf.mk ?_)
 all_goals (refine zd (VS.mk ?_))
 all_goals first
  | exact LeD.tt (decide_eq_true (by omega))
  | exact LeD.ff (decide_eq_false (by omega))
  | exact LeD.of_eq (congrArg D.bool (decide_eq_decide.2 (by omega)))
theorem zhw : za Tryz.prog zoN (zx (fun i : zab => i.bytes.length ≤ 1048576 ∧ i.syms.length ≤ 1048576) (fun i => [zj8 i]) zj8) := by
 refine zf zj Tryz.func32 rfl (by decide) ?_
 rintro i ⟨h1, h2⟩
 refine ⟨Nat.le_refl _, by simp [Tryz.f32], fun E hE => ?_⟩
 refine ze _ ?_
 (all_goals refine qgv (Lf.mk ?_))
 refine zb znk (i.bytes.map zI) ⟨by simp; omega, fun i d hd => ?_⟩ (VS.mk (LeL.of_eq rfl)) ?_
 ·obtain ⟨c, _, rfl⟩ := List.mem_map.1 (List.mem_of_getElem? hd); rfl
 (all_goals refine qgv (Lf.mk ?_))
 refine zb znm (i.syms.map yK) ⟨by simp; omega, fun i d hd => ?_⟩ (VS.mk (LeL.of_eq rfl)) ?_
 ·obtain ⟨c, _, rfl⟩ := List.mem_map.1 (List.mem_of_getElem? hd); rfl
 (all_goals refine qgv (Lf.mk ?_))
 exact zd (VS.mk (LeD.of_eq rfl))
def zah (i : zab) : z8 := ⟨fun _ => 0, false, i.base, -1, i, [], 0⟩
theorem ztd : za Tryz.prog zrW (zx (fun i : zab => i.bytes.length ≤ 1048576 ∧ i.syms.length ≤ 1048576) (fun i => [zj8 i]) fun i => zb4 (zah i)) := by
 refine zf zj Tryz.func16 rfl (by decide) ?_
 rintro i ⟨h1, h2⟩
 refine ⟨Nat.le_refl _, by simp [Tryz.f16], fun E hE => ?_⟩
 refine ze _ ?_
 (all_goals refine qgv (Lf.mk ?_))
 refine zb zhw i ⟨h1, h2⟩ (VS.mk (LeL.of_eq rfl)) ?_
 (all_goals refine qgv (Lf.mk ?_))
 refine zd (VS.mk ?_)
 (first | exact LeL.refl _ | (repeat' (first | exact LeL.nil | exact LeD.refl _ | exact LeD.nil _ | exact LeD.strip _ _ _ | refine LeL.cons ?_ ?_ | refine LeD.tup ?_ | refine LeD.agg ?_)))
 all_goals first | exact LeD.ff rfl | skip
theorem zjq : za Tryz.prog zrX (zx (fun m : z8 => m.img.bytes.length ≤ 1048576 ∧ m.img.syms.length ≤ 1048576 ∧ m.told.length ≤ 2000000) (fun m => [zb4 m]) zb4) := by
 refine zf zj Tryz.func30 rfl (by decide) ?_
 rintro m ⟨h1, h2, h3⟩
 refine ⟨Nat.le_refl _, by simp [Tryz.f30], fun E hE => ?_⟩
 refine ze _ ?_
 (all_goals refine qgv (Lf.mk ?_))
 refine zb zhw m.img ⟨h1, h2⟩ (VS.mk (LeL.of_eq rfl)) ?_
 (all_goals refine qgv (Lf.mk ?_))
 refine zb znl (m.told.map zhP) ⟨by simp; omega, fun i d hd => ?_⟩ (VS.mk (LeL.of_eq rfl)) ?_
 ·obtain ⟨c, _, rfl⟩ := List.mem_map.1 (List.mem_of_getElem? hd); rfl
 (all_goals refine qgv (Lf.mk ?_))
 exact zd (VS.mk (LeD.of_eq rfl))
end Go.Proofs.YtnkdeacghopkiaaGreatDoor
namespace Go.Proofs.YtnkdeacghopkiaaGreatDoor
open Go Go.Plat
set_option linter.unusedVariables false
set_option linter.unusedSimpArgs false
set_option maxRecDepth 100000
set_option maxHeartbeats 2000000
attribute [local irreducible] AWP zA yh zE zn yu z6 zF zX zY zq za zL yv zo zZ yq yr yj ym zr zu zz
attribute [local irreducible] x7 wm zbJ xr w0 wD xm yF vR zaQ zh yy
attribute [local irreducible] zjX
end Go.Proofs.YtnkdeacghopkiaaGreatDoor
namespace Go.Proofs.YtnkdeacghopkiaaGreatDoor
open Go Go.Plat
set_option linter.unusedVariables false
set_option linter.unusedSimpArgs false
set_option maxRecDepth 100000
set_option maxHeartbeats 2000000
attribute [local irreducible] AWP zA yh zE zn yu z6 zF zX zY zq za zL yv zo zZ yq yr yj ym zr zu zz zbJ xm yF zaQ
attribute [local irreducible] zjX x7 wm xr w0 wD vR zh yy
end Go.Proofs.YtnkdeacghopkiaaGreatDoor
namespace Go.Proofs.YtnkdeacghopkiaaGreatDoor
open Go Go.Plat
set_option linter.unusedVariables false
set_option linter.unusedSimpArgs false
set_option maxRecDepth 100000
set_option maxHeartbeats 2000000
attribute [local irreducible] AWP zA yh zE zn yu z6 zF zX zY zq za zL yv zo zZ yq yr yj ym zr zu zz
attribute [local irreducible] x7 zbJ wD xm yF vR zaQ zh
end Go.Proofs.YtnkdeacghopkiaaGreatDoor
namespace Go.Proofs.YtnkdeacghopkiaaGreatDoor
open Go Go.Plat
set_option linter.unusedVariables false
set_option linter.unusedSimpArgs false
set_option maxRecDepth 100000
set_option maxHeartbeats 2000000
attribute [local irreducible] AWP zA yh zE zn yu z6 zF zX zY zq za zL yv zo zZ yq yr yj ym zr zu x7 zz zbJ xm yF zaQ
end Go.Proofs.YtnkdeacghopkiaaGreatDoor
namespace Go.Proofs.YtnkdeacghopkiaaGreatDoor
open Go Go.Plat
set_option linter.unusedVariables false
set_option linter.unusedSimpArgs false
set_option maxRecDepth 100000
set_option maxHeartbeats 2000000
attribute [local irreducible] AWP zA yh zE zn yu z6 zF zX zY zq za zL yv zo zZ yq yr yj ym zr zu zz wm yZ inM xm yF xo vF zh
def ldM (i : Ins) : Bool := decide (vF i.op = 4 ∨ vF i.op = 5 ∨ vF i.op = 7 ∨ vF i.op = 8)
theorem zrr {op : Int} {r : ka} (h : xm op = some r) : vF op = r.shape := by unfold vF; rw [h]
theorem zrs {op : Int} (h : xm op = none) : vF op = 0 := by unfold vF; rw [h]
theorem zrt (op : Int) : ∃ s, kO op = .tup [.str s, .int .i64 (vF op)] := by
 unfold kO
 cases h : xm op with
 | none => exact ⟨[], by rw [zrs h]⟩
 | some r => exact ⟨r.name, by rw [zrr h]⟩
theorem zte {n : Int} (h1 : -4611686018427387904 ≤ n) (h2 : n ≤ 4611686018427387904) {K : D → Prop} (h : K (.int .i64 (n - n % 4))) : yh .andNot .i64 n 3 K := by
 unfold yh; rw [zxy h1 h2]; exact h
theorem zn8 : za Tryz.prog ztT (zx (fun ((i, at_) : Ins × Int) => -4096 ≤ i.imm ∧ i.imm ≤ 4096 ∧ -4000000000000 ≤ at_ ∧ at_ ≤ 4000000000000) (fun (i, at_) => [ju i, .int .i64 at_]) fun (i, at_) => .tup [.int .i64 (toM i at_), .bool (ldM i)]) := by
 refine zf zj Tryz.func76 rfl (by decide) ?_
 rintro ⟨i, at_⟩ ⟨h1, h2, h3, h4⟩
 refine ⟨Nat.le_refl _, by simp [Tryz.f76], fun E hE => ?_⟩
 refine ze _ ?_
 (all_goals refine qgv (Lf.mk ?_))
 refine zb zbZ i.op trivial (VS.mk (LeL.of_eq rfl)) ?_
 obtain ⟨s, hs⟩ := zrt i.op
 rw [hs]
 (all_goals refine qgv ?_ <;> (repeat' first | exact trivial | intro hc | refine And.intro ?_ ?_) <;> refine Lf.mk ?_)
 any_goals (refine zte (by omega) (by omega) ?_)
 (all_goals refine qgv (Lf.mk ?_))
 all_goals (refine zd (VS.mk (LeD.tup (.cons (LeD.of_eq (congrArg (D.int .i64) ?_)) (.cons ?_ .nil)))))
 all_goals first
  | exact LeD.tt (decide_eq_true (by omega))
  | exact LeD.ff (decide_eq_false (by omega))
  | (unfold toM; rw [if_pos (by omega)]; done)
  | (unfold toM; rw [if_neg (by omega), if_pos (by omega)]; done)
  | (unfold toM; rw [if_neg (by omega), if_neg (by omega)]; done)
end Go.Proofs.YtnkdeacghopkiaaGreatDoor
namespace Go.Proofs.YtnkdeacghopkiaaGreatDoor
open Go Go.Plat
set_option linter.unusedVariables false
set_option linter.unusedSimpArgs false
set_option maxRecDepth 100000
set_option maxHeartbeats 2000000
attribute [local irreducible] AWP zA yh zE zn yu z6 zF zX zY zq za zL yv zo zZ yq yr yj ym zr zu zz wm inM xm yF xo vF zh up
theorem ztf {i : Ins} {a : Int} (h1 : -4096 ≤ i.imm) (h2 : i.imm ≤ 4096) : a - 20000 ≤ toM i a ∧ toM i a ≤ a + 20000 ∨ toM i a = 0 := by
 unfold toM
 split
 ·exact .inl ⟨by omega, by omega⟩
 split
 ·exact .inl ⟨by omega, by omega⟩
 ·exact .inr rfl
theorem zuK (b : List UInt8) (a : Int) : 0 ≤ yZ b a 2 ∧ yZ b a 2 ≤ 65535 := by
 have h0 := kD b (a + (0 : Nat)); have h1 := kD b (a + (1 : Nat))
 simp only [yZ]; omega
theorem ixr {i : Ins} (h : 0 ≤ i.n ∧ i.n < 16) {m : z8} {k : Nat} (hm : InM k m) : -2147483648 ≤ m.r i.n.toNat ∧ m.r i.n.toNat ≤ 2147483647 := hm.regs _ (by omega)
theorem ixm {i : Ins} (h : 0 ≤ i.m ∧ i.m < 16) {m : z8} {k : Nat} (hm : InM k m) : -2147483648 ≤ m.r i.m.toNat ∧ m.r i.m.toNat ≤ 2147483647 := hm.regs _ (by omega)
attribute [local irreducible] yZ toM ldM
theorem ze4 : za Tryz.prog zqE (ya (fun ((m, i, at_) : z8 × Ins × Int) => InM 10000 m ∧ InI i ∧ -2000000000000 ≤ at_ ∧ at_ ≤ 2000000000000)
  (fun (m, i, at_) => [.loc 0 0, ju i, .int .i64 at_]) (fun (m, _, _) => [.cells (vl m)]) (fun (m, i, at_) => .int .i64 (wE m i at_).2) fun (m, i, at_) => [.cells (vl (wE m i at_).1)]) := by
 refine zf zj Tryz.func74 rfl (by decide) ?_
 rintro ⟨m, i, at_⟩ ⟨hm, hi, h1, h2⟩
 obtain ⟨n0, n1⟩ := hi.n
 obtain ⟨m0, m1⟩ := hi.m
 obtain ⟨q0, q1⟩ := hi.imm
 have hb := hm.base
 have hl := hm.len
 have hrm := ixm hi.m hm
 have hto := ztf (a := at_) q0 q1
 refine ⟨Nat.le_refl _, by simp [Tryz.f74], fun E hE => ?_⟩
 refine ze _ ?_
 (all_goals refine qgv (Lf.mk ?_))
 refine zb zn8 (i, at_) ⟨q0, q1, by omega, by omega⟩ (VS.mk (LeL.of_eq rfl)) ?_
 (all_goals refine qgv ?_ <;> (repeat' first | exact trivial | intro hc | refine And.intro ?_ ?_) <;> refine Lf.mk ?_)
 ·refine yb zcK [0] [0] (m, m.r i.m.toNat, 4) ⟨hm, by omega, by omega, by decide⟩ rfl rfl ?_
  refine And.intro (VS.mk (LeL.of_eq rfl)) (And.intro (VS.mk rfl) ?_)
  have hF : (if i.op = 26 then m.r i.m.toNat else toM i at_) = m.r i.m.toNat := if_pos (by assumption)
  have hS : (if i.op = 23 then (2 : Int) else 4) = 4 := if_neg (by assumption)
  (all_goals refine qgv ?_ <;> (repeat' first | exact trivial | intro hc | refine And.intro ?_ ?_) <;> refine Lf.mk ?_)
  ·have hL : wE m i at_ = (m, 3) := by unfold wE; rw [hF, hS, if_neg (by rw [hc]; decide)]
   refine yR [0] rfl rfl ?_
   (repeat' (first | (refine VS.mk ?_) | exact trivial | exact rfl | refine And.intro ?_ ?_))
   all_goals (dsimp only; rw [hL]; try rfl)
  have hin := zgu.1 (show inM m (m.r i.m.toNat) 4 = true from hc)
  refine zb zdh (m.img.bytes, m.r i.m.toNat - m.img.base, 4) ⟨by omega, by omega, by decide⟩ (VS.mk (by (first | exact LeL.refl _ | (repeat' (first | exact LeL.nil | exact LeD.refl _ | exact LeD.nil _ | exact LeD.strip _ _ _ | refine LeL.cons ?_ ?_ | refine LeD.tup ?_ | refine LeD.agg ?_))))) ?_
  (all_goals refine qgv ?_ <;> (repeat' first | exact trivial | intro hc | refine And.intro ?_ ?_) <;> refine Lf.mk ?_)
  refine zb yx (yZ m.img.bytes (m.r i.m.toNat - m.img.base) 4) trivial (VS.mk (LeL.of_eq rfl)) ?_
  have hL : wE m i at_ = (xE m i.n (zh (yZ m.img.bytes (m.r i.m.toNat - m.img.base) 4) 32), 0) := by unfold wE; rw [hF, hS, if_pos (by assumption), if_neg (by assumption)]
  (all_goals refine qgv (Lf.mk ?_))
  refine yR [0] rfl rfl ?_
  (repeat' (first | (refine VS.mk ?_) | exact trivial | exact rfl | refine And.intro ?_ ?_))
  all_goals (dsimp only; rw [hL]; try rfl)
 ·refine yb zcK [0] [0] (m, toM i at_, 2) ⟨hm, by omega, by omega, by decide⟩ rfl rfl ?_
  refine And.intro (VS.mk (LeL.of_eq rfl)) (And.intro (VS.mk rfl) ?_)
  have hF : (if i.op = 26 then m.r i.m.toNat else toM i at_) = toM i at_ := if_neg (by assumption)
  have hS : (if i.op = 23 then (2 : Int) else 4) = 2 := if_pos (by assumption)
  (all_goals refine qgv ?_ <;> (repeat' first | exact trivial | intro hc | refine And.intro ?_ ?_) <;> refine Lf.mk ?_)
  ·have hL : wE m i at_ = (m, 3) := by unfold wE; rw [hF, hS, if_neg (by rw [hc]; decide)]
   refine yR [0] rfl rfl ?_
   (repeat' (first | (refine VS.mk ?_) | exact trivial | exact rfl | refine And.intro ?_ ?_))
   all_goals (dsimp only; rw [hL]; try rfl)
  have hin := zgu.1 (show inM m (toM i at_) 2 = true from hc)
  refine zb zdh (m.img.bytes, toM i at_ - m.img.base, 2) ⟨by omega, by omega, by decide⟩ (VS.mk (by (first | exact LeL.refl _ | (repeat' (first | exact LeL.nil | exact LeD.refl _ | exact LeD.nil _ | exact LeD.strip _ _ _ | refine LeL.cons ?_ ?_ | refine LeD.tup ?_ | refine LeD.agg ?_))))) ?_
  have hg2 := zuK m.img.bytes (toM i at_ - m.img.base)
  have hL : wE m i at_ = (xE m i.n (zh (zh (yZ m.img.bytes (toM i at_ - m.img.base) 2) 16) 32), 0) := by unfold wE; rw [hF, hS, if_pos (by assumption), if_pos (by assumption)]
  have h16 := zyi hg2.1 hg2.2
  rw [h16] at hL
  (all_goals refine qgv ?_ <;> (repeat' first | exact trivial | intro hc | refine And.intro ?_ ?_) <;> refine Lf.mk ?_)
  any_goals (first | (exfalso; exact hc trivial) | skip)
  ·refine zb yx (yZ m.img.bytes (toM i at_ - m.img.base) 2 - 65536) trivial (VS.mk (LeL.of_eq rfl)) ?_
   rw [if_pos (by omega)] at hL
   (all_goals refine qgv (Lf.mk ?_))
   refine yR [0] rfl rfl ?_
   (repeat' (first | (refine VS.mk ?_) | exact trivial | exact rfl | refine And.intro ?_ ?_))
   all_goals (dsimp only; rw [hL]; try rfl)
  ·refine zb yx (yZ m.img.bytes (toM i at_ - m.img.base) 2) trivial (VS.mk (LeL.of_eq rfl)) ?_
   rw [if_neg (by omega)] at hL
   (all_goals refine qgv (Lf.mk ?_))
   refine yR [0] rfl rfl ?_
   (repeat' (first | (refine VS.mk ?_) | exact trivial | exact rfl | refine And.intro ?_ ?_))
   all_goals (dsimp only; rw [hL]; try rfl)
 ·refine yb zcK [0] [0] (m, toM i at_, 4) ⟨hm, by omega, by omega, by decide⟩ rfl rfl ?_
  refine And.intro (VS.mk (LeL.of_eq rfl)) (And.intro (VS.mk rfl) ?_)
  have hF : (if i.op = 26 then m.r i.m.toNat else toM i at_) = toM i at_ := if_neg (by assumption)
  have hS : (if i.op = 23 then (2 : Int) else 4) = 4 := if_neg (by assumption)
  (all_goals refine qgv ?_ <;> (repeat' first | exact trivial | intro hc | refine And.intro ?_ ?_) <;> refine Lf.mk ?_)
  ·have hL : wE m i at_ = (m, 3) := by unfold wE; rw [hF, hS, if_neg (by rw [hc]; decide)]
   refine yR [0] rfl rfl ?_
   (repeat' (first | (refine VS.mk ?_) | exact trivial | exact rfl | refine And.intro ?_ ?_))
   all_goals (dsimp only; rw [hL]; try rfl)
  have hin := zgu.1 (show inM m (toM i at_) 4 = true from hc)
  refine zb zdh (m.img.bytes, toM i at_ - m.img.base, 4) ⟨by omega, by omega, by decide⟩ (VS.mk (by (first | exact LeL.refl _ | (repeat' (first | exact LeL.nil | exact LeD.refl _ | exact LeD.nil _ | exact LeD.strip _ _ _ | refine LeL.cons ?_ ?_ | refine LeD.tup ?_ | refine LeD.agg ?_))))) ?_
  (all_goals refine qgv ?_ <;> (repeat' first | exact trivial | intro hc | refine And.intro ?_ ?_) <;> refine Lf.mk ?_)
  refine zb yx (yZ m.img.bytes (toM i at_ - m.img.base) 4) trivial (VS.mk (LeL.of_eq rfl)) ?_
  have hL : wE m i at_ = (xE m i.n (zh (yZ m.img.bytes (toM i at_ - m.img.base) 4) 32), 0) := by unfold wE; rw [hF, hS, if_pos (by assumption), if_neg (by assumption)]
  (all_goals refine qgv (Lf.mk ?_))
  refine yR [0] rfl rfl ?_
  (repeat' (first | (refine VS.mk ?_) | exact trivial | exact rfl | refine And.intro ?_ ?_))
  all_goals (dsimp only; rw [hL]; try rfl)
attribute [local irreducible] zag zdt zbu
theorem zwl {n : Int} : zz .and .i64 n 4294967295 = n % 4294967296 := qM (k := 32) (by decide) (by decide)
theorem zru : za Tryz.prog zr0 (ya (fun ((m, i) : z8 × Ins) => InM 10000 m ∧ InI i)
  (fun (m, i) => [.loc 0 0, ju i]) (fun (m, _) => [.cells (vl m)]) (fun _ => .tup []) fun (m, i) => [.cells (vl (zgt m i))]) := by
 refine zf zj Tryz.func75 rfl (by decide) ?_
 rintro ⟨m, i⟩ ⟨hm, hi⟩
 obtain ⟨n0, n1⟩ := hi.n
 obtain ⟨m0, m1⟩ := hi.m
 have hrm := ixm hi.m hm
 have hrn := ixr hi.n hm
 refine ⟨Nat.le_refl _, by simp [Tryz.f75], fun E hE => ?_⟩
 refine ze _ ?_
 (all_goals refine zav ?_ <;> (repeat' first | exact trivial | intro hc | refine And.intro ?_ ?_) <;> refine Lf.mk ?_)
 all_goals try (refine zb yx _ trivial (VS.mk (LeL.of_eq rfl)) ?_)
 (all_goals refine zav (Lf.mk ?_))
 all_goals first
  | (dsimp only; refine yR [0] rfl rfl ?_; (repeat' (first | (refine VS.mk ?_) | exact trivial | exact rfl | refine And.intro ?_ ?_)); all_goals (unfold zgt; dsimp only; (repeat (first | (rw [if_pos (by assumption)]) | (rw [if_neg (by assumption)]))); try rfl); done)
  | skip
theorem zlM : za Tryz.prog ja (ya (fun ds : List D => ds.length ≤ 100000000 ∧ ∀ (i : Nat) d, ds[i]? = some d → d.cells.length = 1) (fun ds => [.sl 1 ds none]) (fun _ => []) (fun ds => .sl 1 ds (some 0)) fun ds => [.spare ds.length]) := by
 refine zf zj Tryz.func49 rfl (by decide) ?_
 rintro ds ⟨hds, hlen⟩
 refine ⟨by simp, by simp [Tryz.f49], fun E hE => ?_⟩
 refine ze _ ?_
 (all_goals refine qgo (Lf.mk ?_))
 refine ziz (fun h => ?_) ?_
 ·subst h
  (all_goals refine qgo (Lf.mk ?_))
  refine zvs (e := 1) (yo (r := .sl 1 [] (some 0)) ?_) (by decide)
  (repeat' (first | (refine VS.mk ?_) | exact trivial | exact rfl | refine And.intro ?_ ?_))
 (all_goals refine qgo (Lf.mk ?_))
 refine yo ?_
 (repeat' (first | (refine VS.mk ?_) | exact trivial | exact rfl | refine And.intro ?_ ?_))
theorem zaR : za Tryz.prog zoS (ya (fun ((m, i, at_) : z8 × Ins × Int) => InM 10000 m ∧ InI i ∧ -2000000000000 ≤ at_ ∧ at_ ≤ 2000000000000)
  (fun (m, i, at_) => [.loc 0 0, ju i, .int .i64 at_]) (fun (m, _, _) => [.cells (vl m)]) (fun (m, i, at_) => .int .i64 (yg m i at_).2) fun (m, i, at_) => [.cells (vl (yg m i at_).1)]) := by
 refine zf zj Tryz.func52 rfl (by decide) ?_
 rintro ⟨m, i, at_⟩ ⟨hm, hi, h1, h2⟩
 obtain ⟨n0, n1⟩ := hi.n
 obtain ⟨m0, m1⟩ := hi.m
 obtain ⟨q0, q1⟩ := hi.imm
 have hrm := ixm hi.m hm
 have hrn := ixr hi.n hm
 have hr0 := hm.regs 0 (by decide)
 have htold := hm.told
 have hb := hm.base
 have hl := hm.len
 refine ⟨Nat.le_refl _, by simp [Tryz.f52], fun E hE => ?_⟩
 refine ze _ ?_
 (all_goals refine zav ?_ <;> (repeat' first | exact trivial | intro hc | refine And.intro ?_ ?_) <;> refine Lf.mk ?_)
 ·have hP : yg m i at_ = (xE m i.n i.imm, 0) := by unfold yg; (repeat (first | (rw [if_pos (by assumption)]) | (rw [if_neg (by assumption)])))
  dsimp only; rw [hP]
  refine yR [0] rfl rfl ?_
  (repeat' (first | (refine VS.mk ?_) | exact trivial | exact rfl | refine And.intro ?_ ?_))
 ·have hP : yg m i at_ = (xE m i.n (zh (m.r i.n.toNat + i.imm) 32), 0) := by unfold yg; dsimp only; (repeat (first | (rw [if_pos (by assumption)]) | (rw [if_neg (by assumption)])))
  refine zb yx (m.r i.n.toNat + i.imm) trivial (VS.mk (LeL.of_eq rfl)) ?_
  (all_goals refine zav (Lf.mk ?_))
  dsimp only; rw [hP]
  refine yR [0] rfl rfl ?_
  (repeat' (first | (refine VS.mk ?_) | exact trivial | exact rfl | refine And.intro ?_ ?_))
 ·have hP : yg m i at_ = (zdM (xE m i.n (zh (m.r i.n.toNat * 2) 32)) (decide (m.r i.n.toNat < 0)), 0) := by unfold yg; dsimp only; (repeat (first | (rw [if_pos (by assumption)]) | (rw [if_neg (by assumption)])))
  refine zb yx (m.r i.n.toNat * 2) trivial (VS.mk (LeL.of_eq rfl)) ?_
  (all_goals refine zav (Lf.mk ?_))
  dsimp only; rw [hP]
  refine yR [0] rfl rfl ?_
  (repeat' (first | (refine VS.mk ?_) | exact trivial | exact rfl | refine And.intro ?_ ?_))
 ·have hP : yg m i at_ = (zdM (xE m i.n (m.r i.n.toNat % 4294967296 / 2)) (decide (m.r i.n.toNat % 2 = 1)), 0) := by unfold yg; dsimp only; (repeat (first | (rw [if_pos (by assumption)]) | (rw [if_neg (by assumption)])))
  dsimp only; rw [hP]
  refine yR [0] rfl rfl ?_
  (repeat' (first | (refine VS.mk ?_) | exact trivial | exact rfl | refine And.intro ?_ ?_))
 ·have hP : yg m i at_ = (zdM (xE m i.n (zh (m.r i.n.toNat - 1) 32)) (decide (zh (m.r i.n.toNat - 1) 32 = 0)), 0) := by unfold yg; dsimp only; (repeat (first | (rw [if_pos (by assumption)]) | (rw [if_neg (by assumption)])))
  refine zb yx (m.r i.n.toNat - 1) trivial (VS.mk (LeL.of_eq rfl)) ?_
  (all_goals refine zav (Lf.mk ?_))
  rw [zx2 _ _ _ n0]
  dsimp only; rw [hP]
  refine yR [0] rfl rfl ?_
  (repeat' (first | (refine VS.mk ?_) | exact trivial | exact rfl | refine And.intro ?_ ?_))
 ·have hP : yg m i at_ = wE m i at_ := by unfold yg; dsimp only; rw [if_neg (by omega), if_neg (by omega), if_neg (by omega), if_neg (by omega), if_neg (by omega), if_pos (by omega)]
  refine yb ze4 [0] [0] (m, i, at_) ⟨hm, hi, h1, h2⟩ rfl rfl ?_
  refine And.intro (VS.mk (LeL.of_eq rfl)) (And.intro (VS.mk rfl) ?_)
  (all_goals refine zav (Lf.mk ?_))
  dsimp only; rw [hP]
  refine yR [0] rfl rfl ?_
  (repeat' (first | (refine VS.mk ?_) | exact trivial | exact rfl | refine And.intro ?_ ?_))
 ·have hP : yg m i at_ = wE m i at_ := by unfold yg; dsimp only; rw [if_neg (by omega), if_neg (by omega), if_neg (by omega), if_neg (by omega), if_neg (by omega), if_pos (by omega)]
  refine yb ze4 [0] [0] (m, i, at_) ⟨hm, hi, h1, h2⟩ rfl rfl ?_
  refine And.intro (VS.mk (LeL.of_eq rfl)) (And.intro (VS.mk rfl) ?_)
  (all_goals refine zav (Lf.mk ?_))
  dsimp only; rw [hP]
  refine yR [0] rfl rfl ?_
  (repeat' (first | (refine VS.mk ?_) | exact trivial | exact rfl | refine And.intro ?_ ?_))
 ·have hP : yg m i at_ = wE m i at_ := by unfold yg; dsimp only; rw [if_neg (by omega), if_neg (by omega), if_neg (by omega), if_neg (by omega), if_neg (by omega), if_pos (by omega)]
  refine yb ze4 [0] [0] (m, i, at_) ⟨hm, hi, h1, h2⟩ rfl rfl ?_
  refine And.intro (VS.mk (LeL.of_eq rfl)) (And.intro (VS.mk rfl) ?_)
  (all_goals refine zav (Lf.mk ?_))
  dsimp only; rw [hP]
  refine yR [0] rfl rfl ?_
  (repeat' (first | (refine VS.mk ?_) | exact trivial | exact rfl | refine And.intro ?_ ?_))
 ·have hP : yg m i at_ = zdN m i := by unfold yg; dsimp only; rw [if_neg (by omega), if_neg (by omega), if_neg (by omega), if_neg (by omega), if_neg (by omega), if_neg (by omega), if_pos (by omega)]
  refine yb zcK [0] [0] (m, m.r i.n.toNat, 4) ⟨hm, by omega, by omega, by decide⟩ rfl rfl ?_
  refine And.intro (VS.mk (LeL.of_eq rfl)) (And.intro (VS.mk rfl) ?_)
  (all_goals refine zav ?_ <;> (repeat' first | exact trivial | intro hc | refine And.intro ?_ ?_) <;> refine Lf.mk ?_)
  ·have hQ : zdN m i = (m, 3) := by unfold zdN; rw [if_neg (by rw [hc]; decide)]
   dsimp only; rw [hP, hQ]
   refine yR [0] rfl rfl ?_
   (repeat' (first | (refine VS.mk ?_) | exact trivial | exact rfl | refine And.intro ?_ ?_))
  have hin := zgu.1 hc
  have hQ : zdN m i = ({ m with img := { m.img with bytes := xo m.img.bytes (m.r i.n.toNat - m.img.base) 4 (m.r i.m.toNat) } }, 0) := by unfold zdN; rw [if_pos hc]
  refine yb zdi [] [2] (m.img.bytes, m.r i.n.toNat - m.img.base, 4, m.r i.m.toNat) ⟨by omega, by omega, by decide, by omega⟩ rfl rfl ?_
  refine And.intro (VS.mk (by (first | exact LeL.refl _ | (repeat' (first | exact LeL.nil | exact LeD.refl _ | exact LeD.nil _ | exact LeD.strip _ _ _ | refine LeL.cons ?_ ?_ | refine LeD.tup ?_ | refine LeD.agg ?_))))) (And.intro (VS.mk rfl) ?_)
  (all_goals refine zav (Lf.mk ?_))
  dsimp only; rw [hP, hQ]
  refine zmB 0 (vl { m with img := { m.img with bytes := xo m.img.bytes (m.r i.n.toNat - m.img.base) 4 (m.r i.m.toNat) } }) rfl (by (first | exact LeL.refl _ | (repeat' (first | exact LeL.nil | exact LeD.refl _ | exact LeD.nil _ | exact LeD.strip _ _ _ | refine LeL.cons ?_ ?_ | refine LeD.tup ?_ | refine LeD.agg ?_)))) ?_ (Nat.le_refl _)
  refine yR [0] rfl rfl ?_
  (repeat' (first | (refine VS.mk ?_) | exact trivial | exact rfl | refine And.intro ?_ ?_))
 ·have hP : yg m i at_ = ({ m with told := m.told ++ [m.r 0] }, 0) := by unfold yg; dsimp only; rw [if_neg (by omega), if_neg (by omega), if_neg (by omega), if_neg (by omega), if_neg (by omega), if_neg (by omega), if_neg (by omega), if_pos (by omega)]
  refine yb zlM [] [2] (m.told.map zhP) ⟨by simp; omega, fun i d hd => ?_⟩ rfl rfl ?_
  ·obtain ⟨c, _, rfl⟩ := List.mem_map.1 (List.mem_of_getElem? hd); rfl
  refine And.intro (VS.mk (LeL.of_eq rfl)) (And.intro (VS.mk rfl) ?_)
  (all_goals refine zav (Lf.mk ?_))
  dsimp only; rw [hP]
  refine zmB 0 (vl { m with told := m.told ++ [m.r 0] }) rfl (by (first | exact LeL.refl _ | (repeat' (first | exact LeL.nil | exact LeD.refl _ | exact LeD.nil _ | exact LeD.strip _ _ _ | refine LeL.cons ?_ ?_ | refine LeD.tup ?_ | refine LeD.agg ?_)))) ?_ (Nat.le_refl _)
  refine yR [0] rfl rfl ?_
  (repeat' (first | (refine VS.mk ?_) | exact trivial | exact rfl | refine And.intro ?_ ?_))
 ·have hP : yg m i at_ = (zgt m i, 0) := by unfold yg; dsimp only; rw [if_neg (by omega), if_neg (by omega), if_neg (by omega), if_neg (by omega), if_neg (by omega), if_neg (by omega), if_neg (by omega), if_neg (by omega)]
  refine yb zru [0] [0] (m, i) ⟨hm, hi⟩ rfl rfl ?_
  refine And.intro (VS.mk (LeL.of_eq rfl)) (And.intro (VS.mk rfl) ?_)
  (all_goals refine zav (Lf.mk ?_))
  dsimp only; rw [hP]
  refine yR [0] rfl rfl ?_
  (repeat' (first | (refine VS.mk ?_) | exact trivial | exact rfl | refine And.intro ?_ ?_))
attribute [local irreducible] xv jf yg
theorem zjr : za Tryz.prog zqD (ya (fun ((m, i) : z8 × Ins) => InM 10000 m ∧ InI i)
  (fun (m, i) => [.loc 0 0, ju i]) (fun (m, _) => [.cells (vl m)]) (fun (m, i) => .tup [.int .i64 (x3 m i).2.1, .bool (x3 m i).2.2]) fun (m, i) => [.cells (vl (x3 m i).1)]) := by
 refine zf zj Tryz.func53 rfl (by decide) ?_
 rintro ⟨m, i⟩ ⟨hm, hi⟩
 obtain ⟨n0, n1⟩ := hi.n
 obtain ⟨m0, m1⟩ := hi.m
 obtain ⟨q0, q1⟩ := hi.imm
 have hrm := ixm hi.m hm
 have hrn := ixr hi.n hm
 have hpc := hm.pc
 have hpr := hm.pr
 refine ⟨Nat.le_refl _, by simp [Tryz.f53], fun E hE => ?_⟩
 refine ze _ ?_
 (all_goals refine qgv (Lf.mk ?_))
 refine zb zn8 (i, m.pc) ⟨q0, q1, by omega, by omega⟩ (VS.mk (LeL.of_eq rfl)) ?_
 (all_goals refine qgv ?_ <;> (repeat' first | exact trivial | intro hc | refine And.intro ?_ ?_) <;> refine Lf.mk ?_)
 all_goals
  have hn : ¬ (m.t = true) ∨ m.t = true := by cases m.t <;> simp
  refine v6 (r1 := .tup [.int .i64 (x3 m i).2.1, .bool (x3 m i).2.2]) (LeD.tup (.cons (LeD.of_eq (congrArg _ ?_)) (.cons ?_ .nil))) (yR [0] rfl rfl ?_) (Nat.le_refl _)
  ·unfold x3; (repeat (first | (rw [if_pos (by assumption)]) | (rw [if_neg (by assumption)]))); try (simp [*])
  ·first | exact LeD.tt (by unfold x3; (repeat (first | (rw [if_pos (by assumption)]) | (rw [if_neg (by assumption)])))) | exact LeD.ff (by unfold x3; (repeat (first | (rw [if_pos (by assumption)]) | (rw [if_neg (by assumption)]))))
  ·(repeat' (first | (refine VS.mk ?_) | exact trivial | exact rfl | refine And.intro ?_ ?_))
   all_goals (dsimp only; unfold x3; (repeat (first | (rw [if_pos (by assumption)]) | (rw [if_neg (by assumption)]))); try rfl)
theorem zwm (n : Int) : (-128 ≤ zh n 8 ∧ zh n 8 ≤ 127) ∧ (-2048 ≤ zh n 12 ∧ zh n 12 ≤ 2047) := by
 have e8 : zh n 8 = if n % 256 / 128 = 1 then n % 256 - 256 else n % 256 := by unfold zh; rfl
 have e12 : zh n 12 = if n % 4096 / 2048 = 1 then n % 4096 - 4096 else n % 4096 := by unfold zh; rfl
 rw [e8, e12]
 constructor <;> split <;> omega
theorem zwn (w : Int) : InI (wm w).1 := by
 unfold wm
 split
 ·exact ⟨by decide, by decide, by decide⟩
 split
 ·rename_i r _
  have h := zwm w
  refine ⟨?_, ?_, ?_⟩
  ·show 0 ≤ (if wB r.shape = true then w / 256 % 16 else 0) ∧ (if wB r.shape = true then w / 256 % 16 else 0) < 16
   split <;> omega
  ·show 0 ≤ (if wC r.shape = true then w / 16 % 16 else 0) ∧ (if wC r.shape = true then w / 16 % 16 else 0) < 16
   split <;> omega
  ·show -4096 ≤ vK w r.shape ∧ vK w r.shape ≤ 4096
   unfold vK
   (repeat' split) <;> omega
 ·exact ⟨by decide, by decide, by decide⟩
theorem zbv (m : z8) (a : Int) : InI (xv m a).1 := by
 unfold xv
 split
 ·exact zwn _
 ·exact ⟨by decide, by decide, by decide⟩
theorem zxz (a b : Int) : -2147483648 ≤ zag a b ∧ zag a b ≤ 2147483647 := by unfold zag; exact zib _ a b
theorem zx5 (a b : Int) : -2147483648 ≤ zdt a b ∧ zdt a b ≤ 2147483647 := by unfold zdt; exact zib _ a b
theorem zxA (a b : Int) : -2147483648 ≤ zbu a b ∧ zbu a b ≤ 2147483647 := by unfold zbu; exact zib _ a b
theorem zx6 {r : Nat → Int} {n v : Int} (h : ∀ j, j < 16 → -2147483648 ≤ r j ∧ r j ≤ 2147483647) (h1 : -2147483648 ≤ v) (h2 : v ≤ 2147483647) : ∀ j, j < 16 → -2147483648 ≤ up r n v j ∧ up r n v j ≤ 2147483647 := by
 intro j hj
 unfold up
 split
 ·exact ⟨h1, h2⟩
 ·exact h j hj
theorem vW {k : Nat} {m : z8} {n v : Int} (h : InM k m) (h1 : -2147483648 ≤ v ∧ v ≤ 2147483647) : InM k (xE m n v) := ⟨zx6 h.regs h1.1 h1.2, h.pc, h.pr, h.base, h.len, h.syms, h.told, h.steps⟩
theorem zca {k : Nat} {m : z8} {t : Bool} (h : InM k m) : InM k (zdM m t) := ⟨h.regs, h.pc, h.pr, h.base, h.len, h.syms, h.told, h.steps⟩
theorem zuL {k : Nat} {m : z8} {i : Ins} {a : Int} (h : InM k m) : InM k (wE m i a).1 := by
 unfold wE
 refine iteInduction (motive := fun x : z8 × Int => InM k x.1) (fun _ => ?_) (fun _ => h)
 refine vW h ?_
 split <;> exact ze3 _
theorem zwo {k : Nat} {m : z8} {i : Ins} (h : InM k m) : InM k (zdN m i).1 := by
 unfold zdN
 split
 ·exact ⟨h.regs, h.pc, h.pr, h.base, by show (xo _ _ _ _).length ≤ _; rw [zcz]; exact h.len, h.syms, h.told, h.steps⟩
 ·exact h
theorem zwp {k : Nat} {m : z8} {i : Ins} (h : InM k m) (hi : InI i) : InM k (zgt m i) := by
 have hrm := ixm hi.m h
 have hrn := ixr hi.n h
 unfold zgt
 dsimp only
 split
 ·exact vW h hrm
 split
 ·exact vW h (ze3 _)
 split
 ·exact vW h (ze3 _)
 split
 ·exact vW h (zxz _ _)
 split
 ·exact vW h (zx5 _ _)
 split
 ·exact vW h (zxA _ _)
 split
 ·exact zca h
 split
 ·exact zca h
 split
 ·exact zca h
 ·exact h
theorem jL {k : Nat} {m : z8} {i : Ins} {a : Int} (h : InM k m) (hi : InI i) : InM (k + 1) (yg m i a).1 := by
 have hrm := ixm hi.m h
 have hrn := ixr hi.n h
 have hq := hi.imm
 have hm := h.mono (Nat.le_add_right k 1)
 unfold yg
 dsimp only
 split
 ·exact vW hm (by omega)
 split
 ·exact vW hm (ze3 _)
 split
 ·exact zca (vW hm (ze3 _))
 split
 ·exact zca (vW hm (by omega))
 split
 ·exact zca (vW hm (ze3 _))
 split
 ·exact zuL hm
 split
 ·exact zwo hm
 split
 ·exact ⟨h.regs, hm.pc, hm.pr, h.base, h.len, h.syms, by show (m.told ++ _).length ≤ _; rw [List.length_append, List.length_singleton]; have := h.told; omega, hm.steps⟩
 ·exact zwp hm hi
theorem zbw (m : z8) (i : Ins) (a : Int) : (yg m i a).1.pc = m.pc := by
 have hl : (wE m i a).1.pc = m.pc := by
  unfold wE
  exact iteInduction (motive := fun x : z8 × Int => x.1.pc = m.pc) (fun _ => rfl) (fun _ => rfl)
 have hp : (zdN m i).1.pc = m.pc := by
  unfold zdN
  exact iteInduction (motive := fun x : z8 × Int => x.1.pc = m.pc) (fun _ => rfl) (fun _ => rfl)
 have hs : (zgt m i).pc = m.pc := by
  unfold zgt
  dsimp only
  repeat' (first | rfl | refine iteInduction (motive := fun x : z8 => x.pc = m.pc) (fun _ => ?_) (fun _ => ?_))
 unfold yg
 dsimp only
 repeat' (first | rfl | exact hl | exact hp | exact hs | refine iteInduction (motive := fun x : z8 × Int => x.1.pc = m.pc) (fun _ => ?_) (fun _ => ?_))
theorem zic {k : Nat} {m : z8} {i : Ins} (h : InM k m) (hi : InI i) : InM (k + 1) (x3 m i).1 ∧ (x3 m i).1.pc = m.pc ∧ -5000000000 - 100000 * (k + 1 : Int) ≤ (x3 m i).2.1 ∧ (x3 m i).2.1 ≤ 5000000000 + 100000 * (k + 1 : Int) := by
 have hm := h.mono (Nat.le_add_right k 1)
 have hpr := h.pr
 have hpc := h.pc
 have hrn := ixr hi.n h
 have hto := ztf (a := m.pc) hi.imm.1 hi.imm.2
 have hpr' : InM (k + 1) { m with pr := m.pc + 4 } := ⟨h.regs, hm.pc, by show _ ≤ m.pc + 4 ∧ m.pc + 4 ≤ _; omega, h.base, h.len, h.syms, hm.told, hm.steps⟩
 unfold x3
 split
 ·refine ⟨hm, rfl, ?_, ?_⟩ <;> (dsimp only; split <;> omega)
 split
 ·refine ⟨hm, rfl, ?_, ?_⟩ <;> (dsimp only; split <;> omega)
 split
 ·exact ⟨hm, rfl, by dsimp only; omega, by dsimp only; omega⟩
 split
 ·exact ⟨hm, rfl, by dsimp only; omega, by dsimp only; omega⟩
 split
 ·exact ⟨hpr', rfl, by dsimp only; omega, by dsimp only; omega⟩
 split
 ·exact ⟨hpr', rfl, by dsimp only; omega, by dsimp only; omega⟩
 ·exact ⟨hm, rfl, by dsimp only; omega, by dsimp only; omega⟩
def w4 (m : z8) : D := .tup [zb4 (xz m).1, .bool (xz m).2.1, .int .i64 (xz m).2.2]
theorem zrv : za Tryz.prog zqC (zx (fun m : z8 => InM 9990 m) (fun m => [zb4 m]) w4) := by
 refine zf zj Tryz.func31 rfl (by decide) ?_
 rintro m hm
 have hm' := hm.mono (show 9990 ≤ 10000 by decide)
 have hpc := hm.pc
 have hpr := hm.pr
 have htold := hm.told
 have hst := hm.steps
 have hm1 : InM 9991 { m with steps := m.steps + 1 } := ⟨hm.regs, by show _ ≤ m.pc ∧ m.pc ≤ _; omega, by show _ ≤ m.pr ∧ m.pr ≤ _; omega, hm.base, hm.len, hm.syms, by show m.told.length ≤ _; omega, by show _ ≤ m.steps + 1 ∧ m.steps + 1 ≤ _; omega⟩
 refine ⟨Nat.le_refl _, by simp [Tryz.f31], fun E hE => ?_⟩
 refine ze _ ?_
 (all_goals refine qgv (Lf.mk ?_))
 refine zb zjq m ⟨hm.len, hm.syms, by omega⟩ (VS.mk (LeL.of_eq rfl)) ?_
 (all_goals refine qgv (Lf.mk ?_))
 have hI := zbv m m.pc
 obtain ⟨i, e, hie⟩ : ∃ i e, xv m m.pc = (i, e) := ⟨_, _, rfl⟩
 refine yb zdO [2] [2] (m, m.pc) ⟨hm', by omega, by omega⟩ rfl rfl ?_
 dsimp only
 rw [hie] at hI ⊢
 refine And.intro (VS.mk (LeL.of_eq rfl)) (And.intro (VS.mk rfl) ?_)
 (all_goals refine qgv ?_ <;> (repeat' first | exact trivial | intro hc | refine And.intro ?_ ?_) <;> refine Lf.mk ?_)
 ·have hS : xz m = (wy, false, e) := by unfold xz; rw [hie]; dsimp only; (repeat (first | (rw [if_pos (by assumption)]) | (rw [if_neg (by assumption)])))
  refine zd (VS.mk ?_)
  unfold w4; rw [hS]
  (first | exact LeL.refl _ | (repeat' (first | exact LeL.nil | exact LeD.refl _ | exact LeD.nil _ | exact LeD.strip _ _ _ | refine LeL.cons ?_ ?_ | refine LeD.tup ?_ | refine LeD.agg ?_)))
  all_goals first | exact LeD.ff rfl | skip
 ·have hS : xz m = ({ m with steps := m.steps + 1 }, true, 0) := by unfold xz; rw [hie]; dsimp only; rw [if_neg (by omega), if_pos (by omega)]
  refine zd (VS.mk ?_)
  unfold w4; rw [hS]
  (first | exact LeL.refl _ | (repeat' (first | exact LeL.nil | exact LeD.refl _ | exact LeD.nil _ | exact LeD.strip _ _ _ | refine LeL.cons ?_ ?_ | refine LeD.tup ?_ | refine LeD.agg ?_)))
  all_goals first | exact LeD.tt rfl | skip
 all_goals
  refine zb zdP i.op trivial (VS.mk (LeL.of_eq rfl)) ?_
  (all_goals refine qgv ?_ <;> (repeat' first | exact trivial | intro hc | refine And.intro ?_ ?_) <;> refine Lf.mk ?_)
 ·have hP := jL (k := 9991) (a := m.pc) hm1 hI
  have hpp := zbw { m with steps := m.steps + 1 } i m.pc
  obtain ⟨x, f, hx⟩ : ∃ x f, yg { m with steps := m.steps + 1 } i m.pc = (x, f) := ⟨_, _, rfl⟩
  rw [hx] at hP hpp
  have hS : xz m = if f ≠ 0 then (wy, false, f) else ({ x with pc := x.pc + 2 }, false, 0) := by unfold xz; rw [hie]; dsimp only; rw [if_neg (by omega), if_neg (by omega), if_pos hc, hx]
  refine yb zaR [2] [2] ({ m with steps := m.steps + 1 }, i, m.pc) ⟨hm1.mono (by decide), hI, by omega, by omega⟩ rfl rfl ?_
  dsimp only
  rw [hx]
  refine And.intro (VS.mk (LeL.of_eq rfl)) (And.intro (VS.mk rfl) ?_)
  have hxp := hP.pc
  (all_goals refine qgv ?_ <;> (repeat' first | exact trivial | intro hc | refine And.intro ?_ ?_) <;> refine Lf.mk ?_)
  ·rw [if_pos hc] at hS
   refine zd (VS.mk ?_)
   unfold w4; rw [hS]
   (first | exact LeL.refl _ | (repeat' (first | exact LeL.nil | exact LeD.refl _ | exact LeD.nil _ | exact LeD.strip _ _ _ | refine LeL.cons ?_ ?_ | refine LeD.tup ?_ | refine LeD.agg ?_)))
   all_goals first | exact LeD.ff rfl | skip
  ·rw [if_neg (by omega)] at hS
   refine zd (VS.mk ?_)
   unfold w4; rw [hS]
   (first | exact LeL.refl _ | (repeat' (first | exact LeL.nil | exact LeD.refl _ | exact LeD.nil _ | exact LeD.strip _ _ _ | refine LeL.cons ?_ ?_ | refine LeD.tup ?_ | refine LeD.agg ?_)))
   all_goals first | exact LeD.ff rfl | skip
 ·have hL := zic (k := 9991) hm1 hI
  obtain ⟨x, to, late, hx⟩ : ∃ x to late, x3 { m with steps := m.steps + 1 } i = (x, to, late) := ⟨_, _, _, rfl⟩
  rw [hx] at hL
  obtain ⟨hL1, hL2, hL3, hL4⟩ := hL
  dsimp only at hL1 hL2 hL3 hL4
  have hxp := hL1.pc
  have hS : xz m = if late = true then wF x to else ({ x with pc := to }, false, 0) := by unfold xz; rw [hie]; dsimp only; rw [if_neg (by omega), if_neg (by omega), if_neg (by rw [hc]; decide), hx]
  refine yb zjr [2] [2] ({ m with steps := m.steps + 1 }, i) ⟨hm1.mono (by decide), hI⟩ rfl rfl ?_
  dsimp only
  rw [hx]
  dsimp only
  refine And.intro (VS.mk (LeL.of_eq rfl)) (And.intro (VS.mk rfl) ?_)
  (all_goals refine qgv ?_ <;> (repeat' first | exact trivial | intro hc | refine And.intro ?_ ?_) <;> refine Lf.mk ?_)
  ·rw [if_pos hc] at hS
   have hJ := zbv x (x.pc + 2)
   obtain ⟨j, e', hj⟩ : ∃ j e', xv x (x.pc + 2) = (j, e') := ⟨_, _, rfl⟩
   refine yb zdO [2] [2] (x, x.pc + 2) ⟨hL1.mono (by decide), by omega, by omega⟩ rfl rfl ?_
   dsimp only
   rw [hj] at hJ ⊢
   dsimp only at hJ ⊢
   refine And.intro (VS.mk (LeL.of_eq rfl)) (And.intro (VS.mk rfl) ?_)
   (all_goals refine qgv ?_ <;> (repeat' first | exact trivial | intro hc | refine And.intro ?_ ?_) <;> refine Lf.mk ?_)
   ·refine zb zdP j.op trivial (VS.mk (LeL.of_eq rfl)) ?_
    (all_goals refine qgv ?_ <;> (repeat' first | exact trivial | intro hc | refine And.intro ?_ ?_) <;> refine Lf.mk ?_)
    ·have hT : wF x to = (wy, false, 8) := by unfold wF; rw [hj]; dsimp only; rw [if_neg (by omega), if_pos (.inl (by assumption))]
     refine zd (VS.mk ?_)
     unfold w4; rw [hS, hT]
     (first | exact LeL.refl _ | (repeat' (first | exact LeL.nil | exact LeD.refl _ | exact LeD.nil _ | exact LeD.strip _ _ _ | refine LeL.cons ?_ ?_ | refine LeD.tup ?_ | refine LeD.agg ?_)))
     all_goals first | exact LeD.ff rfl | skip
    ·have hT : wF x to = (wy, false, 8) := by unfold wF; rw [hj]; dsimp only; rw [if_neg (by omega), if_pos (.inr (by assumption))]
     refine zd (VS.mk ?_)
     unfold w4; rw [hS, hT]
     (first | exact LeL.refl _ | (repeat' (first | exact LeL.nil | exact LeD.refl _ | exact LeD.nil _ | exact LeD.strip _ _ _ | refine LeL.cons ?_ ?_ | refine LeD.tup ?_ | refine LeD.agg ?_)))
     all_goals first | exact LeD.ff rfl | skip
    have hnl : ¬ (jf j.op = true ∨ j.op = 27) := by
     rintro (h | h)
     ·have h9 : jf j.op = false := by assumption
      rw [h] at h9; cases h9
     ·omega
    have hP := jL (k := 9992) (a := x.pc + 2) hL1 hJ
    have hpp := zbw x j (x.pc + 2)
    obtain ⟨y, f, hy⟩ : ∃ y f, yg x j (x.pc + 2) = (y, f) := ⟨_, _, rfl⟩
    rw [hy] at hP hpp
    have hT : wF x to = if f ≠ 0 then (wy, false, f) else ({ y with pc := to }, false, 0) := by unfold wF; rw [hj]; dsimp only; rw [if_neg (by omega), if_neg hnl, hy]
    refine yb zaR [2] [2] (x, j, x.pc + 2) ⟨hL1.mono (by decide), hJ, by omega, by omega⟩ rfl rfl ?_
    dsimp only
    rw [hy]
    refine And.intro (VS.mk (LeL.of_eq rfl)) (And.intro (VS.mk rfl) ?_)
    (all_goals refine qgv ?_ <;> (repeat' first | exact trivial | intro hc | refine And.intro ?_ ?_) <;> refine Lf.mk ?_)
    ·rw [if_pos hc] at hT
     refine zd (VS.mk ?_)
     unfold w4; rw [hS, hT]
     (first | exact LeL.refl _ | (repeat' (first | exact LeL.nil | exact LeD.refl _ | exact LeD.nil _ | exact LeD.strip _ _ _ | refine LeL.cons ?_ ?_ | refine LeD.tup ?_ | refine LeD.agg ?_)))
     all_goals first | exact LeD.ff rfl | skip
    ·rw [if_neg (by omega)] at hT
     refine zd (VS.mk ?_)
     unfold w4; rw [hS, hT]
     (first | exact LeL.refl _ | (repeat' (first | exact LeL.nil | exact LeD.refl _ | exact LeD.nil _ | exact LeD.strip _ _ _ | refine LeL.cons ?_ ?_ | refine LeD.tup ?_ | refine LeD.agg ?_)))
     all_goals first | exact LeD.ff rfl | skip
   ·have hT : wF x to = (wy, false, e') := by unfold wF; rw [hj]; dsimp only; rw [if_pos (by assumption)]
    refine zd (VS.mk ?_)
    unfold w4; rw [hS, hT]
    (first | exact LeL.refl _ | (repeat' (first | exact LeL.nil | exact LeD.refl _ | exact LeD.nil _ | exact LeD.strip _ _ _ | refine LeL.cons ?_ ?_ | refine LeD.tup ?_ | refine LeD.agg ?_)))
    all_goals first | exact LeD.ff rfl | skip
  ·rw [if_neg (by rw [hc]; decide)] at hS
   refine zd (VS.mk ?_)
   unfold w4; rw [hS]
   (first | exact LeL.refl _ | (repeat' (first | exact LeL.nil | exact LeD.refl _ | exact LeD.nil _ | exact LeD.strip _ _ _ | refine LeL.cons ?_ ?_ | refine LeD.tup ?_ | refine LeD.agg ?_)))
   all_goals first | exact LeD.ff rfl | skip
 ·have hP := jL (k := 9991) (a := m.pc) hm1 hI
  have hpp := zbw { m with steps := m.steps + 1 } i m.pc
  obtain ⟨x, f, hx⟩ : ∃ x f, yg { m with steps := m.steps + 1 } i m.pc = (x, f) := ⟨_, _, rfl⟩
  rw [hx] at hP hpp
  have hS : xz m = if f ≠ 0 then (wy, false, f) else ({ x with pc := x.pc + 2 }, false, 0) := by unfold xz; rw [hie]; dsimp only; rw [if_neg (by omega), if_neg (by omega), if_pos hc, hx]
  refine yb zaR [2] [2] ({ m with steps := m.steps + 1 }, i, m.pc) ⟨hm1.mono (by decide), hI, by omega, by omega⟩ rfl rfl ?_
  dsimp only
  rw [hx]
  refine And.intro (VS.mk (LeL.of_eq rfl)) (And.intro (VS.mk rfl) ?_)
  have hxp := hP.pc
  (all_goals refine qgv ?_ <;> (repeat' first | exact trivial | intro hc | refine And.intro ?_ ?_) <;> refine Lf.mk ?_)
  ·rw [if_pos hc] at hS
   refine zd (VS.mk ?_)
   unfold w4; rw [hS]
   (first | exact LeL.refl _ | (repeat' (first | exact LeL.nil | exact LeD.refl _ | exact LeD.nil _ | exact LeD.strip _ _ _ | refine LeL.cons ?_ ?_ | refine LeD.tup ?_ | refine LeD.agg ?_)))
   all_goals first | exact LeD.ff rfl | skip
  ·rw [if_neg (by omega)] at hS
   refine zd (VS.mk ?_)
   unfold w4; rw [hS]
   (first | exact LeL.refl _ | (repeat' (first | exact LeL.nil | exact LeD.refl _ | exact LeD.nil _ | exact LeD.strip _ _ _ | refine LeL.cons ?_ ?_ | refine LeD.tup ?_ | refine LeD.agg ?_)))
   all_goals first | exact LeD.ff rfl | skip
 ·have hL := zic (k := 9991) hm1 hI
  obtain ⟨x, to, late, hx⟩ : ∃ x to late, x3 { m with steps := m.steps + 1 } i = (x, to, late) := ⟨_, _, _, rfl⟩
  rw [hx] at hL
  obtain ⟨hL1, hL2, hL3, hL4⟩ := hL
  dsimp only at hL1 hL2 hL3 hL4
  have hxp := hL1.pc
  have hS : xz m = if late = true then wF x to else ({ x with pc := to }, false, 0) := by unfold xz; rw [hie]; dsimp only; rw [if_neg (by omega), if_neg (by omega), if_neg (by rw [hc]; decide), hx]
  refine yb zjr [2] [2] ({ m with steps := m.steps + 1 }, i) ⟨hm1.mono (by decide), hI⟩ rfl rfl ?_
  dsimp only
  rw [hx]
  dsimp only
  refine And.intro (VS.mk (LeL.of_eq rfl)) (And.intro (VS.mk rfl) ?_)
  (all_goals refine qgv ?_ <;> (repeat' first | exact trivial | intro hc | refine And.intro ?_ ?_) <;> refine Lf.mk ?_)
  ·rw [if_pos hc] at hS
   have hJ := zbv x (x.pc + 2)
   obtain ⟨j, e', hj⟩ : ∃ j e', xv x (x.pc + 2) = (j, e') := ⟨_, _, rfl⟩
   refine yb zdO [2] [2] (x, x.pc + 2) ⟨hL1.mono (by decide), by omega, by omega⟩ rfl rfl ?_
   dsimp only
   rw [hj] at hJ ⊢
   dsimp only at hJ ⊢
   refine And.intro (VS.mk (LeL.of_eq rfl)) (And.intro (VS.mk rfl) ?_)
   (all_goals refine qgv ?_ <;> (repeat' first | exact trivial | intro hc | refine And.intro ?_ ?_) <;> refine Lf.mk ?_)
   ·refine zb zdP j.op trivial (VS.mk (LeL.of_eq rfl)) ?_
    (all_goals refine qgv ?_ <;> (repeat' first | exact trivial | intro hc | refine And.intro ?_ ?_) <;> refine Lf.mk ?_)
    ·have hT : wF x to = (wy, false, 8) := by unfold wF; rw [hj]; dsimp only; rw [if_neg (by omega), if_pos (.inl (by assumption))]
     refine zd (VS.mk ?_)
     unfold w4; rw [hS, hT]
     (first | exact LeL.refl _ | (repeat' (first | exact LeL.nil | exact LeD.refl _ | exact LeD.nil _ | exact LeD.strip _ _ _ | refine LeL.cons ?_ ?_ | refine LeD.tup ?_ | refine LeD.agg ?_)))
     all_goals first | exact LeD.ff rfl | skip
    ·have hT : wF x to = (wy, false, 8) := by unfold wF; rw [hj]; dsimp only; rw [if_neg (by omega), if_pos (.inr (by assumption))]
     refine zd (VS.mk ?_)
     unfold w4; rw [hS, hT]
     (first | exact LeL.refl _ | (repeat' (first | exact LeL.nil | exact LeD.refl _ | exact LeD.nil _ | exact LeD.strip _ _ _ | refine LeL.cons ?_ ?_ | refine LeD.tup ?_ | refine LeD.agg ?_)))
     all_goals first | exact LeD.ff rfl | skip
    have hnl : ¬ (jf j.op = true ∨ j.op = 27) := by
     rintro (h | h)
     ·have h9 : jf j.op = false := by assumption
      rw [h] at h9; cases h9
     ·omega
    have hP := jL (k := 9992) (a := x.pc + 2) hL1 hJ
    have hpp := zbw x j (x.pc + 2)
    obtain ⟨y, f, hy⟩ : ∃ y f, yg x j (x.pc + 2) = (y, f) := ⟨_, _, rfl⟩
    rw [hy] at hP hpp
    have hT : wF x to = if f ≠ 0 then (wy, false, f) else ({ y with pc := to }, false, 0) := by unfold wF; rw [hj]; dsimp only; rw [if_neg (by omega), if_neg hnl, hy]
    refine yb zaR [2] [2] (x, j, x.pc + 2) ⟨hL1.mono (by decide), hJ, by omega, by omega⟩ rfl rfl ?_
    dsimp only
    rw [hy]
    refine And.intro (VS.mk (LeL.of_eq rfl)) (And.intro (VS.mk rfl) ?_)
    (all_goals refine qgv ?_ <;> (repeat' first | exact trivial | intro hc | refine And.intro ?_ ?_) <;> refine Lf.mk ?_)
    ·rw [if_pos hc] at hT
     refine zd (VS.mk ?_)
     unfold w4; rw [hS, hT]
     (first | exact LeL.refl _ | (repeat' (first | exact LeL.nil | exact LeD.refl _ | exact LeD.nil _ | exact LeD.strip _ _ _ | refine LeL.cons ?_ ?_ | refine LeD.tup ?_ | refine LeD.agg ?_)))
     all_goals first | exact LeD.ff rfl | skip
    ·rw [if_neg (by omega)] at hT
     refine zd (VS.mk ?_)
     unfold w4; rw [hS, hT]
     (first | exact LeL.refl _ | (repeat' (first | exact LeL.nil | exact LeD.refl _ | exact LeD.nil _ | exact LeD.strip _ _ _ | refine LeL.cons ?_ ?_ | refine LeD.tup ?_ | refine LeD.agg ?_)))
     all_goals first | exact LeD.ff rfl | skip
   ·have hT : wF x to = (wy, false, e') := by unfold wF; rw [hj]; dsimp only; rw [if_pos (by assumption)]
    refine zd (VS.mk ?_)
    unfold w4; rw [hS, hT]
    (first | exact LeL.refl _ | (repeat' (first | exact LeL.nil | exact LeD.refl _ | exact LeD.nil _ | exact LeD.strip _ _ _ | refine LeL.cons ?_ ?_ | refine LeD.tup ?_ | refine LeD.agg ?_)))
    all_goals first | exact LeD.ff rfl | skip
  ·rw [if_neg (by rw [hc]; decide)] at hS
   refine zd (VS.mk ?_)
   unfold w4; rw [hS]
   (first | exact LeL.refl _ | (repeat' (first | exact LeL.nil | exact LeD.refl _ | exact LeD.nil _ | exact LeD.strip _ _ _ | refine LeL.cons ?_ ?_ | refine LeD.tup ?_ | refine LeD.agg ?_)))
   all_goals first | exact LeD.ff rfl | skip
attribute [local irreducible] x3
theorem zuM {k : Nat} {m : z8} {to : Int} (h : InM k m) (h1 : -5000000000 - 100000 * (k + 1 : Int) ≤ to) (h2 : to ≤ 5000000000 + 100000 * (k + 1 : Int)) : (wF m to).2.2 = 0 → InM (k + 1) (wF m to).1 := by
 unfold wF
 dsimp only
 refine iteInduction (motive := fun x : z8 × Bool × Int => x.2.2 = 0 → InM (k + 1) x.1) (fun h h' => absurd h' h) (fun _ => ?_)
 refine iteInduction (motive := fun x : z8 × Bool × Int => x.2.2 = 0 → InM (k + 1) x.1) (fun _ h' => absurd h' (by decide)) (fun _ => ?_)
 refine iteInduction (motive := fun x : z8 × Bool × Int => x.2.2 = 0 → InM (k + 1) x.1) (fun h h' => absurd h' h) (fun _ _ => ?_)
 have hp := jL (k := k) (a := m.pc + 2) h (zbv m (m.pc + 2))
 exact ⟨hp.regs, ⟨by show _ ≤ to; omega, by show to ≤ _; omega⟩, hp.pr, hp.base, hp.len, hp.syms, hp.told, hp.steps⟩
theorem zuN {k : Nat} {m : z8} (h : InM k m) : (xz m).2.2 = 0 → InM (k + 3) (xz m).1 := by
 have hI := zbv m m.pc
 have hpc := h.pc
 have hpr := h.pr
 have htold := h.told
 have hst := h.steps
 have hm1 : InM (k + 1) { m with steps := m.steps + 1 } := ⟨h.regs, by show _ ≤ m.pc ∧ m.pc ≤ _; omega, by show _ ≤ m.pr ∧ m.pr ≤ _; omega, h.base, h.len, h.syms, by show m.told.length ≤ _; omega, by show _ ≤ m.steps + 1 ∧ m.steps + 1 ≤ _; omega⟩
 unfold xz
 dsimp only
 refine iteInduction (motive := fun x : z8 × Bool × Int => x.2.2 = 0 → InM (k + 3) x.1) (fun h h' => absurd h' h) (fun _ => ?_)
 refine iteInduction (motive := fun x : z8 × Bool × Int => x.2.2 = 0 → InM (k + 3) x.1) (fun _ _ => hm1.mono (by omega)) (fun _ => ?_)
 refine iteInduction (motive := fun x : z8 × Bool × Int => x.2.2 = 0 → InM (k + 3) x.1) (fun _ => ?_) (fun _ => ?_)
 ·refine iteInduction (motive := fun x : z8 × Bool × Int => x.2.2 = 0 → InM (k + 3) x.1) (fun h h' => absurd h' h) (fun _ _ => ?_)
  have hp := (jL (k := k + 1) (a := m.pc) hm1 hI).mono (show k + 1 + 1 ≤ k + 3 by omega)
  have hpp := zbw { m with steps := m.steps + 1 } (xv m m.pc).1 m.pc
  dsimp only at hpp
  exact ⟨hp.regs, ⟨by show _ ≤ (yg _ _ _).1.pc + 2; omega, by show (yg _ _ _).1.pc + 2 ≤ _; omega⟩, hp.pr, hp.base, hp.len, hp.syms, hp.told, hp.steps⟩
 ·obtain ⟨h1, h2, h3, h4⟩ := zic (k := k + 1) hm1 hI
  refine iteInduction (motive := fun x : z8 × Bool × Int => x.2.2 = 0 → InM (k + 3) x.1) (fun _ => ?_) (fun _ _ => ?_)
  ·exact zuM (k := k + 2) h1 (by omega) (by omega)
  ·have hp := h1.mono (show k + 1 + 1 ≤ k + 3 by omega)
   exact ⟨hp.regs, ⟨by show _ ≤ (x3 _ _).2.1; omega, by show (x3 _ _).2.1 ≤ _; omega⟩, hp.pr, hp.base, hp.len, hp.syms, hp.told, hp.steps⟩
def zx7 : List D := [.int .i64 0, .int .i64 0, .int .i64 0, .int .i64 0, .int .i64 0, .int .i64 0, .int .i64 0, .int .i64 0, .int .i64 0, .int .i64 0, .int .i64 0, .int .i64 0, .int .i64 0, .int .i64 0, .int .i64 0, .int .i64 0, .ff, .int .i64 0, .int .i64 0, .int .i64 0, .nilsl, .nilsl, .nilsl, .int .i64 0]
def qV (m : z8) (most : Int) : z8 × Int := if most < 0 ∨ most > 2000 then (wy, 3) else wA most.toNat m
attribute [local irreducible] xz
theorem ztg : za Tryz.prog zrV (zx (fun ((m, most) : z8 × Int) => InM 0 m) (fun (m, most) => [zb4 m, .int .i64 most]) fun (m, most) => .tup [zb4 (qV m most).1, .int .i64 (qV m most).2]) := by
 refine zf zj Tryz.func15 rfl (by decide) ?_
 rintro ⟨m, most⟩ hm
 have hm : InM 0 m := hm
 have htold := hm.told
 refine ⟨Nat.le_refl _, by simp [Tryz.f15], fun E hE => ?_⟩
 refine ze _ ?_
 (all_goals refine qgv ?_ <;> (repeat' first | exact trivial | intro hc | refine And.intro ?_ ?_) <;> refine Lf.mk ?_)
 ·have hR : qV m most = (wy, 3) := by unfold qV; rw [if_pos (by omega)]
  refine zd (VS.mk ?_)
  (try dsimp only); rw [hR]
  (first | exact LeL.refl _ | (repeat' (first | exact LeL.nil | exact LeD.refl _ | exact LeD.nil _ | exact LeD.strip _ _ _ | refine LeL.cons ?_ ?_ | refine LeD.tup ?_ | refine LeD.agg ?_)))
  all_goals first | exact LeD.ff rfl | skip
 ·have hR : qV m most = (wy, 3) := by unfold qV; rw [if_pos (by omega)]
  refine zd (VS.mk ?_)
  (try dsimp only); rw [hR]
  (first | exact LeL.refl _ | (repeat' (first | exact LeL.nil | exact LeD.refl _ | exact LeD.nil _ | exact LeD.strip _ _ _ | refine LeL.cons ?_ ?_ | refine LeD.tup ?_ | refine LeD.agg ?_)))
  all_goals first | exact LeD.ff rfl | skip
 have hR : qV m most = wA most.toNat m := by unfold qV; rw [if_neg (by omega)]
 refine zb zjq m ⟨hm.len, hm.syms, by omega⟩ (VS.mk (LeL.of_eq rfl)) ?_
 (all_goals refine qgv (Lf.mk ?_))
 refine ye (α := Nat × z8) (fun p => (p.1 : Int) ≤ most ∧ InM (3 * p.1) p.2 ∧ wA (most.toNat - p.1) p.2 = wA most.toNat m)
  (fun p => [(19, .int .i64 most), (20, .int .i64 p.1), (6, .loc 2 0), (4, .loc 1 0)])
  (fun p => [.cells (vl m), .cells zx7, .cells (vl p.2)]) (fun p => most.toNat - p.1) (fun _ => by simp [hE]) (0, m) ⟨by omega, hm, by rw [Nat.sub_zero]⟩ ?_ ?_
 ·(repeat' (first | (refine VS.mk ?_) | exact trivial | exact rfl | refine And.intro ?_ ?_))
 rintro ⟨k, x⟩ ⟨hk, hx, hrun⟩
 dsimp only at hk hx hrun
 refine ze _ ?_
 (all_goals refine qgv ?_ <;> (repeat' first | exact trivial | intro hc | refine And.intro ?_ ?_) <;> refine Lf.mk ?_)
 ·refine zb zrv x (hx.mono (by omega)) (VS.mk (LeL.of_eq rfl)) ?_
  have hin := zuN hx
  obtain ⟨y, en, e, hy⟩ : ∃ y en e, xz x = (y, en, e) := ⟨_, _, _, rfl⟩
  have hst : wA (most.toNat - k) x = if e ≠ 0 then (wy, e) else if en = true then (y, 0) else wA (most.toNat - (k + 1)) y := by
   rw [show most.toNat - k = (most.toNat - (k + 1)) + 1 by omega, wA, hy]
  rw [hy] at hin
  unfold w4
  rw [hy]
  dsimp only at hin ⊢
  (all_goals refine qgv ?_ <;> (repeat' first | exact trivial | intro hc | refine And.intro ?_ ?_) <;> refine Lf.mk ?_)
  ·rw [if_pos hc] at hst
   refine zd (VS.mk ?_)
   (try dsimp only); rw [hR, ← hrun, hst]
   (first | exact LeL.refl _ | (repeat' (first | exact LeL.nil | exact LeD.refl _ | exact LeD.nil _ | exact LeD.strip _ _ _ | refine LeL.cons ?_ ?_ | refine LeD.tup ?_ | refine LeD.agg ?_)))
   all_goals first | exact LeD.ff rfl | skip
  ·rw [if_neg (by omega), if_pos hc] at hst
   refine zd (VS.mk ?_)
   (try dsimp only); rw [hR, ← hrun, hst]
   (first | exact LeL.refl _ | (repeat' (first | exact LeL.nil | exact LeD.refl _ | exact LeD.nil _ | exact LeD.strip _ _ _ | refine LeL.cons ?_ ?_ | refine LeD.tup ?_ | refine LeD.agg ?_)))
  ·rw [if_neg (by omega), if_neg (by rw [hc]; decide)] at hst
   refine zB (k + 1, y) ⟨by dsimp only; omega, by dsimp only; exact (hin (by assumption)).mono (by omega), by dsimp only; rw [← hst, hrun]⟩ (by dsimp only; omega) ?_
   (repeat' (first | (refine VS.mk ?_) | exact trivial | exact rfl | refine And.intro ?_ ?_))
 ·have hst : wA (most.toNat - k) x = (wy, 13) := by rw [show most.toNat - k = 0 by omega]; rfl
  refine zd (VS.mk ?_)
  (try dsimp only); rw [hR, ← hrun, hst]
  (first | exact LeL.refl _ | (repeat' (first | exact LeL.nil | exact LeD.refl _ | exact LeD.nil _ | exact LeD.strip _ _ _ | refine LeL.cons ?_ ?_ | refine LeD.tup ?_ | refine LeD.agg ?_)))
  all_goals first | exact LeD.ff rfl | skip
end Go.Proofs.YtnkdeacghopkiaaGreatDoor
namespace Go.Proofs.YtnkdeacghopkiaaGreatDoor
open Go Go.Plat
set_option linter.unusedVariables false
set_option linter.unusedSimpArgs false
set_option maxRecDepth 100000
set_option maxHeartbeats 2000000
attribute [local irreducible] AWP zA yh zE zn yu z6 zF zX zY zq za zL yv zo zZ yq yr yj ym zr zu zz
structure zn9 (o : y8) : Prop where
 right : wn o = 0
 rels : ∀ r ∈ o.rels, -9223372036854775808 ≤ r.at_ ∧ r.at_ ≤ 9223372036854775807 ∧ r.name.length ≤ 1000000000
 syms : ∀ s ∈ o.syms, s.name.length ≤ 1000000000
abbrev Src := List UInt8 × y8
def okD (o : y8) : D := .tup [qS o, .agg [.int .i64 0, .int .i64 0]]
def zl0 (U : Src → Prop) : Prop := za Tryz.prog zeD (zx (fun x : Src => U x) (fun x => [vy x.1]) fun x => okD x.2)
theorem zfg : zl0 (fun x => zjn x.1 ∧ jn x.1 = (x.2, 0, 0)) := by
 refine ziX zrk ?_
 rintro av L d L' ⟨x, ⟨h1, h2⟩, h3, h4, h5⟩
 refine ⟨x.1, h1, h3, h4, h5.1.trans ?_, h5.2⟩
 dsimp only
 rw [h2]
 rfl
attribute [local irreducible] wn xU
theorem zoa {U : Src → Prop} (hU : zl0 U) : za Tryz.prog zmK (zx (fun ((l, base) : List Src × Int) => l.length ≤ 1000 ∧ (∀ x ∈ l, U x ∧ zn9 x.2) ∧ -9223372036854775808 ≤ base ∧ base ≤ 9223372036854775807)
  (fun (l, base) => [.sl 1 (l.map fun x => vy x.1) none, .int .i64 base]) fun (l, base) => zkn (xU (l.map (·.2)) base)) := by
 refine zf zj Tryz.func25 rfl (by decide) ?_
 rintro ⟨l, base⟩ ⟨hl, hx, hb0, hb1⟩
 have hl : l.length ≤ 1000 := hl
 refine ⟨Nat.le_refl _, by simp [Tryz.f25], fun E hE => ?_⟩
 refine ze _ ?_
 (all_goals refine qgp (Lf.mk ?_))
 refine xF (qK 6 3 rfl) ?_
 refine ye (α := Nat) (fun k => k ≤ l.length) (fun k => [(1, .int .i64 base), (4, .loc 0 0), (5, .loc 1 0), (11, .sl 1 (l.map fun x => vy x.1) none), (12, .int .i64 l.length), (13, .int .i64 k), (6, .sl 3 (((l.take k).map (·.2)).map qS) (some 2))])
  (fun k => [.cells [.int .i64 0, .nilsl, .nilsl], .cells [.int .i64 0, .int .i64 0], .spare ((l.take k).map (·.2)).length]) (fun k => l.length - k) (fun _ => by simp [hE]) 0 (Nat.zero_le _) ?_ ?_
 ·(repeat' (first | (refine VS.mk ?_) | exact trivial | exact rfl | refine And.intro ?_ ?_))
 intro k hk
 have hk : k ≤ l.length := hk
 refine ze _ ?_
 (all_goals refine qgp ?_ <;> (repeat' first | exact trivial | intro hc | refine And.intro ?_ ?_) <;> refine Lf.mk ?_)
 ·obtain ⟨x, hxk⟩ := yf (l := l) (k := k) (by omega)
  have hkl : k < l.length := by omega
  obtain ⟨hu, ho⟩ := hx x (List.mem_of_getElem? hxk)
  have htk : (l.take (k + 1)).map (·.2) = (l.take k).map (·.2) ++ [x.2] := by rw [List.take_add_one, hxk]; simp
  refine zk (enc := fun x : Src => vy x.1) x (by omega) (by simpa using hxk) ?_
  (all_goals refine qgp ?_ <;> (repeat' first | exact trivial | intro hc | refine And.intro ?_ ?_) <;> refine Lf.mk ?_)
  refine zb hU x hu (VS.mk (LeL.of_eq rfl)) ?_
  (all_goals refine qgp ?_ <;> (repeat' first | exact trivial | intro hc | refine And.intro ?_ ?_) <;> refine Lf.mk ?_)
  unfold okD qS
  (all_goals refine qgp ?_ <;> (repeat' first | exact trivial | intro hc | refine And.intro ?_ ?_) <;> refine Lf.mk ?_)
  all_goals first
   | (exfalso; exact (by assumption : ¬ True) trivial)
   | skip
  refine zb zge x.2 ⟨ho.rels, ho.syms⟩ (VS.mk (LeL.of_eq rfl)) ?_
  dsimp only
  rw [ho.right]
  (all_goals refine qgp ?_ <;> (repeat' first | exact trivial | intro hc | refine And.intro ?_ ?_) <;> refine Lf.mk ?_)
  all_goals first
   | (exfalso; exact (by assumption : ¬ True) trivial)
   | skip
  refine zB (k + 1) (by show k + 1 ≤ _; omega) (by omega) ?_
  rw [htk, List.map_append]
  (repeat' (first | (refine VS.mk ?_) | exact trivial | exact rfl | refine And.intro ?_ ?_))
  simp
 ·have hk2 : k = l.length := by omega
  rw [hk2, List.take_length]
  refine zb zrq (l.map (·.2), base) ⟨hb0, hb1, by show (l.map (·.2)).length ≤ _; rw [List.length_map]; omega, fun o ho => ?_, fun o ho => ?_⟩ (VS.mk (LeL.of_eq rfl)) ?_
  ·obtain ⟨x, hx1, rfl⟩ := List.mem_map.1 ho
   exact (hx x hx1).2.rels
  ·obtain ⟨x, hx1, rfl⟩ := List.mem_map.1 ho
   exact (hx x hx1).2.syms
  dsimp only
  generalize xU (l.map (·.2)) base = X
  obtain ⟨⟨ib, ibs, iss⟩, e, a⟩ := X
  unfold zkn zj8 zuD
  dsimp only
  (all_goals refine qgp ?_ <;> (repeat' first | exact trivial | intro hc | refine And.intro ?_ ?_) <;> refine Lf.mk ?_)
  exact zd (VS.mk (LeD.refl _))
structure zjs (U : Src → Prop) (l : List (List UInt8 × y8)) (base : Int) (img : zab) (m : z8) (e : Int) : Prop where
 len : l.length ≤ 4
 ok : ∀ x ∈ l, U x ∧ zn9 x.2
 bas : 0 ≤ base ∧ base ≤ 1048576
 link : xU (l.map (·.2)) base = (img, 0, 0)
 ibase : img.base = base
 ilen : img.bytes.length ≤ 1000000
 isym : img.syms.length ≤ 1000000
 run : qV (zah img) 2000 = (m, e)
theorem zxB {i : zab} (h : 0 ≤ i.base ∧ i.base ≤ 1048576) (h1 : i.bytes.length ≤ 1000000) (h2 : i.syms.length ≤ 1000000) : InM 0 (zah i) :=
 ⟨fun _ _ => ⟨by show (-2147483648 : Int) ≤ 0; decide, by show (0 : Int) ≤ 2147483647; decide⟩, ⟨by show _ ≤ i.base; omega, by show i.base ≤ _; omega⟩, ⟨by show _ ≤ (-1 : Int); decide, by show (-1 : Int) ≤ _; decide⟩, h, by show i.bytes.length ≤ _; omega, by show i.syms.length ≤ _; omega, by show 0 ≤ _; decide, ⟨by show (0 : Int) ≤ 0; decide, by show (0 : Int) ≤ _; decide⟩⟩
attribute [local irreducible] qV zah
theorem ze5 {U : Src → Prop} (hU : zl0 U) : za Tryz.prog zmJ (zx (fun ((l, base, img, m, e) : List Src × Int × zab × z8 × Int) => zjs U l base img m e) (fun (l, base, _) => [.int .i64 base, .sl 1 (l.map fun x => .str x.1) none]) fun (_, _, _, m, e) => .tup [.sl 1 (m.told.map zhP) none, .int .i64 e]) := by
 refine zf zj Tryz.func12 rfl (by decide) ?_
 rintro ⟨l, base, img, m, e⟩ h
 have h : zjs U l base img m e := h
 have hl := h.len
 have hb := h.bas
 refine ⟨Nat.le_refl _, by simp [Tryz.f12], fun E hE => ?_⟩
 refine ze _ ?_
 (all_goals refine qgp ?_ <;> (repeat' first | exact trivial | intro hc | refine And.intro ?_ ?_) <;> refine Lf.mk ?_)
 refine xF (qK 6 1 rfl) ?_
 refine ye (α := Nat) (fun k => k ≤ l.length) (fun k => [(0, .int .i64 base), (13, .sl 1 (l.map fun x => .str x.1) none), (14, .int .i64 l.length), (15, .int .i64 k), (6, .sl 1 ((l.take k).map fun x => vy x.1) (some 0))])
  (fun k => [.spare (l.take k).length]) (fun k => l.length - k) (fun _ => by simp [hE]) 0 (Nat.zero_le _) ?_ ?_
 ·(repeat' (first | (refine VS.mk ?_) | exact trivial | exact rfl | refine And.intro ?_ ?_))
 intro k hk
 have hk : k ≤ l.length := hk
 refine ze _ ?_
 (all_goals refine qgp ?_ <;> (repeat' first | exact trivial | intro hc | refine And.intro ?_ ?_) <;> refine Lf.mk ?_)
 ·obtain ⟨x, hxk⟩ := yf (l := l) (k := k) (by omega)
  have hkl : k < l.length := by omega
  have htk : l.take (k + 1) = l.take k ++ [x] := by rw [List.take_add_one, hxk]; rfl
  refine zk (enc := fun x : Src => D.str x.1) x (by omega) (by simpa using hxk) ?_
  (all_goals refine qgp ?_ <;> (repeat' first | exact trivial | intro hc | refine And.intro ?_ ?_) <;> refine Lf.mk ?_)
  refine zB (k + 1) (by show k + 1 ≤ _; omega) (by omega) ?_
  rw [htk, List.map_append]
  (repeat' (first | (refine VS.mk ?_) | exact trivial | exact rfl | refine And.intro ?_ ?_))
  simp
 ·have hk2 : k = l.length := by omega
  rw [hk2, List.take_length]
  refine zb (zoa hU) (l, base) ⟨by show l.length ≤ 1000; omega, h.ok, by show _ ≤ base; omega, by show base ≤ _; omega⟩ (VS.mk (LeL.of_eq rfl)) ?_
  dsimp only
  rw [h.link]
  unfold zkn zj8 zuD
  dsimp only
  (all_goals refine qgp ?_ <;> (repeat' first | exact trivial | intro hc | refine And.intro ?_ ?_) <;> refine Lf.mk ?_)
  all_goals first
   | (exfalso; exact (by assumption : ¬ True) trivial)
   | skip
  refine zb ztd img ⟨by have := h.ilen; omega, by have := h.isym; omega⟩ (VS.mk (LeL.of_eq rfl)) ?_
  unfold zb4 vl
  (all_goals refine qgp ?_ <;> (repeat' first | exact trivial | intro hc | refine And.intro ?_ ?_) <;> refine Lf.mk ?_)
  refine zb ztg (zah img, 2000) (zxB (by rw [h.ibase]; exact hb) h.ilen h.isym) (VS.mk (LeL.of_eq rfl)) ?_
  dsimp only
  rw [h.run]
  unfold zb4 vl
  dsimp only
  (all_goals refine qgp ?_ <;> (repeat' first | exact trivial | intro hc | refine And.intro ?_ ?_) <;> refine Lf.mk ?_)
  exact zd (VS.mk (LeD.refl _))
end Go.Proofs.YtnkdeacghopkiaaGreatDoor
namespace Go.Proofs.YtnkdeacghopkiaaGreatDoor
open Go Go.Plat
set_option linter.unusedVariables false
set_option linter.unusedSimpArgs false
set_option maxRecDepth 100000
set_option maxHeartbeats 2000000
attribute [local irreducible] AWP zA yh zE zn yu z6 zF zX zY zq za zL yv zo zZ yq yr yj ym zr zu zz
def zkr (u : Nat) : List UInt8 := if u < 10 then [UInt8.ofNat (48 + u)] else if u < 100 then [UInt8.ofNat (48 + u / 10), UInt8.ofNat (48 + u % 10)] else [UInt8.ofNat (48 + u / 10 / 10), UInt8.ofNat (48 + u / 10 % 10), UInt8.ofNat (48 + u % 10)]
def ze6 (n : Int) : List UInt8 := if n < 0 then 45 :: zkr n.natAbs else zkr n.toNat
theorem zth {u : Nat} (h : u < 1000) : Lib.decDigits u = zkr u := by
 unfold zkr
 split
 ·exact Lib.decDigits_one (by assumption)
 split
 ·exact Lib.decDigits_two (by assumption) (by assumption)
 ·rw [Lib.decDigits, dif_neg (by assumption), Lib.decDigits_two (by omega) (by omega)]
  rfl
theorem zob {n : Int} (h0 : -1000 < n) (h1 : n < 1000) : Lib.itoa n = ze6 n := by
 unfold Lib.itoa ze6
 rw [zth (by omega), zth (by omega)]
def zjt : List UInt8 := [109, 111, 114, 101]
def ze7 (x : zy) : Bool := decide (vf (x1 x)) && decide (x.toks.length ≤ 1000000000) && decide (wt (x.toks.map tk) ≤ 1048576)
def zju (b : List UInt8) : Bool := decide (b.length ≤ 1000000000) && decide ((yB b).1.length ≤ 200) && decide (ww (yB b).1 ≤ 9000) && (yB b).1.all ze7
theorem zti {b : List UInt8} (h : zju b = true) : zjn b := by
 unfold zju at h
 simp only [Bool.and_eq_true, decide_eq_true_eq, List.all_eq_true] at h
 obtain ⟨⟨⟨h1, h2⟩, h3⟩, h4⟩ := h
 have h5 : ∀ x ∈ (yB b).1, vf (x1 x) ∧ x.toks.length ≤ 1000000000 ∧ wt (x.toks.map tk) ≤ 1048576 := fun x hx => by
  have := h4 x hx
  unfold ze7 at this
  simp only [Bool.and_eq_true, decide_eq_true_eq] at this
  exact ⟨this.1.1, this.1.2, this.2⟩
 exact ⟨h1, ⟨h2, fun x hx => ⟨(h5 x hx).1, (h5 x hx).2.1⟩⟩, h3, fun x hx => (h5 x hx).2.2⟩
def obC (o : y8) : Bool := decide (wn o = 0) && o.rels.all (fun r => decide (-9223372036854775808 ≤ r.at_ ∧ r.at_ ≤ 9223372036854775807 ∧ r.name.length ≤ 1000000000)) && o.syms.all fun s => decide (s.name.length ≤ 1000000000)
theorem zxC {o : y8} (h : obC o = true) : zn9 o := by
 unfold obC at h
 simp only [Bool.and_eq_true, decide_eq_true_eq, List.all_eq_true] at h
 exact ⟨h.1.1, h.1.2, h.2⟩
theorem zjv {α β : Type} {f g : α → β} {l : List α} (h : l.map f = l.map g) {x : α} (hx : x ∈ l) : f x = g x := by
 induction l with
 | nil => cases hx
 | cons y l ih =>
  rw [List.map_cons, List.map_cons] at h
  injection h with h1 h2
  rcases List.mem_cons.1 hx with rfl | hx
  ·exact h1
  ·exact ih h2 hx
def zuO (b : List UInt8) (o : y8) : (y8 × Int × Int) × Bool × Bool := (jn b, zju b, obC o)
def zks (k n : Int) (r : UInt8) : zy := ⟨k, [⟨1, 0, [109, 111, 118]⟩, ⟨3, 0, [35]⟩, ⟨2, n, []⟩, ⟨3, 0, [44]⟩, ⟨1, 0, [114, r]⟩]⟩
def trL (k n : Int) : zy := ⟨k, [⟨1, 0, [116, 114, 97, 112, 97]⟩, ⟨3, 0, [35]⟩, ⟨2, n, []⟩]⟩
def itI (k op n imm : Int) : zp := ⟨1, 0, k, ⟨op, n, 0, imm⟩, false, 0, ⟨[], imm⟩, 0, 0⟩
theorem zuP {x : zp} (h : x.kind = 1) (a : Int) : xg [] x a = 2 := by unfold xg; rw [if_neg (by omega), if_neg (by omega), if_neg (by omega), if_neg (by omega)]
def One (x : zp) : Prop := x.kind = 1 ∧ yy x.ins = 0
theorem zjw : ∀ (F : List zp) (a : Int) (tl : List zp), (∀ x ∈ F, One x) → yC [] (F ++ tl) a = (qA F a ++ (yC [] tl (a + 2 * (F.length : Int))).1, (yC [] tl (a + 2 * (F.length : Int))).2)
 | [], a, tl, _ => by
  rw [List.nil_append, show a + 2 * (([] : List zp).length : Int) = a by simp]
  rfl
 | x :: F, a, tl, h => by
  rw [List.cons_append, yC, zuP (h x List.mem_cons_self).1, zjw F (a + 2) tl fun y hy => h y (List.mem_cons_of_mem _ hy),
   show a + 2 + 2 * (F.length : Int) = a + 2 * ((x :: F).length : Int) by simp only [List.length_cons]; omega]
  rfl
theorem zhx : ∀ (F : List zp) (a : Int), (∀ x ∈ F, One x) → ∀ x ∈ qA F a, One x
 | [], a, _ => fun x hx => by cases hx
 | y :: F, a, h => fun x hx => by
  rw [qA] at hx
  rcases List.mem_cons.1 hx with rfl | hx
  ·exact h y List.mem_cons_self
  ·exact zhx F (a + 2) (fun z hz => h z (List.mem_cons_of_mem _ hz)) x hx
theorem zjx (syms : List zC) : ∀ F : List zp, (∀ x ∈ F, One x) → F.any (xK syms) = false ∧ F.map (y0 syms) = F ∧ wu F = 0
 | [], _ => ⟨rfl, rfl, rfl⟩
 | x :: F, h => by
  obtain ⟨h1, h2, h3⟩ := zjx syms F fun y hy => h y (List.mem_cons_of_mem _ hy)
  have hk := (h x List.mem_cons_self).1
  obtain ⟨hm, hg⟩ := zxZ (syms := syms) (x := x) (.inl (by omega))
  refine ⟨by rw [List.any_cons, hm, h1]; rfl, by rw [List.map_cons, hg, h2], ?_⟩
  unfold wu at h3 ⊢
  rw [List.filter_cons, if_neg (by rw [decide_eq_true_eq]; omega)]
  exact h3
def zkt (F : List zp) : List UInt8 := (F.map fun x => zdL (xr x.ins)).flatten
theorem zwq {its : List zp} {syms : List zC} {x : zp} {c : List UInt8} (h : One x) (ha : x.at_ % 2 = 0) : vO [] its syms ⟨c, [], 0, 0⟩ x = ⟨c ++ zdL (xr x.ins), [], 0, 0⟩ := by
 obtain ⟨h1, h2⟩ := h
 unfold vO
 rw [if_neg (by omega), if_neg (by omega), if_neg (by omega), if_neg (by omega), if_pos h1, zwd h2]
theorem zld (its : List zp) (syms : List zC) : ∀ (F : List zp) (a : Int) (c : List UInt8), (∀ x ∈ F, One x) → a % 2 = 0 →
  (qA F a).foldl (fun o x => if o.fe = 0 then vO [] its syms o x else o) ⟨c, [], 0, 0⟩ = ⟨c ++ zkt F, [], 0, 0⟩
 | [], a, c, _, _ => by rw [qA, List.foldl_nil]; show _ = (⟨c ++ [], [], 0, 0⟩ : Out); rw [List.append_nil]
 | x :: F, a, c, h, ha => by
  rw [qA, List.foldl_cons, if_pos rfl, zwq (x := atI x a) (h x List.mem_cons_self) ha, zld its syms F (a + 2) _ (fun y hy => h y (List.mem_cons_of_mem _ hy)) (by omega), List.append_assoc]
  rfl
theorem ztj {n : Int} (h : n % 4 = 0) : upI n = n := by unfold upI; omega
theorem zwr {base n : Int} {o : y8} {l : List y8} {i : Nat} {bs bs' : List UInt8} {ss ss' : List zC} (h1 : upI n = n) (h2 : zbN n o.syms ss = some ss') (h3 : zaf bs (n - base).toNat o.code = bs') :
  lay base (o :: l) n i bs ss = lay base l (n + o.code.length) (i + 1) bs' ss' := by rw [lay, h1, h2, h3]
theorem zws {base n : Int} {o : y8} {l : List y8} {i : Nat} {bs bs' : List UInt8} {ss : List zC} (h1 : upI n = n) (h2 : zbO base n ss o.rels bs = .inr bs') :
  fix base ss (o :: l) n i bs = fix base ss l (n + o.code.length) (i + 1) bs' := by rw [fix, h1, h2]
theorem zuQ {m : z8} {base k w : Int} {i : Ins} (hb : m.img.base = base) (h2 : base % 4 = 0) (hk : 0 ≤ k) (hk2 : k % 2 = 0) (hl : k + 2 ≤ m.img.bytes.length) (hg : yZ m.img.bytes k 2 = w) (hd : wm w = (i, 0)) : xv m (base + k) = (i, 0) := by
 unfold xv inM
 rw [hb, if_pos (decide_eq_true ⟨by omega, by omega, by omega⟩), show base + k - base = k by omega, hg, hd]
theorem zid {n : Nat} {m x : z8} {base k : Int} {i : Ins} (k' : Int) (hpc : m.pc = base + k) (hf : xv m (base + k) = (i, 0)) (h1 : ¬ (i.op = 27 ∧ i.imm = 0)) (h2 : jf i.op = false) (hp : yg { m with steps := m.steps + 1 } i (base + k) = (x, 0)) (hx : x.pc + 2 = base + k') :
  wA (n + 1) m = wA n { x with pc := base + k' } := by
 have hs : xz m = ({ x with pc := base + k' }, false, 0) := by
  unfold xz
  rw [hpc, hf]
  dsimp only
  rw [hpc] at hp
  rw [if_neg (fun h => h rfl), if_neg h1, if_pos h2, hp]
  dsimp only
  rw [if_neg (fun h => h rfl), hx]
 rw [wA, hs]
 dsimp only
 rw [if_neg (fun h => h rfl), if_neg (by decide)]
theorem zxD {n : Nat} {m : z8} {base k : Int} {i : Ins} (hpc : m.pc = base + k) (hf : xv m (base + k) = (i, 0)) (h1 : i.op = 27 ∧ i.imm = 0) : wA (n + 1) m = ({ m with steps := m.steps + 1 }, 0) := by
 have hs : xz m = ({ m with steps := m.steps + 1 }, true, 0) := by
  unfold xz
  rw [hpc, hf]
  dsimp only
  rw [if_neg (fun h => h rfl), if_pos h1]
 rw [wA, hs]
 dsimp only
 rw [if_neg (fun h => h rfl), if_pos rfl]
theorem zl1 {a : Int} (h0 : -100 ≤ a) (h1 : a ≤ 100) : ∃ k : Nat, k ∈ List.range 201 ∧ ((k : Int) - 100) = a := ⟨(a + 100).toNat, List.mem_range.2 (by omega), by omega⟩
theorem ztk (m : z8) (n a at_ : Int) : yg m ⟨3, n, 0, a⟩ at_ = (xE m n a, 0) := by unfold yg; dsimp only; rw [if_pos rfl]
theorem ztl {m : z8} {b at_ s : Int} (h : zh (m.r 0 + b) 32 = s) : yg m ⟨4, 0, 0, b⟩ at_ = (xE m 0 s, 0) := by
 unfold yg
 dsimp only
 rw [if_neg (by decide), if_pos rfl, show m.r (0 : Int).toNat = m.r 0 from rfl, h]
theorem zrw (m : z8) (at_ : Int) : yg m ⟨27, 0, 0, 1⟩ at_ = ({ m with told := m.told ++ [m.r 0] }, 0) := by
 unfold yg
 dsimp only
 rw [if_neg (by decide), if_neg (by decide), if_neg (by decide), if_neg (by decide), if_neg (by decide), if_neg (by decide), if_neg (by decide), if_pos rfl]
def yX (L : List Ins) : List UInt8 := (L.map fun i => zdL (xr i)).flatten
theorem ztm (a b : List Ins) : yX (a ++ b) = yX a ++ yX b := by unfold yX; rw [List.map_append, List.flatten_append]
theorem zjy (i : Ins) (l : List Ins) : yX (i :: l) = zdL (xr i) ++ yX l := rfl
theorem zdu : ∀ L : List Ins, (yX L).length = 2 * L.length
 | [] => rfl
 | i :: l => by rw [zjy, List.length_append, zdu l, show (zdL (xr i)).length = 2 from rfl, List.length_cons]; omega
theorem zxE (F : List zp) : zkt F = yX (F.map (·.ins)) := by unfold zkt yX; rw [List.map_map]; rfl
theorem zb5 {L : List Ins} {ss : List zC} {m : z8} {j : Nat} {i : Ins} (hm : m.img = ⟨0, yX L, ss⟩) (hj : L[j]? = some i) (hw : yy i = 0) : xv m (0 + 2 * (j : Int)) = (i, 0) := by
 have hjl : j < L.length := (List.getElem?_eq_some_iff.1 hj).1
 have hs : L = L.take j ++ i :: L.drop (j + 1) := by
  have := List.getElem?_eq_some_iff.1 hj
  obtain ⟨h, e⟩ := this
  rw [← e, List.getElem_cons_drop h, List.take_append_drop]
 obtain ⟨h0, h1, hd⟩ := zxY hw
 have hc : yX L = yX (L.take j) ++ (zdL (xr i) ++ yX (L.drop (j + 1))) := by
  conv => lhs; rw [hs]
  rw [ztm, zjy]
 have hlen : (yX (L.take j)).length = 2 * j := by rw [zdu, List.length_take]; omega
 have hg : yZ (yX L) (2 * (j : Int)) 2 = xr i := by
  rw [hc, show 2 * (j : Int) = (((yX (L.take j)).length : Nat) : Int) by omega]
  exact zwe h0 (by omega)
 have hcl := zdu L
 exact zuQ (base := 0) (by rw [hm]) (by decide) (by omega) (by omega) (by rw [hm]; show 2 * (j : Int) + 2 ≤ ((yX L).length : Int); omega) (by rw [hm]; exact hg) hd
attribute [local irreducible] wA xv yg x3 wm xz yZ xo yX
end Go.Proofs.YtnkdeacghopkiaaGreatDoor
namespace Go.Proofs.YtnkdeacghopkiaaGreatDoor
open Go Go.Plat
set_option linter.unusedVariables false
set_option linter.unusedSimpArgs false
set_option maxRecDepth 100000
set_option maxHeartbeats 2000000
attribute [local irreducible] AWP zA yh zE zn yu z6 zF zX zY zq za zL yv zo zZ yq yr yj ym zr zu zz
def wT (s : List UInt8) : zH := ⟨1, 0, s⟩
def sT (c : UInt8) : zH := ⟨3, 0, [c]⟩
def nT (n : Int) : zH := ⟨2, n, []⟩
def zrx : List UInt8 := [97, 100, 100]
def r0W : List UInt8 := [114, 48]
def zbP (n : Int) : List zH := if n < 0 then [sT 45, nT (-n)] else [nT n]
def zaF (n : Int) : List zH := wT zrx :: sT 35 :: (zbP n ++ [sT 44, wT r0W])
def zoc (n : Int) : List zH := wT zjt :: zbP n
def zaS (n : Int) : List UInt8 := ([97, 100, 100, 32, 35] ++ ze6 n) ++ [44, 114, 48]
def zdQ (n : Int) : List UInt8 := [109, 111, 114, 101, 32] ++ ze6 n
def xA (f : Int → List UInt8) : List Int → List UInt8
 | [] => []
 | n :: l => f n ++ 10 :: xA f l
def ke (g : Int → List zH) : List Int → Int → List zy
 | [], _ => []
 | n :: l, k => ⟨k, g n⟩ :: ke g l (k + 1)
def vo (l : List Int) : Prop := ∀ n ∈ l, -100 ≤ n ∧ n ≤ 100
def zry (s : List UInt8) (t : List zH) : (List zH × Int) × Bool × Bool := (ql s, s.all (fun c => c != 10), decide (s.length ≤ 20 ∧ t.length ≠ 0))
theorem zwt : (List.range 201).map (fun k : Nat => zry (zaS ((k : Int) - 100)) (zaF ((k : Int) - 100))) = (List.range 201).map fun k : Nat => ((zaF ((k : Int) - 100), 0), true, true) := by kernel_rfl
theorem zwu : (List.range 201).map (fun k : Nat => zry (zdQ ((k : Int) - 100)) (zoc ((k : Int) - 100))) = (List.range 201).map fun k : Nat => ((zoc ((k : Int) - 100), 0), true, true) := by kernel_rfl
def zjz (f : Int → List UInt8) (g : Int → List zH) : Prop := ∀ n, -100 ≤ n → n ≤ 100 → ql (f n) = (g n, 0) ∧ (f n).all (fun c => c != 10) = true ∧ (f n).length ≤ 20 ∧ (g n).length ≠ 0
theorem zod {f : Int → List UInt8} {g : Int → List zH} (h : (List.range 201).map (fun k : Nat => zry (f ((k : Int) - 100)) (g ((k : Int) - 100))) = (List.range 201).map fun k : Nat => ((g ((k : Int) - 100), 0), true, true)) : zjz f g := by
 intro n h0 h1
 obtain ⟨k, hk, rfl⟩ := zl1 h0 h1
 have := zjv h hk
 unfold zry at this
 rw [Prod.mk.injEq, Prod.mk.injEq (List.all _ _)] at this
 have h3 := of_decide_eq_true this.2.2
 exact ⟨this.1, this.2.1, h3.1, h3.2⟩
theorem zoe : zjz zaS zaF := zod zwt
theorem zof : zjz zdQ zoc := zod zwu
theorem zdR {f : Int → List UInt8} {g : Int → List zH} (h : zjz f g) (rest : List UInt8) : ∀ (l : List Int) (k : Int) (out : List zy), vo l → wl (yp 10 (xA f l ++ rest)) k out = wl (yp 10 rest) (k + (l.length : Int)) (out ++ ke g l k)
 | [], k, out, _ => by rw [xA, ke, List.nil_append, List.append_nil, show k + (([] : List Int).length : Int) = k by simp]
 | n :: l, k, out, hl => by
  obtain ⟨a1, a2, _, a4⟩ := h n (hl n List.mem_cons_self).1 (hl n List.mem_cons_self).2
  rw [xA, List.append_assoc, List.cons_append, zbt _ _ _ a2 a1 a4, zdR h rest l (k + 1) _ fun m hm => hl m (List.mem_cons_of_mem _ hm), ke, List.append_assoc, List.length_cons, show k + 1 + (l.length : Int) = k + ((l.length + 1 : Nat) : Int) by omega]
  rfl
theorem zbx {f : Int → List UInt8} {g : Int → List zH} (h : zjz f g) : ∀ l : List Int, vo l → (xA f l).length ≤ 21 * l.length
 | [], _ => Nat.le_refl 0
 | n :: l, hl => by
  have := (h n (hl n List.mem_cons_self).1 (hl n List.mem_cons_self).2).2.2.1
  have := zbx h l fun m hm => hl m (List.mem_cons_of_mem _ hm)
  rw [xA, List.length_append, List.length_cons, List.length_cons]
  omega
theorem ze8 (f : Int → List UInt8) : ∀ (l : List Int) (n : Int), xA f (l ++ [n]) = (xA f l ++ f n) ++ [10]
 | [], n => by rw [List.nil_append, xA, xA, xA, List.nil_append]
 | m :: l, n => by rw [List.cons_append, xA, ze8 f l n, xA]; simp
def zcL : List UInt8 := [46, 109, 97, 99, 114, 111, 32, 109, 111, 114, 101, 32, 110, 10, 97, 100, 100, 32, 35, 110, 44, 114, 48, 10, 46, 101, 110, 100, 109, 10, 109, 111, 118, 32, 35, 48, 44, 114, 48, 10]
def zcM : List UInt8 := [109, 111, 118, 32, 35, 48, 44, 114, 48, 10]
def zaT : List UInt8 := [116, 114, 97, 112, 97, 32, 35, 49, 10, 116, 114, 97, 112, 97, 32, 35, 48, 10]
def zdS (l : List Int) : List UInt8 := (zcL ++ xA zdQ l) ++ zaT
def zcN (l : List Int) : List UInt8 := (zcM ++ xA zaS l) ++ zaT
def zrz : zy := ⟨2, [wT zrx, sT 35, wT [110], sT 44, wT r0W]⟩
def mdR : Md := ⟨⟨1, [wT qT, wT zjt, wT [110]]⟩, zjt, [110], [zrz], ⟨3, [wT zds]⟩⟩
def zbQ : List Int → Int → List kI
 | [], _ => []
 | n :: l, k => .ca ⟨k, zoc n⟩ (zbP n) :: zbQ l (k + 1)
def zdT (l : List Int) : List kI := .pl (zks 4 0 48) :: (zbQ l 5 ++ [.pl (trL (5 + (l.length : Int)) 1), .pl (trL (5 + (l.length : Int) + 1) 0)])
def zaG (p k : Int) (l : List Int) : List zy := [zks p 0 48] ++ (ke zaF l k ++ [trL (k + (l.length : Int)) 1, trL (k + (l.length : Int) + 1) 0])
theorem ztn : ∀ (l : List Int) (k : Int), (zbQ l k).map nsL = ke zoc l k
 | [], _ => rfl
 | n :: l, k => by rw [zbQ, List.map_cons, ztn l, ke]; rfl
theorem zog (m : Mcr) : ∀ a b : List kI, xD m (a ++ b) = xD m a ++ xD m b
 | [], b => rfl
 | s :: a, b => by rw [List.cons_append, xD, zog m a b, xD, List.append_assoc]
theorem zoh (m : Mcr) : ∀ a b : List kI, vE m (a ++ b) = vE m a + vE m b
 | [], b => (Nat.zero_add _).symm
 | s :: a, b => by rw [List.cons_append, vE, zoh m a b, vE, Nat.add_assoc]
theorem zle (n k : Int) : x2 (mdM mdR) (zbP n) k = [⟨k, zaF n⟩] := by
 unfold zaF
 generalize zbP n = av
 rfl
theorem zoi : ∀ (l : List Int) (k : Int), xD (mdM mdR) (zbQ l k) = ke zaF l k ∧ vE (mdM mdR) (zbQ l k) = 2 * l.length
 | [], _ => ⟨rfl, rfl⟩
 | n :: l, k => by
  obtain ⟨h1, h2⟩ := zoi l (k + 1)
  refine ⟨?_, ?_⟩
  ·rw [zbQ, xD, h1, ke]
   show x2 (mdM mdR) (zbP n) k ++ _ = _
   rw [zle]
   rfl
  ·rw [zbQ, vE, h2, List.length_cons]
   show (1 + 1) + 2 * l.length = _
   omega
theorem zjA (l : List Int) : xD (mdM mdR) (zdT l) = zaG 4 5 l := by
 unfold zdT zaG
 rw [xD, zog, (zoi l 5).1]
 rfl
theorem zoj (g : Int → List zH) : ∀ (l : List Int) (k : Int), (ke g l k).length = l.length
 | [], _ => rfl
 | n :: l, k => by rw [ke, List.length_cons, zoj g l, List.length_cons]
theorem zhy (k : Int) (out : List zy) : wl (yp 10 zaT) k out = (out ++ [trL k 1, trL (k + 1) 0], 0, 0) := by
 rw [show zaT = [116, 114, 97, 112, 97, 32, 35, 49] ++ 10 :: ([116, 114, 97, 112, 97, 32, 35, 48] ++ 10 :: []) from rfl, zbt (ts := (trL 9 1).toks) _ _ _ (by kernel_rfl) (by kernel_rfl) (by decide), zbt (ts := (trL 10 0).toks) _ _ _ (by kernel_rfl) (by kernel_rfl) (by decide), zs2, List.append_assoc]
 rfl
theorem zto {l : List Int} (hl : l.length ≤ 12) (h : vo l) : (zdS l).length ≤ 400 ∧ yB (zdS l) = (mdL mdR ++ (zdT l).map nsL, 0, 0) := by
 have hf := zbx zof l h
 have hlen : (zdS l).length ≤ 400 := by unfold zdS zcL zaT; simp only [List.length_append, List.length_cons, List.length_nil]; omega
 refine ⟨hlen, ?_⟩
 unfold yB
 rw [if_neg (by omega)]
 have e : zdS l = [46, 109, 97, 99, 114, 111, 32, 109, 111, 114, 101, 32, 110] ++ 10 :: ([97, 100, 100, 32, 35, 110, 44, 114, 48] ++ 10 :: ([46, 101, 110, 100, 109] ++ 10 :: ([109, 111, 118, 32, 35, 48, 44, 114, 48] ++ 10 :: (xA zdQ l ++ zaT)))) := by
  unfold zdS zcL
  simp
 rw [e, zbt (ts := mdR.h.toks) _ _ _ (by kernel_rfl) (by kernel_rfl) (by decide), zbt (ts := zrz.toks) _ _ _ (by kernel_rfl) (by kernel_rfl) (by decide), zbt (ts := mdR.e.toks) _ _ _ (by kernel_rfl) (by kernel_rfl) (by decide), zbt (ts := (zks 4 0 48).toks) _ _ _ (by kernel_rfl) (by kernel_rfl) (by decide),
  zdR zof zaT l _ _ h, zhy]
 refine congrArg (fun x => (x, (0 : Int), (0 : Int))) ?_
 unfold zdT
 rw [List.map_cons, List.map_append, ztn]
 simp only [List.append_assoc]
 rfl
theorem ztp {l : List Int} (hl : l.length ≤ 12) (h : vo l) : (zcN l).length ≤ 400 ∧ yB (zcN l) = (zaG 1 2 l, 0, 0) := by
 have hf := zbx zoe l h
 have hlen : (zcN l).length ≤ 400 := by unfold zcN zcM zaT; simp only [List.length_append, List.length_cons, List.length_nil]; omega
 refine ⟨hlen, ?_⟩
 unfold yB
 rw [if_neg (by omega)]
 have e : zcN l = [109, 111, 118, 32, 35, 48, 44, 114, 48] ++ 10 :: (xA zaS l ++ zaT) := by
  unfold zcN zcM
  simp
 rw [e, zbt (ts := (zks 4 0 48).toks) _ _ _ (by kernel_rfl) (by kernel_rfl) (by decide), zdR zoe zaT l _ _ h, zhy]
 refine congrArg (fun x => (x, (0 : Int), (0 : Int))) ?_
 unfold zaG
 simp only [List.append_assoc]
 rfl
def itN (k n : Int) : zp := itI k 4 0 n
theorem zuR (its : List zp) (k : Int) : (List.range 201).map (fun j : Nat => xT [] (bI its [] []) ⟨k, zaF ((j : Int) - 100)⟩) = (List.range 201).map fun j : Nat => bI (its ++ [itN k ((j : Int) - 100)]) [] [] := by kernel_rfl
def zcO : List Int → Int → List zp
 | [], _ => []
 | n :: l, k => itN k n :: zcO l (k + 1)
theorem zlf : ∀ (l : List Int) (k : Int) (its : List zp), vo l → xu [] (ke zaF l k) (bI its [] []) = bI (its ++ zcO l k) [] []
 | [], k, its, _ => by rw [ke, zcO, List.append_nil]; rfl
 | n :: l, k, its, h => by
  obtain ⟨j, hj, hn⟩ := zl1 (h n List.mem_cons_self).1 (h n List.mem_cons_self).2
  have := zjv (zuR its k) hj
  rw [hn] at this
  rw [ke, zhq, this, zlf l (k + 1) _ fun m hm => h m (List.mem_cons_of_mem _ hm), zcO, List.append_assoc]
  rfl
theorem zuS (p : Int) : xu [] [zks p 0 48] b0 = bI [itI p 3 0 0] [] [] := by kernel_rfl
theorem ztq (its : List zp) (k u : Int) : xu [] [trL k 1, trL u 0] (bI its [] []) = bI (its ++ [itI k 27 0 1, itI u 27 0 0]) [] [] := by
 have h : xu [] [trL k 1, trL u 0] (bI its [] []) = bI ((its ++ [itI k 27 0 1]) ++ [itI u 27 0 0]) [] [] := by kernel_rfl
 rw [h, List.append_assoc]
 rfl
def zie (p k : Int) (l : List Int) : List zp := itI p 3 0 0 :: (zcO l k ++ [itI (k + (l.length : Int)) 27 0 1, itI (k + (l.length : Int) + 1) 27 0 0])
theorem zuT (p k : Int) {l : List Int} (h : vo l) : xu [] (zaG p k l) b0 = bI (zie p k l) [] [] := by
 unfold zaG
 rw [zjo, zuS, zjo, zlf l k _ h, ztq, List.append_assoc]
 rfl
theorem zrA {F : List zp} (hF : ∀ x ∈ F, One x) : yL [] [] ⟨F, []⟩ = (⟨qA F 0, []⟩, 2 * (F.length : Int)) := by
 have hp : yO [] [] ⟨F, []⟩ = (⟨qA F 0, []⟩, 2 * (F.length : Int)) := by
  have h := zjw F 0 [] hF
  rw [List.append_nil, yC, List.append_nil, Int.zero_add] at h
  unfold yO
  dsimp only
  rw [h]
  rfl
 obtain ⟨h1, h2, _⟩ := zjx [] (qA F 0) (zhx F 0 hF)
 unfold yL
 dsimp only
 rw [zdK, hp]
 dsimp only
 rw [h1, if_pos (.inl rfl), h2]
theorem zuU {F : List zp} (hF : ∀ x ∈ F, One x) (hl : F.length ≤ 1000) : zkl (bI F [] []) = (⟨zkt F, [], []⟩, 0, 0) := by
 have hr := zrA hF
 have he : ∀ its, (qA F 0).foldl (fun o x => if o.fe = 0 then vO [] its [] o x else o) ⟨[], [], 0, 0⟩ = ⟨zkt F, [], 0, 0⟩ := fun its => by
  rw [zld its [] F 0 [] hF rfl, List.nil_append]
 unfold zkl vv bI
 dsimp only
 rw [hr]
 dsimp only
 rw [he, if_neg (fun h => h rfl), if_neg (by omega), if_neg (fun h => h rfl)]
def vp (l : List Int) : List Ins := [⟨3, 0, 0, 0⟩] ++ (l.map (fun n => ⟨4, 0, 0, n⟩) ++ [⟨27, 0, 0, 1⟩, ⟨27, 0, 0, 0⟩])
theorem zuV : (List.range 201).map (fun k : Nat => yy ⟨4, 0, 0, (k : Int) - 100⟩) = (List.range 201).map fun _ => 0 := by kernel_rfl
theorem zlg {n : Int} (h0 : -100 ≤ n) (h1 : n ≤ 100) : yy ⟨4, 0, 0, n⟩ = 0 := by
 obtain ⟨k, hk, rfl⟩ := zl1 h0 h1
 exact zjv zuV hk
theorem zok : ∀ (l : List Int) (k : Int), vo l → (∀ x ∈ zcO l k, One x) ∧ (zcO l k).length = l.length ∧ (zcO l k).map (·.ins) = l.map fun n => (⟨4, 0, 0, n⟩ : Ins)
 | [], _, _ => ⟨fun x hx => (by cases hx), rfl, rfl⟩
 | n :: l, k, h => by
  obtain ⟨h1, h2, h3⟩ := zok l (k + 1) fun m hm => h m (List.mem_cons_of_mem _ hm)
  refine ⟨fun x hx => ?_, by rw [zcO, List.length_cons, h2, List.length_cons], by rw [zcO, List.map_cons, h3, List.map_cons]; rfl⟩
  rw [zcO] at hx
  rcases List.mem_cons.1 hx with rfl | hx
  ·exact ⟨rfl, zlg (h n List.mem_cons_self).1 (h n List.mem_cons_self).2⟩
  ·exact h1 x hx
theorem zp0 (p k : Int) {l : List Int} (hl : l.length ≤ 12) (h : vo l) : x9 [] (zaG p k l) = (⟨yX (vp l), [], []⟩, 0, 0) := by
 obtain ⟨h1, h2, h3⟩ := zok l k h
 have hone : ∀ x ∈ zie p k l, One x := fun x hx => by
  unfold zie at hx
  rcases List.mem_cons.1 hx with rfl | hx
  ·exact ⟨rfl, by show yy ⟨3, 0, 0, 0⟩ = 0; kernel_rfl⟩
  rcases List.mem_append.1 hx with hx | hx
  ·exact h1 x hx
  ·simp only [List.mem_cons, List.not_mem_nil, or_false] at hx
   rcases hx with rfl | rfl
   ·exact ⟨rfl, by show yy ⟨27, 0, 0, 1⟩ = 0; kernel_rfl⟩
   ·exact ⟨rfl, by show yy ⟨27, 0, 0, 0⟩ = 0; kernel_rfl⟩
 have hlen : (zie p k l).length ≤ 1000 := by unfold zie; rw [List.length_cons, List.length_append, h2]; show l.length + 2 + 1 ≤ _; omega
 have hp : ∀ its line, vM (bI its [] []) line = bI its [] [] := fun its line => by unfold vM; rw [if_neg (fun h => Bool.noConfusion h)]
 have he : zkt (zie p k l) = yX (vp l) := by
  rw [zxE]
  unfold zie vp
  rw [List.map_cons, List.map_append, h3]
  rfl
 unfold x9
 rw [zuT p k h, hp, zuU hone hlen, he]
def zR : Nat → Int := fun _ => 0
attribute [local irreducible] wA xv yg x3 wm xz yZ xo
end Go.Proofs.YtnkdeacghopkiaaGreatDoor
namespace Go.Proofs.YtnkdeacghopkiaaGreatDoor
open Go Go.Plat
set_option linter.unusedVariables false
set_option linter.unusedSimpArgs false
set_option maxRecDepth 100000
set_option maxHeartbeats 2000000
attribute [local irreducible] AWP zA yh zE zn yu z6 zF zX zY zq za zL yv zo zZ yq yr yj ym zr zu zz
theorem zp1 (u : Nat) : (zkr u).length ≤ 3 := by
 unfold zkr
 split
 ·show 1 ≤ 3; decide
 split
 ·show 2 ≤ 3; decide
 ·show 3 ≤ 3; decide
theorem zwv (n : Int) : (ze6 n).length ≤ 4 := by
 unfold ze6
 split
 ·have := zp1 n.natAbs; rw [List.length_cons]; omega
 ·have := zp1 n.toNat; omega
theorem jM {s t : List UInt8} {K : D → Prop} (p q : Nat) (hs : s.length ≤ p) (ht : t.length ≤ q) (hb : p + q ≤ 1000000) (h : ∀ y, y = s ++ t → y.length ≤ p + q → K (.str y)) : yu s t K :=
 ziM (by omega) (h _ rfl (by rw [List.length_append]; omega))
abbrev UP : Src → Prop := fun x => zjn x.1 ∧ jn x.1 = (x.2, 0, 0)
theorem zxF {b : List UInt8} {o : y8} (h : zuO b o = ((o, 0, 0), true, true)) : UP (b, o) ∧ zn9 o := by
 unfold zuO at h
 rw [Prod.mk.injEq, Prod.mk.injEq (zju b)] at h
 exact ⟨⟨zti h.2.1, h.1⟩, zxC h.2.2⟩
def zjB : List UInt8 := [109, 111, 118, 32, 35, 53, 44, 114, 48, 10, 116, 114, 97, 112, 97, 32, 35, 49, 10, 116, 114, 97, 112, 97, 32, 35, 48, 10]
def zl2 : y8 := ⟨[224, 5, 195, 1, 195, 0], [], []⟩
theorem zuW : zuO zjB zl2 = ((zl2, 0, 0), true, true) := by kernel_rfl
def zjC : zab := ⟨0, [224, 5, 195, 1, 195, 0], []⟩
theorem zww : zjs UP [(zjB, zl2)] 0 zjC (qV (zah zjC) 2000).1 0 :=
 ⟨by decide, fun x hx => by rw [List.mem_singleton.1 hx]; exact zxF zuW, ⟨by decide, by decide⟩, by kernel_rfl, rfl, by decide, by decide, Prod.ext rfl (by kernel_rfl)⟩
theorem ztr : (qV (zah zjC) 2000).1.told = [5] := by kernel_rfl
attribute [local irreducible] qV zah ze6 zjB
theorem zol : za Tryz.prog zlw (zx (fun _ : Unit => True) (fun _ => []) fun _ => .bool true) := by
 refine zf zj Tryz.func10 rfl (by decide) fun _ _ => ?_
 refine ⟨Nat.le_refl _, by simp [Tryz.f10], fun E hE => ?_⟩
 refine ze _ ?_
 (all_goals refine qgp ?_ <;> (repeat' first | exact trivial | intro hc | refine And.intro ?_ ?_) <;> refine Lf.mk ?_)
 refine zb (ze5 zfg) ([(zjB, zl2)], 0, zjC, (qV (zah zjC) 2000).1, 0) zww (VS.mk (LeL.of_eq (by unfold zjB; rfl))) ?_
 dsimp only
 rw [ztr]
 (all_goals refine qgp ?_ <;> (repeat' first | exact trivial | intro hc | refine And.intro ?_ ?_) <;> refine Lf.mk ?_)
 ·exact zd (VS.mk (LeD.of_eq rfl))
 ·exact absurd trivial hc
end Go.Proofs.YtnkdeacghopkiaaGreatDoor
namespace Go.Proofs.YtnkdeacghopkiaaGreatDoor
open Go Go.Plat
set_option linter.unusedVariables false
set_option linter.unusedSimpArgs false
set_option maxRecDepth 100000
set_option maxHeartbeats 2000000
attribute [local irreducible] AWP zA yh zE zn yu z6 zF zX zY zq za zL yv zo zZ yq yr yj ym zr zu zz
def wW : List Int → Int
 | [] => 0
 | x :: l => x + wW l
attribute [local irreducible] wA xv yg x3 wm xz yZ xo
end Go.Proofs.YtnkdeacghopkiaaGreatDoor
namespace Go.Proofs.YtnkdeacghopkiaaGreatDoor
open Go Go.Plat
set_option linter.unusedVariables false
set_option linter.unusedSimpArgs false
set_option maxRecDepth 100000
set_option maxHeartbeats 2000000
attribute [local irreducible] AWP zA yh zE zn yu z6 zF zX zY zq za zL yv zo zZ yq yr yj ym zr zu zz x9 yB jn
end Go.Proofs.YtnkdeacghopkiaaGreatDoor
namespace Go.Proofs.YtnkdeacghopkiaaGreatDoor
open Go Go.Plat
set_option linter.unusedVariables false
set_option linter.unusedSimpArgs false
set_option maxRecDepth 100000
set_option maxHeartbeats 2000000
attribute [local irreducible] AWP zA yh zE zn yu z6 zF zX Lib.itoa zY zq za zL yv zo zZ yq yr yj ym zr zu zz yZ jn
end Go.Proofs.YtnkdeacghopkiaaGreatDoor
namespace Go.Proofs.YtnkdeacghopkiaaGreatDoor
open Go Go.Plat
set_option linter.unusedVariables false
set_option linter.unusedSimpArgs false
set_option maxRecDepth 100000
set_option maxHeartbeats 2000000
attribute [local irreducible] AWP zA yh zE zn yu z6 zF zX zY zq za zL yv zo zZ yq yr yj ym zr zu zz wm xv yZ x3 yg xo wA xz
end Go.Proofs.YtnkdeacghopkiaaGreatDoor
namespace Go.Proofs.YtnkdeacghopkiaaGreatDoor
open Go Go.Plat
set_option linter.unusedVariables false
set_option linter.unusedSimpArgs false
set_option maxRecDepth 100000
set_option maxHeartbeats 2000000
attribute [local irreducible] AWP zA yh zE zn yu z6 zF zX zY zq za zL yv zo zZ yq yr yj ym zr zu zz
theorem zgv : ∀ a b : List zy, ww (a ++ b) = ww a + ww b
 | [], b => by rw [List.nil_append, ww, Nat.zero_add]
 | s :: a, b => by rw [List.cons_append, ww, zgv a b, ww, Nat.add_assoc]
theorem ze9 {x : zy} (h : ze7 x = true) : vf (x1 x) ∧ x.toks.length ≤ 1000000000 ∧ wt (x.toks.map tk) ≤ 1048576 := by
 unfold ze7 at h
 simp only [Bool.and_eq_true, decide_eq_true_eq] at h
 exact ⟨h.1.1, h.1.2, h.2⟩
theorem zom : ∀ a b : List Int, wW (a ++ b) = wW a + wW b
 | [], b => by rw [List.nil_append, wW, Int.zero_add]
 | x :: a, b => by rw [List.cons_append, wW, zom a b, wW]; omega
attribute [local irreducible] Lib.itoa wW qV zah ze6
end Go.Proofs.YtnkdeacghopkiaaGreatDoor
namespace Go.Proofs.YtnkdeacghopkiaaGreatDoor
open Go Go.Plat
set_option linter.unusedVariables false
set_option linter.unusedSimpArgs false
set_option maxRecDepth 100000
set_option maxHeartbeats 2000000
attribute [local irreducible] AWP zA yh zE zn yu z6 zF zX zY zq za zL yv zo zZ yq yr yj ym zr zu zz
theorem zuX {n : Int} (h0 : -1000000 ≤ n) (h1 : n ≤ 1000000) : zh n 32 = n := by
 have h : zh n 32 = if n % 4294967296 / 2147483648 = 1 then n % 4294967296 - 4294967296 else n % 4294967296 := rfl
 rw [h]
 split <;> omega
theorem zp2 : ∀ l : List Int, vo l → -100 * (l.length : Int) ≤ wW l ∧ wW l ≤ 100 * (l.length : Int)
 | [], _ => ⟨by show -100 * ((0 : Nat) : Int) ≤ 0; decide, by show (0 : Int) ≤ 100 * ((0 : Nat) : Int); decide⟩
 | x :: l, h => by
  have h1 := h x List.mem_cons_self
  have h2 := zp2 l fun y hy => h y (List.mem_cons_of_mem _ hy)
  rw [wW, List.length_cons]
  omega
attribute [local irreducible] wA xv yg x3 wm xz yZ xo yX
def Bd (k : Nat) (a : Int) : Prop := -100000 + 100 * (k : Int) ≤ a ∧ a ≤ 100000 - 100 * (k : Int)
theorem zon {L : List Ins} {ss : List zC} (tf : Bool) : ∀ (l : List Int) (j : Nat) (r : Nat → Int) (st a : Int), (∀ (i : Nat) n, l[i]? = some n → L[j + i]? = some ⟨4, 0, 0, n⟩) → vo l → r 0 = a → Bd l.length a →
  ∃ r' st', r' 0 = a + wW l ∧ ∀ n : Nat, wA (n + l.length) ⟨r, tf, 0 + 2 * (j : Int), -1, ⟨0, yX L, ss⟩, [], st⟩ = wA n ⟨r', tf, 0 + 2 * ((j + l.length : Nat) : Int), -1, ⟨0, yX L, ss⟩, [], st'⟩
 | [], j, r, st, a, _, _, hr, _ => by
  refine ⟨r, st, ?_, fun n => ?_⟩
  ·rw [wW, Int.add_zero]; exact hr
  ·rw [List.length_nil, Nat.add_zero, Nat.add_zero]
 | x :: l, j, r, st, a, h, hin, hr, hb => by
  obtain ⟨h0, h1⟩ := hb
  have hf := h 0 x rfl
  rw [Nat.add_zero] at hf
  have hx := hin x List.mem_cons_self
  rw [List.length_cons] at h0 h1
  obtain ⟨r', st', ih0, ih⟩ := zon (L := L) (ss := ss) tf l (j + 1) (up r 0 (a + x)) (st + 1) (a + x) (fun i n hi => by have := h (i + 1) n hi; rwa [show j + (i + 1) = j + 1 + i by omega] at this) (fun y hy => hin y (List.mem_cons_of_mem _ hy)) (by unfold up; rw [if_pos (by decide)]) ⟨by omega, by omega⟩
  refine ⟨r', st', by rw [ih0, wW, Int.add_assoc], fun n => ?_⟩
  have e : wA ((n + l.length) + 1) ⟨r, tf, 0 + 2 * (j : Int), -1, ⟨0, yX L, ss⟩, [], st⟩ = wA (n + l.length) ⟨up r 0 (a + x), tf, 0 + 2 * ((j + 1 : Nat) : Int), -1, ⟨0, yX L, ss⟩, [], st + 1⟩ :=
   zid (base := 0) (k := 2 * (j : Int)) (2 * ((j + 1 : Nat) : Int)) rfl (zb5 rfl hf (zlg hx.1 hx.2)) (fun h => absurd h.1 (by show ¬ (4 : Int) = 27; decide)) (by show jf 4 = false; kernel_rfl) (ztl (s := a + x) (by show zh (r 0 + x) 32 = a + x; rw [hr]; exact zuX (by omega) (by omega))) (by show 0 + 2 * (j : Int) + 2 = 0 + 2 * ((j + 1 : Nat) : Int); omega)
  rw [List.length_cons, show n + (l.length + 1) = (n + l.length) + 1 by omega, e, ih, show j + 1 + l.length = j + (l.length + 1) by omega]
theorem zwx (l : List Int) : (vp l)[0]? = some ⟨3, 0, 0, 0⟩ ∧ (∀ (i : Nat) n, l[i]? = some n → (vp l)[1 + i]? = some ⟨4, 0, 0, n⟩) ∧ (vp l)[1 + l.length]? = some ⟨27, 0, 0, 1⟩ ∧ (vp l)[2 + l.length]? = some ⟨27, 0, 0, 0⟩ := by
 have h1 : ∀ i : Nat, (vp l)[1 + i]? = (l.map (fun n => (⟨4, 0, 0, n⟩ : Ins)) ++ [⟨27, 0, 0, 1⟩, ⟨27, 0, 0, 0⟩])[i]? := fun i => by
  unfold vp
  rw [List.getElem?_append_right (by show 1 ≤ 1 + i; omega), show 1 + i - ([⟨3, 0, 0, 0⟩] : List Ins).length = i by show 1 + i - 1 = i; omega]
 refine ⟨rfl, fun i n hi => ?_, ?_, ?_⟩
 ·have hl := (List.getElem?_eq_some_iff.1 hi).1
  rw [h1, List.getElem?_append_left (by rw [List.length_map]; exact hl), List.getElem?_map, hi]
  rfl
 ·rw [h1, List.getElem?_append_right (by rw [List.length_map]; exact Nat.le_refl _), List.length_map, Nat.sub_self]
  rfl
 ·rw [show 2 + l.length = 1 + (l.length + 1) by omega, h1, List.getElem?_append_right (by rw [List.length_map]; omega), List.length_map, show l.length + 1 - l.length = 1 by omega]
  rfl
theorem zp3 {l : List Int} (hl : l.length ≤ 12) (h : vo l) : ∃ m, qV (zah ⟨0, yX (vp l), []⟩) 2000 = (m, 0) ∧ m.told = [wW l] := by
 obtain ⟨l0, l1, l2, l3⟩ := zwx l
 have e0 : qV (zah ⟨0, yX (vp l), []⟩) 2000 = wA 2000 ⟨zR, false, 0 + 2 * ((0 : Nat) : Int), -1, ⟨0, yX (vp l), []⟩, [], 0⟩ := by
  unfold qV zah
  rw [if_neg (by decide)]
  rfl
 have e1 : wA 2000 ⟨zR, false, 0 + 2 * ((0 : Nat) : Int), -1, ⟨0, yX (vp l), []⟩, [], 0⟩ = wA 1999 ⟨up zR 0 0, false, 0 + 2 * ((1 : Nat) : Int), -1, ⟨0, yX (vp l), []⟩, [], 0 + 1⟩ :=
  zid (base := 0) (k := 2 * ((0 : Nat) : Int)) (2 * ((1 : Nat) : Int)) rfl (zb5 rfl l0 (by kernel_rfl)) (fun h => absurd h.1 (by decide)) (by kernel_rfl) (ztk _ 0 0 _) rfl
 obtain ⟨r', st', hr, he⟩ := zon (L := vp l) (ss := []) false l 1 (up zR 0 0) (0 + 1) 0 l1 h (by unfold up; rw [if_pos (by decide)]) ⟨by omega, by omega⟩
 obtain ⟨n, hn⟩ : ∃ n, 1999 = (n + 1 + 1) + l.length := ⟨1997 - l.length, by omega⟩
 have e3 : wA (n + 1 + 1) ⟨r', false, 0 + 2 * ((1 + l.length : Nat) : Int), -1, ⟨0, yX (vp l), []⟩, [], st'⟩ = wA (n + 1) ⟨r', false, 0 + 2 * ((2 + l.length : Nat) : Int), -1, ⟨0, yX (vp l), []⟩, [] ++ [r' 0], st' + 1⟩ :=
  zid (base := 0) (k := 2 * ((1 + l.length : Nat) : Int)) (2 * ((2 + l.length : Nat) : Int)) rfl (zb5 rfl l2 (by kernel_rfl)) (fun h => absurd h.2 (by decide)) (by kernel_rfl) (zrw _ _) (by show (0 : Int) + 2 * ((1 + l.length : Nat) : Int) + 2 = 0 + 2 * ((2 + l.length : Nat) : Int); omega)
 rw [e0, e1, hn, he]
 refine ⟨_, e3.trans (zxD (base := 0) (k := 2 * ((2 + l.length : Nat) : Int)) rfl (zb5 rfl l3 (by kernel_rfl)) ⟨rfl, rfl⟩), ?_⟩
 show [] ++ [r' 0] = [wW l]
 rw [hr, List.nil_append, Int.zero_add]
theorem zrB {c : List UInt8} (h2 : c.length ≤ 8000) : wn ⟨c, [], []⟩ = 0 := by
 unfold wn
 dsimp only
 rw [if_neg (by simp only [List.length_nil]; omega), vL, kP]
theorem zlh {c : List UInt8} (hw : wn ⟨c, [], []⟩ = 0) : xU [⟨c, [], []⟩] 0 = (⟨0, c, []⟩, 0, 0) := by
 have hl : lay 0 [⟨c, [], []⟩] 0 0 [] [] = .inr (c, []) := by
  rw [zwr (bs' := c) (ss' := []) (ztj (by decide)) (by rw [zbN]) (by unfold zaf; simp), lay]
 have hf : fix 0 [] [⟨c, [], []⟩] 0 0 c = .inr c := by
  rw [zws (bs' := c) (ztj (by decide)) (by rw [zbO]), fix]
 unfold xU ze2
 rw [if_neg (by omega), if_neg (by show ¬ (1 < 1 ∨ 4 < 1); omega), jd, if_pos hw, jd]
 dsimp only
 rw [hl]
 dsimp only
 rw [hf]
theorem zif (l : List Int) : (yX (vp l)).length = 2 * (l.length + 3) := by
 rw [zdu]
 unfold vp
 rw [List.length_append, List.length_append, List.length_map]
 show 2 * (1 + (l.length + 2)) = _
 omega
theorem zuY (k : Int) : (List.range 201).map (fun j : Nat => (ze7 ⟨k, zaF ((j : Int) - 100)⟩, decide (ww [⟨k, zaF ((j : Int) - 100)⟩] ≤ 10))) = (List.range 201).map fun _ : Nat => (true, true) := by kernel_rfl
theorem zp4 : ∀ (l : List Int) (k : Int), vo l → (∀ x ∈ ke zaF l k, ze7 x = true) ∧ ww (ke zaF l k) ≤ 10 * l.length
 | [], _, _ => ⟨fun x hx => (by cases hx), Nat.le_refl 0⟩
 | n :: l, k, h => by
  obtain ⟨h1, h2⟩ := zp4 l (k + 1) fun m hm => h m (List.mem_cons_of_mem _ hm)
  obtain ⟨j, hj, hn⟩ := zl1 (h n List.mem_cons_self).1 (h n List.mem_cons_self).2
  have h3 := zjv (zuY k) hj
  rw [hn, Prod.mk.injEq] at h3
  have h4 := of_decide_eq_true h3.2
  rw [ww, ww] at h4
  refine ⟨fun x hx => ?_, by rw [ke, ww, List.length_cons]; omega⟩
  rw [ke] at hx
  rcases List.mem_cons.1 hx with rfl | hx
  ·exact h3.1
  ·exact h1 x hx
theorem zoo (p k : Int) {l : List Int} (h : vo l) : (∀ x ∈ zaG p k l, ze7 x = true) ∧ ww (zaG p k l) ≤ 10 * l.length + 30 ∧ (zaG p k l).length = l.length + 3 := by
 obtain ⟨h1, h2⟩ := zp4 l k h
 unfold zaG
 refine ⟨fun x hx => ?_, ?_, ?_⟩
 ·rcases List.mem_append.1 hx with hx | hx
  ·rw [List.mem_singleton.1 hx]; kernel_rfl
  rcases List.mem_append.1 hx with hx | hx
  ·exact h1 x hx
  ·simp only [List.mem_cons, List.not_mem_nil, or_false] at hx
   rcases hx with rfl | rfl <;> kernel_rfl
 ·have e1 : ww [zks p 0 48] = 5 := by kernel_rfl
  have e2 : ww [trL (k + (l.length : Int)) 1, trL (k + (l.length : Int) + 1) 0] = 6 := by kernel_rfl
  rw [zgv, zgv, e1, e2]
  omega
 ·rw [List.length_append, List.length_append, zoj]
  show 1 + (l.length + 2) = _
  omega
theorem zp5 (n : Int) : (zbP n).length = 1 ∨ (zbP n).length = 2 := by
 unfold zbP
 split
 ·exact .inr rfl
 ·exact .inl rfl
theorem zwy (n : Int) : ∀ t ∈ zbP n, qf t = false := by
 unfold zbP
 intro t ht
 split at ht
 ·simp only [List.mem_cons, List.not_mem_nil, or_false] at ht
  rcases ht with rfl | rfl
  ·show decide _ = false; exact decide_eq_false fun h => absurd h.2 (by decide)
  ·show decide _ = false; exact decide_eq_false fun h => absurd (show (2 : Int) = 3 from h.1) (by decide)
 ·rw [List.mem_singleton.1 ht]
  show decide _ = false; exact decide_eq_false fun h => absurd (show (2 : Int) = 3 from h.1) (by decide)
theorem zdU (k n : Int) (r : List zH) (w : List UInt8) (hw : vf w) (hm : zjt ≠ w) (hr : r.length ≤ 1000) : zec (mdM mdR) ⟨k, wT w :: r⟩ :=
 ⟨by show vf w; exact hw, by show (wT w :: r).length ≤ _; rw [List.length_cons]; omega, by show zjt ≠ w; exact hm⟩
theorem zp6 : ∀ (l : List Int) (k : Int), ∀ s ∈ zbQ l k, znZ (mdM mdR) s
 | [], _ => fun s hs => by cases hs
 | n :: l, k => fun s hs => by
  rw [zbQ] at hs
  rcases List.mem_cons.1 hs with rfl | hs
  ·refine ⟨rfl, zp5 n, zwy n, ⟨by show 1 ≤ 100; decide, fun y hy => ?_⟩, fun y hy => ?_⟩
   ·have hy : y ∈ [zrz] := hy
    rw [List.mem_singleton.1 hy]
    exact ⟨List.cons_ne_nil _ _, by show 5 ≤ 100; decide⟩
   ·have hy : y ∈ x2 (mdM mdR) (zbP n) k := hy
    rw [zle, List.mem_singleton] at hy
    subst hy
    exact zdU k n _ zrx (by decide) (by decide) (by rw [List.length_cons, List.length_append]; have := zp5 n; show _ + 2 + 1 ≤ _; omega)
  ·exact zp6 l (k + 1) s hs
theorem zop : ∀ (l : List Int) (k : Int), (zbQ l k).length = l.length
 | [], _ => rfl
 | n :: l, k => by rw [zbQ, List.length_cons, zop l, List.length_cons]
theorem zwz {l : List Int} (hl : l.length ≤ 12) (h : vo l) : NIn mdR (zdT l) := by
 refine ⟨⟨rfl, ⟨by kernel_rfl, by kernel_rfl, by decide, by decide, by decide, by decide⟩, rfl, fun x hx => ?_⟩, by decide, fun s hs => ?_, ?_, ?_, ?_⟩
 ·have hx : x ∈ [zrz] := hx
  rw [List.mem_singleton.1 hx]
  exact ⟨by show vf zrx; decide, by show 5 ≤ _; decide⟩
 ·unfold zdT at hs
  rcases List.mem_cons.1 hs with rfl | hs
  ·exact zdU 4 0 _ [109, 111, 118] (by decide) (by decide) (by show 4 ≤ _; decide)
  rcases List.mem_append.1 hs with hs | hs
  ·exact zp6 l 5 s hs
  ·simp only [List.mem_cons, List.not_mem_nil, or_false] at hs
   rcases hs with rfl | rfl <;> exact zdU _ 0 _ [116, 114, 97, 112, 97] (by decide) (by decide) (by show 2 ≤ _; decide)
 ·show 1 + (zdT l).length ≤ _
  unfold zdT
  rw [List.length_cons, List.length_append, zop]
  show 1 + (l.length + 2 + 1) ≤ _
  omega
 ·rw [zjA, (zoo 4 5 h).2.2]; omega
 ·unfold zdT
  rw [vE, zoh, (zoi l 5).2]
  show 1 + (2 * l.length + (1 + (1 + 0))) ≤ _
  omega
abbrev UN : Src → Prop := fun x => ∃ r l, NB x.1 r l ∧ x9 [] (xD (mdM r) l) = (x.2, 0, 0)
theorem zlN : zl0 UN := by
 refine ziX zrm ?_
 rintro av L d L' ⟨x, ⟨r, l, h1, h2⟩, h3, h4, h5⟩
 refine ⟨(x.1, r, l), h1, h3, h4, h5.1.trans ?_, h5.2⟩
 dsimp only
 rw [h2]
 rfl
theorem zp7 {l : List Int} (hl : l.length ≤ 12) : zn9 ⟨yX (vp l), [], []⟩ := ⟨zrB (by rw [zif]; omega), fun r hr => (by cases hr), fun r hr => (by cases hr)⟩
theorem zwA {l : List Int} (hl : l.length ≤ 12) (h : vo l) : ∃ o img m, zjs UN [(zdS l, o)] 0 img m 0 ∧ m.told = [wW l] := by
 obtain ⟨m, hm, ht⟩ := zp3 hl h
 have hb := zp7 hl
 obtain ⟨s1, s2⟩ := zto hl h
 obtain ⟨o1, o2, o3⟩ := zoo 4 5 h
 refine ⟨⟨yX (vp l), [], []⟩, _, m, ⟨by show 1 ≤ 4; decide, fun x hx => ?_, ⟨by decide, by decide⟩, zlh hb.right, rfl, by show (yX (vp l)).length ≤ _; rw [zif]; omega, by show 0 ≤ _; decide, hm⟩, ht⟩
 rw [List.mem_singleton.1 hx]
 refine ⟨⟨mdR, zdT l, ⟨by show (zdS l).length ≤ _; omega, s2, zwz hl h, by rw [zjA]; omega, fun x hx => ?_⟩, by rw [zjA]; exact zp0 4 5 hl h⟩, hb⟩
 rw [zjA] at hx
 exact (ze9 (o1 x hx)).2.2
theorem zwB {l : List Int} (hl : l.length ≤ 12) (h : vo l) : ∃ o img m, zjs UP [(zcN l, o)] 0 img m 0 ∧ m.told = [wW l] := by
 obtain ⟨m, hm, ht⟩ := zp3 hl h
 have hb := zp7 hl
 obtain ⟨s1, s2⟩ := ztp hl h
 obtain ⟨o1, o2, o3⟩ := zoo 1 2 h
 refine ⟨⟨yX (vp l), [], []⟩, _, m, ⟨by show 1 ≤ 4; decide, fun x hx => ?_, ⟨by decide, by decide⟩, zlh hb.right, rfl, by show (yX (vp l)).length ≤ _; rw [zif]; omega, by show 0 ≤ _; decide, hm⟩, ht⟩
 rw [List.mem_singleton.1 hx]
 refine ⟨⟨⟨by show (zcN l).length ≤ _; omega, ?_, ?_, ?_⟩, ?_⟩, hb⟩
 ·rw [s2]; exact ⟨by show (zaG 1 2 l).length ≤ _; rw [o3]; omega, fun x hx => ⟨(ze9 (o1 x hx)).1, (ze9 (o1 x hx)).2.1⟩⟩
 ·rw [s2]; show ww (zaG 1 2 l) ≤ _; omega
 ·rw [s2]; exact fun x hx => (ze9 (o1 x hx)).2.2
 ·show jn (zcN l) = _
  unfold jn
  rw [s2, if_neg (fun h => h rfl)]
  exact zp0 1 2 hl h
end Go.Proofs.YtnkdeacghopkiaaGreatDoor
namespace Go.Proofs.YtnkdeacghopkiaaGreatDoor
open Go Go.Plat
set_option linter.unusedVariables false
set_option linter.unusedSimpArgs false
set_option maxRecDepth 100000
set_option maxHeartbeats 2000000
attribute [local irreducible] AWP zA yh zE zn yu z6 zF zX Lib.itoa zY zq za zL yv zo zZ yq yr yj ym zr zu zz xA zcL zcM zah qV ze6 wW
theorem zwC {l : List Int} {k : Nat} {n : Int} (h : vo (l.take k)) (hn : l[k]? = some n) (h0 : -100 ≤ n) (h1 : n ≤ 100) : l.take (k + 1) = l.take k ++ [n] ∧ vo (l.take (k + 1)) := by
 have htk : l.take (k + 1) = l.take k ++ [n] := by rw [List.take_add_one, hn]; rfl
 refine ⟨htk, fun x hx => ?_⟩
 rw [htk] at hx
 rcases List.mem_append.1 hx with hx | hx
 ·exact h x hx
 ·rw [List.mem_singleton.1 hx]; exact ⟨h0, h1⟩
theorem zku : za Tryz.prog wI (zx (fun l : List Int => l.length ≤ 100000000 ∧ ∀ n ∈ l, -9223372036854775808 ≤ n ∧ n ≤ 9223372036854775807) (fun l => [.sl 1 (l.map (.int .i64)) none]) fun _ => .bool true) := by
 refine zf zj Tryz.func4 rfl (by decide) ?_
 rintro l ⟨hl, hi⟩
 refine ⟨Nat.le_refl _, by simp [Tryz.f4], fun E hE => ?_⟩
 refine ze _ ?_
 (all_goals refine qgp ?_ <;> (repeat' first | exact trivial | intro hc | refine And.intro ?_ ?_) <;> refine Lf.mk ?_)
 refine zb zol () trivial (VS.mk (LeL.of_eq rfl)) ?_
 (all_goals refine qgp ?_ <;> (repeat' first | exact trivial | intro hc | refine And.intro ?_ ?_) <;> refine Lf.mk ?_)
 (any_goals (first | (exfalso; refine Bool.false_ne_true ?_; assumption) | (exfalso; refine Bool.false_ne_true (Eq.symm ?_); assumption) | (exfalso; refine absurd trivial ?_; assumption) | skip))
 ·exact zd (VS.mk (LeD.tt rfl))
 have h0 : xA zdQ [] = [] ∧ xA zaS [] = [] := by rw [xA, xA]; exact ⟨rfl, rfl⟩
 refine ye (α := Nat) (fun k => k ≤ l.length ∧ vo (l.take k)) (fun k => [(0, .sl 1 (l.map (.int .i64)) none), (18, .sl 1 (l.map (.int .i64)) none), (19, .int .i64 l.length), (20, .int .i64 k), (3, .str (zcL ++ xA zdQ (l.take k))), (4, .str (zcM ++ xA zaS (l.take k))), (5, .int .i64 (wW (l.take k)))]) (fun _ => []) (fun k => l.length - k) (fun _ => by simp [hE]) 0
  ⟨Nat.zero_le _, fun x hx => by simp at hx⟩ ?_ ?_
 ·rw [List.take_zero, h0.1, h0.2, show wW [] = 0 by rw [wW], List.append_nil, List.append_nil]
  unfold zcL zcM
  (repeat' (first | (refine VS.mk ?_) | exact trivial | exact rfl | refine And.intro ?_ ?_))
 rintro k ⟨hk, hb⟩
 have hk : k ≤ l.length := hk
 have hla := zbx zof _ hb
 have hlb := zbx zoe _ hb
 have hlt : (l.take k).length ≤ k := by rw [List.length_take]; omega
 have hsb := zp2 _ hb
 have hma : (zcL ++ xA zdQ (l.take k)).length ≤ 340 := by rw [List.length_append, show zcL.length = 40 by unfold zcL; rfl]; omega
 have hmb : (zcM ++ xA zaS (l.take k)).length ≤ 340 := by rw [List.length_append, show zcM.length = 10 by unfold zcM; rfl]; omega
 refine ze _ ?_
 (all_goals refine qgp ?_ <;> (repeat' first | exact trivial | intro hc | refine And.intro ?_ ?_) <;> refine Lf.mk ?_)
 ·obtain ⟨n, hn⟩ := yf (l := l) (k := k) (by omega)
  have hni := hi n (List.mem_of_getElem? hn)
  refine zk n (by omega) (by simpa using hn) ?_
  (all_goals refine qgp ?_ <;> (repeat' first | exact trivial | intro hc | refine And.intro ?_ ?_) <;> refine Lf.mk ?_)
  ·exact zd (VS.mk (LeD.tt rfl))
  ·exact zd (VS.mk (LeD.tt rfl))
  obtain ⟨htk, hin'⟩ := zwC hb hn (by omega) (by omega)
  have hsn := zwv n
  have hst : wW (l.take (k + 1)) = wW (l.take k) + n := by
   rw [htk, zom, wW, wW]
   omega
  refine jM 340 5 hma (by decide) (by decide) fun y1 e1 l1 => ?_
  (all_goals refine qgp ?_ <;> (repeat' first | exact trivial | intro hc | refine And.intro ?_ ?_) <;> refine Lf.mk ?_)
  refine zb zeS n hni (VS.mk (LeL.of_eq rfl)) ?_
  rw [zob (by omega) (by omega)]
  (all_goals refine qgp ?_ <;> (repeat' first | exact trivial | intro hc | refine And.intro ?_ ?_) <;> refine Lf.mk ?_)
  refine jM 345 4 l1 hsn (by decide) fun y2 e2 l2 => ?_
  (all_goals refine qgp ?_ <;> (repeat' first | exact trivial | intro hc | refine And.intro ?_ ?_) <;> refine Lf.mk ?_)
  refine jM 349 1 l2 (by decide) (by decide) fun y3 e3 l3 => ?_
  (all_goals refine qgp ?_ <;> (repeat' first | exact trivial | intro hc | refine And.intro ?_ ?_) <;> refine Lf.mk ?_)
  refine jM 340 5 hmb (by decide) (by decide) fun z1 f1 k1 => ?_
  (all_goals refine qgp ?_ <;> (repeat' first | exact trivial | intro hc | refine And.intro ?_ ?_) <;> refine Lf.mk ?_)
  refine zb zeS n hni (VS.mk (LeL.of_eq rfl)) ?_
  rw [zob (by omega) (by omega)]
  (all_goals refine qgp ?_ <;> (repeat' first | exact trivial | intro hc | refine And.intro ?_ ?_) <;> refine Lf.mk ?_)
  refine jM 345 4 k1 hsn (by decide) fun z2 f2 k2 => ?_
  (all_goals refine qgp ?_ <;> (repeat' first | exact trivial | intro hc | refine And.intro ?_ ?_) <;> refine Lf.mk ?_)
  refine jM 349 4 k2 (by decide) (by decide) fun z3 f3 k3 => ?_
  (all_goals refine qgp ?_ <;> (repeat' first | exact trivial | intro hc | refine And.intro ?_ ?_) <;> refine Lf.mk ?_)
  refine zB (k + 1) ⟨by omega, hin'⟩ (by omega) ?_
  rw [hst, show zcL ++ xA zdQ (l.take (k + 1)) = y3 by subst e3; subst e2; subst e1; rw [htk, ze8]; unfold zdQ; simp, show zcM ++ xA zaS (l.take (k + 1)) = z3 by subst f3; subst f2; subst f1; rw [htk, ze8]; unfold zaS; simp]
  (repeat' (first | (refine VS.mk ?_) | exact trivial | exact rfl | refine And.intro ?_ ?_))
 ·have hk2 : k = l.length := by omega
  rw [hk2, List.take_length] at hb hsb hma hmb ⊢
  obtain ⟨o, img, m, hrun, hto⟩ := zwA (l := l) (by omega) hb
  obtain ⟨o2, img2, m2, hrun2, hto2⟩ := zwB (l := l) (by omega) hb
  have hm1 : zdS l = (zcL ++ xA zdQ l) ++ [116, 114, 97, 112, 97, 32, 35, 49, 10, 116, 114, 97, 112, 97, 32, 35, 48, 10] := rfl
  have hm2 : zcN l = (zcM ++ xA zaS l) ++ [116, 114, 97, 112, 97, 32, 35, 49, 10, 116, 114, 97, 112, 97, 32, 35, 48, 10] := rfl
  refine jM 340 18 hma (by decide) (by decide) fun y1 e1 l1 => ?_
  (all_goals refine qgp ?_ <;> (repeat' first | exact trivial | intro hc | refine And.intro ?_ ?_) <;> refine Lf.mk ?_)
  refine zb (ze5 zlN) ([(zdS l, o)], 0, img, m, 0) hrun (VS.mk (LeL.of_eq (by rw [e1, ← hm1]; rfl))) ?_
  dsimp only
  rw [hto]
  (all_goals refine qgp ?_ <;> (repeat' first | exact trivial | intro hc | refine And.intro ?_ ?_) <;> refine Lf.mk ?_)
  refine jM 340 18 hmb (by decide) (by decide) fun z1 f1 k1 => ?_
  (all_goals refine qgp ?_ <;> (repeat' first | exact trivial | intro hc | refine And.intro ?_ ?_) <;> refine Lf.mk ?_)
  refine zb (ze5 zfg) ([(zcN l, o2)], 0, img2, m2, 0) hrun2 (VS.mk (LeL.of_eq (by rw [f1, ← hm2]; rfl))) ?_
  dsimp only
  rw [hto2]
  (all_goals refine qgp ?_ <;> (repeat' first | exact trivial | intro hc | refine And.intro ?_ ?_) <;> refine Lf.mk ?_)
  all_goals first
   | exact zd (VS.mk (LeD.of_eq (congrArg D.bool (beq_self_eq_true _))))
   | exact absurd trivial hc
   | skip
end Go.Proofs.YtnkdeacghopkiaaGreatDoor
namespace Go.Proofs.YtnkdeacghopkiaaGreatDoor
open Go Go.Plat
set_option linter.unusedVariables false
set_option linter.unusedSimpArgs false
set_option maxRecDepth 100000
set_option maxHeartbeats 2000000
attribute [local irreducible] AWP zA yh zE zn yu z6 zF zX zY zq za zL yv zo zZ yq yr yj ym zr zu zz
theorem own : ownKnob Tryz.prog.godebug = none := by kernel_rfl
theorem zxG {H : Type} (d : DataW H) : 1 ≤ Rows.uptoBulk d := by
 cases d with
 | lit l => cases l <;> simp [Rows.uptoBulk]
 | nil => simp [Rows.uptoBulk]
 | ptr d => simp [Rows.uptoBulk]
 | slice el sp => simp [Rows.uptoBulk]
 | agg ps => simp [Rows.uptoBulk]
 | iface t d => simp [Rows.uptoBulk]
 | map es => simp [Rows.uptoBulk]
 | held h => simp [Rows.uptoBulk]
theorem length_le {H : Type} (l : List (DataW H)) : l.length ≤ Rows.uptoBulkAll l := by
 induction l with
 | nil => simp [Rows.uptoBulkAll]
 | cons x r ih => have := zxG x; simp only [Rows.uptoBulkAll, List.length_cons]; omega
theorem zts {H : Type} (d : DataW H) : Rows.uptoBulkAll (v7 d) ≤ Rows.uptoBulk d := by
 cases d <;> simp only [v7, Rows.uptoBulk, Rows.uptoBulkAll] <;> omega
theorem zuZ {H : Type} (d : DataW H) : (v7 d).length ≤ Rows.uptoBulk d := Nat.le_trans (length_le _) (zts d)
theorem zx8 {H : Type} {l : List (DataW H)} (hk : Rows.uptoSmall H l = true) : Rows.uptoBulkAll l ≤ 1048576 := of_decide_eq_true hk
end Go.Proofs.YtnkdeacghopkiaaGreatDoor
namespace Go.Plat
open Go
set_option linter.unusedVariables false
set_option linter.unusedSimpArgs false
abbrev zl3 (w : World) (F : Nat → Nat → Prop) (g : Nat) (cs : List D) : Prop := zD w F (.ptr cs) (.pointer (some ⟨g, 0, none⟩)) ∧
 (∀ off, ¬ F g off) ∧ (∃ row t z, w.heap[g]? = some (.cells row t z) ∧ (row.size = cs.length ∨ cs = [.any])) ∧
 (cs = [.any] → ∃ u v, w.cell? ⟨g, 0, none⟩ = some (.iface u v))
def zrC (w : World) (F : Nat → Nat → Prop) (l : List (Nat × Nat × List Nat)) : Prop := ∀ g cs, zed l g = some cs → zl3 w F g cs
theorem zu0 {w : World} {F : Nat → Nat → Prop} : zrC w F [] := fun g cs h => by cases h
theorem zby {w : World} {F : Nat → Nat → Prop} {h k : Nat} {ns : List Nat} {r : List (Nat × Nat × List Nat)} (hf : zl3 w F h (zu2 k ns)) (hr : zrC w F r) : zrC w F ((h, k, ns) :: r) := by
 intro g cs hg
 rw [zed] at hg
 cases hb : Nat.beq h g with
 | false => rw [hb] at hg; exact hr g cs hg
 | true =>
  rw [hb] at hg
  have e := Nat.eq_of_beq_eq_true hb
  subst e
  cases hg
  exact hf
theorem zrD {P : Program} {w : World} {name : String} {g : Nat} {k : IntKind} {zs : List Int} {ns : List Nat} (hn : P.globalNamed name = some g) (h : Lib.TabIs P w name k zs)
  (hz : zs = ns.map fun n : Nat => (n : Int)) : zl3 w F0 g (ns.map fun n => D.int k (n : Nat)) := by
 have hc := fun i hi => h.cell hn i hi
 refine ⟨.ptr _ _ _ (fun j => .int k (zs.getD j 0)) (fun j c hj => ⟨?_, fun f => f⟩) (fun j c hj => ?_), fun off f => f, ?_, fun e => absurd e (fun e => ?_)⟩
 ·have hjl : j < ns.length := by
   have := (List.getElem?_eq_some_iff.1 hj).1
   simpa using this
  rw [Nat.zero_add]
  exact hc j (by rw [hz]; simpa using hjl)
 ·have hjl : j < ns.length := by
   have := (List.getElem?_eq_some_iff.1 hj).1
   simpa using this
  rw [List.getElem?_map, List.getElem?_eq_getElem hjl] at hj
  cases hj
  have : zs.getD j 0 = (ns[j] : Int) := by
   rw [hz, List.getD_eq_getElem?_getD, List.getElem?_map, List.getElem?_eq_getElem hjl]; rfl
  dsimp only
  rw [this]
  exact .int _ _
 ·unfold Lib.TabIs World.var? at h
  rw [hn] at h
  dsimp only [Option.bind_some] at h
  split at h
  ·rename_i cs t z hh
   cases h
   exact ⟨_, _, _, hh, .inl (by rw [hz]; simp)⟩
  ·cases h
 ·match ns, e with
  | [], e => cases e
  | n :: r, e => cases (List.cons.inj e).1
theorem zdV {P : Program} {W : World} {name : String} {k : IntKind} {zs : List Int} {rest : List (String × DataW Unit)} {g : Nat} {t e : TypeId} {n : Nat} {ps : List MemPlace} {d : DataW Unit}
  (hg : P.globalNamed name = some g) (hty : (P.globals[g]?).map (·.type) = some t) (ht : P.underlying t = some (.array n e)) (he : P.underlying e = some (.int k)) (hce : P.cellsOf e = 1) (hct : P.cellsOf t = n)
  (hd : d = Lib.tabData k zs) (h : DataW.LaidVars P W ((name, d) :: rest) ps) : Lib.TabIs P W name k zs ∧ ∃ q, DataW.LaidVars P W rest q := by
 subst hd
 obtain ⟨g', t', cs, fuel, p, q, hg', ht', hvar, hd, hr, _⟩ := h
 obtain rfl := Option.some.inj (hg.symm.trans hg')
 obtain rfl := Option.some.inj (hty.symm.trans ht')
 refine ⟨?_, q, hr⟩
 unfold Lib.TabIs
 rw [hvar, ← Lib.cells_of_tab ht he hce hct hd]
theorem ztt {P : Program} {W : World} {x : String × DataW Unit} {rest : List (String × DataW Unit)} {ps : List MemPlace} (h : DataW.LaidVars P W (x :: rest) ps) : ∃ q, DataW.LaidVars P W rest q := by
 obtain ⟨g', t', cs, fuel, p, q, hg', ht', hvar, hd, hr, _⟩ := h
 exact ⟨q, hr⟩
def zyl : DataW Unit → Bool
 | .iface _ _ => true
 | _ => false
theorem zfh {P : Program} {W : World} {name : String} {rest : List (String × DataW Unit)} {g : Nat} {t : TypeId} {ps : List MemPlace} {d : DataW Unit}
  (hg : P.globalNamed name = some g) (hty : (P.globals[g]?).map (·.type) = some t) (ht : ((P.underlying t).map fun | .interface _ => true | _ => false) = some true)
  (hd : zyl d = true) (h : DataW.LaidVars P W ((name, d) :: rest) ps) : zl3 W F0 g [.any] ∧ ∃ q, DataW.LaidVars P W rest q := by
 obtain ⟨g', t', cs, fuel, p, q, hg', ht', hvar, htr, hr, _⟩ := h
 obtain rfl := Option.some.inj (hg.symm.trans hg')
 obtain rfl := Option.some.inj (hty.symm.trans ht')
 refine ⟨?_, q, hr⟩
 cases d with
 | iface n x =>
  have hrow : ∃ u v, cs.toList = [Value.iface u v] := by
   cases fuel with
   | zero => simp [DataW.trod] at htr
   | succ fuel =>
    cases hun : P.underlying t with
    | none => rw [hun] at ht; cases ht
    | some dd =>
     rw [hun] at ht
     cases dd with
     | interface ms =>
      generalize cs.toList = l at htr
      unfold DataW.trod at htr
      rw [hun] at htr
      match l, htr with
      | [], htr => cases htr
      | [.nilIface], htr => cases htr
      | [.iface u v], htr => exact ⟨u, v, rfl⟩
      | a :: b :: r, htr => cases a <;> cases htr
      | [.bool _], htr | [.int _ _], htr | [.float _ _], htr | [.string _], htr | [.pointer _], htr | [.slice _ _ _], htr | [.map _], htr | [.chan _], htr | [.func _ _ _], htr | [.nilFunc], htr | [.agg _], htr | [.tuple _], htr => cases htr
     | _ => cases ht
  obtain ⟨u, v, hv⟩ := hrow
  have hcs : cs = #[Value.iface u v] := by
   apply Array.ext'
   rw [hv]
  subst hcs
  unfold World.var? at hvar
  rw [hg] at hvar
  dsimp only [Option.bind_some] at hvar
  split at hvar
  ·rename_i cs t z hh
   cases hvar
   have hcell : W.cell? ⟨g, 0, none⟩ = some (.iface u v) := by simp only [World.cell?, hh]; rfl
   refine ⟨.ptr _ _ _ (fun _ => .iface u v) (fun j c hj => ?_) (fun j c hj => ?_), fun off f => f, ⟨_, _, _, hh, .inl rfl⟩, fun _ => ⟨u, v, hcell⟩⟩
   ·cases j with
    | zero => exact ⟨hcell, fun f => f⟩
    | succ j => simp at hj
   ·cases j with
    | zero =>
     simp at hj
     subst hj
     exact .any _
    | succ j => simp at hj
  ·cases hvar
 | _ => cases hd
end Go.Plat
namespace Go.Proofs.YtnkdeacghopkiaaGreatDoor
open Go Go.Plat
set_option linter.unusedVariables false
set_option linter.unusedSimpArgs false
set_option maxRecDepth 100000
set_option maxHeartbeats 2000000
open Go.ChangeShapes Go.WideShapes Go.ChangeAt Go.RowKit
attribute [local irreducible] AWP zA yh zE zn yu z6 zF zX zY zq za zL yv zo zZ yq yr yj ym zr zu zz
theorem zu1 {W : World} (h : laidMetH Tryz.prog Rows.fairDeadUptoRow.laid W) : GOk W F0 := by
 rw [MakeChecks.laidMetH_plain _ _ _ (by kernel_rfl)] at h
 obtain ⟨ps, h, _⟩ := h
 obtain ⟨h1, q1, h⟩ := zdV (k := .u8) (zs := [0, 1, 28, 2, 29, 14, 24, 3, 30, 22, 20, 15, 25, 17, 4, 8, 31, 27, 13, 23, 21, 19, 16, 7, 26, 12, 18, 6, 11, 5, 10, 9]) (g := 1) (t := 235) (e := 5) (n := 32) (by kernel_rfl) (by kernel_rfl) (by kernel_rfl) (by kernel_rfl) (by kernel_rfl) (by kernel_rfl) (by kernel_rfl) h
 obtain ⟨h2, q2, h⟩ := zdV (k := .u8) (zs := [0, 1, 56, 2, 57, 49, 28, 3, 61, 58, 42, 50, 38, 29, 17, 4, 62, 47, 59, 36, 45, 43, 51, 22, 53, 39, 33, 30, 24, 18, 12, 5, 63, 55, 48, 27, 60, 41, 37, 16, 46, 35, 44, 21, 52, 32, 23, 11, 54, 26, 40, 15, 34, 20, 31, 10, 25, 14, 19, 9, 13, 8, 7, 6]) (g := 2) (t := 236) (e := 5) (n := 64) (by kernel_rfl) (by kernel_rfl) (by kernel_rfl) (by kernel_rfl) (by kernel_rfl) (by kernel_rfl) (by kernel_rfl) h
 obtain ⟨h3, q3, h⟩ := zdV (k := .u64) (zs := Lib.pow10Tab) (g := 0) (t := 158) (e := 132) (n := 20) (by kernel_rfl) (by kernel_rfl) (by kernel_rfl) (by kernel_rfl) (by kernel_rfl) (by kernel_rfl) (by kernel_rfl) h
 obtain ⟨q4, h⟩ := ztt h
 obtain ⟨h5, q5, h⟩ := zfh (g := 7) (t := 240) (by kernel_rfl) (by kernel_rfl) (by kernel_rfl) rfl h
 obtain ⟨h6, q6, h⟩ := zfh (g := 6) (t := 240) (by kernel_rfl) (by kernel_rfl) (by kernel_rfl) rfl h
 show zrC W F0 zgw
 unfold zgw
 exact zby (zrD (k := .u64) (by kernel_rfl) h3 (by kernel_rfl)) (zby (zrD (k := .u8) (by kernel_rfl) h1 (by kernel_rfl)) (zby (zrD (k := .u8) (by kernel_rfl) h2 (by kernel_rfl)) (zby h6 (zby h5 zu0))))
end Go.Proofs.YtnkdeacghopkiaaGreatDoor
