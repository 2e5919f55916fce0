/-
  A part of the proof: what the given program's functions answer, each once; conditions that are enough for it.
-/
import Derived.Test.YtholdembikenfaaDoorProg
import Derived.KernelRfl
import Derived.Test.YtholdembikenfaaDoorFw3
import Derived.Test.YtholdembikenfaaDoorFw4
import Derived.Test.YtholdembikenfaaDoorRows
import Derived.WalkKit
import Derived.ProofKit
import Derived.OpenShut
import Derived.JoinedCond
/-
  The types' table and the functions' numbers of this seat; printed by a program.
-/
namespace Go.Proofs.YtholdembikenfaaDoor
open Go Go.Plat
set_option maxRecDepth 100000

theorem TIOk.of {P : Program} {t : Nat} {i : TI} (h1 : (P.underlying t).map tdOf = some i.d) (h2 : (P.info? t).map (fun x => (x.size, x.bytes, x.zero)) = some (i.size, i.bytes, some i.zero)) (h3 : Nat.beq i.size 0 = false) (h3b : Nat.beq i.bytes 0 = false) (h4 : Nat.beq i.zero.cells.size i.size = true)
    (h5 : (match P.underlying t with | some (.struct fs) => fs.toList.all fun f => (P.info? f.type).isSome | _ => true) = true) : TIOk P t i where
  under := by
    cases h : P.underlying t with
    | none => rw [h] at h1; cases h1
    | some d => rw [h] at h1; exact ⟨d, rfl, by simpa using h1⟩
  info := by
    cases h : P.info? t with
    | none => rw [h] at h2; cases h2
    | some x => rw [h] at h2; simp at h2; exact ⟨x, rfl, h2.1, h2.2.1, h2.2.2⟩
  pos := by intro h; rw [h] at h3; simp at h3
  bpos := by intro h; rw [h] at h3b; simp at h3b
  szero := Nat.eq_of_beq_eq_true h4
  fin := h5

theorem tk3 : TIOk Tryd.prog 3 ⟨(.int .i64), 1, 8, (.int .i64 0)⟩ := TIOk.of (by kernel_rfl) (by kernel_rfl) rfl rfl (by kernel_rfl) (by kernel_rfl)
theorem tk4 : TIOk Tryd.prog 4 ⟨.bool, 1, 1, (.bool false)⟩ := TIOk.of (by kernel_rfl) (by kernel_rfl) rfl rfl (by kernel_rfl) (by kernel_rfl)
theorem tk5 : TIOk Tryd.prog 5 ⟨(.int .u8), 1, 1, (.int .u8 0)⟩ := TIOk.of (by kernel_rfl) (by kernel_rfl) rfl rfl (by kernel_rfl) (by kernel_rfl)
theorem tk9 : TIOk Tryd.prog 9 ⟨.str, 1, 16, (.string ⟨#[]⟩)⟩ := TIOk.of (by kernel_rfl) (by kernel_rfl) rfl rfl (by kernel_rfl) (by kernel_rfl)
theorem tk22 : TIOk Tryd.prog 22 ⟨(.slice 5), 1, 24, (.slice none 0 0)⟩ := TIOk.of (by kernel_rfl) (by kernel_rfl) rfl rfl (by kernel_rfl) (by kernel_rfl)
theorem tk2 : TIOk Tryd.prog 2 ⟨(.int .i64), 1, 8, (.int .i64 0)⟩ := TIOk.of (by kernel_rfl) (by kernel_rfl) rfl rfl (by kernel_rfl) (by kernel_rfl)
theorem tk12 : TIOk Tryd.prog 12 ⟨(.int .u64), 1, 8, (.int .u64 0)⟩ := TIOk.of (by kernel_rfl) (by kernel_rfl) rfl rfl (by kernel_rfl) (by kernel_rfl)
theorem tk20 : TIOk Tryd.prog 20 ⟨.iface, 1, 16, .nilIface⟩ := TIOk.of (by kernel_rfl) (by kernel_rfl) rfl rfl (by kernel_rfl) (by kernel_rfl)
theorem tk21 : TIOk Tryd.prog 21 ⟨(.int .i32), 1, 4, (.int .i32 0)⟩ := TIOk.of (by kernel_rfl) (by kernel_rfl) rfl rfl (by kernel_rfl) (by kernel_rfl)
theorem tk24 : TIOk Tryd.prog 24 ⟨(.slice 89), 1, 24, (.slice none 0 0)⟩ := TIOk.of (by kernel_rfl) (by kernel_rfl) rfl rfl (by kernel_rfl) (by kernel_rfl)
theorem tk25 : TIOk Tryd.prog 25 ⟨(.slice 91), 1, 24, (.slice none 0 0)⟩ := TIOk.of (by kernel_rfl) (by kernel_rfl) rfl rfl (by kernel_rfl) (by kernel_rfl)
theorem tk26 : TIOk Tryd.prog 26 ⟨(.struct [(0, 22), (1, 24), (2, 25)]), 3, 72, (.agg #[(.slice none 0 0), (.slice none 0 0), (.slice none 0 0)])⟩ := TIOk.of (by kernel_rfl) (by kernel_rfl) rfl rfl (by kernel_rfl) (by kernel_rfl)
theorem tk27 : TIOk Tryd.prog 27 ⟨(.struct [(0, 22), (1, 24), (2, 25)]), 3, 72, (.agg #[(.slice none 0 0), (.slice none 0 0), (.slice none 0 0)])⟩ := TIOk.of (by kernel_rfl) (by kernel_rfl) rfl rfl (by kernel_rfl) (by kernel_rfl)
theorem tk28 : TIOk Tryd.prog 28 ⟨(.int .i64), 1, 8, (.int .i64 0)⟩ := TIOk.of (by kernel_rfl) (by kernel_rfl) rfl rfl (by kernel_rfl) (by kernel_rfl)
theorem tk29 : TIOk Tryd.prog 29 ⟨(.struct [(0, 28), (1, 3)]), 2, 16, (.agg #[(.int .i64 0), (.int .i64 0)])⟩ := TIOk.of (by kernel_rfl) (by kernel_rfl) rfl rfl (by kernel_rfl) (by kernel_rfl)
theorem tk30 : TIOk Tryd.prog 30 ⟨(.struct [(0, 28), (1, 3)]), 2, 16, (.agg #[(.int .i64 0), (.int .i64 0)])⟩ := TIOk.of (by kernel_rfl) (by kernel_rfl) rfl rfl (by kernel_rfl) (by kernel_rfl)
theorem tk39 : TIOk Tryd.prog 39 ⟨(.slice 68), 1, 24, (.slice none 0 0)⟩ := TIOk.of (by kernel_rfl) (by kernel_rfl) rfl rfl (by kernel_rfl) (by kernel_rfl)
theorem tk40 : TIOk Tryd.prog 40 ⟨(.slice 55), 1, 24, (.slice none 0 0)⟩ := TIOk.of (by kernel_rfl) (by kernel_rfl) rfl rfl (by kernel_rfl) (by kernel_rfl)
theorem tk41 : TIOk Tryd.prog 41 ⟨(.slice 43), 1, 24, (.slice none 0 0)⟩ := TIOk.of (by kernel_rfl) (by kernel_rfl) rfl rfl (by kernel_rfl) (by kernel_rfl)
theorem tk42 : TIOk Tryd.prog 42 ⟨(.struct [(0, 3), (1, 3), (2, 9), (3, 41)]), 4, 56, (.agg #[(.int .i64 0), (.int .i64 0), (.string ⟨#[]⟩), (.slice none 0 0)])⟩ := TIOk.of (by kernel_rfl) (by kernel_rfl) rfl rfl (by kernel_rfl) (by kernel_rfl)
theorem tk43 : TIOk Tryd.prog 43 ⟨(.struct [(0, 3), (1, 3), (2, 9), (3, 41)]), 4, 56, (.agg #[(.int .i64 0), (.int .i64 0), (.string ⟨#[]⟩), (.slice none 0 0)])⟩ := TIOk.of (by kernel_rfl) (by kernel_rfl) rfl rfl (by kernel_rfl) (by kernel_rfl)
theorem tk49 : TIOk Tryd.prog 49 ⟨(.struct [(0, 9), (1, 3)]), 2, 24, (.agg #[(.string ⟨#[]⟩), (.int .i64 0)])⟩ := TIOk.of (by kernel_rfl) (by kernel_rfl) rfl rfl (by kernel_rfl) (by kernel_rfl)
theorem tk50 : TIOk Tryd.prog 50 ⟨(.struct [(0, 9), (1, 3)]), 2, 24, (.agg #[(.string ⟨#[]⟩), (.int .i64 0)])⟩ := TIOk.of (by kernel_rfl) (by kernel_rfl) rfl rfl (by kernel_rfl) (by kernel_rfl)
theorem tk55 : TIOk Tryd.prog 55 ⟨(.struct [(0, 9), (1, 3)]), 2, 24, (.agg #[(.string ⟨#[]⟩), (.int .i64 0)])⟩ := TIOk.of (by kernel_rfl) (by kernel_rfl) rfl rfl (by kernel_rfl) (by kernel_rfl)
theorem tk58 : TIOk Tryd.prog 58 ⟨(.slice 63), 1, 24, (.slice none 0 0)⟩ := TIOk.of (by kernel_rfl) (by kernel_rfl) rfl rfl (by kernel_rfl) (by kernel_rfl)
theorem tk62 : TIOk Tryd.prog 62 ⟨(.struct [(0, 3), (1, 39)]), 2, 32, (.agg #[(.int .i64 0), (.slice none 0 0)])⟩ := TIOk.of (by kernel_rfl) (by kernel_rfl) rfl rfl (by kernel_rfl) (by kernel_rfl)
theorem tk63 : TIOk Tryd.prog 63 ⟨(.struct [(0, 3), (1, 39)]), 2, 32, (.agg #[(.int .i64 0), (.slice none 0 0)])⟩ := TIOk.of (by kernel_rfl) (by kernel_rfl) rfl rfl (by kernel_rfl) (by kernel_rfl)
theorem tk64 : TIOk Tryd.prog 64 ⟨(.slice 9), 1, 24, (.slice none 0 0)⟩ := TIOk.of (by kernel_rfl) (by kernel_rfl) rfl rfl (by kernel_rfl) (by kernel_rfl)
theorem tk67 : TIOk Tryd.prog 67 ⟨(.struct [(0, 3), (1, 3), (2, 9)]), 3, 32, (.agg #[(.int .i64 0), (.int .i64 0), (.string ⟨#[]⟩)])⟩ := TIOk.of (by kernel_rfl) (by kernel_rfl) rfl rfl (by kernel_rfl) (by kernel_rfl)
theorem tk68 : TIOk Tryd.prog 68 ⟨(.struct [(0, 3), (1, 3), (2, 9)]), 3, 32, (.agg #[(.int .i64 0), (.int .i64 0), (.string ⟨#[]⟩)])⟩ := TIOk.of (by kernel_rfl) (by kernel_rfl) rfl rfl (by kernel_rfl) (by kernel_rfl)
theorem tk72 : TIOk Tryd.prog 72 ⟨(.struct [(0, 3), (1, 3), (2, 3), (3, 3)]), 4, 32, (.agg #[(.int .i64 0), (.int .i64 0), (.int .i64 0), (.int .i64 0)])⟩ := TIOk.of (by kernel_rfl) (by kernel_rfl) rfl rfl (by kernel_rfl) (by kernel_rfl)
theorem tk73 : TIOk Tryd.prog 73 ⟨(.struct [(0, 3), (1, 3), (2, 3), (3, 3)]), 4, 32, (.agg #[(.int .i64 0), (.int .i64 0), (.int .i64 0), (.int .i64 0)])⟩ := TIOk.of (by kernel_rfl) (by kernel_rfl) rfl rfl (by kernel_rfl) (by kernel_rfl)
theorem tk88 : TIOk Tryd.prog 88 ⟨(.struct [(0, 9), (1, 3)]), 2, 24, (.agg #[(.string ⟨#[]⟩), (.int .i64 0)])⟩ := TIOk.of (by kernel_rfl) (by kernel_rfl) rfl rfl (by kernel_rfl) (by kernel_rfl)
theorem tk89 : TIOk Tryd.prog 89 ⟨(.struct [(0, 9), (1, 3)]), 2, 24, (.agg #[(.string ⟨#[]⟩), (.int .i64 0)])⟩ := TIOk.of (by kernel_rfl) (by kernel_rfl) rfl rfl (by kernel_rfl) (by kernel_rfl)
theorem tk90 : TIOk Tryd.prog 90 ⟨(.struct [(0, 3), (1, 3), (2, 9), (3, 3)]), 4, 40, (.agg #[(.int .i64 0), (.int .i64 0), (.string ⟨#[]⟩), (.int .i64 0)])⟩ := TIOk.of (by kernel_rfl) (by kernel_rfl) rfl rfl (by kernel_rfl) (by kernel_rfl)
theorem tk91 : TIOk Tryd.prog 91 ⟨(.struct [(0, 3), (1, 3), (2, 9), (3, 3)]), 4, 40, (.agg #[(.int .i64 0), (.int .i64 0), (.string ⟨#[]⟩), (.int .i64 0)])⟩ := TIOk.of (by kernel_rfl) (by kernel_rfl) rfl rfl (by kernel_rfl) (by kernel_rfl)
theorem tk97 : TIOk Tryd.prog 97 ⟨(.ptr 99), 1, 8, (.pointer none)⟩ := TIOk.of (by kernel_rfl) (by kernel_rfl) rfl rfl (by kernel_rfl) (by kernel_rfl)
theorem tk98 : TIOk Tryd.prog 98 ⟨(.struct [(0, 22), (1, 4)]), 2, 32, (.agg #[(.slice none 0 0), (.bool false)])⟩ := TIOk.of (by kernel_rfl) (by kernel_rfl) rfl rfl (by kernel_rfl) (by kernel_rfl)
theorem tk99 : TIOk Tryd.prog 99 ⟨(.struct [(0, 22), (1, 4)]), 2, 32, (.agg #[(.slice none 0 0), (.bool false)])⟩ := TIOk.of (by kernel_rfl) (by kernel_rfl) rfl rfl (by kernel_rfl) (by kernel_rfl)
theorem tk104 : TIOk Tryd.prog 104 ⟨(.ptr 106), 1, 8, (.pointer none)⟩ := TIOk.of (by kernel_rfl) (by kernel_rfl) rfl rfl (by kernel_rfl) (by kernel_rfl)
theorem tk105 : TIOk Tryd.prog 105 ⟨(.struct [(0, 39), (1, 28)]), 2, 32, (.agg #[(.slice none 0 0), (.int .i64 0)])⟩ := TIOk.of (by kernel_rfl) (by kernel_rfl) rfl rfl (by kernel_rfl) (by kernel_rfl)
theorem tk106 : TIOk Tryd.prog 106 ⟨(.struct [(0, 39), (1, 28)]), 2, 32, (.agg #[(.slice none 0 0), (.int .i64 0)])⟩ := TIOk.of (by kernel_rfl) (by kernel_rfl) rfl rfl (by kernel_rfl) (by kernel_rfl)
theorem tk112 : TIOk Tryd.prog 112 ⟨(.slice 116), 1, 24, (.slice none 0 0)⟩ := TIOk.of (by kernel_rfl) (by kernel_rfl) rfl rfl (by kernel_rfl) (by kernel_rfl)
theorem tk114 : TIOk Tryd.prog 114 ⟨(.slice 3), 1, 24, (.slice none 0 0)⟩ := TIOk.of (by kernel_rfl) (by kernel_rfl) rfl rfl (by kernel_rfl) (by kernel_rfl)
theorem tk115 : TIOk Tryd.prog 115 ⟨(.struct [(0, 64), (1, 114)]), 2, 48, (.agg #[(.slice none 0 0), (.slice none 0 0)])⟩ := TIOk.of (by kernel_rfl) (by kernel_rfl) rfl rfl (by kernel_rfl) (by kernel_rfl)
theorem tk116 : TIOk Tryd.prog 116 ⟨(.struct [(0, 64), (1, 114)]), 2, 48, (.agg #[(.slice none 0 0), (.slice none 0 0)])⟩ := TIOk.of (by kernel_rfl) (by kernel_rfl) rfl rfl (by kernel_rfl) (by kernel_rfl)
theorem tk118 : TIOk Tryd.prog 118 ⟨(.slice 50), 1, 24, (.slice none 0 0)⟩ := TIOk.of (by kernel_rfl) (by kernel_rfl) rfl rfl (by kernel_rfl) (by kernel_rfl)
theorem tk122 : TIOk Tryd.prog 122 ⟨(.int .u32), 1, 4, (.int .u32 0)⟩ := TIOk.of (by kernel_rfl) (by kernel_rfl) rfl rfl (by kernel_rfl) (by kernel_rfl)
theorem tk123 : TIOk Tryd.prog 123 ⟨(.ptr 126), 1, 8, (.pointer none)⟩ := TIOk.of (by kernel_rfl) (by kernel_rfl) rfl rfl (by kernel_rfl) (by kernel_rfl)
theorem tk124 : TIOk Tryd.prog 124 ⟨(.slice 197), 1, 24, (.slice none 0 0)⟩ := TIOk.of (by kernel_rfl) (by kernel_rfl) rfl rfl (by kernel_rfl) (by kernel_rfl)
theorem tk125 : TIOk Tryd.prog 125 ⟨(.struct [(0, 124), (1, 40), (2, 58), (3, 3), (4, 30)]), 6, 96, (.agg #[(.slice none 0 0), (.slice none 0 0), (.slice none 0 0), (.int .i64 0), (.int .i64 0), (.int .i64 0)])⟩ := TIOk.of (by kernel_rfl) (by kernel_rfl) rfl rfl (by kernel_rfl) (by kernel_rfl)
theorem tk126 : TIOk Tryd.prog 126 ⟨(.struct [(0, 124), (1, 40), (2, 58), (3, 3), (4, 30)]), 6, 96, (.agg #[(.slice none 0 0), (.slice none 0 0), (.slice none 0 0), (.int .i64 0), (.int .i64 0), (.int .i64 0)])⟩ := TIOk.of (by kernel_rfl) (by kernel_rfl) rfl rfl (by kernel_rfl) (by kernel_rfl)
theorem tk136 : TIOk Tryd.prog 136 ⟨(.ptr 138), 1, 8, (.pointer none)⟩ := TIOk.of (by kernel_rfl) (by kernel_rfl) rfl rfl (by kernel_rfl) (by kernel_rfl)
theorem tk137 : TIOk Tryd.prog 137 ⟨(.struct [(0, 136), (1, 22)]), 2, 32, (.agg #[(.pointer none), (.slice none 0 0)])⟩ := TIOk.of (by kernel_rfl) (by kernel_rfl) rfl rfl (by kernel_rfl) (by kernel_rfl)
theorem tk138 : TIOk Tryd.prog 138 ⟨(.struct [(0, 136), (1, 22)]), 2, 32, (.agg #[(.pointer none), (.slice none 0 0)])⟩ := TIOk.of (by kernel_rfl) (by kernel_rfl) rfl rfl (by kernel_rfl) (by kernel_rfl)
theorem tk140 : TIOk Tryd.prog 140 ⟨.iface, 1, 16, .nilIface⟩ := TIOk.of (by kernel_rfl) (by kernel_rfl) rfl rfl (by kernel_rfl) (by kernel_rfl)
theorem tk141 : TIOk Tryd.prog 141 ⟨.iface, 1, 16, .nilIface⟩ := TIOk.of (by kernel_rfl) (by kernel_rfl) rfl rfl (by kernel_rfl) (by kernel_rfl)
theorem tk145 : TIOk Tryd.prog 145 ⟨(.map 3 4), 1, 8, (.map none)⟩ := TIOk.of (by kernel_rfl) (by kernel_rfl) rfl rfl (by kernel_rfl) (by kernel_rfl)
theorem tk146 : TIOk Tryd.prog 146 ⟨(.struct [(0, 9), (1, 3), (2, 9)]), 3, 40, (.agg #[(.string ⟨#[]⟩), (.int .i64 0), (.string ⟨#[]⟩)])⟩ := TIOk.of (by kernel_rfl) (by kernel_rfl) rfl rfl (by kernel_rfl) (by kernel_rfl)
theorem tk147 : TIOk Tryd.prog 147 ⟨(.struct [(0, 9), (1, 3), (2, 9)]), 3, 40, (.agg #[(.string ⟨#[]⟩), (.int .i64 0), (.string ⟨#[]⟩)])⟩ := TIOk.of (by kernel_rfl) (by kernel_rfl) rfl rfl (by kernel_rfl) (by kernel_rfl)
theorem tk149 : TIOk Tryd.prog 149 ⟨(.map 3 147), 1, 8, (.map none)⟩ := TIOk.of (by kernel_rfl) (by kernel_rfl) rfl rfl (by kernel_rfl) (by kernel_rfl)
theorem tk158 : TIOk Tryd.prog 158 ⟨(.ptr 160), 1, 8, (.pointer none)⟩ := TIOk.of (by kernel_rfl) (by kernel_rfl) rfl rfl (by kernel_rfl) (by kernel_rfl)
theorem tk159 : TIOk Tryd.prog 159 ⟨(.struct [(0, 9), (1, 3)]), 2, 24, (.agg #[(.string ⟨#[]⟩), (.int .i64 0)])⟩ := TIOk.of (by kernel_rfl) (by kernel_rfl) rfl rfl (by kernel_rfl) (by kernel_rfl)
theorem tk160 : TIOk Tryd.prog 160 ⟨(.struct [(0, 9), (1, 3)]), 2, 24, (.agg #[(.string ⟨#[]⟩), (.int .i64 0)])⟩ := TIOk.of (by kernel_rfl) (by kernel_rfl) rfl rfl (by kernel_rfl) (by kernel_rfl)
theorem tk167 : TIOk Tryd.prog 167 ⟨(.map 9 4), 1, 8, (.map none)⟩ := TIOk.of (by kernel_rfl) (by kernel_rfl) rfl rfl (by kernel_rfl) (by kernel_rfl)
theorem tk171 : TIOk Tryd.prog 171 ⟨(.ptr 174), 1, 8, (.pointer none)⟩ := TIOk.of (by kernel_rfl) (by kernel_rfl) rfl rfl (by kernel_rfl) (by kernel_rfl)
theorem tk172 : TIOk Tryd.prog 172 ⟨(.map 9 221), 1, 8, (.map none)⟩ := TIOk.of (by kernel_rfl) (by kernel_rfl) rfl rfl (by kernel_rfl) (by kernel_rfl)
theorem tk173 : TIOk Tryd.prog 173 ⟨(.struct [(0, 172), (1, 40), (2, 58), (3, 3), (4, 30)]), 6, 80, (.agg #[(.map none), (.slice none 0 0), (.slice none 0 0), (.int .i64 0), (.int .i64 0), (.int .i64 0)])⟩ := TIOk.of (by kernel_rfl) (by kernel_rfl) rfl rfl (by kernel_rfl) (by kernel_rfl)
theorem tk174 : TIOk Tryd.prog 174 ⟨(.struct [(0, 172), (1, 40), (2, 58), (3, 3), (4, 30)]), 6, 80, (.agg #[(.map none), (.slice none 0 0), (.slice none 0 0), (.int .i64 0), (.int .i64 0), (.int .i64 0)])⟩ := TIOk.of (by kernel_rfl) (by kernel_rfl) rfl rfl (by kernel_rfl) (by kernel_rfl)
theorem tk175 : TIOk Tryd.prog 175 ⟨(.ptr 178), 1, 8, (.pointer none)⟩ := TIOk.of (by kernel_rfl) (by kernel_rfl) rfl rfl (by kernel_rfl) (by kernel_rfl)
theorem tk176 : TIOk Tryd.prog 176 ⟨(.slice 183), 1, 24, (.slice none 0 0)⟩ := TIOk.of (by kernel_rfl) (by kernel_rfl) rfl rfl (by kernel_rfl) (by kernel_rfl)
theorem tk177 : TIOk Tryd.prog 177 ⟨(.struct [(0, 40), (1, 176), (2, 64), (3, 114), (4, 118), (5, 3), (6, 30)]), 8, 144, (.agg #[(.slice none 0 0), (.slice none 0 0), (.slice none 0 0), (.slice none 0 0), (.slice none 0 0), (.int .i64 0), (.int .i64 0), (.int .i64 0)])⟩ := TIOk.of (by kernel_rfl) (by kernel_rfl) rfl rfl (by kernel_rfl) (by kernel_rfl)
theorem tk178 : TIOk Tryd.prog 178 ⟨(.struct [(0, 40), (1, 176), (2, 64), (3, 114), (4, 118), (5, 3), (6, 30)]), 8, 144, (.agg #[(.slice none 0 0), (.slice none 0 0), (.slice none 0 0), (.slice none 0 0), (.slice none 0 0), (.int .i64 0), (.int .i64 0), (.int .i64 0)])⟩ := TIOk.of (by kernel_rfl) (by kernel_rfl) rfl rfl (by kernel_rfl) (by kernel_rfl)
theorem tk182 : TIOk Tryd.prog 182 ⟨(.struct [(0, 9), (1, 73), (5, 50), (7, 3), (8, 4), (9, 3), (10, 118), (11, 3)]), 12, 128, (.agg #[(.string ⟨#[]⟩), (.int .i64 0), (.int .i64 0), (.int .i64 0), (.int .i64 0), (.string ⟨#[]⟩), (.int .i64 0), (.int .i64 0), (.bool false), (.int .i64 0), (.slice none 0 0), (.int .i64 0)])⟩ := TIOk.of (by kernel_rfl) (by kernel_rfl) rfl rfl (by kernel_rfl) (by kernel_rfl)
theorem tk183 : TIOk Tryd.prog 183 ⟨(.struct [(0, 9), (1, 73), (5, 50), (7, 3), (8, 4), (9, 3), (10, 118), (11, 3)]), 12, 128, (.agg #[(.string ⟨#[]⟩), (.int .i64 0), (.int .i64 0), (.int .i64 0), (.int .i64 0), (.string ⟨#[]⟩), (.int .i64 0), (.int .i64 0), (.bool false), (.int .i64 0), (.slice none 0 0), (.int .i64 0)])⟩ := TIOk.of (by kernel_rfl) (by kernel_rfl) rfl rfl (by kernel_rfl) (by kernel_rfl)
theorem tk196 : TIOk Tryd.prog 196 ⟨(.struct [(0, 9), (1, 64), (2, 58)]), 3, 64, (.agg #[(.string ⟨#[]⟩), (.slice none 0 0), (.slice none 0 0)])⟩ := TIOk.of (by kernel_rfl) (by kernel_rfl) rfl rfl (by kernel_rfl) (by kernel_rfl)
theorem tk197 : TIOk Tryd.prog 197 ⟨(.struct [(0, 9), (1, 64), (2, 58)]), 3, 64, (.agg #[(.string ⟨#[]⟩), (.slice none 0 0), (.slice none 0 0)])⟩ := TIOk.of (by kernel_rfl) (by kernel_rfl) rfl rfl (by kernel_rfl) (by kernel_rfl)
theorem tk198 : TIOk Tryd.prog 198 ⟨(.slice 201), 1, 24, (.slice none 0 0)⟩ := TIOk.of (by kernel_rfl) (by kernel_rfl) rfl rfl (by kernel_rfl) (by kernel_rfl)
theorem tk200 : TIOk Tryd.prog 200 ⟨(.struct [(0, 3), (1, 9), (2, 3), (3, 3)]), 4, 40, (.agg #[(.int .i64 0), (.string ⟨#[]⟩), (.int .i64 0), (.int .i64 0)])⟩ := TIOk.of (by kernel_rfl) (by kernel_rfl) rfl rfl (by kernel_rfl) (by kernel_rfl)
theorem tk201 : TIOk Tryd.prog 201 ⟨(.struct [(0, 3), (1, 9), (2, 3), (3, 3)]), 4, 40, (.agg #[(.int .i64 0), (.string ⟨#[]⟩), (.int .i64 0), (.int .i64 0)])⟩ := TIOk.of (by kernel_rfl) (by kernel_rfl) rfl rfl (by kernel_rfl) (by kernel_rfl)
theorem tk204 : TIOk Tryd.prog 204 ⟨(.int .u64), 1, 8, (.int .u64 0)⟩ := TIOk.of (by kernel_rfl) (by kernel_rfl) rfl rfl (by kernel_rfl) (by kernel_rfl)
theorem tk206 : TIOk Tryd.prog 206 ⟨(.ptr 5), 1, 8, (.pointer none)⟩ := TIOk.of (by kernel_rfl) (by kernel_rfl) rfl rfl (by kernel_rfl) (by kernel_rfl)
theorem tk209 : TIOk Tryd.prog 209 ⟨(.arr 256 5), 256, 256, (.agg #[(.int .u8 0), (.int .u8 0), (.int .u8 0), (.int .u8 0), (.int .u8 0), (.int .u8 0), (.int .u8 0), (.int .u8 0), (.int .u8 0), (.int .u8 0), (.int .u8 0), (.int .u8 0), (.int .u8 0), (.int .u8 0), (.int .u8 0), (.int .u8 0), (.int .u8 0), (.int .u8 0), (.int .u8 0), (.int .u8 0), (.int .u8 0), (.int .u8 0), (.int .u8 0), (.int .u8 0), (.int .u8 0), (.int .u8 0), (.int .u8 0), (.int .u8 0), (.int .u8 0), (.int .u8 0), (.int .u8 0), (.int .u8 0), (.int .u8 0), (.int .u8 0), (.int .u8 0), (.int .u8 0), (.int .u8 0), (.int .u8 0), (.int .u8 0), (.int .u8 0), (.int .u8 0), (.int .u8 0), (.int .u8 0), (.int .u8 0), (.int .u8 0), (.int .u8 0), (.int .u8 0), (.int .u8 0), (.int .u8 0), (.int .u8 0), (.int .u8 0), (.int .u8 0), (.int .u8 0), (.int .u8 0), (.int .u8 0), (.int .u8 0), (.int .u8 0), (.int .u8 0), (.int .u8 0), (.int .u8 0), (.int .u8 0), (.int .u8 0), (.int .u8 0), (.int .u8 0), (.int .u8 0), (.int .u8 0), (.int .u8 0), (.int .u8 0), (.int .u8 0), (.int .u8 0), (.int .u8 0), (.int .u8 0), (.int .u8 0), (.int .u8 0), (.int .u8 0), (.int .u8 0), (.int .u8 0), (.int .u8 0), (.int .u8 0), (.int .u8 0), (.int .u8 0), (.int .u8 0), (.int .u8 0), (.int .u8 0), (.int .u8 0), (.int .u8 0), (.int .u8 0), (.int .u8 0), (.int .u8 0), (.int .u8 0), (.int .u8 0), (.int .u8 0), (.int .u8 0), (.int .u8 0), (.int .u8 0), (.int .u8 0), (.int .u8 0), (.int .u8 0), (.int .u8 0), (.int .u8 0), (.int .u8 0), (.int .u8 0), (.int .u8 0), (.int .u8 0), (.int .u8 0), (.int .u8 0), (.int .u8 0), (.int .u8 0), (.int .u8 0), (.int .u8 0), (.int .u8 0), (.int .u8 0), (.int .u8 0), (.int .u8 0), (.int .u8 0), (.int .u8 0), (.int .u8 0), (.int .u8 0), (.int .u8 0), (.int .u8 0), (.int .u8 0), (.int .u8 0), (.int .u8 0), (.int .u8 0), (.int .u8 0), (.int .u8 0), (.int .u8 0), (.int .u8 0), (.int .u8 0), (.int .u8 0), (.int .u8 0), (.int .u8 0), (.int .u8 0), (.int .u8 0), (.int .u8 0), (.int .u8 0), (.int .u8 0), (.int .u8 0), (.int .u8 0), (.int .u8 0), (.int .u8 0), (.int .u8 0), (.int .u8 0), (.int .u8 0), (.int .u8 0), (.int .u8 0), (.int .u8 0), (.int .u8 0), (.int .u8 0), (.int .u8 0), (.int .u8 0), (.int .u8 0), (.int .u8 0), (.int .u8 0), (.int .u8 0), (.int .u8 0), (.int .u8 0), (.int .u8 0), (.int .u8 0), (.int .u8 0), (.int .u8 0), (.int .u8 0), (.int .u8 0), (.int .u8 0), (.int .u8 0), (.int .u8 0), (.int .u8 0), (.int .u8 0), (.int .u8 0), (.int .u8 0), (.int .u8 0), (.int .u8 0), (.int .u8 0), (.int .u8 0), (.int .u8 0), (.int .u8 0), (.int .u8 0), (.int .u8 0), (.int .u8 0), (.int .u8 0), (.int .u8 0), (.int .u8 0), (.int .u8 0), (.int .u8 0), (.int .u8 0), (.int .u8 0), (.int .u8 0), (.int .u8 0), (.int .u8 0), (.int .u8 0), (.int .u8 0), (.int .u8 0), (.int .u8 0), (.int .u8 0), (.int .u8 0), (.int .u8 0), (.int .u8 0), (.int .u8 0), (.int .u8 0), (.int .u8 0), (.int .u8 0), (.int .u8 0), (.int .u8 0), (.int .u8 0), (.int .u8 0), (.int .u8 0), (.int .u8 0), (.int .u8 0), (.int .u8 0), (.int .u8 0), (.int .u8 0), (.int .u8 0), (.int .u8 0), (.int .u8 0), (.int .u8 0), (.int .u8 0), (.int .u8 0), (.int .u8 0), (.int .u8 0), (.int .u8 0), (.int .u8 0), (.int .u8 0), (.int .u8 0), (.int .u8 0), (.int .u8 0), (.int .u8 0), (.int .u8 0), (.int .u8 0), (.int .u8 0), (.int .u8 0), (.int .u8 0), (.int .u8 0), (.int .u8 0), (.int .u8 0), (.int .u8 0), (.int .u8 0), (.int .u8 0), (.int .u8 0), (.int .u8 0), (.int .u8 0), (.int .u8 0), (.int .u8 0), (.int .u8 0), (.int .u8 0), (.int .u8 0), (.int .u8 0), (.int .u8 0), (.int .u8 0), (.int .u8 0), (.int .u8 0), (.int .u8 0), (.int .u8 0), (.int .u8 0), (.int .u8 0), (.int .u8 0), (.int .u8 0)])⟩ := TIOk.of (by kernel_rfl) (by kernel_rfl) rfl rfl (by kernel_rfl) (by kernel_rfl)
theorem tk210 : TIOk Tryd.prog 210 ⟨(.int .u64), 1, 8, (.int .u64 0)⟩ := TIOk.of (by kernel_rfl) (by kernel_rfl) rfl rfl (by kernel_rfl) (by kernel_rfl)
theorem tk216 : TIOk Tryd.prog 216 ⟨(.map 9 9), 1, 8, (.map none)⟩ := TIOk.of (by kernel_rfl) (by kernel_rfl) rfl rfl (by kernel_rfl) (by kernel_rfl)
theorem tk220 : TIOk Tryd.prog 220 ⟨(.struct [(0, 64), (1, 58)]), 2, 48, (.agg #[(.slice none 0 0), (.slice none 0 0)])⟩ := TIOk.of (by kernel_rfl) (by kernel_rfl) rfl rfl (by kernel_rfl) (by kernel_rfl)
theorem tk221 : TIOk Tryd.prog 221 ⟨(.struct [(0, 64), (1, 58)]), 2, 48, (.agg #[(.slice none 0 0), (.slice none 0 0)])⟩ := TIOk.of (by kernel_rfl) (by kernel_rfl) rfl rfl (by kernel_rfl) (by kernel_rfl)
theorem tk226 : TIOk Tryd.prog 226 ⟨(.slice 231), 1, 24, (.slice none 0 0)⟩ := TIOk.of (by kernel_rfl) (by kernel_rfl) rfl rfl (by kernel_rfl) (by kernel_rfl)
theorem tk228 : TIOk Tryd.prog 228 ⟨(.map 9 3), 1, 8, (.map none)⟩ := TIOk.of (by kernel_rfl) (by kernel_rfl) rfl rfl (by kernel_rfl) (by kernel_rfl)
theorem tk230 : TIOk Tryd.prog 230 ⟨(.struct [(0, 9), (1, 3), (2, 50)]), 4, 48, (.agg #[(.string ⟨#[]⟩), (.int .i64 0), (.string ⟨#[]⟩), (.int .i64 0)])⟩ := TIOk.of (by kernel_rfl) (by kernel_rfl) rfl rfl (by kernel_rfl) (by kernel_rfl)
theorem tk231 : TIOk Tryd.prog 231 ⟨(.struct [(0, 9), (1, 3), (2, 50)]), 4, 48, (.agg #[(.string ⟨#[]⟩), (.int .i64 0), (.string ⟨#[]⟩), (.int .i64 0)])⟩ := TIOk.of (by kernel_rfl) (by kernel_rfl) rfl rfl (by kernel_rfl) (by kernel_rfl)
theorem tk245 : TIOk Tryd.prog 245 ⟨(.slice 39), 1, 24, (.slice none 0 0)⟩ := TIOk.of (by kernel_rfl) (by kernel_rfl) rfl rfl (by kernel_rfl) (by kernel_rfl)
theorem tk250 : TIOk Tryd.prog 250 ⟨(.ptr 268), 1, 8, (.pointer none)⟩ := TIOk.of (by kernel_rfl) (by kernel_rfl) rfl rfl (by kernel_rfl) (by kernel_rfl)
theorem tk259 : TIOk Tryd.prog 259 ⟨(.arr 24 5), 24, 24, (.agg #[(.int .u8 0), (.int .u8 0), (.int .u8 0), (.int .u8 0), (.int .u8 0), (.int .u8 0), (.int .u8 0), (.int .u8 0), (.int .u8 0), (.int .u8 0), (.int .u8 0), (.int .u8 0), (.int .u8 0), (.int .u8 0), (.int .u8 0), (.int .u8 0), (.int .u8 0), (.int .u8 0), (.int .u8 0), (.int .u8 0), (.int .u8 0), (.int .u8 0), (.int .u8 0), (.int .u8 0)])⟩ := TIOk.of (by kernel_rfl) (by kernel_rfl) rfl rfl (by kernel_rfl) (by kernel_rfl)
theorem tk265 : TIOk Tryd.prog 265 ⟨(.slice 271), 1, 24, (.slice none 0 0)⟩ := TIOk.of (by kernel_rfl) (by kernel_rfl) rfl rfl (by kernel_rfl) (by kernel_rfl)
theorem tk266 : TIOk Tryd.prog 266 ⟨(.slice 274), 1, 24, (.slice none 0 0)⟩ := TIOk.of (by kernel_rfl) (by kernel_rfl) rfl rfl (by kernel_rfl) (by kernel_rfl)
theorem tk267 : TIOk Tryd.prog 267 ⟨(.struct [(0, 265), (1, 266), (2, 3)]), 3, 56, (.agg #[(.slice none 0 0), (.slice none 0 0), (.int .i64 0)])⟩ := TIOk.of (by kernel_rfl) (by kernel_rfl) rfl rfl (by kernel_rfl) (by kernel_rfl)
theorem tk268 : TIOk Tryd.prog 268 ⟨(.struct [(0, 265), (1, 266), (2, 3)]), 3, 56, (.agg #[(.slice none 0 0), (.slice none 0 0), (.int .i64 0)])⟩ := TIOk.of (by kernel_rfl) (by kernel_rfl) rfl rfl (by kernel_rfl) (by kernel_rfl)
theorem tk269 : TIOk Tryd.prog 269 ⟨(.int .u16), 1, 2, (.int .u16 0)⟩ := TIOk.of (by kernel_rfl) (by kernel_rfl) rfl rfl (by kernel_rfl) (by kernel_rfl)
theorem tk270 : TIOk Tryd.prog 270 ⟨(.struct [(0, 269), (1, 269), (2, 269)]), 3, 6, (.agg #[(.int .u16 0), (.int .u16 0), (.int .u16 0)])⟩ := TIOk.of (by kernel_rfl) (by kernel_rfl) rfl rfl (by kernel_rfl) (by kernel_rfl)
theorem tk271 : TIOk Tryd.prog 271 ⟨(.struct [(0, 269), (1, 269), (2, 269)]), 3, 6, (.agg #[(.int .u16 0), (.int .u16 0), (.int .u16 0)])⟩ := TIOk.of (by kernel_rfl) (by kernel_rfl) rfl rfl (by kernel_rfl) (by kernel_rfl)
theorem tk273 : TIOk Tryd.prog 273 ⟨(.struct [(0, 122), (1, 122), (2, 122)]), 3, 12, (.agg #[(.int .u32 0), (.int .u32 0), (.int .u32 0)])⟩ := TIOk.of (by kernel_rfl) (by kernel_rfl) rfl rfl (by kernel_rfl) (by kernel_rfl)
theorem tk274 : TIOk Tryd.prog 274 ⟨(.struct [(0, 122), (1, 122), (2, 122)]), 3, 12, (.agg #[(.int .u32 0), (.int .u32 0), (.int .u32 0)])⟩ := TIOk.of (by kernel_rfl) (by kernel_rfl) rfl rfl (by kernel_rfl) (by kernel_rfl)
theorem tk277 : TIOk Tryd.prog 277 ⟨(.int .i64), 1, 8, (.int .i64 0)⟩ := TIOk.of (by kernel_rfl) (by kernel_rfl) rfl rfl (by kernel_rfl) (by kernel_rfl)
theorem tk278 : TIOk Tryd.prog 278 ⟨(.ptr 299), 1, 8, (.pointer none)⟩ := TIOk.of (by kernel_rfl) (by kernel_rfl) rfl rfl (by kernel_rfl) (by kernel_rfl)
theorem tk281 : TIOk Tryd.prog 281 ⟨(.ptr 284), 1, 8, (.pointer none)⟩ := TIOk.of (by kernel_rfl) (by kernel_rfl) rfl rfl (by kernel_rfl) (by kernel_rfl)
theorem tk282 : TIOk Tryd.prog 282 ⟨(.slice 28), 1, 24, (.slice none 0 0)⟩ := TIOk.of (by kernel_rfl) (by kernel_rfl) rfl rfl (by kernel_rfl) (by kernel_rfl)
theorem tk283 : TIOk Tryd.prog 283 ⟨(.struct [(0, 39), (1, 3), (2, 282)]), 3, 56, (.agg #[(.slice none 0 0), (.int .i64 0), (.slice none 0 0)])⟩ := TIOk.of (by kernel_rfl) (by kernel_rfl) rfl rfl (by kernel_rfl) (by kernel_rfl)
theorem tk284 : TIOk Tryd.prog 284 ⟨(.struct [(0, 39), (1, 3), (2, 282)]), 3, 56, (.agg #[(.slice none 0 0), (.int .i64 0), (.slice none 0 0)])⟩ := TIOk.of (by kernel_rfl) (by kernel_rfl) rfl rfl (by kernel_rfl) (by kernel_rfl)
theorem tk285 : TIOk Tryd.prog 285 ⟨(.map 9 114), 1, 8, (.map none)⟩ := TIOk.of (by kernel_rfl) (by kernel_rfl) rfl rfl (by kernel_rfl) (by kernel_rfl)
theorem tk287 : TIOk Tryd.prog 287 ⟨(.arr 20 210), 20, 160, (.agg #[(.int .u64 0), (.int .u64 0), (.int .u64 0), (.int .u64 0), (.int .u64 0), (.int .u64 0), (.int .u64 0), (.int .u64 0), (.int .u64 0), (.int .u64 0), (.int .u64 0), (.int .u64 0), (.int .u64 0), (.int .u64 0), (.int .u64 0), (.int .u64 0), (.int .u64 0), (.int .u64 0), (.int .u64 0), (.int .u64 0)])⟩ := TIOk.of (by kernel_rfl) (by kernel_rfl) rfl rfl (by kernel_rfl) (by kernel_rfl)
theorem tk288 : TIOk Tryd.prog 288 ⟨(.arr 65 5), 65, 65, (.agg #[(.int .u8 0), (.int .u8 0), (.int .u8 0), (.int .u8 0), (.int .u8 0), (.int .u8 0), (.int .u8 0), (.int .u8 0), (.int .u8 0), (.int .u8 0), (.int .u8 0), (.int .u8 0), (.int .u8 0), (.int .u8 0), (.int .u8 0), (.int .u8 0), (.int .u8 0), (.int .u8 0), (.int .u8 0), (.int .u8 0), (.int .u8 0), (.int .u8 0), (.int .u8 0), (.int .u8 0), (.int .u8 0), (.int .u8 0), (.int .u8 0), (.int .u8 0), (.int .u8 0), (.int .u8 0), (.int .u8 0), (.int .u8 0), (.int .u8 0), (.int .u8 0), (.int .u8 0), (.int .u8 0), (.int .u8 0), (.int .u8 0), (.int .u8 0), (.int .u8 0), (.int .u8 0), (.int .u8 0), (.int .u8 0), (.int .u8 0), (.int .u8 0), (.int .u8 0), (.int .u8 0), (.int .u8 0), (.int .u8 0), (.int .u8 0), (.int .u8 0), (.int .u8 0), (.int .u8 0), (.int .u8 0), (.int .u8 0), (.int .u8 0), (.int .u8 0), (.int .u8 0), (.int .u8 0), (.int .u8 0), (.int .u8 0), (.int .u8 0), (.int .u8 0), (.int .u8 0), (.int .u8 0)])⟩ := TIOk.of (by kernel_rfl) (by kernel_rfl) rfl rfl (by kernel_rfl) (by kernel_rfl)
theorem tk291 : TIOk Tryd.prog 291 ⟨(.ptr 271), 1, 8, (.pointer none)⟩ := TIOk.of (by kernel_rfl) (by kernel_rfl) rfl rfl (by kernel_rfl) (by kernel_rfl)
theorem tk292 : TIOk Tryd.prog 292 ⟨(.ptr 274), 1, 8, (.pointer none)⟩ := TIOk.of (by kernel_rfl) (by kernel_rfl) rfl rfl (by kernel_rfl) (by kernel_rfl)
theorem tk293 : TIOk Tryd.prog 293 ⟨(.struct [(0, 5), (1, 5)]), 2, 2, (.agg #[(.int .u8 0), (.int .u8 0)])⟩ := TIOk.of (by kernel_rfl) (by kernel_rfl) rfl rfl (by kernel_rfl) (by kernel_rfl)
theorem tk294 : TIOk Tryd.prog 294 ⟨(.struct [(0, 5), (1, 5)]), 2, 2, (.agg #[(.int .u8 0), (.int .u8 0)])⟩ := TIOk.of (by kernel_rfl) (by kernel_rfl) rfl rfl (by kernel_rfl) (by kernel_rfl)
theorem tk295 : TIOk Tryd.prog 295 ⟨(.arr 16 294), 32, 32, (.agg #[(.int .u8 0), (.int .u8 0), (.int .u8 0), (.int .u8 0), (.int .u8 0), (.int .u8 0), (.int .u8 0), (.int .u8 0), (.int .u8 0), (.int .u8 0), (.int .u8 0), (.int .u8 0), (.int .u8 0), (.int .u8 0), (.int .u8 0), (.int .u8 0), (.int .u8 0), (.int .u8 0), (.int .u8 0), (.int .u8 0), (.int .u8 0), (.int .u8 0), (.int .u8 0), (.int .u8 0), (.int .u8 0), (.int .u8 0), (.int .u8 0), (.int .u8 0), (.int .u8 0), (.int .u8 0), (.int .u8 0), (.int .u8 0)])⟩ := TIOk.of (by kernel_rfl) (by kernel_rfl) rfl rfl (by kernel_rfl) (by kernel_rfl)
theorem tk298 : TIOk Tryd.prog 298 ⟨(.struct [(0, 9), (1, 9), (2, 141)]), 3, 48, (.agg #[(.string ⟨#[]⟩), (.string ⟨#[]⟩), .nilIface])⟩ := TIOk.of (by kernel_rfl) (by kernel_rfl) rfl rfl (by kernel_rfl) (by kernel_rfl)
theorem tk299 : TIOk Tryd.prog 299 ⟨(.struct [(0, 9), (1, 9), (2, 141)]), 3, 48, (.agg #[(.string ⟨#[]⟩), (.string ⟨#[]⟩), .nilIface])⟩ := TIOk.of (by kernel_rfl) (by kernel_rfl) rfl rfl (by kernel_rfl) (by kernel_rfl)
theorem tk303 : TIOk Tryd.prog 303 ⟨(.ptr 305), 1, 8, (.pointer none)⟩ := TIOk.of (by kernel_rfl) (by kernel_rfl) rfl rfl (by kernel_rfl) (by kernel_rfl)
theorem tk304 : TIOk Tryd.prog 304 ⟨(.struct [(0, 9)]), 1, 16, (.agg #[(.string ⟨#[]⟩)])⟩ := TIOk.of (by kernel_rfl) (by kernel_rfl) rfl rfl (by kernel_rfl) (by kernel_rfl)
theorem tk305 : TIOk Tryd.prog 305 ⟨(.struct [(0, 9)]), 1, 16, (.agg #[(.string ⟨#[]⟩)])⟩ := TIOk.of (by kernel_rfl) (by kernel_rfl) rfl rfl (by kernel_rfl) (by kernel_rfl)
theorem tk306 : TIOk Tryd.prog 306 ⟨(.arr 32 5), 32, 32, (.agg #[(.int .u8 0), (.int .u8 0), (.int .u8 0), (.int .u8 0), (.int .u8 0), (.int .u8 0), (.int .u8 0), (.int .u8 0), (.int .u8 0), (.int .u8 0), (.int .u8 0), (.int .u8 0), (.int .u8 0), (.int .u8 0), (.int .u8 0), (.int .u8 0), (.int .u8 0), (.int .u8 0), (.int .u8 0), (.int .u8 0), (.int .u8 0), (.int .u8 0), (.int .u8 0), (.int .u8 0), (.int .u8 0), (.int .u8 0), (.int .u8 0), (.int .u8 0), (.int .u8 0), (.int .u8 0), (.int .u8 0), (.int .u8 0)])⟩ := TIOk.of (by kernel_rfl) (by kernel_rfl) rfl rfl (by kernel_rfl) (by kernel_rfl)
theorem tk307 : TIOk Tryd.prog 307 ⟨(.arr 64 5), 64, 64, (.agg #[(.int .u8 0), (.int .u8 0), (.int .u8 0), (.int .u8 0), (.int .u8 0), (.int .u8 0), (.int .u8 0), (.int .u8 0), (.int .u8 0), (.int .u8 0), (.int .u8 0), (.int .u8 0), (.int .u8 0), (.int .u8 0), (.int .u8 0), (.int .u8 0), (.int .u8 0), (.int .u8 0), (.int .u8 0), (.int .u8 0), (.int .u8 0), (.int .u8 0), (.int .u8 0), (.int .u8 0), (.int .u8 0), (.int .u8 0), (.int .u8 0), (.int .u8 0), (.int .u8 0), (.int .u8 0), (.int .u8 0), (.int .u8 0), (.int .u8 0), (.int .u8 0), (.int .u8 0), (.int .u8 0), (.int .u8 0), (.int .u8 0), (.int .u8 0), (.int .u8 0), (.int .u8 0), (.int .u8 0), (.int .u8 0), (.int .u8 0), (.int .u8 0), (.int .u8 0), (.int .u8 0), (.int .u8 0), (.int .u8 0), (.int .u8 0), (.int .u8 0), (.int .u8 0), (.int .u8 0), (.int .u8 0), (.int .u8 0), (.int .u8 0), (.int .u8 0), (.int .u8 0), (.int .u8 0), (.int .u8 0), (.int .u8 0), (.int .u8 0), (.int .u8 0), (.int .u8 0)])⟩ := TIOk.of (by kernel_rfl) (by kernel_rfl) rfl rfl (by kernel_rfl) (by kernel_rfl)

def tab : Tab := [
  (3, ⟨(.int .i64), 1, 8, (.int .i64 0)⟩),
  (4, ⟨.bool, 1, 1, (.bool false)⟩),
  (5, ⟨(.int .u8), 1, 1, (.int .u8 0)⟩),
  (9, ⟨.str, 1, 16, (.string ⟨#[]⟩)⟩),
  (22, ⟨(.slice 5), 1, 24, (.slice none 0 0)⟩),
  (2, ⟨(.int .i64), 1, 8, (.int .i64 0)⟩),
  (12, ⟨(.int .u64), 1, 8, (.int .u64 0)⟩),
  (20, ⟨.iface, 1, 16, .nilIface⟩),
  (21, ⟨(.int .i32), 1, 4, (.int .i32 0)⟩),
  (24, ⟨(.slice 89), 1, 24, (.slice none 0 0)⟩),
  (25, ⟨(.slice 91), 1, 24, (.slice none 0 0)⟩),
  (26, ⟨(.struct [(0, 22), (1, 24), (2, 25)]), 3, 72, (.agg #[(.slice none 0 0), (.slice none 0 0), (.slice none 0 0)])⟩),
  (27, ⟨(.struct [(0, 22), (1, 24), (2, 25)]), 3, 72, (.agg #[(.slice none 0 0), (.slice none 0 0), (.slice none 0 0)])⟩),
  (28, ⟨(.int .i64), 1, 8, (.int .i64 0)⟩),
  (29, ⟨(.struct [(0, 28), (1, 3)]), 2, 16, (.agg #[(.int .i64 0), (.int .i64 0)])⟩),
  (30, ⟨(.struct [(0, 28), (1, 3)]), 2, 16, (.agg #[(.int .i64 0), (.int .i64 0)])⟩),
  (39, ⟨(.slice 68), 1, 24, (.slice none 0 0)⟩),
  (40, ⟨(.slice 55), 1, 24, (.slice none 0 0)⟩),
  (41, ⟨(.slice 43), 1, 24, (.slice none 0 0)⟩),
  (42, ⟨(.struct [(0, 3), (1, 3), (2, 9), (3, 41)]), 4, 56, (.agg #[(.int .i64 0), (.int .i64 0), (.string ⟨#[]⟩), (.slice none 0 0)])⟩),
  (43, ⟨(.struct [(0, 3), (1, 3), (2, 9), (3, 41)]), 4, 56, (.agg #[(.int .i64 0), (.int .i64 0), (.string ⟨#[]⟩), (.slice none 0 0)])⟩),
  (49, ⟨(.struct [(0, 9), (1, 3)]), 2, 24, (.agg #[(.string ⟨#[]⟩), (.int .i64 0)])⟩),
  (50, ⟨(.struct [(0, 9), (1, 3)]), 2, 24, (.agg #[(.string ⟨#[]⟩), (.int .i64 0)])⟩),
  (55, ⟨(.struct [(0, 9), (1, 3)]), 2, 24, (.agg #[(.string ⟨#[]⟩), (.int .i64 0)])⟩),
  (58, ⟨(.slice 63), 1, 24, (.slice none 0 0)⟩),
  (62, ⟨(.struct [(0, 3), (1, 39)]), 2, 32, (.agg #[(.int .i64 0), (.slice none 0 0)])⟩),
  (63, ⟨(.struct [(0, 3), (1, 39)]), 2, 32, (.agg #[(.int .i64 0), (.slice none 0 0)])⟩),
  (64, ⟨(.slice 9), 1, 24, (.slice none 0 0)⟩),
  (67, ⟨(.struct [(0, 3), (1, 3), (2, 9)]), 3, 32, (.agg #[(.int .i64 0), (.int .i64 0), (.string ⟨#[]⟩)])⟩),
  (68, ⟨(.struct [(0, 3), (1, 3), (2, 9)]), 3, 32, (.agg #[(.int .i64 0), (.int .i64 0), (.string ⟨#[]⟩)])⟩),
  (72, ⟨(.struct [(0, 3), (1, 3), (2, 3), (3, 3)]), 4, 32, (.agg #[(.int .i64 0), (.int .i64 0), (.int .i64 0), (.int .i64 0)])⟩),
  (73, ⟨(.struct [(0, 3), (1, 3), (2, 3), (3, 3)]), 4, 32, (.agg #[(.int .i64 0), (.int .i64 0), (.int .i64 0), (.int .i64 0)])⟩),
  (88, ⟨(.struct [(0, 9), (1, 3)]), 2, 24, (.agg #[(.string ⟨#[]⟩), (.int .i64 0)])⟩),
  (89, ⟨(.struct [(0, 9), (1, 3)]), 2, 24, (.agg #[(.string ⟨#[]⟩), (.int .i64 0)])⟩),
  (90, ⟨(.struct [(0, 3), (1, 3), (2, 9), (3, 3)]), 4, 40, (.agg #[(.int .i64 0), (.int .i64 0), (.string ⟨#[]⟩), (.int .i64 0)])⟩),
  (91, ⟨(.struct [(0, 3), (1, 3), (2, 9), (3, 3)]), 4, 40, (.agg #[(.int .i64 0), (.int .i64 0), (.string ⟨#[]⟩), (.int .i64 0)])⟩),
  (97, ⟨(.ptr 99), 1, 8, (.pointer none)⟩),
  (98, ⟨(.struct [(0, 22), (1, 4)]), 2, 32, (.agg #[(.slice none 0 0), (.bool false)])⟩),
  (99, ⟨(.struct [(0, 22), (1, 4)]), 2, 32, (.agg #[(.slice none 0 0), (.bool false)])⟩),
  (104, ⟨(.ptr 106), 1, 8, (.pointer none)⟩),
  (105, ⟨(.struct [(0, 39), (1, 28)]), 2, 32, (.agg #[(.slice none 0 0), (.int .i64 0)])⟩),
  (106, ⟨(.struct [(0, 39), (1, 28)]), 2, 32, (.agg #[(.slice none 0 0), (.int .i64 0)])⟩),
  (112, ⟨(.slice 116), 1, 24, (.slice none 0 0)⟩),
  (114, ⟨(.slice 3), 1, 24, (.slice none 0 0)⟩),
  (115, ⟨(.struct [(0, 64), (1, 114)]), 2, 48, (.agg #[(.slice none 0 0), (.slice none 0 0)])⟩),
  (116, ⟨(.struct [(0, 64), (1, 114)]), 2, 48, (.agg #[(.slice none 0 0), (.slice none 0 0)])⟩),
  (118, ⟨(.slice 50), 1, 24, (.slice none 0 0)⟩),
  (122, ⟨(.int .u32), 1, 4, (.int .u32 0)⟩),
  (123, ⟨(.ptr 126), 1, 8, (.pointer none)⟩),
  (124, ⟨(.slice 197), 1, 24, (.slice none 0 0)⟩),
  (125, ⟨(.struct [(0, 124), (1, 40), (2, 58), (3, 3), (4, 30)]), 6, 96, (.agg #[(.slice none 0 0), (.slice none 0 0), (.slice none 0 0), (.int .i64 0), (.int .i64 0), (.int .i64 0)])⟩),
  (126, ⟨(.struct [(0, 124), (1, 40), (2, 58), (3, 3), (4, 30)]), 6, 96, (.agg #[(.slice none 0 0), (.slice none 0 0), (.slice none 0 0), (.int .i64 0), (.int .i64 0), (.int .i64 0)])⟩),
  (136, ⟨(.ptr 138), 1, 8, (.pointer none)⟩),
  (137, ⟨(.struct [(0, 136), (1, 22)]), 2, 32, (.agg #[(.pointer none), (.slice none 0 0)])⟩),
  (138, ⟨(.struct [(0, 136), (1, 22)]), 2, 32, (.agg #[(.pointer none), (.slice none 0 0)])⟩),
  (140, ⟨.iface, 1, 16, .nilIface⟩),
  (141, ⟨.iface, 1, 16, .nilIface⟩),
  (145, ⟨(.map 3 4), 1, 8, (.map none)⟩),
  (146, ⟨(.struct [(0, 9), (1, 3), (2, 9)]), 3, 40, (.agg #[(.string ⟨#[]⟩), (.int .i64 0), (.string ⟨#[]⟩)])⟩),
  (147, ⟨(.struct [(0, 9), (1, 3), (2, 9)]), 3, 40, (.agg #[(.string ⟨#[]⟩), (.int .i64 0), (.string ⟨#[]⟩)])⟩),
  (149, ⟨(.map 3 147), 1, 8, (.map none)⟩),
  (158, ⟨(.ptr 160), 1, 8, (.pointer none)⟩),
  (159, ⟨(.struct [(0, 9), (1, 3)]), 2, 24, (.agg #[(.string ⟨#[]⟩), (.int .i64 0)])⟩),
  (160, ⟨(.struct [(0, 9), (1, 3)]), 2, 24, (.agg #[(.string ⟨#[]⟩), (.int .i64 0)])⟩),
  (167, ⟨(.map 9 4), 1, 8, (.map none)⟩),
  (171, ⟨(.ptr 174), 1, 8, (.pointer none)⟩),
  (172, ⟨(.map 9 221), 1, 8, (.map none)⟩),
  (173, ⟨(.struct [(0, 172), (1, 40), (2, 58), (3, 3), (4, 30)]), 6, 80, (.agg #[(.map none), (.slice none 0 0), (.slice none 0 0), (.int .i64 0), (.int .i64 0), (.int .i64 0)])⟩),
  (174, ⟨(.struct [(0, 172), (1, 40), (2, 58), (3, 3), (4, 30)]), 6, 80, (.agg #[(.map none), (.slice none 0 0), (.slice none 0 0), (.int .i64 0), (.int .i64 0), (.int .i64 0)])⟩),
  (175, ⟨(.ptr 178), 1, 8, (.pointer none)⟩),
  (176, ⟨(.slice 183), 1, 24, (.slice none 0 0)⟩),
  (177, ⟨(.struct [(0, 40), (1, 176), (2, 64), (3, 114), (4, 118), (5, 3), (6, 30)]), 8, 144, (.agg #[(.slice none 0 0), (.slice none 0 0), (.slice none 0 0), (.slice none 0 0), (.slice none 0 0), (.int .i64 0), (.int .i64 0), (.int .i64 0)])⟩),
  (178, ⟨(.struct [(0, 40), (1, 176), (2, 64), (3, 114), (4, 118), (5, 3), (6, 30)]), 8, 144, (.agg #[(.slice none 0 0), (.slice none 0 0), (.slice none 0 0), (.slice none 0 0), (.slice none 0 0), (.int .i64 0), (.int .i64 0), (.int .i64 0)])⟩),
  (182, ⟨(.struct [(0, 9), (1, 73), (5, 50), (7, 3), (8, 4), (9, 3), (10, 118), (11, 3)]), 12, 128, (.agg #[(.string ⟨#[]⟩), (.int .i64 0), (.int .i64 0), (.int .i64 0), (.int .i64 0), (.string ⟨#[]⟩), (.int .i64 0), (.int .i64 0), (.bool false), (.int .i64 0), (.slice none 0 0), (.int .i64 0)])⟩),
  (183, ⟨(.struct [(0, 9), (1, 73), (5, 50), (7, 3), (8, 4), (9, 3), (10, 118), (11, 3)]), 12, 128, (.agg #[(.string ⟨#[]⟩), (.int .i64 0), (.int .i64 0), (.int .i64 0), (.int .i64 0), (.string ⟨#[]⟩), (.int .i64 0), (.int .i64 0), (.bool false), (.int .i64 0), (.slice none 0 0), (.int .i64 0)])⟩),
  (196, ⟨(.struct [(0, 9), (1, 64), (2, 58)]), 3, 64, (.agg #[(.string ⟨#[]⟩), (.slice none 0 0), (.slice none 0 0)])⟩),
  (197, ⟨(.struct [(0, 9), (1, 64), (2, 58)]), 3, 64, (.agg #[(.string ⟨#[]⟩), (.slice none 0 0), (.slice none 0 0)])⟩),
  (198, ⟨(.slice 201), 1, 24, (.slice none 0 0)⟩),
  (200, ⟨(.struct [(0, 3), (1, 9), (2, 3), (3, 3)]), 4, 40, (.agg #[(.int .i64 0), (.string ⟨#[]⟩), (.int .i64 0), (.int .i64 0)])⟩),
  (201, ⟨(.struct [(0, 3), (1, 9), (2, 3), (3, 3)]), 4, 40, (.agg #[(.int .i64 0), (.string ⟨#[]⟩), (.int .i64 0), (.int .i64 0)])⟩),
  (204, ⟨(.int .u64), 1, 8, (.int .u64 0)⟩),
  (206, ⟨(.ptr 5), 1, 8, (.pointer none)⟩),
  (209, ⟨(.arr 256 5), 256, 256, (.agg #[(.int .u8 0), (.int .u8 0), (.int .u8 0), (.int .u8 0), (.int .u8 0), (.int .u8 0), (.int .u8 0), (.int .u8 0), (.int .u8 0), (.int .u8 0), (.int .u8 0), (.int .u8 0), (.int .u8 0), (.int .u8 0), (.int .u8 0), (.int .u8 0), (.int .u8 0), (.int .u8 0), (.int .u8 0), (.int .u8 0), (.int .u8 0), (.int .u8 0), (.int .u8 0), (.int .u8 0), (.int .u8 0), (.int .u8 0), (.int .u8 0), (.int .u8 0), (.int .u8 0), (.int .u8 0), (.int .u8 0), (.int .u8 0), (.int .u8 0), (.int .u8 0), (.int .u8 0), (.int .u8 0), (.int .u8 0), (.int .u8 0), (.int .u8 0), (.int .u8 0), (.int .u8 0), (.int .u8 0), (.int .u8 0), (.int .u8 0), (.int .u8 0), (.int .u8 0), (.int .u8 0), (.int .u8 0), (.int .u8 0), (.int .u8 0), (.int .u8 0), (.int .u8 0), (.int .u8 0), (.int .u8 0), (.int .u8 0), (.int .u8 0), (.int .u8 0), (.int .u8 0), (.int .u8 0), (.int .u8 0), (.int .u8 0), (.int .u8 0), (.int .u8 0), (.int .u8 0), (.int .u8 0), (.int .u8 0), (.int .u8 0), (.int .u8 0), (.int .u8 0), (.int .u8 0), (.int .u8 0), (.int .u8 0), (.int .u8 0), (.int .u8 0), (.int .u8 0), (.int .u8 0), (.int .u8 0), (.int .u8 0), (.int .u8 0), (.int .u8 0), (.int .u8 0), (.int .u8 0), (.int .u8 0), (.int .u8 0), (.int .u8 0), (.int .u8 0), (.int .u8 0), (.int .u8 0), (.int .u8 0), (.int .u8 0), (.int .u8 0), (.int .u8 0), (.int .u8 0), (.int .u8 0), (.int .u8 0), (.int .u8 0), (.int .u8 0), (.int .u8 0), (.int .u8 0), (.int .u8 0), (.int .u8 0), (.int .u8 0), (.int .u8 0), (.int .u8 0), (.int .u8 0), (.int .u8 0), (.int .u8 0), (.int .u8 0), (.int .u8 0), (.int .u8 0), (.int .u8 0), (.int .u8 0), (.int .u8 0), (.int .u8 0), (.int .u8 0), (.int .u8 0), (.int .u8 0), (.int .u8 0), (.int .u8 0), (.int .u8 0), (.int .u8 0), (.int .u8 0), (.int .u8 0), (.int .u8 0), (.int .u8 0), (.int .u8 0), (.int .u8 0), (.int .u8 0), (.int .u8 0), (.int .u8 0), (.int .u8 0), (.int .u8 0), (.int .u8 0), (.int .u8 0), (.int .u8 0), (.int .u8 0), (.int .u8 0), (.int .u8 0), (.int .u8 0), (.int .u8 0), (.int .u8 0), (.int .u8 0), (.int .u8 0), (.int .u8 0), (.int .u8 0), (.int .u8 0), (.int .u8 0), (.int .u8 0), (.int .u8 0), (.int .u8 0), (.int .u8 0), (.int .u8 0), (.int .u8 0), (.int .u8 0), (.int .u8 0), (.int .u8 0), (.int .u8 0), (.int .u8 0), (.int .u8 0), (.int .u8 0), (.int .u8 0), (.int .u8 0), (.int .u8 0), (.int .u8 0), (.int .u8 0), (.int .u8 0), (.int .u8 0), (.int .u8 0), (.int .u8 0), (.int .u8 0), (.int .u8 0), (.int .u8 0), (.int .u8 0), (.int .u8 0), (.int .u8 0), (.int .u8 0), (.int .u8 0), (.int .u8 0), (.int .u8 0), (.int .u8 0), (.int .u8 0), (.int .u8 0), (.int .u8 0), (.int .u8 0), (.int .u8 0), (.int .u8 0), (.int .u8 0), (.int .u8 0), (.int .u8 0), (.int .u8 0), (.int .u8 0), (.int .u8 0), (.int .u8 0), (.int .u8 0), (.int .u8 0), (.int .u8 0), (.int .u8 0), (.int .u8 0), (.int .u8 0), (.int .u8 0), (.int .u8 0), (.int .u8 0), (.int .u8 0), (.int .u8 0), (.int .u8 0), (.int .u8 0), (.int .u8 0), (.int .u8 0), (.int .u8 0), (.int .u8 0), (.int .u8 0), (.int .u8 0), (.int .u8 0), (.int .u8 0), (.int .u8 0), (.int .u8 0), (.int .u8 0), (.int .u8 0), (.int .u8 0), (.int .u8 0), (.int .u8 0), (.int .u8 0), (.int .u8 0), (.int .u8 0), (.int .u8 0), (.int .u8 0), (.int .u8 0), (.int .u8 0), (.int .u8 0), (.int .u8 0), (.int .u8 0), (.int .u8 0), (.int .u8 0), (.int .u8 0), (.int .u8 0), (.int .u8 0), (.int .u8 0), (.int .u8 0), (.int .u8 0), (.int .u8 0), (.int .u8 0), (.int .u8 0), (.int .u8 0), (.int .u8 0), (.int .u8 0), (.int .u8 0), (.int .u8 0), (.int .u8 0), (.int .u8 0), (.int .u8 0), (.int .u8 0), (.int .u8 0), (.int .u8 0), (.int .u8 0), (.int .u8 0), (.int .u8 0)])⟩),
  (210, ⟨(.int .u64), 1, 8, (.int .u64 0)⟩),
  (216, ⟨(.map 9 9), 1, 8, (.map none)⟩),
  (220, ⟨(.struct [(0, 64), (1, 58)]), 2, 48, (.agg #[(.slice none 0 0), (.slice none 0 0)])⟩),
  (221, ⟨(.struct [(0, 64), (1, 58)]), 2, 48, (.agg #[(.slice none 0 0), (.slice none 0 0)])⟩),
  (226, ⟨(.slice 231), 1, 24, (.slice none 0 0)⟩),
  (228, ⟨(.map 9 3), 1, 8, (.map none)⟩),
  (230, ⟨(.struct [(0, 9), (1, 3), (2, 50)]), 4, 48, (.agg #[(.string ⟨#[]⟩), (.int .i64 0), (.string ⟨#[]⟩), (.int .i64 0)])⟩),
  (231, ⟨(.struct [(0, 9), (1, 3), (2, 50)]), 4, 48, (.agg #[(.string ⟨#[]⟩), (.int .i64 0), (.string ⟨#[]⟩), (.int .i64 0)])⟩),
  (245, ⟨(.slice 39), 1, 24, (.slice none 0 0)⟩),
  (250, ⟨(.ptr 268), 1, 8, (.pointer none)⟩),
  (259, ⟨(.arr 24 5), 24, 24, (.agg #[(.int .u8 0), (.int .u8 0), (.int .u8 0), (.int .u8 0), (.int .u8 0), (.int .u8 0), (.int .u8 0), (.int .u8 0), (.int .u8 0), (.int .u8 0), (.int .u8 0), (.int .u8 0), (.int .u8 0), (.int .u8 0), (.int .u8 0), (.int .u8 0), (.int .u8 0), (.int .u8 0), (.int .u8 0), (.int .u8 0), (.int .u8 0), (.int .u8 0), (.int .u8 0), (.int .u8 0)])⟩),
  (265, ⟨(.slice 271), 1, 24, (.slice none 0 0)⟩),
  (266, ⟨(.slice 274), 1, 24, (.slice none 0 0)⟩),
  (267, ⟨(.struct [(0, 265), (1, 266), (2, 3)]), 3, 56, (.agg #[(.slice none 0 0), (.slice none 0 0), (.int .i64 0)])⟩),
  (268, ⟨(.struct [(0, 265), (1, 266), (2, 3)]), 3, 56, (.agg #[(.slice none 0 0), (.slice none 0 0), (.int .i64 0)])⟩),
  (269, ⟨(.int .u16), 1, 2, (.int .u16 0)⟩),
  (270, ⟨(.struct [(0, 269), (1, 269), (2, 269)]), 3, 6, (.agg #[(.int .u16 0), (.int .u16 0), (.int .u16 0)])⟩),
  (271, ⟨(.struct [(0, 269), (1, 269), (2, 269)]), 3, 6, (.agg #[(.int .u16 0), (.int .u16 0), (.int .u16 0)])⟩),
  (273, ⟨(.struct [(0, 122), (1, 122), (2, 122)]), 3, 12, (.agg #[(.int .u32 0), (.int .u32 0), (.int .u32 0)])⟩),
  (274, ⟨(.struct [(0, 122), (1, 122), (2, 122)]), 3, 12, (.agg #[(.int .u32 0), (.int .u32 0), (.int .u32 0)])⟩),
  (277, ⟨(.int .i64), 1, 8, (.int .i64 0)⟩),
  (278, ⟨(.ptr 299), 1, 8, (.pointer none)⟩),
  (281, ⟨(.ptr 284), 1, 8, (.pointer none)⟩),
  (282, ⟨(.slice 28), 1, 24, (.slice none 0 0)⟩),
  (283, ⟨(.struct [(0, 39), (1, 3), (2, 282)]), 3, 56, (.agg #[(.slice none 0 0), (.int .i64 0), (.slice none 0 0)])⟩),
  (284, ⟨(.struct [(0, 39), (1, 3), (2, 282)]), 3, 56, (.agg #[(.slice none 0 0), (.int .i64 0), (.slice none 0 0)])⟩),
  (285, ⟨(.map 9 114), 1, 8, (.map none)⟩),
  (287, ⟨(.arr 20 210), 20, 160, (.agg #[(.int .u64 0), (.int .u64 0), (.int .u64 0), (.int .u64 0), (.int .u64 0), (.int .u64 0), (.int .u64 0), (.int .u64 0), (.int .u64 0), (.int .u64 0), (.int .u64 0), (.int .u64 0), (.int .u64 0), (.int .u64 0), (.int .u64 0), (.int .u64 0), (.int .u64 0), (.int .u64 0), (.int .u64 0), (.int .u64 0)])⟩),
  (288, ⟨(.arr 65 5), 65, 65, (.agg #[(.int .u8 0), (.int .u8 0), (.int .u8 0), (.int .u8 0), (.int .u8 0), (.int .u8 0), (.int .u8 0), (.int .u8 0), (.int .u8 0), (.int .u8 0), (.int .u8 0), (.int .u8 0), (.int .u8 0), (.int .u8 0), (.int .u8 0), (.int .u8 0), (.int .u8 0), (.int .u8 0), (.int .u8 0), (.int .u8 0), (.int .u8 0), (.int .u8 0), (.int .u8 0), (.int .u8 0), (.int .u8 0), (.int .u8 0), (.int .u8 0), (.int .u8 0), (.int .u8 0), (.int .u8 0), (.int .u8 0), (.int .u8 0), (.int .u8 0), (.int .u8 0), (.int .u8 0), (.int .u8 0), (.int .u8 0), (.int .u8 0), (.int .u8 0), (.int .u8 0), (.int .u8 0), (.int .u8 0), (.int .u8 0), (.int .u8 0), (.int .u8 0), (.int .u8 0), (.int .u8 0), (.int .u8 0), (.int .u8 0), (.int .u8 0), (.int .u8 0), (.int .u8 0), (.int .u8 0), (.int .u8 0), (.int .u8 0), (.int .u8 0), (.int .u8 0), (.int .u8 0), (.int .u8 0), (.int .u8 0), (.int .u8 0), (.int .u8 0), (.int .u8 0), (.int .u8 0), (.int .u8 0)])⟩),
  (291, ⟨(.ptr 271), 1, 8, (.pointer none)⟩),
  (292, ⟨(.ptr 274), 1, 8, (.pointer none)⟩),
  (293, ⟨(.struct [(0, 5), (1, 5)]), 2, 2, (.agg #[(.int .u8 0), (.int .u8 0)])⟩),
  (294, ⟨(.struct [(0, 5), (1, 5)]), 2, 2, (.agg #[(.int .u8 0), (.int .u8 0)])⟩),
  (295, ⟨(.arr 16 294), 32, 32, (.agg #[(.int .u8 0), (.int .u8 0), (.int .u8 0), (.int .u8 0), (.int .u8 0), (.int .u8 0), (.int .u8 0), (.int .u8 0), (.int .u8 0), (.int .u8 0), (.int .u8 0), (.int .u8 0), (.int .u8 0), (.int .u8 0), (.int .u8 0), (.int .u8 0), (.int .u8 0), (.int .u8 0), (.int .u8 0), (.int .u8 0), (.int .u8 0), (.int .u8 0), (.int .u8 0), (.int .u8 0), (.int .u8 0), (.int .u8 0), (.int .u8 0), (.int .u8 0), (.int .u8 0), (.int .u8 0), (.int .u8 0), (.int .u8 0)])⟩),
  (298, ⟨(.struct [(0, 9), (1, 9), (2, 141)]), 3, 48, (.agg #[(.string ⟨#[]⟩), (.string ⟨#[]⟩), .nilIface])⟩),
  (299, ⟨(.struct [(0, 9), (1, 9), (2, 141)]), 3, 48, (.agg #[(.string ⟨#[]⟩), (.string ⟨#[]⟩), .nilIface])⟩),
  (303, ⟨(.ptr 305), 1, 8, (.pointer none)⟩),
  (304, ⟨(.struct [(0, 9)]), 1, 16, (.agg #[(.string ⟨#[]⟩)])⟩),
  (305, ⟨(.struct [(0, 9)]), 1, 16, (.agg #[(.string ⟨#[]⟩)])⟩),
  (306, ⟨(.arr 32 5), 32, 32, (.agg #[(.int .u8 0), (.int .u8 0), (.int .u8 0), (.int .u8 0), (.int .u8 0), (.int .u8 0), (.int .u8 0), (.int .u8 0), (.int .u8 0), (.int .u8 0), (.int .u8 0), (.int .u8 0), (.int .u8 0), (.int .u8 0), (.int .u8 0), (.int .u8 0), (.int .u8 0), (.int .u8 0), (.int .u8 0), (.int .u8 0), (.int .u8 0), (.int .u8 0), (.int .u8 0), (.int .u8 0), (.int .u8 0), (.int .u8 0), (.int .u8 0), (.int .u8 0), (.int .u8 0), (.int .u8 0), (.int .u8 0), (.int .u8 0)])⟩),
  (307, ⟨(.arr 64 5), 64, 64, (.agg #[(.int .u8 0), (.int .u8 0), (.int .u8 0), (.int .u8 0), (.int .u8 0), (.int .u8 0), (.int .u8 0), (.int .u8 0), (.int .u8 0), (.int .u8 0), (.int .u8 0), (.int .u8 0), (.int .u8 0), (.int .u8 0), (.int .u8 0), (.int .u8 0), (.int .u8 0), (.int .u8 0), (.int .u8 0), (.int .u8 0), (.int .u8 0), (.int .u8 0), (.int .u8 0), (.int .u8 0), (.int .u8 0), (.int .u8 0), (.int .u8 0), (.int .u8 0), (.int .u8 0), (.int .u8 0), (.int .u8 0), (.int .u8 0), (.int .u8 0), (.int .u8 0), (.int .u8 0), (.int .u8 0), (.int .u8 0), (.int .u8 0), (.int .u8 0), (.int .u8 0), (.int .u8 0), (.int .u8 0), (.int .u8 0), (.int .u8 0), (.int .u8 0), (.int .u8 0), (.int .u8 0), (.int .u8 0), (.int .u8 0), (.int .u8 0), (.int .u8 0), (.int .u8 0), (.int .u8 0), (.int .u8 0), (.int .u8 0), (.int .u8 0), (.int .u8 0), (.int .u8 0), (.int .u8 0), (.int .u8 0), (.int .u8 0), (.int .u8 0), (.int .u8 0), (.int .u8 0)])⟩)]
theorem tabOk : TabOk Tryd.prog tab :=
  .cons tk3 <| .cons tk4 <| .cons tk5 <| .cons tk9 <| .cons tk22 <| .cons tk2 <| .cons tk12 <| .cons tk20 <| .cons tk21 <| .cons tk24 <| .cons tk25 <| .cons tk26 <| .cons tk27 <| .cons tk28 <| .cons tk29 <| .cons tk30 <| .cons tk39 <| .cons tk40 <| .cons tk41 <| .cons tk42 <| .cons tk43 <| .cons tk49 <| .cons tk50 <| .cons tk55 <| .cons tk58 <| .cons tk62 <| .cons tk63 <| .cons tk64 <| .cons tk67 <| .cons tk68 <| .cons tk72 <| .cons tk73 <| .cons tk88 <| .cons tk89 <| .cons tk90 <| .cons tk91 <| .cons tk97 <| .cons tk98 <| .cons tk99 <| .cons tk104 <| .cons tk105 <| .cons tk106 <| .cons tk112 <| .cons tk114 <| .cons tk115 <| .cons tk116 <| .cons tk118 <| .cons tk122 <| .cons tk123 <| .cons tk124 <| .cons tk125 <| .cons tk126 <| .cons tk136 <| .cons tk137 <| .cons tk138 <| .cons tk140 <| .cons tk141 <| .cons tk145 <| .cons tk146 <| .cons tk147 <| .cons tk149 <| .cons tk158 <| .cons tk159 <| .cons tk160 <| .cons tk167 <| .cons tk171 <| .cons tk172 <| .cons tk173 <| .cons tk174 <| .cons tk175 <| .cons tk176 <| .cons tk177 <| .cons tk178 <| .cons tk182 <| .cons tk183 <| .cons tk196 <| .cons tk197 <| .cons tk198 <| .cons tk200 <| .cons tk201 <| .cons tk204 <| .cons tk206 <| .cons tk209 <| .cons tk210 <| .cons tk216 <| .cons tk220 <| .cons tk221 <| .cons tk226 <| .cons tk228 <| .cons tk230 <| .cons tk231 <| .cons tk245 <| .cons tk250 <| .cons tk259 <| .cons tk265 <| .cons tk266 <| .cons tk267 <| .cons tk268 <| .cons tk269 <| .cons tk270 <| .cons tk271 <| .cons tk273 <| .cons tk274 <| .cons tk277 <| .cons tk278 <| .cons tk281 <| .cons tk282 <| .cons tk283 <| .cons tk284 <| .cons tk285 <| .cons tk287 <| .cons tk288 <| .cons tk291 <| .cons tk292 <| .cons tk293 <| .cons tk294 <| .cons tk295 <| .cons tk298 <| .cons tk299 <| .cons tk303 <| .cons tk304 <| .cons tk305 <| .cons tk306 <| .cons tk307 <| .nil _
theorem mixed : Tryd.prog.follows .mixedOrders = true := by kernel_rfl
theorem vcOk {n : Nat} {E : Entry} (c : Code) {Q : Ex → List (Nat × D) → List Ob → Prop} {σ : List (Nat × D)} {L : List Ob} (h : vcK Tryd.prog tab n E c Q σ L) : AWP Tryd.prog n E c Q σ L := awp_vc tabOk mixed c h

abbrev n_gosem_cut_init : Nat := 2
abbrev n_pllaw6_ObjUnit : Nat := 3
abbrev n_pllaw3_ExprPrint : Nat := 4
abbrev n_pllaw3_ExprMoves : Nat := 5
abbrev n_pllaw4_MacroPlain : Nat := 6
abbrev n_pllaw4_MacroRept : Nat := 7
abbrev n_pllaw4_MacroIf : Nat := 8
abbrev n_pllaw8_DisTells : Nat := 9
abbrev n_pllaw2_ScanTells : Nat := 10
abbrev n_pllaw2_ScanPrint : Nat := 11
abbrev n_pllaw2_ScanLines : Nat := 12
abbrev n_pllaw6_alive : Nat := 13
abbrev n_plref4_Unit : Nat := 14
abbrev n_obj_Bytes : Nat := 15
abbrev n_obj_Parse : Nat := 16
abbrev n_plref4_SameObject : Nat := 17
abbrev n_pllaw3_alive : Nat := 18
abbrev n_expr_Parse : Nat := 19
abbrev n_plref1_Tokens : Nat := 20
abbrev n_expr_Print : Nat := 21
abbrev n_expr_Eval : Nat := 22
abbrev n_plref1_SameExpr : Nat := 23
abbrev n_plref1_Signed : Nat := 24
abbrev n_pllaw4_alive : Nat := 25
abbrev n_macro_Expand : Nat := 26
abbrev n_plref1_SameLines : Nat := 27
abbrev n_plref4_Head : Nat := 28
abbrev n_pllaw4_lines : Nat := 29
abbrev n_dis_Text : Nat := 30
abbrev n_plref6_Text : Nat := 31
abbrev n_plref1_Wrong : Nat := 32
abbrev n_dis_To : Nat := 33
abbrev n_plref6_To : Nat := 34
abbrev n_dis_Line : Nat := 35
abbrev n_plref6_Line : Nat := 36
abbrev n_scan_Tokens : Nat := 37
abbrev n_plref1_SameTokens : Nat := 38
abbrev n_scan_Name : Nat := 39
abbrev n_plref1_Name : Nat := 40
abbrev n_scan_Print : Nat := 41
abbrev n_plref1_Print : Nat := 42
abbrev n_scan_Lines : Nat := 43
abbrev n_plref1_Lines : Nat := 44
abbrev n_scan_Own : Nat := 45
abbrev n_pllaw2_alive : Nat := 46
abbrev n_obj_Wrong : Nat := 47
abbrev n_obj_Own : Nat := 48
abbrev n_plref4_Expand : Nat := 49
abbrev n_plref4_Build : Nat := 50
abbrev n_obj_num : Nat := 51
abbrev n_obj_text : Nat := 52
abbrev n_obj_reader_take : Nat := 53
abbrev n_obj_reader_num : Nat := 54
abbrev n_obj_reader_byte : Nat := 55
abbrev n_isa_Signed : Nat := 56
abbrev n_pllaw3_num : Nat := 57
abbrev n_pllaw3_sign : Nat := 58
abbrev n_expr_reader_at : Nat := 59
abbrev n_plref1_kind : Nat := 60
abbrev n_plref1_number : Nat := 61
abbrev n_plref1_Has : Nat := 62
abbrev n_strconv_Itoa : Nat := 63
abbrev n_expr_levels : Nat := 64
abbrev n_slices_Index_int_int : Nat := 65
abbrev n_slices_IndexFunc_api_Equ_api_Equ : Nat := 66
abbrev n_expr_Eval_1 : Nat := 67
abbrev n_expr_two : Nat := 68
abbrev n_macro_maker_lines : Nat := 69
abbrev n_dis_Text_1 : Nat := 70
abbrev n_isa_Decode : Nat := 71
abbrev n_isa_Get : Nat := 72
abbrev n_dis_fine : Nat := 73
abbrev n_isa_Encode : Nat := 74
abbrev n_slices_Contains_int_int : Nat := 75
abbrev n_strings_Builder_WriteString : Nat := 76
abbrev n_dis_name : Nat := 77
abbrev n_strings_Builder_String : Nat := 78
abbrev n_plref1_Decode : Nat := 79
abbrev n_plref6_hex : Nat := 80
abbrev n_plref1_Rows : Nat := 81
abbrev n_plref1_Range : Nat := 82
abbrev n_isa_Info : Nat := 83
abbrev n_strings_TrimSpace : Nat := 84
abbrev n_strings_Cut : Nat := 85
abbrev n_scan_reader_run : Nat := 86
abbrev n_scan_Tokens_1 : Nat := 87
abbrev n_scan_letter : Nat := 88
abbrev n_scan_Tokens_2 : Nat := 89
abbrev n_scan_digit : Nat := 90
abbrev n_scan_reader_number : Nat := 91
abbrev n_scan_reader_sign : Nat := 92
abbrev n_strings_Join : Nat := 93
abbrev n_strings_Split : Nat := 94
abbrev n_slices_Clone_byte_byte : Nat := 95
abbrev n_slices_Clone_api_Sym_api_Sym : Nat := 96
abbrev n_slices_Clone_api_Reloc_api_Reloc : Nat := 97
abbrev n_plref4_State_Do : Nat := 98
abbrev n_plref4_U_line : Nat := 99
abbrev n_plref4_U_flush : Nat := 100
abbrev n_plref4_U_Places : Nat := 101
abbrev n_plref4_U_Target : Nat := 102
abbrev n_plref4_Away : Nat := 103
abbrev n_plref4_U_emit : Nat := 104
abbrev n_isa_Put : Nat := 105
abbrev n_isa_signed : Nat := 106
abbrev n_expr_reader_one : Nat := 107
abbrev n_expr_reader_sign : Nat := 108
abbrev n_internal_strconv_Itoa : Nat := 109
abbrev n_expr_number : Nat := 110
abbrev n_macro_maker_fail : Nat := 111
abbrev n_macro_head : Nat := 112
abbrev n_macro_maker_block : Nat := 113
abbrev n_macro_maker_equ : Nat := 114
abbrev n_macro_maker_find : Nat := 115
abbrev n_macro_maker_call : Nat := 116
abbrev n_isa_rows : Nat := 117
abbrev n_isa_mask : Nat := 118
abbrev n_isa_uses : Nat := 119
abbrev n_isa_Wrong : Nat := 120
abbrev n_strings_Builder_copyCheck : Nat := 121
abbrev n_strconv_FormatInt : Nat := 122
abbrev n_strings_TrimFunc : Nat := 123
abbrev n_unicode_IsSpace : Nat := 124
abbrev n_strings_TrimRightFunc : Nat := 125
abbrev n_internal_stringslite_Cut : Nat := 126
abbrev n_scan_reader_number_1 : Nat := 127
abbrev n_strconv_ParseUint : Nat := 128
abbrev n_strings_Contains : Nat := 129
abbrev n_strings_HasPrefix : Nat := 130
abbrev n_strings_Builder_Grow : Nat := 131
abbrev n_strings_genSplit : Nat := 132
abbrev n_plref4_State_bad : Nat := 133
abbrev n_plref4_shut : Nat := 134
abbrev n_plref4_State_block : Nat := 135
abbrev n_plref4_State_equ : Nat := 136
abbrev n_plref4_State_call : Nat := 137
abbrev n_plref4_sign : Nat := 138
abbrev n_plref4_Reg : Nat := 139
abbrev n_plref4_U_bad : Nat := 140
abbrev n_plref4_U_operands : Nat := 141
abbrev n_plref4_U_data : Nat := 142
abbrev n_plref4_U_instr : Nat := 143
abbrev n_plref4_Bytes : Nat := 144
abbrev n_plref4_U_emit_1 : Nat := 145
abbrev n_plref1_Encode : Nat := 146
abbrev n_plref4_U_emit_2 : Nat := 147
abbrev n_plref4_U_emit_3 : Nat := 148
abbrev n_plref1_Put : Nat := 149
abbrev n_plref4_Up : Nat := 150
abbrev n_expr_reader_fail : Nat := 151
abbrev n_slices_Index_string_string : Nat := 152
abbrev n_internal_strconv_FormatInt : Nat := 153
abbrev n_macro_end : Nat := 154
abbrev n_macro_maker_define : Nat := 155
abbrev n_macro_maker_number : Nat := 156
abbrev n_macro_comma : Nat := 157
abbrev n_slices_ContainsFunc_api_Equ_api_Equ : Nat := 158
abbrev n_macro_maker_equ_1 : Nat := 159
abbrev n_slices_IndexFunc_macro_macro_macro_macro : Nat := 160
abbrev n_macro_maker_find_1 : Nat := 161
abbrev n_macro_args : Nat := 162
abbrev n_isa_Range : Nat := 163
abbrev n_strings_TrimLeftFunc : Nat := 165
abbrev n_unicode_isExcludingLatin : Nat := 166
abbrev n_strings_lastIndexFunc : Nat := 167
abbrev n_unicode_utf8_DecodeRuneInString : Nat := 168
abbrev n_internal_stringslite_Index : Nat := 169
abbrev n_internal_strconv_ParseUint : Nat := 170
abbrev n_strconv_toError : Nat := 171
abbrev n_strings_Index : Nat := 172
abbrev n_internal_stringslite_HasPrefix : Nat := 173
abbrev n_strings_Builder_grow : Nat := 174
abbrev n_strings_explode : Nat := 175
abbrev n_strings_Count : Nat := 176
abbrev n_plref4_State_define : Nat := 177
abbrev n_plref4_State_number : Nat := 178
abbrev n_plref1_Parse : Nat := 179
abbrev n_plref1_Eval : Nat := 180
abbrev n_plref4_find : Nat := 181
abbrev n_internal_strconv_small : Nat := 182
abbrev n_internal_strconv_numDigits : Nat := 183
abbrev n_internal_strconv_formatBase10 : Nat := 184
abbrev n_internal_strconv_formatBits : Nat := 185
abbrev n_slices_Contains_string_string : Nat := 186
abbrev n_strings_indexFunc : Nat := 187
abbrev n_unicode_is16 : Nat := 188
abbrev n_unicode_is32 : Nat := 189
abbrev n_unicode_utf8_DecodeLastRuneInString : Nat := 190
abbrev n_unicode_utf8_decodeRuneInStringSlow : Nat := 191
abbrev n_internal_stringslite_IndexByte : Nat := 192
abbrev n_internal_bytealg_Cutover : Nat := 194
abbrev n_internal_bytealg_IndexRabinKarp_string : Nat := 195
abbrev n_internal_strconv_lower : Nat := 196
abbrev n_internal_strconv_underscoreOK : Nat := 197
abbrev n_strconv_syntaxError : Nat := 198
abbrev n_strconv_rangeError : Nat := 199
abbrev n_strconv_baseError : Nat := 200
abbrev n_strconv_bitSizeError : Nat := 201
abbrev n_unicode_utf8_RuneCountInString : Nat := 203
abbrev n_plref1_P_Climb : Nat := 205
abbrev n_internal_strconv_log10Pow2 : Nat := 206
abbrev n_math_bits_Len64 : Nat := 207
abbrev n_internal_strconv_bool2_int : Nat := 208
abbrev n_internal_strconv_isPowerOfTwo : Nat := 209
abbrev n_math_bits_TrailingZeros : Nat := 210
abbrev n_unicode_utf8_RuneStart : Nat := 211
abbrev n_internal_bytealg_hashStr_string : Nat := 213
abbrev n_internal_stringslite_Clone : Nat := 214
abbrev n_errors_New : Nat := 215
abbrev n_plref1_P_Prime : Nat := 216
abbrev n_plref1_strength : Nat := 217
abbrev n_plref1_P_sign : Nat := 218
abbrev n_math_bits_TrailingZeros32 : Nat := 219
abbrev n_math_bits_TrailingZeros64 : Nat := 220
abbrev n_plref1_P_bad : Nat := 221
abbrev n_gosem_cut_vars : Nat := 256

end Go.Proofs.YtholdembikenfaaDoor

namespace Go.Proofs.YtholdembikenfaaDoor
open Go Go.Plat
set_option linter.unusedVariables false
set_option linter.unusedSimpArgs false
set_option maxRecDepth 100000
set_option maxHeartbeats 2000000
attribute [local irreducible] NilS LookS NormM bitI BytesS NormL Arith QuoS RemS ShlS ShrS BitS CatS SplitS SideS IdxS CallS LoopEnd EndS ModeS DrawS AWP Meets

inductive OExpr where
  | mk (kind n : Int) (name : List UInt8) (kids : List OExpr)
def OExpr.kind : OExpr → Int | .mk k _ _ _ => k
def OExpr.n : OExpr → Int | .mk _ n _ _ => n
def OExpr.name : OExpr → List UInt8 | .mk _ _ s _ => s
def OExpr.kids : OExpr → List OExpr | .mk _ _ _ ks => ks
mutual
def exprD : OExpr → D
  | .mk k n s ks => .agg [.int .i64 k, .int .i64 n, .str s, .sl 4 (exprDs ks) none]
def exprDs : List OExpr → List D
  | [] => []
  | e :: es => exprD e :: exprDs es
end
mutual
def nodes : OExpr → Nat
  | .mk _ _ s ks => 1 + s.length + nodesL ks
def nodesL : List OExpr → Nat
  | [] => 0
  | e :: es => nodes e + nodesL es
end
theorem exprDs_map : ∀ l : List OExpr, exprDs l = l.map exprD
  | [] => by rw [exprDs]; rfl
  | e :: es => by rw [exprDs, exprDs_map es]; rfl
/-- one level of it -/
def exprU (e : OExpr) : D := .agg [.int .i64 e.kind, .int .i64 e.n, .str e.name, .sl 4 (e.kids.map exprD) none]
theorem mk_kind (k n : Int) (s : List UInt8) (ks : List OExpr) : (OExpr.mk k n s ks).kind = k := rfl
theorem mk_n (k n : Int) (s : List UInt8) (ks : List OExpr) : (OExpr.mk k n s ks).n = n := rfl
theorem mk_name (k n : Int) (s : List UInt8) (ks : List OExpr) : (OExpr.mk k n s ks).name = s := rfl
theorem mk_kids (k n : Int) (s : List UInt8) (ks : List OExpr) : (OExpr.mk k n s ks).kids = ks := rfl
theorem exprU_mk (k n : Int) (s : List UInt8) (ks : List OExpr) : exprU (.mk k n s ks) = .agg [.int .i64 k, .int .i64 n, .str s, .sl 4 (ks.map exprD) none] := rfl
theorem exprD_eq (e : OExpr) : exprD e = exprU e := by
  cases e with
  | mk k n s ks => rw [exprD, exprDs_map]; rfl
theorem map1 (a : OExpr) : [a].map exprD = [exprU a] := by rw [List.map_cons, exprD_eq]; rfl
theorem map2 (a b : OExpr) : [a, b].map exprD = [exprU a, exprU b] := by rw [List.map_cons, List.map_cons, exprD_eq, exprD_eq]; rfl
theorem nodes_pos (e : OExpr) : 0 < nodes e := by cases e; rw [nodes]; omega
theorem nodesL_mem : ∀ {l : List OExpr} {x : OExpr}, x ∈ l → nodes x ≤ nodesL l
  | [], _, h => by simp at h
  | e :: es, x, h => by
    rw [nodesL]
    rcases List.mem_cons.1 h with rfl | h
    · omega
    · have := nodesL_mem h; omega
theorem nodesL_len : ∀ l : List OExpr, l.length ≤ nodesL l
  | [] => by rw [nodesL]; simp
  | e :: es => by
    have := nodesL_len es
    have := nodes_pos e
    rw [nodesL, List.length_cons]; omega
theorem nodes_kid {e x : OExpr} (h : x ∈ e.kids) : nodes x < nodes e := by
  cases e with
  | mk k n s ks => have := nodesL_mem (show x ∈ ks from h); rw [nodes]; omega
theorem kids_len (e : OExpr) : e.kids.length < nodes e := by
  cases e with
  | mk k n s ks => have := nodesL_len ks; rw [nodes]; show ks.length < _; omega
theorem name_len (e : OExpr) : e.name.length < nodes e := by
  cases e with
  | mk k n s ks => rw [nodes]; show s.length < _; omega
theorem ix_expr {l : List OExpr} {n : Int} {K : D → Prop} (x : OExpr) (h0 : 0 ≤ n) (h : l[n.toNat]? = some x) (hK : K (exprU x)) : IdxS (l.map exprD) n K := by
  unfold IdxS
  exact ⟨h0, exprU x, by rw [List.getElem?_map, h, ← exprD_eq]; rfl, hK⟩

open Classical in
noncomputable def sameE (a b : OExpr) : Bool := decide (a = b)
theorem sameE_no {a b : OExpr} (h : a ≠ b) : sameE a b = false := by classical exact decide_eq_false h
theorem sameE_yes {a b : OExpr} (h : a = b) : sameE a b = true := by classical exact decide_eq_true h
theorem sameE_ne {a b : OExpr} (h : sameE a b = false) : a ≠ b := fun e => by rw [sameE_yes e] at h; cases h
theorem sameE_eq {a b : OExpr} (h : sameE a b = true) : a = b := Classical.byContradiction fun e => by rw [sameE_no e] at h; cases h
theorem OExpr.ext' {a b : OExpr} (h1 : a.kind = b.kind) (h2 : a.n = b.n) (h3 : a.name = b.name) (h4 : a.kids = b.kids) : a = b := by
  cases a; cases b
  simp only [OExpr.kind, OExpr.n, OExpr.name, OExpr.kids] at h1 h2 h3 h4
  subst h1 h2 h3 h4
  rfl
theorem take_step3 {α : Type} {l m : List α} {k : Nat} {x : α} (h : l.take k = m.take k) (h1 : l[k]? = some x) (h2 : m[k]? = some x) : l.take (k + 1) = m.take (k + 1) := by
  rw [List.take_add_one, List.take_add_one, h, h1, h2]
attribute [local irreducible] exprD sameE nodes OExpr.kind OExpr.n OExpr.name OExpr.kids

theorem samee_meets : ∀ n : Nat, Meets Tryd.prog n_plref1_SameExpr (SpecP (fun ((a, b) : OExpr × OExpr) => nodes a ≤ n ∧ nodes a ≤ 1000000000) (fun (a, b) => [exprU a, exprU b]) fun (a, b) => .bool (sameE a b))
  | 0 => by
    refine meets_f tabOk Tryd.func23 rfl (by decide) ?_
    rintro ⟨a, b⟩ ⟨h, _⟩
    have := nodes_pos a
    omega
  | n + 1 => by
    have ih := samee_meets n
    refine meets_f tabOk Tryd.func23 rfl (by decide) ?_
    rintro ⟨a, b⟩ ⟨hn, hN⟩
    have hkl := kids_len a
    refine ⟨Nat.le_refl _, by simp [Tryd.f23], fun E hE => ?_⟩
    refine vcOk _ ?_
    (all_goals refine qgo ?_ <;> (repeat' first | exact trivial | intro hc | refine And.intro ?_ ?_) <;> refine Lf.mk ?_)
    · exact end_p (VS.mk (LeD.ff (sameE_no fun h => hc (by rw [h]))))
    · exact end_p (VS.mk (LeD.ff (sameE_no fun h => hc (by rw [h]))))
    · exact end_p (VS.mk (LeD.ff (sameE_no fun h => hc (by rw [h]))))
    · exact end_p (VS.mk (LeD.ff (sameE_no fun h => hc (by rw [h]))))
    rename_i h1 h2 h3
    have hkl2 : a.kids.length = b.kids.length := by omega
    refine awp_loop (α := Nat) (fun k => k ≤ a.kids.length ∧ a.kids.take k = b.kids.take k)
      (fun k => [(36, .int .i64 a.kids.length), (37, .int .i64 k), (2, .loc 0 0), (3, .loc 1 0)])
      (fun _ => [.cells [.int .i64 a.kind, .int .i64 a.n, .str a.name, .sl 4 (a.kids.map exprD) none], .cells [.int .i64 b.kind, .int .i64 b.n, .str b.name, .sl 4 (b.kids.map exprD) none]]) (fun k => a.kids.length - k) (fun _ => by simp [hE]) 0 ⟨Nat.zero_le _, by simp⟩ ?_ ?_
    · (repeat' (first | (refine VS.mk ?_) | exact trivial | exact rfl | refine And.intro ?_ ?_))
    rintro k ⟨hk, hst⟩
    refine vcOk _ ?_
    (all_goals refine qgo ?_ <;> (repeat' first | exact trivial | intro hc | refine And.intro ?_ ?_) <;> refine Lf.mk ?_)
    · obtain ⟨x, hx⟩ := at_of_lt (l := a.kids) (k := k) (by omega)
      obtain ⟨y, hy⟩ := at_of_lt (l := b.kids) (k := k) (by omega)
      have hxn := nodes_kid (List.mem_of_getElem? hx)
      refine ix_expr x (by omega) (by simpa using hx) ?_
      (all_goals refine qgo ?_ <;> (repeat' first | exact trivial | intro hc | refine And.intro ?_ ?_) <;> refine Lf.mk ?_)
      refine ix_expr y (by omega) (by simpa using hy) ?_
      (all_goals refine qgo ?_ <;> (repeat' first | exact trivial | intro hc | refine And.intro ?_ ?_) <;> refine Lf.mk ?_)
      refine call_p ih (x, y) ⟨by omega, by omega⟩ (VS.mk (LeL.of_eq rfl)) ?_
      (all_goals refine qgo ?_ <;> (repeat' first | exact trivial | intro hc | refine And.intro ?_ ?_) <;> refine Lf.mk ?_)
      · have hne := sameE_ne hc
        refine end_p (VS.mk (LeD.ff (sameE_no fun h => ?_)))
        rw [← h, hx] at hy
        exact hne (Option.some.inj hy)
      · have hxy := sameE_eq hc
        subst hxy
        refine loop_end (k + 1) ⟨by omega, take_step3 hst hx hy⟩ (by omega) ?_
        (repeat' (first | (refine VS.mk ?_) | exact trivial | exact rfl | refine And.intro ?_ ?_))
    · have hke : k = a.kids.length := by omega
      have hkids : a.kids = b.kids := by rw [hke, List.take_length, hkl2, List.take_length] at hst; exact hst
      exact end_p (VS.mk (LeD.tt (sameE_yes (OExpr.ext' h1 h2 h3 hkids))))
end Go.Proofs.YtholdembikenfaaDoor

namespace Go.Proofs.YtholdembikenfaaDoor
open Go Go.Plat
set_option linter.unusedVariables false
set_option linter.unusedSimpArgs false
set_option maxRecDepth 100000
set_option maxHeartbeats 2000000
attribute [local irreducible] NilS LookS NormM bitI BytesS NormL Arith QuoS RemS ShlS ShrS BitS CatS SplitS SideS IdxS CallS LoopEnd EndS ModeS DrawS AWP Meets

def signedI (n : Int) (k : Nat) : Int := if n % (2 : Int) ^ k / 2 ^ (k - 1) = 1 then n % (2 : Int) ^ k - 2 ^ k else n % (2 : Int) ^ k
theorem signed_meets : Meets Tryd.prog n_isa_signed (SpecP (fun ((n, k) : Int × Nat) => (k = 8 ∨ k = 12 ∨ k = 32)) (fun (n, k) => [.int .i64 n, .int .i64 k]) fun (n, k) => .int .i64 (signedI n k)) := by
  refine meets_f tabOk Tryd.func106 rfl (by decide) ?_
  rintro ⟨n, k⟩ hk
  refine ⟨Nat.le_refl _, by simp [Tryd.f106], fun E hE => ?_⟩
  rcases hk with hk | hk | hk <;> (have hk : k = _ := hk; subst hk; refine vcOk _ ?_)
  · have h0 := Int.emod_nonneg n (show (256 : Int) ≠ 0 by decide)
    have h1 := Int.emod_lt_of_pos n (show (0 : Int) < 256 by decide)
    have hd : signedI n 8 = if n % 256 / 128 = 1 then n % 256 - 256 else n % 256 := rfl
    (all_goals refine qgo ?_ <;> (repeat' first | exact trivial | intro hc | refine And.intro ?_ ?_) <;> refine Lf.mk ?_)
    refine shr_lit (s := 7) (m := 128) rfl (by decide) (by decide) ?_
    (all_goals refine qgo ?_ <;> (repeat' first | exact trivial | intro hc | refine And.intro ?_ ?_) <;> refine Lf.mk ?_)
    · skip
      refine end_p (VS.mk (LeD.of_eq (congrArg (D.int .i64) ?_)))
      rw [hd, if_pos hc]
      omega
    · refine end_p (VS.mk (LeD.of_eq (congrArg (D.int .i64) ?_)))
      rw [hd, if_neg hc]
  · have h0 := Int.emod_nonneg n (show (4096 : Int) ≠ 0 by decide)
    have h1 := Int.emod_lt_of_pos n (show (0 : Int) < 4096 by decide)
    have hd : signedI n 12 = if n % 4096 / 2048 = 1 then n % 4096 - 4096 else n % 4096 := rfl
    (all_goals refine qgo ?_ <;> (repeat' first | exact trivial | intro hc | refine And.intro ?_ ?_) <;> refine Lf.mk ?_)
    refine shl_lit (s := 12) (m := 4096) rfl (by decide) (by decide) (by decide) (by decide) ?_
    (all_goals refine qgo ?_ <;> (repeat' first | exact trivial | intro hc | refine And.intro ?_ ?_) <;> refine Lf.mk ?_)
    refine shr_lit (s := 11) (m := 2048) rfl (by decide) (by decide) ?_
    (all_goals refine qgo ?_ <;> (repeat' first | exact trivial | intro hc | refine And.intro ?_ ?_) <;> refine Lf.mk ?_)
    · refine shl_lit (s := 12) (m := 4096) rfl (by decide) (by decide) (by decide) (by decide) ?_
      (all_goals refine qgo ?_ <;> (repeat' first | exact trivial | intro hc | refine And.intro ?_ ?_) <;> refine Lf.mk ?_)
      refine end_p (VS.mk (LeD.of_eq (congrArg (D.int .i64) ?_)))
      rw [hd, if_pos hc]
      omega
    · refine end_p (VS.mk (LeD.of_eq (congrArg (D.int .i64) ?_)))
      rw [hd, if_neg hc]
  · have h0 := Int.emod_nonneg n (show (4294967296 : Int) ≠ 0 by decide)
    have h1 := Int.emod_lt_of_pos n (show (0 : Int) < 4294967296 by decide)
    have hd : signedI n 32 = if n % 4294967296 / 2147483648 = 1 then n % 4294967296 - 4294967296 else n % 4294967296 := rfl
    (all_goals refine qgo ?_ <;> (repeat' first | exact trivial | intro hc | refine And.intro ?_ ?_) <;> refine Lf.mk ?_)
    refine shl_lit (s := 32) (m := 4294967296) rfl (by decide) (by decide) (by decide) (by decide) ?_
    (all_goals refine qgo ?_ <;> (repeat' first | exact trivial | intro hc | refine And.intro ?_ ?_) <;> refine Lf.mk ?_)
    refine bit_mk (and_mask (k := 32) (by decide) (by decide)) ?_
    rw [show (2 : Int) ^ 32 = 4294967296 from rfl]
    (all_goals refine qgo ?_ <;> (repeat' first | exact trivial | intro hc | refine And.intro ?_ ?_) <;> refine Lf.mk ?_)
    refine shr_lit (s := 31) (m := 2147483648) rfl (by decide) (by decide) ?_
    (all_goals refine qgo ?_ <;> (repeat' first | exact trivial | intro hc | refine And.intro ?_ ?_) <;> refine Lf.mk ?_)
    · refine shl_lit (s := 32) (m := 4294967296) rfl (by decide) (by decide) (by decide) (by decide) ?_
      (all_goals refine qgo ?_ <;> (repeat' first | exact trivial | intro hc | refine And.intro ?_ ?_) <;> refine Lf.mk ?_)
      refine end_p (VS.mk (LeD.of_eq (congrArg (D.int .i64) ?_)))
      rw [hd, if_pos hc]
      omega
    · refine end_p (VS.mk (LeD.of_eq (congrArg (D.int .i64) ?_)))
      rw [hd, if_neg hc]

theorem signed_meets2 : Meets Tryd.prog n_isa_Signed (SpecP (fun _ : Int => True) (fun n => [.int .i64 n]) fun n => .int .i64 (signedI n 32)) := by
  refine meets_f tabOk Tryd.func56 rfl (by decide) fun n _ => ?_
  refine ⟨Nat.le_refl _, by simp [Tryd.f56], fun E hE => ?_⟩
  refine vcOk _ ?_
  (all_goals refine qgo ?_ <;> (repeat' first | exact trivial | intro hc | refine And.intro ?_ ?_) <;> refine Lf.mk ?_)
  refine call_p signed_meets (n, 32) (.inr (.inr rfl)) (VS.mk (by (first | exact LeL.refl _ | (repeat' (first | exact LeL.nil | exact LeD.refl _ | exact LeD.nil _ | exact LeD.strip _ _ _ | refine LeL.cons ?_ ?_ | refine LeD.tup ?_ | refine LeD.agg ?_))))) ?_
  (all_goals refine qgo ?_ <;> (repeat' first | exact trivial | intro hc | refine And.intro ?_ ?_) <;> refine Lf.mk ?_)
  exact end_p (VS.mk (LeD.refl _))


end Go.Proofs.YtholdembikenfaaDoor

namespace Go.Proofs.YtholdembikenfaaDoor
open Go Go.Plat
set_option linter.unusedVariables false
set_option linter.unusedSimpArgs false
set_option maxRecDepth 100000
set_option maxHeartbeats 2000000
attribute [local irreducible] NilS LookS NormM bitI BytesS NormL Arith QuoS RemS ShlS ShrS BitS CatS SplitS SideS IdxS CallS LoopEnd EndS ModeS DrawS AWP Meets

def letterB (c : UInt8) : Bool := decide (97 ≤ c.toNat ∧ c.toNat ≤ 122 ∨ 65 ≤ c.toNat ∧ c.toNat ≤ 90 ∨ c.toNat = 95 ∨ c.toNat = 46)
def digitB (c : UInt8) : Bool := decide (48 ≤ c.toNat ∧ c.toNat ≤ 57)
def kindB (c : UInt8) : Int := if letterB c = true then 97 else if digitB c = true then 48 else if c.toNat = 32 ∨ c.toNat = 9 ∨ c.toNat = 13 then 32 else 0
theorem letter_meets : Meets Tryd.prog n_scan_letter (SpecP (fun _ : UInt8 => True) (fun c => [byteD c]) fun c => .bool (letterB c)) := by
  refine meets_f tabOk Tryd.func88 rfl (by decide) fun c _ => ?_
  refine ⟨Nat.le_refl _, by simp [Tryd.f88], fun E hE => ?_⟩
  refine vcOk _ ?_
  (all_goals refine qgo ?_ <;> (repeat' first | exact trivial | intro hc | refine And.intro ?_ ?_) <;> refine Lf.mk ?_)
  all_goals first
    | (refine end_p (VS.mk (LeD.tt ?_)); unfold letterB; rw [decide_eq_true_eq]; omega)
    | (refine end_p (VS.mk (LeD.ff ?_)); unfold letterB; rw [decide_eq_false_iff_not]; omega)
    | (refine end_p (VS.mk (LeD.of_eq (congrArg D.bool ?_))); unfold letterB; rw [Bool.eq_iff_iff]; simp only [beq_iff_eq, decide_eq_true_eq]; omega)
theorem digit_meets : Meets Tryd.prog n_scan_digit (SpecP (fun _ : UInt8 => True) (fun c => [byteD c]) fun c => .bool (digitB c)) := by
  refine meets_f tabOk Tryd.func90 rfl (by decide) fun c _ => ?_
  refine ⟨Nat.le_refl _, by simp [Tryd.f90], fun E hE => ?_⟩
  refine vcOk _ ?_
  (all_goals refine qgo ?_ <;> (repeat' first | exact trivial | intro hc | refine And.intro ?_ ?_) <;> refine Lf.mk ?_)
  all_goals first
    | (refine end_p (VS.mk (LeD.tt ?_)); unfold digitB; rw [decide_eq_true_eq]; omega)
    | (refine end_p (VS.mk (LeD.ff ?_)); unfold digitB; rw [decide_eq_false_iff_not]; omega)
    | (refine end_p (VS.mk (LeD.of_eq (congrArg D.bool ?_))); unfold digitB; rw [Bool.eq_iff_iff]; simp only [beq_iff_eq, decide_eq_true_eq]; omega)
theorem kind_meets : Meets Tryd.prog n_plref1_kind (SpecP (fun _ : UInt8 => True) (fun c => [byteD c]) fun c => .int .u8 (kindB c)) := by
  refine meets_f tabOk Tryd.func60 rfl (by decide) fun c _ => ?_
  refine ⟨Nat.le_refl _, by simp [Tryd.f60], fun E hE => ?_⟩
  refine vcOk _ ?_
  (all_goals refine qgo ?_ <;> (repeat' first | exact trivial | intro hc | refine And.intro ?_ ?_) <;> refine Lf.mk ?_)
  all_goals
    refine end_p (VS.mk (LeD.of_eq (congrArg (D.int .u8) ?_)))
    unfold kindB letterB digitB
    simp only [decide_eq_true_eq]
    (repeat' split) <;> omega

def nameB (s : List UInt8) : Bool := decide (1 ≤ s.length ∧ s.length ≤ 10) && letterB (s.getD 0 0) && s.all fun c => (letterB c || digitB c) && !(c == 46)
def okC (c : UInt8) : Bool := (letterB c || digitB c) && !(c == 46)
attribute [local irreducible] letterB digitB kindB

theorem all_take {p : UInt8 → Bool} {s : List UInt8} {k : Nat} (hk : k < s.length) : (s.take (k + 1)).all p = ((s.take k).all p && p (s.getD k 0)) := by
  rw [List.take_succ_eq_append_getElem hk, List.all_append]
  simp [List.getD_eq_getElem?_getD, List.getElem?_eq_getElem hk]
theorem all_stop {p : UInt8 → Bool} {s : List UInt8} {k : Nat} (hk : k < s.length) (h : p (s.getD k 0) = false) : s.all p = false := by
  rw [← List.take_append_drop k s, List.all_append, List.drop_eq_getElem_cons hk]
  have : s.getD k 0 = s[k] := by simp [List.getD_eq_getElem?_getD, List.getElem?_eq_getElem hk]
  rw [this] at h
  rw [List.all_cons, h, Bool.false_and, Bool.and_false]

theorem name_any : Meets Tryd.prog n_scan_Name (SpecP (fun _ : List UInt8 => True) (fun s => [.str s]) fun s => .bool (nameB s)) := by
  refine meets_f tabOk Tryd.func39 rfl (by decide) fun s _ => ?_
  refine ⟨Nat.le_refl _, by simp [Tryd.f39], fun E hE => ?_⟩
  refine vcOk _ ?_
  (all_goals refine qgo ?_ <;> (repeat' first | exact trivial | intro hc | refine And.intro ?_ ?_) <;> refine Lf.mk ?_)
  · refine end_p (VS.mk (LeD.ff ?_))
    unfold nameB
    rw [decide_eq_false (by omega)]
    rfl
  · refine end_p (VS.mk (LeD.ff ?_))
    unfold nameB
    rw [decide_eq_false (by omega)]
    rfl
  · refine end_p (VS.mk (LeD.ff ?_))
    have e : okC (s.getD 0 0) = false := by
      have : s.getD 0 0 = 46 := UInt8.toNat_inj.1 (by exact_mod_cast hc)
      rw [this]
      unfold okC
      rw [Bool.and_eq_false_iff]
      exact .inr rfl
    have h2 : s.all okC = false := all_stop (k := 0) (by omega) e
    show (_ && _ && s.all okC) = false
    rw [h2, Bool.and_false]
  refine call_p letter_meets (s.getD 0 0) trivial (VS.mk (LeL.of_eq rfl)) ?_
  (all_goals refine qgo ?_ <;> (repeat' first | exact trivial | intro hc | refine And.intro ?_ ?_) <;> refine Lf.mk ?_)
  · refine end_p (VS.mk (LeD.ff ?_))
    show (_ && letterB (s.getD 0 0) && _) = false
    rw [hc, Bool.and_false, Bool.false_and]
  have hl0 : letterB (s.getD 0 0) = true := by assumption
  refine awp_loop (α := Nat) (fun k => k ≤ s.length ∧ (s.take k).all okC = true) (fun k => [(0, .str s), (24, .int .i64 s.length), (25, .int .i64 k)]) (fun _ => []) (fun k => s.length - k) (fun _ => by simp [hE]) 0 ⟨Nat.zero_le _, by simp⟩ ?_ ?_
  · (repeat' (first | (refine VS.mk ?_) | exact trivial | exact rfl | refine And.intro ?_ ?_))
  rintro k ⟨hk, hall⟩
  refine vcOk _ ?_
  (all_goals refine qgo ?_ <;> (repeat' first | exact trivial | intro hc | refine And.intro ?_ ?_) <;> refine Lf.mk ?_)
  · have hidx : ((k : Int)).toNat = k := Int.toNat_natCast k
    have hk' : k < s.length := by omega
    have hst := all_take (p := okC) hk'
    have hsp := all_stop (p := okC) hk'
    have hok : okC (s.getD k 0) = ((letterB (s.getD k 0) || digitB (s.getD k 0)) && !(s.getD k 0 == 46)) := rfl
    have h46 : (((s.getD k 0).toNat : Nat) : Int) = 46 → okC (s.getD k 0) = false := fun h => by
      have : s.getD k 0 = 46 := UInt8.toNat_inj.1 (by exact_mod_cast h)
      rw [hok, this]
      rw [Bool.and_eq_false_iff]
      exact .inr rfl
    have n46 : ¬ (((s.getD k 0).toNat : Nat) : Int) = 46 → (s.getD k 0 == 46) = false := fun h => beq_eq_false_iff_ne.2 fun e => h (by rw [e]; rfl)
    have bad : okC (s.getD k 0) = false → nameB s = false := fun h => by
      show (_ && letterB (s.getD 0 0) && s.all okC) = false
      rw [hsp h, Bool.and_false]
    refine call_p letter_meets (s.getD k 0) trivial (VS.mk (LeL.of_eq (by rw [hidx]; rfl))) ?_
    (all_goals refine qgo ?_ <;> (repeat' first | exact trivial | intro hc | refine And.intro ?_ ?_) <;> refine Lf.mk ?_)
    · refine call_p digit_meets (s.getD k 0) trivial (VS.mk (LeL.of_eq (by rw [hidx]; rfl))) ?_
      (all_goals refine qgo ?_ <;> (repeat' first | exact trivial | intro hc | refine And.intro ?_ ?_) <;> refine Lf.mk ?_)
      · refine end_p (VS.mk (LeD.ff (bad ?_)))
        rw [hok, (by assumption : letterB (s.getD k 0) = false), (by assumption : digitB (s.getD k 0) = false)]
        rfl
      · rw [hidx] at hc
        exact end_p (VS.mk (LeD.ff (bad (h46 hc))))
      · rw [hidx] at hc
        refine loop_end (k + 1) ⟨by omega, ?_⟩ (by omega) ?_
        rotate_left
        · rw [hst, hall, hok, (by assumption : digitB (s.getD k 0) = true), n46 hc, Bool.or_true]
          rfl
        · (repeat' (first | (refine VS.mk ?_) | exact trivial | exact rfl | refine And.intro ?_ ?_))
    · rw [hidx] at hc
      exact end_p (VS.mk (LeD.ff (bad (h46 hc))))
    · rw [hidx] at hc
      refine loop_end (k + 1) ⟨by omega, ?_⟩ (by omega) ?_
      rotate_left
      · rw [hst, hall, hok, (by assumption : letterB (s.getD k 0) = true), n46 hc]
        rfl
      · (repeat' (first | (refine VS.mk ?_) | exact trivial | exact rfl | refine And.intro ?_ ?_))
  · refine end_p (VS.mk (LeD.tt ?_))
    rw [List.take_of_length_le (by omega)] at hall
    show (_ && letterB (s.getD 0 0) && s.all okC) = true
    rw [hl0, hall, decide_eq_true (by omega)]
    rfl
theorem meets_sub {P : Program} {f : Nat} {α : Type} {I J : α → Prop} {A : α → List D} {R : α → D} (h : Meets P f (SpecP I A R)) (hJ : ∀ p, J p → I p) : Meets P f (SpecP J A R) :=
  by
  unfold Meets at h ⊢
  exact ⟨h.1, fun av L d M ⟨p, hp, hr⟩ => h.2 av L d M ⟨p, hJ p hp, hr⟩⟩
theorem name_meets : Meets Tryd.prog n_scan_Name (SpecP (fun s : List UInt8 => s.length ≤ 1000000000) (fun s => [.str s]) fun s => .bool (nameB s)) := meets_sub name_any fun _ _ => trivial
end Go.Proofs.YtholdembikenfaaDoor

namespace Go.Proofs.YtholdembikenfaaDoor
open Go Go.Plat
set_option linter.unusedVariables false
set_option linter.unusedSimpArgs false
set_option maxRecDepth 100000
set_option maxHeartbeats 2000000
attribute [local irreducible] NilS LookS NormM bitI BytesS NormL Arith QuoS RemS ShlS ShrS BitS CatS SplitS SideS IdxS CallS LoopEnd EndS ModeS DrawS AWP Meets
attribute [local irreducible] signedI exprD nodes OExpr.kind OExpr.n OExpr.name OExpr.kids letterB digitB kindB nameB

structure OTok where
  kind : Int
  n : Int
  text : List UInt8
def tokD (t : OTok) : D := .agg [.int .i64 t.kind, .int .i64 t.n, .str t.text]
structure St where
  rest : List OTok
  err : Int
def noE : OExpr := .mk 0 0 [] []
def idxT (x : List UInt8) : List (List UInt8) → Nat → Int
  | [], _ => -1
  | s :: l, k => if x = s then k else idxT x l (k + 1)
def signs (k : Nat) : List (List UInt8) := match k with | 0 => [[124]] | 1 => [[38]] | 2 => [[60, 60], [62, 62]] | 3 => [[43], [45]] | _ => [[42]]
def kinds (k : Nat) : List Int := match k with | 0 => [11] | 1 => [10] | 2 => [8, 9] | 3 => [6, 7] | _ => [5]
def levD (k : Nat) : D := .agg [.sl 1 ((signs k).map .str) none, .sl 1 ((kinds k).map (.int .i64)) none]
def levsD : D := .sl 2 [levD 0, levD 1, levD 2, levD 3, levD 4] none

theorem levels_meets : Meets Tryd.prog n_expr_levels (SpecP (fun _ : Unit => True) (fun _ => []) fun _ => levsD) := by
  refine meets_f tabOk Tryd.func64 rfl (by decide) fun _ _ => ?_
  refine ⟨Nat.le_refl _, by simp [Tryd.f64], fun E hE => ?_⟩
  refine vcOk _ ?_
  (all_goals refine qgo ?_ <;> (repeat' first | exact trivial | intro hc | refine And.intro ?_ ?_) <;> refine Lf.mk ?_)
  exact end_p (VS.mk (LeD.of_eq rfl))

theorem index_meets : Meets Tryd.prog n_slices_Index_string_string (SpecP (fun ((l, x) : List (List UInt8) × List UInt8) => l.length ≤ 1000000000) (fun (l, x) => [.sl 1 (l.map .str) none, .str x]) fun (l, x) => .int .i64 (idxT x l 0)) := by
  refine meets_f tabOk Tryd.func152 rfl (by decide) ?_
  rintro ⟨l, x⟩ hl
  have hl : l.length ≤ 1000000000 := hl
  refine ⟨Nat.le_refl _, by simp [Tryd.f152], fun E hE => ?_⟩
  refine vcOk _ ?_
  (all_goals refine qgo ?_ <;> (repeat' first | exact trivial | intro hc | refine And.intro ?_ ?_) <;> refine Lf.mk ?_)
  refine awp_loop (α := Nat) (fun k => k ≤ l.length ∧ idxT x l 0 = idxT x (l.drop k) k)
    (fun k => [(7, .int .i64 l.length), (8, .int .i64 k), (0, .sl 1 (l.map .str) none), (1, .str x)])
    (fun _ => []) (fun k => l.length - k) (fun _ => by simp [hE]) 0 ⟨Nat.zero_le _, by simp⟩ ?_ ?_
  · (repeat' (first | (refine VS.mk ?_) | exact trivial | exact rfl | refine And.intro ?_ ?_))
  rintro k ⟨hk, hf⟩
  refine vcOk _ ?_
  (all_goals refine qgo ?_ <;> (repeat' first | exact trivial | intro hc | refine And.intro ?_ ?_) <;> refine Lf.mk ?_)
  · obtain ⟨s, hsk⟩ := at_of_lt (l := l) (k := k) (by omega)
    have hkl : k < l.length := by omega
    have hget : l[k] = s := by rw [List.getElem?_eq_getElem hkl] at hsk; exact Option.some.inj hsk
    rw [List.drop_eq_getElem_cons hkl, hget, idxT] at hf
    refine ix_map s (by omega) (by simpa using hsk) ?_
    (all_goals refine qgo ?_ <;> (repeat' first | exact trivial | intro hc | refine And.intro ?_ ?_) <;> refine Lf.mk ?_)
    · rw [if_pos hc] at hf
      exact end_p (VS.mk (LeD.of_eq (congrArg (D.int .i64) hf.symm)))
    · rw [if_neg hc] at hf
      refine loop_end (k + 1) ⟨by omega, hf⟩ (by omega) ?_
      (repeat' (first | (refine VS.mk ?_) | exact trivial | exact rfl | refine And.intro ?_ ?_))
  · rw [List.drop_of_length_le (by omega), idxT] at hf
    exact end_p (VS.mk (LeD.of_eq (congrArg (D.int .i64) hf.symm)))

def stO (s : St) : List Ob := [.cells [.sl 3 (s.rest.map tokD) none, .int .i64 s.err]]
def signI (l : List (List UInt8)) (s : St) : Int × St := match s.rest with
  | [] => (-1, s)
  | t :: r => if t.kind = 3 then (if 0 ≤ idxT t.text l 0 then (idxT t.text l 0, ⟨r, s.err⟩) else (-1, s)) else (-1, s)
def failS (s : St) (e : Int) : St := if s.err = 0 then ⟨s.rest, e⟩ else s
theorem idxT_lt (x : List UInt8) : ∀ (l : List (List UInt8)) (k : Nat), idxT x l k < 0 → idxT x l k = -1
  | [], k, _ => rfl
  | s :: l, k, h => by
    rw [idxT] at h ⊢
    split at h
    · omega
    · rename_i hn; rw [if_neg hn]; exact idxT_lt x l (k + 1) h

theorem noE_le : LeD (.agg [.int .i64 0, .int .i64 0, .str [], .nilsl]) (exprU noE) := by
  unfold noE
  rw [exprU_mk]
  exact .agg (.cons (.refl _) (.cons (.refl _) (.cons (.refl _) (.cons (.nil 4) .nil))))
theorem fail_meets : Meets Tryd.prog n_expr_reader_fail (SpecF (fun ((s, e) : St × Int) => True) (fun (s, e) => [.loc 0 0, .int .i64 e]) (fun (s, _) => stO s) (fun _ => exprU noE) fun (s, e) => stO (failS s e)) := by
  refine meets_f tabOk Tryd.func151 rfl (by decide) ?_
  rintro ⟨s, e⟩ -
  refine ⟨Nat.le_refl _, by simp [Tryd.f151], fun E hE => ?_⟩
  refine vcOk _ ?_
  (all_goals refine qgo ?_ <;> (repeat' first | exact trivial | intro hc | refine And.intro ?_ ?_) <;> refine Lf.mk ?_)
  · refine end_le (r1 := exprU noE) noE_le ?_ (Nat.le_refl _)
    refine end_mk ?_
    (repeat' (first | (refine VS.mk ?_) | exact trivial | exact rfl | refine And.intro ?_ ?_))
    · dsimp only; unfold failS stO; rw [if_pos hc]
  · refine end_le (r1 := exprU noE) noE_le ?_ (Nat.le_refl _)
    refine end_mk ?_
    (repeat' (first | (refine VS.mk ?_) | exact trivial | exact rfl | refine And.intro ?_ ?_))
    · dsimp only; unfold failS; rw [if_neg hc]; rfl

theorem sign_meets : Meets Tryd.prog n_expr_reader_sign (SpecF (fun ((s, l) : St × List (List UInt8)) => l.length ≤ 1000000000 ∧ s.rest.length ≤ 1000000000) (fun (s, l) => [.loc 0 0, .sl 1 (l.map .str) none]) (fun (s, _) => stO s) (fun (s, l) => .int .i64 (signI l s).1)
    fun (s, l) => stO (signI l s).2) := by
  refine meets_f tabOk Tryd.func108 rfl (by decide) ?_
  rintro ⟨⟨r, e⟩, l⟩ ⟨hl, hr⟩
  have hr : r.length ≤ 1000000000 := hr
  refine ⟨Nat.le_refl _, by simp [Tryd.f108], fun E hE => ?_⟩
  cases r with
  | nil =>
    refine vcOk _ ?_
    (all_goals refine qgp ?_ <;> (repeat' first | exact trivial | intro hc | refine And.intro ?_ ?_) <;> refine Lf.mk ?_)
    refine end_mk ?_
    (repeat' (first | (refine VS.mk ?_) | exact trivial | exact rfl | refine And.intro ?_ ?_))
  | cons t r =>
    have hr2 : r.length + 1 ≤ 1000000000 := hr
    refine vcOk _ ?_
    (all_goals refine qgp ?_ <;> (repeat' first | exact trivial | intro hc | refine And.intro ?_ ?_) <;> refine Lf.mk ?_)
    · refine end_mk ?_
      (repeat' (first | (refine VS.mk ?_) | exact trivial | exact rfl | refine And.intro ?_ ?_))
      all_goals (dsimp only [signI]; rw [if_neg hc]; try rfl)
    · refine call_p index_meets (l, t.text) hl (VS.mk (LeL.of_eq rfl)) ?_
      (all_goals refine qgp ?_ <;> (repeat' first | exact trivial | intro hc | refine And.intro ?_ ?_) <;> refine Lf.mk ?_)
      · refine end_mk ?_
        (repeat' (first | (refine VS.mk ?_) | exact trivial | exact rfl | refine And.intro ?_ ?_))
        all_goals (dsimp only [signI]; rw [if_pos (by assumption), if_pos hc]; try rfl)
      · refine end_mk ?_
        (repeat' (first | (refine VS.mk ?_) | exact trivial | exact rfl | refine And.intro ?_ ?_))
        all_goals (dsimp only [signI]; rw [if_pos (by assumption), if_neg hc])
        · exact congrArg (D.int .i64) (idxT_lt _ _ _ (by omega))
        · rfl
end Go.Proofs.YtholdembikenfaaDoor

namespace Go.Proofs.YtholdembikenfaaDoor
open Go Go.Plat
set_option linter.unusedVariables false
set_option linter.unusedSimpArgs false
set_option maxRecDepth 100000
set_option maxHeartbeats 2000000
attribute [local irreducible] NilS LookS NormM bitI BytesS NormL Arith QuoS RemS ShlS ShrS BitS CatS SplitS SideS IdxS CallS LoopEnd EndS ModeS DrawS AWP Meets
theorem kind_letter {c : UInt8} (h : kindB c = 97) : letterB c = true := by
  unfold kindB at h
  split at h
  · assumption
  split at h
  · cases h
  split at h <;> cases h
theorem kind_digit {c : UInt8} (h : kindB c = 48) : digitB c = true := by
  unfold kindB at h
  split at h
  · cases h
  split at h
  · assumption
  split at h <;> cases h
theorem kind_else {c : UInt8} (h : ¬ kindB c = 97) : letterB c = false := by
  unfold kindB at h
  split at h
  · exact (h rfl).elim
  · simpa using ‹¬ letterB c = true›
theorem kind_none {c : UInt8} (h : ¬ kindB c = 97) (h2 : ¬ kindB c = 48) : okC c = false := by
  have hl := kind_else h
  have hd : digitB c = false := by
    unfold kindB at h2
    rw [hl, if_neg (by decide)] at h2
    split at h2
    · exact (h2 rfl).elim
    · simpa using ‹¬ digitB c = true›
  unfold okC
  rw [hl, hd]
  rfl
theorem ok46 {c : UInt8} (h : ((c.toNat : Nat) : Int) = 46) : okC c = false := by
  have : c = 46 := UInt8.toNat_inj.1 (by exact_mod_cast h)
  subst this
  rfl
theorem okL {c : UInt8} (h : ¬ ((c.toNat : Nat) : Int) = 46) (h2 : letterB c = true ∨ digitB c = true) : okC c = true := by
  have n46 : (c == 46) = false := beq_eq_false_iff_ne.2 fun e => h (by rw [e]; rfl)
  unfold okC
  rw [n46]
  rcases h2 with h | h <;> rw [h] <;> simp
theorem nameB_bad {s : List UInt8} (h : s.all okC = false) : nameB s = false := by
  show (_ && letterB (s.getD 0 0) && s.all okC) = false
  rw [h, Bool.and_false]
theorem nameB_good {s : List UInt8} (h1 : 1 ≤ s.length ∧ s.length ≤ 10) (h2 : letterB (s.getD 0 0) = true) (h : s.all okC = true) : nameB s = true := by
  show (_ && letterB (s.getD 0 0) && s.all okC) = true
  rw [h, h2, decide_eq_true h1]
  rfl
attribute [local irreducible] letterB digitB kindB okC

theorem rname_any : Meets Tryd.prog n_plref1_Name (SpecP (fun _ : List UInt8 => True) (fun s => [.str s]) fun s => .bool (nameB s)) := by
  refine meets_f tabOk Tryd.func40 rfl (by decide) fun s _ => ?_
  refine ⟨Nat.le_refl _, by simp [Tryd.f40], fun E hE => ?_⟩
  refine vcOk _ ?_
  (all_goals refine qgo ?_ <;> (repeat' first | exact trivial | intro hc | refine And.intro ?_ ?_) <;> refine Lf.mk ?_)
  · subst hc
    exact end_p (VS.mk (LeD.ff rfl))
  · refine end_p (VS.mk (LeD.ff ?_))
    unfold nameB
    rw [decide_eq_false (by omega)]
    rfl
  have hne : 0 < s.length := by
    cases s with
    | nil => exact (‹¬ ([] : List UInt8) = []› rfl).elim
    | cons a l => simp
  refine sd_mk ⟨by omega, by omega⟩ ?_
  (all_goals refine qgo ?_ <;> (repeat' first | exact trivial | intro hc | refine And.intro ?_ ?_) <;> refine Lf.mk ?_)
  refine call_p kind_meets (s.getD 0 0) trivial (VS.mk (LeL.of_eq rfl)) ?_
  (all_goals refine qgo ?_ <;> (repeat' first | exact trivial | intro hc | refine And.intro ?_ ?_) <;> refine Lf.mk ?_)
  · refine end_p (VS.mk (LeD.ff ?_))
    show (_ && letterB (s.getD 0 0) && _) = false
    rw [kind_else hc, Bool.and_false, Bool.false_and]
  have hl0 : letterB (s.getD 0 0) = true := kind_letter hc
  refine awp_loop (α := Nat) (fun k => k ≤ s.length ∧ (s.take k).all okC = true) (fun k => [(0, .str s), (18, .int .i64 s.length), (19, .int .i64 k)]) (fun _ => []) (fun k => s.length - k) (fun _ => by simp [hE]) 0 ⟨Nat.zero_le _, by simp⟩ ?_ ?_
  · (repeat' (first | (refine VS.mk ?_) | exact trivial | exact rfl | refine And.intro ?_ ?_))
  rintro k ⟨hk, hall⟩
  refine vcOk _ ?_
  (all_goals refine qgo ?_ <;> (repeat' first | exact trivial | intro hc | refine And.intro ?_ ?_) <;> refine Lf.mk ?_)
  · have hsp := all_stop (p := okC) (s := s) (k := k) (by omega)
    rw [Int.toNat_natCast] at hc
    exact end_p (VS.mk (LeD.ff (nameB_bad (hsp (ok46 hc)))))
  · have hidx : ((k : Int)).toNat = k := Int.toNat_natCast k
    have hk' : k < s.length := by omega
    have hst := all_take (p := okC) hk'
    have hsp := all_stop (p := okC) hk'
    have h46 := hc
    rw [hidx] at h46
    refine call_p kind_meets (s.getD k 0) trivial (VS.mk (LeL.of_eq (by rw [hidx]; rfl))) ?_
    (all_goals refine qgo ?_ <;> (repeat' first | exact trivial | intro hc | refine And.intro ?_ ?_) <;> refine Lf.mk ?_)
    · refine call_p kind_meets (s.getD k 0) trivial (VS.mk (LeL.of_eq (by rw [hidx]; rfl))) ?_
      (all_goals refine qgo ?_ <;> (repeat' first | exact trivial | intro hc | refine And.intro ?_ ?_) <;> refine Lf.mk ?_)
      · exact end_p (VS.mk (LeD.ff (nameB_bad (hsp (kind_none (by assumption) hc)))))
      · refine loop_end (k + 1) ⟨by omega, by rw [hst, hall, okL h46 (.inr (kind_digit hc))]; rfl⟩ (by omega) ?_
        (repeat' (first | (refine VS.mk ?_) | exact trivial | exact rfl | refine And.intro ?_ ?_))
    · refine loop_end (k + 1) ⟨by omega, by rw [hst, hall, okL h46 (.inl (kind_letter hc))]; rfl⟩ (by omega) ?_
      (repeat' (first | (refine VS.mk ?_) | exact trivial | exact rfl | refine And.intro ?_ ?_))
  · have hlen : (s.length : Int) ≤ 10 := by omega
    rw [List.take_of_length_le (by omega)] at hall
    exact end_p (VS.mk (LeD.tt (nameB_good ⟨by omega, by omega⟩ hl0 hall)))
theorem rname_meets : Meets Tryd.prog n_plref1_Name (SpecP (fun s : List UInt8 => s.length ≤ 1000000000) (fun s => [.str s]) fun s => .bool (nameB s)) := meets_sub rname_any fun _ _ => trivial
end Go.Proofs.YtholdembikenfaaDoor

namespace Go.Proofs.YtholdembikenfaaDoor
open Go Go.Plat
set_option linter.unusedVariables false
set_option linter.unusedSimpArgs false
set_option maxRecDepth 100000
set_option maxHeartbeats 2000000
attribute [local irreducible] NilS LookS NormM bitI BytesS NormL Arith QuoS RemS ShlS ShrS BitS CatS SplitS SideS IdxS CallS LoopEnd EndS ModeS DrawS AWP Meets
attribute [local irreducible] signedI exprD nodes OExpr.kind OExpr.n OExpr.name OExpr.kids letterB digitB kindB nameB

def strT (t : List UInt8) : Int := if t = [124] then 1 else if t = [38] then 2 else if t = [60, 60] then 3 else if t = [62, 62] then 3 else if t = [43] then 4 else if t = [45] then 4 else if t = [42] then 5 else 0
def kndT (t : List UInt8) : Int := if t = [124] then 11 else if t = [38] then 10 else if t = [60, 60] then 8 else if t = [62, 62] then 9 else if t = [43] then 6 else if t = [45] then 7 else if t = [42] then 5 else 0
theorem strength_meets : Meets Tryd.prog n_plref1_strength (SpecP (fun _ : List UInt8 => True) (fun t => [.str t]) fun t => .tup [.int .i64 (strT t), .int .i64 (kndT t)]) := by
  refine meets_f tabOk Tryd.func217 rfl (by decide) fun t _ => ?_
  refine ⟨Nat.le_refl _, by simp [Tryd.f217], fun E hE => ?_⟩
  refine vcOk _ ?_
  (all_goals refine qgp ?_ <;> (repeat' first | exact trivial | intro hc | refine And.intro ?_ ?_) <;> refine Lf.mk ?_)
  all_goals (refine end_p (VS.mk (LeD.of_eq ?_)); unfold strT kndT)
  all_goals (first | (subst hc; rfl) | simp [*])

structure RSt where
  at_ : Nat
  errs : List Int
def rOb (L : List OTok) (s : RSt) : List Ob := [.cells [.sl 3 (L.map tokD) none, .int .i64 (s.at_ : Nat), .sl 1 (s.errs.map (.int .i64)) (some 1)], .spare s.errs.length]
def rsign (L : List OTok) (s : RSt) : List UInt8 := match L[s.at_]? with | some t => if t.kind = 3 then t.text else [] | none => []
def rbad (s : RSt) (e : Int) : RSt := ⟨s.at_, s.errs ++ [e]⟩

theorem rsign_meets (L : List OTok) : Meets Tryd.prog n_plref1_P_sign (SpecF (fun s : RSt => L.length ≤ 1000000000 ∧ s.at_ ≤ L.length) (fun _ => [.loc 0 0]) (rOb L) (fun s => .str (rsign L s)) fun s => rOb L s) := by
  refine meets_f tabOk Tryd.func218 rfl (by decide) ?_
  rintro s ⟨hL, hs⟩
  refine ⟨Nat.le_refl _, by simp [Tryd.f218], fun E hE => ?_⟩
  refine vcOk _ ?_
  (all_goals refine qgp ?_ <;> (repeat' first | exact trivial | intro hc | refine And.intro ?_ ?_) <;> refine Lf.mk ?_)
  · obtain ⟨t, ht⟩ := at_of_lt (l := L) (k := s.at_) (by omega)
    have hr : rsign L s = if t.kind = 3 then t.text else [] := by unfold rsign; rw [ht]
    refine ix_map t (by omega) (by simpa using ht) ?_
    (all_goals refine qgp ?_ <;> (repeat' first | exact trivial | intro hc | refine And.intro ?_ ?_) <;> refine Lf.mk ?_)
    · refine ix_map t (by omega) (by simpa using ht) ?_
      (all_goals refine qgp ?_ <;> (repeat' first | exact trivial | intro hc | refine And.intro ?_ ?_) <;> refine Lf.mk ?_)
      rw [if_pos hc] at hr
      refine end_mk ?_
      (repeat' (first | (refine VS.mk ?_) | exact trivial | exact rfl | refine And.intro ?_ ?_))
      rw [hr]
    · rw [if_neg hc] at hr
      refine end_mk ?_
      (repeat' (first | (refine VS.mk ?_) | exact trivial | exact rfl | refine And.intro ?_ ?_))
      rw [hr]
      try rfl
  · have hr : rsign L s = [] := by unfold rsign; rw [List.getElem?_eq_none (by omega)]
    refine end_mk ?_
    (repeat' (first | (refine VS.mk ?_) | exact trivial | exact rfl | refine And.intro ?_ ?_))
    rw [hr]
    try rfl

theorem rbad_meets (L : List OTok) : Meets Tryd.prog n_plref1_P_bad (SpecF (fun ((s, e) : RSt × Int) => s.errs.length ≤ 1000) (fun (_, e) => [.loc 0 0, .int .i64 e]) (fun (s, _) => rOb L s) (fun _ => exprU noE) fun (s, e) => rOb L (rbad s e)) := by
  refine meets_f tabOk Tryd.func221 rfl (by decide) ?_
  rintro ⟨s, e⟩ hs
  have hs : s.errs.length ≤ 1000 := hs
  refine ⟨Nat.le_refl _, by simp [Tryd.f221], fun E hE => ?_⟩
  refine vcOk _ ?_
  (all_goals refine qgp ?_ <;> (repeat' first | exact trivial | intro hc | refine And.intro ?_ ?_) <;> refine Lf.mk ?_)
  refine end_le (r1 := exprU noE) noE_le ?_ (Nat.le_refl _)
  refine end_mk ?_
  (repeat' (first | (refine VS.mk ?_) | exact trivial | exact rfl | refine And.intro ?_ ?_))
  all_goals (dsimp only [rOb, rbad]; rw [List.map_append]; simp)
end Go.Proofs.YtholdembikenfaaDoor

namespace Go.Proofs.YtholdembikenfaaDoor
open Go Go.Plat
set_option linter.unusedVariables false
set_option linter.unusedSimpArgs false
set_option maxRecDepth 100000
set_option maxHeartbeats 2000000
attribute [local irreducible] NilS LookS NormM bitI BytesS NormL Arith QuoS RemS ShlS ShrS BitS CatS SplitS SideS IdxS CallS LoopEnd EndS ModeS DrawS AWP Meets
attribute [local irreducible] signedI exprD nodes OExpr.kind OExpr.n OExpr.name OExpr.kids letterB digitB kindB nameB rsign rbad strT kndT

def rnext (s : RSt) : RSt := ⟨s.at_ + 1, s.errs⟩
def rloopF (L : List OTok) (least : Int) (sub : Int → RSt → OExpr × RSt) : Nat → OExpr → RSt → OExpr × RSt
  | 0, e, s => (e, s)
  | g + 1, e, s => if s.errs = [] then (if strT (rsign L s) < least then (e, s)
      else rloopF L least sub g (.mk (kndT (rsign L s)) 0 [] [e, (sub (strT (rsign L s) + 1) (rnext s)).1]) (sub (strT (rsign L s) + 1) (rnext s)).2)
    else (e, s)
def climbF (L : List OTok) (prime : RSt → OExpr × RSt) : Nat → Int → RSt → OExpr × RSt
  | 0, _, s => prime s
  | g + 1, least, s => rloopF L least (climbF L prime g) (L.length + 1 - (prime s).2.at_) (prime s).1 (prime s).2
def rtok (L : List OTok) (s : RSt) : OExpr × RSt := match L[s.at_]? with
  | none => (noE, rbad s 9)
  | some t => if t.kind = 2 then (.mk 1 (signedI t.n 32) [] [], rnext s)
    else if t.kind = 1 then (if nameB t.text = true then (.mk 2 0 t.text [], rnext s) else (noE, rbad (rnext s) 7))
    else (noE, rbad (rnext s) 2)
def primeStep (L : List OTok) (prime : RSt → OExpr × RSt) (s : RSt) : OExpr × RSt :=
  if rsign L s = [45] then (.mk 3 0 [] [(prime (rnext s)).1], (prime (rnext s)).2)
  else if rsign L s = [126] then (.mk 4 0 [] [(prime (rnext s)).1], (prime (rnext s)).2)
  else if rsign L s = [40] then
    (if rsign L (climbF L prime 5 1 (rnext s)).2 = [41] then ((climbF L prime 5 1 (rnext s)).1, rnext (climbF L prime 5 1 (rnext s)).2)
     else (noE, rbad (climbF L prime 5 1 (rnext s)).2 2))
  else rtok L s
def primeF (L : List OTok) : Nat → RSt → OExpr × RSt
  | 0, s => (noE, rbad s 10)
  | f + 1, s => primeStep L (primeF L f) s

/-- it goes forward, stays within, and says few faults -/
def Fwd (L : List OTok) (m : Nat) (p : RSt → OExpr × RSt) : Prop := ∀ s, s.errs = [] → s.at_ ≤ L.length → s.at_ ≤ (p s).2.at_ ∧ (p s).2.at_ ≤ L.length ∧ (p s).2.errs.length ≤ m
theorem rsign_in {L : List OTok} {s : RSt} (h : rsign L s ≠ []) : s.at_ < L.length := by
  unfold rsign at h
  cases hl : L[s.at_]? with
  | none => rw [hl] at h; exact absurd rfl h
  | some t => exact (List.getElem?_eq_some_iff.1 hl).1
theorem str_in {L : List OTok} {s : RSt} (h : ¬ strT (rsign L s) < 1) : s.at_ < L.length := rsign_in fun h0 => h (by rw [h0]; unfold strT; decide)
theorem str_bd (t : List UInt8) : 0 ≤ strT t ∧ strT t ≤ 5 := by
  unfold strT
  repeat' split
  all_goals decide
theorem rloop_fwd {L : List OTok} {m : Nat} {least : Int} {sub : Int → RSt → OExpr × RSt} (hl : 1 ≤ least) (hs : ∀ k, least < k → Fwd L m (sub k)) : ∀ (g : Nat) (e : OExpr) (s : RSt), s.errs.length ≤ m → s.at_ ≤ L.length →
    s.at_ ≤ (rloopF L least sub g e s).2.at_ ∧ (rloopF L least sub g e s).2.at_ ≤ L.length ∧ (rloopF L least sub g e s).2.errs.length ≤ m
  | 0, e, s, h1, h2 => ⟨Nat.le_refl _, h2, h1⟩
  | g + 1, e, s, h1, h2 => by
    rw [rloopF]
    split
    · rename_i he
      split
      · exact ⟨Nat.le_refl _, h2, h1⟩
      · rename_i hst
        have hin := str_in (L := L) (s := s) (by omega)
        obtain ⟨a1, a2, a3⟩ := hs (strT (rsign L s) + 1) (by omega) (rnext s) he hin
        have ha : s.at_ + 1 ≤ _ := a1
        obtain ⟨b1, b2, b3⟩ := rloop_fwd hl hs g (.mk (kndT (rsign L s)) 0 [] [e, (sub (strT (rsign L s) + 1) (rnext s)).1]) (sub (strT (rsign L s) + 1) (rnext s)).2 a3 a2
        exact ⟨by omega, b2, b3⟩
    · exact ⟨Nat.le_refl _, h2, h1⟩
theorem climb_fwd {L : List OTok} {m : Nat} {prime : RSt → OExpr × RSt} (hp : Fwd L m prime) : ∀ (g : Nat) (least : Int), 1 ≤ least → Fwd L m (climbF L prime g least)
  | 0, least, hl => fun s h1 h2 => hp s h1 h2
  | g + 1, least, hl => fun s h1 h2 => by
    obtain ⟨a1, a2, a3⟩ := hp s h1 h2
    rw [climbF]
    obtain ⟨b1, b2, b3⟩ := rloop_fwd hl (fun k hk => climb_fwd hp g k (by omega)) (L.length + 1 - (prime s).2.at_) (prime s).1 (prime s).2 a3 a2
    exact ⟨by omega, b2, b3⟩
theorem rbad_at (s : RSt) (e : Int) : (rbad s e).at_ = s.at_ ∧ (rbad s e).errs.length = s.errs.length + 1 := by unfold rbad; exact ⟨rfl, by simp⟩
theorem rtok_fwd {L : List OTok} : Fwd L 1 (rtok L) := fun s h1 h2 => by
  unfold rtok
  have h3 : (rnext s).at_ = s.at_ + 1 := rfl
  have h4 : (rnext s).errs.length = 0 := by show s.errs.length = 0; rw [h1]; rfl
  have h5 : s.errs.length = 0 := h4
  cases hl : L[s.at_]? with
  | none => simp [rbad_at, h2, h5]
  | some t =>
    have := (List.getElem?_eq_some_iff.1 hl).1
    dsimp only
    repeat' split
    all_goals (simp only [rbad_at]; omega)
theorem prime_fwd {L : List OTok} : ∀ f : Nat, Fwd L (f + 1) (primeF L f)
  | 0 => fun s h1 h2 => by rw [primeF]; simp only [rbad_at]; rw [h1]; exact ⟨Nat.le_refl _, h2, Nat.le_refl _⟩
  | f + 1 => fun s h1 h2 => by
    have ih := prime_fwd f (L := L)
    rw [primeF]
    unfold primeStep
    have hn : ∀ {t : List UInt8}, rsign L s = t → t ≠ [] → (rnext s).errs = [] ∧ (rnext s).at_ ≤ L.length ∧ (rnext s).at_ = s.at_ + 1 := fun h h' => ⟨h1, rsign_in (by rw [h]; exact h'), rfl⟩
    split
    · rename_i h
      obtain ⟨p1, p2, p3⟩ := hn h (by decide)
      obtain ⟨q1, q2, q3⟩ := ih _ p1 p2
      exact ⟨by dsimp only; omega, q2, by dsimp only; omega⟩
    split
    · rename_i h
      obtain ⟨p1, p2, p3⟩ := hn h (by decide)
      obtain ⟨q1, q2, q3⟩ := ih _ p1 p2
      exact ⟨by dsimp only; omega, q2, by dsimp only; omega⟩
    split
    · rename_i h
      obtain ⟨p1, p2, p3⟩ := hn h (by decide)
      obtain ⟨q1, q2, q3⟩ := climb_fwd ih 5 1 (by decide) _ p1 p2
      split
      · rename_i h5
        have := rsign_in (L := L) (s := (climbF L (primeF L f) 5 1 (rnext s)).2) (by rw [h5]; decide)
        exact ⟨by show _ ≤ _ + 1; omega, this, by show List.length (RSt.errs _) ≤ _; exact Nat.le_succ_of_le q3⟩
      · dsimp only
        obtain ⟨r1, r2⟩ := rbad_at (climbF L (primeF L f) 5 1 (rnext s)).2 2
        rw [r1, r2]
        exact ⟨by omega, q2, by omega⟩
    · obtain ⟨q1, q2, q3⟩ := rtok_fwd (L := L) s h1 h2
      exact ⟨q1, q2, by omega⟩
end Go.Proofs.YtholdembikenfaaDoor

namespace Go.Proofs.YtholdembikenfaaDoor
open Go Go.Plat
set_option linter.unusedVariables false
set_option linter.unusedSimpArgs false
set_option maxRecDepth 100000
set_option maxHeartbeats 2000000
attribute [local irreducible] NilS LookS NormM bitI BytesS NormL Arith QuoS RemS ShlS ShrS BitS CatS SplitS SideS IdxS CallS LoopEnd EndS ModeS DrawS AWP Meets
attribute [local irreducible] signedI exprD nodes OExpr.kind OExpr.n OExpr.name OExpr.kids letterB digitB kindB nameB rsign strT kndT rloopF climbF primeF

def ClimbOk (L : List OTok) (least d : Int) (f : RSt → OExpr × RSt) : Prop :=
  Meets Tryd.prog n_plref1_P_Climb (SpecF (fun s : RSt => s.errs = [] ∧ s.at_ ≤ L.length) (fun _ => [.loc 0 0, .int .i64 least, .int .i64 d]) (rOb L) (fun s => exprU (f s).1) fun s => rOb L (f s).2)
def PrimeOk (L : List OTok) (d : Int) (f : RSt → OExpr × RSt) : Prop :=
  Meets Tryd.prog n_plref1_P_Prime (SpecF (fun s : RSt => s.errs = [] ∧ s.at_ ≤ L.length) (fun _ => [.loc 0 0, .int .i64 d]) (rOb L) (fun s => exprU (f s).1) fun s => rOb L (f s).2)

theorem rloop_0 {L : List OTok} {least : Int} {sub : Int → RSt → OExpr × RSt} {e : OExpr} {s : RSt} : rloopF L least sub 0 e s = (e, s) := by rw [rloopF]
theorem rloop_stop {L : List OTok} {least : Int} {sub : Int → RSt → OExpr × RSt} {g : Nat} {e : OExpr} {s : RSt} (h : ¬ s.errs = []) : rloopF L least sub g e s = (e, s) := by
  cases g with
  | zero => exact rloop_0
  | succ g => rw [rloopF, if_neg h]
theorem rloop_break {L : List OTok} {least : Int} {sub : Int → RSt → OExpr × RSt} {g : Nat} {e : OExpr} {s : RSt} (h2 : strT (rsign L s) < least) : rloopF L least sub g e s = (e, s) := by
  cases g with
  | zero => exact rloop_0
  | succ g =>
    by_cases h : s.errs = []
    · rw [rloopF, if_pos h, if_pos h2]
    · exact rloop_stop h
theorem rloop_go {L : List OTok} {least : Int} {sub : Int → RSt → OExpr × RSt} {g : Nat} {e : OExpr} {s : RSt} (h : s.errs = []) (h2 : ¬ strT (rsign L s) < least) : rloopF L least sub (g + 1) e s =
    rloopF L least sub g (.mk (kndT (rsign L s)) 0 [] [e, (sub (strT (rsign L s) + 1) (rnext s)).1]) (sub (strT (rsign L s) + 1) (rnext s)).2 := by rw [rloopF, if_pos h, if_neg h2]

theorem climb_walk {L : List OTok} {least d : Int} {m : Nat} {prime : RSt → OExpr × RSt} {sub : Int → RSt → OExpr × RSt} (hL : L.length ≤ 1000000000) (hm : m ≤ 1000) (hf : Fwd L m prime) (hp : PrimeOk L d prime)
    (hl1 : 1 ≤ least) (hl6 : least ≤ 6) (hsf : ∀ k, least < k → Fwd L m (sub k)) (hsk : ∀ k, least < k → k ≤ 6 → ClimbOk L k d (sub k)) :
    ClimbOk L least d fun s => rloopF L least sub (L.length + 1 - (prime s).2.at_) (prime s).1 (prime s).2 := by
  refine meets_f tabOk Tryd.func205 rfl (by decide) ?_
  rintro s ⟨hs1, hs2⟩
  refine ⟨Nat.le_refl _, by simp [Tryd.f205], fun E hE => ?_⟩
  refine vcOk _ ?_
  obtain ⟨a1, a2, a3⟩ := hf s hs1 hs2
  (all_goals refine qgp ?_ <;> (repeat' first | exact trivial | intro hc | refine And.intro ?_ ?_) <;> refine Lf.mk ?_)
  refine call_f hp [0, 1] [0, 1] s ⟨hs1, hs2⟩ rfl rfl ?_
  refine And.intro (VS.mk (LeL.of_eq rfl)) (And.intro (VS.mk rfl) ?_)
  (all_goals refine qgp ?_ <;> (repeat' first | exact trivial | intro hc | refine And.intro ?_ ?_) <;> refine Lf.mk ?_)
  generalize hT : rloopF L least sub (L.length + 1 - (prime s).2.at_) (prime s).1 (prime s).2 = T at *
  refine awp_loop (α := Nat × OExpr × RSt) (fun p => p.2.2.at_ ≤ L.length ∧ L.length < p.2.2.at_ + p.1 ∧ p.2.2.errs.length ≤ m ∧ rloopF L least sub p.1 p.2.1 p.2.2 = T)
    (fun p => [(0, .loc 0 0), (1, .int .i64 least), (2, .int .i64 d), (6, .loc 2 0), (7, .loc 3 0)])
    (fun p => rOb L p.2.2 ++ [.cells [.int .i64 0, .int .i64 0, .str [], .nilsl], .cells [.int .i64 p.2.1.kind, .int .i64 p.2.1.n, .str p.2.1.name, .sl 4 (p.2.1.kids.map exprD) none]]) (fun p => p.1) (fun _ => by simp [hE, rOb])
    (L.length + 1 - (prime s).2.at_, (prime s).1, (prime s).2) ⟨a2, by dsimp only; omega, a3, hT⟩ ?_ ?_
  · (repeat' (first | (refine VS.mk ?_) | exact trivial | exact rfl | refine And.intro ?_ ?_))
  rintro ⟨g, e, s2⟩ ⟨b1, b2, b3, b4⟩
  dsimp only at b1 b2 b3 b4 ⊢
  obtain ⟨g, rfl⟩ : ∃ g', g = g' + 1 := ⟨g - 1, by omega⟩
  refine vcOk _ ?_
  (all_goals refine qgp ?_ <;> (repeat' first | exact trivial | intro hc | refine And.intro ?_ ?_) <;> refine Lf.mk ?_)
  · have he : s2.errs = [] := List.eq_nil_of_length_eq_zero (by omega)
    refine call_f (rsign_meets L) [0, 1] [0, 1] s2 ⟨hL, b1⟩ rfl rfl ?_
    refine And.intro (VS.mk (LeL.of_eq rfl)) (And.intro (VS.mk rfl) ?_)
    (all_goals refine qgp ?_ <;> (repeat' first | exact trivial | intro hc | refine And.intro ?_ ?_) <;> refine Lf.mk ?_)
    refine call_p strength_meets (rsign L s2) trivial (VS.mk (LeL.of_eq rfl)) ?_
    have hsb := str_bd (rsign L s2)
    (all_goals refine qgp ?_ <;> (repeat' first | exact trivial | intro hc | refine And.intro ?_ ?_) <;> refine Lf.mk ?_)
    · rw [rloop_break hc] at b4
      subst b4
      refine end_mk ?_
      (repeat' (first | (refine VS.mk ?_) | exact trivial | exact rfl | refine And.intro ?_ ?_))
      all_goals rw [hT]
      · cases e; rw [exprU_mk, mk_kind, mk_n, mk_name, mk_kids]
      · rfl
    · have hin := str_in (L := L) (s := s2) (by omega)
      rw [rloop_go he hc] at b4
      have hq := hsf (strT (rsign L s2) + 1) (by omega) (rnext s2) he hin
      obtain ⟨q1, q2, q3⟩ := hq
      refine call_f (hsk (strT (rsign L s2) + 1) (by omega) (by omega)) [0, 1] [0, 1] (rnext s2) ⟨he, hin⟩ rfl rfl ?_
      refine And.intro (VS.mk (LeL.of_eq rfl)) (And.intro (VS.mk ?_) ?_)
      · unfold rOb rnext; simp
      (all_goals refine qgp ?_ <;> (repeat' first | exact trivial | intro hc | refine And.intro ?_ ?_) <;> refine Lf.mk ?_)
      refine loop_end (g, .mk (kndT (rsign L s2)) 0 [] [e, (sub (strT (rsign L s2) + 1) (rnext s2)).1], (sub (strT (rsign L s2) + 1) (rnext s2)).2) ⟨q2, by (have : s2.at_ + 1 ≤ _ := q1); (dsimp only; omega), q3, b4⟩ (by dsimp only; omega) ?_
      dsimp only
      rw [mk_kind, mk_n, mk_name, mk_kids, map2]
      (repeat' (first | (refine VS.mk ?_) | exact trivial | exact rfl | refine And.intro ?_ ?_))
  · rw [rloop_stop (fun h0 => hc (by rw [h0]; rfl))] at b4
    subst b4
    refine end_mk ?_
    (repeat' (first | (refine VS.mk ?_) | exact trivial | exact rfl | refine And.intro ?_ ?_))
    all_goals rw [hT]
    · cases e; rw [exprU_mk, mk_kind, mk_n, mk_name, mk_kids]
    · rfl

theorem climb_ok {L : List OTok} {d : Int} {m : Nat} {prime : RSt → OExpr × RSt} (hL : L.length ≤ 1000000000) (hm : m ≤ 1000) (hf : Fwd L m prime) (hp : PrimeOk L d prime) : ∀ (g : Nat) (least : Int), 1 ≤ least → least ≤ 6 → 6 - least ≤ g → ClimbOk L least d (climbF L prime g least) := by
  intro g
  induction g with
  | zero =>
    intro least h1 h2 h3
    have h := climb_walk (least := least) (sub := climbF L prime 0) hL hm hf hp h1 h2 (fun k hk => climb_fwd hf 0 k (by omega)) (fun k hk hk6 => absurd hk (by omega))
    have e : climbF L prime 0 least = fun s => rloopF L least (climbF L prime 0) (L.length + 1 - (prime s).2.at_) (prime s).1 (prime s).2 := by
      funext s
      rw [rloop_break (by have := str_bd (rsign L (prime s).2); omega), climbF]
    rw [e]; exact h
  | succ g ih =>
    intro least h1 h2 h3
    have h := climb_walk (least := least) (sub := climbF L prime g) hL hm hf hp h1 h2 (fun k hk => climb_fwd hf g k (by omega)) (fun k hk hk6 => ih k (by omega) hk6 (by omega))
    have e : climbF L prime (g + 1) least = fun s => rloopF L least (climbF L prime g) (L.length + 1 - (prime s).2.at_) (prime s).1 (prime s).2 := by
      funext s
      rw [climbF]
    rw [e]; exact h
end Go.Proofs.YtholdembikenfaaDoor

namespace Go.Proofs.YtholdembikenfaaDoor
open Go Go.Plat
set_option linter.unusedVariables false
set_option linter.unusedSimpArgs false
set_option maxRecDepth 100000
set_option maxHeartbeats 2000000
theorem wrapS_i32 (n : Int) : IntKind.i32.wrap n = signedI n 32 := by
  have : signedI n 32 = if n % 4294967296 / 2147483648 = 1 then n % 4294967296 - 4294967296 else n % 4294967296 := rfl
  rw [this]
  have hm := Int.emod_nonneg n (show (4294967296 : Int) ≠ 0 by decide)
  have hm2 := Int.emod_lt_of_pos n (show (0 : Int) < 4294967296 by decide)
  have e : IntKind.i32.wrap n = if n % 4294967296 ≥ 2147483648 then n % 4294967296 - 4294967296 else n % 4294967296 := by
    simp only [IntKind.wrap, IntKind.signed, IntKind.bits, show (2 : Int) ^ 32 = 4294967296 from rfl, show (2 : Int) ^ (32 - 1) = 2147483648 from rfl, Bool.true_and, decide_eq_true_eq]
  rw [e]
  split <;> split <;> omega
theorem wrapS_u32 (n : Int) : IntKind.u32.wrap n = n % 4294967296 := by
  simp [IntKind.wrap, IntKind.signed, IntKind.bits]
theorem ar_i32 {n : Int} {K : D → Prop} (h : K (.int .i32 (signedI n 32))) : Arith .i32 n K := by unfold Arith; rw [wrapS_i32]; exact h
theorem ar_u32 {n : Int} {K : D → Prop} (h : K (.int .u32 (n % 4294967296))) : Arith .u32 n K := by unfold Arith; rw [wrapS_u32]; exact h
theorem sig_bd (n : Int) : -2147483648 ≤ signedI n 32 ∧ signedI n 32 ≤ 2147483647 := by
  have : signedI n 32 = if n % 4294967296 / 2147483648 = 1 then n % 4294967296 - 4294967296 else n % 4294967296 := rfl
  rw [this]
  split <;> omega
theorem sig_cong {m n : Int} (h : m % 4294967296 = n % 4294967296) : signedI m 32 = signedI n 32 := by
  have : ∀ n, signedI n 32 = if n % 4294967296 / 2147483648 = 1 then n % 4294967296 - 4294967296 else n % 4294967296 := fun _ => rfl
  rw [this, this, h]
theorem sig_mod (n : Int) : signedI n 32 % 4294967296 = n % 4294967296 := by
  have : signedI n 32 = if n % 4294967296 / 2147483648 = 1 then n % 4294967296 - 4294967296 else n % 4294967296 := rfl
  rw [this]
  split <;> omega
theorem ar_sig {n : Int} {K : D → Prop} (h : K (.int .i64 (signedI n 32))) : Arith .i64 (signedI n 32) K := by
  have := sig_bd n
  exact ar_i64 (by omega) (by omega) h
theorem ofInt_mod (n : Int) : (BitVec.ofInt 64 n).toNat % 4294967296 = (BitVec.ofInt 32 n).toNat := by
  have h1 := toNat_ofInt n
  have h2 : ((BitVec.ofInt 32 n).toNat : Int) = n % 4294967296 := by
    rw [BitVec.toNat_ofInt]
    have : (0 : Int) ≤ n % ((2 ^ 32 : Nat) : Int) := Int.emod_nonneg _ (by decide)
    rw [Int.toNat_of_nonneg this]
    rfl
  omega
theorem wrap64_mod (m : Int) : IntKind.i64.wrap m % 4294967296 = m % 4294967296 := by
  unfold IntKind.wrap
  simp only [IntKind.bits, IntKind.signed, show (2 : Int) ^ 64 = 18446744073709551616 from rfl, Bool.true_and, decide_eq_true_eq]
  split <;> omega
theorem mod_and (x y : Nat) : (x &&& y) % 4294967296 = (x % 4294967296) &&& (y % 4294967296) := by
  have := Nat.and_mod_two_pow (a := x) (b := y) (n := 32)
  simpa using this
theorem mod_or (x y : Nat) : (x ||| y) % 4294967296 = (x % 4294967296) ||| (y % 4294967296) := by
  have := Nat.or_mod_two_pow (a := x) (b := y) (n := 32)
  simpa using this
theorem and32 (a b : Int) : bitI .and .i32 a b = signedI (bitI .and .i64 a b) 32 := by
  unfold bitI
  rw [wrapS_i32]
  refine sig_cong ?_
  rw [wrap64_mod]
  have e : ((BitVec.ofInt 64 a &&& BitVec.ofInt 64 b).toNat) % 4294967296 = (BitVec.ofInt 32 a &&& BitVec.ofInt 32 b).toNat := by
    rw [BitVec.toNat_and, BitVec.toNat_and, mod_and, ofInt_mod, ofInt_mod]
  have h2 : (BitVec.ofInt 32 a &&& BitVec.ofInt 32 b).toNat < 4294967296 := (BitVec.ofInt 32 a &&& BitVec.ofInt 32 b).isLt
  show (((BitVec.ofInt 32 a &&& BitVec.ofInt 32 b).toNat : Nat) : Int) % 4294967296 = (((BitVec.ofInt 64 a &&& BitVec.ofInt 64 b).toNat : Nat) : Int) % 4294967296
  omega
theorem or32 (a b : Int) : bitI .or .i32 a b = signedI (bitI .or .i64 a b) 32 := by
  unfold bitI
  rw [wrapS_i32]
  refine sig_cong ?_
  rw [wrap64_mod]
  have e : ((BitVec.ofInt 64 a ||| BitVec.ofInt 64 b).toNat) % 4294967296 = (BitVec.ofInt 32 a ||| BitVec.ofInt 32 b).toNat := by
    rw [BitVec.toNat_or, BitVec.toNat_or, mod_or, ofInt_mod, ofInt_mod]
  have h2 : (BitVec.ofInt 32 a ||| BitVec.ofInt 32 b).toNat < 4294967296 := (BitVec.ofInt 32 a ||| BitVec.ofInt 32 b).isLt
  show (((BitVec.ofInt 32 a ||| BitVec.ofInt 32 b).toNat : Nat) : Int) % 4294967296 = (((BitVec.ofInt 64 a ||| BitVec.ofInt 64 b).toNat : Nat) : Int) % 4294967296
  omega
theorem left32 (a b : Int) : signedI (a % 4294967296 * 2 ^ (b % 4294967296 % 32).toNat % 4294967296) 32 = signedI (a * 2 ^ (b % 32).toNat) 32 := by
  have e : b % 4294967296 % 32 = b % 32 := by omega
  rw [e]
  refine sig_cong ?_
  rw [Int.emod_emod, Int.mul_emod, Int.emod_emod, ← Int.mul_emod]
theorem right32 (a b : Int) : signedI (a % 4294967296 / 2 ^ (b % 4294967296 % 32).toNat) 32 = signedI (a % 4294967296 / 2 ^ (b % 32).toNat) 32 := by
  have e : b % 4294967296 % 32 = b % 32 := by omega
  rw [e]
theorem shl_u32 {x y : Int} {K : D → Prop} (h0 : 0 ≤ y) (h1 : y ≤ 31) (h : K (.int .u32 (x * 2 ^ y.toNat % 4294967296))) : ShlS .u32 x y K := by
  unfold ShlS
  refine ⟨h0, ?_⟩
  have e : min y.toNat IntKind.u32.bits = y.toNat := by simp only [IntKind.bits]; omega
  rw [e, wrapS_u32]
  exact h
theorem shr_u32 {x y : Int} {K : D → Prop} (h0 : 0 ≤ y) (h1 : y ≤ 31) (h : K (.int .u32 (x / 2 ^ y.toNat))) : ShrS .u32 x y K := by
  unfold ShrS
  refine ⟨h0, ?_⟩
  have e : min y.toNat IntKind.u32.bits = y.toNat := by simp only [IntKind.bits]; omega
  have hp : (0 : Int) ≤ 2 ^ y.toNat := Int.le_of_lt (Int.pow_pos (by decide))
  rw [e, Int.fdiv_eq_ediv_of_nonneg _ hp]
  exact h
open Go Go.Plat
set_option linter.unusedVariables false
set_option linter.unusedSimpArgs false
set_option maxRecDepth 100000
set_option maxHeartbeats 2000000
attribute [local irreducible] NilS LookS NormM bitI BytesS NormL Arith QuoS RemS ShlS ShrS BitS CatS SplitS SideS IdxS CallS LoopEnd EndS ModeS DrawS AWP Meets
attribute [local irreducible] signedI
theorem rsig_meets : Meets Tryd.prog n_plref1_Signed (SpecP (fun _ : Int => True) (fun n => [.int .i64 n]) fun n => .int .i64 (signedI n 32)) := by
  refine meets_f tabOk Tryd.func24 rfl (by decide) fun n _ => ?_
  refine ⟨Nat.le_refl _, by simp [Tryd.f24], fun E hE => ?_⟩
  refine vcOk _ ?_
  have hb := sig_bd (n % 4294967296)
  (all_goals refine qgo ?_ <;> (repeat' first | exact trivial | intro hc | refine And.intro ?_ ?_) <;> refine Lf.mk ?_)
  refine ar_u32 ?_
  (all_goals refine qgo ?_ <;> (repeat' first | exact trivial | intro hc | refine And.intro ?_ ?_) <;> refine Lf.mk ?_)
  refine ar_i32 ?_
  (all_goals refine qgo ?_ <;> (repeat' first | exact trivial | intro hc | refine And.intro ?_ ?_) <;> refine Lf.mk ?_)
  refine end_p (VS.mk (LeD.of_eq (congrArg (D.int .i64) ?_)))
  exact sig_cong (Int.emod_emod _ _)
end Go.Proofs.YtholdembikenfaaDoor

namespace Go.Proofs.YtholdembikenfaaDoor
open Go Go.Plat
set_option linter.unusedVariables false
set_option linter.unusedSimpArgs false
set_option maxRecDepth 100000
set_option maxHeartbeats 2000000
attribute [local irreducible] NilS LookS NormM bitI BytesS NormL Arith QuoS RemS ShlS ShrS BitS CatS SplitS SideS IdxS CallS LoopEnd EndS ModeS DrawS AWP Meets
attribute [local irreducible] signedI exprD nodes OExpr.kind OExpr.n OExpr.name OExpr.kids letterB digitB kindB nameB rsign strT kndT rloopF climbF primeF

theorem rOb_bad {L : List OTok} {s : RSt} {e : Int} : rOb L (rbad s e) = [.cells [.sl 3 (L.map tokD) none, .int .i64 (s.at_ : Nat), .sl 1 ((s.errs ++ [e]).map (.int .i64)) (some 1)], .spare (s.errs ++ [e]).length] := rfl
theorem rOb_next {L : List OTok} {s : RSt} : [Ob.cells [.sl 3 (L.map tokD) none, .int .i64 ((s.at_ : Int) + 1), .sl 1 (s.errs.map (.int .i64)) (some 1)], .spare s.errs.length] = rOb L (rnext s) := by
  unfold rOb rnext
  simp

theorem prime_deep {L : List OTok} {d : Int} (h : 6 < d) : PrimeOk L d (primeF L 0) := by
  refine meets_f tabOk Tryd.func216 rfl (by decide) ?_
  rintro s ⟨hs1, hs2⟩
  refine ⟨Nat.le_refl _, by simp [Tryd.f216], fun E hE => ?_⟩
  refine vcOk _ ?_
  (all_goals refine qgp ?_ <;> (repeat' first | exact trivial | intro hc | refine And.intro ?_ ?_) <;> refine Lf.mk ?_)
  refine call_f (rbad_meets L) [0, 1] [0, 1] (s, 10) (by show s.errs.length ≤ 1000; rw [hs1]; decide) rfl rfl ?_
  refine And.intro (VS.mk (LeL.of_eq rfl)) (And.intro (VS.mk rfl) ?_)
  have ho : primeF L 0 s = (noE, rbad s 10) := by rw [primeF]
  (all_goals refine qgp ?_ <;> (repeat' first | exact trivial | intro hc | refine And.intro ?_ ?_) <;> refine Lf.mk ?_)
  refine end_mk ?_
  (repeat' (first | (refine VS.mk ?_) | exact trivial | exact rfl | refine And.intro ?_ ?_))
  all_goals (rw [ho])
  all_goals rfl

theorem prime_step {L : List OTok} {d : Int} {m : Nat} {prime : RSt → OExpr × RSt} (hL : L.length ≤ 1000000000) (hm : m ≤ 1000) (hd : d ≤ 6) (hd0 : 0 ≤ d) (hf : Fwd L m prime) (h : PrimeOk L (d + 1) prime) : PrimeOk L d (primeStep L prime) := by
  have hcl := climb_ok hL hm hf h 5 1 (by decide) (by decide) (by decide)
  have hcf := climb_fwd hf 5 1 (by decide)
  refine meets_f tabOk Tryd.func216 rfl (by decide) ?_
  rintro s ⟨hs1, hs2⟩
  refine ⟨Nat.le_refl _, by simp [Tryd.f216], fun E hE => ?_⟩
  refine vcOk _ ?_
  (all_goals refine qgp ?_ <;> (repeat' first | exact trivial | intro hc | refine And.intro ?_ ?_) <;> refine Lf.mk ?_)
  refine call_f (rsign_meets L) [0, 1] [0, 1] s ⟨hL, hs2⟩ rfl rfl ?_
  refine And.intro (VS.mk (LeL.of_eq rfl)) (And.intro (VS.mk rfl) ?_)
  have hstep : primeStep L prime s = if rsign L s = [45] then (.mk 3 0 [] [(prime (rnext s)).1], (prime (rnext s)).2)
    else if rsign L s = [126] then (.mk 4 0 [] [(prime (rnext s)).1], (prime (rnext s)).2)
    else if rsign L s = [40] then
      (if rsign L (climbF L prime 5 1 (rnext s)).2 = [41] then ((climbF L prime 5 1 (rnext s)).1, rnext (climbF L prime 5 1 (rnext s)).2)
       else (noE, rbad (climbF L prime 5 1 (rnext s)).2 2))
    else rtok L s := rfl
  have hin : rsign L s ≠ [] → s.at_ < L.length := rsign_in
  generalize rsign L s = S at *
  have hn0 : (rnext s).errs = [] := hs1
  (all_goals refine qgp ?_ <;> (repeat' first | exact trivial | intro hc | refine And.intro ?_ ?_) <;> refine Lf.mk ?_)
  all_goals (try (exfalso; exact absurd ‹S = [45]› ‹¬ S = [45]›))
  · have hin' := hin (by rw [hc]; decide)
    obtain ⟨q1, q2, q3⟩ := hf (rnext s) hn0 hin'
    refine call_f h [0, 1] [0, 1] (rnext s) ⟨hn0, hin'⟩ rfl rfl ?_
    refine And.intro (VS.mk (LeL.of_eq rfl)) (And.intro (VS.mk rOb_next) ?_)
    (all_goals refine qgp ?_ <;> (repeat' first | exact trivial | intro hc | refine And.intro ?_ ?_) <;> refine Lf.mk ?_)
    all_goals (try (exfalso; exact absurd ‹S = [45]› ‹¬ S = [45]›))
    have ho : primeStep L prime s = (.mk 3 0 [] [(prime (rnext s)).1], (prime (rnext s)).2) := by rw [hstep, if_pos hc]
    refine end_mk ?_
    (repeat' (first | (refine VS.mk ?_) | exact trivial | exact rfl | refine And.intro ?_ ?_))
    all_goals (rw [ho])
    · dsimp only; rw [exprU_mk, map1]; rfl
    · rfl
  · have hin' := hin (by rw [hc]; decide)
    obtain ⟨q1, q2, q3⟩ := hf (rnext s) hn0 hin'
    refine call_f h [0, 1] [0, 1] (rnext s) ⟨hn0, hin'⟩ rfl rfl ?_
    refine And.intro (VS.mk (LeL.of_eq rfl)) (And.intro (VS.mk rOb_next) ?_)
    have ho : primeStep L prime s = (.mk 4 0 [] [(prime (rnext s)).1], (prime (rnext s)).2) := by rw [hstep, if_neg (by rw [hc]; decide), if_pos hc]
    (all_goals refine qgp ?_ <;> (repeat' first | exact trivial | intro hc | refine And.intro ?_ ?_) <;> refine Lf.mk ?_)
    all_goals (try (exfalso; exact absurd ‹S = [45]› ‹¬ S = [45]›))
    refine end_mk ?_
    (repeat' (first | (refine VS.mk ?_) | exact trivial | exact rfl | refine And.intro ?_ ?_))
    all_goals (rw [ho])
    · dsimp only; rw [exprU_mk, map1]; rfl
    · rfl
  · have hin' := hin (by rw [hc]; decide)
    obtain ⟨q1, q2, q3⟩ := hcf (rnext s) hn0 hin'
    have hb2 : ∀ x : Int, (rbad (climbF L prime 5 1 (rnext s)).2 x) = rbad (climbF L prime 5 1 (rnext s)).2 x := fun _ => rfl
    refine call_f hcl [0, 1] [0, 1] (rnext s) ⟨hn0, hin'⟩ rfl rfl ?_
    refine And.intro (VS.mk (LeL.of_eq rfl)) (And.intro (VS.mk rOb_next) ?_)
    have hin2 : rsign L (climbF L prime 5 1 (rnext s)).2 ≠ [] → (climbF L prime 5 1 (rnext s)).2.at_ < L.length := rsign_in
    (all_goals refine qgp ?_ <;> (repeat' first | exact trivial | intro hc | refine And.intro ?_ ?_) <;> refine Lf.mk ?_)
    refine call_f (rsign_meets L) [0, 1] [0, 1] (climbF L prime 5 1 (rnext s)).2 ⟨hL, q2⟩ rfl rfl ?_
    refine And.intro (VS.mk (LeL.of_eq rfl)) (And.intro (VS.mk rfl) ?_)
    (all_goals refine qgp ?_ <;> (repeat' first | exact trivial | intro hc | refine And.intro ?_ ?_) <;> refine Lf.mk ?_)
    · refine call_f (rbad_meets L) [0, 1] [0, 1] ((climbF L prime 5 1 (rnext s)).2, 2) (Nat.le_trans q3 hm) rfl rfl ?_
      refine And.intro (VS.mk (LeL.of_eq rfl)) (And.intro (VS.mk rfl) ?_)
      (all_goals refine qgp ?_ <;> (repeat' first | exact trivial | intro hc | refine And.intro ?_ ?_) <;> refine Lf.mk ?_)
      have ho : primeStep L prime s = (noE, rbad (climbF L prime 5 1 (rnext s)).2 2) := by
        rw [hstep, if_neg (by assumption), if_neg (by assumption), if_pos (by assumption), if_neg hc]
      refine end_mk ?_
      (repeat' (first | (refine VS.mk ?_) | exact trivial | exact rfl | refine And.intro ?_ ?_))
      all_goals (rw [ho])
      all_goals rfl
    · have ho : primeStep L prime s = ((climbF L prime 5 1 (rnext s)).1, rnext (climbF L prime 5 1 (rnext s)).2) := by
        rw [hstep, if_neg (by assumption), if_neg (by assumption), if_pos (by assumption), if_pos hc]
      refine end_mk ?_
      (repeat' (first | (refine VS.mk ?_) | exact trivial | exact rfl | refine And.intro ?_ ?_))
      all_goals (rw [ho])
      · generalize (climbF L prime 5 1 (rnext s)).1 = e
        cases e; rw [exprU_mk, mk_kind, mk_n, mk_name, mk_kids]
      · exact rOb_next
  · refine call_f (rbad_meets L) [0, 1] [0, 1] (s, 9) (by show s.errs.length ≤ 1000; rw [hs1]; decide) rfl rfl ?_
    refine And.intro (VS.mk (LeL.of_eq rfl)) (And.intro (VS.mk rfl) ?_)
    (all_goals refine qgp ?_ <;> (repeat' first | exact trivial | intro hc | refine And.intro ?_ ?_) <;> refine Lf.mk ?_)
    have ho : primeStep L prime s = (noE, rbad s 9) := by
      rw [hstep, if_neg (by assumption), if_neg (by assumption), if_neg (by assumption)]
      unfold rtok
      rw [List.getElem?_eq_none (by omega)]
    refine end_mk ?_
    (repeat' (first | (refine VS.mk ?_) | exact trivial | exact rfl | refine And.intro ?_ ?_))
    all_goals (rw [ho])
    all_goals rfl
  · obtain ⟨t, ht⟩ := at_of_lt (l := L) (k := s.at_) (by omega)
    have ho : primeStep L prime s = if t.kind = 2 then (.mk 1 (signedI t.n 32) [] [], rnext s)
          else if t.kind = 1 then (if nameB t.text = true then (.mk 2 0 t.text [], rnext s) else (noE, rbad (rnext s) 7))
          else (noE, rbad (rnext s) 2) := by
      rw [hstep, if_neg (by assumption), if_neg (by assumption), if_neg (by assumption)]
      unfold rtok
      rw [ht]
    clear hstep
    refine ix_map t (by omega) (by simpa using ht) ?_
    have hnb : (rnext s).errs.length ≤ 1000 := by rw [hn0]; decide
    (all_goals refine qgp ?_ <;> (repeat' first | exact trivial | intro hc | refine And.intro ?_ ?_) <;> refine Lf.mk ?_)
    · refine call_p rsig_meets t.n trivial (VS.mk (LeL.of_eq rfl)) ?_
      (all_goals refine qgp ?_ <;> (repeat' first | exact trivial | intro hc | refine And.intro ?_ ?_) <;> refine Lf.mk ?_)
      rw [if_pos hc] at ho
      refine end_le (r1 := exprU (.mk 1 (signedI t.n 32) [] [])) (by rw [exprU_mk]; exact .agg (.cons (.refl _) (.cons (.refl _) (.cons (.refl _) (.cons (.nil 4) .nil))))) ?_ (Nat.le_refl _)
      refine end_mk ?_
      (repeat' (first | (refine VS.mk ?_) | exact trivial | exact rfl | refine And.intro ?_ ?_))
      all_goals (rw [ho])
      · rfl
      · exact rOb_next
    · refine call_f (rbad_meets L) [0, 1] [0, 1] (rnext s, 2) hnb rfl rfl ?_
      refine And.intro (VS.mk (LeL.of_eq rfl)) (And.intro (VS.mk rOb_next) ?_)
      (all_goals refine qgp ?_ <;> (repeat' first | exact trivial | intro hc | refine And.intro ?_ ?_) <;> refine Lf.mk ?_)
      rw [if_neg (by assumption), if_neg (by assumption)] at ho
      refine end_mk ?_
      (repeat' (first | (refine VS.mk ?_) | exact trivial | exact rfl | refine And.intro ?_ ?_))
      all_goals (rw [ho])
      all_goals rfl
    · refine call_p rname_any t.text trivial (VS.mk (LeL.of_eq rfl)) ?_
      (all_goals refine qgp ?_ <;> (repeat' first | exact trivial | intro hc | refine And.intro ?_ ?_) <;> refine Lf.mk ?_)
      · refine call_f (rbad_meets L) [0, 1] [0, 1] (rnext s, 7) hnb rfl rfl ?_
        refine And.intro (VS.mk (LeL.of_eq rfl)) (And.intro (VS.mk rOb_next) ?_)
        (all_goals refine qgp ?_ <;> (repeat' first | exact trivial | intro hc | refine And.intro ?_ ?_) <;> refine Lf.mk ?_)
        rw [if_neg (by assumption), if_pos (by assumption), if_neg (by rw [hc]; decide)] at ho
        refine end_mk ?_
        (repeat' (first | (refine VS.mk ?_) | exact trivial | exact rfl | refine And.intro ?_ ?_))
        all_goals (rw [ho])
        all_goals rfl
      · rw [if_neg (by assumption), if_pos (by assumption), if_pos hc] at ho
        refine end_le (r1 := exprU (.mk 2 0 t.text [])) (by rw [exprU_mk]; exact .agg (.cons (.refl _) (.cons (.refl _) (.cons (.refl _) (.cons (.nil 4) .nil))))) ?_ (Nat.le_refl _)
        refine end_mk ?_
        (repeat' (first | (refine VS.mk ?_) | exact trivial | exact rfl | refine And.intro ?_ ?_))
        all_goals (rw [ho])
        · rfl
        · exact rOb_next

theorem prime_succ (L : List OTok) (f : Nat) : primeF L (f + 1) = primeStep L (primeF L f) := by funext s; rw [primeF]
theorem primes {L : List OTok} (hL : L.length ≤ 1000000000) : ∀ f : Nat, f ≤ 7 → PrimeOk L (7 - (f : Int)) (primeF L f)
  | 0, _ => prime_deep (by decide)
  | f + 1, hf => by
    have h := primes hL f (by omega)
    rw [prime_succ]
    have e : (7 : Int) - ((f + 1 : Nat) : Int) + 1 = 7 - (f : Int) := by omega
    exact prime_step (m := f + 1) hL (by omega) (by omega) (by omega) (prime_fwd f) (by rw [e]; exact h)

theorem call_cellnil {P : Program} {f : Nat} {av : List D} {L : List Ob} {KP : D → Prop} {KW : D → List Ob → Prop} (k e : Nat) {ds : List D} (ds' : List D) (hk : L[k]? = some (.cells ds)) (h : NzL e L.length ds ds')
    (hc : CallS P f av (L.set k (.cells ds') ++ [.spare 0]) (fun _ => False) KW) : CallS P f av L KP KW :=
  call_shift (φ := fun d d' => d' = d) (shift_cellnil hk (NzL_eq h).1 (NzL_eq h).2) ⟨rfl, fun i d d' h1 h2 => by rw [h1] at h2; cases h2; rfl⟩ hc
def rparseI (L : List OTok) : OExpr × RSt := climbF L (primeF L 7) 5 1 ⟨0, []⟩
def rpRes (L : List OTok) : OExpr × Int × Int := if (rparseI L).2.errs = [] then ((rparseI L).1, ((rparseI L).2.at_ : Int), 0) else (noE, 0, (rparseI L).2.errs.headD 0)
def rpResD (p : OExpr × Int × Int) : D := .tup [exprU p.1, .int .i64 p.2.1, .int .i64 p.2.2]
theorem rparse_meets : Meets Tryd.prog n_plref1_Parse (SpecP (fun l : List OTok => l.length ≤ 1000000000) (fun l => [.sl 3 (l.map tokD) none]) fun l => rpResD (rpRes l)) := by
  refine meets_f tabOk Tryd.func179 rfl (by decide) ?_
  intro L hL
  refine ⟨Nat.le_refl _, by simp [Tryd.f179], fun E hE => ?_⟩
  have hp := climb_ok hL (by decide) (prime_fwd 7) (primes hL 7 (by decide)) 5 1 (by decide) (by decide) (by decide)
  refine vcOk _ ?_
  (all_goals refine qgp ?_ <;> (repeat' first | exact trivial | intro hc | refine And.intro ?_ ?_) <;> refine Lf.mk ?_)
  refine call_cellnil 1 1 [.sl 3 (L.map tokD) none, .int .i64 (0 : Nat), .sl 1 [] (some 2)] rfl ⟨.same, .same, .here, trivial⟩ ?_
  refine call_f hp [1, 2] [1, 2] ⟨0, []⟩ ⟨rfl, Nat.zero_le _⟩ rfl rfl ?_
  refine And.intro (VS.mk (LeL.of_eq rfl)) (And.intro (VS.mk rfl) ?_)
  have hp' : rpRes L = if (rparseI L).2.errs = [] then ((rparseI L).1, ((rparseI L).2.at_ : Int), 0) else (noE, 0, (rparseI L).2.errs.headD 0) := rfl
  have hx : climbF L (primeF L 7) 5 1 ⟨0, []⟩ = rparseI L := rfl
  rw [hx]
  generalize rparseI L = T at *
  obtain ⟨e, a, errs⟩ := T
  (all_goals refine qgp ?_ <;> (repeat' first | exact trivial | intro hc | refine And.intro ?_ ?_) <;> refine Lf.mk ?_)
  · cases errs with
    | nil => exact absurd hc (by decide)
    | cons x l =>
      rw [if_neg (by simp)] at hp'
      refine ix_map x (by omega) rfl ?_
      (all_goals refine qgp ?_ <;> (repeat' first | exact trivial | intro hc | refine And.intro ?_ ?_) <;> refine Lf.mk ?_)
      rw [hp']
      exact end_p (VS.mk (.tup (.cons noE_le (.cons (.refl _) (.cons (.refl _) .nil)))))
  · have he : errs = [] := List.eq_nil_of_length_eq_zero (by have hc : ¬ (0 : Int) < (errs.length : Int) := hc; omega)
    rw [if_pos he] at hp'
    rw [hp']
    refine end_p (VS.mk (LeD.of_eq ?_))
    show D.tup [.agg [.int .i64 e.kind, .int .i64 e.n, .str e.name, .sl 4 (e.kids.map exprD) none], .int .i64 _, .int .i64 0] = .tup [exprU e, _, _]
    cases e
    rw [exprU_mk, mk_kind, mk_n, mk_name, mk_kids]
end Go.Proofs.YtholdembikenfaaDoor

namespace Go.Proofs.YtholdembikenfaaDoor
open Go Go.Plat
set_option linter.unusedVariables false
set_option linter.unusedSimpArgs false
set_option maxRecDepth 100000
set_option maxHeartbeats 2000000
attribute [local irreducible] NilS LookS NormM bitI BytesS NormL Arith QuoS RemS ShlS ShrS BitS CatS SplitS SideS IdxS CallS LoopEnd EndS ModeS DrawS AWP Meets
attribute [local irreducible] signedI exprD nodes OExpr.kind OExpr.n OExpr.name OExpr.kids letterB digitB kindB nameB

def kindOf (k : Nat) (i : Int) : Int := (kinds k).getD i.toNat 0
def loopF (k : Nat) (sub : St → OExpr × St) : Nat → OExpr → St → OExpr × St
  | 0, e, s => (e, s)
  | g + 1, e, s => if s.err = 0 then (if (signI (signs k) s).1 < 0 then (e, (signI (signs k) s).2)
      else loopF k sub g (.mk (kindOf k (signI (signs k) s).1) 0 [] [e, (sub (signI (signs k) s).2).1]) (sub (signI (signs k) s).2).2)
    else (e, s)
def levelF (k : Nat) (sub : St → OExpr × St) (s : St) : OExpr × St := loopF k sub ((sub s).2.rest.length + 1) (sub s).1 (sub s).2
/-- level k of so many: 5 - j -/
def atF (one : St → OExpr × St) : Nat → St → OExpr × St
  | 0 => one
  | j + 1 => levelF (4 - j) (atF one j)
def tokI (s : St) : OExpr × St := match s.rest with
  | [] => (noE, failS s 9)
  | t :: r => if t.kind = 2 then (.mk 1 (signedI t.n 32) [] [], ⟨r, s.err⟩)
    else if t.kind = 1 then (if nameB t.text = true then (.mk 2 0 t.text [], ⟨r, s.err⟩) else (noE, failS ⟨r, s.err⟩ 7))
    else (noE, failS ⟨r, s.err⟩ 2)
def opens : List (List UInt8) := [[45], [126], [40]]
def closes : List (List UInt8) := [[41]]
def oneStep (one : St → OExpr × St) (s : St) : OExpr × St :=
  if (signI opens s).1 = 0 then (.mk 3 0 [] [(one (signI opens s).2).1], (one (signI opens s).2).2)
  else if (signI opens s).1 = 1 then (.mk 4 0 [] [(one (signI opens s).2).1], (one (signI opens s).2).2)
  else if (signI opens s).1 = 2 then
    (if (signI closes (atF one 5 (signI opens s).2).2).1 < 0 then (noE, failS (signI closes (atF one 5 (signI opens s).2).2).2 2)
     else ((atF one 5 (signI opens s).2).1, (signI closes (atF one 5 (signI opens s).2).2).2))
  else tokI (signI opens s).2
def oneI : Nat → St → OExpr × St
  | 0, s => (noE, failS s 10)
  | f + 1, s => oneStep (oneI f) s
def Shorter (p : St → OExpr × St) : Prop := ∀ s, (p s).2.rest.length ≤ s.rest.length
theorem sign_short (l : List (List UInt8)) (s : St) : (signI l s).2.rest.length ≤ s.rest.length ∧ (0 ≤ (signI l s).1 → (signI l s).2.rest.length + 1 = s.rest.length) := by
  obtain ⟨r, e⟩ := s
  cases r with
  | nil => exact ⟨Nat.le_refl _, fun h => by simp [signI] at h⟩
  | cons t r =>
    simp only [signI]
    split
    · split
      · exact ⟨by simp, fun _ => by simp⟩
      · exact ⟨Nat.le_refl _, fun h => by simp at h⟩
    · exact ⟨Nat.le_refl _, fun h => by simp at h⟩
theorem loop_short {k : Nat} {sub : St → OExpr × St} (hs : Shorter sub) : ∀ (g : Nat) (e : OExpr) (s : St), (loopF k sub g e s).2.rest.length ≤ s.rest.length
  | 0, e, s => Nat.le_refl _
  | g + 1, e, s => by
    rw [loopF]
    have h1 := (sign_short (signs k) s).1
    split
    · split
      · exact h1
      · have := loop_short (k := k) hs g (.mk (kindOf k (signI (signs k) s).1) 0 [] [e, (sub (signI (signs k) s).2).1]) (sub (signI (signs k) s).2).2
        have h2 := hs (signI (signs k) s).2
        omega
    · exact Nat.le_refl _
theorem level_short {k : Nat} {sub : St → OExpr × St} (hs : Shorter sub) : Shorter (levelF k sub) := fun s => by
  have h1 := hs s
  have h2 := loop_short (k := k) hs ((sub s).2.rest.length + 1) (sub s).1 (sub s).2
  unfold levelF; omega
theorem at_short {one : St → OExpr × St} (hs : Shorter one) : ∀ j, Shorter (atF one j)
  | 0 => hs
  | j + 1 => level_short (at_short hs j)
theorem fail_rest (s : St) (e : Int) : (failS s e).rest = s.rest := by unfold failS; split <;> rfl
theorem tok_short : Shorter tokI := fun s => by
  obtain ⟨r, e⟩ := s
  cases r with
  | nil => simp [tokI, fail_rest]
  | cons t r =>
    simp only [tokI]
    repeat' split
    all_goals (try rw [fail_rest]); simp
theorem step_short {one : St → OExpr × St} (hs : Shorter one) : Shorter (oneStep one) := fun s => by
  have h1 := (sign_short opens s).1
  have h2 := hs (signI opens s).2
  have h3 := at_short hs 5 (signI opens s).2
  have h4 := (sign_short closes (atF one 5 (signI opens s).2).2).1
  have h5 := tok_short (signI opens s).2
  unfold oneStep
  repeat' split
  all_goals (try dsimp only); (try rw [fail_rest]); omega
theorem one_short : ∀ f, Shorter (oneI f)
  | 0 => fun s => by rw [oneI, fail_rest]; exact Nat.le_refl _
  | f + 1 => fun s => by rw [oneI]; exact step_short (one_short f) s

theorem loop_0 {k : Nat} {sub : St → OExpr × St} {e : OExpr} {s : St} : loopF k sub 0 e s = (e, s) := rfl
theorem loop_stop {k g : Nat} {sub : St → OExpr × St} {e : OExpr} {s : St} (h : ¬ s.err = 0) : loopF k sub g e s = (e, s) := by
  cases g with
  | zero => rfl
  | succ g => rw [loopF, if_neg h]
theorem loop_break {k g : Nat} {sub : St → OExpr × St} {e : OExpr} {s : St} (h : s.err = 0) (h2 : (signI (signs k) s).1 < 0) : loopF k sub (g + 1) e s = (e, (signI (signs k) s).2) := by rw [loopF, if_pos h, if_pos h2]
theorem loop_go {k g : Nat} {sub : St → OExpr × St} {e : OExpr} {s : St} (h : s.err = 0) (h2 : ¬ (signI (signs k) s).1 < 0) : loopF k sub (g + 1) e s =
    loopF k sub g (.mk (kindOf k (signI (signs k) s).1) 0 [] [e, (sub (signI (signs k) s).2).1]) (sub (signI (signs k) s).2).2 := by rw [loopF, if_pos h, if_neg h2]
theorem ix_lev {k : Nat} {K : D → Prop} (hk : k < 5) (h : K (levD k)) : IdxS [levD 0, levD 1, levD 2, levD 3, levD 4] (k : Int) K := by
  unfold IdxS
  refine ⟨by omega, levD k, ?_, h⟩
  rw [Int.toNat_natCast]
  match k, hk with
  | 0, _ => rfl
  | 1, _ => rfl
  | 2, _ => rfl
  | 3, _ => rfl
  | 4, _ => rfl
theorem idxT_bd (x : List UInt8) : ∀ (l : List (List UInt8)) (k : Nat), idxT x l k < ((k + l.length : Nat) : Int)
  | [], k => by rw [idxT]; omega
  | s :: l, k => by
    rw [idxT]
    split
    · simp only [List.length_cons]; omega
    · have := idxT_bd x l (k + 1)
      simp only [List.length_cons]; omega
theorem sign_bd (l : List (List UInt8)) (s : St) : (signI l s).1 < (l.length : Int) ∨ l.length = 0 := by
  obtain ⟨r, e⟩ := s
  cases r with
  | nil => simp only [signI]; omega
  | cons t r =>
    have := idxT_bd t.text l 0
    simp only [signI]
    split
    · split
      · dsimp only; omega
      · dsimp only; omega
    · dsimp only; omega
theorem signs_len (k : Nat) : (signs k).length = (kinds k).length ∧ 0 < (signs k).length ∧ (signs k).length ≤ 2 := by
  unfold signs kinds
  split <;> exact ⟨rfl, by decide, by decide⟩
theorem kinds_at {k : Nat} {s : St} (h : ¬ (signI (signs k) s).1 < 0) : (kinds k)[(signI (signs k) s).1.toNat]? = some (kindOf k (signI (signs k) s).1) := by
  have h1 := sign_bd (signs k) s
  obtain ⟨h2, h3, _⟩ := signs_len k
  have hlt : (signI (signs k) s).1.toNat < (kinds k).length := by omega
  unfold kindOf
  rw [List.getD_eq_getElem?_getD, List.getElem?_eq_getElem hlt]
  rfl
end Go.Proofs.YtholdembikenfaaDoor

namespace Go.Proofs.YtholdembikenfaaDoor
open Go Go.Plat
set_option linter.unusedVariables false
set_option linter.unusedSimpArgs false
set_option maxRecDepth 100000
set_option maxHeartbeats 2000000
attribute [local irreducible] NilS LookS NormM bitI BytesS NormL Arith QuoS RemS ShlS ShrS BitS CatS SplitS SideS IdxS CallS LoopEnd EndS ModeS DrawS AWP Meets
attribute [local irreducible] signedI exprD nodes OExpr.kind OExpr.n OExpr.name OExpr.kids letterB digitB kindB nameB signI oneI failS tokI oneStep loopF

def AtOk (k : Int) (d : Int) (f : St → OExpr × St) : Prop :=
  Meets Tryd.prog n_expr_reader_at (SpecF (fun s : St => s.rest.length ≤ 1000000000) (fun _ => [.loc 0 0, .int .i64 k, .int .i64 d]) stO (fun s => exprU (f s).1) fun s => stO (f s).2)
def OneOk (d : Int) (f : St → OExpr × St) : Prop :=
  Meets Tryd.prog n_expr_reader_one (SpecF (fun s : St => s.rest.length ≤ 1000000000) (fun _ => [.loc 0 0, .int .i64 d]) stO (fun s => exprU (f s).1) fun s => stO (f s).2)

theorem at_top {d : Int} {one : St → OExpr × St} (h : OneOk d one) : AtOk 5 d (atF one 0) := by
  refine meets_f tabOk Tryd.func59 rfl (by decide) ?_
  intro s hs
  refine ⟨Nat.le_refl _, by simp [Tryd.f59], fun E hE => ?_⟩
  refine vcOk _ ?_
  (all_goals refine qgp ?_ <;> (repeat' first | exact trivial | intro hc | refine And.intro ?_ ?_) <;> refine Lf.mk ?_)
  refine call_p levels_meets () trivial (VS.mk (LeL.of_eq rfl)) ?_
  (all_goals refine qgp ?_ <;> (repeat' first | exact trivial | intro hc | refine And.intro ?_ ?_) <;> refine Lf.mk ?_)
  refine call_f h [0] [0] s hs rfl rfl ?_
  refine And.intro (VS.mk (LeL.of_eq rfl)) (And.intro (VS.mk rfl) ?_)
  (all_goals refine qgp ?_ <;> (repeat' first | exact trivial | intro hc | refine And.intro ?_ ?_) <;> refine Lf.mk ?_)
  refine end_mk ?_
  (repeat' (first | (refine VS.mk ?_) | exact trivial | exact rfl | refine And.intro ?_ ?_))

theorem at_level {d : Int} {k : Nat} {sub : St → OExpr × St} (hk : k < 5) (hsub : Shorter sub) (h : AtOk ((k : Int) + 1) d sub) : AtOk k d (levelF k sub) := by
  refine meets_f tabOk Tryd.func59 rfl (by decide) ?_
  intro s hs
  refine ⟨Nat.le_refl _, by simp [Tryd.f59], fun E hE => ?_⟩
  refine vcOk _ ?_
  (all_goals refine qgp ?_ <;> (repeat' first | exact trivial | intro hc | refine And.intro ?_ ?_) <;> refine Lf.mk ?_)
  refine call_p levels_meets () trivial (VS.mk (LeL.of_eq rfl)) ?_
  (all_goals refine qgp ?_ <;> (repeat' first | exact trivial | intro hc | refine And.intro ?_ ?_) <;> refine Lf.mk ?_)
  refine call_f h [0] [0] s hs rfl rfl ?_
  refine And.intro (VS.mk (LeL.of_eq rfl)) (And.intro (VS.mk rfl) ?_)
  (all_goals refine qgp ?_ <;> (repeat' first | exact trivial | intro hc | refine And.intro ?_ ?_) <;> refine Lf.mk ?_)
  have hs1 := hsub s
  obtain ⟨hsl1, hsl2, hsl3⟩ := signs_len k
  generalize hT : levelF k sub s = T at *
  have hT0 : loopF k sub ((sub s).2.rest.length + 1) (sub s).1 (sub s).2 = T := hT
  refine awp_loop (α := Nat × OExpr × St) (fun p => p.2.2.rest.length < p.1 ∧ p.2.2.rest.length ≤ 1000000000 ∧ loopF k sub p.1 p.2.1 p.2.2 = T)
    (fun p => [(0, .loc 0 0), (1, .int .i64 k), (2, .int .i64 d), (6, .loc 1 0), (7, levsD), (8, .loc 2 0)])
    (fun p => stO p.2.2 ++ [.cells [.int .i64 0, .int .i64 0, .str [], .nilsl], .cells [.int .i64 p.2.1.kind, .int .i64 p.2.1.n, .str p.2.1.name, .sl 4 (p.2.1.kids.map exprD) none]]) (fun p => p.1) (fun _ => by simp [hE, stO])
    ((sub s).2.rest.length + 1, (sub s).1, (sub s).2) ⟨Nat.lt_succ_self _, Nat.le_trans hs1 hs, hT0⟩ ?_ ?_
  · (repeat' (first | (refine VS.mk ?_) | exact trivial | exact rfl | refine And.intro ?_ ?_))
  rintro ⟨g, e, s2⟩ ⟨hg, hs2, hl⟩
  dsimp only at hg hs2 hl ⊢
  obtain ⟨g, rfl⟩ : ∃ g', g = g' + 1 := ⟨g - 1, by omega⟩
  refine vcOk _ ?_
  (all_goals refine qgp ?_ <;> (repeat' first | exact trivial | intro hc | refine And.intro ?_ ?_) <;> refine Lf.mk ?_)
  · refine ix_lev hk ?_
    (all_goals refine qgp ?_ <;> (repeat' first | exact trivial | intro hc | refine And.intro ?_ ?_) <;> refine Lf.mk ?_)
    refine call_f sign_meets [0] [0] (s2, signs k) ⟨by omega, hs2⟩ rfl rfl ?_
    refine And.intro (VS.mk (LeL.of_eq rfl)) (And.intro (VS.mk rfl) ?_)
    obtain ⟨q1, q2⟩ := sign_short (signs k) s2
    (all_goals refine qgp ?_ <;> (repeat' first | exact trivial | intro hc | refine And.intro ?_ ?_) <;> refine Lf.mk ?_)
    · rw [loop_break (by assumption) hc] at hl
      subst hl
      refine end_mk ?_
      (repeat' (first | (refine VS.mk ?_) | exact trivial | exact rfl | refine And.intro ?_ ?_))
    · rw [loop_go (by assumption) hc] at hl
      have hka := kinds_at (k := k) (s := s2) hc
      refine ix_lev hk ?_
      (all_goals refine qgp ?_ <;> (repeat' first | exact trivial | intro hc | refine And.intro ?_ ?_) <;> refine Lf.mk ?_)
      refine ix_map (kindOf k (signI (signs k) s2).1) (by omega) (by simpa using hka) ?_
      (all_goals refine qgp ?_ <;> (repeat' first | exact trivial | intro hc | refine And.intro ?_ ?_) <;> refine Lf.mk ?_)
      have q3 := hsub (signI (signs k) s2).2
      refine call_f h [0] [0] (signI (signs k) s2).2 (by omega) rfl rfl ?_
      refine And.intro (VS.mk (LeL.of_eq rfl)) (And.intro (VS.mk rfl) ?_)
      (all_goals refine qgp ?_ <;> (repeat' first | exact trivial | intro hc | refine And.intro ?_ ?_) <;> refine Lf.mk ?_)
      refine loop_end (g, .mk (kindOf k (signI (signs k) s2).1) 0 [] [e, (sub (signI (signs k) s2).2).1], (sub (signI (signs k) s2).2).2) ⟨by (dsimp only; omega), by (dsimp only; omega), hl⟩ (by dsimp only; omega) ?_
      dsimp only
      rw [mk_kind, mk_n, mk_name, mk_kids, map2]
      (repeat' (first | (refine VS.mk ?_) | exact trivial | exact rfl | refine And.intro ?_ ?_))
  · rw [loop_stop hc] at hl
    subst hl
    refine end_mk ?_
    (repeat' (first | (refine VS.mk ?_) | exact trivial | exact rfl | refine And.intro ?_ ?_))
end Go.Proofs.YtholdembikenfaaDoor

namespace Go.Proofs.YtholdembikenfaaDoor
open Go Go.Plat
set_option linter.unusedVariables false
set_option linter.unusedSimpArgs false
set_option maxRecDepth 100000
set_option maxHeartbeats 2000000
attribute [local irreducible] NilS LookS NormM bitI BytesS NormL Arith QuoS RemS ShlS ShrS BitS CatS SplitS SideS IdxS CallS LoopEnd EndS ModeS DrawS AWP Meets
attribute [local irreducible] signedI exprD nodes OExpr.kind OExpr.n OExpr.name OExpr.kids letterB digitB kindB nameB signI oneI failS loopF

theorem at_all {d : Int} {one : St → OExpr × St} (hs : Shorter one) (h : OneOk d one) : AtOk 0 d (atF one 5) := by
  have h5 : AtOk (((4 : Nat) : Int) + 1) d (atF one 0) := at_top h
  have h4 : AtOk (((3 : Nat) : Int) + 1) d (atF one 1) := at_level (k := 4) (by decide) (at_short hs 0) h5
  have h3 : AtOk (((2 : Nat) : Int) + 1) d (atF one 2) := at_level (k := 3) (by decide) (at_short hs 1) h4
  have h2 : AtOk (((1 : Nat) : Int) + 1) d (atF one 3) := at_level (k := 2) (by decide) (at_short hs 2) h3
  have h1 : AtOk (((0 : Nat) : Int) + 1) d (atF one 4) := at_level (k := 1) (by decide) (at_short hs 3) h2
  exact at_level (k := 0) (by decide) (at_short hs 4) h1

theorem one_deep {d : Int} (h : 6 < d) : OneOk d (oneI 0) := by
  refine meets_f tabOk Tryd.func107 rfl (by decide) ?_
  intro s hs
  refine ⟨Nat.le_refl _, by simp [Tryd.f107], fun E hE => ?_⟩
  refine vcOk _ ?_
  (all_goals refine qgp ?_ <;> (repeat' first | exact trivial | intro hc | refine And.intro ?_ ?_) <;> refine Lf.mk ?_)
  refine call_f fail_meets [0] [0] (s, 10) trivial rfl rfl ?_
  refine And.intro (VS.mk (LeL.of_eq rfl)) (And.intro (VS.mk rfl) ?_)
  have ho : oneI 0 s = (noE, failS s 10) := by rw [oneI]
  (all_goals refine qgp ?_ <;> (repeat' first | exact trivial | intro hc | refine And.intro ?_ ?_) <;> refine Lf.mk ?_)
  refine end_mk ?_
  (repeat' (first | (refine VS.mk ?_) | exact trivial | exact rfl | refine And.intro ?_ ?_))
  all_goals (rw [ho]; rfl)

theorem one_step {d : Int} {one : St → OExpr × St} (hd : d ≤ 6) (hd0 : 0 ≤ d) (hsub : Shorter one) (h : OneOk (d + 1) one) : OneOk d (oneStep one) := by
  have hat := at_all hsub h
  refine meets_f tabOk Tryd.func107 rfl (by decide) ?_
  intro s hs
  have q1 := (sign_short opens s).1
  refine ⟨Nat.le_refl _, by simp [Tryd.f107], fun E hE => ?_⟩
  refine vcOk _ ?_
  (all_goals refine qgp ?_ <;> (repeat' first | exact trivial | intro hc | refine And.intro ?_ ?_) <;> refine Lf.mk ?_)
  refine call_f sign_meets [0] [0] (s, opens) ⟨by decide, hs⟩ rfl rfl ?_
  refine And.intro (VS.mk (LeL.of_eq rfl)) (And.intro (VS.mk rfl) ?_)
  dsimp only
  have hstep : oneStep one s = if (signI opens s).1 = 0 then (.mk 3 0 [] [(one (signI opens s).2).1], (one (signI opens s).2).2)
    else if (signI opens s).1 = 1 then (.mk 4 0 [] [(one (signI opens s).2).1], (one (signI opens s).2).2)
    else if (signI opens s).1 = 2 then
      (if (signI closes (atF one 5 (signI opens s).2).2).1 < 0 then (noE, failS (signI closes (atF one 5 (signI opens s).2).2).2 2)
       else ((atF one 5 (signI opens s).2).1, (signI closes (atF one 5 (signI opens s).2).2).2))
    else tokI (signI opens s).2 := rfl
  generalize hS : signI opens s = S at *
  obtain ⟨i, s1⟩ := S
  have q1 : s1.rest.length ≤ s.rest.length := q1
  (all_goals refine qgp ?_ <;> (repeat' first | exact trivial | intro hc | refine And.intro ?_ ?_) <;> refine Lf.mk ?_)
  · refine call_f h [0] [0] s1 (by omega) rfl rfl ?_
    refine And.intro (VS.mk (LeL.of_eq rfl)) (And.intro (VS.mk rfl) ?_)
    (all_goals refine qgp ?_ <;> (repeat' first | exact trivial | intro hc | refine And.intro ?_ ?_) <;> refine Lf.mk ?_)
    have ho : oneStep one s = (.mk 3 0 [] [(one s1).1], (one s1).2) := by rw [hstep, if_pos hc]
    refine end_mk ?_
    (repeat' (first | (refine VS.mk ?_) | exact trivial | exact rfl | refine And.intro ?_ ?_))
    all_goals (rw [ho])
    · dsimp only; rw [exprU_mk, map1]; rfl
    · rfl
  · refine call_f h [0] [0] s1 (by omega) rfl rfl ?_
    refine And.intro (VS.mk (LeL.of_eq rfl)) (And.intro (VS.mk rfl) ?_)
    (all_goals refine qgp ?_ <;> (repeat' first | exact trivial | intro hc | refine And.intro ?_ ?_) <;> refine Lf.mk ?_)
    have ho : oneStep one s = (.mk 4 0 [] [(one s1).1], (one s1).2) := by rw [hstep, if_neg (by assumption), if_pos hc]
    refine end_mk ?_
    (repeat' (first | (refine VS.mk ?_) | exact trivial | exact rfl | refine And.intro ?_ ?_))
    all_goals (rw [ho])
    · dsimp only; rw [exprU_mk, map1]; rfl
    · rfl
  · have q2 := at_short hsub 5 s1
    refine call_f hat [0] [0] s1 (by omega) rfl rfl ?_
    refine And.intro (VS.mk (LeL.of_eq rfl)) (And.intro (VS.mk rfl) ?_)
    (all_goals refine qgp ?_ <;> (repeat' first | exact trivial | intro hc | refine And.intro ?_ ?_) <;> refine Lf.mk ?_)
    refine call_f sign_meets [0] [0] ((atF one 5 s1).2, closes) ⟨by decide, by omega⟩ rfl rfl ?_
    refine And.intro (VS.mk (LeL.of_eq rfl)) (And.intro (VS.mk rfl) ?_)
    (all_goals refine qgp ?_ <;> (repeat' first | exact trivial | intro hc | refine And.intro ?_ ?_) <;> refine Lf.mk ?_)
    · refine call_f fail_meets [0] [0] ((signI closes (atF one 5 s1).2).2, 2) trivial rfl rfl ?_
      refine And.intro (VS.mk (LeL.of_eq rfl)) (And.intro (VS.mk rfl) ?_)
      (all_goals refine qgp ?_ <;> (repeat' first | exact trivial | intro hc | refine And.intro ?_ ?_) <;> refine Lf.mk ?_)
      have ho : oneStep one s = (noE, failS (signI closes (atF one 5 s1).2).2 2) := by rw [hstep, if_neg (by assumption), if_neg (by assumption), if_pos (by assumption)]; dsimp only; rw [if_pos hc]
      refine end_mk ?_
      (repeat' (first | (refine VS.mk ?_) | exact trivial | exact rfl | refine And.intro ?_ ?_))
      all_goals (rw [ho]; rfl)
    · have ho : oneStep one s = ((atF one 5 s1).1, (signI closes (atF one 5 s1).2).2) := by rw [hstep, if_neg (by assumption), if_neg (by assumption), if_pos (by assumption)]; dsimp only; rw [if_neg hc]
      refine end_mk ?_
      (repeat' (first | (refine VS.mk ?_) | exact trivial | exact rfl | refine And.intro ?_ ?_))
      all_goals (rw [ho]; rfl)
  · have hr : s1.rest = [] := List.eq_nil_of_length_eq_zero (by omega)
    refine call_f fail_meets [0] [0] (s1, 9) trivial rfl rfl ?_
    refine And.intro (VS.mk (LeL.of_eq rfl)) (And.intro (VS.mk rfl) ?_)
    (all_goals refine qgp ?_ <;> (repeat' first | exact trivial | intro hc | refine And.intro ?_ ?_) <;> refine Lf.mk ?_)
    have ho : oneStep one s = (noE, failS s1 9) := by rw [hstep, if_neg (by assumption), if_neg (by assumption), if_neg (by assumption)]; dsimp only; unfold tokI; rw [hr]
    refine end_mk ?_
    (repeat' (first | (refine VS.mk ?_) | exact trivial | exact rfl | refine And.intro ?_ ?_))
    all_goals (rw [ho]; rfl)
  · obtain ⟨r1, e1⟩ := s1
    cases r1 with
    | nil => exfalso; exact hc rfl
    | cons t r =>
      have ho : oneStep one s = if t.kind = 2 then (.mk 1 (signedI t.n 32) [] [], ⟨r, e1⟩)
          else if t.kind = 1 then (if nameB t.text = true then (.mk 2 0 t.text [], ⟨r, e1⟩) else (noE, failS ⟨r, e1⟩ 7))
          else (noE, failS ⟨r, e1⟩ 2) := by rw [hstep, if_neg (by assumption), if_neg (by assumption), if_neg (by assumption)]; rfl
      clear hstep hS
      (all_goals refine qgp ?_ <;> (repeat' first | exact trivial | intro hc | refine And.intro ?_ ?_) <;> refine Lf.mk ?_)
      · refine call_p signed_meets2 t.n trivial (VS.mk (LeL.of_eq rfl)) ?_
        (all_goals refine qgp ?_ <;> (repeat' first | exact trivial | intro hc | refine And.intro ?_ ?_) <;> refine Lf.mk ?_)
        rw [if_pos hc] at ho
        refine end_le (r1 := exprU (.mk 1 (signedI t.n 32) [] [])) (by rw [exprU_mk]; exact .agg (.cons (.refl _) (.cons (.refl _) (.cons (.refl _) (.cons (.nil 4) .nil))))) ?_ (Nat.le_refl _)
        refine end_mk ?_
        (repeat' (first | (refine VS.mk ?_) | exact trivial | exact rfl | refine And.intro ?_ ?_))
        all_goals (rw [ho]; rfl)
      · refine call_p name_any t.text trivial (VS.mk (LeL.of_eq rfl)) ?_
        (all_goals refine qgp ?_ <;> (repeat' first | exact trivial | intro hc | refine And.intro ?_ ?_) <;> refine Lf.mk ?_)
        · rw [if_neg (by assumption), if_pos (by assumption), if_pos hc] at ho
          refine end_le (r1 := exprU (.mk 2 0 t.text [])) (by rw [exprU_mk]; exact .agg (.cons (.refl _) (.cons (.refl _) (.cons (.refl _) (.cons (.nil 4) .nil))))) ?_ (Nat.le_refl _)
          refine end_mk ?_
          (repeat' (first | (refine VS.mk ?_) | exact trivial | exact rfl | refine And.intro ?_ ?_))
          all_goals (rw [ho]; rfl)
        · refine call_f fail_meets [0] [0] (⟨r, e1⟩, 7) trivial rfl rfl ?_
          refine And.intro (VS.mk (LeL.of_eq rfl)) (And.intro (VS.mk rfl) ?_)
          (all_goals refine qgp ?_ <;> (repeat' first | exact trivial | intro hc | refine And.intro ?_ ?_) <;> refine Lf.mk ?_)
          rw [if_neg (by assumption), if_pos hc, if_neg (by rw [(by assumption : nameB t.text = false)]; decide)] at ho
          refine end_mk ?_
          (repeat' (first | (refine VS.mk ?_) | exact trivial | exact rfl | refine And.intro ?_ ?_))
          all_goals (rw [ho]; rfl)
      · refine call_f fail_meets [0] [0] (⟨r, e1⟩, 2) trivial rfl rfl ?_
        refine And.intro (VS.mk (LeL.of_eq rfl)) (And.intro (VS.mk rfl) ?_)
        (all_goals refine qgp ?_ <;> (repeat' first | exact trivial | intro hc | refine And.intro ?_ ?_) <;> refine Lf.mk ?_)
        rw [if_neg (by assumption), if_neg (by assumption)] at ho
        refine end_mk ?_
        (repeat' (first | (refine VS.mk ?_) | exact trivial | exact rfl | refine And.intro ?_ ?_))
        all_goals (rw [ho]; rfl)
end Go.Proofs.YtholdembikenfaaDoor

namespace Go.Proofs.YtholdembikenfaaDoor
open Go Go.Plat
set_option linter.unusedVariables false
set_option linter.unusedSimpArgs false
set_option maxRecDepth 100000
set_option maxHeartbeats 2000000
attribute [local irreducible] NilS LookS NormM bitI BytesS NormL Arith QuoS RemS ShlS ShrS BitS CatS SplitS SideS IdxS CallS LoopEnd EndS ModeS DrawS AWP Meets
attribute [local irreducible] signedI exprD nodes OExpr.kind OExpr.n OExpr.name OExpr.kids letterB digitB kindB nameB signI oneI failS loopF

theorem one_succ (f : Nat) : oneI (f + 1) = oneStep (oneI f) := by funext s; rw [oneI]
theorem ones : ∀ f : Nat, f ≤ 7 → OneOk (7 - (f : Int)) (oneI f)
  | 0, _ => one_deep (by decide)
  | f + 1, hf => by
    have h := ones f (by omega)
    rw [one_succ]
    have e : (7 : Int) - ((f + 1 : Nat) : Int) + 1 = 7 - (f : Int) := by omega
    exact one_step (by omega) (by omega) (one_short f) (by rw [e]; exact h)
theorem at_one : AtOk 0 0 (atF (oneI 7) 5) := at_all (one_short 7) (ones 7 (by decide))

def parseI (l : List OTok) : OExpr × St := atF (oneI 7) 5 ⟨l, 0⟩
def pRes (l : List OTok) : OExpr × Int × Int := if (parseI l).2.err = 0 then ((parseI l).1, (l.length : Int) - (parseI l).2.rest.length, 0) else (noE, 0, (parseI l).2.err)
def pResD (p : OExpr × Int × Int) : D := .tup [exprU p.1, .int .i64 p.2.1, .int .i64 p.2.2]
theorem parse_short (l : List OTok) : (parseI l).2.rest.length ≤ l.length := at_short (one_short 7) 5 ⟨l, 0⟩
theorem parse_meets : Meets Tryd.prog n_expr_Parse (SpecP (fun l : List OTok => l.length ≤ 1000000000) (fun l => [.sl 3 (l.map tokD) none]) fun l => pResD (pRes l)) := by
  refine meets_f tabOk Tryd.func19 rfl (by decide) ?_
  intro l hl
  refine ⟨Nat.le_refl _, by simp [Tryd.f19], fun E hE => ?_⟩
  refine vcOk _ ?_
  (all_goals refine qgp ?_ <;> (repeat' first | exact trivial | intro hc | refine And.intro ?_ ?_) <;> refine Lf.mk ?_)
  refine call_f at_one [1] [1] ⟨l, 0⟩ hl rfl rfl ?_
  refine And.intro (VS.mk (LeL.of_eq rfl)) (And.intro (VS.mk rfl) ?_)
  have hq := parse_short l
  have hp : pRes l = if (parseI l).2.err = 0 then ((parseI l).1, (l.length : Int) - (parseI l).2.rest.length, 0) else (noE, 0, (parseI l).2.err) := rfl
  have hx : atF (oneI 7) 5 ⟨l, 0⟩ = parseI l := rfl
  rw [hx]
  generalize parseI l = T at *
  obtain ⟨e, r, er⟩ := T
  have hq : r.length ≤ l.length := hq
  (all_goals refine qgp ?_ <;> (repeat' first | exact trivial | intro hc | refine And.intro ?_ ?_) <;> refine Lf.mk ?_)
  · rw [hp, if_neg hc]
    exact end_p (VS.mk (.tup (.cons noE_le (.cons (.refl _) (.cons (.refl _) .nil)))))
  · rw [hp, if_pos hc]
    refine end_p (VS.mk (LeD.of_eq ?_))
    show D.tup [.agg [.int .i64 e.kind, .int .i64 e.n, .str e.name, .sl 4 (e.kids.map exprD) none], .int .i64 _, .int .i64 0] = .tup [exprU e, _, _]
    cases e
    rw [exprU_mk, mk_kind, mk_n, mk_name, mk_kids]
end Go.Proofs.YtholdembikenfaaDoor

namespace Go.Proofs.YtholdembikenfaaDoor
open Go Go.Plat
set_option linter.unusedVariables false
set_option linter.unusedSimpArgs false
set_option maxRecDepth 100000
set_option maxHeartbeats 2000000
attribute [local irreducible] NilS LookS NormM bitI BytesS NormL Arith QuoS RemS ShlS ShrS BitS CatS SplitS SideS IdxS CallS LoopEnd EndS ModeS DrawS AWP Meets
attribute [local irreducible] signedI exprD nodes OExpr.kind OExpr.n OExpr.name OExpr.kids letterB digitB kindB nameB

def hS (L : List OTok) (s : RSt) : St := ⟨L.drop s.at_, s.errs.headD 0⟩
def Okk (s : RSt) : Prop := s.errs = [] ∨ s.errs.headD 0 ≠ 0
def Sim (L : List OTok) (f : St → OExpr × St) (F : RSt → OExpr × RSt) : Prop := ∀ s, s.errs = [] → s.at_ ≤ L.length → f (hS L s) = ((F s).1, hS L (F s).2) ∧ Okk (F s).2
def Stuck (L : List OTok) (least : Int) (s : RSt) : Prop := s.errs = [] → strT (rsign L s) < least

theorem err_h {L : List OTok} {s : RSt} (h : Okk s) : (hS L s).err = 0 ↔ s.errs = [] := by
  constructor
  · intro h1
    rcases h with h | h
    · exact h
    · exact absurd h1 h
  · intro h1; show s.errs.headD 0 = 0; rw [h1]; rfl
theorem fail_h {L : List OTok} {s : RSt} {e : Int} (h : Okk s) (he : e ≠ 0) : failS (hS L s) e = hS L (rbad s e) ∧ Okk (rbad s e) := by
  obtain ⟨a, errs⟩ := s
  cases errs with
  | nil => exact ⟨rfl, .inr he⟩
  | cons x l =>
    have hx : x ≠ 0 := by rcases h with h | h; · cases h
                          · exact h
    refine ⟨?_, .inr hx⟩
    unfold failS
    exact if_neg hx
theorem idx_nil : ∀ (l : List (List UInt8)) (k : Nat), (∀ x ∈ l, x ≠ []) → idxT [] l k = -1
  | [], _, _ => rfl
  | x :: l, k, h => by
    rw [idxT, if_neg (fun h0 => h x (by simp) h0.symm)]
    exact idx_nil l (k + 1) fun y hy => h y (by simp [hy])
theorem sign_h {L : List OTok} {l : List (List UInt8)} (hl : ∀ x ∈ l, x ≠ []) (s : RSt) : signI l (hS L s) = if 0 ≤ idxT (rsign L s) l 0 then (idxT (rsign L s) l 0, hS L (rnext s)) else (-1, hS L s) := by
  have hn := idx_nil l 0 hl
  cases ht : L[s.at_]? with
  | none =>
    have hr : rsign L s = [] := by unfold rsign; rw [ht]
    have h1 : L.length ≤ s.at_ := by rcases Nat.lt_or_ge s.at_ L.length with h | h
                                     · rw [List.getElem?_eq_getElem h] at ht; cases ht
                                     · exact h
    have hh : hS L s = ⟨[], s.errs.headD 0⟩ := by unfold hS; rw [List.drop_of_length_le h1]
    rw [hr, hn, if_neg (by decide), hh]
    rfl
  | some t =>
    have hr : rsign L s = if t.kind = 3 then t.text else [] := by unfold rsign; rw [ht]
    obtain ⟨h1, h2⟩ := List.getElem?_eq_some_iff.1 ht
    have hh : hS L s = ⟨t :: L.drop (s.at_ + 1), s.errs.headD 0⟩ := by unfold hS; rw [List.drop_eq_getElem_cons h1, h2]
    have h3 : signI l (hS L s) = if t.kind = 3 then (if 0 ≤ idxT t.text l 0 then (idxT t.text l 0, hS L (rnext s)) else (-1, hS L s)) else (-1, hS L s) := by rw [hh]; rfl
    rw [h3]
    by_cases hk : t.kind = 3
    · rw [if_pos hk] at hr ⊢; rw [hr]
    · rw [if_neg hk] at hr ⊢; rw [hr, hn, if_neg (by decide)]
theorem signs_ne (k : Nat) : ∀ x ∈ signs k, x ≠ [] := by
  unfold signs
  split <;> decide
theorem lev_str (k : Nat) (hk : k < 5) (t : List UInt8) : (0 ≤ idxT t (signs k) 0 ↔ strT t = (k : Int) + 1) ∧ (strT t = (k : Int) + 1 → kindOf k (idxT t (signs k) 0) = kndT t) := by
  by_cases h1 : t = [124]
  · subst h1; match k, hk with | 0, _ => decide | 1, _ => decide | 2, _ => decide | 3, _ => decide | 4, _ => decide
  by_cases h2 : t = [38]
  · subst h2; match k, hk with | 0, _ => decide | 1, _ => decide | 2, _ => decide | 3, _ => decide | 4, _ => decide
  by_cases h3 : t = [60, 60]
  · subst h3; match k, hk with | 0, _ => decide | 1, _ => decide | 2, _ => decide | 3, _ => decide | 4, _ => decide
  by_cases h4 : t = [62, 62]
  · subst h4; match k, hk with | 0, _ => decide | 1, _ => decide | 2, _ => decide | 3, _ => decide | 4, _ => decide
  by_cases h5 : t = [43]
  · subst h5; match k, hk with | 0, _ => decide | 1, _ => decide | 2, _ => decide | 3, _ => decide | 4, _ => decide
  by_cases h6 : t = [45]
  · subst h6; match k, hk with | 0, _ => decide | 1, _ => decide | 2, _ => decide | 3, _ => decide | 4, _ => decide
  by_cases h7 : t = [42]
  · subst h7; match k, hk with | 0, _ => decide | 1, _ => decide | 2, _ => decide | 3, _ => decide | 4, _ => decide
  have hs : strT t = 0 := by unfold strT; simp [*]
  have hi : ∀ k, k < 5 → idxT t (signs k) 0 = -1 := by
    intro k hk
    match k, hk with
    | 0, _ => simp [signs, idxT, *]
    | 1, _ => simp [signs, idxT, *]
    | 2, _ => simp [signs, idxT, *]
    | 3, _ => simp [signs, idxT, *]
    | 4, _ => simp [signs, idxT, *]
  rw [hs, hi k hk]
  constructor
  · constructor
    · intro h; exact absurd h (by decide)
    · intro h; omega
  · intro h; omega

theorem rloop_fuel {L : List OTok} {m : Nat} {least : Int} {sub : Int → RSt → OExpr × RSt} (hl : 1 ≤ least) (hs : ∀ k, least < k → Fwd L m (sub k)) : ∀ (n : Nat) (e : OExpr) (s : RSt) (n2 : Nat), s.at_ ≤ L.length → L.length < s.at_ + n → L.length < s.at_ + n2 →
    rloopF L least sub n e s = rloopF L least sub n2 e s
  | 0, e, s, n2, h1, h2, h3 => absurd h1 (by omega)
  | n + 1, e, s, n2, h1, h2, h3 => by
    by_cases he : s.errs = []
    · by_cases hst : strT (rsign L s) < least
      · rw [rloop_break hst, rloop_break hst]
      · obtain ⟨n2, rfl⟩ : ∃ q, n2 = q + 1 := ⟨n2 - 1, by omega⟩
        have hin := str_in (L := L) (s := s) (by omega)
        obtain ⟨a1, a2, a3⟩ := hs (strT (rsign L s) + 1) (by omega) (rnext s) he hin
        have a1 : s.at_ + 1 ≤ _ := a1
        rw [rloop_go he hst, rloop_go he hst]
        exact rloop_fuel hl hs n _ _ n2 a2 (by omega) (by omega)
    · rw [rloop_stop he, rloop_stop he]
theorem rloop_split {L : List OTok} {m : Nat} {least : Int} {sub : Int → RSt → OExpr × RSt} (hl : 1 ≤ least) (hs : ∀ k, least < k → Fwd L m (sub k)) : ∀ (n : Nat) (e : OExpr) (s : RSt) (n2 n3 : Nat), s.at_ ≤ L.length → L.length < s.at_ + n → L.length < s.at_ + n2 → L.length < s.at_ + n3 →
    rloopF L least sub n e s = rloopF L least sub n2 (rloopF L (least + 1) sub n3 e s).1 (rloopF L (least + 1) sub n3 e s).2
  | 0, e, s, n2, n3, h1, h2, h3, h4 => absurd h1 (by omega)
  | n + 1, e, s, n2, n3, h1, h2, h3, h4 => by
    by_cases he : s.errs = []
    · by_cases hst : strT (rsign L s) < least + 1
      · rw [rloop_break hst]
        exact rloop_fuel hl hs (n + 1) e s n2 h1 h2 h3
      · obtain ⟨n3, rfl⟩ : ∃ q, n3 = q + 1 := ⟨n3 - 1, by omega⟩
        have hin := str_in (L := L) (s := s) (by omega)
        obtain ⟨a1, a2, a3⟩ := hs (strT (rsign L s) + 1) (by omega) (rnext s) he hin
        have a1 : s.at_ + 1 ≤ _ := a1
        rw [rloop_go he hst, rloop_go he (by omega)]
        exact rloop_split hl hs n _ _ n2 n3 a2 (by omega) (by omega) (by omega)
    · rw [rloop_stop he, rloop_stop he, rloop_stop he]
theorem rloop_stuck {L : List OTok} {m : Nat} {least : Int} {sub : Int → RSt → OExpr × RSt} (hl : 1 ≤ least) (hs : ∀ k, least < k → Fwd L m (sub k)) : ∀ (n : Nat) (e : OExpr) (s : RSt), s.at_ ≤ L.length → L.length < s.at_ + n → Stuck L least (rloopF L least sub n e s).2
  | 0, e, s, h1, h2 => absurd h1 (by omega)
  | n + 1, e, s, h1, h2 => by
    by_cases he : s.errs = []
    · by_cases hst : strT (rsign L s) < least
      · rw [rloop_break hst]; exact fun _ => hst
      · have hin := str_in (L := L) (s := s) (by omega)
        obtain ⟨a1, a2, a3⟩ := hs (strT (rsign L s) + 1) (by omega) (rnext s) he hin
        have a1 : s.at_ + 1 ≤ _ := a1
        rw [rloop_go he hst]
        exact rloop_stuck hl hs n _ _ a2 (by omega)
    · rw [rloop_stop he]; exact fun h => absurd h he
theorem climb_stuck {L : List OTok} {m : Nat} {prime : RSt → OExpr × RSt} (hp : Fwd L m prime) {g : Nat} {least : Int} (h1 : 1 ≤ least) (h2 : 6 - least ≤ g) {s : RSt} (hs1 : s.errs = []) (hs2 : s.at_ ≤ L.length) : Stuck L least (climbF L prime g least s).2 := by
  cases g with
  | zero => intro _; have := (str_bd (rsign L (climbF L prime 0 least s).2)).2; omega
  | succ g =>
    obtain ⟨a1, a2, a3⟩ := hp s hs1 hs2
    rw [climbF]
    exact rloop_stuck h1 (fun k hk => climb_fwd hp g k (by omega)) _ _ _ a2 (by omega)
theorem climb_6 {L : List OTok} {prime : RSt → OExpr × RSt} (g : Nat) (s : RSt) : climbF L prime g 6 s = prime s := by
  cases g with
  | zero => rw [climbF]
  | succ g => rw [climbF, rloop_break (by have := (str_bd (rsign L (prime s).2)).2; omega)]

theorem loop_sim {L : List OTok} {k m : Nat} {subI : St → OExpr × St} {sub : Int → RSt → OExpr × RSt} (hk : k < 5) (hsim : Sim L subI (sub ((k : Int) + 2))) (hfw : Fwd L m (sub ((k : Int) + 2)))
    (hstk : ∀ s, s.errs = [] → s.at_ ≤ L.length → Stuck L ((k : Int) + 2) (sub ((k : Int) + 2) s).2) : ∀ (n : Nat) (e : OExpr) (s : RSt) (n2 : Nat), Okk s → s.at_ ≤ L.length → Stuck L ((k : Int) + 2) s → L.length < s.at_ + n → L.length < s.at_ + n2 →
    loopF k subI n2 e (hS L s) = ((rloopF L ((k : Int) + 1) sub n e s).1, hS L (rloopF L ((k : Int) + 1) sub n e s).2) ∧ Okk (rloopF L ((k : Int) + 1) sub n e s).2
  | 0, e, s, n2, hok, h1, hsk, h2, h3 => absurd h1 (by omega)
  | n + 1, e, s, n2, hok, h1, hsk, h2, h3 => by
    obtain ⟨n2, rfl⟩ : ∃ q, n2 = q + 1 := ⟨n2 - 1, by omega⟩
    by_cases he : s.errs = []
    · have he2 : (hS L s).err = 0 := (err_h hok).2 he
      have hsg := sign_h (L := L) (signs_ne k) s
      obtain ⟨l1, l2⟩ := lev_str k hk (rsign L s)
      have h5 := hsk he
      by_cases hst : strT (rsign L s) < (k : Int) + 1
      · have hng : ¬ 0 ≤ idxT (rsign L s) (signs k) 0 := fun h => by have := l1.1 h; omega
        rw [if_neg hng] at hsg
        rw [loop_break he2 (by rw [hsg]; exact (by decide : (-1 : Int) < 0)), rloop_break hst, hsg]
        exact ⟨rfl, hok⟩
      · have hEq : strT (rsign L s) = (k : Int) + 1 := by omega
        have hng : 0 ≤ idxT (rsign L s) (signs k) 0 := l1.2 hEq
        rw [if_pos hng] at hsg
        have hin := str_in (L := L) (s := s) (by omega)
        have hsub : sub (strT (rsign L s) + 1) = sub ((k : Int) + 2) := by rw [hEq, show (k : Int) + 1 + 1 = (k : Int) + 2 by omega]
        obtain ⟨a1, a2, a3⟩ := hfw (rnext s) he hin
        have a1 : s.at_ + 1 ≤ _ := a1
        obtain ⟨b1, b2⟩ := hsim (rnext s) he hin
        rw [loop_go he2 (by rw [hsg]; omega), rloop_go he hst, hsg, hsub, l2 hEq]
        dsimp only
        rw [b1]
        exact loop_sim hk hsim hfw hstk n _ _ n2 b2 a2 (hstk _ he hin) (by omega) (by omega)
    · rw [loop_stop (fun h => he ((err_h hok).1 h)), rloop_stop he]
      exact ⟨rfl, hok⟩

theorem level_sim {L : List OTok} {m : Nat} {one : St → OExpr × St} {prime : RSt → OExpr × RSt} (hf : Fwd L m prime) (hs : Sim L one prime) : ∀ (j g : Nat), j ≤ 5 → j ≤ g → Sim L (atF one j) (climbF L prime g (6 - (j : Int)))
  | 0, g, _, _ => fun s h1 h2 => by
    have := climb_6 (L := L) (prime := prime) g s
    rw [show (6 : Int) - ((0 : Nat) : Int) = 6 from rfl, this]
    exact hs s h1 h2
  | j + 1, g, hj, hg => fun s h1 h2 => by
    obtain ⟨g, rfl⟩ : ∃ q, g = q + 1 := ⟨g - 1, by omega⟩
    have i1 := level_sim hf hs j g (by omega) (by omega)
    have i2 := level_sim hf hs j (g + 1) (by omega) (by omega)
    have e1 : (6 : Int) - ((j + 1 : Nat) : Int) = ((4 - j : Nat) : Int) + 1 := by omega
    have e2 : (6 : Int) - (j : Int) = ((4 - j : Nat) : Int) + 2 := by omega
    rw [e1]
    rw [e2] at i1 i2
    have hk : 4 - j < 5 := by omega
    generalize hkk : 4 - j = k at *
    have hfs : ∀ q : Int, 1 ≤ q → Fwd L m (climbF L prime g q) := fun q hq => climb_fwd hf g q hq
    obtain ⟨a1, a2, a3⟩ := hf s h1 h2
    obtain ⟨c1, c2⟩ := i2 s h1 h2
    obtain ⟨d1, d2, d3⟩ := climb_fwd hf (g + 1) ((k : Int) + 2) (by omega) s h1 h2
    have hsp := rloop_split (L := L) (least := (k : Int) + 1) (sub := climbF L prime g) (by omega) (fun q hq => hfs q (by omega)) (L.length + 1 - (prime s).2.at_) (prime s).1 (prime s).2 (L.length + 1) (L.length + 1 - (prime s).2.at_) a2 (by omega) (by omega) (by omega)
    have e3 : (k : Int) + 1 + 1 = (k : Int) + 2 := by omega
    have hc2 : rloopF L ((k : Int) + 2) (climbF L prime g) (L.length + 1 - (prime s).2.at_) (prime s).1 (prime s).2 = climbF L prime (g + 1) ((k : Int) + 2) s := by rw [climbF]
    rw [e3, hc2] at hsp
    have hc1 : climbF L prime (g + 1) ((k : Int) + 1) s = rloopF L ((k : Int) + 1) (climbF L prime g) (L.length + 1 - (prime s).2.at_) (prime s).1 (prime s).2 := by rw [climbF]
    have hat : atF one (j + 1) (hS L s) = loopF k (atF one j) ((atF one j (hS L s)).2.rest.length + 1) (atF one j (hS L s)).1 (atF one j (hS L s)).2 := by rw [atF, hkk]; rfl
    rw [hat, hc1, hsp, c1]
    dsimp only
    refine loop_sim (m := m) hk i1 (hfs _ (by omega)) (fun s' q1 q2 => climb_stuck hf (by omega) (by omega) q1 q2) _ _ _ _ c2 d2 (climb_stuck hf (by omega) (by omega) h1 h2) (by omega) ?_
    show L.length < _ + ((L.drop _).length + 1)
    rw [List.length_drop]; omega

theorem tok_sim {L : List OTok} : Sim L tokI (rtok L) := fun s h1 h2 => by
  have hok : Okk s := .inl h1
  have hok2 : Okk (rnext s) := .inl h1
  unfold rtok
  cases ht : L[s.at_]? with
  | none =>
    have h3 : L.length ≤ s.at_ := by rcases Nat.lt_or_ge s.at_ L.length with h | h
                                     · rw [List.getElem?_eq_getElem h] at ht; cases ht
                                     · exact h
    have hr : (hS L s).rest = [] := List.drop_of_length_le h3
    have : tokI (hS L s) = (noE, failS (hS L s) 9) := by unfold tokI; rw [hr]
    rw [this]
    obtain ⟨f1, f2⟩ := fail_h (L := L) hok (show (9 : Int) ≠ 0 by decide)
    exact ⟨by rw [f1], f2⟩
  | some t =>
    obtain ⟨h3, h4⟩ := List.getElem?_eq_some_iff.1 ht
    have hr : hS L s = ⟨t :: L.drop (s.at_ + 1), s.errs.headD 0⟩ := by unfold hS; rw [List.drop_eq_getElem_cons h3, h4]
    have hn : (⟨L.drop (s.at_ + 1), s.errs.headD 0⟩ : St) = hS L (rnext s) := rfl
    have : tokI (hS L s) = if t.kind = 2 then (.mk 1 (signedI t.n 32) [] [], hS L (rnext s))
      else if t.kind = 1 then (if nameB t.text = true then (.mk 2 0 t.text [], hS L (rnext s)) else (noE, failS (hS L (rnext s)) 7))
      else (noE, failS (hS L (rnext s)) 2) := by rw [hr]; rfl
    rw [this]
    dsimp only
    by_cases k2 : t.kind = 2
    · rw [if_pos k2, if_pos k2]; exact ⟨rfl, hok2⟩
    by_cases k1 : t.kind = 1
    · by_cases kn : nameB t.text = true
      · rw [if_neg k2, if_pos k1, if_pos kn, if_neg k2, if_pos k1, if_pos kn]; exact ⟨rfl, hok2⟩
      · rw [if_neg k2, if_pos k1, if_neg kn, if_neg k2, if_pos k1, if_neg kn]
        obtain ⟨f1, f2⟩ := fail_h (L := L) hok2 (show (7 : Int) ≠ 0 by decide)
        exact ⟨by rw [f1], f2⟩
    · rw [if_neg k2, if_neg k1, if_neg k2, if_neg k1]
      obtain ⟨f1, f2⟩ := fail_h (L := L) hok2 (show (2 : Int) ≠ 0 by decide)
      exact ⟨by rw [f1], f2⟩

theorem opens_ix (t : List UInt8) : (idxT t opens 0 = 0 ↔ t = [45]) ∧ (idxT t opens 0 = 1 ↔ t = [126]) ∧ (idxT t opens 0 = 2 ↔ t = [40]) ∧ (t ≠ [45] → t ≠ [126] → t ≠ [40] → idxT t opens 0 = -1) := by
  by_cases h1 : t = [45]
  · subst h1; decide
  by_cases h2 : t = [126]
  · subst h2; decide
  by_cases h3 : t = [40]
  · subst h3; decide
  simp [opens, idxT, *]
theorem closes_ix (t : List UInt8) : idxT t closes 0 = if t = [41] then 0 else -1 := rfl
theorem opens_ne : ∀ x ∈ opens, x ≠ [] := by decide
theorem closes_ne : ∀ x ∈ closes, x ≠ [] := by decide

theorem step_sim {L : List OTok} {m : Nat} {one : St → OExpr × St} {prime : RSt → OExpr × RSt} (hf : Fwd L m prime) (hs : Sim L one prime) : Sim L (oneStep one) (primeStep L prime) := fun s h1 h2 => by
  have hsg := sign_h (L := L) opens_ne s
  obtain ⟨o1, o2, o3, o4⟩ := opens_ix (rsign L s)
  have hl := level_sim hf hs 5 5 (by decide) (by decide)
  have hcf := climb_fwd hf 5 1 (by decide)
  have hin : rsign L s ≠ [] → s.at_ < L.length := rsign_in
  unfold oneStep primeStep
  by_cases k1 : rsign L s = [45]
  · have hi := o1.2 k1
    rw [if_pos (by rw [hi]; decide), hi] at hsg
    obtain ⟨a1, a2⟩ := hs (rnext s) h1 (hin (by rw [k1]; decide))
    rw [hsg, if_pos k1]
    dsimp only
    rw [if_pos rfl, a1]
    exact ⟨rfl, a2⟩
  by_cases k2 : rsign L s = [126]
  · have hi := o2.2 k2
    rw [if_pos (by rw [hi]; decide), hi] at hsg
    obtain ⟨a1, a2⟩ := hs (rnext s) h1 (hin (by rw [k2]; decide))
    rw [hsg, if_neg k1, if_pos k2]
    dsimp only
    rw [if_neg (by decide), if_pos rfl, a1]
    exact ⟨rfl, a2⟩
  by_cases k3 : rsign L s = [40]
  · have hi := o3.2 k3
    rw [if_pos (by rw [hi]; decide), hi] at hsg
    have hin' := hin (by rw [k3]; decide)
    obtain ⟨a1, a2⟩ := hl (rnext s) h1 hin'
    obtain ⟨b1, b2, b3⟩ := hcf (rnext s) h1 hin'
    rw [show (6 : Int) - ((5 : Nat) : Int) = 1 from rfl] at a1 a2
    rw [hsg, if_neg k1, if_neg k2, if_pos k3]
    dsimp only
    rw [if_neg (by decide), if_neg (by decide), if_pos rfl, a1]
    dsimp only
    have hcl := sign_h (L := L) closes_ne (climbF L prime 5 1 (rnext s)).2
    rw [closes_ix] at hcl
    by_cases k4 : rsign L (climbF L prime 5 1 (rnext s)).2 = [41]
    · rw [if_pos k4, if_pos (by decide)] at hcl
      rw [hcl, if_pos k4]
      exact ⟨rfl, a2⟩
    · rw [if_neg k4, if_neg (by decide)] at hcl
      rw [hcl, if_neg k4]
      obtain ⟨f1, f2⟩ := fail_h (L := L) a2 (show (2 : Int) ≠ 0 by decide)
      dsimp only
      rw [if_pos (by decide), f1]
      exact ⟨rfl, f2⟩
  · have hi := o4 k1 k2 k3
    rw [if_neg (by rw [hi]; decide)] at hsg
    rw [hsg, if_neg k1, if_neg k2, if_neg k3]
    dsimp only
    rw [if_neg (by decide), if_neg (by decide), if_neg (by decide)]
    exact tok_sim s h1 h2

theorem one_sim {L : List OTok} : ∀ f : Nat, Sim L (oneI f) (primeF L f)
  | 0 => fun s h1 h2 => by
    rw [oneI, primeF]
    obtain ⟨f1, f2⟩ := fail_h (L := L) (s := s) (.inl h1) (show (10 : Int) ≠ 0 by decide)
    exact ⟨by rw [f1], f2⟩
  | f + 1 => by
    have h := one_sim (L := L) f
    rw [one_succ, prime_succ]
    exact step_sim (prime_fwd f) h

theorem res_eq (L : List OTok) : pRes L = rpRes L := by
  have h := level_sim (L := L) (prime_fwd 7) (one_sim 7) 5 5 (by decide) (by decide) ⟨0, []⟩ rfl (Nat.zero_le _)
  rw [show (6 : Int) - ((5 : Nat) : Int) = 1 from rfl] at h
  have h0 : hS L ⟨0, []⟩ = ⟨L, 0⟩ := rfl
  rw [h0] at h
  obtain ⟨h1, h2⟩ := h
  have h1 : parseI L = ((rparseI L).1, hS L (rparseI L).2) := h1
  have h2 : Okk (rparseI L).2 := h2
  obtain ⟨b1, b2, b3⟩ := climb_fwd (prime_fwd (L := L) 7) 5 1 (by decide) ⟨0, []⟩ rfl (Nat.zero_le _)
  have b2 : (rparseI L).2.at_ ≤ L.length := b2
  unfold pRes rpRes
  rw [h1]
  dsimp only
  by_cases he : (rparseI L).2.errs = []
  · rw [if_pos he, if_pos ((err_h h2).2 he)]
    have : (L.length : Int) - ((hS L (rparseI L).2).rest.length : Int) = ((rparseI L).2.at_ : Int) := by
      show (L.length : Int) - (((L.drop (rparseI L).2.at_).length : Nat) : Int) = _
      rw [List.length_drop]; omega
    rw [this]
  · rw [if_neg he, if_neg (fun h => he ((err_h h2).1 h))]
    rfl
end Go.Proofs.YtholdembikenfaaDoor

namespace Go.Proofs.YtholdembikenfaaDoor
open Go Go.Plat
set_option linter.unusedVariables false
set_option linter.unusedSimpArgs false
set_option maxRecDepth 100000
set_option maxHeartbeats 2000000
attribute [local irreducible] NilS LookS NormM bitI BytesS NormL Arith QuoS RemS ShlS ShrS BitS CatS SplitS SideS IdxS CallS LoopEnd EndS ModeS DrawS AWP Meets

structure OVal where
  name : List UInt8
  n : Int
  deriving DecidableEq
structure OEqu where
  name : List UInt8
  n : Int
def valD (v : OVal) : D := .agg [.str v.name, .int .i64 v.n]
def equD (v : OEqu) : D := .agg [.str v.name, .int .i64 v.n]
def numV (k a b : Int) : Int :=
  if k = 5 then signedI (a * b) 32 else if k = 6 then signedI (a + b) 32 else if k = 7 then signedI (a - b) 32
  else if k = 8 then signedI (a * 2 ^ (b % 32).toNat) 32 else if k = 9 then signedI (a % 4294967296 / 2 ^ (b % 32).toNat) 32
  else if k = 10 then signedI (bitI .and .i64 a b) 32 else if k = 11 then signedI (bitI .or .i64 a b) 32 else signedI a 32
def S32 (n : Int) : Prop := -2147483648 ≤ n ∧ n ≤ 2147483647
theorem signed_eq (n : Int) : signedI n 32 = if n % 4294967296 / 2147483648 = 1 then n % 4294967296 - 4294967296 else n % 4294967296 := rfl
theorem signed_s32 (n : Int) : S32 (signedI n 32) := by
  rw [signed_eq]; unfold S32
  split <;> omega
theorem signed_same {n : Int} (h : S32 n) : signedI n 32 = n := by
  obtain ⟨h1, h2⟩ := h
  rw [signed_eq]
  split <;> omega
theorem signed_cong {m n : Int} (h : m % 4294967296 = n % 4294967296) : signedI m 32 = signedI n 32 := by rw [signed_eq, signed_eq, h]
theorem numV_s32 (k a b : Int) : S32 (numV k a b) := by
  unfold numV
  repeat' split
  all_goals exact signed_s32 _
theorem and_31 {n : Int} : bitI .and .i64 n 31 = n % 32 := and_mask (k := 5) (by decide) (by decide)
theorem and_32 {n : Int} : bitI .and .i64 n 4294967295 = n % 4294967296 := and_mask (k := 32) (by decide) (by decide)
theorem not_i64 {n : Int} (h0 : -9223372036854775808 ≤ n) (h1 : n ≤ 9223372036854775807) : bitI .xor .i64 (if IntKind.i64.signed = true then -1 else IntKind.i64.max) n = -n - 1 := by
  unfold bitI
  have e : (BitVec.ofInt IntKind.i64.bits (-1) ^^^ BitVec.ofInt IntKind.i64.bits n).toNat = 18446744073709551615 - (BitVec.ofInt 64 n).toNat := by
    show (BitVec.ofInt 64 (-1) ^^^ BitVec.ofInt 64 n).toNat = _
    have : BitVec.ofInt 64 (-1) = BitVec.allOnes 64 := by decide
    rw [this, BitVec.allOnes_xor, BitVec.toNat_not]
  show IntKind.i64.wrap (((BitVec.ofInt IntKind.i64.bits (-1) ^^^ BitVec.ofInt IntKind.i64.bits n).toNat : Nat) : Int) = _
  rw [e]
  have h4 := toNat_ofInt n
  generalize (BitVec.ofInt 64 n).toNat = x at *
  have hx : x ≤ 18446744073709551615 := by omega
  unfold IntKind.wrap
  simp [IntKind.bits, IntKind.signed]
  omega
theorem pow_le31 {y : Nat} (h : y ≤ 31) : (1 : Int) ≤ 2 ^ y ∧ (2 : Int) ^ y ≤ 2147483648 := by
  have h1 : (2 : Nat) ^ y ≤ 2 ^ 31 := Nat.pow_le_pow_right (by decide) h
  have h2 : 1 ≤ (2 : Nat) ^ y := Nat.one_le_two_pow
  have e : ((2 : Int) ^ y) = ((2 ^ y : Nat) : Int) := by simp
  rw [e]
  exact ⟨by omega, by have : (2 : Nat) ^ 31 = 2147483648 := by decide
                      omega⟩
theorem shl_bd {a : Int} {y : Nat} (ha : S32 a) (h : y ≤ 31) : -4611686018427387904 ≤ a * 2 ^ y ∧ a * 2 ^ y ≤ 4611686018427387904 := by
  obtain ⟨h1, h2⟩ := pow_le31 h
  obtain ⟨h3, h4⟩ := ha
  generalize (2 : Int) ^ y = p at *
  constructor
  · have : -2147483648 * 2147483648 ≤ a * p := by
      rcases Int.le_total 0 a with h | h
      · have := Int.mul_nonneg h (by omega : 0 ≤ p); omega
      · have h5 : -2147483648 * p ≤ a * p := Int.mul_le_mul_of_nonneg_right h3 (by omega)
        omega
    omega
  · have : a * p ≤ 2147483648 * 2147483648 := by
      rcases Int.le_total 0 a with h | h
      · have h5 : a * p ≤ a * 2147483648 := Int.mul_le_mul_of_nonneg_left h2 h
        omega
      · have := Int.mul_nonneg (by omega : 0 ≤ -a) (by omega : 0 ≤ p)
        rw [Int.neg_mul] at this; omega
    omega
theorem mul_bd {a b : Int} (ha : S32 a) (hb : S32 b) : -4611686018427387904 ≤ a * b ∧ a * b ≤ 4611686018427387904 := by
  obtain ⟨h1, h2⟩ := ha
  obtain ⟨h3, h4⟩ := hb
  have k1 : (a * b).natAbs ≤ 2147483648 * 2147483648 := by
    rw [Int.natAbs_mul]
    exact Nat.mul_le_mul (by omega) (by omega)
  omega
theorem shl_var {a y : Int} {K : D → Prop} (ha : S32 a) (h0 : 0 ≤ y) (h1 : y ≤ 31) (h : K (.int .i64 (a * 2 ^ y.toNat))) : ShlS .i64 a y K := by
  unfold ShlS
  refine ⟨h0, ?_⟩
  have e : min y.toNat IntKind.i64.bits = y.toNat := by simp only [IntKind.bits]; omega
  obtain ⟨h2, h3⟩ := shl_bd ha (y := y.toNat) (by omega)
  rw [e, wrap_i64 (by omega) (by omega)]
  exact h
theorem shr_var {x y : Int} {K : D → Prop} (h0 : 0 ≤ y) (h1 : y ≤ 31) (h : K (.int .i64 (x / 2 ^ y.toNat))) : ShrS .i64 x y K := by
  unfold ShrS
  refine ⟨h0, ?_⟩
  have e : min y.toNat IntKind.i64.bits = y.toNat := by simp only [IntKind.bits]; omega
  have hp : (0 : Int) ≤ 2 ^ y.toNat := Int.le_of_lt (Int.pow_pos (by decide))
  rw [e, Int.fdiv_eq_ediv_of_nonneg _ hp]
  exact h
attribute [local irreducible] signedI

theorem number_meets : Meets Tryd.prog n_expr_number (SpecP (fun ((k, a, b) : Int × Int × Int) => S32 a ∧ S32 b) (fun (k, a, b) => [.int .i64 k, .int .i64 a, .int .i64 b]) fun (k, a, b) => .int .i64 (numV k a b)) := by
  refine meets_f tabOk Tryd.func110 rfl (by decide) ?_
  rintro ⟨k, a, b⟩ ⟨ha, hb⟩
  refine ⟨Nat.le_refl _, by simp [Tryd.f110], fun E hE => ?_⟩
  refine vcOk _ ?_
  have hm := mul_bd ha hb
  have ha1 := ha.1
  have ha2 := ha.2
  have hb1 := hb.1
  have hb2 := hb.2
  (all_goals refine qgo ?_ <;> (repeat' first | exact trivial | intro hc | refine And.intro ?_ ?_) <;> refine Lf.mk ?_)
  any_goals (first | (refine bit_mk and_31 ?_) | (refine bit_mk and_32 ?_) | (refine bit_mk rfl ?_) | skip)
  have hb32 : 0 ≤ b % 32 ∧ b % 32 ≤ 31 := by omega
  (all_goals refine qgo ?_ <;> (repeat' first | exact trivial | intro hc | refine And.intro ?_ ?_) <;> refine Lf.mk ?_)
  any_goals (first | (refine shl_var ha (by omega) (by omega) ?_) | (refine bit_mk and_31 ?_) | skip)
  (all_goals refine qgo ?_ <;> (repeat' first | exact trivial | intro hc | refine And.intro ?_ ?_) <;> refine Lf.mk ?_)
  any_goals (first | (refine shr_var (by omega) (by omega) ?_) | skip)
  (all_goals refine qgo ?_ <;> (repeat' first | exact trivial | intro hc | refine And.intro ?_ ?_) <;> refine Lf.mk ?_)
  all_goals (refine call_p signed_meets2 _ trivial (VS.mk (LeL.of_eq rfl)) ?_)
  (all_goals refine qgo ?_ <;> (repeat' first | exact trivial | intro hc | refine And.intro ?_ ?_) <;> refine Lf.mk ?_)
  all_goals
    refine end_p (VS.mk (LeD.of_eq (congrArg (D.int .i64) (?_ : _ = numV k a b))))
    unfold numV
    repeat (first | rw [if_pos (by assumption)] | rw [if_neg (by assumption)])

def twoV (k : Int) (a b : OVal) : OVal × Int :=
  if a.name = [] ∧ b.name = [] then (⟨[], numV k a.n b.n⟩, 0)
  else if k = 6 ∧ (a.name = [] ∨ b.name = []) then (⟨a.name ++ b.name, numV k a.n b.n⟩, 0)
  else if k = 7 ∧ b.name = [] then (⟨a.name, numV k a.n b.n⟩, 0)
  else if k = 7 ∧ a.name = b.name then (⟨[], numV k a.n b.n⟩, 0)
  else (⟨[], 0⟩, 8)
def vresD (x : OVal × Int) : D := .tup [valD x.1, .int .i64 x.2]
attribute [local irreducible] numV

theorem two_meets : Meets Tryd.prog n_expr_two (SpecP (fun ((k, a, b) : Int × OVal × OVal) => S32 a.n ∧ S32 b.n ∧ a.name.length ≤ 1000000000 ∧ b.name.length ≤ 1000000000) (fun (k, a, b) => [.int .i64 k, valD a, valD b]) fun (k, a, b) => vresD (twoV k a b)) := by
  refine meets_f tabOk Tryd.func68 rfl (by decide) ?_
  rintro ⟨k, a, b⟩ ⟨ha, hb, hna, hnb⟩
  refine ⟨Nat.le_refl _, by simp [Tryd.f68], fun E hE => ?_⟩
  refine vcOk _ ?_
  (all_goals refine qgo ?_ <;> (repeat' first | exact trivial | intro hc | refine And.intro ?_ ?_) <;> refine Lf.mk ?_)
  any_goals (first | (exfalso; exact absurd ‹a.name = []› ‹¬ a.name = []›) | (exfalso; exact absurd ‹b.name = []› ‹¬ b.name = []›) | (exfalso; omega) | skip)
  any_goals (first | (refine cat_mk (by omega) ?_) | skip)
  (all_goals refine qgo ?_ <;> (repeat' first | exact trivial | intro hc | refine And.intro ?_ ?_) <;> refine Lf.mk ?_)
  any_goals (first | (refine call_p number_meets (k, a.n, b.n) ⟨ha, hb⟩ (VS.mk (LeL.of_eq rfl)) ?_) | skip)
  (all_goals refine qgo ?_ <;> (repeat' first | exact trivial | intro hc | refine And.intro ?_ ?_) <;> refine Lf.mk ?_)
  all_goals
    refine end_p (VS.mk (LeD.of_eq (?_ : _ = vresD (twoV k a b))))
    simp_all [twoV, vresD, valD]
end Go.Proofs.YtholdembikenfaaDoor

namespace Go.Proofs.YtholdembikenfaaDoor
open Go Go.Plat
set_option linter.unusedVariables false
set_option linter.unusedSimpArgs false
set_option maxRecDepth 100000
set_option maxHeartbeats 2000000
attribute [local irreducible] NilS LookS NormM bitI BytesS NormL Arith QuoS RemS ShlS ShrS BitS CatS SplitS SideS IdxS CallS LoopEnd EndS ModeS DrawS AWP Meets
attribute [local irreducible] signedI numV

def findQ (n : List UInt8) : List OEqu → Option Int
  | [] => none
  | s :: l => if s.name = n then some s.n else findQ n l
def idxQ (n : List UInt8) : List OEqu → Nat → Int
  | [], _ => -1
  | s :: l, k => if s.name = n then k else idxQ n l (k + 1)
theorem find_cons {n : List UInt8} {s : OEqu} {l : List OEqu} : findQ n (s :: l) = if s.name = n then some s.n else findQ n l := rfl
theorem find_nil {n : List UInt8} : findQ n [] = none := rfl
theorem idxQ_spec (n : List UInt8) : ∀ (l : List OEqu) (k : Nat), (findQ n l = none ∧ idxQ n l k = -1) ∨ ∃ (i : Nat) (s : OEqu), l[i]? = some s ∧ idxQ n l k = ((k + i : Nat) : Int) ∧ findQ n l = some s.n
  | [], k => .inl ⟨rfl, rfl⟩
  | s :: l, k => by
    rw [findQ, idxQ]
    by_cases h : s.name = n
    · rw [if_pos h, if_pos h]
      exact .inr ⟨0, s, rfl, rfl, rfl⟩
    · rw [if_neg h, if_neg h]
      rcases idxQ_spec n l (k + 1) with h1 | ⟨i, t, h1, h2, h3⟩
      · exact .inl h1
      · exact .inr ⟨i + 1, t, h1, by rw [h2]; congr 1; omega, h3⟩
def noVal : OVal := ⟨[], 0⟩
def topV (k n : Int) (s : List UInt8) (vs : List OVal) (l : List OEqu) : OVal × Int :=
  if k = 1 ∧ vs = [] then (⟨[], signedI n 32⟩, 0)
  else if k = 2 ∧ vs = [] then (match findQ s l with | some m => (⟨[], signedI m 32⟩, 0) | none => (⟨s, 0⟩, 0))
  else match vs with
    | [v] => if k = 3 ∨ k = 4 then (if v.name = [] then (if k = 3 then (⟨[], signedI (-v.n) 32⟩, 0) else (⟨[], signedI (-v.n - 1) 32⟩, 0)) else (noVal, 8)) else (noVal, 1)
    | [a, b] => if 5 ≤ k ∧ k ≤ 11 then twoV k a b else (noVal, 1)
    | _ => (noVal, 1)
mutual
def evalE (l : List OEqu) : OExpr → OVal × Int
  | .mk k n s ks => match evalL l ks with
    | .inl w => (noVal, w)
    | .inr vs => topV k n s vs l
def evalL (l : List OEqu) : List OExpr → Int ⊕ List OVal
  | [] => .inr []
  | e :: es => if (evalE l e).2 = 0 then (match evalL l es with | .inl w => .inl w | .inr vs => .inr ((evalE l e).1 :: vs)) else .inl (evalE l e).2
end
def evA (l : List OEqu) (acc : List OVal) (es : List OExpr) : Int ⊕ List OVal := match evalL l es with | .inl w => .inl w | .inr vs => .inr (acc ++ vs)
theorem evA_nil (l : List OEqu) (acc : List OVal) : evA l acc [] = .inr acc := by unfold evA; rw [evalL]; simp
theorem evA_cons (l : List OEqu) (acc : List OVal) (e : OExpr) (es : List OExpr) : evA l acc (e :: es) = if (evalE l e).2 = 0 then evA l (acc ++ [(evalE l e).1]) es else .inl (evalE l e).2 := by
  unfold evA
  rw [evalL]
  by_cases h : (evalE l e).2 = 0
  · rw [if_pos h, if_pos h]
    cases evalL l es <;> simp
  · rw [if_neg h, if_neg h]
theorem evA_all (l : List OEqu) (es : List OExpr) : evA l [] es = evalL l es := by unfold evA; cases evalL l es <;> simp
theorem evalE_eq (l : List OEqu) (e : OExpr) : evalE l e = match evalL l e.kids with
    | .inl w => (noVal, w)
    | .inr vs => topV e.kind e.n e.name vs l := by
  cases e with
  | mk k n s ks => rw [evalE]; rfl
structure VOk (v : OVal) (n : Nat) : Prop where
  s32 : S32 v.n
  len : v.name.length ≤ n
theorem two_ok {k : Int} {a b : OVal} {m n : Nat} (ha : VOk a m) (hb : VOk b n) : VOk (twoV k a b).1 (m + n) := by
  have h1 := ha.len
  have h2 := hb.len
  unfold twoV
  split
  · exact ⟨numV_s32 _ _ _, by simp⟩
  split
  · exact ⟨numV_s32 _ _ _, by simp; omega⟩
  split
  · exact ⟨numV_s32 _ _ _, by dsimp only; omega⟩
  split
  · exact ⟨numV_s32 _ _ _, by simp⟩
  · exact ⟨⟨by decide, by decide⟩, by simp⟩
theorem no_ok {n : Nat} : VOk noVal n := ⟨⟨by decide, by decide⟩, by simp [noVal]⟩
def nsum : List OVal → Nat
  | [] => 0
  | v :: vs => v.name.length + nsum vs
theorem nsum_mem : ∀ {vs : List OVal} {v : OVal}, v ∈ vs → v.name.length ≤ nsum vs
  | [], v, h => by simp at h
  | x :: vs, v, h => by
    rw [nsum]
    rcases List.mem_cons.1 h with rfl | h
    · omega
    · have := nsum_mem h; omega
theorem nsum_app : ∀ (a : List OVal) (v : OVal), nsum (a ++ [v]) = nsum a + v.name.length
  | [], v => by simp [nsum]
  | x :: a, v => by rw [List.cons_append, nsum, nsum, nsum_app]; omega
theorem top_ok {k n : Int} {s : List UInt8} {vs : List OVal} {l : List OEqu} {m : Nat} (h : ∀ v ∈ vs, S32 v.n) (hm : nsum vs ≤ m) : VOk (topV k n s vs l).1 (s.length + m) := by
  unfold topV
  split
  · exact ⟨signed_s32 _, by simp⟩
  split
  · split
    · exact ⟨signed_s32 _, by simp⟩
    · exact ⟨⟨show (-2147483648 : Int) ≤ 0 by decide, show (0 : Int) ≤ 2147483647 by decide⟩, by dsimp only; omega⟩
  rcases vs with _ | ⟨a, _ | ⟨b, _ | ⟨c, r⟩⟩⟩ <;> dsimp only
  · exact no_ok
  · split
    · split
      · split
        · exact ⟨signed_s32 _, by simp⟩
        · exact ⟨signed_s32 _, by simp⟩
      · exact no_ok
    · exact no_ok
  · split
    · have := two_ok (k := k) (a := a) (b := b) ⟨h a (by simp), Nat.le_refl _⟩ ⟨h b (by simp), Nat.le_refl _⟩
      simp only [nsum] at hm
      exact ⟨this.s32, by have := this.len; omega⟩
    · exact no_ok
  · exact no_ok
mutual
theorem eval_ok (l : List OEqu) : ∀ e : OExpr, VOk (evalE l e).1 (nodes e)
  | .mk k n s ks => by
    rw [evalE, nodes]
    cases h : evalL l ks with
    | inl w => exact no_ok
    | inr vs =>
      obtain ⟨h1, h2⟩ := evalL_ok l ks vs h
      have := top_ok (k := k) (n := n) (s := s) (l := l) h1 h2
      exact ⟨this.s32, by have := this.len; dsimp only; omega⟩
theorem evalL_ok (l : List OEqu) : ∀ (es : List OExpr) (vs : List OVal), evalL l es = .inr vs → (∀ v ∈ vs, S32 v.n) ∧ nsum vs ≤ nodesL es
  | [], vs, h => by rw [evalL] at h; cases h; exact ⟨by simp, by simp [nsum]⟩
  | e :: es, vs, h => by
    rw [evalL] at h
    have he := eval_ok l e
    split at h
    · cases hl : evalL l es with
      | inl w => rw [hl] at h; cases h
      | inr ws =>
        rw [hl] at h
        cases h
        obtain ⟨h1, h2⟩ := evalL_ok l es ws hl
        refine ⟨fun v hv => ?_, ?_⟩
        · rcases List.mem_cons.1 hv with rfl | hv
          · exact he.s32
          · exact h1 v hv
        · rw [nsum, nodesL]
          have := he.len
          omega
    · cases h
end

theorem nil_len {α : Type} {l : List α} (h : l.length = 0) : l = [] := List.eq_nil_of_length_eq_zero h
theorem top_num {k n : Int} {s : List UInt8} {vs : List OVal} {l : List OEqu} (h1 : k = 1) (h2 : vs.length = 0) : topV k n s vs l = (⟨[], signedI n 32⟩, 0) := by unfold topV; rw [if_pos ⟨h1, nil_len h2⟩]
theorem top_name {k n : Int} {s : List UInt8} {vs : List OVal} {l : List OEqu} (h1 : k = 2) (h2 : vs.length = 0) : topV k n s vs l = (match findQ s l with | some m => (⟨[], signedI m 32⟩, 0) | none => (⟨s, 0⟩, 0)) := by
  unfold topV; rw [if_neg (by rintro ⟨h, _⟩; omega), if_pos ⟨h1, nil_len h2⟩]
theorem top_one {k n : Int} {s : List UInt8} {v : OVal} {l : List OEqu} (h1 : k = 3 ∨ k = 4) : topV k n s [v] l = if v.name = [] then (if k = 3 then (⟨[], signedI (-v.n) 32⟩, 0) else (⟨[], signedI (-v.n - 1) 32⟩, 0)) else (noVal, 8) := by
  unfold topV; rw [if_neg (by rintro ⟨h, _⟩; omega), if_neg (by rintro ⟨h, _⟩; omega)]; dsimp only; rw [if_pos h1]
theorem top_two {k n : Int} {s : List UInt8} {a b : OVal} {l : List OEqu} (h1 : 5 ≤ k ∧ k ≤ 11) : topV k n s [a, b] l = twoV k a b := by
  unfold topV; rw [if_neg (by rintro ⟨h, _⟩; omega), if_neg (by rintro ⟨h, _⟩; omega)]; dsimp only; rw [if_pos h1]
theorem top_bad {k n : Int} {s : List UInt8} {vs : List OVal} {l : List OEqu} (h0 : vs.length = 0 → k ≠ 1 ∧ k ≠ 2) (h1 : vs.length = 1 → k ≠ 3 ∧ k ≠ 4) (h2 : vs.length = 2 → k < 5 ∨ 11 < k) : topV k n s vs l = (noVal, 1) := by
  unfold topV
  rw [if_neg (by rintro ⟨h, h3⟩; exact (h0 (by rw [h3]; rfl)).1 h), if_neg (by rintro ⟨h, h3⟩; exact (h0 (by rw [h3]; rfl)).2 h)]
  rcases vs with _ | ⟨a, _ | ⟨b, _ | ⟨c, r⟩⟩⟩ <;> dsimp only
  · rw [if_neg (by have := h1 rfl; omega)]
  · rw [if_neg (by have := h2 rfl; omega)]
theorem len_one {α : Type} {l : List α} (h : l.length = 1) : ∃ a, l = [a] := by
  rcases l with _ | ⟨a, _ | ⟨b, r⟩⟩ <;> simp at h
  exact ⟨a, rfl⟩
theorem len_two {α : Type} {l : List α} (h : l.length = 2) : ∃ a b, l = [a, b] := by
  rcases l with _ | ⟨a, _ | ⟨b, _ | ⟨c, r⟩⟩⟩ <;> simp at h
  exact ⟨a, b, rfl⟩
theorem evclos_meets : Meets Tryd.prog n_expr_Eval_1 (SpecF (fun _ : OEqu × OExpr => True) (fun (s, e) => [equD s, .loc 0 0]) (fun (s, e) => [.cells [.int .i64 e.kind, .int .i64 e.n, .str e.name, .sl 4 (e.kids.map exprD) none]]) (fun (s, e) => .bool (s.name == e.name))
    fun (s, e) => [.cells [.int .i64 e.kind, .int .i64 e.n, .str e.name, .sl 4 (e.kids.map exprD) none]]) := by
  refine meets_f tabOk Tryd.func67 rfl (by decide) ?_
  rintro ⟨s, e⟩ -
  refine ⟨Nat.le_refl _, by simp [Tryd.f67], fun E hE => ?_⟩
  refine vcOk _ ?_
  (all_goals refine qgo ?_ <;> (repeat' first | exact trivial | intro hc | refine And.intro ?_ ?_) <;> refine Lf.mk ?_)
  refine end_mk ?_
  (repeat' (first | (refine VS.mk ?_) | exact trivial | exact rfl | refine And.intro ?_ ?_))

theorem evindex_meets : Meets Tryd.prog n_slices_IndexFunc_api_Equ_api_Equ (SpecF (fun ((l, e) : List OEqu × OExpr) => l.length ≤ 1000000000) (fun (l, e) => [.sl 2 (l.map equD) none, .fn n_expr_Eval_1 [.loc 0 0]])
    (fun (l, e) => [.cells [.int .i64 e.kind, .int .i64 e.n, .str e.name, .sl 4 (e.kids.map exprD) none]]) (fun (l, e) => .int .i64 (idxQ e.name l 0)) fun (l, e) => [.cells [.int .i64 e.kind, .int .i64 e.n, .str e.name, .sl 4 (e.kids.map exprD) none]]) := by
  refine meets_f tabOk Tryd.func66 rfl (by decide) ?_
  rintro ⟨l, e⟩ hl
  have hl : l.length ≤ 1000000000 := hl
  refine ⟨Nat.le_refl _, by simp [Tryd.f66], fun E hE => ?_⟩
  refine vcOk _ ?_
  (all_goals refine qgo ?_ <;> (repeat' first | exact trivial | intro hc | refine And.intro ?_ ?_) <;> refine Lf.mk ?_)
  refine awp_loop (α := Nat) (fun k => k ≤ l.length ∧ idxQ e.name l 0 = idxQ e.name (l.drop k) k)
    (fun k => [(7, .int .i64 l.length), (8, .int .i64 k), (0, .sl 2 (l.map equD) none), (1, .fn n_expr_Eval_1 [.loc 0 0])])
    (fun _ => [.cells [.int .i64 e.kind, .int .i64 e.n, .str e.name, .sl 4 (e.kids.map exprD) none]]) (fun k => l.length - k) (fun _ => by simp [hE]) 0 ⟨Nat.zero_le _, by simp⟩ ?_ ?_
  · (repeat' (first | (refine VS.mk ?_) | exact trivial | exact rfl | refine And.intro ?_ ?_))
  rintro k ⟨hk, hf⟩
  refine vcOk _ ?_
  (all_goals refine qgo ?_ <;> (repeat' first | exact trivial | intro hc | refine And.intro ?_ ?_) <;> refine Lf.mk ?_)
  · obtain ⟨s, hsk⟩ := at_of_lt (l := l) (k := k) (by omega)
    have hkl : k < l.length := by omega
    have hget : l[k] = s := by rw [List.getElem?_eq_getElem hkl] at hsk; exact Option.some.inj hsk
    rw [List.drop_eq_getElem_cons hkl, hget, idxQ] at hf
    refine ix_map s (by omega) (by simpa using hsk) ?_
    (all_goals refine qgo ?_ <;> (repeat' first | exact trivial | intro hc | refine And.intro ?_ ?_) <;> refine Lf.mk ?_)
    refine call_f evclos_meets [0] [0] (s, e) trivial rfl rfl ?_
    refine And.intro (VS.mk (LeL.of_eq rfl)) (And.intro (VS.mk rfl) ?_)
    (all_goals refine qgo ?_ <;> (repeat' first | exact trivial | intro hc | refine And.intro ?_ ?_) <;> refine Lf.mk ?_)
    · rw [if_pos hc] at hf
      refine end_mk ?_
      (repeat' (first | (refine VS.mk ?_) | exact trivial | exact rfl | refine And.intro ?_ ?_))
      exact congrArg (D.int .i64) hf.symm
    · rw [if_neg hc] at hf
      refine loop_end (k + 1) ⟨by omega, hf⟩ (by omega) ?_
      (repeat' (first | (refine VS.mk ?_) | exact trivial | exact rfl | refine And.intro ?_ ?_))
  · rw [List.drop_of_length_le (by omega), idxQ] at hf
    refine end_mk ?_
    (repeat' (first | (refine VS.mk ?_) | exact trivial | exact rfl | refine And.intro ?_ ?_))
    exact congrArg (D.int .i64) hf.symm
end Go.Proofs.YtholdembikenfaaDoor

namespace Go.Proofs.YtholdembikenfaaDoor
open Go Go.Plat
set_option linter.unusedVariables false
set_option linter.unusedSimpArgs false
set_option maxRecDepth 100000
set_option maxHeartbeats 2000000
attribute [local irreducible] NilS LookS NormM bitI BytesS NormL Arith QuoS RemS ShlS ShrS BitS CatS SplitS SideS IdxS CallS LoopEnd EndS ModeS DrawS AWP Meets
attribute [local irreducible] exprD nodes OExpr.kind OExpr.n OExpr.name OExpr.kids signedI numV evalE evalL twoV findQ idxQ
theorem no_vres {w : Int} {x : OVal × Int} (h : x = (noVal, w)) : LeD (.tup [.agg [.str [], .int .i64 0], .int .i64 w]) (vresD x) := by subst h; exact .refl _

theorem eval_meets (l : List OEqu) (hl : l.length ≤ 1000000000) : ∀ n : Nat, Meets Tryd.prog n_expr_Eval (SpecP (fun e : OExpr => nodes e ≤ n ∧ nodes e ≤ 1048576) (fun e => [exprU e, .sl 2 (l.map equD) none]) fun e => vresD (evalE l e))
  | 0 => by
    refine meets_f tabOk Tryd.func22 rfl (by decide) fun e h => ?_
    have := nodes_pos e
    omega
  | n + 1 => by
    have ih := eval_meets l hl n
    refine meets_f tabOk Tryd.func22 rfl (by decide) ?_
    rintro e ⟨hn, hN⟩
    have hkl := kids_len e
    have hnl := name_len e
    refine ⟨Nat.le_refl _, by simp [Tryd.f22], fun E hE => ?_⟩
    refine vcOk _ ?_
    (all_goals refine qgo ?_ <;> (repeat' first | exact trivial | intro hc | refine And.intro ?_ ?_) <;> refine Lf.mk ?_)
    refine awp_weak (weak_nil 6 2 rfl) ?_
    generalize hEV : evalL l e.kids = EV at *
    have hev0 : evA l [] e.kids = EV := by rw [evA_all, hEV]
    refine awp_loop (α := Nat × List OVal) (fun p => p.1 ≤ e.kids.length ∧ evA l p.2 (e.kids.drop p.1) = EV ∧ p.2.length = p.1 ∧ (∀ v ∈ p.2, S32 v.n) ∧ nsum p.2 ≤ p.1 * 1048576)
      (fun p => [(13, .sl 4 (e.kids.map exprD) none), (14, .int .i64 e.kids.length), (15, .int .i64 p.1), (1, .sl 2 (l.map equD) none), (2, .loc 0 0), (4, .loc 1 0), (6, .sl 2 (p.2.map valD) (some 2))])
      (fun p => [.cells [.int .i64 e.kind, .int .i64 e.n, .str e.name, .sl 4 (e.kids.map exprD) none], .cells [.str [], .int .i64 0], .spare p.2.length]) (fun p => e.kids.length - p.1) (fun _ => by simp [hE]) (0, []) ⟨Nat.zero_le _, by simpa using hev0, rfl, by simp, by simp [nsum]⟩ ?_ ?_
    · (repeat' (first | (refine VS.mk ?_) | exact trivial | exact rfl | refine And.intro ?_ ?_))
    rintro ⟨k, vs⟩ ⟨hk, hev, hvl, hvs, hns⟩
    dsimp only at hk hev hvl hvs hns ⊢
    refine vcOk _ ?_
    (all_goals refine qgo ?_ <;> (repeat' first | exact trivial | intro hc | refine And.intro ?_ ?_) <;> refine Lf.mk ?_)
    · obtain ⟨x, hx⟩ := at_of_lt (l := e.kids) (k := k) (by omega)
      have hxm := List.mem_of_getElem? hx
      have hxn := nodes_kid hxm
      have hok := eval_ok l x
      have hkl3 : k < e.kids.length := by omega
      have hget : e.kids[k] = x := by rw [List.getElem?_eq_getElem hkl3] at hx; exact Option.some.inj hx
      rw [List.drop_eq_getElem_cons hkl3, hget, evA_cons] at hev
      refine ix_expr x (by omega) (by simpa using hx) ?_
      (all_goals refine qgo ?_ <;> (repeat' first | exact trivial | intro hc | refine And.intro ?_ ?_) <;> refine Lf.mk ?_)
      refine call_p ih x ⟨by omega, by omega⟩ (VS.mk (LeL.of_eq rfl)) ?_
      (all_goals refine qgo ?_ <;> (repeat' first | exact trivial | intro hc | refine And.intro ?_ ?_) <;> refine Lf.mk ?_)
      · rw [if_neg hc] at hev
        subst hev
        exact end_p (VS.mk (no_vres (by rw [evalE_eq, hEV])))
      · rw [if_pos hc] at hev
        have hl1 := hok.len
        refine loop_end (k + 1, vs ++ [(evalE l x).1]) ⟨by (dsimp only; omega), hev, by (dsimp only; rw [List.length_append, hvl]; rfl), fun v hv => ?_, by (dsimp only; rw [nsum_app]; omega)⟩ (by dsimp only; omega) ?_
        · (repeat' (first | (refine VS.mk ?_) | exact trivial | exact rfl | refine And.intro ?_ ?_))
          · simp [valD]
          · simp [valD]
        · rcases List.mem_append.1 hv with h | h
          · exact hvs v h
          · rw [List.mem_singleton.1 h]; exact hok.s32
    all_goals
      rw [List.drop_of_length_le (by omega), evA_nil] at hev
      subst hev
      have hT : evalE l e = topV e.kind e.n e.name vs l := by rw [evalE_eq, hEV]
    any_goals (first | (exfalso; omega) | exact end_p (VS.mk (no_vres (by rw [hT, top_bad (by omega) (by omega) (by omega)]))) | skip)
    · refine call_p signed_meets2 e.n trivial (VS.mk (LeL.of_eq rfl)) ?_
      (all_goals refine qgo ?_ <;> (repeat' first | exact trivial | intro hc | refine And.intro ?_ ?_) <;> refine Lf.mk ?_)
      refine end_p (VS.mk (LeD.of_eq ?_))
      rw [hT, top_num (by omega) (by omega)]
      rfl
    · refine call_f evindex_meets [0] [0] (l, e) hl rfl rfl ?_
      refine And.intro (VS.mk (LeL.of_eq rfl)) (And.intro (VS.mk rfl) ?_)
      rcases idxQ_spec e.name l 0 with ⟨h1, h2⟩ | ⟨i, s, h1, h2, h3⟩
      · dsimp only
        rw [h2]
        (all_goals refine qgo ?_ <;> (repeat' first | exact trivial | intro hc | refine And.intro ?_ ?_) <;> refine Lf.mk ?_)
        · exfalso; omega
        · refine end_p (VS.mk (LeD.of_eq ?_))
          rw [hT, top_name (by omega) (by omega), h1]
          rfl
      · have hil : i < l.length := (List.getElem?_eq_some_iff.1 h1).1
        rw [Nat.zero_add] at h2
        dsimp only
        rw [h2]
        (all_goals refine qgo ?_ <;> (repeat' first | exact trivial | intro hc | refine And.intro ?_ ?_) <;> refine Lf.mk ?_)
        · refine ix_map s (by omega) (by simpa using h1) ?_
          (all_goals refine qgo ?_ <;> (repeat' first | exact trivial | intro hc | refine And.intro ?_ ?_) <;> refine Lf.mk ?_)
          refine call_p signed_meets2 s.n trivial (VS.mk (LeL.of_eq rfl)) ?_
          (all_goals refine qgo ?_ <;> (repeat' first | exact trivial | intro hc | refine And.intro ?_ ?_) <;> refine Lf.mk ?_)
          refine end_p (VS.mk (LeD.of_eq ?_))
          rw [hT, top_name (by omega) (by omega), h3]
          rfl
        · exfalso; omega
    · obtain ⟨v, hv1⟩ := len_one (l := vs) (by omega)
      subst hv1
      obtain ⟨s1, s2⟩ := hvs v (by simp)
      (all_goals refine qgo ?_ <;> (repeat' first | exact trivial | intro hc | refine And.intro ?_ ?_) <;> refine Lf.mk ?_)
      · exact end_p (VS.mk (no_vres (by rw [hT, top_one (by omega), if_neg (by assumption)])))
      · refine call_p signed_meets2 (-v.n) trivial (VS.mk (LeL.of_eq (by rw [Int.zero_sub]))) ?_
        (all_goals refine qgo ?_ <;> (repeat' first | exact trivial | intro hc | refine And.intro ?_ ?_) <;> refine Lf.mk ?_)
        refine end_p (VS.mk (LeD.of_eq ?_))
        rw [hT, top_one (by omega), if_pos (by assumption), if_pos (by assumption)]
        rfl
      · exfalso; omega
    · obtain ⟨v, hv1⟩ := len_one (l := vs) (by omega)
      subst hv1
      obtain ⟨s1, s2⟩ := hvs v (by simp)
      (all_goals refine qgo ?_ <;> (repeat' first | exact trivial | intro hc | refine And.intro ?_ ?_) <;> refine Lf.mk ?_)
      · exact end_p (VS.mk (no_vres (by rw [hT, top_one (by omega), if_neg (by assumption)])))
      · exfalso; omega
      · refine bit_mk (not_i64 (by omega) (by omega)) ?_
        (all_goals refine qgo ?_ <;> (repeat' first | exact trivial | intro hc | refine And.intro ?_ ?_) <;> refine Lf.mk ?_)
        refine call_p signed_meets2 (-v.n - 1) trivial (VS.mk (LeL.of_eq rfl)) ?_
        (all_goals refine qgo ?_ <;> (repeat' first | exact trivial | intro hc | refine And.intro ?_ ?_) <;> refine Lf.mk ?_)
        refine end_p (VS.mk (LeD.of_eq ?_))
        rw [hT, top_one (by omega), if_pos (by assumption), if_neg (by omega)]
        rfl
    · obtain ⟨a, b, hab⟩ := len_two (l := vs) (by omega)
      subst hab
      have sa := hvs a (by simp)
      have sb := hvs b (by simp)
      simp only [nsum] at hns
      (all_goals refine qgo ?_ <;> (repeat' first | exact trivial | intro hc | refine And.intro ?_ ?_) <;> refine Lf.mk ?_)
      refine call_p two_meets (e.kind, a, b) ⟨sa, sb, by omega, by omega⟩ (VS.mk (LeL.of_eq rfl)) ?_
      (all_goals refine qgo ?_ <;> (repeat' first | exact trivial | intro hc | refine And.intro ?_ ?_) <;> refine Lf.mk ?_)
      refine end_p (VS.mk (LeD.of_eq ?_))
      rw [hT, top_two (by omega)]
      rfl
end Go.Proofs.YtholdembikenfaaDoor

namespace Go.Proofs.YtholdembikenfaaDoor
open Go Go.Plat
set_option linter.unusedVariables false
set_option linter.unusedSimpArgs false
set_option maxRecDepth 100000
set_option maxHeartbeats 2000000
attribute [local irreducible] NilS LookS NormM bitI BytesS NormL Arith QuoS RemS ShlS ShrS BitS CatS SplitS SideS IdxS CallS LoopEnd EndS ModeS DrawS AWP Meets
attribute [local irreducible] exprD nodes OExpr.kind OExpr.n OExpr.name OExpr.kids signedI numV evalE evalL twoV findQ idxQ

def nameV (k : Int) (a b : OVal) : Option (List UInt8) :=
  if a.name = [] ∧ b.name = [] then some [] else if k = 7 ∧ a.name = b.name then some [] else if k = 7 ∧ b.name = [] then some a.name
  else if k = 6 ∧ a.name = [] then some b.name else if k = 6 ∧ b.name = [] then some a.name else none
theorem two_name (k : Int) (a b : OVal) : twoV k a b = match nameV k a b with | some n => (⟨n, numV k a.n b.n⟩, 0) | none => (noVal, 8) := by
  unfold twoV nameV noVal
  by_cases h1 : a.name = [] <;> by_cases h2 : b.name = [] <;> by_cases h3 : a.name = b.name <;> by_cases h4 : k = 6 <;> by_cases h5 : k = 7 <;> simp_all
theorem two_res {k X : Int} {a b : OVal} {n : List UInt8} {x : OVal × Int} (hx : x = twoV k a b) (hn : nameV k a b = some n) (hX : X = numV k a.n b.n) : D.tup [.agg [.str n, .int .i64 X], .int .i64 0] = vresD x := by
  subst hX; rw [hx, two_name, hn]; rfl
theorem two_no {k : Int} {a b : OVal} {x : OVal × Int} (hx : x = twoV k a b) (hn : nameV k a b = none) : x = (noVal, 8) := by
  rw [hx, two_name, hn]
theorem ar_i32s {n : Int} {K : D → Prop} (hs : S32 n) (h : K (.int .i32 n)) : Arith .i32 n K := ar_i32 (by rw [signed_same hs]; exact h)
theorem rem_u32 {x : Int} {K : D → Prop} (h0 : 0 ≤ x) (h : K (.int .u32 (x % 32))) : RemS .u32 x 32 K := by
  unfold RemS
  exact ⟨by decide, by rw [Int.tmod_eq_emod_of_nonneg h0]; exact h⟩
theorem reval_meets (l : List OEqu) (hl : l.length ≤ 1000000000) : ∀ n : Nat, Meets Tryd.prog n_plref1_Eval (SpecP (fun e : OExpr => nodes e ≤ n ∧ nodes e ≤ 1048576) (fun e => [exprU e, .sl 2 (l.map equD) none]) fun e => vresD (evalE l e))
  | 0 => by
    refine meets_f tabOk Tryd.func180 rfl (by decide) fun e h => ?_
    have := nodes_pos e
    omega
  | n + 1 => by
    have ih := reval_meets l hl n
    refine meets_f tabOk Tryd.func180 rfl (by decide) ?_
    rintro e ⟨hn, hN⟩
    have hkl := kids_len e
    have hnl := name_len e
    refine ⟨Nat.le_refl _, by simp [Tryd.f180], fun E hE => ?_⟩
    refine vcOk _ ?_
    (all_goals refine qgo ?_ <;> (repeat' first | exact trivial | intro hc | refine And.intro ?_ ?_) <;> refine Lf.mk ?_)
    refine awp_weak (weak_nil 6 2 rfl) ?_
    generalize hEV : evalL l e.kids = EV at *
    have hev0 : evA l [] e.kids = EV := by rw [evA_all, hEV]
    refine awp_loop (α := Nat × List OVal) (fun p => p.1 ≤ e.kids.length ∧ evA l p.2 (e.kids.drop p.1) = EV ∧ p.2.length = p.1 ∧ (∀ v ∈ p.2, S32 v.n) ∧ nsum p.2 ≤ p.1 * 1048576)
      (fun p => [(21, .sl 4 (e.kids.map exprD) none), (22, .int .i64 e.kids.length), (23, .int .i64 p.1), (1, .sl 2 (l.map equD) none), (2, .loc 0 0), (4, .loc 1 0), (6, .sl 2 (p.2.map valD) (some 2))])
      (fun p => [.cells [.int .i64 e.kind, .int .i64 e.n, .str e.name, .sl 4 (e.kids.map exprD) none], .cells [.str [], .int .i64 0], .spare p.2.length]) (fun p => e.kids.length - p.1) (fun _ => by simp [hE]) (0, []) ⟨Nat.zero_le _, by simpa using hev0, rfl, by simp, by simp [nsum]⟩ ?_ ?_
    · (repeat' (first | (refine VS.mk ?_) | exact trivial | exact rfl | refine And.intro ?_ ?_))
    rintro ⟨k, vs⟩ ⟨hk, hev, hvl, hvs, hns⟩
    dsimp only at hk hev hvl hvs hns ⊢
    by_cases hkk : k < e.kids.length
    · obtain ⟨x, hx⟩ := at_of_lt (l := e.kids) (k := k) (by omega)
      refine vcOk _ ?_
      have hxm := List.mem_of_getElem? hx
      have hxn := nodes_kid hxm
      have hok := eval_ok l x
      have hget : e.kids[k] = x := by rw [List.getElem?_eq_getElem hkk] at hx; exact Option.some.inj hx
      rw [List.drop_eq_getElem_cons hkk, hget, evA_cons] at hev
      (all_goals refine qgp ?_ <;> (repeat' first | exact trivial | intro hc | refine And.intro ?_ ?_) <;> refine Lf.mk ?_)
      refine ix_expr x (by omega) (by simpa using hx) ?_
      (all_goals refine qgo ?_ <;> (repeat' first | exact trivial | intro hc | refine And.intro ?_ ?_) <;> refine Lf.mk ?_)
      refine call_p ih x ⟨by omega, by omega⟩ (VS.mk (LeL.of_eq rfl)) ?_
      (all_goals refine qgo ?_ <;> (repeat' first | exact trivial | intro hc | refine And.intro ?_ ?_) <;> refine Lf.mk ?_)
      · rw [if_neg hc] at hev
        subst hev
        exact end_p (VS.mk (no_vres (by rw [evalE_eq, hEV])))
      · rw [if_pos hc] at hev
        have hl1 := hok.len
        refine loop_end (k + 1, vs ++ [(evalE l x).1]) ⟨by (dsimp only; omega), hev, by (dsimp only; rw [List.length_append, hvl]; rfl), fun v hv => ?_, by (dsimp only; rw [nsum_app]; omega)⟩ (by dsimp only; omega) ?_
        · (repeat' (first | (refine VS.mk ?_) | exact trivial | exact rfl | refine And.intro ?_ ?_))
          · simp [valD]
          · simp [valD]
        · rcases List.mem_append.1 hv with h | h
          · exact hvs v h
          · rw [List.mem_singleton.1 h]; exact hok.s32
    · rw [List.drop_of_length_le (by omega), evA_nil] at hev
      subst hev
      have hT : evalE l e = topV e.kind e.n e.name vs l := by rw [evalE_eq, hEV]
      by_cases hbad : (vs.length = 0 → e.kind ≠ 1 ∧ e.kind ≠ 2) ∧ (vs.length = 1 → e.kind ≠ 3 ∧ e.kind ≠ 4) ∧ (vs.length = 2 → e.kind < 5 ∨ 11 < e.kind)
      · rw [top_bad hbad.1 hbad.2.1 hbad.2.2] at hT
        refine vcOk _ ?_
        (all_goals refine qgp ?_ <;> (repeat' first | exact trivial | intro hc | refine And.intro ?_ ?_) <;> refine Lf.mk ?_)
        all_goals exact end_p (VS.mk (no_vres hT))
      · by_cases h0 : vs.length = 0
        · refine vcOk _ ?_
          (all_goals refine qgp ?_ <;> (repeat' first | exact trivial | intro hc | refine And.intro ?_ ?_) <;> refine Lf.mk ?_)
          · refine call_p rsig_meets e.n trivial (VS.mk (LeL.of_eq rfl)) ?_
            (all_goals refine qgo ?_ <;> (repeat' first | exact trivial | intro hc | refine And.intro ?_ ?_) <;> refine Lf.mk ?_)
            refine end_p (VS.mk (LeD.of_eq ?_))
            rw [hT, top_num (by omega) (by omega)]
            rfl
          · rw [top_name (by omega) (by omega)] at hT
            refine awp_loop (α := Nat) (fun j => j ≤ l.length ∧ findQ e.name l = findQ e.name (l.drop j))
              (fun j => [(62, .sl 2 (l.map equD) none), (63, .int .i64 l.length), (64, .int .i64 j), (2, .loc 0 0), (4, .loc 1 0)])
              (fun j => [.cells [.int .i64 e.kind, .int .i64 e.n, .str e.name, .sl 4 (e.kids.map exprD) none], .cells [.str [], .int .i64 0]]) (fun j => l.length - j) (fun _ => by simp [hE]) 0 ⟨Nat.zero_le _, by simp⟩ ?_ ?_
            · (repeat' (first | (refine VS.mk ?_) | exact trivial | exact rfl | refine And.intro ?_ ?_))
            rintro j ⟨hj, hf⟩
            refine vcOk _ ?_
            (all_goals refine qgo ?_ <;> (repeat' first | exact trivial | intro hc | refine And.intro ?_ ?_) <;> refine Lf.mk ?_)
            · obtain ⟨s, hsk⟩ := at_of_lt (l := l) (k := j) (by omega)
              have hjl : j < l.length := by omega
              have hget : l[j] = s := by rw [List.getElem?_eq_getElem hjl] at hsk; exact Option.some.inj hsk
              rw [List.drop_eq_getElem_cons hjl, hget, find_cons] at hf
              refine ix_map s (by omega) (by simpa using hsk) ?_
              (all_goals refine qgo ?_ <;> (repeat' first | exact trivial | intro hc | refine And.intro ?_ ?_) <;> refine Lf.mk ?_)
              · rw [if_pos hc] at hf
                refine call_p rsig_meets s.n trivial (VS.mk (LeL.of_eq rfl)) ?_
                (all_goals refine qgo ?_ <;> (repeat' first | exact trivial | intro hc | refine And.intro ?_ ?_) <;> refine Lf.mk ?_)
                refine end_p (VS.mk (LeD.of_eq ?_))
                rw [hT, hf]
                rfl
              · rw [if_neg hc] at hf
                refine loop_end (j + 1) ⟨by omega, hf⟩ (by omega) ?_
                (repeat' (first | (refine VS.mk ?_) | exact trivial | exact rfl | refine And.intro ?_ ?_))
            · rw [List.drop_of_length_le (by omega), find_nil] at hf
              refine end_p (VS.mk (LeD.of_eq ?_))
              rw [hT, hf]
              rfl
        by_cases h1 : vs.length = 1
        · obtain ⟨v, hv1⟩ := len_one (l := vs) (by omega)
          subst hv1
          obtain ⟨s1, s2⟩ := hvs v (by simp)
          rw [top_one (by omega)] at hT
          refine vcOk _ ?_
          (all_goals refine qgp ?_ <;> (repeat' first | exact trivial | intro hc | refine And.intro ?_ ?_) <;> refine Lf.mk ?_)
          · exact end_p (VS.mk (no_vres (by rw [hT, if_neg (by assumption)])))
          · refine call_p rsig_meets (-v.n) trivial (VS.mk (LeL.of_eq (by rw [Int.zero_sub]))) ?_
            (all_goals refine qgo ?_ <;> (repeat' first | exact trivial | intro hc | refine And.intro ?_ ?_) <;> refine Lf.mk ?_)
            refine end_p (VS.mk (LeD.of_eq ?_))
            rw [hT, if_pos (by assumption), if_pos (by assumption)]
            rfl
          · exact end_p (VS.mk (no_vres (by rw [hT, if_neg (by assumption)])))
          · refine call_p rsig_meets (-v.n - 1) trivial (VS.mk (LeL.of_eq (by rw [Int.zero_sub]))) ?_
            (all_goals refine qgo ?_ <;> (repeat' first | exact trivial | intro hc | refine And.intro ?_ ?_) <;> refine Lf.mk ?_)
            refine end_p (VS.mk (LeD.of_eq ?_))
            rw [hT, if_pos (by assumption), if_neg (by omega)]
            rfl
        · obtain ⟨a, b, hab⟩ := len_two (l := vs) (by omega)
          subst hab
          have sa := hvs a (by simp)
          have sb := hvs b (by simp)
          rw [top_two (by omega)] at hT
          have hk5 : 5 ≤ e.kind ∧ e.kind ≤ 11 := by omega
          clear ih hev0 hvs hEV hbad hnl hkl hn hN
          refine vcOk _ ?_
          (all_goals refine qgpn ?_ <;> (repeat' first | exact trivial | intro hc | refine And.intro ?_ ?_) <;> refine Lf.mk ?_)
          refine dr_awp ?_
          refine draw_two tabOk mixed 6 7 [0, 1, 2, 3, 4, 5, 7, 6, 8, 9] [0, 1, 2, 3, 4, 5, 7, 6, 8, 9] rfl rfl rfl ?_ ?_
          all_goals
            (all_goals refine qgpi ?_ <;> (repeat' first | exact trivial | intro hc | refine And.intro ?_ ?_) <;> refine Lf.mk ?_)
          all_goals first
            | (exfalso; exact absurd ‹a.name = []› ‹¬ a.name = []›)
            | (exfalso; exact absurd ‹b.name = []› ‹¬ b.name = []›)
            | (refine end_p (VS.mk (no_vres (two_no hT ?_)))
               unfold nameV
               repeat (first | rfl | exact congrArg some (Eq.symm (by assumption)) | rw [if_pos ⟨by assumption, by assumption⟩] | rw [if_neg (fun h => absurd h.1 (by assumption))] | rw [if_neg (fun h => absurd h.2 (by assumption))] | rw [if_neg (fun h => by omega)])
               done)
            | (refine end_p (VS.mk (LeD.of_eq (two_res hT ?_ ?_)))
               · unfold nameV
                 repeat (first | rfl | exact congrArg some (Eq.symm (by assumption)) | rw [if_pos ⟨by assumption, by assumption⟩] | rw [if_neg (fun h => absurd h.1 (by assumption))] | rw [if_neg (fun h => absurd h.2 (by assumption))] | rw [if_neg (fun h => by omega)])
                 done
               · unfold numV
                 repeat (first | rw [if_pos (by assumption)] | rw [if_neg (by assumption)])
                 first | done | rfl | exact left32 _ _ | exact right32 _ _)
end Go.Proofs.YtholdembikenfaaDoor

namespace Go.Proofs.YtholdembikenfaaDoor
open Go Go.Plat
set_option linter.unusedVariables false
set_option linter.unusedSimpArgs false
set_option maxRecDepth 100000
set_option maxHeartbeats 2000000
attribute [local irreducible] NilS LookS NormM bitI BytesS NormL Arith QuoS RemS ShlS ShrS BitS CatS SplitS SideS IdxS CallS LoopEnd EndS ModeS DrawS AWP Meets
attribute [local irreducible] signedI exprD OExpr.kind OExpr.n OExpr.name OExpr.kids letterB digitB kindB nameB

def wt : List OTok → Nat
  | [] => 0
  | t :: l => 1 + t.text.length + wt l
def Slim (p : St → OExpr × St) : Prop := ∀ s, nodes (p s).1 + 2 * wt (p s).2.rest ≤ 1 + 2 * wt s.rest
theorem nodes_mk0 (k n : Int) (t : List UInt8) : nodes (.mk k n t []) = 1 + t.length := by rw [nodes, nodesL, Nat.add_zero]
theorem nodes_mk1 (k n : Int) (a : OExpr) : nodes (.mk k n [] [a]) = 1 + nodes a := by rw [nodes, nodesL, nodesL]; simp
theorem nodes_mk2 (k n : Int) (a b : OExpr) : nodes (.mk k n [] [a, b]) = 1 + nodes a + nodes b := by rw [nodes, nodesL, nodesL, nodesL]; simp; omega
theorem nodes_no : nodes noE = 1 := by unfold noE; rw [nodes_mk0]; rfl
theorem sign_wt (l : List (List UInt8)) (s : St) : wt (signI l s).2.rest ≤ wt s.rest ∧ (0 ≤ (signI l s).1 → wt (signI l s).2.rest + 1 ≤ wt s.rest) := by
  obtain ⟨r, e⟩ := s
  cases r with
  | nil => exact ⟨Nat.le_refl _, fun h => by simp [signI] at h⟩
  | cons t r =>
    simp only [signI]
    split
    · split
      · simp only [wt]; exact ⟨by omega, fun _ => by omega⟩
      · exact ⟨Nat.le_refl _, fun h => by simp at h⟩
    · exact ⟨Nat.le_refl _, fun h => by simp at h⟩
theorem loop_slim {k : Nat} {sub : St → OExpr × St} (hs : Slim sub) : ∀ (g : Nat) (e : OExpr) (s : St), nodes (loopF k sub g e s).1 + 2 * wt (loopF k sub g e s).2.rest ≤ nodes e + 2 * wt s.rest
  | 0, e, s => Nat.le_refl _
  | g + 1, e, s => by
    rw [loopF]
    obtain ⟨h1, h1'⟩ := sign_wt (signs k) s
    split
    · split
      · dsimp only; omega
      · rename_i hn
        have h3 := h1' (by omega)
        have := loop_slim (k := k) hs g (.mk (kindOf k (signI (signs k) s).1) 0 [] [e, (sub (signI (signs k) s).2).1]) (sub (signI (signs k) s).2).2
        rw [nodes_mk2] at this
        have h2 := hs (signI (signs k) s).2
        omega
    · exact Nat.le_refl _
theorem level_slim {k : Nat} {sub : St → OExpr × St} (hs : Slim sub) : Slim (levelF k sub) := fun s => by
  have h1 := hs s
  have h2 := loop_slim (k := k) hs ((sub s).2.rest.length + 1) (sub s).1 (sub s).2
  unfold levelF; omega
theorem at_slim {one : St → OExpr × St} (hs : Slim one) : ∀ j, Slim (atF one j)
  | 0 => hs
  | j + 1 => level_slim (at_slim hs j)
theorem tok_slim : Slim tokI := fun s => by
  obtain ⟨r, e⟩ := s
  cases r with
  | nil => simp [tokI, fail_rest, nodes_no, wt]
  | cons t r =>
    simp only [tokI]
    repeat' split
    all_goals (try rw [fail_rest]); simp only [nodes_no, nodes_mk0, wt, List.length_nil]; omega
theorem step_slim {one : St → OExpr × St} (hs : Slim one) : Slim (oneStep one) := fun s => by
  obtain ⟨h1, h1'⟩ := sign_wt opens s
  have h2 := hs (signI opens s).2
  have h3 := at_slim hs 5 (signI opens s).2
  have h4 := (sign_wt closes (atF one 5 (signI opens s).2).2).1
  have h5 := tok_slim (signI opens s).2
  have h6 := nodes_pos (atF one 5 (signI opens s).2).1
  unfold oneStep
  repeat' split
  all_goals (try dsimp only); (try rw [fail_rest]); (try simp only [nodes_mk1, nodes_no]); omega
theorem one_slim : ∀ f, Slim (oneI f)
  | 0 => fun s => by rw [oneI, fail_rest, nodes_no]; exact Nat.le_refl _
  | f + 1 => fun s => by rw [oneI]; exact step_slim (one_slim f) s
theorem res_nodes (L : List OTok) : nodes (pRes L).1 ≤ 1 + 2 * wt L := by
  have h := at_slim (one_slim 7) 5 ⟨L, 0⟩
  have h : nodes (parseI L).1 + 2 * wt (parseI L).2.rest ≤ 1 + 2 * wt L := h
  unfold pRes
  split
  · dsimp only; omega
  · dsimp only; rw [nodes_no]; omega

attribute [local irreducible] nodes pRes rpRes evalE
end Go.Proofs.YtholdembikenfaaDoor

/-
  What the bound on what is handed in gives.
-/
namespace Go.Proofs.YtholdembikenfaaDoor
open Go Go.Plat
set_option linter.unusedVariables false
set_option linter.unusedSimpArgs false
set_option maxRecDepth 100000
set_option maxHeartbeats 2000000
attribute [local irreducible] NilS LookS NormM bitI BytesS NormL Arith QuoS RemS ShlS ShrS BitS CatS SplitS SideS IdxS CallS LoopEnd EndS ModeS DrawS AWP Meets
theorem own : ownKnob Tryd.prog.godebug = none := by kernel_rfl

theorem one_le {H : Type} (d : DataW H) : 1 ≤ Rows.uptoBulk d := by
  cases d with
  | lit l => cases l <;> simp [Rows.uptoBulk]
  | nil => simp [Rows.uptoBulk]
  | ptr d => simp [Rows.uptoBulk]
  | slice el sp => simp [Rows.uptoBulk]
  | agg ps => simp [Rows.uptoBulk]
  | iface t d => simp [Rows.uptoBulk]
  | map es => simp [Rows.uptoBulk]
  | held h => simp [Rows.uptoBulk]
theorem part_le {H : Type} {d : DataW H} {l : List (DataW H)} (h : d ∈ l) : Rows.uptoBulk d ≤ Rows.uptoBulkAll l := by
  induction l with
  | nil => cases h
  | cons x r ih =>
    simp only [Rows.uptoBulkAll]
    cases List.mem_cons.1 h with
    | inl e => subst e; omega
    | inr e => have := ih e; omega
theorem length_le {H : Type} (l : List (DataW H)) : l.length ≤ Rows.uptoBulkAll l := by
  induction l with
  | nil => simp [Rows.uptoBulkAll]
  | cons x r ih => have := one_le x; simp only [Rows.uptoBulkAll, List.length_cons]; omega
theorem elems_all {H : Type} (d : DataW H) : Rows.uptoBulkAll (elems d) ≤ Rows.uptoBulk d := by
  cases d <;> simp only [elems, Rows.uptoBulk, Rows.uptoBulkAll] <;> omega
theorem elems_le {H : Type} (d : DataW H) : (elems d).length ≤ Rows.uptoBulk d := Nat.le_trans (length_le _) (elems_all d)
theorem bound {H : Type} {l : List (DataW H)} (hk : Rows.uptoSmall H l = true) : Rows.uptoBulkAll l ≤ 1048576 := of_decide_eq_true hk
end Go.Proofs.YtholdembikenfaaDoor

/-
  What tokens, expressions and names' numbers read as.
-/
namespace Go.Proofs.YtholdembikenfaaDoor
open Go Go.Plat
set_option linter.unusedVariables false
set_option linter.unusedSimpArgs false
set_option maxRecDepth 100000
set_option maxHeartbeats 2000000
attribute [local irreducible] NilS LookS NormM bitI BytesS NormL Arith QuoS RemS ShlS ShrS BitS CatS SplitS SideS IdxS CallS LoopEnd EndS ModeS DrawS AWP Meets

abbrev i64Sh : Sh := .int .i64
def tokSh : Sh := .fld i64Sh (.fld i64Sh (.fld .str .fin))
def equSh : Sh := .fld .str (.fld i64Sh .fin)
abbrev exprF (σ : Sh) : Sh := .fld i64Sh (.fld i64Sh (.fld .str (.fld (.sl 4 σ) .fin)))
def exprSh : Nat → Sh
  | 0 => .void 4
  | n + 1 => exprF (exprSh n)
theorem expr_size : ∀ n, (exprSh n).size = 4
  | 0 => rfl
  | n + 1 => by rw [exprSh]; rfl
theorem expr_vd : ∀ K, vdB K (exprSh (K + 1)) = true
  | 0 => by rw [exprSh]; simp [vdB]
  | K + 1 => by
    have h := expr_vd K
    rw [exprSh]
    simp only [vdB, h, Bool.and_true]
theorem fit_tok {H : Type} {d : DataW H} (h : fit tokSh (.inl d)) : ∃ t : OTok, rd tokSh d = tokD t ∧ 1 + t.text.length ≤ Rows.uptoBulk d := by
  obtain ⟨p0, r0, rfl, h0, k0⟩ := fit_fld h
  obtain ⟨p1, r1, rfl, h1, k1⟩ := fit_more k0
  obtain ⟨p2, r2, rfl, h2, k2⟩ := fit_more k1
  obtain rfl := fit_fin k2
  obtain ⟨n0, e0, _⟩ := fit_i64 h0
  obtain ⟨n1, e1, _⟩ := fit_i64 h1
  obtain ⟨s, rfl, e2⟩ := fit_str h2
  refine ⟨⟨n0, n1, s⟩, ?_, ?_⟩
  · unfold tokSh
    rw [rd_fld]
    simp only [rdF_cons, rdF_nil]
    rw [cl_one e0 rfl (by simp), cl_one e1 rfl (by simp), cl_one e2 rfl (by simp)]
    rfl
  · simp only [Rows.uptoBulk, Rows.uptoBulkAll]
    omega
theorem fit_equ {H : Type} {d : DataW H} (h : fit equSh (.inl d)) : ∃ s : OEqu, rd equSh d = equD s := by
  obtain ⟨p0, r0, rfl, h0, k0⟩ := fit_fld h
  obtain ⟨p1, r1, rfl, h1, k1⟩ := fit_more k0
  obtain rfl := fit_fin k1
  obtain ⟨s, rfl, e0⟩ := fit_str h0
  obtain ⟨n, e1, _⟩ := fit_i64 h1
  refine ⟨⟨s, n⟩, ?_⟩
  unfold equSh
  rw [rd_fld]
  simp only [rdF_cons, rdF_nil]
  rw [cl_one e0 rfl (by simp), cl_one e1 rfl (by simp)]
  rfl
theorem wt_le {H : Type} : ∀ {l : List OTok} {ds : List (DataW H)}, l.length = ds.length → (∀ (i : Nat) x t, ds[i]? = some x → l[i]? = some t → 1 + t.text.length ≤ Rows.uptoBulk x) → wt l ≤ Rows.uptoBulkAll ds
  | [], ds, _, _ => by rw [wt]; exact Nat.zero_le _
  | t :: l, [], h, _ => by cases h
  | t :: l, x :: ds, h, hq => by
    have h1 := hq 0 x t rfl rfl
    have h2 := wt_le (l := l) (ds := ds) (by simpa using h) fun i x t hx ht => hq (i + 1) x t (by simpa using hx) (by simpa using ht)
    rw [wt, Rows.uptoBulkAll]; omega
theorem nodes_le {H : Type} : ∀ {l : List OExpr} {ds : List (DataW H)}, l.length = ds.length → (∀ (i : Nat) x e, ds[i]? = some x → l[i]? = some e → nodes e ≤ Rows.uptoBulk x) → nodesL l ≤ Rows.uptoBulkAll ds
  | [], ds, _, _ => by rw [nodesL]; exact Nat.zero_le _
  | t :: l, [], h, _ => by cases h
  | t :: l, x :: ds, h, hq => by
    have h1 := hq 0 x t rfl rfl
    have h2 := nodes_le (l := l) (ds := ds) (by simpa using h) fun i x t hx ht => hq (i + 1) x t (by simpa using hx) (by simpa using ht)
    rw [nodesL, Rows.uptoBulkAll]; omega
theorem fit_expr {H : Type} : ∀ {n : Nat} {d : DataW H}, fit (exprSh n) (.inl d) → ∃ e : OExpr, rd (exprSh n) d = exprU e ∧ nodes e ≤ Rows.uptoBulk d
  | 0, d, h => by rw [exprSh] at h; simp [fit] at h
  | n + 1, d, h => by
    rw [exprSh] at h
    obtain ⟨p0, r0, rfl, h0, k0⟩ := fit_fld h
    obtain ⟨p1, r1, rfl, h1, k1⟩ := fit_more k0
    obtain ⟨p2, r2, rfl, h2, k2⟩ := fit_more k1
    obtain ⟨p3, r3, rfl, h3, k3⟩ := fit_more k2
    obtain rfl := fit_fin k3
    obtain ⟨n0, e0, _⟩ := fit_i64 h0
    obtain ⟨n1, e1, _⟩ := fit_i64 h1
    obtain ⟨s, rfl, e2⟩ := fit_str h2
    obtain ⟨ks, e3, l3, q3⟩ := fit_sl (g := exprD) (Q := fun d e => nodes e ≤ Rows.uptoBulk d) h3 fun x _ hx => by
      obtain ⟨e, i1, i2⟩ := fit_expr hx
      exact ⟨e, by rw [exprD_eq]; exact i1, i2⟩
    refine ⟨.mk n0 n1 s ks, ?_, ?_⟩
    · rw [exprSh, rd_fld]
      simp only [rdF_cons, rdF_nil]
      rw [cl_one e0 rfl (by simp), cl_one e1 rfl (by simp), cl_one e2 rfl (by simp), cl_one e3 rfl (by simp), exprU_mk]
      rfl
    · have a := nodes_le l3 q3
      have b := elems_all p3
      rw [nodes]
      simp only [Rows.uptoBulk, Rows.uptoBulkAll]
      omega
theorem chk_step (σ : Sh) : chk Tryd.prog (exprF σ) (.inl 43) = ((Nat.beq σ.size 4 && chk Tryd.prog σ (.inl 43)) && true) := by kernel_rfl
theorem expr_chk : ∀ n, chk Tryd.prog (exprSh n) (.inl 43) = true
  | 0 => by kernel_rfl
  | n + 1 => by rw [exprSh, chk_step, expr_size, expr_chk n]; rfl
abbrev tellSh (K : Nat) : List Sh := [.sl 3 tokSh, exprSh (K + 1), .sl 2 equSh]
theorem fit_tells {H : Type} {K : Nat} {ds : List (DataW H)} (h : fitAll (tellSh K) ds) (hb : Rows.uptoBulkAll ds ≤ 1048576) : ∃ (L : List OTok) (e : OExpr) (l : List OEqu), rdAll (tellSh K) ds = [.sl 3 (L.map tokD) none, exprU e, .sl 2 (l.map equD) none] ∧
    L.length ≤ 1000000000 ∧ wt L ≤ 100000000 ∧ nodes e ≤ 1048576 ∧ l.length ≤ 1000000000 := by
  obtain ⟨d1, d2, d3, rfl, h1, h2, h3⟩ := fitAll3 h
  simp only [Rows.uptoBulkAll] at hb
  obtain ⟨L, e1, l1, q1⟩ := fit_sl (g := tokD) (Q := fun d t => 1 + t.text.length ≤ Rows.uptoBulk d) h1 fun x _ hx => fit_tok hx
  obtain ⟨e, e2, l2⟩ := fit_expr h2
  obtain ⟨l, e3, l3, _⟩ := fit_sl (g := equD) (Q := fun _ _ => True) h3 fun x _ hx => by
    obtain ⟨s, h⟩ := fit_equ hx
    exact ⟨s, h, trivial⟩
  have w := wt_le l1 q1
  have b1 := elems_all d1
  have b2 := elems_le d1
  have b3 := elems_le d3
  refine ⟨L, e, l, by simp only [rdAll, e1, e2, e3], by omega, by omega, by omega, by omega⟩
end Go.Proofs.YtholdembikenfaaDoor
