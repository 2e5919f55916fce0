/-
  A part of the proof: what the given program's functions answer, each once; conditions that are enough for it.
-/
import Derived.Test.YtdhpodgaeholmaaDoorProg
import Derived.KernelRfl
import Derived.Test.YtdhpodgaeholmaaDoorFw3
import Derived.Test.YtdhpodgaeholmaaDoorFw4
/-
  The types' table and the functions' numbers of this seat; printed by a program.
-/
namespace Go.Proofs.YtdhpodgaeholmaaDoor
open Go Go.Plat
set_option maxRecDepth 100000

theorem TIOk.of {P : Program} {t : Nat} {i : TI} (h1 : (P.underlying t).map tdOf = some i.d) (h2 : (P.info? t).map (fun x => (x.size, x.bytes, x.zero)) = some (i.size, i.bytes, some i.zero)) (h3 : Nat.beq i.size 0 = false) (h3b : Nat.beq i.bytes 0 = false) (h4 : Nat.beq i.zero.cells.size i.size = true)
    (h5 : (match P.underlying t with | some (.struct fs) => fs.toList.all fun f => (P.info? f.type).isSome | _ => true) = true) : TIOk P t i where
  under := by
    cases h : P.underlying t with
    | none => rw [h] at h1; cases h1
    | some d => rw [h] at h1; exact ⟨d, rfl, by simpa using h1⟩
  info := by
    cases h : P.info? t with
    | none => rw [h] at h2; cases h2
    | some x => rw [h] at h2; simp at h2; exact ⟨x, rfl, h2.1, h2.2.1, h2.2.2⟩
  pos := by intro h; rw [h] at h3; simp at h3
  bpos := by intro h; rw [h] at h3b; simp at h3b
  szero := Nat.eq_of_beq_eq_true h4
  fin := h5

theorem tk3 : TIOk Tryd.prog 3 ⟨(.int .i64), 1, 8, (.int .i64 0)⟩ := TIOk.of (by kernel_rfl) (by kernel_rfl) rfl rfl (by kernel_rfl) (by kernel_rfl)
theorem tk4 : TIOk Tryd.prog 4 ⟨.bool, 1, 1, (.bool false)⟩ := TIOk.of (by kernel_rfl) (by kernel_rfl) rfl rfl (by kernel_rfl) (by kernel_rfl)
theorem tk5 : TIOk Tryd.prog 5 ⟨(.int .u8), 1, 1, (.int .u8 0)⟩ := TIOk.of (by kernel_rfl) (by kernel_rfl) rfl rfl (by kernel_rfl) (by kernel_rfl)
theorem tk9 : TIOk Tryd.prog 9 ⟨.str, 1, 16, (.string ⟨#[]⟩)⟩ := TIOk.of (by kernel_rfl) (by kernel_rfl) rfl rfl (by kernel_rfl) (by kernel_rfl)
theorem tk43 : TIOk Tryd.prog 43 ⟨(.slice 5), 1, 24, (.slice none 0 0)⟩ := TIOk.of (by kernel_rfl) (by kernel_rfl) rfl rfl (by kernel_rfl) (by kernel_rfl)
theorem tk2 : TIOk Tryd.prog 2 ⟨(.int .i64), 1, 8, (.int .i64 0)⟩ := TIOk.of (by kernel_rfl) (by kernel_rfl) rfl rfl (by kernel_rfl) (by kernel_rfl)
theorem tk12 : TIOk Tryd.prog 12 ⟨(.int .u64), 1, 8, (.int .u64 0)⟩ := TIOk.of (by kernel_rfl) (by kernel_rfl) rfl rfl (by kernel_rfl) (by kernel_rfl)
theorem tk20 : TIOk Tryd.prog 20 ⟨.iface, 1, 16, .nilIface⟩ := TIOk.of (by kernel_rfl) (by kernel_rfl) rfl rfl (by kernel_rfl) (by kernel_rfl)
theorem tk21 : TIOk Tryd.prog 21 ⟨(.int .i32), 1, 4, (.int .i32 0)⟩ := TIOk.of (by kernel_rfl) (by kernel_rfl) rfl rfl (by kernel_rfl) (by kernel_rfl)
theorem tk22 : TIOk Tryd.prog 22 ⟨(.slice 67), 1, 24, (.slice none 0 0)⟩ := TIOk.of (by kernel_rfl) (by kernel_rfl) rfl rfl (by kernel_rfl) (by kernel_rfl)
theorem tk23 : TIOk Tryd.prog 23 ⟨(.slice 40), 1, 24, (.slice none 0 0)⟩ := TIOk.of (by kernel_rfl) (by kernel_rfl) rfl rfl (by kernel_rfl) (by kernel_rfl)
theorem tk25 : TIOk Tryd.prog 25 ⟨(.slice 27), 1, 24, (.slice none 0 0)⟩ := TIOk.of (by kernel_rfl) (by kernel_rfl) rfl rfl (by kernel_rfl) (by kernel_rfl)
theorem tk26 : TIOk Tryd.prog 26 ⟨(.struct [(0, 3), (1, 3), (2, 9), (3, 25)]), 4, 56, (.agg #[(.int .i64 0), (.int .i64 0), (.string ⟨#[]⟩), (.slice none 0 0)])⟩ := TIOk.of (by kernel_rfl) (by kernel_rfl) rfl rfl (by kernel_rfl) (by kernel_rfl)
theorem tk27 : TIOk Tryd.prog 27 ⟨(.struct [(0, 3), (1, 3), (2, 9), (3, 25)]), 4, 56, (.agg #[(.int .i64 0), (.int .i64 0), (.string ⟨#[]⟩), (.slice none 0 0)])⟩ := TIOk.of (by kernel_rfl) (by kernel_rfl) rfl rfl (by kernel_rfl) (by kernel_rfl)
theorem tk28 : TIOk Tryd.prog 28 ⟨(.int .i64), 1, 8, (.int .i64 0)⟩ := TIOk.of (by kernel_rfl) (by kernel_rfl) rfl rfl (by kernel_rfl) (by kernel_rfl)
theorem tk34 : TIOk Tryd.prog 34 ⟨(.struct [(0, 9), (1, 3)]), 2, 24, (.agg #[(.string ⟨#[]⟩), (.int .i64 0)])⟩ := TIOk.of (by kernel_rfl) (by kernel_rfl) rfl rfl (by kernel_rfl) (by kernel_rfl)
theorem tk35 : TIOk Tryd.prog 35 ⟨(.struct [(0, 9), (1, 3)]), 2, 24, (.agg #[(.string ⟨#[]⟩), (.int .i64 0)])⟩ := TIOk.of (by kernel_rfl) (by kernel_rfl) rfl rfl (by kernel_rfl) (by kernel_rfl)
theorem tk40 : TIOk Tryd.prog 40 ⟨(.struct [(0, 9), (1, 3)]), 2, 24, (.agg #[(.string ⟨#[]⟩), (.int .i64 0)])⟩ := TIOk.of (by kernel_rfl) (by kernel_rfl) rfl rfl (by kernel_rfl) (by kernel_rfl)
theorem tk44 : TIOk Tryd.prog 44 ⟨(.struct [(0, 3), (1, 3), (2, 3), (3, 3)]), 4, 32, (.agg #[(.int .i64 0), (.int .i64 0), (.int .i64 0), (.int .i64 0)])⟩ := TIOk.of (by kernel_rfl) (by kernel_rfl) rfl rfl (by kernel_rfl) (by kernel_rfl)
theorem tk45 : TIOk Tryd.prog 45 ⟨(.struct [(0, 3), (1, 3), (2, 3), (3, 3)]), 4, 32, (.agg #[(.int .i64 0), (.int .i64 0), (.int .i64 0), (.int .i64 0)])⟩ := TIOk.of (by kernel_rfl) (by kernel_rfl) rfl rfl (by kernel_rfl) (by kernel_rfl)
theorem tk55 : TIOk Tryd.prog 55 ⟨(.slice 64), 1, 24, (.slice none 0 0)⟩ := TIOk.of (by kernel_rfl) (by kernel_rfl) rfl rfl (by kernel_rfl) (by kernel_rfl)
theorem tk56 : TIOk Tryd.prog 56 ⟨(.struct [(0, 28), (1, 3)]), 2, 16, (.agg #[(.int .i64 0), (.int .i64 0)])⟩ := TIOk.of (by kernel_rfl) (by kernel_rfl) rfl rfl (by kernel_rfl) (by kernel_rfl)
theorem tk57 : TIOk Tryd.prog 57 ⟨(.struct [(0, 28), (1, 3)]), 2, 16, (.agg #[(.int .i64 0), (.int .i64 0)])⟩ := TIOk.of (by kernel_rfl) (by kernel_rfl) rfl rfl (by kernel_rfl) (by kernel_rfl)
theorem tk63 : TIOk Tryd.prog 63 ⟨(.struct [(0, 3), (1, 22)]), 2, 32, (.agg #[(.int .i64 0), (.slice none 0 0)])⟩ := TIOk.of (by kernel_rfl) (by kernel_rfl) rfl rfl (by kernel_rfl) (by kernel_rfl)
theorem tk64 : TIOk Tryd.prog 64 ⟨(.struct [(0, 3), (1, 22)]), 2, 32, (.agg #[(.int .i64 0), (.slice none 0 0)])⟩ := TIOk.of (by kernel_rfl) (by kernel_rfl) rfl rfl (by kernel_rfl) (by kernel_rfl)
theorem tk66 : TIOk Tryd.prog 66 ⟨(.struct [(0, 3), (1, 3), (2, 9)]), 3, 32, (.agg #[(.int .i64 0), (.int .i64 0), (.string ⟨#[]⟩)])⟩ := TIOk.of (by kernel_rfl) (by kernel_rfl) rfl rfl (by kernel_rfl) (by kernel_rfl)
theorem tk67 : TIOk Tryd.prog 67 ⟨(.struct [(0, 3), (1, 3), (2, 9)]), 3, 32, (.agg #[(.int .i64 0), (.int .i64 0), (.string ⟨#[]⟩)])⟩ := TIOk.of (by kernel_rfl) (by kernel_rfl) rfl rfl (by kernel_rfl) (by kernel_rfl)
theorem tk70 : TIOk Tryd.prog 70 ⟨(.ptr 72), 1, 8, (.pointer none)⟩ := TIOk.of (by kernel_rfl) (by kernel_rfl) rfl rfl (by kernel_rfl) (by kernel_rfl)
theorem tk71 : TIOk Tryd.prog 71 ⟨(.struct [(0, 22), (1, 28)]), 2, 32, (.agg #[(.slice none 0 0), (.int .i64 0)])⟩ := TIOk.of (by kernel_rfl) (by kernel_rfl) rfl rfl (by kernel_rfl) (by kernel_rfl)
theorem tk72 : TIOk Tryd.prog 72 ⟨(.struct [(0, 22), (1, 28)]), 2, 32, (.agg #[(.slice none 0 0), (.int .i64 0)])⟩ := TIOk.of (by kernel_rfl) (by kernel_rfl) rfl rfl (by kernel_rfl) (by kernel_rfl)
theorem tk78 : TIOk Tryd.prog 78 ⟨(.slice 83), 1, 24, (.slice none 0 0)⟩ := TIOk.of (by kernel_rfl) (by kernel_rfl) rfl rfl (by kernel_rfl) (by kernel_rfl)
theorem tk80 : TIOk Tryd.prog 80 ⟨(.slice 9), 1, 24, (.slice none 0 0)⟩ := TIOk.of (by kernel_rfl) (by kernel_rfl) rfl rfl (by kernel_rfl) (by kernel_rfl)
theorem tk81 : TIOk Tryd.prog 81 ⟨(.slice 3), 1, 24, (.slice none 0 0)⟩ := TIOk.of (by kernel_rfl) (by kernel_rfl) rfl rfl (by kernel_rfl) (by kernel_rfl)
theorem tk82 : TIOk Tryd.prog 82 ⟨(.struct [(0, 80), (1, 81)]), 2, 48, (.agg #[(.slice none 0 0), (.slice none 0 0)])⟩ := TIOk.of (by kernel_rfl) (by kernel_rfl) rfl rfl (by kernel_rfl) (by kernel_rfl)
theorem tk83 : TIOk Tryd.prog 83 ⟨(.struct [(0, 80), (1, 81)]), 2, 48, (.agg #[(.slice none 0 0), (.slice none 0 0)])⟩ := TIOk.of (by kernel_rfl) (by kernel_rfl) rfl rfl (by kernel_rfl) (by kernel_rfl)
theorem tk85 : TIOk Tryd.prog 85 ⟨(.slice 35), 1, 24, (.slice none 0 0)⟩ := TIOk.of (by kernel_rfl) (by kernel_rfl) rfl rfl (by kernel_rfl) (by kernel_rfl)
theorem tk89 : TIOk Tryd.prog 89 ⟨(.int .u32), 1, 4, (.int .u32 0)⟩ := TIOk.of (by kernel_rfl) (by kernel_rfl) rfl rfl (by kernel_rfl) (by kernel_rfl)
theorem tk98 : TIOk Tryd.prog 98 ⟨(.ptr 100), 1, 8, (.pointer none)⟩ := TIOk.of (by kernel_rfl) (by kernel_rfl) rfl rfl (by kernel_rfl) (by kernel_rfl)
theorem tk99 : TIOk Tryd.prog 99 ⟨(.struct [(0, 98), (1, 43)]), 2, 32, (.agg #[(.pointer none), (.slice none 0 0)])⟩ := TIOk.of (by kernel_rfl) (by kernel_rfl) rfl rfl (by kernel_rfl) (by kernel_rfl)
theorem tk100 : TIOk Tryd.prog 100 ⟨(.struct [(0, 98), (1, 43)]), 2, 32, (.agg #[(.pointer none), (.slice none 0 0)])⟩ := TIOk.of (by kernel_rfl) (by kernel_rfl) rfl rfl (by kernel_rfl) (by kernel_rfl)
theorem tk102 : TIOk Tryd.prog 102 ⟨.iface, 1, 16, .nilIface⟩ := TIOk.of (by kernel_rfl) (by kernel_rfl) rfl rfl (by kernel_rfl) (by kernel_rfl)
theorem tk103 : TIOk Tryd.prog 103 ⟨.iface, 1, 16, .nilIface⟩ := TIOk.of (by kernel_rfl) (by kernel_rfl) rfl rfl (by kernel_rfl) (by kernel_rfl)
theorem tk107 : TIOk Tryd.prog 107 ⟨(.map 3 4), 1, 8, (.map none)⟩ := TIOk.of (by kernel_rfl) (by kernel_rfl) rfl rfl (by kernel_rfl) (by kernel_rfl)
theorem tk108 : TIOk Tryd.prog 108 ⟨(.struct [(0, 9), (1, 3), (2, 9)]), 3, 40, (.agg #[(.string ⟨#[]⟩), (.int .i64 0), (.string ⟨#[]⟩)])⟩ := TIOk.of (by kernel_rfl) (by kernel_rfl) rfl rfl (by kernel_rfl) (by kernel_rfl)
theorem tk109 : TIOk Tryd.prog 109 ⟨(.struct [(0, 9), (1, 3), (2, 9)]), 3, 40, (.agg #[(.string ⟨#[]⟩), (.int .i64 0), (.string ⟨#[]⟩)])⟩ := TIOk.of (by kernel_rfl) (by kernel_rfl) rfl rfl (by kernel_rfl) (by kernel_rfl)
theorem tk111 : TIOk Tryd.prog 111 ⟨(.map 3 109), 1, 8, (.map none)⟩ := TIOk.of (by kernel_rfl) (by kernel_rfl) rfl rfl (by kernel_rfl) (by kernel_rfl)
theorem tk120 : TIOk Tryd.prog 120 ⟨(.ptr 122), 1, 8, (.pointer none)⟩ := TIOk.of (by kernel_rfl) (by kernel_rfl) rfl rfl (by kernel_rfl) (by kernel_rfl)
theorem tk121 : TIOk Tryd.prog 121 ⟨(.struct [(0, 9), (1, 3)]), 2, 24, (.agg #[(.string ⟨#[]⟩), (.int .i64 0)])⟩ := TIOk.of (by kernel_rfl) (by kernel_rfl) rfl rfl (by kernel_rfl) (by kernel_rfl)
theorem tk122 : TIOk Tryd.prog 122 ⟨(.struct [(0, 9), (1, 3)]), 2, 24, (.agg #[(.string ⟨#[]⟩), (.int .i64 0)])⟩ := TIOk.of (by kernel_rfl) (by kernel_rfl) rfl rfl (by kernel_rfl) (by kernel_rfl)
theorem tk133 : TIOk Tryd.prog 133 ⟨(.slice 136), 1, 24, (.slice none 0 0)⟩ := TIOk.of (by kernel_rfl) (by kernel_rfl) rfl rfl (by kernel_rfl) (by kernel_rfl)
theorem tk135 : TIOk Tryd.prog 135 ⟨(.struct [(0, 3), (1, 9), (2, 3), (3, 3)]), 4, 40, (.agg #[(.int .i64 0), (.string ⟨#[]⟩), (.int .i64 0), (.int .i64 0)])⟩ := TIOk.of (by kernel_rfl) (by kernel_rfl) rfl rfl (by kernel_rfl) (by kernel_rfl)
theorem tk136 : TIOk Tryd.prog 136 ⟨(.struct [(0, 3), (1, 9), (2, 3), (3, 3)]), 4, 40, (.agg #[(.int .i64 0), (.string ⟨#[]⟩), (.int .i64 0), (.int .i64 0)])⟩ := TIOk.of (by kernel_rfl) (by kernel_rfl) rfl rfl (by kernel_rfl) (by kernel_rfl)
theorem tk139 : TIOk Tryd.prog 139 ⟨(.int .u64), 1, 8, (.int .u64 0)⟩ := TIOk.of (by kernel_rfl) (by kernel_rfl) rfl rfl (by kernel_rfl) (by kernel_rfl)
theorem tk141 : TIOk Tryd.prog 141 ⟨(.ptr 5), 1, 8, (.pointer none)⟩ := TIOk.of (by kernel_rfl) (by kernel_rfl) rfl rfl (by kernel_rfl) (by kernel_rfl)
theorem tk144 : TIOk Tryd.prog 144 ⟨(.arr 256 5), 256, 256, (.agg #[(.int .u8 0), (.int .u8 0), (.int .u8 0), (.int .u8 0), (.int .u8 0), (.int .u8 0), (.int .u8 0), (.int .u8 0), (.int .u8 0), (.int .u8 0), (.int .u8 0), (.int .u8 0), (.int .u8 0), (.int .u8 0), (.int .u8 0), (.int .u8 0), (.int .u8 0), (.int .u8 0), (.int .u8 0), (.int .u8 0), (.int .u8 0), (.int .u8 0), (.int .u8 0), (.int .u8 0), (.int .u8 0), (.int .u8 0), (.int .u8 0), (.int .u8 0), (.int .u8 0), (.int .u8 0), (.int .u8 0), (.int .u8 0), (.int .u8 0), (.int .u8 0), (.int .u8 0), (.int .u8 0), (.int .u8 0), (.int .u8 0), (.int .u8 0), (.int .u8 0), (.int .u8 0), (.int .u8 0), (.int .u8 0), (.int .u8 0), (.int .u8 0), (.int .u8 0), (.int .u8 0), (.int .u8 0), (.int .u8 0), (.int .u8 0), (.int .u8 0), (.int .u8 0), (.int .u8 0), (.int .u8 0), (.int .u8 0), (.int .u8 0), (.int .u8 0), (.int .u8 0), (.int .u8 0), (.int .u8 0), (.int .u8 0), (.int .u8 0), (.int .u8 0), (.int .u8 0), (.int .u8 0), (.int .u8 0), (.int .u8 0), (.int .u8 0), (.int .u8 0), (.int .u8 0), (.int .u8 0), (.int .u8 0), (.int .u8 0), (.int .u8 0), (.int .u8 0), (.int .u8 0), (.int .u8 0), (.int .u8 0), (.int .u8 0), (.int .u8 0), (.int .u8 0), (.int .u8 0), (.int .u8 0), (.int .u8 0), (.int .u8 0), (.int .u8 0), (.int .u8 0), (.int .u8 0), (.int .u8 0), (.int .u8 0), (.int .u8 0), (.int .u8 0), (.int .u8 0), (.int .u8 0), (.int .u8 0), (.int .u8 0), (.int .u8 0), (.int .u8 0), (.int .u8 0), (.int .u8 0), (.int .u8 0), (.int .u8 0), (.int .u8 0), (.int .u8 0), (.int .u8 0), (.int .u8 0), (.int .u8 0), (.int .u8 0), (.int .u8 0), (.int .u8 0), (.int .u8 0), (.int .u8 0), (.int .u8 0), (.int .u8 0), (.int .u8 0), (.int .u8 0), (.int .u8 0), (.int .u8 0), (.int .u8 0), (.int .u8 0), (.int .u8 0), (.int .u8 0), (.int .u8 0), (.int .u8 0), (.int .u8 0), (.int .u8 0), (.int .u8 0), (.int .u8 0), (.int .u8 0), (.int .u8 0), (.int .u8 0), (.int .u8 0), (.int .u8 0), (.int .u8 0), (.int .u8 0), (.int .u8 0), (.int .u8 0), (.int .u8 0), (.int .u8 0), (.int .u8 0), (.int .u8 0), (.int .u8 0), (.int .u8 0), (.int .u8 0), (.int .u8 0), (.int .u8 0), (.int .u8 0), (.int .u8 0), (.int .u8 0), (.int .u8 0), (.int .u8 0), (.int .u8 0), (.int .u8 0), (.int .u8 0), (.int .u8 0), (.int .u8 0), (.int .u8 0), (.int .u8 0), (.int .u8 0), (.int .u8 0), (.int .u8 0), (.int .u8 0), (.int .u8 0), (.int .u8 0), (.int .u8 0), (.int .u8 0), (.int .u8 0), (.int .u8 0), (.int .u8 0), (.int .u8 0), (.int .u8 0), (.int .u8 0), (.int .u8 0), (.int .u8 0), (.int .u8 0), (.int .u8 0), (.int .u8 0), (.int .u8 0), (.int .u8 0), (.int .u8 0), (.int .u8 0), (.int .u8 0), (.int .u8 0), (.int .u8 0), (.int .u8 0), (.int .u8 0), (.int .u8 0), (.int .u8 0), (.int .u8 0), (.int .u8 0), (.int .u8 0), (.int .u8 0), (.int .u8 0), (.int .u8 0), (.int .u8 0), (.int .u8 0), (.int .u8 0), (.int .u8 0), (.int .u8 0), (.int .u8 0), (.int .u8 0), (.int .u8 0), (.int .u8 0), (.int .u8 0), (.int .u8 0), (.int .u8 0), (.int .u8 0), (.int .u8 0), (.int .u8 0), (.int .u8 0), (.int .u8 0), (.int .u8 0), (.int .u8 0), (.int .u8 0), (.int .u8 0), (.int .u8 0), (.int .u8 0), (.int .u8 0), (.int .u8 0), (.int .u8 0), (.int .u8 0), (.int .u8 0), (.int .u8 0), (.int .u8 0), (.int .u8 0), (.int .u8 0), (.int .u8 0), (.int .u8 0), (.int .u8 0), (.int .u8 0), (.int .u8 0), (.int .u8 0), (.int .u8 0), (.int .u8 0), (.int .u8 0), (.int .u8 0), (.int .u8 0), (.int .u8 0), (.int .u8 0), (.int .u8 0), (.int .u8 0), (.int .u8 0), (.int .u8 0), (.int .u8 0), (.int .u8 0), (.int .u8 0), (.int .u8 0), (.int .u8 0), (.int .u8 0), (.int .u8 0), (.int .u8 0), (.int .u8 0), (.int .u8 0), (.int .u8 0), (.int .u8 0), (.int .u8 0)])⟩ := TIOk.of (by kernel_rfl) (by kernel_rfl) rfl rfl (by kernel_rfl) (by kernel_rfl)
theorem tk145 : TIOk Tryd.prog 145 ⟨(.int .u64), 1, 8, (.int .u64 0)⟩ := TIOk.of (by kernel_rfl) (by kernel_rfl) rfl rfl (by kernel_rfl) (by kernel_rfl)
theorem tk156 : TIOk Tryd.prog 156 ⟨(.ptr 171), 1, 8, (.pointer none)⟩ := TIOk.of (by kernel_rfl) (by kernel_rfl) rfl rfl (by kernel_rfl) (by kernel_rfl)
theorem tk163 : TIOk Tryd.prog 163 ⟨(.arr 24 5), 24, 24, (.agg #[(.int .u8 0), (.int .u8 0), (.int .u8 0), (.int .u8 0), (.int .u8 0), (.int .u8 0), (.int .u8 0), (.int .u8 0), (.int .u8 0), (.int .u8 0), (.int .u8 0), (.int .u8 0), (.int .u8 0), (.int .u8 0), (.int .u8 0), (.int .u8 0), (.int .u8 0), (.int .u8 0), (.int .u8 0), (.int .u8 0), (.int .u8 0), (.int .u8 0), (.int .u8 0), (.int .u8 0)])⟩ := TIOk.of (by kernel_rfl) (by kernel_rfl) rfl rfl (by kernel_rfl) (by kernel_rfl)
theorem tk168 : TIOk Tryd.prog 168 ⟨(.slice 174), 1, 24, (.slice none 0 0)⟩ := TIOk.of (by kernel_rfl) (by kernel_rfl) rfl rfl (by kernel_rfl) (by kernel_rfl)
theorem tk169 : TIOk Tryd.prog 169 ⟨(.slice 177), 1, 24, (.slice none 0 0)⟩ := TIOk.of (by kernel_rfl) (by kernel_rfl) rfl rfl (by kernel_rfl) (by kernel_rfl)
theorem tk170 : TIOk Tryd.prog 170 ⟨(.struct [(0, 168), (1, 169), (2, 3)]), 3, 56, (.agg #[(.slice none 0 0), (.slice none 0 0), (.int .i64 0)])⟩ := TIOk.of (by kernel_rfl) (by kernel_rfl) rfl rfl (by kernel_rfl) (by kernel_rfl)
theorem tk171 : TIOk Tryd.prog 171 ⟨(.struct [(0, 168), (1, 169), (2, 3)]), 3, 56, (.agg #[(.slice none 0 0), (.slice none 0 0), (.int .i64 0)])⟩ := TIOk.of (by kernel_rfl) (by kernel_rfl) rfl rfl (by kernel_rfl) (by kernel_rfl)
theorem tk172 : TIOk Tryd.prog 172 ⟨(.int .u16), 1, 2, (.int .u16 0)⟩ := TIOk.of (by kernel_rfl) (by kernel_rfl) rfl rfl (by kernel_rfl) (by kernel_rfl)
theorem tk173 : TIOk Tryd.prog 173 ⟨(.struct [(0, 172), (1, 172), (2, 172)]), 3, 6, (.agg #[(.int .u16 0), (.int .u16 0), (.int .u16 0)])⟩ := TIOk.of (by kernel_rfl) (by kernel_rfl) rfl rfl (by kernel_rfl) (by kernel_rfl)
theorem tk174 : TIOk Tryd.prog 174 ⟨(.struct [(0, 172), (1, 172), (2, 172)]), 3, 6, (.agg #[(.int .u16 0), (.int .u16 0), (.int .u16 0)])⟩ := TIOk.of (by kernel_rfl) (by kernel_rfl) rfl rfl (by kernel_rfl) (by kernel_rfl)
theorem tk176 : TIOk Tryd.prog 176 ⟨(.struct [(0, 89), (1, 89), (2, 89)]), 3, 12, (.agg #[(.int .u32 0), (.int .u32 0), (.int .u32 0)])⟩ := TIOk.of (by kernel_rfl) (by kernel_rfl) rfl rfl (by kernel_rfl) (by kernel_rfl)
theorem tk177 : TIOk Tryd.prog 177 ⟨(.struct [(0, 89), (1, 89), (2, 89)]), 3, 12, (.agg #[(.int .u32 0), (.int .u32 0), (.int .u32 0)])⟩ := TIOk.of (by kernel_rfl) (by kernel_rfl) rfl rfl (by kernel_rfl) (by kernel_rfl)
theorem tk180 : TIOk Tryd.prog 180 ⟨(.int .i64), 1, 8, (.int .i64 0)⟩ := TIOk.of (by kernel_rfl) (by kernel_rfl) rfl rfl (by kernel_rfl) (by kernel_rfl)
theorem tk181 : TIOk Tryd.prog 181 ⟨(.ptr 199), 1, 8, (.pointer none)⟩ := TIOk.of (by kernel_rfl) (by kernel_rfl) rfl rfl (by kernel_rfl) (by kernel_rfl)
theorem tk187 : TIOk Tryd.prog 187 ⟨(.arr 20 145), 20, 160, (.agg #[(.int .u64 0), (.int .u64 0), (.int .u64 0), (.int .u64 0), (.int .u64 0), (.int .u64 0), (.int .u64 0), (.int .u64 0), (.int .u64 0), (.int .u64 0), (.int .u64 0), (.int .u64 0), (.int .u64 0), (.int .u64 0), (.int .u64 0), (.int .u64 0), (.int .u64 0), (.int .u64 0), (.int .u64 0), (.int .u64 0)])⟩ := TIOk.of (by kernel_rfl) (by kernel_rfl) rfl rfl (by kernel_rfl) (by kernel_rfl)
theorem tk188 : TIOk Tryd.prog 188 ⟨(.arr 65 5), 65, 65, (.agg #[(.int .u8 0), (.int .u8 0), (.int .u8 0), (.int .u8 0), (.int .u8 0), (.int .u8 0), (.int .u8 0), (.int .u8 0), (.int .u8 0), (.int .u8 0), (.int .u8 0), (.int .u8 0), (.int .u8 0), (.int .u8 0), (.int .u8 0), (.int .u8 0), (.int .u8 0), (.int .u8 0), (.int .u8 0), (.int .u8 0), (.int .u8 0), (.int .u8 0), (.int .u8 0), (.int .u8 0), (.int .u8 0), (.int .u8 0), (.int .u8 0), (.int .u8 0), (.int .u8 0), (.int .u8 0), (.int .u8 0), (.int .u8 0), (.int .u8 0), (.int .u8 0), (.int .u8 0), (.int .u8 0), (.int .u8 0), (.int .u8 0), (.int .u8 0), (.int .u8 0), (.int .u8 0), (.int .u8 0), (.int .u8 0), (.int .u8 0), (.int .u8 0), (.int .u8 0), (.int .u8 0), (.int .u8 0), (.int .u8 0), (.int .u8 0), (.int .u8 0), (.int .u8 0), (.int .u8 0), (.int .u8 0), (.int .u8 0), (.int .u8 0), (.int .u8 0), (.int .u8 0), (.int .u8 0), (.int .u8 0), (.int .u8 0), (.int .u8 0), (.int .u8 0), (.int .u8 0), (.int .u8 0)])⟩ := TIOk.of (by kernel_rfl) (by kernel_rfl) rfl rfl (by kernel_rfl) (by kernel_rfl)
theorem tk191 : TIOk Tryd.prog 191 ⟨(.ptr 174), 1, 8, (.pointer none)⟩ := TIOk.of (by kernel_rfl) (by kernel_rfl) rfl rfl (by kernel_rfl) (by kernel_rfl)
theorem tk192 : TIOk Tryd.prog 192 ⟨(.ptr 177), 1, 8, (.pointer none)⟩ := TIOk.of (by kernel_rfl) (by kernel_rfl) rfl rfl (by kernel_rfl) (by kernel_rfl)
theorem tk193 : TIOk Tryd.prog 193 ⟨(.struct [(0, 5), (1, 5)]), 2, 2, (.agg #[(.int .u8 0), (.int .u8 0)])⟩ := TIOk.of (by kernel_rfl) (by kernel_rfl) rfl rfl (by kernel_rfl) (by kernel_rfl)
theorem tk194 : TIOk Tryd.prog 194 ⟨(.struct [(0, 5), (1, 5)]), 2, 2, (.agg #[(.int .u8 0), (.int .u8 0)])⟩ := TIOk.of (by kernel_rfl) (by kernel_rfl) rfl rfl (by kernel_rfl) (by kernel_rfl)
theorem tk195 : TIOk Tryd.prog 195 ⟨(.arr 16 194), 32, 32, (.agg #[(.int .u8 0), (.int .u8 0), (.int .u8 0), (.int .u8 0), (.int .u8 0), (.int .u8 0), (.int .u8 0), (.int .u8 0), (.int .u8 0), (.int .u8 0), (.int .u8 0), (.int .u8 0), (.int .u8 0), (.int .u8 0), (.int .u8 0), (.int .u8 0), (.int .u8 0), (.int .u8 0), (.int .u8 0), (.int .u8 0), (.int .u8 0), (.int .u8 0), (.int .u8 0), (.int .u8 0), (.int .u8 0), (.int .u8 0), (.int .u8 0), (.int .u8 0), (.int .u8 0), (.int .u8 0), (.int .u8 0), (.int .u8 0)])⟩ := TIOk.of (by kernel_rfl) (by kernel_rfl) rfl rfl (by kernel_rfl) (by kernel_rfl)
theorem tk198 : TIOk Tryd.prog 198 ⟨(.struct [(0, 9), (1, 9), (2, 103)]), 3, 48, (.agg #[(.string ⟨#[]⟩), (.string ⟨#[]⟩), .nilIface])⟩ := TIOk.of (by kernel_rfl) (by kernel_rfl) rfl rfl (by kernel_rfl) (by kernel_rfl)
theorem tk199 : TIOk Tryd.prog 199 ⟨(.struct [(0, 9), (1, 9), (2, 103)]), 3, 48, (.agg #[(.string ⟨#[]⟩), (.string ⟨#[]⟩), .nilIface])⟩ := TIOk.of (by kernel_rfl) (by kernel_rfl) rfl rfl (by kernel_rfl) (by kernel_rfl)
theorem tk202 : TIOk Tryd.prog 202 ⟨(.ptr 204), 1, 8, (.pointer none)⟩ := TIOk.of (by kernel_rfl) (by kernel_rfl) rfl rfl (by kernel_rfl) (by kernel_rfl)
theorem tk203 : TIOk Tryd.prog 203 ⟨(.struct [(0, 9)]), 1, 16, (.agg #[(.string ⟨#[]⟩)])⟩ := TIOk.of (by kernel_rfl) (by kernel_rfl) rfl rfl (by kernel_rfl) (by kernel_rfl)
theorem tk204 : TIOk Tryd.prog 204 ⟨(.struct [(0, 9)]), 1, 16, (.agg #[(.string ⟨#[]⟩)])⟩ := TIOk.of (by kernel_rfl) (by kernel_rfl) rfl rfl (by kernel_rfl) (by kernel_rfl)
theorem tk205 : TIOk Tryd.prog 205 ⟨(.arr 32 5), 32, 32, (.agg #[(.int .u8 0), (.int .u8 0), (.int .u8 0), (.int .u8 0), (.int .u8 0), (.int .u8 0), (.int .u8 0), (.int .u8 0), (.int .u8 0), (.int .u8 0), (.int .u8 0), (.int .u8 0), (.int .u8 0), (.int .u8 0), (.int .u8 0), (.int .u8 0), (.int .u8 0), (.int .u8 0), (.int .u8 0), (.int .u8 0), (.int .u8 0), (.int .u8 0), (.int .u8 0), (.int .u8 0), (.int .u8 0), (.int .u8 0), (.int .u8 0), (.int .u8 0), (.int .u8 0), (.int .u8 0), (.int .u8 0), (.int .u8 0)])⟩ := TIOk.of (by kernel_rfl) (by kernel_rfl) rfl rfl (by kernel_rfl) (by kernel_rfl)
theorem tk206 : TIOk Tryd.prog 206 ⟨(.arr 64 5), 64, 64, (.agg #[(.int .u8 0), (.int .u8 0), (.int .u8 0), (.int .u8 0), (.int .u8 0), (.int .u8 0), (.int .u8 0), (.int .u8 0), (.int .u8 0), (.int .u8 0), (.int .u8 0), (.int .u8 0), (.int .u8 0), (.int .u8 0), (.int .u8 0), (.int .u8 0), (.int .u8 0), (.int .u8 0), (.int .u8 0), (.int .u8 0), (.int .u8 0), (.int .u8 0), (.int .u8 0), (.int .u8 0), (.int .u8 0), (.int .u8 0), (.int .u8 0), (.int .u8 0), (.int .u8 0), (.int .u8 0), (.int .u8 0), (.int .u8 0), (.int .u8 0), (.int .u8 0), (.int .u8 0), (.int .u8 0), (.int .u8 0), (.int .u8 0), (.int .u8 0), (.int .u8 0), (.int .u8 0), (.int .u8 0), (.int .u8 0), (.int .u8 0), (.int .u8 0), (.int .u8 0), (.int .u8 0), (.int .u8 0), (.int .u8 0), (.int .u8 0), (.int .u8 0), (.int .u8 0), (.int .u8 0), (.int .u8 0), (.int .u8 0), (.int .u8 0), (.int .u8 0), (.int .u8 0), (.int .u8 0), (.int .u8 0), (.int .u8 0), (.int .u8 0), (.int .u8 0), (.int .u8 0)])⟩ := TIOk.of (by kernel_rfl) (by kernel_rfl) rfl rfl (by kernel_rfl) (by kernel_rfl)

def tab : Tab := [
  (3, ⟨(.int .i64), 1, 8, (.int .i64 0)⟩),
  (4, ⟨.bool, 1, 1, (.bool false)⟩),
  (5, ⟨(.int .u8), 1, 1, (.int .u8 0)⟩),
  (9, ⟨.str, 1, 16, (.string ⟨#[]⟩)⟩),
  (43, ⟨(.slice 5), 1, 24, (.slice none 0 0)⟩),
  (2, ⟨(.int .i64), 1, 8, (.int .i64 0)⟩),
  (12, ⟨(.int .u64), 1, 8, (.int .u64 0)⟩),
  (20, ⟨.iface, 1, 16, .nilIface⟩),
  (21, ⟨(.int .i32), 1, 4, (.int .i32 0)⟩),
  (22, ⟨(.slice 67), 1, 24, (.slice none 0 0)⟩),
  (23, ⟨(.slice 40), 1, 24, (.slice none 0 0)⟩),
  (25, ⟨(.slice 27), 1, 24, (.slice none 0 0)⟩),
  (26, ⟨(.struct [(0, 3), (1, 3), (2, 9), (3, 25)]), 4, 56, (.agg #[(.int .i64 0), (.int .i64 0), (.string ⟨#[]⟩), (.slice none 0 0)])⟩),
  (27, ⟨(.struct [(0, 3), (1, 3), (2, 9), (3, 25)]), 4, 56, (.agg #[(.int .i64 0), (.int .i64 0), (.string ⟨#[]⟩), (.slice none 0 0)])⟩),
  (28, ⟨(.int .i64), 1, 8, (.int .i64 0)⟩),
  (34, ⟨(.struct [(0, 9), (1, 3)]), 2, 24, (.agg #[(.string ⟨#[]⟩), (.int .i64 0)])⟩),
  (35, ⟨(.struct [(0, 9), (1, 3)]), 2, 24, (.agg #[(.string ⟨#[]⟩), (.int .i64 0)])⟩),
  (40, ⟨(.struct [(0, 9), (1, 3)]), 2, 24, (.agg #[(.string ⟨#[]⟩), (.int .i64 0)])⟩),
  (44, ⟨(.struct [(0, 3), (1, 3), (2, 3), (3, 3)]), 4, 32, (.agg #[(.int .i64 0), (.int .i64 0), (.int .i64 0), (.int .i64 0)])⟩),
  (45, ⟨(.struct [(0, 3), (1, 3), (2, 3), (3, 3)]), 4, 32, (.agg #[(.int .i64 0), (.int .i64 0), (.int .i64 0), (.int .i64 0)])⟩),
  (55, ⟨(.slice 64), 1, 24, (.slice none 0 0)⟩),
  (56, ⟨(.struct [(0, 28), (1, 3)]), 2, 16, (.agg #[(.int .i64 0), (.int .i64 0)])⟩),
  (57, ⟨(.struct [(0, 28), (1, 3)]), 2, 16, (.agg #[(.int .i64 0), (.int .i64 0)])⟩),
  (63, ⟨(.struct [(0, 3), (1, 22)]), 2, 32, (.agg #[(.int .i64 0), (.slice none 0 0)])⟩),
  (64, ⟨(.struct [(0, 3), (1, 22)]), 2, 32, (.agg #[(.int .i64 0), (.slice none 0 0)])⟩),
  (66, ⟨(.struct [(0, 3), (1, 3), (2, 9)]), 3, 32, (.agg #[(.int .i64 0), (.int .i64 0), (.string ⟨#[]⟩)])⟩),
  (67, ⟨(.struct [(0, 3), (1, 3), (2, 9)]), 3, 32, (.agg #[(.int .i64 0), (.int .i64 0), (.string ⟨#[]⟩)])⟩),
  (70, ⟨(.ptr 72), 1, 8, (.pointer none)⟩),
  (71, ⟨(.struct [(0, 22), (1, 28)]), 2, 32, (.agg #[(.slice none 0 0), (.int .i64 0)])⟩),
  (72, ⟨(.struct [(0, 22), (1, 28)]), 2, 32, (.agg #[(.slice none 0 0), (.int .i64 0)])⟩),
  (78, ⟨(.slice 83), 1, 24, (.slice none 0 0)⟩),
  (80, ⟨(.slice 9), 1, 24, (.slice none 0 0)⟩),
  (81, ⟨(.slice 3), 1, 24, (.slice none 0 0)⟩),
  (82, ⟨(.struct [(0, 80), (1, 81)]), 2, 48, (.agg #[(.slice none 0 0), (.slice none 0 0)])⟩),
  (83, ⟨(.struct [(0, 80), (1, 81)]), 2, 48, (.agg #[(.slice none 0 0), (.slice none 0 0)])⟩),
  (85, ⟨(.slice 35), 1, 24, (.slice none 0 0)⟩),
  (89, ⟨(.int .u32), 1, 4, (.int .u32 0)⟩),
  (98, ⟨(.ptr 100), 1, 8, (.pointer none)⟩),
  (99, ⟨(.struct [(0, 98), (1, 43)]), 2, 32, (.agg #[(.pointer none), (.slice none 0 0)])⟩),
  (100, ⟨(.struct [(0, 98), (1, 43)]), 2, 32, (.agg #[(.pointer none), (.slice none 0 0)])⟩),
  (102, ⟨.iface, 1, 16, .nilIface⟩),
  (103, ⟨.iface, 1, 16, .nilIface⟩),
  (107, ⟨(.map 3 4), 1, 8, (.map none)⟩),
  (108, ⟨(.struct [(0, 9), (1, 3), (2, 9)]), 3, 40, (.agg #[(.string ⟨#[]⟩), (.int .i64 0), (.string ⟨#[]⟩)])⟩),
  (109, ⟨(.struct [(0, 9), (1, 3), (2, 9)]), 3, 40, (.agg #[(.string ⟨#[]⟩), (.int .i64 0), (.string ⟨#[]⟩)])⟩),
  (111, ⟨(.map 3 109), 1, 8, (.map none)⟩),
  (120, ⟨(.ptr 122), 1, 8, (.pointer none)⟩),
  (121, ⟨(.struct [(0, 9), (1, 3)]), 2, 24, (.agg #[(.string ⟨#[]⟩), (.int .i64 0)])⟩),
  (122, ⟨(.struct [(0, 9), (1, 3)]), 2, 24, (.agg #[(.string ⟨#[]⟩), (.int .i64 0)])⟩),
  (133, ⟨(.slice 136), 1, 24, (.slice none 0 0)⟩),
  (135, ⟨(.struct [(0, 3), (1, 9), (2, 3), (3, 3)]), 4, 40, (.agg #[(.int .i64 0), (.string ⟨#[]⟩), (.int .i64 0), (.int .i64 0)])⟩),
  (136, ⟨(.struct [(0, 3), (1, 9), (2, 3), (3, 3)]), 4, 40, (.agg #[(.int .i64 0), (.string ⟨#[]⟩), (.int .i64 0), (.int .i64 0)])⟩),
  (139, ⟨(.int .u64), 1, 8, (.int .u64 0)⟩),
  (141, ⟨(.ptr 5), 1, 8, (.pointer none)⟩),
  (144, ⟨(.arr 256 5), 256, 256, (.agg #[(.int .u8 0), (.int .u8 0), (.int .u8 0), (.int .u8 0), (.int .u8 0), (.int .u8 0), (.int .u8 0), (.int .u8 0), (.int .u8 0), (.int .u8 0), (.int .u8 0), (.int .u8 0), (.int .u8 0), (.int .u8 0), (.int .u8 0), (.int .u8 0), (.int .u8 0), (.int .u8 0), (.int .u8 0), (.int .u8 0), (.int .u8 0), (.int .u8 0), (.int .u8 0), (.int .u8 0), (.int .u8 0), (.int .u8 0), (.int .u8 0), (.int .u8 0), (.int .u8 0), (.int .u8 0), (.int .u8 0), (.int .u8 0), (.int .u8 0), (.int .u8 0), (.int .u8 0), (.int .u8 0), (.int .u8 0), (.int .u8 0), (.int .u8 0), (.int .u8 0), (.int .u8 0), (.int .u8 0), (.int .u8 0), (.int .u8 0), (.int .u8 0), (.int .u8 0), (.int .u8 0), (.int .u8 0), (.int .u8 0), (.int .u8 0), (.int .u8 0), (.int .u8 0), (.int .u8 0), (.int .u8 0), (.int .u8 0), (.int .u8 0), (.int .u8 0), (.int .u8 0), (.int .u8 0), (.int .u8 0), (.int .u8 0), (.int .u8 0), (.int .u8 0), (.int .u8 0), (.int .u8 0), (.int .u8 0), (.int .u8 0), (.int .u8 0), (.int .u8 0), (.int .u8 0), (.int .u8 0), (.int .u8 0), (.int .u8 0), (.int .u8 0), (.int .u8 0), (.int .u8 0), (.int .u8 0), (.int .u8 0), (.int .u8 0), (.int .u8 0), (.int .u8 0), (.int .u8 0), (.int .u8 0), (.int .u8 0), (.int .u8 0), (.int .u8 0), (.int .u8 0), (.int .u8 0), (.int .u8 0), (.int .u8 0), (.int .u8 0), (.int .u8 0), (.int .u8 0), (.int .u8 0), (.int .u8 0), (.int .u8 0), (.int .u8 0), (.int .u8 0), (.int .u8 0), (.int .u8 0), (.int .u8 0), (.int .u8 0), (.int .u8 0), (.int .u8 0), (.int .u8 0), (.int .u8 0), (.int .u8 0), (.int .u8 0), (.int .u8 0), (.int .u8 0), (.int .u8 0), (.int .u8 0), (.int .u8 0), (.int .u8 0), (.int .u8 0), (.int .u8 0), (.int .u8 0), (.int .u8 0), (.int .u8 0), (.int .u8 0), (.int .u8 0), (.int .u8 0), (.int .u8 0), (.int .u8 0), (.int .u8 0), (.int .u8 0), (.int .u8 0), (.int .u8 0), (.int .u8 0), (.int .u8 0), (.int .u8 0), (.int .u8 0), (.int .u8 0), (.int .u8 0), (.int .u8 0), (.int .u8 0), (.int .u8 0), (.int .u8 0), (.int .u8 0), (.int .u8 0), (.int .u8 0), (.int .u8 0), (.int .u8 0), (.int .u8 0), (.int .u8 0), (.int .u8 0), (.int .u8 0), (.int .u8 0), (.int .u8 0), (.int .u8 0), (.int .u8 0), (.int .u8 0), (.int .u8 0), (.int .u8 0), (.int .u8 0), (.int .u8 0), (.int .u8 0), (.int .u8 0), (.int .u8 0), (.int .u8 0), (.int .u8 0), (.int .u8 0), (.int .u8 0), (.int .u8 0), (.int .u8 0), (.int .u8 0), (.int .u8 0), (.int .u8 0), (.int .u8 0), (.int .u8 0), (.int .u8 0), (.int .u8 0), (.int .u8 0), (.int .u8 0), (.int .u8 0), (.int .u8 0), (.int .u8 0), (.int .u8 0), (.int .u8 0), (.int .u8 0), (.int .u8 0), (.int .u8 0), (.int .u8 0), (.int .u8 0), (.int .u8 0), (.int .u8 0), (.int .u8 0), (.int .u8 0), (.int .u8 0), (.int .u8 0), (.int .u8 0), (.int .u8 0), (.int .u8 0), (.int .u8 0), (.int .u8 0), (.int .u8 0), (.int .u8 0), (.int .u8 0), (.int .u8 0), (.int .u8 0), (.int .u8 0), (.int .u8 0), (.int .u8 0), (.int .u8 0), (.int .u8 0), (.int .u8 0), (.int .u8 0), (.int .u8 0), (.int .u8 0), (.int .u8 0), (.int .u8 0), (.int .u8 0), (.int .u8 0), (.int .u8 0), (.int .u8 0), (.int .u8 0), (.int .u8 0), (.int .u8 0), (.int .u8 0), (.int .u8 0), (.int .u8 0), (.int .u8 0), (.int .u8 0), (.int .u8 0), (.int .u8 0), (.int .u8 0), (.int .u8 0), (.int .u8 0), (.int .u8 0), (.int .u8 0), (.int .u8 0), (.int .u8 0), (.int .u8 0), (.int .u8 0), (.int .u8 0), (.int .u8 0), (.int .u8 0), (.int .u8 0), (.int .u8 0), (.int .u8 0), (.int .u8 0), (.int .u8 0), (.int .u8 0), (.int .u8 0), (.int .u8 0), (.int .u8 0), (.int .u8 0), (.int .u8 0), (.int .u8 0), (.int .u8 0), (.int .u8 0), (.int .u8 0), (.int .u8 0), (.int .u8 0), (.int .u8 0), (.int .u8 0)])⟩),
  (145, ⟨(.int .u64), 1, 8, (.int .u64 0)⟩),
  (156, ⟨(.ptr 171), 1, 8, (.pointer none)⟩),
  (163, ⟨(.arr 24 5), 24, 24, (.agg #[(.int .u8 0), (.int .u8 0), (.int .u8 0), (.int .u8 0), (.int .u8 0), (.int .u8 0), (.int .u8 0), (.int .u8 0), (.int .u8 0), (.int .u8 0), (.int .u8 0), (.int .u8 0), (.int .u8 0), (.int .u8 0), (.int .u8 0), (.int .u8 0), (.int .u8 0), (.int .u8 0), (.int .u8 0), (.int .u8 0), (.int .u8 0), (.int .u8 0), (.int .u8 0), (.int .u8 0)])⟩),
  (168, ⟨(.slice 174), 1, 24, (.slice none 0 0)⟩),
  (169, ⟨(.slice 177), 1, 24, (.slice none 0 0)⟩),
  (170, ⟨(.struct [(0, 168), (1, 169), (2, 3)]), 3, 56, (.agg #[(.slice none 0 0), (.slice none 0 0), (.int .i64 0)])⟩),
  (171, ⟨(.struct [(0, 168), (1, 169), (2, 3)]), 3, 56, (.agg #[(.slice none 0 0), (.slice none 0 0), (.int .i64 0)])⟩),
  (172, ⟨(.int .u16), 1, 2, (.int .u16 0)⟩),
  (173, ⟨(.struct [(0, 172), (1, 172), (2, 172)]), 3, 6, (.agg #[(.int .u16 0), (.int .u16 0), (.int .u16 0)])⟩),
  (174, ⟨(.struct [(0, 172), (1, 172), (2, 172)]), 3, 6, (.agg #[(.int .u16 0), (.int .u16 0), (.int .u16 0)])⟩),
  (176, ⟨(.struct [(0, 89), (1, 89), (2, 89)]), 3, 12, (.agg #[(.int .u32 0), (.int .u32 0), (.int .u32 0)])⟩),
  (177, ⟨(.struct [(0, 89), (1, 89), (2, 89)]), 3, 12, (.agg #[(.int .u32 0), (.int .u32 0), (.int .u32 0)])⟩),
  (180, ⟨(.int .i64), 1, 8, (.int .i64 0)⟩),
  (181, ⟨(.ptr 199), 1, 8, (.pointer none)⟩),
  (187, ⟨(.arr 20 145), 20, 160, (.agg #[(.int .u64 0), (.int .u64 0), (.int .u64 0), (.int .u64 0), (.int .u64 0), (.int .u64 0), (.int .u64 0), (.int .u64 0), (.int .u64 0), (.int .u64 0), (.int .u64 0), (.int .u64 0), (.int .u64 0), (.int .u64 0), (.int .u64 0), (.int .u64 0), (.int .u64 0), (.int .u64 0), (.int .u64 0), (.int .u64 0)])⟩),
  (188, ⟨(.arr 65 5), 65, 65, (.agg #[(.int .u8 0), (.int .u8 0), (.int .u8 0), (.int .u8 0), (.int .u8 0), (.int .u8 0), (.int .u8 0), (.int .u8 0), (.int .u8 0), (.int .u8 0), (.int .u8 0), (.int .u8 0), (.int .u8 0), (.int .u8 0), (.int .u8 0), (.int .u8 0), (.int .u8 0), (.int .u8 0), (.int .u8 0), (.int .u8 0), (.int .u8 0), (.int .u8 0), (.int .u8 0), (.int .u8 0), (.int .u8 0), (.int .u8 0), (.int .u8 0), (.int .u8 0), (.int .u8 0), (.int .u8 0), (.int .u8 0), (.int .u8 0), (.int .u8 0), (.int .u8 0), (.int .u8 0), (.int .u8 0), (.int .u8 0), (.int .u8 0), (.int .u8 0), (.int .u8 0), (.int .u8 0), (.int .u8 0), (.int .u8 0), (.int .u8 0), (.int .u8 0), (.int .u8 0), (.int .u8 0), (.int .u8 0), (.int .u8 0), (.int .u8 0), (.int .u8 0), (.int .u8 0), (.int .u8 0), (.int .u8 0), (.int .u8 0), (.int .u8 0), (.int .u8 0), (.int .u8 0), (.int .u8 0), (.int .u8 0), (.int .u8 0), (.int .u8 0), (.int .u8 0), (.int .u8 0), (.int .u8 0)])⟩),
  (191, ⟨(.ptr 174), 1, 8, (.pointer none)⟩),
  (192, ⟨(.ptr 177), 1, 8, (.pointer none)⟩),
  (193, ⟨(.struct [(0, 5), (1, 5)]), 2, 2, (.agg #[(.int .u8 0), (.int .u8 0)])⟩),
  (194, ⟨(.struct [(0, 5), (1, 5)]), 2, 2, (.agg #[(.int .u8 0), (.int .u8 0)])⟩),
  (195, ⟨(.arr 16 194), 32, 32, (.agg #[(.int .u8 0), (.int .u8 0), (.int .u8 0), (.int .u8 0), (.int .u8 0), (.int .u8 0), (.int .u8 0), (.int .u8 0), (.int .u8 0), (.int .u8 0), (.int .u8 0), (.int .u8 0), (.int .u8 0), (.int .u8 0), (.int .u8 0), (.int .u8 0), (.int .u8 0), (.int .u8 0), (.int .u8 0), (.int .u8 0), (.int .u8 0), (.int .u8 0), (.int .u8 0), (.int .u8 0), (.int .u8 0), (.int .u8 0), (.int .u8 0), (.int .u8 0), (.int .u8 0), (.int .u8 0), (.int .u8 0), (.int .u8 0)])⟩),
  (198, ⟨(.struct [(0, 9), (1, 9), (2, 103)]), 3, 48, (.agg #[(.string ⟨#[]⟩), (.string ⟨#[]⟩), .nilIface])⟩),
  (199, ⟨(.struct [(0, 9), (1, 9), (2, 103)]), 3, 48, (.agg #[(.string ⟨#[]⟩), (.string ⟨#[]⟩), .nilIface])⟩),
  (202, ⟨(.ptr 204), 1, 8, (.pointer none)⟩),
  (203, ⟨(.struct [(0, 9)]), 1, 16, (.agg #[(.string ⟨#[]⟩)])⟩),
  (204, ⟨(.struct [(0, 9)]), 1, 16, (.agg #[(.string ⟨#[]⟩)])⟩),
  (205, ⟨(.arr 32 5), 32, 32, (.agg #[(.int .u8 0), (.int .u8 0), (.int .u8 0), (.int .u8 0), (.int .u8 0), (.int .u8 0), (.int .u8 0), (.int .u8 0), (.int .u8 0), (.int .u8 0), (.int .u8 0), (.int .u8 0), (.int .u8 0), (.int .u8 0), (.int .u8 0), (.int .u8 0), (.int .u8 0), (.int .u8 0), (.int .u8 0), (.int .u8 0), (.int .u8 0), (.int .u8 0), (.int .u8 0), (.int .u8 0), (.int .u8 0), (.int .u8 0), (.int .u8 0), (.int .u8 0), (.int .u8 0), (.int .u8 0), (.int .u8 0), (.int .u8 0)])⟩),
  (206, ⟨(.arr 64 5), 64, 64, (.agg #[(.int .u8 0), (.int .u8 0), (.int .u8 0), (.int .u8 0), (.int .u8 0), (.int .u8 0), (.int .u8 0), (.int .u8 0), (.int .u8 0), (.int .u8 0), (.int .u8 0), (.int .u8 0), (.int .u8 0), (.int .u8 0), (.int .u8 0), (.int .u8 0), (.int .u8 0), (.int .u8 0), (.int .u8 0), (.int .u8 0), (.int .u8 0), (.int .u8 0), (.int .u8 0), (.int .u8 0), (.int .u8 0), (.int .u8 0), (.int .u8 0), (.int .u8 0), (.int .u8 0), (.int .u8 0), (.int .u8 0), (.int .u8 0), (.int .u8 0), (.int .u8 0), (.int .u8 0), (.int .u8 0), (.int .u8 0), (.int .u8 0), (.int .u8 0), (.int .u8 0), (.int .u8 0), (.int .u8 0), (.int .u8 0), (.int .u8 0), (.int .u8 0), (.int .u8 0), (.int .u8 0), (.int .u8 0), (.int .u8 0), (.int .u8 0), (.int .u8 0), (.int .u8 0), (.int .u8 0), (.int .u8 0), (.int .u8 0), (.int .u8 0), (.int .u8 0), (.int .u8 0), (.int .u8 0), (.int .u8 0), (.int .u8 0), (.int .u8 0), (.int .u8 0), (.int .u8 0)])⟩)]
theorem tabOk : TabOk Tryd.prog tab :=
  .cons tk3 <| .cons tk4 <| .cons tk5 <| .cons tk9 <| .cons tk43 <| .cons tk2 <| .cons tk12 <| .cons tk20 <| .cons tk21 <| .cons tk22 <| .cons tk23 <| .cons tk25 <| .cons tk26 <| .cons tk27 <| .cons tk28 <| .cons tk34 <| .cons tk35 <| .cons tk40 <| .cons tk44 <| .cons tk45 <| .cons tk55 <| .cons tk56 <| .cons tk57 <| .cons tk63 <| .cons tk64 <| .cons tk66 <| .cons tk67 <| .cons tk70 <| .cons tk71 <| .cons tk72 <| .cons tk78 <| .cons tk80 <| .cons tk81 <| .cons tk82 <| .cons tk83 <| .cons tk85 <| .cons tk89 <| .cons tk98 <| .cons tk99 <| .cons tk100 <| .cons tk102 <| .cons tk103 <| .cons tk107 <| .cons tk108 <| .cons tk109 <| .cons tk111 <| .cons tk120 <| .cons tk121 <| .cons tk122 <| .cons tk133 <| .cons tk135 <| .cons tk136 <| .cons tk139 <| .cons tk141 <| .cons tk144 <| .cons tk145 <| .cons tk156 <| .cons tk163 <| .cons tk168 <| .cons tk169 <| .cons tk170 <| .cons tk171 <| .cons tk172 <| .cons tk173 <| .cons tk174 <| .cons tk176 <| .cons tk177 <| .cons tk180 <| .cons tk181 <| .cons tk187 <| .cons tk188 <| .cons tk191 <| .cons tk192 <| .cons tk193 <| .cons tk194 <| .cons tk195 <| .cons tk198 <| .cons tk199 <| .cons tk202 <| .cons tk203 <| .cons tk204 <| .cons tk205 <| .cons tk206 <| .nil _
theorem mixed : Tryd.prog.follows .mixedOrders = true := by kernel_rfl
theorem vcOk {n : Nat} {E : Entry} (c : Code) {Q : Ex → List (Nat × D) → List Ob → Prop} {σ : List (Nat × D)} {L : List Ob} (h : vcK Tryd.prog tab n E c Q σ L) : AWP Tryd.prog n E c Q σ L := awp_vc tabOk mixed c h

abbrev n_gosem_cut_init : Nat := 2
abbrev n_pllaw3_ExprPrint : Nat := 3
abbrev n_pllaw3_ExprMoves : Nat := 4
abbrev n_pllaw8_DisTells : Nat := 5
abbrev n_pllaw2_ScanTells : Nat := 6
abbrev n_pllaw2_ScanPrint : Nat := 7
abbrev n_pllaw2_ScanLines : Nat := 8
abbrev n_pllaw3_alive : Nat := 9
abbrev n_expr_Parse : Nat := 10
abbrev n_plref1_Tokens : Nat := 11
abbrev n_expr_Print : Nat := 12
abbrev n_expr_Eval : Nat := 13
abbrev n_plref1_SameExpr : Nat := 14
abbrev n_plref1_Signed : Nat := 15
abbrev n_dis_Text : Nat := 16
abbrev n_plref6_Text : Nat := 17
abbrev n_plref1_Wrong : Nat := 18
abbrev n_dis_To : Nat := 19
abbrev n_plref6_To : Nat := 20
abbrev n_dis_Line : Nat := 21
abbrev n_plref6_Line : Nat := 22
abbrev n_scan_Tokens : Nat := 23
abbrev n_plref1_SameTokens : Nat := 24
abbrev n_scan_Name : Nat := 25
abbrev n_plref1_Name : Nat := 26
abbrev n_scan_Print : Nat := 27
abbrev n_plref1_Print : Nat := 28
abbrev n_scan_Lines : Nat := 29
abbrev n_plref1_Lines : Nat := 30
abbrev n_plref1_SameLines : Nat := 31
abbrev n_scan_Own : Nat := 32
abbrev n_pllaw2_alive : Nat := 33
abbrev n_pllaw3_num : Nat := 34
abbrev n_pllaw3_sign : Nat := 35
abbrev n_expr_reader_at : Nat := 36
abbrev n_plref1_kind : Nat := 37
abbrev n_plref1_number : Nat := 38
abbrev n_plref1_Has : Nat := 39
abbrev n_strconv_Itoa : Nat := 40
abbrev n_expr_levels : Nat := 41
abbrev n_slices_Index_int_int : Nat := 42
abbrev n_isa_Signed : Nat := 43
abbrev n_slices_IndexFunc_api_Equ_api_Equ : Nat := 44
abbrev n_expr_Eval_1 : Nat := 45
abbrev n_expr_two : Nat := 46
abbrev n_dis_Text_1 : Nat := 47
abbrev n_isa_Decode : Nat := 48
abbrev n_isa_Get : Nat := 49
abbrev n_dis_fine : Nat := 50
abbrev n_isa_Encode : Nat := 51
abbrev n_slices_Contains_int_int : Nat := 52
abbrev n_strings_Builder_WriteString : Nat := 53
abbrev n_dis_name : Nat := 54
abbrev n_strings_Builder_String : Nat := 55
abbrev n_plref1_Decode : Nat := 56
abbrev n_plref6_hex : Nat := 57
abbrev n_plref1_Rows : Nat := 58
abbrev n_plref1_Range : Nat := 59
abbrev n_isa_Info : Nat := 60
abbrev n_strings_TrimSpace : Nat := 61
abbrev n_strings_Cut : Nat := 62
abbrev n_scan_reader_run : Nat := 63
abbrev n_scan_Tokens_1 : Nat := 64
abbrev n_scan_letter : Nat := 65
abbrev n_scan_Tokens_2 : Nat := 66
abbrev n_scan_digit : Nat := 67
abbrev n_scan_reader_number : Nat := 68
abbrev n_scan_reader_sign : Nat := 69
abbrev n_strings_Join : Nat := 70
abbrev n_strings_Split : Nat := 71
abbrev n_expr_reader_one : Nat := 72
abbrev n_expr_reader_sign : Nat := 73
abbrev n_internal_strconv_Itoa : Nat := 74
abbrev n_isa_signed : Nat := 75
abbrev n_expr_number : Nat := 76
abbrev n_isa_rows : Nat := 77
abbrev n_isa_mask : Nat := 78
abbrev n_isa_uses : Nat := 79
abbrev n_isa_Wrong : Nat := 80
abbrev n_strings_Builder_copyCheck : Nat := 81
abbrev n_strconv_FormatInt : Nat := 82
abbrev n_strings_TrimFunc : Nat := 83
abbrev n_unicode_IsSpace : Nat := 84
abbrev n_strings_TrimRightFunc : Nat := 85
abbrev n_internal_stringslite_Cut : Nat := 86
abbrev n_scan_reader_number_1 : Nat := 87
abbrev n_strconv_ParseUint : Nat := 88
abbrev n_strings_Contains : Nat := 89
abbrev n_strings_HasPrefix : Nat := 90
abbrev n_strings_Builder_Grow : Nat := 91
abbrev n_strings_genSplit : Nat := 92
abbrev n_expr_reader_fail : Nat := 93
abbrev n_slices_Index_string_string : Nat := 94
abbrev n_internal_strconv_FormatInt : Nat := 95
abbrev n_isa_Range : Nat := 96
abbrev n_strings_TrimLeftFunc : Nat := 98
abbrev n_unicode_isExcludingLatin : Nat := 99
abbrev n_strings_lastIndexFunc : Nat := 100
abbrev n_unicode_utf8_DecodeRuneInString : Nat := 101
abbrev n_internal_stringslite_Index : Nat := 102
abbrev n_internal_strconv_ParseUint : Nat := 103
abbrev n_strconv_toError : Nat := 104
abbrev n_strings_Index : Nat := 105
abbrev n_internal_stringslite_HasPrefix : Nat := 106
abbrev n_strings_Builder_grow : Nat := 107
abbrev n_strings_explode : Nat := 108
abbrev n_strings_Count : Nat := 109
abbrev n_internal_strconv_small : Nat := 110
abbrev n_internal_strconv_numDigits : Nat := 111
abbrev n_internal_strconv_formatBase10 : Nat := 112
abbrev n_internal_strconv_formatBits : Nat := 113
abbrev n_strings_indexFunc : Nat := 114
abbrev n_unicode_is16 : Nat := 115
abbrev n_unicode_is32 : Nat := 116
abbrev n_unicode_utf8_DecodeLastRuneInString : Nat := 117
abbrev n_unicode_utf8_decodeRuneInStringSlow : Nat := 118
abbrev n_internal_stringslite_IndexByte : Nat := 119
abbrev n_internal_bytealg_Cutover : Nat := 121
abbrev n_internal_bytealg_IndexRabinKarp_string : Nat := 122
abbrev n_internal_strconv_lower : Nat := 123
abbrev n_internal_strconv_underscoreOK : Nat := 124
abbrev n_strconv_syntaxError : Nat := 125
abbrev n_strconv_rangeError : Nat := 126
abbrev n_strconv_baseError : Nat := 127
abbrev n_strconv_bitSizeError : Nat := 128
abbrev n_unicode_utf8_RuneCountInString : Nat := 130
abbrev n_internal_strconv_log10Pow2 : Nat := 132
abbrev n_math_bits_Len64 : Nat := 133
abbrev n_internal_strconv_bool2_int : Nat := 134
abbrev n_internal_strconv_isPowerOfTwo : Nat := 135
abbrev n_math_bits_TrailingZeros : Nat := 136
abbrev n_unicode_utf8_RuneStart : Nat := 137
abbrev n_internal_bytealg_hashStr_string : Nat := 139
abbrev n_internal_stringslite_Clone : Nat := 140
abbrev n_errors_New : Nat := 141
abbrev n_math_bits_TrailingZeros32 : Nat := 142
abbrev n_math_bits_TrailingZeros64 : Nat := 143
abbrev n_gosem_cut_vars : Nat := 178

end Go.Proofs.YtdhpodgaeholmaaDoor

namespace Go.Proofs.YtdhpodgaeholmaaDoor
open Go Go.Plat
set_option linter.unusedVariables false
set_option linter.unusedSimpArgs false
set_option maxRecDepth 100000
set_option maxHeartbeats 2000000
attribute [local irreducible] NilS LookS NormM bitI BytesS NormL Arith QuoS RemS ShlS ShrS BitS CatS SplitS SideS IdxS CallS LoopEnd EndS ModeS DrawS AWP Meets

def letterB (c : UInt8) : Bool := decide (97 ≤ c.toNat ∧ c.toNat ≤ 122 ∨ 65 ≤ c.toNat ∧ c.toNat ≤ 90 ∨ c.toNat = 95 ∨ c.toNat = 46)
def digitB (c : UInt8) : Bool := decide (48 ≤ c.toNat ∧ c.toNat ≤ 57)
def kindB (c : UInt8) : Int := if letterB c = true then 97 else if digitB c = true then 48 else if c.toNat = 32 ∨ c.toNat = 9 ∨ c.toNat = 13 then 32 else 0
theorem letter_meets : Meets Tryd.prog n_scan_letter (SpecP (fun _ : UInt8 => True) (fun c => [byteD c]) fun c => .bool (letterB c)) := by
  refine meets_f tabOk Tryd.func65 rfl (by decide) fun c _ => ?_
  refine ⟨Nat.le_refl _, by simp [Tryd.f65], fun E hE => ?_⟩
  refine vcOk _ ?_
  (all_goals refine qgo ?_ <;> (repeat' first | exact trivial | intro hc | refine And.intro ?_ ?_) <;> refine Lf.mk ?_)
  all_goals first
    | (refine end_p (VS.mk (LeD.tt ?_)); unfold letterB; rw [decide_eq_true_eq]; omega)
    | (refine end_p (VS.mk (LeD.ff ?_)); unfold letterB; rw [decide_eq_false_iff_not]; omega)
    | (refine end_p (VS.mk (LeD.of_eq (congrArg D.bool ?_))); unfold letterB; rw [Bool.eq_iff_iff]; simp only [beq_iff_eq, decide_eq_true_eq]; omega)
theorem digit_meets : Meets Tryd.prog n_scan_digit (SpecP (fun _ : UInt8 => True) (fun c => [byteD c]) fun c => .bool (digitB c)) := by
  refine meets_f tabOk Tryd.func67 rfl (by decide) fun c _ => ?_
  refine ⟨Nat.le_refl _, by simp [Tryd.f67], fun E hE => ?_⟩
  refine vcOk _ ?_
  (all_goals refine qgo ?_ <;> (repeat' first | exact trivial | intro hc | refine And.intro ?_ ?_) <;> refine Lf.mk ?_)
  all_goals first
    | (refine end_p (VS.mk (LeD.tt ?_)); unfold digitB; rw [decide_eq_true_eq]; omega)
    | (refine end_p (VS.mk (LeD.ff ?_)); unfold digitB; rw [decide_eq_false_iff_not]; omega)
    | (refine end_p (VS.mk (LeD.of_eq (congrArg D.bool ?_))); unfold digitB; rw [Bool.eq_iff_iff]; simp only [beq_iff_eq, decide_eq_true_eq]; omega)
theorem kind_meets : Meets Tryd.prog n_plref1_kind (SpecP (fun _ : UInt8 => True) (fun c => [byteD c]) fun c => .int .u8 (kindB c)) := by
  refine meets_f tabOk Tryd.func37 rfl (by decide) fun c _ => ?_
  refine ⟨Nat.le_refl _, by simp [Tryd.f37], fun E hE => ?_⟩
  refine vcOk _ ?_
  (all_goals refine qgo ?_ <;> (repeat' first | exact trivial | intro hc | refine And.intro ?_ ?_) <;> refine Lf.mk ?_)
  all_goals
    refine end_p (VS.mk (LeD.of_eq (congrArg (D.int .u8) ?_)))
    unfold kindB letterB digitB
    simp only [decide_eq_true_eq]
    (repeat' split) <;> omega

def nameB (s : List UInt8) : Bool := decide (1 ≤ s.length ∧ s.length ≤ 10) && letterB (s.getD 0 0) && s.all fun c => (letterB c || digitB c) && !(c == 46)
def okC (c : UInt8) : Bool := (letterB c || digitB c) && !(c == 46)
attribute [local irreducible] letterB digitB kindB

theorem all_take {p : UInt8 → Bool} {s : List UInt8} {k : Nat} (hk : k < s.length) : (s.take (k + 1)).all p = ((s.take k).all p && p (s.getD k 0)) := by
  rw [List.take_succ_eq_append_getElem hk, List.all_append]
  simp [List.getD_eq_getElem?_getD, List.getElem?_eq_getElem hk]
theorem all_stop {p : UInt8 → Bool} {s : List UInt8} {k : Nat} (hk : k < s.length) (h : p (s.getD k 0) = false) : s.all p = false := by
  rw [← List.take_append_drop k s, List.all_append, List.drop_eq_getElem_cons hk]
  have : s.getD k 0 = s[k] := by simp [List.getD_eq_getElem?_getD, List.getElem?_eq_getElem hk]
  rw [this] at h
  rw [List.all_cons, h, Bool.false_and, Bool.and_false]

theorem name_any : Meets Tryd.prog n_scan_Name (SpecP (fun _ : List UInt8 => True) (fun s => [.str s]) fun s => .bool (nameB s)) := by
  refine meets_f tabOk Tryd.func25 rfl (by decide) fun s _ => ?_
  refine ⟨Nat.le_refl _, by simp [Tryd.f25], fun E hE => ?_⟩
  refine vcOk _ ?_
  (all_goals refine qgo ?_ <;> (repeat' first | exact trivial | intro hc | refine And.intro ?_ ?_) <;> refine Lf.mk ?_)
  · refine end_p (VS.mk (LeD.ff ?_))
    unfold nameB
    rw [decide_eq_false (by omega)]
    rfl
  · refine end_p (VS.mk (LeD.ff ?_))
    unfold nameB
    rw [decide_eq_false (by omega)]
    rfl
  · refine end_p (VS.mk (LeD.ff ?_))
    have e : okC (s.getD 0 0) = false := by
      have : s.getD 0 0 = 46 := UInt8.toNat_inj.1 (by exact_mod_cast hc)
      rw [this]
      unfold okC
      rw [Bool.and_eq_false_iff]
      exact .inr rfl
    have h2 : s.all okC = false := all_stop (k := 0) (by omega) e
    show (_ && _ && s.all okC) = false
    rw [h2, Bool.and_false]
  refine call_p letter_meets (s.getD 0 0) trivial (VS.mk (LeL.of_eq rfl)) ?_
  (all_goals refine qgo ?_ <;> (repeat' first | exact trivial | intro hc | refine And.intro ?_ ?_) <;> refine Lf.mk ?_)
  · refine end_p (VS.mk (LeD.ff ?_))
    show (_ && letterB (s.getD 0 0) && _) = false
    rw [hc, Bool.and_false, Bool.false_and]
  have hl0 : letterB (s.getD 0 0) = true := by assumption
  refine awp_loop (α := Nat) (fun k => k ≤ s.length ∧ (s.take k).all okC = true) (fun k => [(0, .str s), (24, .int .i64 s.length), (25, .int .i64 k)]) (fun _ => []) (fun k => s.length - k) (fun _ => by simp [hE]) 0 ⟨Nat.zero_le _, by simp⟩ ?_ ?_
  · (repeat' (first | (refine VS.mk ?_) | exact trivial | exact rfl | refine And.intro ?_ ?_))
  rintro k ⟨hk, hall⟩
  refine vcOk _ ?_
  (all_goals refine qgo ?_ <;> (repeat' first | exact trivial | intro hc | refine And.intro ?_ ?_) <;> refine Lf.mk ?_)
  · have hidx : ((k : Int)).toNat = k := Int.toNat_natCast k
    have hk' : k < s.length := by omega
    have hst := all_take (p := okC) hk'
    have hsp := all_stop (p := okC) hk'
    have hok : okC (s.getD k 0) = ((letterB (s.getD k 0) || digitB (s.getD k 0)) && !(s.getD k 0 == 46)) := rfl
    have h46 : (((s.getD k 0).toNat : Nat) : Int) = 46 → okC (s.getD k 0) = false := fun h => by
      have : s.getD k 0 = 46 := UInt8.toNat_inj.1 (by exact_mod_cast h)
      rw [hok, this]
      rw [Bool.and_eq_false_iff]
      exact .inr rfl
    have n46 : ¬ (((s.getD k 0).toNat : Nat) : Int) = 46 → (s.getD k 0 == 46) = false := fun h => beq_eq_false_iff_ne.2 fun e => h (by rw [e]; rfl)
    have bad : okC (s.getD k 0) = false → nameB s = false := fun h => by
      show (_ && letterB (s.getD 0 0) && s.all okC) = false
      rw [hsp h, Bool.and_false]
    refine call_p letter_meets (s.getD k 0) trivial (VS.mk (LeL.of_eq (by rw [hidx]; rfl))) ?_
    (all_goals refine qgo ?_ <;> (repeat' first | exact trivial | intro hc | refine And.intro ?_ ?_) <;> refine Lf.mk ?_)
    · refine call_p digit_meets (s.getD k 0) trivial (VS.mk (LeL.of_eq (by rw [hidx]; rfl))) ?_
      (all_goals refine qgo ?_ <;> (repeat' first | exact trivial | intro hc | refine And.intro ?_ ?_) <;> refine Lf.mk ?_)
      · refine end_p (VS.mk (LeD.ff (bad ?_)))
        rw [hok, (by assumption : letterB (s.getD k 0) = false), (by assumption : digitB (s.getD k 0) = false)]
        rfl
      · rw [hidx] at hc
        exact end_p (VS.mk (LeD.ff (bad (h46 hc))))
      · rw [hidx] at hc
        refine loop_end (k + 1) ⟨by omega, ?_⟩ (by omega) ?_
        rotate_left
        · rw [hst, hall, hok, (by assumption : digitB (s.getD k 0) = true), n46 hc, Bool.or_true]
          rfl
        · (repeat' (first | (refine VS.mk ?_) | exact trivial | exact rfl | refine And.intro ?_ ?_))
    · rw [hidx] at hc
      exact end_p (VS.mk (LeD.ff (bad (h46 hc))))
    · rw [hidx] at hc
      refine loop_end (k + 1) ⟨by omega, ?_⟩ (by omega) ?_
      rotate_left
      · rw [hst, hall, hok, (by assumption : letterB (s.getD k 0) = true), n46 hc]
        rfl
      · (repeat' (first | (refine VS.mk ?_) | exact trivial | exact rfl | refine And.intro ?_ ?_))
  · refine end_p (VS.mk (LeD.tt ?_))
    rw [List.take_of_length_le (by omega)] at hall
    show (_ && letterB (s.getD 0 0) && s.all okC) = true
    rw [hl0, hall, decide_eq_true (by omega)]
    rfl
theorem meets_sub {P : Program} {f : Nat} {α : Type} {I J : α → Prop} {A : α → List D} {R : α → D} (h : Meets P f (SpecP I A R)) (hJ : ∀ p, J p → I p) : Meets P f (SpecP J A R) :=
  by
  unfold Meets at h ⊢
  exact ⟨h.1, fun av L d M ⟨p, hp, hr⟩ => h.2 av L d M ⟨p, hJ p hp, hr⟩⟩
theorem name_meets : Meets Tryd.prog n_scan_Name (SpecP (fun s : List UInt8 => s.length ≤ 1000000000) (fun s => [.str s]) fun s => .bool (nameB s)) := meets_sub name_any fun _ _ => trivial
end Go.Proofs.YtdhpodgaeholmaaDoor

namespace Go.Proofs.YtdhpodgaeholmaaDoor
open Go Go.Plat
set_option linter.unusedVariables false
set_option linter.unusedSimpArgs false
set_option maxRecDepth 100000
set_option maxHeartbeats 2000000
attribute [local irreducible] NilS LookS NormM bitI BytesS NormL Arith QuoS RemS ShlS ShrS BitS CatS SplitS SideS IdxS CallS LoopEnd EndS ModeS DrawS AWP Meets
theorem kind_letter {c : UInt8} (h : kindB c = 97) : letterB c = true := by
  unfold kindB at h
  split at h
  · assumption
  split at h
  · cases h
  split at h <;> cases h
theorem kind_digit {c : UInt8} (h : kindB c = 48) : digitB c = true := by
  unfold kindB at h
  split at h
  · cases h
  split at h
  · assumption
  split at h <;> cases h
theorem kind_else {c : UInt8} (h : ¬ kindB c = 97) : letterB c = false := by
  unfold kindB at h
  split at h
  · exact (h rfl).elim
  · simpa using ‹¬ letterB c = true›
theorem kind_none {c : UInt8} (h : ¬ kindB c = 97) (h2 : ¬ kindB c = 48) : okC c = false := by
  have hl := kind_else h
  have hd : digitB c = false := by
    unfold kindB at h2
    rw [hl, if_neg (by decide)] at h2
    split at h2
    · exact (h2 rfl).elim
    · simpa using ‹¬ digitB c = true›
  unfold okC
  rw [hl, hd]
  rfl
theorem ok46 {c : UInt8} (h : ((c.toNat : Nat) : Int) = 46) : okC c = false := by
  have : c = 46 := UInt8.toNat_inj.1 (by exact_mod_cast h)
  subst this
  rfl
theorem okL {c : UInt8} (h : ¬ ((c.toNat : Nat) : Int) = 46) (h2 : letterB c = true ∨ digitB c = true) : okC c = true := by
  have n46 : (c == 46) = false := beq_eq_false_iff_ne.2 fun e => h (by rw [e]; rfl)
  unfold okC
  rw [n46]
  rcases h2 with h | h <;> rw [h] <;> simp
theorem nameB_bad {s : List UInt8} (h : s.all okC = false) : nameB s = false := by
  show (_ && letterB (s.getD 0 0) && s.all okC) = false
  rw [h, Bool.and_false]
theorem nameB_good {s : List UInt8} (h1 : 1 ≤ s.length ∧ s.length ≤ 10) (h2 : letterB (s.getD 0 0) = true) (h : s.all okC = true) : nameB s = true := by
  show (_ && letterB (s.getD 0 0) && s.all okC) = true
  rw [h, h2, decide_eq_true h1]
  rfl
attribute [local irreducible] letterB digitB kindB okC

theorem rname_any : Meets Tryd.prog n_plref1_Name (SpecP (fun _ : List UInt8 => True) (fun s => [.str s]) fun s => .bool (nameB s)) := by
  refine meets_f tabOk Tryd.func26 rfl (by decide) fun s _ => ?_
  refine ⟨Nat.le_refl _, by simp [Tryd.f26], fun E hE => ?_⟩
  refine vcOk _ ?_
  (all_goals refine qgo ?_ <;> (repeat' first | exact trivial | intro hc | refine And.intro ?_ ?_) <;> refine Lf.mk ?_)
  · subst hc
    exact end_p (VS.mk (LeD.ff rfl))
  · refine end_p (VS.mk (LeD.ff ?_))
    unfold nameB
    rw [decide_eq_false (by omega)]
    rfl
  have hne : 0 < s.length := by
    cases s with
    | nil => exact (‹¬ ([] : List UInt8) = []› rfl).elim
    | cons a l => simp
  refine sd_mk ⟨by omega, by omega⟩ ?_
  (all_goals refine qgo ?_ <;> (repeat' first | exact trivial | intro hc | refine And.intro ?_ ?_) <;> refine Lf.mk ?_)
  refine call_p kind_meets (s.getD 0 0) trivial (VS.mk (LeL.of_eq rfl)) ?_
  (all_goals refine qgo ?_ <;> (repeat' first | exact trivial | intro hc | refine And.intro ?_ ?_) <;> refine Lf.mk ?_)
  · refine end_p (VS.mk (LeD.ff ?_))
    show (_ && letterB (s.getD 0 0) && _) = false
    rw [kind_else hc, Bool.and_false, Bool.false_and]
  have hl0 : letterB (s.getD 0 0) = true := kind_letter hc
  refine awp_loop (α := Nat) (fun k => k ≤ s.length ∧ (s.take k).all okC = true) (fun k => [(0, .str s), (18, .int .i64 s.length), (19, .int .i64 k)]) (fun _ => []) (fun k => s.length - k) (fun _ => by simp [hE]) 0 ⟨Nat.zero_le _, by simp⟩ ?_ ?_
  · (repeat' (first | (refine VS.mk ?_) | exact trivial | exact rfl | refine And.intro ?_ ?_))
  rintro k ⟨hk, hall⟩
  refine vcOk _ ?_
  (all_goals refine qgo ?_ <;> (repeat' first | exact trivial | intro hc | refine And.intro ?_ ?_) <;> refine Lf.mk ?_)
  · have hsp := all_stop (p := okC) (s := s) (k := k) (by omega)
    rw [Int.toNat_natCast] at hc
    exact end_p (VS.mk (LeD.ff (nameB_bad (hsp (ok46 hc)))))
  · have hidx : ((k : Int)).toNat = k := Int.toNat_natCast k
    have hk' : k < s.length := by omega
    have hst := all_take (p := okC) hk'
    have hsp := all_stop (p := okC) hk'
    have h46 := hc
    rw [hidx] at h46
    refine call_p kind_meets (s.getD k 0) trivial (VS.mk (LeL.of_eq (by rw [hidx]; rfl))) ?_
    (all_goals refine qgo ?_ <;> (repeat' first | exact trivial | intro hc | refine And.intro ?_ ?_) <;> refine Lf.mk ?_)
    · refine call_p kind_meets (s.getD k 0) trivial (VS.mk (LeL.of_eq (by rw [hidx]; rfl))) ?_
      (all_goals refine qgo ?_ <;> (repeat' first | exact trivial | intro hc | refine And.intro ?_ ?_) <;> refine Lf.mk ?_)
      · exact end_p (VS.mk (LeD.ff (nameB_bad (hsp (kind_none (by assumption) hc)))))
      · refine loop_end (k + 1) ⟨by omega, by rw [hst, hall, okL h46 (.inr (kind_digit hc))]; rfl⟩ (by omega) ?_
        (repeat' (first | (refine VS.mk ?_) | exact trivial | exact rfl | refine And.intro ?_ ?_))
    · refine loop_end (k + 1) ⟨by omega, by rw [hst, hall, okL h46 (.inl (kind_letter hc))]; rfl⟩ (by omega) ?_
      (repeat' (first | (refine VS.mk ?_) | exact trivial | exact rfl | refine And.intro ?_ ?_))
  · have hlen : (s.length : Int) ≤ 10 := by omega
    rw [List.take_of_length_le (by omega)] at hall
    exact end_p (VS.mk (LeD.tt (nameB_good ⟨by omega, by omega⟩ hl0 hall)))
theorem rname_meets : Meets Tryd.prog n_plref1_Name (SpecP (fun s : List UInt8 => s.length ≤ 1000000000) (fun s => [.str s]) fun s => .bool (nameB s)) := meets_sub rname_any fun _ _ => trivial
end Go.Proofs.YtdhpodgaeholmaaDoor

/-
  Tokens of a line, as the document has them: what they are.
-/
namespace Go.Proofs.YtdhpodgaeholmaaDoor
open Go Go.Plat
set_option linter.unusedVariables false
set_option linter.unusedSimpArgs false
set_option maxRecDepth 100000
set_option maxHeartbeats 2000000
attribute [local irreducible] NilS LookS NormM bitI BytesS NormL Arith QuoS RemS ShlS ShrS BitS CatS SplitS SideS IdxS CallS LoopEnd EndS ModeS DrawS AWP Meets
attribute [local irreducible] letterB digitB kindB okC

def digV (b : Int) (c : UInt8) : Int :=
  if 48 ≤ c.toNat ∧ c.toNat ≤ 57 then (c.toNat : Int) - 48 else if b = 16 ∧ 97 ≤ c.toNat ∧ c.toNat ≤ 102 then (c.toNat : Int) - 97 + 10
  else if b = 16 ∧ 65 ≤ c.toNat ∧ c.toNat ≤ 70 then (c.toNat : Int) - 65 + 10 else -1
theorem dig_lt (b : Int) (c : UInt8) : -1 ≤ digV b c ∧ digV b c ≤ 15 := by
  unfold digV
  repeat' split
  all_goals omega
def numF (b : Int) : List UInt8 → Int → Option Int
  | [], n => some n
  | c :: r, n => if digV b c < 0 ∨ 4294967295 < n then none else numF b r (n * b + digV b c)
def numFin (ds : List UInt8) : Option Int → Int × Bool
  | none => (0, false)
  | some n => (n, decide (n < 4294967296 ∧ ds ≠ []))
def numRb (b : Int) (ds : List UInt8) : Int × Bool := numFin ds (numF b ds 0)
def numR (w : List UInt8) : Int × Bool := if 2 < w.length ∧ w.take 2 = [48, 120] then numRb 16 (w.drop 2) else numRb 10 w
def numRD (p : Int × Bool) : D := .tup [.int .i64 p.1, .bool p.2]

theorem drop_cons {α : Type} {l : List α} {k : Nat} {d : α} (h : k < l.length) : l.drop k = l.getD k d :: l.drop (k + 1) := by
  rw [List.drop_eq_getElem_cons h, List.getD_eq_getElem?_getD, List.getElem?_eq_getElem h]; rfl
attribute [local irreducible] digV
theorem dig_def (b : Int) (c : UInt8) : (48 ≤ c.toNat ∧ c.toNat ≤ 57 → digV b c = (c.toNat : Int) - 48) ∧ (b = 16 ∧ 97 ≤ c.toNat ∧ c.toNat ≤ 102 → digV b c = (c.toNat : Int) - 87)
    ∧ (b = 16 ∧ 65 ≤ c.toNat ∧ c.toNat ≤ 70 → digV b c = (c.toNat : Int) - 55) ∧ (¬ (48 ≤ c.toNat ∧ c.toNat ≤ 57) ∧ ¬ (b = 16 ∧ 97 ≤ c.toNat ∧ c.toNat ≤ 102) ∧ ¬ (b = 16 ∧ 65 ≤ c.toNat ∧ c.toNat ≤ 70) → digV b c = -1) := by
  unfold digV
  refine ⟨fun h => by rw [if_pos h], fun h => by rw [if_neg (by omega), if_pos h]; omega, fun h => by rw [if_neg (by omega), if_neg (by omega), if_pos h]; omega, fun h => by rw [if_neg h.1, if_neg h.2.1, if_neg h.2.2]⟩
theorem fin_ok {n : Int} {ds : List UInt8} (h : n < 4294967296) : (!(ds == [])) = decide (n < 4294967296 ∧ ds ≠ []) := by
  cases ds <;> simp [h]
theorem fin_bad {n : Int} {ds : List UInt8} (h : ¬ n < 4294967296) : decide (n < 4294967296 ∧ ds ≠ []) = false := by simp [h]
structure LTok where
  kind : Int
  n : Int
  text : List UInt8
def ltokD (t : LTok) : D := .agg [.int .i64 t.kind, .int .i64 t.n, .str t.text]
/-- the document's words go on so -/
def wordC (c : UInt8) : Bool := decide (kindB c = 97) || decide (kindB c = 48) || c == 47
def numC (c : UInt8) : Bool := (decide (kindB c = 97) && !(c == 46)) || decide (kindB c = 48)
def spanF (p : UInt8 → Bool) : List UInt8 → Nat
  | [] => 0
  | c :: r => if p c = true then spanF p r + 1 else 0
def signsB : List UInt8 := [58, 44, 35, 64, 40, 41, 43, 45, 42, 38, 124, 126, 61]
/-- what comes of the rest of a line: tokens, or it is none -/
def lexF : Nat → List UInt8 → List LTok → Option (List LTok)
  | 0, _, out => some out
  | _ + 1, [], out => some out
  | f + 1, c :: r, out =>
    if kindB c = 32 then lexF f r out
    else if kindB c = 97 then lexF f ((c :: r).drop (spanF wordC (c :: r))) (out ++ [⟨1, 0, (c :: r).take (spanF wordC (c :: r))⟩])
    else if kindB c = 48 then (if (numR ((c :: r).take (spanF numC (c :: r)))).2 = true then
        lexF f ((c :: r).drop (spanF numC (c :: r))) (out ++ [⟨2, (numR ((c :: r).take (spanF numC (c :: r)))).1, []⟩]) else none)
    else if c = 59 then some out
    else if (c :: r).take 2 = [60, 60] ∨ (c :: r).take 2 = [62, 62] then lexF f (r.drop 1) (out ++ [⟨3, 0, (c :: r).take 2⟩])
    else if signsB.contains c = true then lexF f r (out ++ [⟨3, 0, [c]⟩]) else none
/-- a line's tokens, and what is wrong -/
def lexR (s : List UInt8) : List LTok × Int := if 80 < s.length then ([], 4) else match lexF (s.length + 1) s [] with
  | some l => (l, 0)
  | none => ([], 2)
theorem span_le (p : UInt8 → Bool) : ∀ l, spanF p l ≤ l.length
  | [] => Nat.le_refl _
  | c :: r => by
    rw [spanF]
    have := span_le p r
    split
    · simp; omega
    · simp
theorem span_at (p : UInt8 → Bool) : ∀ l (k : Nat), k < spanF p l → p (l.getD k 0) = true
  | [], k, h => by rw [spanF] at h; omega
  | c :: r, k, h => by
    rw [spanF] at h
    split at h
    · cases k with
      | zero => assumption
      | succ k => exact span_at p r k (by omega)
    · omega
theorem span_end (p : UInt8 → Bool) : ∀ l, spanF p l < l.length → p (l.getD (spanF p l) 0) = false
  | [], h => by simp at h
  | c :: r, h => by
    rw [spanF] at h ⊢
    split
    · rename_i hp
      rw [if_pos hp] at h
      exact span_end p r (by simpa using h)
    · rename_i hp
      simpa using hp
theorem span_eq {p : UInt8 → Bool} {l : List UInt8} {k : Nat} (hk : k ≤ l.length) (h : ∀ j, j < k → p (l.getD j 0) = true) (he : k < l.length → p (l.getD k 0) = false) : k = spanF p l := by
  have h1 := span_le p l
  have h2 := span_end p l
  rcases Nat.lt_trichotomy k (spanF p l) with hlt | heq | hgt
  · have := span_at p l k hlt
    rw [he (by omega)] at this
    cases this
  · exact heq
  · have := h _ hgt
    rw [h2 (by omega)] at this
    cases this
attribute [local irreducible] numR wordC numC

theorem word_first {c : UInt8} {r : List UInt8} (h : kindB c = 97) : 1 ≤ spanF wordC (c :: r) := by
  have e : wordC c = true := by unfold wordC; rw [decide_eq_true h]; rfl
  rw [spanF, if_pos e]; omega
theorem num_first {c : UInt8} {r : List UInt8} (h : kindB c = 48) : 1 ≤ spanF numC (c :: r) := by
  have e : numC c = true := by unfold numC; rw [decide_eq_true h, Bool.or_true]
  rw [spanF, if_pos e]; omega
theorem lex_fuel : ∀ (f g : Nat) (l : List UInt8) (out : List LTok), l.length < f → l.length < g → lexF f l out = lexF g l out
  | 0, _, _, _, h, _ => absurd h (Nat.not_lt_zero _)
  | _ + 1, 0, _, _, _, h => absurd h (Nat.not_lt_zero _)
  | f + 1, g + 1, [], out, _, _ => rfl
  | f + 1, g + 1, c :: r, out, hf, hg => by
    have hf : r.length < f := by simpa using hf
    have hg : r.length < g := by simpa using hg
    have ih := lex_fuel f g
    have hd : ∀ n, 1 ≤ n → ((c :: r).drop n).length ≤ r.length := fun n hn => by rw [List.length_drop, List.length_cons]; omega
    rw [lexF, lexF]
    split
    · exact ih _ _ hf hg
    split
    · rename_i h
      have := hd _ (word_first (r := r) h)
      exact ih _ _ (by omega) (by omega)
    split
    · rename_i h
      have := hd _ (num_first (r := r) h)
      split
      · exact ih _ _ (by omega) (by omega)
      · rfl
    split
    · rfl
    split
    · have : (r.drop 1).length ≤ r.length := by rw [List.length_drop]; omega
      exact ih _ _ (by omega) (by omega)
    split
    · exact ih _ _ hf hg
    · rfl
def lexL (l : List UInt8) (out : List LTok) : Option (List LTok) := lexF (l.length + 1) l out
theorem lexL_nil (out : List LTok) : lexL [] out = some out := rfl
theorem lexL_cons (c : UInt8) (r : List UInt8) (out : List LTok) : lexL (c :: r) out =
    if kindB c = 32 then lexL r out
    else if kindB c = 97 then lexL ((c :: r).drop (spanF wordC (c :: r))) (out ++ [⟨1, 0, (c :: r).take (spanF wordC (c :: r))⟩])
    else if kindB c = 48 then (if (numR ((c :: r).take (spanF numC (c :: r)))).2 = true then
        lexL ((c :: r).drop (spanF numC (c :: r))) (out ++ [⟨2, (numR ((c :: r).take (spanF numC (c :: r)))).1, []⟩]) else none)
    else if c = 59 then some out
    else if (c :: r).take 2 = [60, 60] ∨ (c :: r).take 2 = [62, 62] then lexL (r.drop 1) (out ++ [⟨3, 0, (c :: r).take 2⟩])
    else if signsB.contains c = true then lexL r (out ++ [⟨3, 0, [c]⟩]) else none := by
  have hd : ∀ n, 1 ≤ n → ((c :: r).drop n).length ≤ r.length := fun n hn => by rw [List.length_drop, List.length_cons]; omega
  unfold lexL
  rw [List.length_cons, lexF]
  split
  · rfl
  split
  · rename_i h
    have := hd _ (word_first (r := r) h)
    exact lex_fuel _ _ _ _ (by omega) (by omega)
  split
  · rename_i h
    have := hd _ (num_first (r := r) h)
    split
    · exact lex_fuel _ _ _ _ (by omega) (by omega)
    · rfl
  split
  · rfl
  split
  · have : (r.drop 1).length ≤ r.length := by rw [List.length_drop]; omega
    exact lex_fuel _ _ _ _ (by omega) (by omega)
  · rfl
def lexFin : Option (List LTok) → List LTok × Int
  | some l => (l, 0)
  | none => ([], 2)
theorem lexR_eq (s : List UInt8) : lexR s = if 80 < s.length then ([], 4) else lexFin (lexL s []) := by
  unfold lexR lexL lexFin; rfl
def lexRD (p : List LTok × Int) : D := .tup [.sl 3 (p.1.map ltokD) none, .int .i64 p.2]
attribute [local irreducible] lexF lexL spanF

theorem word_yes {c : UInt8} (h : kindB c = 97 ∨ kindB c = 48 ∨ ((c.toNat : Nat) : Int) = 47) : wordC c = true := by
  unfold wordC
  rcases h with h | h | h
  · rw [decide_eq_true h]; rfl
  · rw [decide_eq_true h, Bool.or_true]; rfl
  · have : c = 47 := UInt8.toNat_inj.1 (by exact_mod_cast h)
    subst this
    rw [beq_self_eq_true, Bool.or_true]
theorem word_no {c : UInt8} (h1 : ¬ kindB c = 97) (h2 : ¬ kindB c = 48) (h3 : ¬ ((c.toNat : Nat) : Int) = 47) : wordC c = false := by
  unfold wordC
  rw [decide_eq_false h1, decide_eq_false h2, beq_eq_false_iff_ne.2 fun e => h3 (by rw [e]; rfl)]
  rfl
theorem num_yes {c : UInt8} (h : (kindB c = 97 ∧ ¬ ((c.toNat : Nat) : Int) = 46) ∨ kindB c = 48) : numC c = true := by
  unfold numC
  rcases h with ⟨h, h3⟩ | h
  · rw [decide_eq_true h, beq_eq_false_iff_ne.2 fun e => h3 (by rw [e]; rfl)]; rfl
  · rw [decide_eq_true h, Bool.or_true]
theorem num_no {c : UInt8} (h1 : ¬ kindB c = 97 ∨ ((c.toNat : Nat) : Int) = 46) (h2 : ¬ kindB c = 48) : numC c = false := by
  unfold numC
  rcases h1 with h | h
  · rw [decide_eq_false h, decide_eq_false h2]; rfl
  · have : c = 46 := UInt8.toNat_inj.1 (by exact_mod_cast h)
    subst this
    rw [decide_eq_false h2, beq_self_eq_true]
    simp
end Go.Proofs.YtdhpodgaeholmaaDoor

/-
  Functions of Go's library that reading a line rests on.
-/
namespace Go.Proofs.YtdhpodgaeholmaaDoor
open Go Go.Plat
open Go Go.Plat
set_option linter.unusedVariables false
set_option linter.unusedSimpArgs false
set_option maxRecDepth 100000
set_option maxHeartbeats 2000000
attribute [local irreducible] NilS LookS NormM bitI BytesS NormL Arith QuoS RemS ShlS ShrS BitS CatS SplitS SideS IdxS CallS LoopEnd EndS ModeS DrawS AWP Meets
attribute [local irreducible] letterB digitB kindB okC numR wordC numC lexF lexL spanF

theorem index_has (c : UInt8) : ∀ s : List UInt8, (Lib.indexByte s c = -1 ∧ s.contains c = false ∧ (s.takeWhile (· != c)) = s) ∨
    (0 ≤ Lib.indexByte s c ∧ s.contains c = true ∧ Lib.indexByte s c = ((s.takeWhile (· != c)).length : Int) ∧ s.drop ((s.takeWhile (· != c)).length + 1) = (s.dropWhile (· != c)).drop 1 ∧ (s.takeWhile (· != c)).length < s.length)
  | [] => .inl ⟨rfl, rfl, rfl⟩
  | b :: l => by
    rw [Lib.indexByte]
    by_cases h : b = c
    · subst h
      right
      rw [if_pos (by simp)]
      simp
    · have e : (b == c) = false := beq_eq_false_iff_ne.2 h
      have e1 : (c == b) = false := beq_eq_false_iff_ne.2 fun q => h q.symm
      have e2 : (b != c) = true := by simp [bne, e]
      rw [e, List.contains_cons, e1, Bool.false_or, List.takeWhile_cons, List.dropWhile_cons, e2]
      rw [if_neg (by decide), if_pos rfl, if_pos rfl]
      rcases index_has c l with ⟨h1, h2, h3⟩ | ⟨h1, h2, h3, h4, h5⟩
      · left
        rw [h1, h3]
        exact ⟨rfl, h2, rfl⟩
      · right
        have e3 : (Lib.indexByte l c == -1) = false := beq_eq_false_iff_ne.2 (by omega)
        rw [e3, if_neg (by decide)]
        refine ⟨by omega, h2, ?_, ?_, ?_⟩
        · rw [List.length_cons]; omega
        · rw [List.length_cons, List.drop_succ_cons, h4]
        · rw [List.length_cons, List.length_cons]; omega
theorem has_index (c : UInt8) (s : List UInt8) : decide (0 ≤ Lib.indexByte s c) = s.contains c := by
  rcases index_has c s with ⟨h1, h2, _⟩ | ⟨h1, h2, _⟩
  · rw [h1, h2]; rfl
  · rw [h2, decide_eq_true h1]
theorem contains_meets : Meets Tryd.prog n_strings_Contains (SpecP (fun _ : List UInt8 × UInt8 => True) (fun (s, c) => [.str s, .str [c]]) fun (s, c) => .bool (s.contains c)) := by
  refine meets_lib ⟨_, Tryd.func89, by decide, rfl⟩ ?_
  rintro ⟨s, c⟩ - w F hg vs hl hv
  match vs, hl with
  | [a, b], _ =>
    cases hv 0 _ a rfl rfl
    cases hv 1 _ b rfl rfl
    refine (Go.Proofs.Tryd.strings_Contains_one ⟨s.toArray⟩ c w).mono ?_
    rintro e w' ⟨rfl, rfl⟩
    refine ⟨_, rfl, .refl _ _, ?_⟩
    show RepP w' F (.bool (s.contains c)) _
    rw [← has_index c s]
    exact .bool _
theorem index_meets : Meets Tryd.prog n_internal_stringslite_Index (SpecP (fun _ : List UInt8 × UInt8 => True) (fun (s, c) => [.str s, .str [c]]) fun (s, c) => .int .i64 (Lib.indexByte s c)) := by
  refine meets_lib ⟨_, Tryd.func102, by decide, rfl⟩ ?_
  rintro ⟨s, c⟩ - w F hg vs hl hv
  match vs, hl with
  | [a, b], _ =>
    cases hv 0 _ a rfl rfl
    cases hv 1 _ b rfl rfl
    refine (Go.Proofs.Tryd.stringslite_Index_one ⟨s.toArray⟩ c w).mono ?_
    rintro e w' ⟨rfl, rfl⟩
    exact ⟨_, rfl, .refl _ _, .int _ _⟩
theorem sindex_meets : Meets Tryd.prog n_strings_Index (SpecP (fun _ : List UInt8 × UInt8 => True) (fun (s, c) => [.str s, .str [c]]) fun (s, c) => .int .i64 (Lib.indexByte s c)) := by
  refine meets_f tabOk Tryd.func105 rfl (by decide) ?_
  rintro ⟨s, c⟩ -
  refine ⟨Nat.le_refl _, by simp [Tryd.f105], fun E hE => ?_⟩
  refine vcOk _ ?_
  (all_goals refine qgp ?_ <;> (repeat' first | exact trivial | intro hc | refine And.intro ?_ ?_) <;> refine Lf.mk ?_)
  refine call_p index_meets (s, c) trivial (VS.mk (LeL.of_eq rfl)) ?_
  (all_goals refine qgp ?_ <;> (repeat' first | exact trivial | intro hc | refine And.intro ?_ ?_) <;> refine Lf.mk ?_)
  exact end_p (VS.mk (LeD.of_eq rfl))
theorem count_meets : Meets Tryd.prog n_strings_Count (SpecP (fun _ : List UInt8 × UInt8 => True) (fun (s, c) => [.str s, .str [c]]) fun (s, c) => .int .i64 ((s.count c : Nat) : Int)) := by
  refine meets_lib ⟨_, Tryd.func109, by decide, rfl⟩ ?_
  rintro ⟨s, c⟩ - w F hg vs hl hv
  match vs, hl with
  | [a, b], _ =>
    cases hv 0 _ a rfl rfl
    cases hv 1 _ b rfl rfl
    refine (Go.Proofs.Tryd.strings_Count_one ⟨s.toArray⟩ c w).mono ?_
    rintro e w' ⟨rfl, rfl⟩
    exact ⟨_, rfl, .refl _ _, .int _ _⟩
theorem clone_meets : Meets Tryd.prog n_internal_stringslite_Clone (SpecP (fun s : List UInt8 => s.length ≤ 1000000000) (fun s => [.str s]) fun s => .str s) := by
  refine meets_lib ⟨_, Tryd.func140, by decide, rfl⟩ ?_
  rintro s hs w F hg vs hl hv
  match vs, hl with
  | [a], _ =>
    cases hv 0 _ a rfl rfl
    refine (Go.Proofs.Tryd.stringslite_Clone ⟨s.toArray⟩ w (by show s.toArray.size ≤ _; simp; omega)).mono ?_
    rintro e w' ⟨rfl, hb⟩
    exact ⟨_, rfl, .below hb, .str _⟩
theorem join_meets : Meets Tryd.prog n_strings_Join (SpecP (fun ((xs, p) : List (List UInt8) × List UInt8) => xs.length ≤ 1000000000 ∧ (Lib.join xs p).length ≤ 1000000000) (fun (xs, p) => [.sl 1 (xs.map .str) none, .str p]) fun (xs, p) => .str (Lib.join xs p)) := by
  refine meets_lib ⟨_, Tryd.func70, by decide, rfl⟩ ?_
  rintro ⟨xs, p⟩ ⟨h1, h2⟩ w F hg vs hl hv
  have h1 : xs.length ≤ 1000000000 := h1
  have h2 : (Lib.join xs p).length ≤ 1000000000 := h2
  match vs, hl with
  | [a, b], _ =>
    cases hv 1 _ b rfl rfl
    have ha : RepP w F (.sl 1 (xs.map .str) none) a := hv 0 _ a rfl rfl
    clear hv
    generalize hds : xs.map D.str = ds at ha
    cases ha with
    | slnil e ad =>
      obtain rfl : xs = [] := List.map_eq_nil_iff.1 hds
      refine (Go.Proofs.Tryd.strings_Join_none ad 0 ⟨p.toArray⟩ w).mono ?_
      rintro e w' ⟨rfl, rfl⟩
      exact ⟨_, rfl, .refl _ _, .str _⟩
    | sl e ds bk off cap val hcap hlen hcell hone h =>
      subst hds
      have hmap : (xs.map fun x : List UInt8 => (⟨x.toArray⟩ : ByteArray)).map (fun b : ByteArray => b.data.toList) = xs := by
        rw [List.map_map]; exact List.map_id xs
      have hlen2 : (List.map D.str xs).length = (xs.map fun x : List UInt8 => (⟨x.toArray⟩ : ByteArray)).length := by simp
      rw [hlen2]
      by_cases hx : xs = []
      · subst hx
        refine (Go.Proofs.Tryd.strings_Join_none (some ⟨bk, off, none⟩) cap ⟨p.toArray⟩ w).mono ?_
        rintro e w' ⟨rfl, rfl⟩
        exact ⟨_, rfl, .refl _ _, .str _⟩
      have hbk : bk < w.heap.size := by
        have h0 : (xs.map D.str)[0]? = some (D.str (xs.getD 0 [])) := by
          cases xs with
          | nil => exact absurd rfl hx
          | cons x r => rfl
        exact block_lt (hcell 0 _ 0 _ h0 rfl).1
      refine (Go.Proofs.Tryd.strings_Join bk off cap (xs.map fun x : List UInt8 => (⟨x.toArray⟩ : ByteArray)) ⟨p.toArray⟩ w (fun j x hj => ?_) hbk (by simp; omega) (by rw [← hlen2]; exact hcap) ?_).mono ?_
      · rw [List.getElem?_map, Option.map_eq_some_iff] at hj
        obtain ⟨s, hs, rfl⟩ := hj
        have hd : (xs.map D.str)[j]? = some (D.str s) := by rw [List.getElem?_map, hs]; rfl
        have q1 := (hcell j _ 0 _ hd rfl).1
        have q2 := h j _ 0 _ hd rfl
        rw [Nat.mul_one, Nat.add_zero] at q1
        rw [q1]
        generalize val j 0 = v at q2
        cases q2
        rfl
      · rw [hmap]; show (Lib.join xs p).length ≤ _; omega
      · rintro e w' ⟨rfl, hb⟩
        refine ⟨_, rfl, .below hb, ?_⟩
        rw [hmap]
        exact .str _
end Go.Proofs.YtdhpodgaeholmaaDoor

/-
  Cut, HasPrefix, Split.
-/
namespace Go.Proofs.YtdhpodgaeholmaaDoor
open Go Go.Plat
open Go Go.Plat
set_option linter.unusedVariables false
set_option linter.unusedSimpArgs false
set_option maxRecDepth 100000
set_option maxHeartbeats 2000000
attribute [local irreducible] NilS LookS NormM bitI BytesS NormL Arith QuoS RemS ShlS ShrS BitS CatS SplitS SideS IdxS CallS LoopEnd EndS ModeS DrawS AWP Meets
attribute [local irreducible] letterB digitB kindB okC numR wordC numC lexF lexL spanF

def cutT (c : UInt8) (s : List UInt8) : List UInt8 × List UInt8 × Bool := (s.takeWhile (· != c), (s.dropWhile (· != c)).drop 1, s.contains c)
def cutD (p : List UInt8 × List UInt8 × Bool) : D := .tup [.str p.1, .str p.2.1, .bool p.2.2]
theorem take_len {α : Type} (p : α → Bool) (s : List α) : s.take (s.takeWhile p).length = s.takeWhile p := by
  induction s with
  | nil => rfl
  | cons a l ih =>
    rw [List.takeWhile_cons]
    split
    · rw [List.length_cons, List.take_succ_cons, ih]
    · rfl
theorem drop_while_nil {c : UInt8} : ∀ {s : List UInt8}, s.contains c = false → s.dropWhile (· != c) = []
  | [], _ => rfl
  | b :: l, h => by
    rw [List.contains_cons, Bool.or_eq_false_iff] at h
    have e : (b != c) = true := by
      rw [bne_iff_ne]
      intro q
      rw [q] at h
      simp at h
    rw [List.dropWhile_cons, e, if_pos rfl]
    exact drop_while_nil h.2
attribute [local irreducible] Lib.indexByte
theorem lcut_meets : Meets Tryd.prog n_internal_stringslite_Cut (SpecP (fun ((s, c) : List UInt8 × UInt8) => s.length ≤ 1000000000) (fun (s, c) => [.str s, .str [c]]) fun (s, c) => cutD (cutT c s)) := by
  refine meets_f tabOk Tryd.func86 rfl (by decide) ?_
  rintro ⟨s, c⟩ hs
  have hs : s.length ≤ 1000000000 := hs
  refine ⟨Nat.le_refl _, by simp [Tryd.f86], fun E hE => ?_⟩
  have hi := index_has c s
  have hl1 : ([c] : List UInt8).length = 1 := rfl
  have hb : -1 ≤ Lib.indexByte s c ∧ Lib.indexByte s c ≤ s.length ∧ (0 ≤ Lib.indexByte s c → Lib.indexByte s c < s.length) := by omega
  refine vcOk _ ?_
  (all_goals refine qgp ?_ <;> (repeat' first | exact trivial | intro hc | refine And.intro ?_ ?_) <;> refine Lf.mk ?_)
  refine call_p index_meets (s, c) trivial (VS.mk (LeL.of_eq rfl)) ?_
  (all_goals refine qgp ?_ <;> (repeat' first | exact trivial | intro hc | refine And.intro ?_ ?_) <;> refine Lf.mk ?_)
  · rcases hi with ⟨h1, _⟩ | ⟨h1, h2, h3, h4, h5⟩
    · omega
    refine end_p (VS.mk (.tup (.cons (LeD.of_eq ?_) (.cons (LeD.of_eq ?_) (.cons (LeD.tt h2) .nil)))))
    · rw [h3, Int.toNat_natCast]
      exact congrArg D.str (take_len _ s)
    · rw [h3]
      exact congrArg D.str (by rw [hl1, Int.toNat_natCast, List.take_length, show (((s.takeWhile (· != c)).length : Int) + ((1 : Nat) : Int)).toNat = (s.takeWhile (· != c)).length + 1 by omega]; exact h4)
  · rcases hi with ⟨h1, h2, h3⟩ | ⟨h1, h2, h3, h4, h5⟩
    · refine end_p (VS.mk (.tup (.cons (LeD.of_eq ?_) (.cons (LeD.of_eq ?_) (.cons (LeD.ff h2) .nil)))))
      · exact congrArg D.str h3.symm
      · exact congrArg D.str (by show [] = (s.dropWhile _).drop 1; rw [drop_while_nil h2]; rfl)
    · omega
theorem cut_meets : Meets Tryd.prog n_strings_Cut (SpecP (fun ((s, c) : List UInt8 × UInt8) => s.length ≤ 1000000000) (fun (s, c) => [.str s, .str [c]]) fun (s, c) => cutD (cutT c s)) := by
  refine meets_f tabOk Tryd.func62 rfl (by decide) ?_
  rintro ⟨s, c⟩ hs
  refine ⟨Nat.le_refl _, by simp [Tryd.f62], fun E hE => ?_⟩
  refine vcOk _ ?_
  (all_goals refine qgp ?_ <;> (repeat' first | exact trivial | intro hc | refine And.intro ?_ ?_) <;> refine Lf.mk ?_)
  refine call_p lcut_meets (s, c) hs (VS.mk (LeL.of_eq rfl)) ?_
  (all_goals refine qgp ?_ <;> (repeat' first | exact trivial | intro hc | refine And.intro ?_ ?_) <;> refine Lf.mk ?_)
  exact end_p (VS.mk (LeD.of_eq rfl))
theorem beq_dec (a b : List UInt8) : (a == b) = decide (a = b) := by
  by_cases h : a = b
  · rw [decide_eq_true h, h]; exact beq_self_eq_true _
  · rw [decide_eq_false h, beq_eq_false_iff_ne.2 h]
theorem lprefix_meets : Meets Tryd.prog n_internal_stringslite_HasPrefix (SpecP (fun ((s, p) : List UInt8 × List UInt8) => s.length ≤ 1000000000 ∧ p.length ≤ 1000000000) (fun (s, p) => [.str s, .str p]) fun (s, p) => .bool (decide (s.take p.length = p))) := by
  refine meets_f tabOk Tryd.func106 rfl (by decide) ?_
  rintro ⟨s, p⟩ ⟨hs, hp⟩
  refine ⟨Nat.le_refl _, by simp [Tryd.f106], fun E hE => ?_⟩
  refine vcOk _ ?_
  (all_goals refine qgp ?_ <;> (repeat' first | exact trivial | intro hc | refine And.intro ?_ ?_) <;> refine Lf.mk ?_)
  · exact end_p (VS.mk (LeD.of_eq (congrArg D.bool (beq_dec _ _))))
  · refine end_p (VS.mk (LeD.ff (decide_eq_false fun h => ?_)))
    have := congrArg List.length h
    rw [List.length_take] at this
    omega
theorem prefix_meets : Meets Tryd.prog n_strings_HasPrefix (SpecP (fun ((s, p) : List UInt8 × List UInt8) => s.length ≤ 1000000000 ∧ p.length ≤ 1000000000) (fun (s, p) => [.str s, .str p]) fun (s, p) => .bool (decide (s.take p.length = p))) := by
  refine meets_f tabOk Tryd.func90 rfl (by decide) ?_
  rintro ⟨s, p⟩ h
  refine ⟨Nat.le_refl _, by simp [Tryd.f90], fun E hE => ?_⟩
  refine vcOk _ ?_
  (all_goals refine qgp ?_ <;> (repeat' first | exact trivial | intro hc | refine And.intro ?_ ?_) <;> refine Lf.mk ?_)
  refine call_p lprefix_meets (s, p) h (VS.mk (LeL.of_eq rfl)) ?_
  (all_goals refine qgp ?_ <;> (repeat' first | exact trivial | intro hc | refine And.intro ?_ ?_) <;> refine Lf.mk ?_)
  exact end_p (VS.mk (LeD.of_eq rfl))
end Go.Proofs.YtdhpodgaeholmaaDoor

/-
  A number of a word, as Go's library reads it.
-/
namespace Go.Proofs.YtdhpodgaeholmaaDoor
open Go Go.Plat
open Go Go.Plat
set_option linter.unusedVariables false
set_option linter.unusedSimpArgs false
set_option maxRecDepth 100000
set_option maxHeartbeats 2000000
attribute [local irreducible] NilS LookS NormM bitI BytesS NormL Arith QuoS RemS ShlS ShrS BitS CatS SplitS SideS IdxS CallS LoopEnd EndS ModeS DrawS AWP Meets
attribute [local irreducible] letterB digitB kindB okC numR wordC numC lexF lexL spanF digV

/-- what is read so far, and what is wrong: 1, out of range; 2, no digit -/
def puF (b : Int) : List UInt8 → Int → Int × Int
  | [], n => (n, 0)
  | c :: r, n => if digV b c < 0 then (0, 2) else if 4294967295 < n * b + digV b c then (4294967295, 1) else puF b r (n * b + digV b c)
def puR (b : Int) (s : List UInt8) : Int × Int := if s = [] then (0, 2) else puF b s 0
theorem pu_big {b : Int} (hb : b = 10 ∨ b = 16) : ∀ (s : List UInt8) (n : Int), 4294967295 < n → ∀ m, numF b s n = some m → 4294967295 < m
  | [], n, h, m, hm => by rw [numF] at hm; cases hm; exact h
  | c :: r, n, h, m, hm => by rw [numF, if_pos (.inr h)] at hm; cases hm
theorem pu_num {b : Int} (hb : b = 10 ∨ b = 16) : ∀ (s : List UInt8) (n : Int), 0 ≤ n → n ≤ 4294967295 →
    ((puF b s n).2 = 0 ∧ numF b s n = some (puF b s n).1 ∧ 0 ≤ (puF b s n).1 ∧ (puF b s n).1 ≤ 4294967295) ∨ ((puF b s n).2 ≠ 0 ∧ ∀ m, numF b s n = some m → 4294967295 < m)
  | [], n, h0, h1 => .inl ⟨rfl, rfl, h0, h1⟩
  | c :: r, n, h0, h1 => by
    rw [puF, numF]
    by_cases hd : digV b c < 0
    · rw [if_pos hd, if_pos (.inl hd)]
      exact .inr ⟨by decide, fun m hm => by cases hm⟩
    · rw [if_neg hd, if_neg (show ¬ (digV b c < 0 ∨ 4294967295 < n) by omega)]
      have := dig_lt b c
      by_cases hn : 4294967295 < n * b + digV b c
      · rw [if_pos hn]
        exact .inr ⟨by decide, pu_big hb r _ hn⟩
      · rw [if_neg hn]
        exact pu_num hb r _ (by rcases hb with rfl | rfl <;> omega) (by omega)
theorem pu_numR {b : Int} (hb : b = 10 ∨ b = 16) (s : List UInt8) : ((puR b s).2 = 0 ∧ numRb b s = ((puR b s).1, true) ∧ 0 ≤ (puR b s).1 ∧ (puR b s).1 ≤ 4294967295) ∨ ((puR b s).2 ≠ 0 ∧ (numRb b s).2 = false) := by
  unfold puR numRb
  by_cases h : s = []
  · subst h
    right
    rw [if_pos rfl]
    exact ⟨by decide, by simp [numF, numFin]⟩
  rw [if_neg h]
  rcases pu_num hb s 0 (by decide) (by decide) with ⟨h1, h2, h3, h4⟩ | ⟨h1, h2⟩
  · left
    rw [h2]
    refine ⟨h1, ?_, h3, h4⟩
    show ((puF b s 0).1, decide ((puF b s 0).1 < 4294967296 ∧ s ≠ [])) = _
    rw [decide_eq_true ⟨by omega, h⟩]
  · right
    refine ⟨h1, ?_⟩
    cases hm : numF b s 0 with
    | none => rfl
    | some m =>
      have := h2 m hm
      show decide (m < 4294967296 ∧ s ≠ []) = false
      rw [decide_eq_false (by rintro ⟨q, _⟩; omega)]
theorem puF_code (b : Int) : ∀ (s : List UInt8) (n : Int), (puF b s n).2 = 0 ∨ (puF b s n).2 = 1 ∨ (puF b s n).2 = 2
  | [], n => .inl rfl
  | c :: r, n => by
    rw [puF]
    split
    · exact .inr (.inr rfl)
    split
    · exact .inr (.inl rfl)
    · exact puF_code b r _
theorem pu_code (b : Int) (s : List UInt8) : (puR b s).2 = 0 ∨ (puR b s).2 = 1 ∨ (puR b s).2 = 2 := by
  unfold puR
  split
  · exact .inr (.inr rfl)
  · exact puF_code b s 0
def lowC (c : UInt8) : UInt8 := c ||| 32
theorem low_all : ∀ k : Fin 256, (97 ≤ (lowC (UInt8.ofNat k.val)).toNat ∧ (lowC (UInt8.ofNat k.val)).toNat ≤ 122 → ¬ (48 ≤ k.val ∧ k.val ≤ 57) ∧ ((lowC (UInt8.ofNat k.val)).toNat ≤ 102 ∧ digV 16 (UInt8.ofNat k.val) = (lowC (UInt8.ofNat k.val)).toNat - 87 ∨ (103 ≤ (lowC (UInt8.ofNat k.val)).toNat ∧ digV 16 (UInt8.ofNat k.val) = -1)) ∧ digV 10 (UInt8.ofNat k.val) = -1) ∧
    (48 ≤ k.val ∧ k.val ≤ 57 → digV 16 (UInt8.ofNat k.val) = k.val - 48 ∧ digV 10 (UInt8.ofNat k.val) = k.val - 48) ∧
    (¬ (97 ≤ (lowC (UInt8.ofNat k.val)).toNat ∧ (lowC (UInt8.ofNat k.val)).toNat ≤ 122) → ¬ (48 ≤ k.val ∧ k.val ≤ 57) → digV 16 (UInt8.ofNat k.val) = -1 ∧ digV 10 (UInt8.ofNat k.val) = -1) := by decide +kernel
theorem low_dig (c : UInt8) : (97 ≤ (lowC c).toNat ∧ (lowC c).toNat ≤ 122 → ¬ (48 ≤ c.toNat ∧ c.toNat ≤ 57) ∧ ((lowC c).toNat ≤ 102 ∧ digV 16 c = (lowC c).toNat - 87 ∨ (103 ≤ (lowC c).toNat ∧ digV 16 c = -1)) ∧ digV 10 c = -1) ∧
    (48 ≤ c.toNat ∧ c.toNat ≤ 57 → digV 16 c = c.toNat - 48 ∧ digV 10 c = c.toNat - 48) ∧
    (¬ (97 ≤ (lowC c).toNat ∧ (lowC c).toNat ≤ 122) → ¬ (48 ≤ c.toNat ∧ c.toNat ≤ 57) → digV 16 c = -1 ∧ digV 10 c = -1) := by
  have := low_all ⟨c.toNat, c.toNat_lt⟩
  simp only [UInt8.ofNat_toNat] at this
  exact this
theorem or_32 (c : UInt8) : bitI .or .u8 (c.toNat : Int) 32 = ((lowC c).toNat : Int) := by
  have : ∀ k : Fin 256, bitI .or .u8 ((UInt8.ofNat k.val).toNat : Int) 32 = ((lowC (UInt8.ofNat k.val)).toNat : Int) := by decide +kernel
  have := this ⟨c.toNat, c.toNat_lt⟩
  simp only [UInt8.ofNat_toNat] at this
  exact this
theorem lower_meets : Meets Tryd.prog n_internal_strconv_lower (SpecP (fun _ : UInt8 => True) (fun c => [byteD c]) fun c => byteD (lowC c)) := by
  refine meets_f tabOk Tryd.func123 rfl (by decide) fun c _ => ?_
  refine ⟨Nat.le_refl _, by simp [Tryd.f123], fun E hE => ?_⟩
  refine vcOk _ ?_
  (all_goals refine qgp ?_ <;> (repeat' first | exact trivial | intro hc | refine And.intro ?_ ?_) <;> refine Lf.mk ?_)
  refine bit_mk (or_32 c) ?_
  (all_goals refine qgp ?_ <;> (repeat' first | exact trivial | intro hc | refine And.intro ?_ ?_) <;> refine Lf.mk ?_)
  exact end_p (VS.mk (LeD.of_eq rfl))
attribute [local irreducible] lowC
/-- what is wrong, as the library has it -/
def perrD (t : Nat) (e : Int) : D := if e = 0 then .nilif else .iface t (.int .i64 e)
def puD (p : Int × Int) : D := .tup [.int .u64 p.1, if p.2 = 0 then .nilif else .iface 180 (.int .i64 p.2)]
theorem shl_u64_32 {K : D → Prop} (h : K (.int .u64 4294967296)) : ShlS .u64 1 32 K := by
  unfold ShlS
  refine ⟨by decide, ?_⟩
  have e : IntKind.u64.wrap (1 * 2 ^ (min (32 : Int).toNat IntKind.u64.bits)) = 4294967296 := by decide
  rw [e]; exact h
theorem parse_in_meets : Meets Tryd.prog n_internal_strconv_ParseUint (SpecP (fun ((s, b) : List UInt8 × Int) => s.length ≤ 1000000000 ∧ (b = 10 ∨ b = 16)) (fun (s, b) => [.str s, .int .i64 b, .int .i64 32]) fun (s, b) => puD (puR b s)) := by
  refine meets_f tabOk Tryd.func103 rfl (by decide) ?_
  rintro ⟨s, b⟩ ⟨hs, hb⟩
  refine ⟨Nat.le_refl _, by simp [Tryd.f103], fun E hE => ?_⟩
  rcases hb with rfl | rfl
  · refine vcOk _ ?_
    have hP : s ≠ [] → puR 10 s = puF 10 (s.drop 0) 0 := fun h => by unfold puR; rw [if_neg h]; rfl
    (all_goals refine qgp ?_ <;> (repeat' first | exact trivial | intro hc | refine And.intro ?_ ?_) <;> refine Lf.mk ?_)
    all_goals first
      | (exfalso; refine absurd trivial ?_; assumption)
      | (exact end_p (VS.mk (LeD.of_eq (by show _ = puD (puR _ _); unfold puR; rw [if_pos hc]; rfl))))
      | skip
    refine ar_u64 (by decide) (by decide) ?_
    (all_goals refine qgp ?_ <;> (repeat' first | exact trivial | intro hc | refine And.intro ?_ ?_) <;> refine Lf.mk ?_)
    refine shl_u64_32 ?_
    (all_goals refine qgp ?_ <;> (repeat' first | exact trivial | intro hc | refine And.intro ?_ ?_) <;> refine Lf.mk ?_)
    refine ar_u64 (by decide) (by decide) ?_
    (all_goals refine qgp ?_ <;> (repeat' first | exact trivial | intro hc | refine And.intro ?_ ?_) <;> refine Lf.mk ?_)
    have hP := hP (by assumption)
    refine awp_loop (α := Nat × Int) (fun p => p.1 ≤ s.length ∧ puR 10 s = puF 10 (s.drop p.1) p.2 ∧ 0 ≤ p.2 ∧ p.2 ≤ 4294967295)
      (fun p => [(1, .int .i64 10), (8, .bool false), (9, .str s), (10, .int .u64 1844674407370955162), (11, .int .u64 4294967295), (12, .ff), (13, .int .u64 p.2), (99, .sl 1 (s.map byteD) none), (100, .int .i64 s.length), (101, .int .i64 p.1)])
      (fun _ => []) (fun p => s.length - p.1) (fun _ => by simp [hE]) (0, 0) ⟨Nat.zero_le _, hP, by decide, by decide⟩ ?_ ?_
    · (repeat' (first | (refine VS.mk ?_) | exact trivial | exact rfl | refine And.intro ?_ ?_))
    rintro ⟨k, n⟩ ⟨hk, hf, hn0, hn1⟩
    dsimp only at hk hf hn0 hn1 ⊢
    have hlast : k = s.length → puD (puR 10 s) = .tup [.int .u64 n, .nilif] := fun h => by rw [hf, h, List.drop_length]; rfl
    have hstep : k < s.length → puR 10 s = if digV 10 (s.getD k 0) < 0 then (0, 2) else if 4294967295 < n * 10 + digV 10 (s.getD k 0) then (4294967295, 1) else puF 10 (s.drop (k + 1)) (n * 10 + digV 10 (s.getD k 0)) := fun h => by
      rw [hf, drop_cons (d := 0) h, puF]
    have hd := low_dig (s.getD k 0)
    have hq := (s.getD k 0).toNat_lt
    have hq2 := (lowC (s.getD k 0)).toNat_lt
    have hbB : (lowByte 10).toNat = 10 := by decide
    have h48 := lowByte_toNat (((s.getD k 0).toNat : Int) - 48)
    have h97 := lowByte_toNat (((lowC (s.getD k 0)).toNat : Int) - 97)
    have h10 := lowByte_toNat (((lowByte (((lowC (s.getD k 0)).toNat : Int) - 97)).toNat : Int) + 10)
    generalize digV 10 (s.getD k 0) = dv at *
    generalize digV 16 (s.getD k 0) = dx at *
    refine vcOk _ ?_
    (all_goals refine qgp ?_ <;> (repeat' first | exact trivial | intro hc | refine And.intro ?_ ?_) <;> refine Lf.mk ?_)
    all_goals (try refine call_p lower_meets (s.getD k 0) trivial (VS.mk (LeL.of_eq rfl)) ?_)
    (all_goals refine qgp ?_ <;> (repeat' first | exact trivial | intro hc | refine And.intro ?_ ?_) <;> refine Lf.mk ?_)
    all_goals (try refine call_p lower_meets (s.getD k 0) trivial (VS.mk (LeL.of_eq rfl)) ?_)
    (all_goals refine qgp ?_ <;> (repeat' first | exact trivial | intro hc | refine And.intro ?_ ?_) <;> refine Lf.mk ?_)
    all_goals (try refine call_p lower_meets (s.getD k 0) trivial (VS.mk (LeL.of_eq rfl)) ?_)
    (all_goals refine qgp ?_ <;> (repeat' first | exact trivial | intro hc | refine And.intro ?_ ?_) <;> refine Lf.mk ?_)
    all_goals first
      | (refine absurd hc ?_; decide)
      | (refine end_p (VS.mk (LeD.of_eq ?_)); rw [hstep (by omega), if_pos (by omega)]; rfl)
      | skip
    all_goals (try refine ar_u64 (by omega) (by omega) ?_)
    (all_goals refine qgp ?_ <;> (repeat' first | exact trivial | intro hc | refine And.intro ?_ ?_) <;> refine Lf.mk ?_)
    all_goals (try refine ar_u64 (by omega) (by omega) ?_)
    (all_goals refine qgp ?_ <;> (repeat' first | exact trivial | intro hc | refine And.intro ?_ ?_) <;> refine Lf.mk ?_)
    all_goals (try refine ar_u64 (by omega) (by omega) ?_)
    (all_goals refine qgp ?_ <;> (repeat' first | exact trivial | intro hc | refine And.intro ?_ ?_) <;> refine Lf.mk ?_)
    all_goals (try refine ar_u64 (by omega) (by omega) ?_)
    (all_goals refine qgp ?_ <;> (repeat' first | exact trivial | intro hc | refine And.intro ?_ ?_) <;> refine Lf.mk ?_)
    all_goals first
      | (refine end_p (VS.mk (LeD.of_eq ?_)); rw [hstep (by omega), if_neg (by omega), if_pos (by omega)]; rfl)
      | (exact end_p (VS.mk (LeD.of_eq (hlast (by omega)).symm)))
      | skip
    all_goals
      have hk1 := hstep (by omega)
      rw [if_neg (by omega), if_neg (by omega)] at hk1
      refine loop_end (k + 1, n * 10 + dv) ⟨by dsimp only; omega, hk1, by dsimp only; omega, by dsimp only; omega⟩ (by dsimp only; omega) ?_
      (repeat' (first | (refine VS.mk ?_) | exact trivial | exact rfl | refine And.intro ?_ ?_))
      all_goals (first | rfl | (refine congrArg (D.int .u64) ?_; omega))
  · refine vcOk _ ?_
    have hP : s ≠ [] → puR 16 s = puF 16 (s.drop 0) 0 := fun h => by unfold puR; rw [if_neg h]; rfl
    (all_goals refine qgp ?_ <;> (repeat' first | exact trivial | intro hc | refine And.intro ?_ ?_) <;> refine Lf.mk ?_)
    all_goals first
      | (exfalso; refine absurd trivial ?_; assumption)
      | (exact end_p (VS.mk (LeD.of_eq (by show _ = puD (puR _ _); unfold puR; rw [if_pos hc]; rfl))))
      | skip
    refine ar_u64 (by decide) (by decide) ?_
    (all_goals refine qgp ?_ <;> (repeat' first | exact trivial | intro hc | refine And.intro ?_ ?_) <;> refine Lf.mk ?_)
    refine shl_u64_32 ?_
    (all_goals refine qgp ?_ <;> (repeat' first | exact trivial | intro hc | refine And.intro ?_ ?_) <;> refine Lf.mk ?_)
    refine ar_u64 (by decide) (by decide) ?_
    (all_goals refine qgp ?_ <;> (repeat' first | exact trivial | intro hc | refine And.intro ?_ ?_) <;> refine Lf.mk ?_)
    have hP := hP (by assumption)
    refine awp_loop (α := Nat × Int) (fun p => p.1 ≤ s.length ∧ puR 16 s = puF 16 (s.drop p.1) p.2 ∧ 0 ≤ p.2 ∧ p.2 ≤ 4294967295)
      (fun p => [(1, .int .i64 16), (8, .bool false), (9, .str s), (10, .int .u64 1152921504606846976), (11, .int .u64 4294967295), (12, .ff), (13, .int .u64 p.2), (99, .sl 1 (s.map byteD) none), (100, .int .i64 s.length), (101, .int .i64 p.1)])
      (fun _ => []) (fun p => s.length - p.1) (fun _ => by simp [hE]) (0, 0) ⟨Nat.zero_le _, hP, by decide, by decide⟩ ?_ ?_
    · (repeat' (first | (refine VS.mk ?_) | exact trivial | exact rfl | refine And.intro ?_ ?_))
    rintro ⟨k, n⟩ ⟨hk, hf, hn0, hn1⟩
    dsimp only at hk hf hn0 hn1 ⊢
    have hlast : k = s.length → puD (puR 16 s) = .tup [.int .u64 n, .nilif] := fun h => by rw [hf, h, List.drop_length]; rfl
    have hstep : k < s.length → puR 16 s = if digV 16 (s.getD k 0) < 0 then (0, 2) else if 4294967295 < n * 16 + digV 16 (s.getD k 0) then (4294967295, 1) else puF 16 (s.drop (k + 1)) (n * 16 + digV 16 (s.getD k 0)) := fun h => by
      rw [hf, drop_cons (d := 0) h, puF]
    have hd := low_dig (s.getD k 0)
    have hq := (s.getD k 0).toNat_lt
    have hq2 := (lowC (s.getD k 0)).toNat_lt
    have hbB : (lowByte 16).toNat = 16 := by decide
    have h48 := lowByte_toNat (((s.getD k 0).toNat : Int) - 48)
    have h97 := lowByte_toNat (((lowC (s.getD k 0)).toNat : Int) - 97)
    have h10 := lowByte_toNat (((lowByte (((lowC (s.getD k 0)).toNat : Int) - 97)).toNat : Int) + 10)
    generalize digV 10 (s.getD k 0) = dv at *
    generalize digV 16 (s.getD k 0) = dx at *
    refine vcOk _ ?_
    (all_goals refine qgp ?_ <;> (repeat' first | exact trivial | intro hc | refine And.intro ?_ ?_) <;> refine Lf.mk ?_)
    all_goals (try refine call_p lower_meets (s.getD k 0) trivial (VS.mk (LeL.of_eq rfl)) ?_)
    (all_goals refine qgp ?_ <;> (repeat' first | exact trivial | intro hc | refine And.intro ?_ ?_) <;> refine Lf.mk ?_)
    all_goals (try refine call_p lower_meets (s.getD k 0) trivial (VS.mk (LeL.of_eq rfl)) ?_)
    (all_goals refine qgp ?_ <;> (repeat' first | exact trivial | intro hc | refine And.intro ?_ ?_) <;> refine Lf.mk ?_)
    all_goals (try refine call_p lower_meets (s.getD k 0) trivial (VS.mk (LeL.of_eq rfl)) ?_)
    (all_goals refine qgp ?_ <;> (repeat' first | exact trivial | intro hc | refine And.intro ?_ ?_) <;> refine Lf.mk ?_)
    all_goals first
      | (refine absurd hc ?_; decide)
      | (refine end_p (VS.mk (LeD.of_eq ?_)); rw [hstep (by omega), if_pos (by omega)]; rfl)
      | skip
    all_goals (try refine ar_u64 (by omega) (by omega) ?_)
    (all_goals refine qgp ?_ <;> (repeat' first | exact trivial | intro hc | refine And.intro ?_ ?_) <;> refine Lf.mk ?_)
    all_goals (try refine ar_u64 (by omega) (by omega) ?_)
    (all_goals refine qgp ?_ <;> (repeat' first | exact trivial | intro hc | refine And.intro ?_ ?_) <;> refine Lf.mk ?_)
    all_goals (try refine ar_u64 (by omega) (by omega) ?_)
    (all_goals refine qgp ?_ <;> (repeat' first | exact trivial | intro hc | refine And.intro ?_ ?_) <;> refine Lf.mk ?_)
    all_goals (try refine ar_u64 (by omega) (by omega) ?_)
    (all_goals refine qgp ?_ <;> (repeat' first | exact trivial | intro hc | refine And.intro ?_ ?_) <;> refine Lf.mk ?_)
    all_goals first
      | (refine end_p (VS.mk (LeD.of_eq ?_)); rw [hstep (by omega), if_neg (by omega), if_pos (by omega)]; rfl)
      | (exact end_p (VS.mk (LeD.of_eq (hlast (by omega)).symm)))
      | skip
    all_goals
      have hk1 := hstep (by omega)
      rw [if_neg (by omega), if_neg (by omega)] at hk1
      refine loop_end (k + 1, n * 16 + dx) ⟨by dsimp only; omega, hk1, by dsimp only; omega, by dsimp only; omega⟩ (by dsimp only; omega) ?_
      (repeat' (first | (refine VS.mk ?_) | exact trivial | exact rfl | refine And.intro ?_ ?_))
      all_goals (first | rfl | (refine congrArg (D.int .u64) ?_; omega))
end Go.Proofs.YtdhpodgaeholmaaDoor

/-
  A run of bytes.
-/
namespace Go.Proofs.YtdhpodgaeholmaaDoor
open Go Go.Plat
open Go Go.Plat
set_option linter.unusedVariables false
set_option linter.unusedSimpArgs false
set_option maxRecDepth 100000
set_option maxHeartbeats 2000000
attribute [local irreducible] NilS LookS NormM bitI BytesS NormL Arith QuoS RemS ShlS ShrS BitS CatS SplitS SideS IdxS CallS LoopEnd EndS ModeS DrawS AWP Meets
attribute [local irreducible] letterB digitB kindB okC numR wordC numC lexF lexL

def rdO (s : List UInt8) (i : Nat) : List Ob := [.cells [.str s, .int .i64 (i : Nat)]]
theorem run_meets {g : Nat} {p : UInt8 → Bool} (hg : Meets Tryd.prog g (SpecP (fun _ : UInt8 => True) (fun c => [byteD c]) fun c => .bool (p c))) :
    Meets Tryd.prog n_scan_reader_run (SpecF (fun ((s, i) : List UInt8 × Nat) => i ≤ s.length ∧ s.length ≤ 1000000000) (fun _ => [.loc 0 0, .fn g []]) (fun (s, i) => rdO s i)
      (fun (s, i) => .str ((s.take (i + spanF p (s.drop i))).drop i)) fun (s, i) => rdO s (i + spanF p (s.drop i))) := by
  refine meets_f tabOk Tryd.func63 rfl (by decide) ?_
  rintro ⟨s, i⟩ ⟨hi, hs⟩
  refine ⟨Nat.le_refl _, by simp [Tryd.f63], fun E hE => ?_⟩
  refine vcOk _ ?_
  (all_goals refine qgp ?_ <;> (repeat' first | exact trivial | intro hc | refine And.intro ?_ ?_) <;> refine Lf.mk ?_)
  refine awp_loop (α := Nat) (fun k => i ≤ k ∧ k ≤ s.length ∧ ∀ j, j < k - i → p ((s.drop i).getD j 0) = true)
    (fun k => [(0, .loc 0 0), (1, .fn g []), (5, .int .i64 i)])
    (fun k => rdO s k) (fun k => s.length - k) (fun _ => by simp [hE, rdO]) i ⟨Nat.le_refl _, by omega, fun j h => absurd h (by omega)⟩ ?_ ?_
  · (repeat' (first | (refine VS.mk ?_) | exact trivial | exact rfl | refine And.intro ?_ ?_))
  rintro k ⟨hik, hks, hall⟩
  have hget : (s.drop i).getD (k - i) 0 = s.getD k 0 := by rw [List.getD_eq_getElem?_getD, List.getElem?_drop, List.getD_eq_getElem?_getD, show i + (k - i) = k by omega]
  have hend : (k < s.length → p (s.getD k 0) = false) → k = i + spanF p (s.drop i) := fun h => by
    have := span_eq (p := p) (l := s.drop i) (k := k - i) (by rw [List.length_drop]; omega) hall fun hl => by rw [hget]; exact h (by rw [List.length_drop] at hl; omega)
    omega
  have hmore : p (s.getD k 0) = true → ∀ j, j < k + 1 - i → p ((s.drop i).getD j 0) = true := fun h j hj => by
    by_cases e : j = k - i
    · rw [e, hget]; exact h
    · exact hall j (by omega)
  refine vcOk _ ?_
  (all_goals refine qgp ?_ <;> (repeat' first | exact trivial | intro hc | refine And.intro ?_ ?_) <;> refine Lf.mk ?_)
  · refine call_p hg (s.getD k 0) trivial (VS.mk (LeL.of_eq (by rw [Int.toNat_natCast]; rfl))) ?_
    (all_goals refine qgp ?_ <;> (repeat' first | exact trivial | intro hc | refine And.intro ?_ ?_) <;> refine Lf.mk ?_)
    · have hm := hmore hc
      refine loop_end (k + 1) ⟨by omega, by omega, hm⟩ (by omega) ?_
      (repeat' (first | (refine VS.mk ?_) | exact trivial | exact rfl | refine And.intro ?_ ?_))
    · have e := hend fun _ => by simpa using hc
      refine end_mk (And.intro (VS.mk ?_) (VS.mk ?_))
      · show D.str _ = D.str ((s.take (i + spanF p (s.drop i))).drop i)
        rw [← e, Int.toNat_natCast, Int.toNat_natCast]
      · show rdO s k = rdO s (i + spanF p (s.drop i))
        rw [← e]
  · have e := hend fun h => absurd h (by omega)
    refine end_mk (And.intro (VS.mk ?_) (VS.mk ?_))
    · show D.str _ = D.str ((s.take (i + spanF p (s.drop i))).drop i)
      rw [← e, Int.toNat_natCast, Int.toNat_natCast]
    · show rdO s k = rdO s (i + spanF p (s.drop i))
      rw [← e]
end Go.Proofs.YtdhpodgaeholmaaDoor

/-
  A number of a word, and what is wrong with it.
-/
namespace Go.Proofs.YtdhpodgaeholmaaDoor
open Go Go.Plat
open Go Go.Plat
set_option linter.unusedVariables false
set_option linter.unusedSimpArgs false
set_option maxRecDepth 100000
set_option maxHeartbeats 2000000
attribute [local irreducible] NilS LookS NormM bitI BytesS NormL Arith QuoS RemS ShlS ShrS BitS CatS SplitS SideS IdxS CallS LoopEnd EndS ModeS DrawS AWP Meets
attribute [local irreducible] letterB digitB kindB okC numR wordC numC lexF lexL spanF digV puR puF

theorem syntax_meets : Meets Tryd.prog n_strconv_syntaxError (SpecP (fun ((a, s) : List UInt8 × List UInt8) => s.length ≤ 1000000000) (fun (a, s) => [.str a, .str s]) fun _ => .any) := by
  refine meets_lib ⟨_, Tryd.func125, by decide, rfl⟩ ?_
  rintro ⟨a, s⟩ hs w F hg vs hl hv
  have hs : s.length ≤ 1000000000 := hs
  match vs, hl with
  | [x, y], _ =>
    cases hv 0 _ x rfl rfl
    cases hv 1 _ y rfl rfl
    obtain ⟨u, v, hcell⟩ := (hg 6 _ (by kernel_rfl)).2.2.2 rfl
    refine (Go.Proofs.Tryd.strconv_syntaxError ⟨a.toArray⟩ ⟨s.toArray⟩ _ w (by show s.toArray.size ≤ _; simp; omega) hcell (.inr ⟨_, _, rfl⟩)).mono ?_
    rintro e w' ⟨N, rfl, _, _, hb⟩
    exact ⟨_, rfl, .below hb, .any _⟩
theorem range_meets : Meets Tryd.prog n_strconv_rangeError (SpecP (fun ((a, s) : List UInt8 × List UInt8) => s.length ≤ 1000000000) (fun (a, s) => [.str a, .str s]) fun _ => .any) := by
  refine meets_lib ⟨_, Tryd.func126, by decide, rfl⟩ ?_
  rintro ⟨a, s⟩ hs w F hg vs hl hv
  have hs : s.length ≤ 1000000000 := hs
  match vs, hl with
  | [x, y], _ =>
    cases hv 0 _ x rfl rfl
    cases hv 1 _ y rfl rfl
    obtain ⟨u, v, hcell⟩ := (hg 7 _ (by kernel_rfl)).2.2.2 rfl
    refine (Go.Proofs.Tryd.strconv_rangeError ⟨a.toArray⟩ ⟨s.toArray⟩ _ w (by show s.toArray.size ≤ _; simp; omega) hcell (.inr ⟨_, _, rfl⟩)).mono ?_
    rintro e w' ⟨N, rfl, _, _, hb⟩
    exact ⟨_, rfl, .below hb, .any _⟩
theorem toerr_meets : Meets Tryd.prog n_strconv_toError (SpecP (fun ((a, s, b, c, e) : List UInt8 × List UInt8 × Int × Int × Int) => s.length ≤ 1000000000 ∧ (e = 1 ∨ e = 2)) (fun (a, s, b, c, e) => [.str a, .str s, .int .i64 b, .int .i64 c, .iface 180 (.int .i64 e)])
    fun _ => .iface 181 .any) := by
  refine meets_f tabOk Tryd.func104 rfl (by decide) ?_
  rintro ⟨a, s, b, c, e⟩ ⟨hs, he⟩
  refine ⟨Nat.le_refl _, by simp [Tryd.f104], fun E hE => ?_⟩
  rcases he with rfl | rfl
  all_goals
    refine vcOk _ ?_
    (all_goals refine qgp ?_ <;> (repeat' first | exact trivial | intro hc | refine And.intro ?_ ?_) <;> refine Lf.mk ?_)
    all_goals (try refine ifeq_mk (by kernel_rfl) ?_)
    (all_goals refine qgp ?_ <;> (repeat' first | exact trivial | intro hc | refine And.intro ?_ ?_) <;> refine Lf.mk ?_)
    all_goals first
      | (exfalso; refine absurd trivial ?_; assumption)
      | skip
    all_goals (try refine ifeq_mk (by kernel_rfl) ?_)
    (all_goals refine qgp ?_ <;> (repeat' first | exact trivial | intro hc | refine And.intro ?_ ?_) <;> refine Lf.mk ?_)
    all_goals first
      | (exfalso; refine absurd trivial ?_; assumption)
      | skip
    all_goals first
      | (refine call_p syntax_meets (a, s) hs (VS.mk (LeL.of_eq rfl)) ?_)
      | (refine call_p range_meets (a, s) hs (VS.mk (LeL.of_eq rfl)) ?_)
      | skip
    (all_goals refine qgp ?_ <;> (repeat' first | exact trivial | intro hc | refine And.intro ?_ ?_) <;> refine Lf.mk ?_)
    all_goals first
      | exact end_p (VS.mk (LeD.of_eq rfl))
      | (exfalso; refine absurd hc ?_; decide)
      | skip
theorem parse_uint_meets : Meets Tryd.prog n_strconv_ParseUint (SpecP (fun ((s, b) : List UInt8 × Int) => s.length ≤ 1000000000 ∧ (b = 10 ∨ b = 16)) (fun (s, b) => [.str s, .int .i64 b, .int .i64 32])
    fun (s, b) => .tup [.int .u64 (puR b s).1, if (puR b s).2 = 0 then .nilif else .iface 181 .any]) := by
  refine meets_f tabOk Tryd.func88 rfl (by decide) ?_
  rintro ⟨s, b⟩ ⟨hs, hb⟩
  refine ⟨Nat.le_refl _, by simp [Tryd.f88], fun E hE => ?_⟩
  have hcode := pu_code b s
  refine vcOk _ ?_
  (all_goals refine qgp ?_ <;> (repeat' first | exact trivial | intro hc | refine And.intro ?_ ?_) <;> refine Lf.mk ?_)
  refine call_p parse_in_meets (s, b) ⟨hs, hb⟩ (VS.mk (LeL.of_eq rfl)) ?_
  dsimp only
  generalize puR b s = R at *
  obtain ⟨n, e⟩ := R
  dsimp only at hcode
  unfold puD
  dsimp only
  by_cases he : e = 0
  · rw [if_pos he, if_pos he]
    (all_goals refine qgp ?_ <;> (repeat' first | exact trivial | intro hc | refine And.intro ?_ ?_) <;> refine Lf.mk ?_)
    all_goals first
      | (exfalso; exact Bool.noConfusion hc)
      | skip
    exact end_p (VS.mk (LeD.of_eq rfl))
  · rw [if_neg he, if_neg he]
    (all_goals refine qgp ?_ <;> (repeat' first | exact trivial | intro hc | refine And.intro ?_ ?_) <;> refine Lf.mk ?_)
    all_goals first
      | (exfalso; exact Bool.noConfusion hc)
      | (exfalso; refine absurd hc ?_; decide)
      | skip
    refine call_p toerr_meets ([80, 97, 114, 115, 101, 85, 105, 110, 116], s, b, 32, e) ⟨hs, by omega⟩ (VS.mk (LeL.of_eq rfl)) ?_
    (all_goals refine qgp ?_ <;> (repeat' first | exact trivial | intro hc | refine And.intro ?_ ?_) <;> refine Lf.mk ?_)
    exact end_p (VS.mk (LeD.of_eq rfl))
end Go.Proofs.YtdhpodgaeholmaaDoor

/-
  Tokens of a line: of words, numbers and signs with blanks between.
-/
namespace Go.Proofs.YtdhpodgaeholmaaDoor
open Go Go.Plat
set_option linter.unusedVariables false
set_option linter.unusedSimpArgs false
set_option maxRecDepth 100000
set_option maxHeartbeats 2000000
attribute [local irreducible] NilS LookS NormM bitI BytesS NormL Arith QuoS RemS ShlS ShrS BitS CatS SplitS SideS IdxS CallS LoopEnd EndS ModeS DrawS AWP Meets
attribute [local irreducible] nameB

/-- a text ends here, or a blank is next -/
def Stop : List UInt8 → Prop
  | [] => True
  | c :: _ => c = 32
theorem kind_all : ∀ k : Fin 256, (48 ≤ k.val ∧ k.val ≤ 57 → kindB (UInt8.ofNat k.val) = 48) ∧ (letterB (UInt8.ofNat k.val) = true → kindB (UInt8.ofNat k.val) = 97) ∧
    (digitB (UInt8.ofNat k.val) = true → kindB (UInt8.ofNat k.val) = 48) := by decide +kernel
theorem kind_dig {c : UInt8} (h : 48 ≤ c.toNat ∧ c.toNat ≤ 57) : kindB c = 48 := by
  have := (kind_all ⟨c.toNat, c.toNat_lt⟩).1 h
  simpa using this
theorem kind_let {c : UInt8} (h : letterB c = true) : kindB c = 97 := by
  have := (kind_all ⟨c.toNat, c.toNat_lt⟩).2.1
  simp only [UInt8.ofNat_toNat] at this
  exact this h
theorem kind_dgt {c : UInt8} (h : digitB c = true) : kindB c = 48 := by
  have := (kind_all ⟨c.toNat, c.toNat_lt⟩).2.2
  simp only [UInt8.ofNat_toNat] at this
  exact this h
theorem nat_dig {d : Nat} (h : d < 10) : (UInt8.ofNat (48 + d)).toNat = 48 + d := by rw [UInt8.toNat_ofNat']; omega
attribute [local irreducible] letterB digitB kindB okC
theorem span_all {p : UInt8 → Bool} {s rest : List UInt8} (h : ∀ c ∈ s, p c = true) (hr : Stop rest) (h32 : p 32 = false) : s.length = spanF p (s ++ rest) := by
  refine span_eq (by rw [List.length_append]; omega) (fun j hj => ?_) (fun hl => ?_)
  · rw [List.getD_eq_getElem?_getD, List.getElem?_append_left hj, List.getElem?_eq_getElem hj]
    exact h _ (List.getElem_mem hj)
  · rw [List.getD_eq_getElem?_getD, List.getElem?_append_right (Nat.le_refl _), Nat.sub_self]
    match rest, hr with
    | [], _ => rw [List.length_append] at hl; simp at hl
    | c :: r, hr => obtain rfl : c = 32 := hr; exact h32
theorem lex_blank (r : List UInt8) (out : List LTok) : lexL (32 :: r) out = lexL r out := by
  rw [lexL_cons, if_pos (by decide +kernel)]
theorem lex_word {c : UInt8} {s rest : List UInt8} (h0 : kindB c = 97) (h : ∀ x ∈ c :: s, wordC x = true) (hr : Stop rest) (out : List LTok) :
    lexL (c :: s ++ rest) out = lexL rest (out ++ [⟨1, 0, c :: s⟩]) := by
  have e := span_all h hr (by decide +kernel)
  rw [List.cons_append, lexL_cons, if_neg (by rw [h0]; decide), if_pos h0]
  rw [← List.cons_append, ← e, List.drop_left, List.take_left]
theorem lex_num {c : UInt8} {s rest : List UInt8} {n : Int} (h0 : kindB c = 48) (h : ∀ x ∈ c :: s, numC x = true) (hn : numR (c :: s) = (n, true)) (hr : Stop rest) (out : List LTok) :
    lexL (c :: s ++ rest) out = lexL rest (out ++ [⟨2, n, []⟩]) := by
  have e := span_all h hr (by decide +kernel)
  rw [List.cons_append, lexL_cons, if_neg (by rw [h0]; decide), if_neg (by rw [h0]; decide), if_pos h0]
  rw [← List.cons_append, ← e, List.drop_left, List.take_left, hn]
  rw [if_pos rfl]
theorem lex_sign1 {c : UInt8} (h0 : kindB c = 0) (h1 : c ≠ 59) (h2 : c ≠ 60) (h3 : c ≠ 62) (h4 : signsB.contains c = true) (r : List UInt8) (out : List LTok) :
    lexL (c :: r) out = lexL r (out ++ [⟨3, 0, [c]⟩]) := by
  rw [lexL_cons, if_neg (by rw [h0]; decide), if_neg (by rw [h0]; decide), if_neg (by rw [h0]; decide), if_neg h1, if_neg, if_pos h4]
  rintro (h | h)
  · rw [List.take_succ_cons] at h
    exact h2 (List.cons.inj h).1
  · rw [List.take_succ_cons] at h
    exact h3 (List.cons.inj h).1
theorem lex_shift {c : UInt8} (h : c = 60 ∨ c = 62) (r : List UInt8) (out : List LTok) : lexL (c :: c :: r) out = lexL r (out ++ [⟨3, 0, [c, c]⟩]) := by
  rw [lexL_cons]
  rcases h with rfl | rfl
  · rw [if_neg (by decide +kernel), if_neg (by decide +kernel), if_neg (by decide +kernel), if_neg (by decide), if_pos (.inl rfl)]; rfl
  · rw [if_neg (by decide +kernel), if_neg (by decide +kernel), if_neg (by decide +kernel), if_neg (by decide), if_pos (.inr rfl)]; rfl

theorem dec_dig : ∀ u : Nat, ∀ c ∈ Lib.decDigits u, 48 ≤ c.toNat ∧ c.toNat ≤ 57 := fun u => by
  induction u using Nat.strongRecOn with
  | _ u ih =>
    intro c hc
    rw [Lib.decDigits] at hc
    split at hc
    · rw [List.mem_singleton] at hc
      rw [hc, nat_dig (by omega)]; omega
    · rcases List.mem_append.1 hc with h | h
      · exact ih _ (by omega) c h
      · rw [List.mem_singleton] at h
        rw [h, nat_dig (by omega)]; omega
theorem dig_ofNat {d : Nat} (h : d < 10) : digV 10 (UInt8.ofNat (48 + d)) = d := by
  have e : (UInt8.ofNat (48 + d)).toNat = 48 + d := nat_dig h
  rw [(dig_def 10 _).1 (by rw [e]; omega), e]; omega
theorem num_dec : ∀ (u : Nat), u < 4294967296 → ∀ r : List UInt8, numF 10 (Lib.decDigits u ++ r) 0 = numF 10 r u := fun u => by
  induction u using Nat.strongRecOn with
  | _ u ih =>
    intro hu r
    rw [Lib.decDigits]
    split
    · rename_i h
      rw [List.cons_append, List.nil_append, numF, dig_ofNat h, if_neg (by omega)]
      congr 1; omega
    · rename_i h
      rw [List.append_assoc, ih (u / 10) (by omega) (by omega), List.cons_append, List.nil_append, numF, dig_ofNat (by omega), if_neg (by omega)]
      congr 1; omega
theorem dec_ne (u : Nat) : Lib.decDigits u ≠ [] := by
  rw [Lib.decDigits]
  split <;> simp
theorem num_of_dec {u : Nat} (hu : u < 4294967296) : numR (Lib.decDigits u) = ((u : Int), true) := by
  have h1 := num_dec u hu []
  rw [List.append_nil] at h1
  have h2 : ¬ (2 < (Lib.decDigits u).length ∧ (Lib.decDigits u).take 2 = [48, 120]) := by
    rintro ⟨h, h3⟩
    have : (120 : UInt8) ∈ (Lib.decDigits u).take 2 := by rw [h3]; simp
    have := dec_dig u _ (List.mem_of_mem_take this)
    exact absurd this.2 (by decide)
  unfold numR numRb
  rw [if_neg h2, h1]
  show ((u : Int), decide (((u : Int)) < 4294967296 ∧ Lib.decDigits u ≠ [])) = _
  rw [decide_eq_true ⟨by omega, dec_ne u⟩]
theorem lex_dec {u : Nat} (hu : u < 4294967296) {rest : List UInt8} (hr : Stop rest) (out : List LTok) : lexL (Lib.decDigits u ++ rest) out = lexL rest (out ++ [⟨2, u, []⟩]) := by
  have hn := num_of_dec hu
  have hd := dec_dig u
  have hne := dec_ne u
  generalize Lib.decDigits u = l at *
  cases l with
  | nil => exact absurd rfl hne
  | cons c s =>
    refine lex_num (kind_dig (hd c List.mem_cons_self)) (fun x hx => num_yes (.inr (kind_dig (hd x hx)))) hn hr out
end Go.Proofs.YtdhpodgaeholmaaDoor

/-
  What is behind a ; is nothing; blanks are nothing.
-/
namespace Go.Proofs.YtdhpodgaeholmaaDoor
open Go Go.Plat
set_option linter.unusedVariables false
set_option linter.unusedSimpArgs false
set_option maxRecDepth 100000
set_option maxHeartbeats 2000000
attribute [local irreducible] NilS LookS NormM bitI BytesS NormL Arith QuoS RemS ShlS ShrS BitS CatS SplitS SideS IdxS CallS LoopEnd EndS ModeS DrawS AWP Meets
attribute [local irreducible] letterB digitB kindB okC numR wordC numC lexF lexL

def blankC (c : UInt8) : Bool := decide (kindB c = 32)
theorem lex_skip : ∀ (l : List UInt8) (out : List LTok), lexL l out = lexL (l.drop (spanF blankC l)) out
  | [], out => rfl
  | c :: r, out => by
    rw [spanF]
    by_cases h : blankC c = true
    · rw [if_pos h, List.drop_succ_cons, lexL_cons, if_pos (of_decide_eq_true h)]
      exact lex_skip r out
    · rw [if_neg h, List.drop_zero]
theorem span_sub {p q : UInt8 → Bool} (h : ∀ c, p c = true → q c = true) : ∀ l : List UInt8, spanF p (l.takeWhile q) = spanF p l ∧ (l.takeWhile q).drop (spanF p l) = (l.drop (spanF p l)).takeWhile q ∧ (l.takeWhile q).take (spanF p l) = l.take (spanF p l)
  | [] => ⟨rfl, rfl, rfl⟩
  | c :: r => by
    obtain ⟨h1, h2, h3⟩ := span_sub h r
    rw [List.takeWhile_cons]
    by_cases hp : p c = true
    · rw [h c hp, if_pos rfl]
      have e : ∀ x : List UInt8, spanF p (c :: x) = spanF p x + 1 := fun x => by rw [spanF, if_pos hp]
      rw [e, e, h1]
      refine ⟨rfl, ?_, ?_⟩
      · rw [List.drop_succ_cons, List.drop_succ_cons, h2]
      · rw [List.take_succ_cons, List.take_succ_cons, h3]
    · have e : ∀ x : List UInt8, spanF p (c :: x) = 0 := fun x => by rw [spanF, if_neg hp]
      rw [e]
      refine ⟨?_, ?_, ?_⟩
      · split
        · exact e _
        · rfl
      · rw [List.drop_zero, List.drop_zero, List.takeWhile_cons]
      · rw [List.take_zero, List.take_zero]
theorem word_59 (c : UInt8) (h : wordC c = true) : (c != 59) = true := by
  rw [bne_iff_ne]
  rintro rfl
  exact absurd h (by decide +kernel)
theorem num_59 (c : UInt8) (h : numC c = true) : (c != 59) = true := by
  rw [bne_iff_ne]
  rintro rfl
  exact absurd h (by decide +kernel)
theorem lex_cut : ∀ (n : Nat) (l : List UInt8) (out : List LTok), l.length ≤ n → lexL l out = lexL (l.takeWhile (· != 59)) out
  | _, [], out, _ => rfl
  | 0, _ :: _, out, h => by simp at h
  | n + 1, c :: r, out, h => by
    have h : r.length ≤ n := by simpa using h
    have ih := lex_cut n
    have hd : ∀ k, 1 ≤ k → ((c :: r).drop k).length ≤ n := fun k hk => by rw [List.length_drop, List.length_cons]; omega
    by_cases h59 : c = 59
    · subst h59
      rw [List.takeWhile_cons, if_neg (by decide), lexL_cons, if_neg (by decide +kernel), if_neg (by decide +kernel), if_neg (by decide +kernel), if_pos rfl, lexL_nil]
    have e : (c :: r).takeWhile (· != 59) = c :: r.takeWhile (· != 59) := by rw [List.takeWhile_cons, if_pos (by rw [bne_iff_ne]; exact h59)]
    rw [lexL_cons]
    by_cases h1 : kindB c = 32
    · rw [if_pos h1, e, lexL_cons, if_pos h1]
      exact ih _ _ h
    rw [if_neg h1]
    by_cases h2 : kindB c = 97
    · obtain ⟨q1, q2, q3⟩ := span_sub word_59 (c :: r)
      rw [if_pos h2, ih _ _ (hd _ (word_first h2)), ← q2, ← q3, ← q1, e]
      rw [lexL_cons, if_neg h1, if_pos h2]
    rw [if_neg h2]
    by_cases h3 : kindB c = 48
    · obtain ⟨q1, q2, q3⟩ := span_sub num_59 (c :: r)
      rw [if_pos h3, ih _ _ (hd _ (num_first h3)), ← q2, ← q3, ← q1, e]
      rw [lexL_cons c (r.takeWhile _), if_neg h1, if_neg h2, if_pos h3]
    rw [if_neg h3, if_neg h59]
    have hs : ∀ x : UInt8, x ≠ 59 → ((c :: r).take 2 = [x, x] ↔ (c :: r.takeWhile (· != 59)).take 2 = [x, x]) ∧ ((c :: r).take 2 = [x, x] → (r.drop 1).takeWhile (· != 59) = (r.takeWhile (· != 59)).drop 1) := fun x hx => by
      cases r with
      | nil => exact ⟨Iff.rfl, fun _ => rfl⟩
      | cons b r =>
        rw [List.takeWhile_cons]
        by_cases hb : b = 59
        · subst hb
          refine ⟨⟨fun h => ?_, fun h => ?_⟩, fun h => ?_⟩
          · exact absurd (List.cons.inj (List.cons.inj h).2).1.symm hx
          · rw [if_neg (by decide)] at h; cases (List.cons.inj h).2
          · exact absurd (List.cons.inj (List.cons.inj h).2).1.symm hx
        · rw [if_pos (by rw [bne_iff_ne]; exact hb)]
          exact ⟨Iff.rfl, fun _ => rfl⟩
    obtain ⟨s1, s2⟩ := hs 60 (by decide)
    obtain ⟨s3, s4⟩ := hs 62 (by decide)
    have hr1 : (r.drop 1).length ≤ n := by rw [List.length_drop]; omega
    by_cases h4 : (c :: r).take 2 = [60, 60] ∨ (c :: r).take 2 = [62, 62]
    · have e2 : (r.drop 1).takeWhile (· != 59) = (r.takeWhile (· != 59)).drop 1 := h4.elim s2 s4
      have h5 : (c :: r.takeWhile (· != 59)).take 2 = [60, 60] ∨ (c :: r.takeWhile (· != 59)).take 2 = [62, 62] := h4.imp s1.1 s3.1
      have e3 : (c :: r).take 2 = (c :: r.takeWhile (· != 59)).take 2 := by
        rcases h4 with h | h
        · rw [h, s1.1 h]
        · rw [h, s3.1 h]
      rw [if_pos h4, ih _ _ hr1, e2, e3, e, lexL_cons, if_neg h1, if_neg h2, if_neg h3, if_neg h59, if_pos h5]
    · have h5 : ¬ ((c :: r.takeWhile (· != 59)).take 2 = [60, 60] ∨ (c :: r.takeWhile (· != 59)).take 2 = [62, 62]) := fun h => h4 (h.imp s1.2 s3.2)
      rw [if_neg h4, e, lexL_cons, if_neg h1, if_neg h2, if_neg h3, if_neg h59, if_neg h5]
      split
      · exact ih _ _ h
      · rfl
theorem cut_lex (l : List UInt8) (out : List LTok) : lexL l out = lexL (l.takeWhile (· != 59)) out := lex_cut _ l out (Nat.le_refl _)
end Go.Proofs.YtdhpodgaeholmaaDoor

/-
  A number of a line.
-/
namespace Go.Proofs.YtdhpodgaeholmaaDoor
open Go Go.Plat
open Go Go.Plat
set_option linter.unusedVariables false
set_option linter.unusedSimpArgs false
set_option maxRecDepth 100000
set_option maxHeartbeats 2000000
attribute [local irreducible] NilS LookS NormM bitI BytesS NormL Arith QuoS RemS ShlS ShrS BitS CatS SplitS SideS IdxS CallS LoopEnd EndS ModeS DrawS AWP Meets
attribute [local irreducible] letterB digitB kindB okC numR wordC numC blankC lexF lexL spanF digV puR puF

theorem kinds_all : ∀ k : Fin 256, numC (UInt8.ofNat k.val) = (digitB (UInt8.ofNat k.val) || (letterB (UInt8.ofNat k.val) && UInt8.ofNat k.val != 46)) ∧
    wordC (UInt8.ofNat k.val) = (letterB (UInt8.ofNat k.val) || digitB (UInt8.ofNat k.val) || UInt8.ofNat k.val == 47) ∧
    blankC (UInt8.ofNat k.val) = (UInt8.ofNat k.val == 32 || UInt8.ofNat k.val == 9 || UInt8.ofNat k.val == 13) ∧
    (letterB (UInt8.ofNat k.val) = true → kindB (UInt8.ofNat k.val) = 97) ∧
    (letterB (UInt8.ofNat k.val) = false → digitB (UInt8.ofNat k.val) = true → kindB (UInt8.ofNat k.val) = 48) ∧
    (letterB (UInt8.ofNat k.val) = false → digitB (UInt8.ofNat k.val) = false → blankC (UInt8.ofNat k.val) = false → kindB (UInt8.ofNat k.val) ≠ 97 ∧ kindB (UInt8.ofNat k.val) ≠ 48 ∧ kindB (UInt8.ofNat k.val) ≠ 32) := by decide +kernel
theorem kinds_of (c : UInt8) : numC c = (digitB c || (letterB c && c != 46)) ∧ wordC c = (letterB c || digitB c || c == 47) ∧ blankC c = (c == 32 || c == 9 || c == 13) ∧ (letterB c = true → kindB c = 97) ∧
    (letterB c = false → digitB c = true → kindB c = 48) ∧ (letterB c = false → digitB c = false → blankC c = false → kindB c ≠ 97 ∧ kindB c ≠ 48 ∧ kindB c ≠ 32) := by
  have := kinds_all ⟨c.toNat, c.toNat_lt⟩
  simp only [UInt8.ofNat_toNat] at this
  exact this
theorem byte_eq {c : UInt8} {k : Nat} (hk : k < 256) : ((c.toNat : Nat) : Int) = (k : Nat) ↔ c = UInt8.ofNat k := by
  constructor
  · intro h
    have h : c.toNat = k := by exact_mod_cast h
    rw [← h, UInt8.ofNat_toNat]
  · intro h
    rw [h, UInt8.toNat_ofNat']
    have : k % 2 ^ 8 = k := Nat.mod_eq_of_lt hk
    rw [this]
theorem byte_beq (c d : UInt8) : (((c.toNat : Nat) : Int) == ((d.toNat : Nat) : Int)) = (c == d) := by
  by_cases h : c = d
  · rw [h]; simp
  · rw [beq_eq_false_iff_ne.2 h, beq_eq_false_iff_ne]
    intro e
    exact h (UInt8.toNat_inj.1 (by exact_mod_cast e))
theorem byte_no {c d : UInt8} (h : ¬ ((c.toNat : Nat) : Int) = ((d.toNat : Nat) : Int)) : (c == d) = false := by
  rw [← byte_beq]; exact beq_eq_false_iff_ne.2 h
theorem byte_yes {c d : UInt8} (h : ((c.toNat : Nat) : Int) = ((d.toNat : Nat) : Int)) : c = d := UInt8.toNat_inj.1 (by exact_mod_cast h)
theorem blank_meets : Meets Tryd.prog n_scan_Tokens_1 (SpecP (fun _ : UInt8 => True) (fun c => [byteD c]) fun c => .bool (blankC c)) := by
  refine meets_f tabOk Tryd.func64 rfl (by decide) fun c _ => ?_
  refine ⟨Nat.le_refl _, by simp [Tryd.f64], fun E hE => ?_⟩
  have hk := (kinds_of c).2.2.1
  rw [hk]
  refine vcOk _ ?_
  (all_goals refine qgp ?_ <;> (repeat' first | exact trivial | intro hc | refine And.intro ?_ ?_) <;> refine Lf.mk ?_)
  · obtain rfl : c = 32 := byte_yes hc
    exact end_p (VS.mk (LeD.tt rfl))
  · obtain rfl : c = 9 := byte_yes hc
    exact end_p (VS.mk (LeD.tt rfl))
  · have h1 : (c == 32) = false := byte_no (by assumption)
    have h2 : (c == 9) = false := byte_no hc
    exact end_p (VS.mk (LeD.of_eq (congrArg D.bool (by rw [h1, h2]; exact byte_beq c 13))))
theorem word_meets : Meets Tryd.prog n_scan_Tokens_2 (SpecP (fun _ : UInt8 => True) (fun c => [byteD c]) fun c => .bool (wordC c)) := by
  refine meets_f tabOk Tryd.func66 rfl (by decide) fun c _ => ?_
  refine ⟨Nat.le_refl _, by simp [Tryd.f66], fun E hE => ?_⟩
  have hk := (kinds_of c).2.1
  refine vcOk _ ?_
  (all_goals refine qgp ?_ <;> (repeat' first | exact trivial | intro hc | refine And.intro ?_ ?_) <;> refine Lf.mk ?_)
  refine call_p letter_meets c trivial (VS.mk (LeL.of_eq rfl)) ?_
  generalize letterB c = x at *
  (all_goals refine qgp ?_ <;> (repeat' first | exact trivial | intro hc | refine And.intro ?_ ?_) <;> refine Lf.mk ?_)
  all_goals (try refine call_p digit_meets c trivial (VS.mk (LeL.of_eq rfl)) ?_)
  generalize digitB c = y at *
  (all_goals refine qgp ?_ <;> (repeat' first | exact trivial | intro hc | refine And.intro ?_ ?_) <;> refine Lf.mk ?_)
  · exact end_p (VS.mk (LeD.tt (by rw [hk, hc]; rfl)))
  · exact end_p (VS.mk (LeD.tt (by rw [hk, hc, Bool.or_true]; rfl)))
  · have h1 : x = false := by assumption
    exact end_p (VS.mk (LeD.of_eq (congrArg D.bool (by rw [hk, hc, h1]; exact byte_beq c 47))))
theorem numc_meets : Meets Tryd.prog n_scan_reader_number_1 (SpecP (fun _ : UInt8 => True) (fun c => [byteD c]) fun c => .bool (numC c)) := by
  refine meets_f tabOk Tryd.func87 rfl (by decide) fun c _ => ?_
  refine ⟨Nat.le_refl _, by simp [Tryd.f87], fun E hE => ?_⟩
  have hk := (kinds_of c).1
  refine vcOk _ ?_
  (all_goals refine qgp ?_ <;> (repeat' first | exact trivial | intro hc | refine And.intro ?_ ?_) <;> refine Lf.mk ?_)
  refine call_p digit_meets c trivial (VS.mk (LeL.of_eq rfl)) ?_
  generalize digitB c = x at *
  (all_goals refine qgp ?_ <;> (repeat' first | exact trivial | intro hc | refine And.intro ?_ ?_) <;> refine Lf.mk ?_)
  all_goals (try refine call_p letter_meets c trivial (VS.mk (LeL.of_eq rfl)) ?_)
  generalize letterB c = y at *
  (all_goals refine qgp ?_ <;> (repeat' first | exact trivial | intro hc | refine And.intro ?_ ?_) <;> refine Lf.mk ?_)
  · exact end_p (VS.mk (LeD.tt (by rw [hk, hc]; rfl)))
  · have h1 : x = false := by assumption
    refine end_p (VS.mk (LeD.of_eq (congrArg D.bool ?_)))
    rw [hk, hc, h1]
    show (!(((c.toNat : Nat) : Int) == 46)) = !(c == 46)
    exact congrArg (!·) (byte_beq c 46)
  · have h1 : x = false := by assumption
    exact end_p (VS.mk (LeD.ff (by rw [hk, hc, h1]; rfl)))
theorem us_dig : digV 10 95 = -1 ∧ digV 16 95 = -1 := by unfold digV; decide
theorem pu_us {b : Int} (hb : b = 10 ∨ b = 16) : ∀ (s : List UInt8) (n : Int), (puF b s n).2 = 0 → s.contains 95 = false
  | [], n, h => rfl
  | c :: r, n, h => by
    have hu := us_dig
    rw [puF] at h
    split at h
    · cases h
    rename_i hd
    split at h
    · cases h
    have ih := pu_us hb r _ h
    rw [List.contains_cons, ih, Bool.or_false, beq_eq_false_iff_ne]
    rintro rfl
    rcases hb with rfl | rfl <;> omega
def numTok (w : List UInt8) : LTok × Int := if (numR w).2 = true then (⟨2, (numR w).1, []⟩, 0) else (⟨0, 0, []⟩, 2)
def tokRD (p : LTok × Int) : D := .tup [ltokD p.1, .int .i64 p.2]
/-- which base, and which digits -/
theorem numR_pu (w : List UInt8) : (2 < w.length ∧ w.take 2 = [48, 120] → ((puR 16 (w.drop 2)).2 = 0 ∧ numR w = ((puR 16 (w.drop 2)).1, true) ∧ 0 ≤ (puR 16 (w.drop 2)).1 ∧ (puR 16 (w.drop 2)).1 ≤ 4294967295 ∧ w.contains 95 = false) ∨ ((puR 16 (w.drop 2)).2 ≠ 0 ∧ (numR w).2 = false)) ∧
    (¬ (2 < w.length ∧ w.take 2 = [48, 120]) → ((puR 10 w).2 = 0 ∧ numR w = ((puR 10 w).1, true) ∧ 0 ≤ (puR 10 w).1 ∧ (puR 10 w).1 ≤ 4294967295 ∧ w.contains 95 = false) ∨ ((puR 10 w).2 ≠ 0 ∧ (numR w).2 = false)) := by
  have us : ∀ {b : Int}, (b = 10 ∨ b = 16) → ∀ s, (puR b s).2 = 0 → s.contains 95 = false := fun {b} hb s h => by
    unfold puR at h
    split at h
    · cases h
    · exact pu_us hb s 0 h
  constructor
  · intro h
    have e : numR w = numRb 16 (w.drop 2) := by unfold numR; rw [if_pos h]
    rw [e]
    rcases pu_numR (.inr rfl) (w.drop 2) with ⟨h1, h2, h3, h4⟩ | h1
    · left
      refine ⟨h1, h2, h3, h4, ?_⟩
      have h5 := us (.inr rfl) _ h1
      rw [← List.take_append_drop 2 w, h.2, List.cons_append, List.cons_append, List.nil_append, List.contains_cons, List.contains_cons, h5]
      rfl
    · exact .inr h1
  · intro h
    have e : numR w = numRb 10 w := by unfold numR; rw [if_neg h]
    rw [e]
    rcases pu_numR (.inl rfl) w with ⟨h1, h2, h3, h4⟩ | h1
    · exact .inl ⟨h1, h2, h3, h4, us (.inl rfl) _ h1⟩
    · exact .inr h1
theorem snumber_meets : Meets Tryd.prog n_scan_reader_number (SpecF (fun ((s, i) : List UInt8 × Nat) => i ≤ s.length ∧ s.length ≤ 1000000000) (fun _ => [.loc 0 0]) (fun (s, i) => rdO s i)
    (fun (s, i) => tokRD (numTok ((s.take (i + spanF numC (s.drop i))).drop i))) fun (s, i) => rdO s (i + spanF numC (s.drop i))) := by
  refine meets_f tabOk Tryd.func68 rfl (by decide) ?_
  rintro ⟨s, i⟩ ⟨hi, hs⟩
  refine ⟨Nat.le_refl _, by simp [Tryd.f68], fun E hE => ?_⟩
  refine vcOk _ ?_
  (all_goals refine qgp ?_ <;> (repeat' first | exact trivial | intro hc | refine And.intro ?_ ?_) <;> refine Lf.mk ?_)
  refine call_f (run_meets numc_meets) [0] [0] (s, i) ⟨hi, hs⟩ rfl rfl ?_
  refine And.intro (VS.mk (LeL.of_eq rfl)) (And.intro (VS.mk rfl) ?_)
  dsimp only
  have hw : ((s.take (i + spanF numC (s.drop i))).drop i).length ≤ 1000000000 := by rw [List.length_drop, List.length_take]; omega
  generalize (s.take (i + spanF numC (s.drop i))).drop i = w at *
  have hN := numR_pu w
  (all_goals refine qgp ?_ <;> (repeat' first | exact trivial | intro hc | refine And.intro ?_ ?_) <;> refine Lf.mk ?_)
  refine call_p parse_uint_meets (w, 10) ⟨hw, .inl rfl⟩ (VS.mk (LeL.of_eq rfl)) ?_
  dsimp only
  generalize puR 10 w = R10 at *
  obtain ⟨n10, e10⟩ := R10
  dsimp only at hN ⊢
  have hbad : (numR w).2 = false → numTok w = (⟨0, 0, []⟩, 2) := fun h => by unfold numTok; rw [h, if_neg (by decide)]
  have hgood : ∀ n, numR w = (n, true) → numTok w = (⟨2, n, []⟩, 0) := fun n h => by unfold numTok; rw [h]; rfl
  have hdd : List.drop (Int.toNat 2) (List.take ((w.length : Int)).toNat w) = w.drop 2 := by rw [Int.toNat_natCast, List.take_length]; rfl
  have hx : 2 < w.length → List.drop (Int.toNat 0) (List.take (Int.toNat 2) w) = [48, 120] → 2 < w.length ∧ w.take 2 = [48, 120] := fun h1 h2 => ⟨h1, h2⟩
  by_cases hxx : 2 < w.length ∧ w.take 2 = [48, 120]
  · have hN := hN.1 hxx
    have hx1 := hxx.1
    have hx2 : List.drop (Int.toNat 0) (List.take (Int.toNat 2) w) = [48, 120] := hxx.2
    by_cases he : e10 = 0
    · rw [if_pos he]
      (all_goals refine qgp ?_ <;> (repeat' first | exact trivial | intro hc | refine And.intro ?_ ?_) <;> refine Lf.mk ?_)
      all_goals first
        | (exfalso; exact absurd hx2 (by assumption))
        | skip
      refine call_p parse_uint_meets (w.drop 2, 16) ⟨by rw [List.length_drop]; omega, .inr rfl⟩ (VS.mk (LeL.of_eq (by rw [hdd]; try rfl))) ?_
      dsimp only
      generalize puR 16 (w.drop 2) = R16 at *
      obtain ⟨n16, e16⟩ := R16
      dsimp only at hN ⊢
      rcases hN with ⟨h1, h2, h3, h4, h5⟩ | ⟨h1, h2⟩
      · rw [if_pos h1]
        (all_goals refine qgp ?_ <;> (repeat' first | exact trivial | intro hc | refine And.intro ?_ ?_) <;> refine Lf.mk ?_)
        all_goals first
          | (exfalso; refine absurd trivial ?_; assumption)
          | (exfalso; exact Bool.noConfusion hc)
          | (exfalso; refine absurd hc ?_; decide)
          | skip
        refine call_p contains_meets (w, 95) trivial (VS.mk (LeL.of_eq rfl)) ?_
        dsimp only
        rw [h5]
        (all_goals refine qgp ?_ <;> (repeat' first | exact trivial | intro hc | refine And.intro ?_ ?_) <;> refine Lf.mk ?_)
        all_goals first
          | (exfalso; refine absurd trivial ?_; assumption)
          | (exfalso; exact Bool.noConfusion hc)
          | (exfalso; refine absurd hc ?_; decide)
          | skip
        refine end_mk (And.intro (VS.mk ?_) (VS.mk rfl))
        show _ = tokRD (numTok w)
        rw [hgood _ h2]; rfl
      · rw [if_neg h1]
        (all_goals refine qgp ?_ <;> (repeat' first | exact trivial | intro hc | refine And.intro ?_ ?_) <;> refine Lf.mk ?_)
        all_goals first
          | (exfalso; refine absurd trivial ?_; assumption)
          | (exfalso; exact Bool.noConfusion hc)
          | (exfalso; refine absurd hc ?_; decide)
          | skip
        refine end_mk (And.intro (VS.mk ?_) (VS.mk rfl))
        show _ = tokRD (numTok w)
        rw [hbad h2]; rfl
    · rw [if_neg he]
      (all_goals refine qgp ?_ <;> (repeat' first | exact trivial | intro hc | refine And.intro ?_ ?_) <;> refine Lf.mk ?_)
      all_goals first
        | (exfalso; exact absurd hx2 (by assumption))
        | skip
      refine call_p parse_uint_meets (w.drop 2, 16) ⟨by rw [List.length_drop]; omega, .inr rfl⟩ (VS.mk (LeL.of_eq (by rw [hdd]; try rfl))) ?_
      dsimp only
      generalize puR 16 (w.drop 2) = R16 at *
      obtain ⟨n16, e16⟩ := R16
      dsimp only at hN ⊢
      rcases hN with ⟨h1, h2, h3, h4, h5⟩ | ⟨h1, h2⟩
      · rw [if_pos h1]
        (all_goals refine qgp ?_ <;> (repeat' first | exact trivial | intro hc | refine And.intro ?_ ?_) <;> refine Lf.mk ?_)
        all_goals first
          | (exfalso; refine absurd trivial ?_; assumption)
          | (exfalso; exact Bool.noConfusion hc)
          | (exfalso; refine absurd hc ?_; decide)
          | skip
        refine call_p contains_meets (w, 95) trivial (VS.mk (LeL.of_eq rfl)) ?_
        dsimp only
        rw [h5]
        (all_goals refine qgp ?_ <;> (repeat' first | exact trivial | intro hc | refine And.intro ?_ ?_) <;> refine Lf.mk ?_)
        all_goals first
          | (exfalso; refine absurd trivial ?_; assumption)
          | (exfalso; exact Bool.noConfusion hc)
          | (exfalso; refine absurd hc ?_; decide)
          | skip
        refine end_mk (And.intro (VS.mk ?_) (VS.mk rfl))
        show _ = tokRD (numTok w)
        rw [hgood _ h2]; rfl
      · rw [if_neg h1]
        (all_goals refine qgp ?_ <;> (repeat' first | exact trivial | intro hc | refine And.intro ?_ ?_) <;> refine Lf.mk ?_)
        all_goals first
          | (exfalso; refine absurd trivial ?_; assumption)
          | (exfalso; exact Bool.noConfusion hc)
          | (exfalso; refine absurd hc ?_; decide)
          | skip
        refine end_mk (And.intro (VS.mk ?_) (VS.mk rfl))
        show _ = tokRD (numTok w)
        rw [hbad h2]; rfl
  · rcases hN.2 hxx with ⟨h1, h2, h3, h4, h5⟩ | ⟨h1, h2⟩
    · rw [if_pos h1]
      (all_goals refine qgp ?_ <;> (repeat' first | exact trivial | intro hc | refine And.intro ?_ ?_) <;> refine Lf.mk ?_)
      all_goals first
        | (exfalso; exact hxx (hx (by omega) (by assumption)))
        | (exfalso; refine absurd trivial ?_; assumption)
        | (exfalso; exact Bool.noConfusion hc)
        | (exfalso; refine absurd hc ?_; decide)
        | skip
      all_goals
        refine call_p contains_meets (w, 95) trivial (VS.mk (LeL.of_eq rfl)) ?_
        dsimp only
        rw [h5]
      (all_goals refine qgp ?_ <;> (repeat' first | exact trivial | intro hc | refine And.intro ?_ ?_) <;> refine Lf.mk ?_)
      all_goals first
        | (exfalso; refine absurd trivial ?_; assumption)
        | (exfalso; exact Bool.noConfusion hc)
        | skip
      all_goals
        refine end_mk (And.intro (VS.mk ?_) (VS.mk rfl))
        show _ = tokRD (numTok w)
        rw [hgood _ h2]; rfl
    · rw [if_neg h1]
      (all_goals refine qgp ?_ <;> (repeat' first | exact trivial | intro hc | refine And.intro ?_ ?_) <;> refine Lf.mk ?_)
      all_goals first
        | (exfalso; exact hxx (hx (by omega) (by assumption)))
        | (exfalso; refine absurd trivial ?_; assumption)
        | (exfalso; exact Bool.noConfusion hc)
        | (exfalso; refine absurd hc ?_; decide)
        | skip
      all_goals
        refine end_mk (And.intro (VS.mk ?_) (VS.mk rfl))
        show _ = tokRD (numTok w)
        rw [hbad h2]; rfl
end Go.Proofs.YtdhpodgaeholmaaDoor

/-
  A sign of a line.
-/
namespace Go.Proofs.YtdhpodgaeholmaaDoor
open Go Go.Plat
open Go Go.Plat
set_option linter.unusedVariables false
set_option linter.unusedSimpArgs false
set_option maxRecDepth 100000
set_option maxHeartbeats 2000000
attribute [local irreducible] NilS LookS NormM bitI BytesS NormL Arith QuoS RemS ShlS ShrS BitS CatS SplitS SideS IdxS CallS LoopEnd EndS ModeS DrawS AWP Meets
attribute [local irreducible] letterB digitB kindB okC numR wordC numC blankC lexF lexL spanF

def signT (s : List UInt8) (i : Nat) : (LTok × Int) × Nat :=
  if (s.drop i).take 2 = [60, 60] then ((⟨3, 0, [60, 60]⟩, 0), i + 2) else if (s.drop i).take 2 = [62, 62] then ((⟨3, 0, [62, 62]⟩, 0), i + 2)
  else if signsB.contains (s.getD i 0) = true then ((⟨3, 0, [s.getD i 0]⟩, 0), i + 1) else ((⟨0, 0, []⟩, 2), i)
def tokRD' (p : LTok × Int) : D := .tup [ltokD p.1, .int .i64 p.2]
theorem ssign_meets : Meets Tryd.prog n_scan_reader_sign (SpecF (fun ((s, i) : List UInt8 × Nat) => i < s.length ∧ s.length ≤ 1000000000) (fun _ => [.loc 0 0]) (fun (s, i) => rdO s i)
    (fun (s, i) => tokRD' (signT s i).1) fun (s, i) => rdO s (signT s i).2) := by
  refine meets_f tabOk Tryd.func69 rfl (by decide) ?_
  rintro ⟨s, i⟩ ⟨hi, hs⟩
  refine ⟨Nat.le_refl _, by simp [Tryd.f69], fun E hE => ?_⟩
  have hi : i < s.length := hi
  have hs : s.length ≤ 1000000000 := hs
  refine vcOk _ ?_
  (all_goals refine qgp ?_ <;> (repeat' first | exact trivial | intro hc | refine And.intro ?_ ?_) <;> refine Lf.mk ?_)
  refine awp_loop (α := Nat) (fun k => k ≤ 2 ∧ (1 ≤ k → (s.drop i).take 2 ≠ [60, 60]) ∧ (2 ≤ k → (s.drop i).take 2 ≠ [62, 62]))
    (fun k => [(0, .loc 0 0), (2, .loc 1 0), (7, .sl 1 [.str [60, 60], .str [62, 62]] none), (8, .int .i64 2), (9, .int .i64 k)])
    (fun k => rdO s i ++ [.cells [.int .i64 0, .int .i64 0, .str []]]) (fun k => 2 - k) (fun _ => by simp [hE, rdO]) 0 ⟨by decide, fun h => absurd h (by decide), fun h => absurd h (by decide)⟩ ?_ ?_
  · (repeat' (first | (refine VS.mk ?_) | exact trivial | exact rfl | refine And.intro ?_ ?_))
  rintro k ⟨hk, h1, h2⟩
  have hd : ∀ x : List UInt8, x.length = 2 → (decide ((s.drop i).take x.length = x) = true ↔ (s.drop i).take 2 = x) := fun x hx => by rw [hx, decide_eq_true_iff]
  have hk3 : k = 0 ∨ k = 1 ∨ k = 2 := by omega
  rcases hk3 with rfl | rfl | rfl
  all_goals refine vcOk _ ?_
  (all_goals refine qgp ?_ <;> (repeat' first | exact trivial | intro hc | refine And.intro ?_ ?_) <;> refine Lf.mk ?_)
  · refine call_p prefix_meets (s.drop i, [60, 60]) ⟨by rw [List.length_drop]; omega, by decide⟩ (VS.mk (LeL.of_eq (by rw [Int.toNat_natCast, Int.toNat_natCast, List.take_length]))) ?_
    (all_goals refine qgp ?_ <;> (repeat' first | exact trivial | intro hc | refine And.intro ?_ ?_) <;> refine Lf.mk ?_)
    · have h := (hd [60, 60] rfl).1 (by simpa using hc)
      have e : signT s i = ((⟨3, 0, [60, 60]⟩, 0), i + 2) := by unfold signT; rw [if_pos h]
      refine end_mk (And.intro (VS.mk ?_) (VS.mk ?_))
      · show _ = tokRD' (signT s i).1
        rw [e]; rfl
      · show _ = rdO s (signT s i).2
        rw [e]; rfl
    · have h : (s.drop i).take 2 ≠ [60, 60] := fun h => absurd ((hd [60, 60] rfl).2 h) (by simpa using hc)
      refine loop_end 1 ⟨by decide, fun _ => h, fun h => absurd h (by decide)⟩ (by decide) ?_
      (repeat' (first | (refine VS.mk ?_) | exact trivial | exact rfl | refine And.intro ?_ ?_))
  · refine call_p prefix_meets (s.drop i, [62, 62]) ⟨by rw [List.length_drop]; omega, by decide⟩ (VS.mk (LeL.of_eq (by rw [Int.toNat_natCast, Int.toNat_natCast, List.take_length]))) ?_
    (all_goals refine qgp ?_ <;> (repeat' first | exact trivial | intro hc | refine And.intro ?_ ?_) <;> refine Lf.mk ?_)
    · have h := (hd [62, 62] rfl).1 (by simpa using hc)
      have e : signT s i = ((⟨3, 0, [62, 62]⟩, 0), i + 2) := by unfold signT; rw [if_neg (h1 (by decide)), if_pos h]
      refine end_mk (And.intro (VS.mk ?_) (VS.mk ?_))
      · show _ = tokRD' (signT s i).1
        rw [e]; rfl
      · show _ = rdO s (signT s i).2
        rw [e]; rfl
    · have h : (s.drop i).take 2 ≠ [62, 62] := fun h => absurd ((hd [62, 62] rfl).2 h) (by simpa using hc)
      refine loop_end 2 ⟨by decide, fun _ => h1 (by decide), fun _ => h⟩ (by decide) ?_
      (repeat' (first | (refine VS.mk ?_) | exact trivial | exact rfl | refine And.intro ?_ ?_))
  · have hone : List.drop ((i : Int)).toNat (List.take ((i : Int) + 1).toNat s) = [s.getD i 0] := by
      rw [Int.toNat_natCast, show ((i : Int) + 1).toNat = i + 1 by omega, List.drop_take, drop_cons (d := 0) hi, show i + 1 - i = 1 by omega]; rfl
    refine call_p contains_meets (signsB, s.getD i 0) trivial (VS.mk (LeL.of_eq (by rw [hone]; rfl))) ?_
    (all_goals refine qgp ?_ <;> (repeat' first | exact trivial | intro hc | refine And.intro ?_ ?_) <;> refine Lf.mk ?_)
    · have e : signT s i = ((⟨0, 0, []⟩, 2), i) := by unfold signT; rw [if_neg (h1 (by decide)), if_neg (h2 (by decide)), if_neg (by rw [hc]; decide)]
      refine end_mk (And.intro (VS.mk ?_) (VS.mk ?_))
      · show _ = tokRD' (signT s i).1
        rw [e]; rfl
      · show _ = rdO s (signT s i).2
        rw [e]; rfl
    · have e : signT s i = ((⟨3, 0, [s.getD i 0]⟩, 0), i + 1) := by unfold signT; rw [if_neg (h1 (by decide)), if_neg (h2 (by decide)), if_pos hc]
      refine end_mk (And.intro (VS.mk ?_) (VS.mk ?_))
      · show _ = tokRD' (signT s i).1
        rw [e, hone]; rfl
      · show _ = rdO s (signT s i).2
        rw [e]; rfl
end Go.Proofs.YtdhpodgaeholmaaDoor

/-
  Tokens of a line: the walk.
-/
namespace Go.Proofs.YtdhpodgaeholmaaDoor
open Go Go.Plat
open Go Go.Plat
set_option linter.unusedVariables false
set_option linter.unusedSimpArgs false
set_option maxRecDepth 100000
set_option maxHeartbeats 2000000
attribute [local irreducible] NilS LookS NormM bitI BytesS NormL Arith QuoS RemS ShlS ShrS BitS CatS SplitS SideS IdxS CallS LoopEnd EndS ModeS DrawS AWP Meets
attribute [local irreducible] letterB digitB kindB okC numR wordC numC blankC lexF lexL spanF digV puR puF numTok signT

theorem tw_mem {p : UInt8 → Bool} : ∀ {l : List UInt8} {x : UInt8}, x ∈ l.takeWhile p → p x = true
  | [], x, h => by simp at h
  | a :: l, x, h => by
    rw [List.takeWhile_cons] at h
    split at h
    · rename_i ha
      rcases List.mem_cons.1 h with rfl | h
      · exact ha
      · exact tw_mem h
    · simp at h
theorem scan_tokens_meets : Meets Tryd.prog n_scan_Tokens (SpecP (fun s : List UInt8 => s.length ≤ 1000000000) (fun s => [.str s]) fun s => lexRD (lexR s)) := by
  refine meets_f tabOk Tryd.func23 rfl (by decide) ?_
  intro s hs
  refine ⟨Nat.le_refl _, by simp [Tryd.f23], fun E hE => ?_⟩
  have hR := lexR_eq s
  refine vcOk _ ?_
  (all_goals refine qgp ?_ <;> (repeat' first | exact trivial | intro hc | refine And.intro ?_ ?_) <;> refine Lf.mk ?_)
  · rw [if_pos (by omega)] at hR
    refine end_p (VS.mk ?_)
    rw [hR]
    exact .tup (.cons (.nil 3) (.cons (.refl _) .nil))
  rw [if_neg (by omega)] at hR
  refine call_p cut_meets (s, 59) hs (VS.mk (LeL.of_eq rfl)) ?_
  unfold cutD cutT
  dsimp only
  have hno : ∀ x ∈ s.takeWhile (· != 59), x ≠ 59 := fun x hx => by
    have := tw_mem hx
    simpa using this
  have hul : (s.takeWhile (· != 59)).length ≤ s.length := (List.takeWhile_prefix _).length_le
  rw [cut_lex] at hR
  generalize s.takeWhile (· != 59) = u at *
  (all_goals refine qgp ?_ <;> (repeat' first | exact trivial | intro hc | refine And.intro ?_ ?_) <;> refine Lf.mk ?_)
  refine awp_weak (weak_nil 5 3 rfl) ?_
  refine awp_loop (α := Nat × List LTok) (fun p => p.1 ≤ u.length ∧ p.2.length ≤ p.1 ∧ lexL u [] = lexL (u.drop p.1) p.2)
    (fun p => [(4, .loc 0 0), (5, .sl 3 (p.2.map ltokD) (some 1))])
    (fun p => rdO u p.1 ++ [.spare p.2.length]) (fun p => u.length - p.1) (fun _ => by simp [hE]) (0, []) ⟨Nat.zero_le _, Nat.le_refl _, rfl⟩ ?_ ?_
  · (repeat' (first | (refine VS.mk ?_) | exact trivial | exact rfl | refine And.intro ?_ ?_))
  rintro ⟨i, out⟩ ⟨hi, ho, hf⟩
  dsimp only at hi ho hf ⊢
  have hj1 : i + spanF blankC (u.drop i) ≤ u.length := by have := span_le blankC (u.drop i); rw [List.length_drop] at this; omega
  have hj2 : lexL u [] = lexL (u.drop (i + spanF blankC (u.drop i))) out := by rw [hf, lex_skip, List.drop_drop]
  have hj3 : i + spanF blankC (u.drop i) < u.length → blankC (u.getD (i + spanF blankC (u.drop i)) 0) = false := fun h => by
    have := span_end blankC (u.drop i) (by rw [List.length_drop]; omega)
    rwa [List.getD_eq_getElem?_getD, List.getElem?_drop, ← List.getD_eq_getElem?_getD] at this
  have hj4 : i ≤ i + spanF blankC (u.drop i) := Nat.le_add_right _ _
  refine vcOk _ ?_
  (all_goals refine qgp ?_ <;> (repeat' first | exact trivial | intro hc | refine And.intro ?_ ?_) <;> refine Lf.mk ?_)
  refine call_f (run_meets blank_meets) [0] [0] (u, i) ⟨hi, by omega⟩ rfl rfl ?_
  refine And.intro (VS.mk (LeL.of_eq rfl)) (And.intro (VS.mk rfl) ?_)
  dsimp only
  generalize i + spanF blankC (u.drop i) = j at *
  (all_goals refine qgp ?_ <;> (repeat' first | exact trivial | intro hc | refine And.intro ?_ ?_) <;> refine Lf.mk ?_)
  · rw [List.drop_of_length_le (by omega), lexL_nil] at hj2
    rw [hj2] at hR
    refine end_p (VS.mk ?_)
    rw [hR]
    (first | exact LeL.refl _ | (repeat' (first | exact LeL.nil | exact LeD.refl _ | exact LeD.nil _ | exact LeD.strip _ _ _ | refine LeL.cons ?_ ?_ | refine LeD.tup ?_ | refine LeD.agg ?_)))
  have hjl : j < u.length := by omega
  obtain ⟨c, hcx⟩ : ∃ c, u.getD j 0 = c := ⟨_, rfl⟩
  obtain ⟨r, hr⟩ : ∃ r, u.drop (j + 1) = r := ⟨_, rfl⟩
  have hd : u.drop j = c :: r := by rw [drop_cons (d := 0) hjl, hcx, hr]
  have h59 : c ≠ 59 := hno c (by rw [← hcx, List.getD_eq_getElem?_getD, List.getElem?_eq_getElem hjl]; exact List.getElem_mem hjl)
  have hK := kinds_of c
  have hbl := hj3 hjl
  rw [hcx] at hbl
  rw [hd, lexL_cons] at hj2
  refine call_p letter_meets c trivial (VS.mk (LeL.of_eq (by rw [Int.toNat_natCast, hcx]; rfl))) ?_
  (all_goals refine qgp ?_ <;> (repeat' first | exact trivial | intro hc | refine And.intro ?_ ?_) <;> refine Lf.mk ?_)
  · have hk97 := hK.2.2.2.1 hc
    have h1 := word_first (r := r) hk97
    have h2 := span_le wordC (c :: r)
    rw [if_neg (by rw [hk97]; decide), if_pos hk97, ← hd, List.drop_drop] at hj2
    rw [← hd] at h1 h2
    rw [List.length_drop] at h2
    refine call_f (run_meets word_meets) [0] [0] (u, j) ⟨hj1, by omega⟩ rfl rfl ?_
    refine And.intro (VS.mk (LeL.of_eq rfl)) (And.intro (VS.mk rfl) ?_)
    dsimp only
    rw [List.drop_take, Nat.add_sub_cancel_left]
    generalize spanF wordC (u.drop j) = sp at *
    (all_goals refine qgp ?_ <;> (repeat' first | exact trivial | intro hc | refine And.intro ?_ ?_) <;> refine Lf.mk ?_)
    all_goals first
      | (exfalso; refine absurd hc ?_; decide)
      | skip
    refine loop_end (j + sp, out ++ [⟨1, 0, (u.drop j).take sp⟩]) ⟨by dsimp only; omega, by dsimp only; rw [List.length_append, List.length_cons, List.length_nil]; omega, hj2⟩ (by dsimp only; omega) ?_
    (repeat' (first | (refine VS.mk ?_) | exact trivial | exact rfl | refine And.intro ?_ ?_))
    all_goals (first | rfl | simp [ltokD, rdO])
  refine call_p digit_meets c trivial (VS.mk (LeL.of_eq (by rw [Int.toNat_natCast, hcx]; rfl))) ?_
  have hl : letterB c = false := hc
  (all_goals refine qgp ?_ <;> (repeat' first | exact trivial | intro hc | refine And.intro ?_ ?_) <;> refine Lf.mk ?_)
  · have hk48 := hK.2.2.2.2.1 hl hc
    have h1 := num_first (r := r) hk48
    have h2 := span_le numC (c :: r)
    rw [if_neg (by rw [hk48]; decide), if_neg (by rw [hk48]; decide), if_pos hk48, ← hd, List.drop_drop] at hj2
    rw [← hd] at h1 h2
    rw [List.length_drop] at h2
    refine call_f snumber_meets [0] [0] (u, j) ⟨hj1, by omega⟩ rfl rfl ?_
    refine And.intro (VS.mk (LeL.of_eq rfl)) (And.intro (VS.mk rfl) ?_)
    dsimp only
    rw [List.drop_take, Nat.add_sub_cancel_left]
    generalize spanF numC (u.drop j) = sp at *
    generalize (u.drop j).take sp = w at *
    have hT : numTok w = if (numR w).2 = true then (⟨2, (numR w).1, []⟩, 0) else (⟨0, 0, []⟩, 2) := by unfold numTok; rfl
    by_cases hn : (numR w).2 = true
    · rw [if_pos hn] at hj2 hT
      rw [hT]
      (all_goals refine qgp ?_ <;> (repeat' first | exact trivial | intro hc | refine And.intro ?_ ?_) <;> refine Lf.mk ?_)
      all_goals first
        | (exfalso; refine absurd hc ?_; decide)
        | skip
      refine loop_end (j + sp, out ++ [⟨2, (numR w).1, []⟩]) ⟨by dsimp only; omega, by dsimp only; rw [List.length_append, List.length_cons, List.length_nil]; omega, hj2⟩ (by dsimp only; omega) ?_
      (repeat' (first | (refine VS.mk ?_) | exact trivial | exact rfl | refine And.intro ?_ ?_))
      all_goals (first | rfl | simp [ltokD, rdO])
    · rw [if_neg hn] at hj2 hT
      rw [hT]
      rw [hj2] at hR
      (all_goals refine qgp ?_ <;> (repeat' first | exact trivial | intro hc | refine And.intro ?_ ?_) <;> refine Lf.mk ?_)
      all_goals first
        | (exfalso; refine absurd hc ?_; decide)
        | skip
      refine end_p (VS.mk ?_)
      rw [hR]
      exact .tup (.cons (.nil 3) (.cons (.refl _) .nil))
  · obtain ⟨k1, k2, k3⟩ := hK.2.2.2.2.2 hl hc hbl
    rw [if_neg k3, if_neg k1, if_neg k2, if_neg h59] at hj2
    refine call_f ssign_meets [0] [0] (u, j) ⟨hjl, by omega⟩ rfl rfl ?_
    refine And.intro (VS.mk (LeL.of_eq rfl)) (And.intro (VS.mk rfl) ?_)
    dsimp only
    have hS : signT u j = if (u.drop j).take 2 = [60, 60] then ((⟨3, 0, [60, 60]⟩, 0), j + 2) else if (u.drop j).take 2 = [62, 62] then ((⟨3, 0, [62, 62]⟩, 0), j + 2)
        else if signsB.contains (u.getD j 0) = true then ((⟨3, 0, [u.getD j 0]⟩, 0), j + 1) else ((⟨0, 0, []⟩, 2), j) := by unfold signT; rfl
    rw [hcx, hd] at hS
    have hr1 : r.drop 1 = u.drop (j + 2) := by rw [← hr, List.drop_drop]
    have two : ∀ x : UInt8, (c :: r).take 2 = [x, x] → j + 2 ≤ u.length := fun x h => by
      have := congrArg List.length h
      rw [← hd, List.length_take, List.length_drop] at this
      simp at this
      omega
    by_cases q1 : (c :: r).take 2 = [60, 60]
    · have := two 60 q1
      rw [if_pos (.inl q1), hr1, q1] at hj2
      rw [if_pos q1] at hS
      rw [hS]
      (all_goals refine qgp ?_ <;> (repeat' first | exact trivial | intro hc | refine And.intro ?_ ?_) <;> refine Lf.mk ?_)
      all_goals first
        | (exfalso; refine absurd hc ?_; decide)
        | skip
      refine loop_end (j + 2, out ++ [⟨3, 0, [60, 60]⟩]) ⟨by dsimp only; omega, by dsimp only; rw [List.length_append, List.length_cons, List.length_nil]; omega, hj2⟩ (by dsimp only; omega) ?_
      (repeat' (first | (refine VS.mk ?_) | exact trivial | exact rfl | refine And.intro ?_ ?_))
      all_goals (first | rfl | simp [ltokD, rdO])
    by_cases q2 : (c :: r).take 2 = [62, 62]
    · have := two 62 q2
      rw [if_pos (.inr q2), hr1, q2] at hj2
      rw [if_neg q1, if_pos q2] at hS
      rw [hS]
      (all_goals refine qgp ?_ <;> (repeat' first | exact trivial | intro hc | refine And.intro ?_ ?_) <;> refine Lf.mk ?_)
      all_goals first
        | (exfalso; refine absurd hc ?_; decide)
        | skip
      refine loop_end (j + 2, out ++ [⟨3, 0, [62, 62]⟩]) ⟨by dsimp only; omega, by dsimp only; rw [List.length_append, List.length_cons, List.length_nil]; omega, hj2⟩ (by dsimp only; omega) ?_
      (repeat' (first | (refine VS.mk ?_) | exact trivial | exact rfl | refine And.intro ?_ ?_))
      all_goals (first | rfl | simp [ltokD, rdO])
    rw [if_neg (fun h => h.elim q1 q2)] at hj2
    rw [if_neg q1, if_neg q2] at hS
    by_cases q3 : signsB.contains c = true
    · rw [if_pos q3, ← hr] at hj2
      rw [if_pos q3] at hS
      rw [hS]
      (all_goals refine qgp ?_ <;> (repeat' first | exact trivial | intro hc | refine And.intro ?_ ?_) <;> refine Lf.mk ?_)
      all_goals first
        | (exfalso; refine absurd hc ?_; decide)
        | skip
      refine loop_end (j + 1, out ++ [⟨3, 0, [c]⟩]) ⟨by dsimp only; omega, by dsimp only; rw [List.length_append, List.length_cons, List.length_nil]; omega, hj2⟩ (by dsimp only; omega) ?_
      (repeat' (first | (refine VS.mk ?_) | exact trivial | exact rfl | refine And.intro ?_ ?_))
      all_goals (first | rfl | simp [ltokD, rdO])
    · rw [if_neg q3] at hj2 hS
      rw [hS]
      rw [hj2] at hR
      (all_goals refine qgp ?_ <;> (repeat' first | exact trivial | intro hc | refine And.intro ?_ ?_) <;> refine Lf.mk ?_)
      all_goals first
        | (exfalso; refine absurd hc ?_; decide)
        | skip
      refine end_p (VS.mk ?_)
      rw [hR]
      exact .tup (.cons (.nil 3) (.cons (.refl _) .nil))
end Go.Proofs.YtdhpodgaeholmaaDoor

/-
  A text split at a byte.
-/
namespace Go.Proofs.YtdhpodgaeholmaaDoor
open Go Go.Plat
open Go Go.Plat
set_option linter.unusedVariables false
set_option linter.unusedSimpArgs false
set_option maxRecDepth 100000
set_option maxHeartbeats 2000000
attribute [local irreducible] NilS LookS NormM bitI BytesS NormL Arith QuoS RemS ShlS ShrS BitS CatS SplitS SideS IdxS CallS LoopEnd EndS ModeS DrawS AWP Meets
attribute [local irreducible] letterB digitB kindB okC numR wordC numC lexF lexL spanF

def splitC (c : UInt8) : List UInt8 → List (List UInt8)
  | [] => [[]]
  | b :: l => if b = c then [] :: splitC c l else match splitC c l with
    | [] => [[b]]
    | x :: r => (b :: x) :: r
theorem split_len (c : UInt8) : ∀ s, (splitC c s).length = s.count c + 1
  | [] => rfl
  | b :: l => by
    have ih := split_len c l
    rw [splitC, List.count_cons]
    by_cases h : b = c
    · rw [if_pos h, h]; simp; omega
    · rw [if_neg h]
      have e : (b == c) = false := beq_eq_false_iff_ne.2 h
      rw [e]
      cases hl : splitC c l with
      | nil => rw [hl] at ih; simp at ih
      | cons x r => rw [hl] at ih; simpa using ih
theorem split_has (c : UInt8) : ∀ s : List UInt8, (s.contains c = false → splitC c s = [s]) ∧ (s.contains c = true → splitC c s = s.takeWhile (· != c) :: splitC c ((s.dropWhile (· != c)).drop 1))
  | [] => ⟨fun _ => rfl, fun h => by simp at h⟩
  | b :: l => by
    obtain ⟨h1, h2⟩ := split_has c l
    rw [splitC, List.contains_cons, List.takeWhile_cons, List.dropWhile_cons]
    by_cases h : b = c
    · subst h
      refine ⟨fun h => by simp at h, fun _ => ?_⟩
      rw [if_pos rfl]
      simp
    · have e : (b == c) = false := beq_eq_false_iff_ne.2 h
      have e1 : (c == b) = false := beq_eq_false_iff_ne.2 fun q => h q.symm
      have e2 : (b != c) = true := by simp [bne, e]
      rw [if_neg h, e1, Bool.false_or, e2, if_pos rfl, if_pos rfl]
      refine ⟨fun h => by rw [h1 h], fun h => by rw [h2 h]⟩
theorem count_drop (c : UInt8) (s : List UInt8) (h : s.contains c = true) : s.count c = ((s.dropWhile (· != c)).drop 1).count c + 1 := by
  have h1 := split_len c s
  rw [(split_has c s).2 h, List.length_cons, split_len] at h1
  omega
theorem count_pos {c : UInt8} {s : List UInt8} (h : 0 < s.count c) : s.contains c = true := by
  rw [List.contains_iff_mem]
  exact List.count_pos_iff.1 h
theorem count_none {c : UInt8} {s : List UInt8} (h : s.count c = 0) : s.contains c = false := by
  cases e : s.contains c with
  | false => rfl
  | true =>
    rw [List.contains_iff_mem] at e
    have := List.count_pos_iff.2 e
    omega
theorem norm_rep {n : Nat} {x : D} {K : List D → Nat → Prop} (h : K (List.replicate n x) n) : NormL (List.replicate n x) K := by unfold NormL; rw [List.length_replicate]; exact h
def splA (pre : List (List UInt8)) (m : Nat) : List D := (pre ++ List.replicate m []).map D.str
theorem splA_set (pre : List (List UInt8)) (m : Nat) (x : List UInt8) : (splA pre (m + 1)).set pre.length (.str x) = splA (pre ++ [x]) m := by
  unfold splA
  rw [← List.map_set, List.set_append_right _ _ (Nat.le_refl _), Nat.sub_self, List.replicate_succ, List.set_cons_zero, List.append_assoc]
  rfl
theorem splA_len (pre : List (List UInt8)) (m : Nat) : (splA pre m).length = pre.length + m := by unfold splA; simp
theorem rens_strs {m : Nat → Option Nat} {ds : List D} {K : List D → Prop} (l : List (List UInt8)) (h : ds = l.map D.str) (hK : K (l.map D.str)) : RenS m ds K := by
  subst h
  have hp : ∀ (c : List UInt8), RenOf m (D.str c) (D.str c) := fun c => renOf_pure trivial
  refine ⟨l.map D.str, ⟨rfl, fun i d d' h1 h2 => ?_⟩, fun i d d' h1 h2 => ?_, hK⟩
  all_goals
    rw [h1] at h2
    cases h2
    simp only [List.getElem?_map, Option.map_eq_some_iff] at h1
    obtain ⟨c, _, rfl⟩ := h1
  · exact hp c
  · refine ⟨rfl, rfl, fun j x x' h3 h4 => ?_⟩
    rw [h3] at h4
    cases h4
    cases j with
    | zero => simp [D.cells] at h3; subst h3; exact hp c
    | succ j => simp [D.cells] at h3
theorem strip_strs (l : List (List UInt8)) : StripEls (l.map D.str) (l.map D.str) := by
  refine ⟨rfl, fun i d d' h1 h2 => ?_⟩
  rw [h1] at h2
  cases h2
  simp only [List.getElem?_map, Option.map_eq_some_iff] at h1
  obtain ⟨c, _, rfl⟩ := h1
  refine ⟨rfl, rfl, fun j x x' h3 h4 => ?_⟩
  rw [h3] at h4
  cases h4
  cases j with
  | zero =>
    simp [D.cells] at h3
    subst h3
    intro w F ρ L v h
    cases h with | pure _ _ h => exact h
  | succ j => simp [D.cells] at h3
theorem norm_to {ds ds' : List D} {n : Nat} {K : List D → Nat → Prop} (h : ds = ds') (hn : ds'.length = n) (hK : K ds' n) : NormL ds K := by unfold NormL; subst h; rw [hn]; exact hK
theorem ix_splA {pre : List (List UInt8)} {m : Nat} {n : Int} {K : D → Prop} (hn : n = pre.length) (h : K (.str [])) : IdxS (splA pre (m + 1)) n K :=
  ix_map (enc := D.str) [] (by omega) (by rw [hn, Int.toNat_natCast, List.getElem?_append_right (Nat.le_refl _), Nat.sub_self]; rfl) h
attribute [local irreducible] splA
theorem gsplit_meets : Meets Tryd.prog n_strings_genSplit (SpecP (fun ((s, c) : List UInt8 × UInt8) => s.length ≤ 1000000) (fun (s, c) => [.str s, .str [c], .int .i64 0, .int .i64 (-1)]) fun (s, c) => .sl 1 ((splitC c s).map .str) none) := by
  refine meets_f tabOk Tryd.func92 rfl (by decide) ?_
  rintro ⟨s, c⟩ hs
  have hs : s.length ≤ 1000000 := hs
  have hcl := List.count_le_length (a := c) (l := s)
  refine ⟨Nat.le_refl _, by simp [Tryd.f92], fun E hE => ?_⟩
  refine vcOk _ ?_
  (all_goals refine qgp ?_ <;> (repeat' first | exact trivial | intro hc | refine And.intro ?_ ?_) <;> refine Lf.mk ?_)
  all_goals first
    | (exfalso; exact List.cons_ne_nil _ _ hc)
    | skip
  refine call_p count_meets (s, c) trivial (VS.mk (LeL.of_eq rfl)) ?_
  have hmin : min ((s.count c : Int) + 1) ((s.length : Int) + 1) = ((s.count c + 1 : Nat) : Int) := by omega
  (all_goals refine qgs ?_ <;> (repeat' first | exact trivial | intro hc | refine And.intro ?_ ?_) <;> refine Lf.mk ?_)
  refine md_r ?_
  refine VS.mk (sd_mk ?_ (VS.mk ?_))
  · dsimp only
    refine ⟨by omega, rfl, ?_, by omega⟩
    show min ((s.count c : Int) + 1) ((s.length : Int) + 1) * ((16 : Nat) : Int) ≤ _
    omega
  dsimp only
  rw [hmin, Int.toNat_natCast]
  refine norm_rep ?_
  (all_goals refine qgo ?_ <;> (repeat' first | exact trivial | intro hc | refine And.intro ?_ ?_) <;> refine Lf.mk ?_)
  refine awp_loop (α := List (List UInt8) × List UInt8) (fun p => splitC c s = p.1 ++ splitC c p.2 ∧ p.2.length ≤ s.length ∧ p.1.length + p.2.count c = s.count c)
    (fun p => [(0, .str p.2), (1, .str [c]), (2, .int .i64 0), (3, .int .i64 (s.count c)), (9, .osl 1 0 (s.count c + 1) 0 (s.count c + 1)), (10, .int .i64 p.1.length)])
    (fun p => [.arr 1 (splA p.1 (s.count c + 1 - p.1.length))]) (fun p => p.2.count c) (fun _ => by simp [hE]) ([], s) ⟨rfl, Nat.le_refl _, by simp⟩ ?_ ?_
  · (repeat' (first | (refine VS.mk ?_) | exact trivial | exact rfl | refine And.intro ?_ ?_))
    · refine rens_strs (List.replicate (s.count c + 1) []) (by rw [List.map_replicate]; rfl) ?_
      (repeat' (first | (refine VS.mk ?_) | exact trivial | exact rfl | refine And.intro ?_ ?_))
      unfold splA
      rfl
    · exact congrArg (D.int .i64) (by omega)
  rintro ⟨pre, rest⟩ ⟨hsp, hrl, hct⟩
  dsimp only at hsp hrl hct ⊢
  have hsl := splA_len pre (s.count c - pre.length + 1)
  have hm1 : s.count c + 1 - pre.length = s.count c - pre.length + 1 := by omega
  have hset := fun x => splA_set pre (s.count c - pre.length) x
  have hsl2 := fun x => splA_len (pre ++ [x]) (s.count c - pre.length)
  rw [hm1]
  refine vcOk _ ?_
  (all_goals refine qgo ?_ <;> (repeat' first | exact trivial | intro hc | refine And.intro ?_ ?_) <;> refine Lf.mk ?_)
  · have hct2 : rest.contains c = true := count_pos (by omega)
    have hcd := count_drop c rest hct2
    have hi := index_has c rest
    have hb : -1 ≤ Lib.indexByte rest c ∧ Lib.indexByte rest c ≤ rest.length ∧ (0 ≤ Lib.indexByte rest c → Lib.indexByte rest c < rest.length) := by omega
    have hl1 : ([c] : List UInt8).length = 1 := rfl
    have hpos : 0 ≤ Lib.indexByte rest c := by
      rcases hi with ⟨_, h2, _⟩ | ⟨h1, _⟩
      · rw [hct2] at h2; cases h2
      · exact h1
    refine call_p sindex_meets (rest, c) trivial (VS.mk (LeL.of_eq rfl)) ?_
    (all_goals refine qgp ?_ <;> (repeat' first | exact trivial | intro hc | refine And.intro ?_ ?_) <;> refine Lf.mk ?_)
    refine ix_splA (by omega) ?_
    refine VS.mk ?_
    rcases hi with ⟨h1, _⟩ | ⟨_, _, h3, h4, h5⟩
    · omega
    have hsp2 := (split_has c rest).2 hct2
    rw [← h4] at hsp2 hcd
    generalize Lib.indexByte rest c = ix at *
    generalize hT : rest.takeWhile (· != c) = tw at *
    have htw : rest.take tw.length = tw := by rw [← hT]; exact take_len _ rest
    subst h3
    have hdl : (rest.drop (tw.length + 1)).length ≤ rest.length := by rw [List.length_drop]; omega
    refine norm_to (ds' := splA (pre ++ [tw]) (s.count c - pre.length)) (n := s.count c + 1) ?_ ?_ ?_
    · rw [← hset tw, Nat.zero_add, Int.toNat_natCast, show ((tw.length : Int) + 0).toNat = tw.length by omega, htw]
      rfl
    · rw [hsl2 tw, List.length_append, List.length_cons, List.length_nil]; omega
    (all_goals refine qgp ?_ <;> (repeat' first | exact trivial | intro hc | refine And.intro ?_ ?_) <;> refine Lf.mk ?_)
    have g1 : splitC c s = (pre ++ [tw]) ++ splitC c (rest.drop (tw.length + 1)) := by rw [hsp, hsp2, List.append_assoc]; rfl
    have g2 : (pre ++ [tw]).length + (rest.drop (tw.length + 1)).count c = s.count c := by rw [List.length_append, List.length_cons, List.length_nil]; omega
    refine loop_end (pre ++ [tw], rest.drop (tw.length + 1)) ⟨g1, by dsimp only; omega, g2⟩ (by dsimp only; omega) ?_
    (repeat' (first | (refine VS.mk ?_) | exact trivial | exact rfl | refine And.intro ?_ ?_))
    · refine rens_strs ((pre ++ [tw]) ++ List.replicate (s.count c - pre.length) []) (by unfold splA; rfl) ?_
      (repeat' (first | (refine VS.mk ?_) | exact trivial | exact rfl | refine And.intro ?_ ?_))
      show _ = [Ob.arr 1 (splA (pre ++ [tw]) (s.count c + 1 - (pre ++ [tw]).length))]
      rw [show s.count c + 1 - (pre ++ [tw]).length = s.count c - pre.length by rw [List.length_append, List.length_cons, List.length_nil]; omega]
      unfold splA
      rfl
    · refine congrArg D.str ?_
      dsimp only
      rw [hl1, Int.toNat_natCast, List.take_length, show ((tw.length : Int) + ((1 : Nat) : Int)).toNat = tw.length + 1 by omega]
    · refine congrArg (D.int .i64) ?_
      dsimp only
      rw [List.length_append, List.length_cons, List.length_nil]; omega
  · refine ix_splA (by omega) ?_
    refine VS.mk ?_
    have hno := (split_has c rest).1 (count_none (by omega))
    refine norm_to (ds' := splA (pre ++ [rest]) (s.count c - pre.length)) (n := s.count c + 1) ?_ ?_ ?_
    · rw [← hset rest, Nat.zero_add, Int.toNat_natCast]
    · rw [hsl2 rest, List.length_append, List.length_cons, List.length_nil]; omega
    (all_goals refine qgp ?_ <;> (repeat' first | exact trivial | intro hc | refine And.intro ?_ ?_) <;> refine Lf.mk ?_)
    have hfin : splA (pre ++ [rest]) (s.count c - pre.length) = (splitC c s).map D.str := by
      rw [hsp, hno, show s.count c - pre.length = 0 by omega]
      unfold splA
      rw [List.replicate_zero, List.append_nil]
    rw [hfin]
    have hfl : ((splitC c s).map D.str).length = s.count c + 1 := by rw [List.length_map, split_len]
    rw [show ((pre.length : Int) + 1).toNat - Int.toNat 0 = s.count c + 1 by simp only [Int.toNat_zero]; omega]
    show EndS 0 (.osl 1 0 (s.count c + 1) 0 (s.count c + 1)) _ _ []
    refine end_freeze (k := 0) (e := 1) (els := (splitC c s).map D.str) (els' := (splitC c s).map D.str) rfl (Nat.le_refl _) (strip_strs _) (.here _ _ hfl.symm hfl.symm) ?_ (Nat.le_refl _)
    exact end_p (VS.mk (LeD.of_eq rfl))
theorem split_meets : Meets Tryd.prog n_strings_Split (SpecP (fun ((s, c) : List UInt8 × UInt8) => s.length ≤ 1000000) (fun (s, c) => [.str s, .str [c]]) fun (s, c) => .sl 1 ((splitC c s).map .str) none) := by
  refine meets_f tabOk Tryd.func71 rfl (by decide) ?_
  rintro ⟨s, c⟩ hs
  refine ⟨Nat.le_refl _, by simp [Tryd.f71], fun E hE => ?_⟩
  refine vcOk _ ?_
  (all_goals refine qgp ?_ <;> (repeat' first | exact trivial | intro hc | refine And.intro ?_ ?_) <;> refine Lf.mk ?_)
  refine call_p gsplit_meets (s, c) hs (VS.mk (LeL.of_eq rfl)) ?_
  (all_goals refine qgp ?_ <;> (repeat' first | exact trivial | intro hc | refine And.intro ?_ ?_) <;> refine Lf.mk ?_)
  exact end_p (VS.mk (LeD.of_eq rfl))
end Go.Proofs.YtdhpodgaeholmaaDoor

/-
  Tokens of a line, as the document has them.
-/
namespace Go.Proofs.YtdhpodgaeholmaaDoor
open Go Go.Plat
set_option linter.unusedVariables false
set_option linter.unusedSimpArgs false
set_option maxRecDepth 100000
set_option maxHeartbeats 2000000
attribute [local irreducible] NilS LookS NormM bitI BytesS NormL Arith QuoS RemS ShlS ShrS BitS CatS SplitS SideS IdxS CallS LoopEnd EndS ModeS DrawS AWP Meets
attribute [local irreducible] letterB digitB kindB okC

attribute [local irreducible] digV
theorem rnumber_meets : Meets Tryd.prog n_plref1_number (SpecP (fun w : List UInt8 => w.length ≤ 1000000000) (fun w => [.str w]) fun w => numRD (numR w)) := by
  refine meets_f tabOk Tryd.func38 rfl (by decide) ?_
  intro w hw
  refine ⟨Nat.le_refl _, by simp [Tryd.f38], fun E hE => ?_⟩
  refine vcOk _ ?_
  (all_goals refine qgp ?_ <;> (repeat' first | exact trivial | intro hc | refine And.intro ?_ ?_) <;> refine Lf.mk ?_)
  case' refine_1.refine_1 => obtain ⟨b, hb⟩ : ∃ b : Int, b = 16 := ⟨_, rfl⟩
  case' refine_1.refine_1 => obtain ⟨ds, hds⟩ : ∃ ds : List UInt8, ds = w.drop 2 := ⟨_, rfl⟩
  case' refine_1.refine_1 => have hR : numR w = numRb b ds := by subst hb hds; unfold numR; rw [if_pos ⟨by omega, hc⟩]
  case' refine_1.refine_2 => obtain ⟨b, hb⟩ : ∃ b : Int, b = 10 := ⟨_, rfl⟩
  case' refine_1.refine_2 => obtain ⟨ds, hds⟩ : ∃ ds : List UInt8, ds = w := ⟨_, rfl⟩
  case' refine_1.refine_2 => have hR : numR w = numRb b ds := by subst hb hds; unfold numR; rw [if_neg (fun h => hc h.2)]
  case' refine_2 => obtain ⟨b, hb⟩ : ∃ b : Int, b = 10 := ⟨_, rfl⟩
  case' refine_2 => obtain ⟨ds, hds⟩ : ∃ ds : List UInt8, ds = w := ⟨_, rfl⟩
  case' refine_2 => have hR : numR w = numRb b ds := by subst hb hds; unfold numR; rw [if_neg (fun h => hc (by omega))]
  all_goals
    have hbb : b = 10 ∨ b = 16 := by omega
    have hdl : ds.length ≤ 1000000000 := by subst hds; first | omega | (rw [List.length_drop]; omega)
    refine awp_loop (α := Nat × Int) (fun p => p.1 ≤ ds.length ∧ numRb b ds = numFin ds (numF b (ds.drop p.1) p.2) ∧ 0 ≤ p.2 ∧ p.2 ≤ 68719476735)
      (fun p => [(0, .str w), (4, .int .i64 b), (5, .str ds), (6, .int .i64 p.2), (22, .int .i64 ds.length), (23, .int .i64 p.1)])
      (fun _ => []) (fun p => ds.length - p.1) (fun _ => by simp [hE]) (0, 0) ⟨Nat.zero_le _, rfl, by decide, by decide⟩ ?_ ?_
    · subst hb hds
      (repeat' (first | (refine VS.mk ?_) | exact trivial | exact rfl | refine And.intro ?_ ?_))
      all_goals first
        | rfl
        | (rw [show Int.toNat 2 = 2 from rfl, Int.toNat_natCast, List.take_length])
    rintro ⟨k, n⟩ ⟨hk, hf, hn0, hn1⟩
    dsimp only at hk hf hn0 hn1 ⊢
    clear hb hds
    have hdd := dig_def b (ds.getD ((k : Nat) : Int).toNat 0)
    have hstep : k < ds.length → numR w = numFin ds (if digV b (ds.getD ((k : Nat) : Int).toNat 0) < 0 ∨ 4294967295 < n then none else numF b (ds.drop (k + 1)) (n * b + digV b (ds.getD ((k : Nat) : Int).toNat 0))) := fun h => by
      rw [hR, hf, drop_cons (d := 0) h, numF, Int.toNat_natCast]
    have hlast : k = ds.length → numR w = (n, decide (n < 4294967296 ∧ ds ≠ [])) := fun h => by
      rw [hR, hf, h, List.drop_length]; rfl
    have h48 := lowByte_toNat (((ds.getD ((k : Nat) : Int).toNat 0).toNat : Int) - 48)
    have h97 := lowByte_toNat (((ds.getD ((k : Nat) : Int).toNat 0).toNat : Int) - 97)
    have h65 := lowByte_toNat (((ds.getD ((k : Nat) : Int).toNat 0).toNat : Int) - 65)
    generalize digV b (ds.getD ((k : Nat) : Int).toNat 0) = dv at *
    have hbad : k < ds.length → dv < 0 ∨ 4294967295 < n → numRD (numR w) = .tup [.int .i64 0, .bool false] := fun h h2 => by rw [hstep h, if_pos h2]; rfl
    have hgo : k < ds.length → ¬ (dv < 0 ∨ 4294967295 < n) → numRb b ds = numFin ds (numF b (ds.drop (k + 1)) (n * b + dv)) := fun h h2 => by rw [← hR, hstep h, if_neg h2]
    rcases hbb with rfl | rfl
    · refine vcOk _ ?_
      (all_goals refine qgp ?_ <;> (repeat' first | exact trivial | intro hc | refine And.intro ?_ ?_) <;> refine Lf.mk ?_)
      all_goals first
        | (refine absurd trivial ?_; assumption)
        | (refine end_p (VS.mk ?_)
           rw [hbad ?_ ?_]
           · exact .tup (.cons (.refl _) (.cons (.ff rfl) .nil))
           · omega
           · omega
           done)
        | (refine end_p (VS.mk ?_)
           rw [hlast ?_]
           · first
               | (refine LeD.tup (.cons (.refl _) (.cons (LeD.of_eq (congrArg D.bool (fin_ok ?_))) .nil)); assumption)
               | (refine LeD.tup (.cons (.refl _) (.cons (LeD.ff (fin_bad ?_)) .nil)); assumption)
           · omega
           done)
        | skip
      all_goals
        have i2 := hgo (by omega) (by omega)
        have i3 : 0 ≤ n * 10 + dv := by omega
        have i4 : n * 10 + dv ≤ 68719476735 := by omega
        refine loop_end (k + 1, n * 10 + dv) ⟨by dsimp only; omega, i2, i3, i4⟩ (by dsimp only; omega) ?_
        (repeat' (first | (refine VS.mk ?_) | exact trivial | exact rfl | refine And.intro ?_ ?_))
        all_goals (first | rfl | (refine congrArg (D.int .i64) ?_; omega))
    · refine vcOk _ ?_
      (all_goals refine qgp ?_ <;> (repeat' first | exact trivial | intro hc | refine And.intro ?_ ?_) <;> refine Lf.mk ?_)
      all_goals first
        | (refine absurd trivial ?_; assumption)
        | (refine end_p (VS.mk ?_)
           rw [hbad ?_ ?_]
           · exact .tup (.cons (.refl _) (.cons (.ff rfl) .nil))
           · omega
           · omega
           done)
        | (refine end_p (VS.mk ?_)
           rw [hlast ?_]
           · first
               | (refine LeD.tup (.cons (.refl _) (.cons (LeD.of_eq (congrArg D.bool (fin_ok ?_))) .nil)); assumption)
               | (refine LeD.tup (.cons (.refl _) (.cons (LeD.ff (fin_bad ?_)) .nil)); assumption)
           · omega
           done)
        | skip
      all_goals
        have i2 := hgo (by omega) (by omega)
        have i3 : 0 ≤ n * 16 + dv := by omega
        have i4 : n * 16 + dv ≤ 68719476735 := by omega
        refine loop_end (k + 1, n * 16 + dv) ⟨by dsimp only; omega, i2, i3, i4⟩ (by dsimp only; omega) ?_
        (repeat' (first | (refine VS.mk ?_) | exact trivial | exact rfl | refine And.intro ?_ ?_))
        all_goals (first | rfl | (refine congrArg (D.int .i64) ?_; omega))
end Go.Proofs.YtdhpodgaeholmaaDoor

/-
  Has, and tokens of a line.
-/
namespace Go.Proofs.YtdhpodgaeholmaaDoor
open Go Go.Plat
set_option linter.unusedVariables false
set_option linter.unusedSimpArgs false
set_option maxRecDepth 100000
set_option maxHeartbeats 2000000
attribute [local irreducible] NilS LookS NormM bitI BytesS NormL Arith QuoS RemS ShlS ShrS BitS CatS SplitS SideS IdxS CallS LoopEnd EndS ModeS DrawS AWP Meets
attribute [local irreducible] letterB digitB kindB okC

theorem rhas_meets : Meets Tryd.prog n_plref1_Has (SpecP (fun ((s, c) : List UInt8 × UInt8) => s.length ≤ 1000000000) (fun (s, c) => [.str s, byteD c]) fun (s, c) => .bool (s.contains c)) := by
  refine meets_f tabOk Tryd.func39 rfl (by decide) ?_
  rintro ⟨s, c⟩ hs
  have hs : s.length ≤ 1000000000 := hs
  refine ⟨Nat.le_refl _, by simp [Tryd.f39], fun E hE => ?_⟩
  refine vcOk _ ?_
  (all_goals refine qgp ?_ <;> (repeat' first | exact trivial | intro hc | refine And.intro ?_ ?_) <;> refine Lf.mk ?_)
  refine awp_loop (α := Nat) (fun k => k ≤ s.length ∧ s.contains c = (s.drop k).contains c)
    (fun k => [(0, .str s), (1, byteD c), (7, .int .i64 s.length), (8, .int .i64 k)])
    (fun _ => []) (fun k => s.length - k) (fun _ => by simp [hE]) 0 ⟨Nat.zero_le _, rfl⟩ ?_ ?_
  · (repeat' (first | (refine VS.mk ?_) | exact trivial | exact rfl | refine And.intro ?_ ?_))
  rintro k ⟨hk, hf⟩
  refine vcOk _ ?_
  (all_goals refine qgp ?_ <;> (repeat' first | exact trivial | intro hc | refine And.intro ?_ ?_) <;> refine Lf.mk ?_)
  · rw [Int.toNat_natCast] at hc
    have e : s.getD k 0 = c := UInt8.toNat_inj.1 (by exact_mod_cast hc)
    refine end_p (VS.mk (LeD.tt ?_))
    rw [hf, drop_cons (d := 0) (by omega), e, List.contains_cons, beq_self_eq_true, Bool.true_or]
  · rw [Int.toNat_natCast] at hc
    have e : (c == s.getD k 0) = false := beq_eq_false_iff_ne.2 fun e => hc (by rw [e])
    have hf1 : s.contains c = (s.drop (k + 1)).contains c := by rw [hf, drop_cons (d := 0) (by omega), List.contains_cons, e, Bool.false_or]
    refine loop_end (k + 1) ⟨by omega, hf1⟩ (by omega) ?_
    (repeat' (first | (refine VS.mk ?_) | exact trivial | exact rfl | refine And.intro ?_ ?_))
  · refine end_p (VS.mk (LeD.ff ?_))
    rw [hf, List.drop_of_length_le (by omega)]
    rfl

end Go.Proofs.YtdhpodgaeholmaaDoor

/-
  Tokens of a line, as the document has them: the walk.
-/
namespace Go.Proofs.YtdhpodgaeholmaaDoor
open Go Go.Plat
set_option linter.unusedVariables false
set_option linter.unusedSimpArgs false
set_option maxRecDepth 100000
set_option maxHeartbeats 2000000
attribute [local irreducible] NilS LookS NormM bitI BytesS NormL Arith QuoS RemS ShlS ShrS BitS CatS SplitS SideS IdxS CallS LoopEnd EndS ModeS DrawS AWP Meets
attribute [local irreducible] letterB digitB kindB okC numR wordC numC

attribute [local irreducible] lexF lexL spanF
theorem rtokens_meets : Meets Tryd.prog n_plref1_Tokens (SpecP (fun s : List UInt8 => s.length ≤ 1000000000) (fun s => [.str s]) fun s => lexRD (lexR s)) := by
  refine meets_f tabOk Tryd.func11 rfl (by decide) ?_
  intro s hs
  refine ⟨Nat.le_refl _, by simp [Tryd.f11], fun E hE => ?_⟩
  have hR := lexR_eq s
  refine vcOk _ ?_
  (all_goals refine qgp ?_ <;> (repeat' first | exact trivial | intro hc | refine And.intro ?_ ?_) <;> refine Lf.mk ?_)
  · rw [if_pos (by omega)] at hR
    refine end_p (VS.mk ?_)
    rw [hR]
    exact .tup (.cons (.nil 3) (.cons (.refl _) .nil))
  rw [if_neg (by omega)] at hR
  refine awp_weak (weak_nil 4 3 rfl) ?_
  refine awp_loop (α := Nat × List LTok) (fun p => p.1 ≤ s.length ∧ p.2.length ≤ p.1 ∧ lexL s [] = lexL (s.drop p.1) p.2)
    (fun p => [(0, .str s), (4, .sl 3 (p.2.map ltokD) (some 0)), (5, .int .i64 p.1)])
    (fun p => [.spare p.2.length]) (fun p => s.length - p.1) (fun _ => by simp [hE]) (0, []) ⟨Nat.zero_le _, Nat.le_refl _, rfl⟩ ?_ ?_
  · (repeat' (first | (refine VS.mk ?_) | exact trivial | exact rfl | refine And.intro ?_ ?_))
  rintro ⟨i, out⟩ ⟨hi, ho, hf⟩
  dsimp only at hi ho hf ⊢
  refine vcOk _ ?_
  (all_goals refine qgp ?_ <;> (repeat' first | exact trivial | intro hc | refine And.intro ?_ ?_) <;> refine Lf.mk ?_)
  · have hil : i < s.length := by omega
    obtain ⟨c, hcx⟩ : ∃ c, s.getD i 0 = c := ⟨_, rfl⟩
    obtain ⟨r, hr⟩ : ∃ r, s.drop (i + 1) = r := ⟨_, rfl⟩
    have hd : s.drop i = c :: r := by rw [drop_cons (d := 0) hil, hcx, hr]
    have hrl : r.length = s.length - (i + 1) := by rw [← hr, List.length_drop]
    rw [hd, lexL_cons] at hf
    refine call_p kind_meets c trivial (VS.mk (LeL.of_eq (by rw [Int.toNat_natCast, hcx]; rfl))) ?_
    (all_goals refine qgp ?_ <;> (repeat' first | exact trivial | intro hc | refine And.intro ?_ ?_) <;> refine Lf.mk ?_)
    · rw [if_pos hc] at hf
      have hf1 : lexL s [] = lexL (s.drop (i + 1)) out := by rw [hr]; exact hf
      refine loop_end (i + 1, out) ⟨by dsimp only; omega, by dsimp only; omega, hf1⟩ (by dsimp only; omega) ?_
      (repeat' (first | (refine VS.mk ?_) | exact trivial | exact rfl | refine And.intro ?_ ?_))
    · have hget : ∀ k, i ≤ k → (c :: r).getD (k - i) 0 = s.getD k 0 := fun k h => by
        rw [← hd, List.getD_eq_getElem?_getD, List.getElem?_drop, List.getD_eq_getElem?_getD, show i + (k - i) = k by omega]
      have hend : ∀ k, i ≤ k → k ≤ s.length → (∀ j, j < k - i → wordC ((c :: r).getD j 0) = true) → (k < s.length → wordC (s.getD k 0) = false) →
          i < k ∧ lexL s [] = lexL (s.drop k) (out ++ [⟨1, 0, (s.take k).drop i⟩]) := fun k h1 h2 h3 h4 => by
        have e : k - i = spanF wordC (c :: r) := span_eq (by rw [List.length_cons]; omega) h3 fun h => by rw [hget k h1]; exact h4 (by rw [List.length_cons] at h; omega)
        have h5 := word_first (r := r) (by assumption)
        rw [if_neg (by assumption), if_pos (by assumption), ← e, ← hd, List.drop_drop, show i + (k - i) = k by omega] at hf
        rw [hf, List.drop_take]
        exact ⟨by omega, rfl⟩
      refine awp_loop (α := Nat) (fun k => i ≤ k ∧ k ≤ s.length ∧ ∀ j, j < k - i → wordC ((c :: r).getD j 0) = true)
        (fun k => [(0, .str s), (4, .sl 3 (out.map ltokD) (some 0)), (5, .int .i64 i), (6, .int .i64 k)])
        (fun _ => [.spare out.length]) (fun k => s.length - k) (fun _ => by simp [hE]) i ⟨Nat.le_refl _, by omega, fun j h => absurd h (by omega)⟩ ?_ ?_
      · (repeat' (first | (refine VS.mk ?_) | exact trivial | exact rfl | refine And.intro ?_ ?_))
      rintro k ⟨hik, hks, hall⟩
      refine vcOk _ ?_
      have hgk := hget k hik
      have hall1 : wordC (s.getD k 0) = true → ∀ j, j < k + 1 - i → wordC ((c :: r).getD j 0) = true := fun h j hj => by
        by_cases e : j = k - i
        · rw [e, hgk]; exact h
        · exact hall j (by omega)
      (all_goals refine qgp ?_ <;> (repeat' first | exact trivial | intro hc | refine And.intro ?_ ?_) <;> refine Lf.mk ?_)
      · refine call_p kind_meets (s.getD k 0) trivial (VS.mk (LeL.of_eq (by rw [Int.toNat_natCast]; rfl))) ?_
        (all_goals refine qgp ?_ <;> (repeat' first | exact trivial | intro hc | refine And.intro ?_ ?_) <;> refine Lf.mk ?_)
        · have hgo := hall1 (word_yes (.inl hc))
          refine loop_end (k + 1) ⟨by omega, by omega, hgo⟩ (by omega) ?_
          (repeat' (first | (refine VS.mk ?_) | exact trivial | exact rfl | refine And.intro ?_ ?_))
        · refine call_p kind_meets (s.getD k 0) trivial (VS.mk (LeL.of_eq (by rw [Int.toNat_natCast]; rfl))) ?_
          (all_goals refine qgp ?_ <;> (repeat' first | exact trivial | intro hc | refine And.intro ?_ ?_) <;> refine Lf.mk ?_)
          · have hgo := hall1 (word_yes (.inr (.inl hc)))
            refine loop_end (k + 1) ⟨by omega, by omega, hgo⟩ (by omega) ?_
            (repeat' (first | (refine VS.mk ?_) | exact trivial | exact rfl | refine And.intro ?_ ?_))
          · rw [Int.toNat_natCast] at hc
            have hgo := hall1 (word_yes (.inr (.inr hc)))
            refine loop_end (k + 1) ⟨by omega, by omega, hgo⟩ (by omega) ?_
            (repeat' (first | (refine VS.mk ?_) | exact trivial | exact rfl | refine And.intro ?_ ?_))
          · rw [Int.toNat_natCast] at hc
            obtain ⟨hki, hq⟩ := hend k hik hks hall (fun _ => word_no (by assumption) (by assumption) hc)
            refine loop_end (k, out ++ [⟨1, 0, (s.take k).drop i⟩]) ⟨by dsimp only; omega, by dsimp only; rw [List.length_append, List.length_cons, List.length_nil]; omega, hq⟩ (by dsimp only; omega) ?_
            (repeat' (first | (refine VS.mk ?_) | exact trivial | exact rfl | refine And.intro ?_ ?_))
            all_goals (first | rfl | simp [ltokD])

      · obtain ⟨hki, hq⟩ := hend k hik hks hall (fun h => absurd h (by omega))
        refine loop_end (k, out ++ [⟨1, 0, (s.take k).drop i⟩]) ⟨by dsimp only; omega, by dsimp only; rw [List.length_append, List.length_cons, List.length_nil]; omega, hq⟩ (by dsimp only; omega) ?_
        (repeat' (first | (refine VS.mk ?_) | exact trivial | exact rfl | refine And.intro ?_ ?_))
        all_goals (first | rfl | simp [ltokD])
    · have hget : ∀ k, i ≤ k → (c :: r).getD (k - i) 0 = s.getD k 0 := fun k h => by
        rw [← hd, List.getD_eq_getElem?_getD, List.getElem?_drop, List.getD_eq_getElem?_getD, show i + (k - i) = k by omega]
      have hend : ∀ k, i ≤ k → k ≤ s.length → (∀ j, j < k - i → numC ((c :: r).getD j 0) = true) → (k < s.length → numC (s.getD k 0) = false) →
          i < k ∧ lexL s [] = if (numR ((s.take k).drop i)).2 = true then lexL (s.drop k) (out ++ [⟨2, (numR ((s.take k).drop i)).1, []⟩]) else none := fun k h1 h2 h3 h4 => by
        have e : k - i = spanF numC (c :: r) := span_eq (by rw [List.length_cons]; omega) h3 fun h => by rw [hget k h1]; exact h4 (by rw [List.length_cons] at h; omega)
        have h5 := num_first (r := r) (by assumption)
        rw [if_neg (by assumption), if_neg (by assumption), if_pos (by assumption), ← e, ← hd, List.drop_drop, show i + (k - i) = k by omega] at hf
        rw [hf, List.drop_take]
        exact ⟨by omega, rfl⟩
      refine awp_loop (α := Nat) (fun k => i ≤ k ∧ k ≤ s.length ∧ ∀ j, j < k - i → numC ((c :: r).getD j 0) = true)
        (fun k => [(0, .str s), (4, .sl 3 (out.map ltokD) (some 0)), (5, .int .i64 i), (6, .int .i64 k)])
        (fun _ => [.spare out.length]) (fun k => s.length - k) (fun _ => by simp [hE]) i ⟨Nat.le_refl _, by omega, fun j h => absurd h (by omega)⟩ ?_ ?_
      · (repeat' (first | (refine VS.mk ?_) | exact trivial | exact rfl | refine And.intro ?_ ?_))
      rintro k ⟨hik, hks, hall⟩
      refine vcOk _ ?_
      have hgk := hget k hik
      have hall1 : numC (s.getD k 0) = true → ∀ j, j < k + 1 - i → numC ((c :: r).getD j 0) = true := fun h j hj => by
        by_cases e : j = k - i
        · rw [e, hgk]; exact h
        · exact hall j (by omega)
      (all_goals refine qgp ?_ <;> (repeat' first | exact trivial | intro hc | refine And.intro ?_ ?_) <;> refine Lf.mk ?_)
      · refine call_p kind_meets (s.getD k 0) trivial (VS.mk (LeL.of_eq (by rw [Int.toNat_natCast]; rfl))) ?_
        (all_goals refine qgp ?_ <;> (repeat' first | exact trivial | intro hc | refine And.intro ?_ ?_) <;> refine Lf.mk ?_)
        · rw [Int.toNat_natCast] at hc
          have hgo := hall1 (num_yes (.inl ⟨by assumption, hc⟩))
          refine loop_end (k + 1) ⟨by omega, by omega, hgo⟩ (by omega) ?_
          (repeat' (first | (refine VS.mk ?_) | exact trivial | exact rfl | refine And.intro ?_ ?_))
        · rw [Int.toNat_natCast] at hc
          have h46 := hc
          refine call_p kind_meets (s.getD k 0) trivial (VS.mk (LeL.of_eq (by rw [Int.toNat_natCast]; rfl))) ?_
          (all_goals refine qgp ?_ <;> (repeat' first | exact trivial | intro hc | refine And.intro ?_ ?_) <;> refine Lf.mk ?_)
          obtain ⟨hki, hq⟩ := hend k hik hks hall (fun _ => num_no (.inr h46) (by omega))
          refine call_p rnumber_meets ((s.take k).drop i) (by rw [List.length_drop, List.length_take]; omega) (VS.mk (LeL.of_eq (by simp only [Int.toNat_natCast]))) ?_
          generalize numR ((s.take k).drop i) = nr at hq ⊢
          obtain ⟨nv, nb⟩ := nr
          dsimp only at hq
          (all_goals refine qgp ?_ <;> (repeat' first | exact trivial | intro hc | refine And.intro ?_ ?_) <;> refine Lf.mk ?_)
          · rw [if_neg (by rw [hc]; decide)] at hq
            rw [hq] at hR
            refine end_p (VS.mk ?_)
            rw [hR]
            exact .tup (.cons (.nil 3) (.cons (.refl _) .nil))
          · rw [if_pos hc] at hq
            refine loop_end (k, out ++ [⟨2, nv, []⟩]) ⟨by dsimp only; omega, by dsimp only; rw [List.length_append, List.length_cons, List.length_nil]; omega, hq⟩ (by dsimp only; omega) ?_
            (repeat' (first | (refine VS.mk ?_) | exact trivial | exact rfl | refine And.intro ?_ ?_))
            all_goals (first | rfl | simp [ltokD])
        · refine call_p kind_meets (s.getD k 0) trivial (VS.mk (LeL.of_eq (by rw [Int.toNat_natCast]; rfl))) ?_
          (all_goals refine qgp ?_ <;> (repeat' first | exact trivial | intro hc | refine And.intro ?_ ?_) <;> refine Lf.mk ?_)
          · have hgo := hall1 (num_yes (.inr hc))
            refine loop_end (k + 1) ⟨by omega, by omega, hgo⟩ (by omega) ?_
            (repeat' (first | (refine VS.mk ?_) | exact trivial | exact rfl | refine And.intro ?_ ?_))
          · obtain ⟨hki, hq⟩ := hend k hik hks hall (fun _ => num_no (.inl (by assumption)) hc)
            refine call_p rnumber_meets ((s.take k).drop i) (by rw [List.length_drop, List.length_take]; omega) (VS.mk (LeL.of_eq (by simp only [Int.toNat_natCast]))) ?_
            generalize numR ((s.take k).drop i) = nr at hq ⊢
            obtain ⟨nv, nb⟩ := nr
            dsimp only at hq
            (all_goals refine qgp ?_ <;> (repeat' first | exact trivial | intro hc | refine And.intro ?_ ?_) <;> refine Lf.mk ?_)
            · rw [if_neg (by rw [hc]; decide)] at hq
              rw [hq] at hR
              refine end_p (VS.mk ?_)
              rw [hR]
              exact .tup (.cons (.nil 3) (.cons (.refl _) .nil))
            · rw [if_pos hc] at hq
              refine loop_end (k, out ++ [⟨2, nv, []⟩]) ⟨by dsimp only; omega, by dsimp only; rw [List.length_append, List.length_cons, List.length_nil]; omega, hq⟩ (by dsimp only; omega) ?_
              (repeat' (first | (refine VS.mk ?_) | exact trivial | exact rfl | refine And.intro ?_ ?_))
              all_goals (first | rfl | simp [ltokD])
      · obtain ⟨hki, hq⟩ := hend k hik hks hall (fun h => absurd h (by omega))
        refine call_p rnumber_meets ((s.take k).drop i) (by rw [List.length_drop, List.length_take]; omega) (VS.mk (LeL.of_eq (by simp only [Int.toNat_natCast]))) ?_
        generalize numR ((s.take k).drop i) = nr at hq ⊢
        obtain ⟨nv, nb⟩ := nr
        dsimp only at hq
        (all_goals refine qgp ?_ <;> (repeat' first | exact trivial | intro hc | refine And.intro ?_ ?_) <;> refine Lf.mk ?_)
        · rw [if_neg (by rw [hc]; decide)] at hq
          rw [hq] at hR
          refine end_p (VS.mk ?_)
          rw [hR]
          exact .tup (.cons (.nil 3) (.cons (.refl _) .nil))
        · rw [if_pos hc] at hq
          refine loop_end (k, out ++ [⟨2, nv, []⟩]) ⟨by dsimp only; omega, by dsimp only; rw [List.length_append, List.length_cons, List.length_nil]; omega, hq⟩ (by dsimp only; omega) ?_
          (repeat' (first | (refine VS.mk ?_) | exact trivial | exact rfl | refine And.intro ?_ ?_))
          all_goals (first | rfl | simp [ltokD])
    · rw [Int.toNat_natCast, hcx] at hc
      have e59 : c = 59 := UInt8.toNat_inj.1 (by exact_mod_cast hc)
      rw [if_neg (by assumption), if_neg (by assumption), if_neg (by assumption), if_pos e59] at hf
      rw [hf] at hR
      refine end_p (VS.mk ?_)
      rw [hR]
      (first | exact LeL.refl _ | (repeat' (first | exact LeL.nil | exact LeD.refl _ | exact LeD.nil _ | exact LeD.strip _ _ _ | refine LeL.cons ?_ ?_ | refine LeD.tup ?_ | refine LeD.agg ?_)))
    all_goals
      have hr1 : r.drop 1 = s.drop (i + 2) := by rw [← hr, List.drop_drop]
      have h59 : ¬ c = 59 := fun e => by
        have q : ¬ ((s.getD ((i : Nat) : Int).toNat 0).toNat : Int) = 59 := by assumption
        rw [Int.toNat_natCast, hcx, e] at q
        exact q rfl
      have hT : List.drop ((i : Nat) : Int).toNat (List.take ((i : Int) + 2).toNat s) = (c :: r).take 2 := by
        rw [Int.toNat_natCast, show ((i : Int) + 2).toNat = i + 2 by omega, List.drop_take, hd, show i + 2 - i = 2 by omega]
    · rw [hT] at hc
      rw [if_neg (by assumption), if_neg (by assumption), if_neg (by assumption), if_neg (by assumption), if_pos (.inl hc), hr1] at hf
      refine loop_end (i + 2, out ++ [⟨3, 0, (c :: r).take 2⟩]) ⟨by dsimp only; omega, by dsimp only; rw [List.length_append, List.length_cons, List.length_nil]; omega, hf⟩ (by dsimp only; omega) ?_
      (repeat' (first | (refine VS.mk ?_) | exact trivial | exact rfl | refine And.intro ?_ ?_))
      all_goals (first | rfl | (rw [hT]; simp [ltokD]) | simp [ltokD])
    · rw [hT] at hc
      rw [if_neg (by assumption), if_neg (by assumption), if_neg (by assumption), if_neg (by assumption), if_pos (.inr hc), hr1] at hf
      refine loop_end (i + 2, out ++ [⟨3, 0, (c :: r).take 2⟩]) ⟨by dsimp only; omega, by dsimp only; rw [List.length_append, List.length_cons, List.length_nil]; omega, hf⟩ (by dsimp only; omega) ?_
      (repeat' (first | (refine VS.mk ?_) | exact trivial | exact rfl | refine And.intro ?_ ?_))
      all_goals (first | rfl | (rw [hT]; simp [ltokD]) | simp [ltokD])
    · have hn2 : ¬ ((c :: r).take 2 = [60, 60] ∨ (c :: r).take 2 = [62, 62]) := by
        have a1 : ¬ List.drop ((i : Nat) : Int).toNat (List.take ((i : Int) + 2).toNat s) = [60, 60] := by assumption
        have a2 : ¬ List.drop ((i : Nat) : Int).toNat (List.take ((i : Int) + 2).toNat s) = [62, 62] := by assumption
        rw [hT] at a1 a2
        exact fun h => h.elim a1 a2
      have hT1 : List.drop ((i : Nat) : Int).toNat (List.take ((i : Int) + 1).toNat s) = [c] := by
        rw [Int.toNat_natCast, show ((i : Int) + 1).toNat = i + 1 by omega, List.drop_take, hd, show i + 1 - i = 1 by omega]; rfl
      refine call_p rhas_meets (signsB, c) (show signsB.length ≤ 1000000000 by decide) (VS.mk (LeL.of_eq (by rw [Int.toNat_natCast, hcx]; rfl))) ?_
      rw [if_neg (by assumption), if_neg (by assumption), if_neg (by assumption), if_neg (by assumption), if_neg hn2] at hf
      (all_goals refine qgp ?_ <;> (repeat' first | exact trivial | intro hc | refine And.intro ?_ ?_) <;> refine Lf.mk ?_)
      · rw [if_neg (by rw [hc]; decide)] at hf
        rw [hf] at hR
        refine end_p (VS.mk ?_)
        rw [hR]
        exact .tup (.cons (.nil 3) (.cons (.refl _) .nil))
      · rw [if_pos hc, ← hr] at hf
        refine loop_end (i + 1, out ++ [⟨3, 0, [c]⟩]) ⟨by dsimp only; omega, by dsimp only; rw [List.length_append, List.length_cons, List.length_nil]; omega, hf⟩ (by dsimp only; omega) ?_
        (repeat' (first | (refine VS.mk ?_) | exact trivial | exact rfl | refine And.intro ?_ ?_))
        all_goals (first | rfl | (rw [hT1]; simp [ltokD]) | simp [ltokD])
    · have hn2 : ¬ ((c :: r).take 2 = [60, 60] ∨ (c :: r).take 2 = [62, 62]) := by
        have h0 : r = [] := List.eq_nil_of_length_eq_zero (by omega)
        rw [h0]
        rintro (h | h) <;> cases h
      have hT1 : List.drop ((i : Nat) : Int).toNat (List.take ((i : Int) + 1).toNat s) = [c] := by
        rw [Int.toNat_natCast, show ((i : Int) + 1).toNat = i + 1 by omega, List.drop_take, hd, show i + 1 - i = 1 by omega]; rfl
      refine call_p rhas_meets (signsB, c) (show signsB.length ≤ 1000000000 by decide) (VS.mk (LeL.of_eq (by rw [Int.toNat_natCast, hcx]; rfl))) ?_
      rw [if_neg (by assumption), if_neg (by assumption), if_neg (by assumption), if_neg (by assumption), if_neg hn2] at hf
      (all_goals refine qgp ?_ <;> (repeat' first | exact trivial | intro hc | refine And.intro ?_ ?_) <;> refine Lf.mk ?_)
      · rw [if_neg (by rw [hc]; decide)] at hf
        rw [hf] at hR
        refine end_p (VS.mk ?_)
        rw [hR]
        exact .tup (.cons (.nil 3) (.cons (.refl _) .nil))
      · rw [if_pos hc, ← hr] at hf
        refine loop_end (i + 1, out ++ [⟨3, 0, [c]⟩]) ⟨by dsimp only; omega, by dsimp only; rw [List.length_append, List.length_cons, List.length_nil]; omega, hf⟩ (by dsimp only; omega) ?_
        (repeat' (first | (refine VS.mk ?_) | exact trivial | exact rfl | refine And.intro ?_ ?_))
        all_goals (first | rfl | (rw [hT1]; simp [ltokD]) | simp [ltokD])
  · rw [List.drop_of_length_le (by omega), lexL_nil] at hf
    rw [hf] at hR
    refine end_p (VS.mk ?_)
    rw [hR]
    (first | exact LeL.refl _ | (repeat' (first | exact LeL.nil | exact LeD.refl _ | exact LeD.nil _ | exact LeD.strip _ _ _ | refine LeL.cons ?_ ?_ | refine LeD.tup ?_ | refine LeD.agg ?_)))
end Go.Proofs.YtdhpodgaeholmaaDoor

/-
  Lines of a source.
-/
namespace Go.Proofs.YtdhpodgaeholmaaDoor
open Go Go.Plat
open Go Go.Plat
set_option linter.unusedVariables false
set_option linter.unusedSimpArgs false
set_option maxRecDepth 100000
set_option maxHeartbeats 2000000
attribute [local irreducible] NilS LookS NormM bitI BytesS NormL Arith QuoS RemS ShlS ShrS BitS CatS SplitS SideS IdxS CallS LoopEnd EndS ModeS DrawS AWP Meets
attribute [local irreducible] letterB digitB kindB okC numR wordC numC blankC lexF lexL spanF digV puR puF numTok signT lexR

structure LLine where
  pos : Int
  toks : List LTok
def llineD (l : LLine) : D := .agg [.int .i64 l.pos, .sl 3 (l.toks.map ltokD) none]
def linesF : List (List UInt8) → Int → List LLine → List LLine × Int × Int
  | [], _, out => (out, 0, 0)
  | p :: r, k, out => if (lexR p).2 ≠ 0 then ([], (lexR p).2, k) else if (lexR p).1.length = 0 then linesF r (k + 1) out else linesF r (k + 1) (out ++ [⟨k, (lexR p).1⟩])
def linesR (b : List UInt8) : List LLine × Int × Int := if 1200 < b.length then ([], 4, 0) else linesF (splitC 10 b) 1 []
def linesD (p : List LLine × Int × Int) : D := .tup [.sl 2 (p.1.map llineD) none, .agg [.int .i64 p.2.1, .int .i64 p.2.2]]
theorem linesF_cons (p : List UInt8) (r : List (List UInt8)) (k : Int) (out : List LLine) : linesF (p :: r) k out =
    if (lexR p).2 ≠ 0 then ([], (lexR p).2, k) else if (lexR p).1.length = 0 then linesF r (k + 1) out else linesF r (k + 1) (out ++ [⟨k, (lexR p).1⟩]) := rfl
theorem part_len (c : UInt8) : ∀ (s : List UInt8) (p : List UInt8), p ∈ splitC c s → p.length ≤ s.length
  | [], p, h => by rw [splitC, List.mem_singleton] at h; rw [h]; exact Nat.le_refl _
  | b :: l, p, h => by
    have ih := part_len c l
    rw [splitC] at h
    split at h
    · rcases List.mem_cons.1 h with rfl | h
      · simp
      · have := ih p h; simp; omega
    · cases hl : splitC c l with
      | nil => rw [hl, List.mem_singleton] at h; rw [h]; simp
      | cons x r =>
        rw [hl] at h
        rcases List.mem_cons.1 h with rfl | h
        · have := ih x (by rw [hl]; exact List.mem_cons_self); simp; omega
        · have := ih p (by rw [hl]; exact List.mem_cons_of_mem _ h); simp; omega
theorem scan_lines_meets : Meets Tryd.prog n_scan_Lines (SpecP (fun b : List UInt8 => b.length ≤ 1000000000) (fun b => [.sl 1 (b.map byteD) none]) fun b => linesD (linesR b)) := by
  refine meets_f tabOk Tryd.func29 rfl (by decide) ?_
  intro b hb
  refine ⟨Nat.le_refl _, by simp [Tryd.f29], fun E hE => ?_⟩
  have hR : linesR b = if 1200 < b.length then ([], 4, 0) else linesF (splitC 10 b) 1 [] := rfl
  have hpl := part_len 10 b
  have hsl := split_len 10 b
  have hct := List.count_le_length (a := 10) (l := b)
  refine vcOk _ ?_
  (all_goals refine qgp ?_ <;> (repeat' first | exact trivial | intro hc | refine And.intro ?_ ?_) <;> refine Lf.mk ?_)
  · rw [if_pos (by omega)] at hR
    refine end_p (VS.mk ?_)
    rw [hR]
    exact .tup (.cons (.nil 2) (.cons (.refl _) .nil))
  rw [if_neg (by omega)] at hR
  refine call_p split_meets (b, 10) (by show b.length ≤ 1000000; omega) (VS.mk (LeL.of_eq rfl)) ?_
  dsimp only
  generalize splitC 10 b = ps at *
  (all_goals refine qgp ?_ <;> (repeat' first | exact trivial | intro hc | refine And.intro ?_ ?_) <;> refine Lf.mk ?_)
  refine awp_weak (weak_nil 4 2 rfl) ?_
  refine awp_loop (α := Nat × List LLine) (fun p => p.1 ≤ ps.length ∧ p.2.length ≤ p.1 ∧ linesR b = linesF (ps.drop p.1) (p.1 + 1) p.2)
    (fun p => [(3, .loc 0 0), (4, .sl 2 (p.2.map llineD) (some 1)), (15, .sl 1 (ps.map .str) none), (16, .int .i64 ps.length), (17, .int .i64 p.1)])
    (fun p => [.cells [.int .i64 0, .int .i64 0], .spare p.2.length]) (fun p => ps.length - p.1) (fun _ => by simp [hE]) (0, []) ⟨Nat.zero_le _, Nat.le_refl _, by rw [hR]; rfl⟩ ?_ ?_
  · (repeat' (first | (refine VS.mk ?_) | exact trivial | exact rfl | refine And.intro ?_ ?_))
  rintro ⟨i, out⟩ ⟨hi, ho, hf⟩
  dsimp only at hi ho hf ⊢
  refine vcOk _ ?_
  (all_goals refine qgp ?_ <;> (repeat' first | exact trivial | intro hc | refine And.intro ?_ ?_) <;> refine Lf.mk ?_)
  · have hil : i < ps.length := by omega
    obtain ⟨p, hp⟩ : ∃ p, ps[i] = p := ⟨_, rfl⟩
    have hpx : ps[i]? = some p := by rw [List.getElem?_eq_getElem hil, hp]
    have hpm := hpl p (by rw [← hp]; exact List.getElem_mem hil)
    rw [List.drop_eq_getElem_cons hil, hp, linesF_cons] at hf
    refine ix_map p (by omega) (by simpa using hpx) ?_
    (all_goals refine qgp ?_ <;> (repeat' first | exact trivial | intro hc | refine And.intro ?_ ?_) <;> refine Lf.mk ?_)
    refine call_p scan_tokens_meets p (by omega) (VS.mk (LeL.of_eq rfl)) ?_
    generalize lexR p = T at *
    obtain ⟨ts, te⟩ := T
    dsimp only at hf
    (all_goals refine qgp ?_ <;> (repeat' first | exact trivial | intro hc | refine And.intro ?_ ?_) <;> refine Lf.mk ?_)
    · rw [if_pos hc] at hf
      refine end_p (VS.mk ?_)
      rw [hf]
      exact .tup (.cons (.nil 2) (.cons (.refl _) .nil))
    · have ht : te = 0 := by assumption
      rw [if_neg (by rw [ht]; simp), if_neg (by omega)] at hf
      have hf1 : linesR b = linesF (ps.drop (i + 1)) (((i + 1 : Nat) : Int) + 1) (out ++ [⟨(i : Int) + 1, ts⟩]) := hf
      refine loop_end (i + 1, out ++ [⟨(i : Int) + 1, ts⟩]) ⟨by dsimp only; omega, by dsimp only; rw [List.length_append, List.length_cons, List.length_nil]; omega, hf1⟩ (by dsimp only; omega) ?_
      (repeat' (first | (refine VS.mk ?_) | exact trivial | exact rfl | refine And.intro ?_ ?_))
      all_goals (first | rfl | simp [llineD])
    · have ht : te = 0 := by assumption
      rw [if_neg (by rw [ht]; simp), if_pos (by omega)] at hf
      have hf1 : linesR b = linesF (ps.drop (i + 1)) (((i + 1 : Nat) : Int) + 1) out := hf
      refine loop_end (i + 1, out) ⟨by dsimp only; omega, by dsimp only; omega, hf1⟩ (by dsimp only; omega) ?_
      (repeat' (first | (refine VS.mk ?_) | exact trivial | exact rfl | refine And.intro ?_ ?_))
  · rw [List.drop_of_length_le (by omega)] at hf
    refine end_p (VS.mk ?_)
    rw [hf]
    (first | exact LeL.refl _ | (repeat' (first | exact LeL.nil | exact LeD.refl _ | exact LeD.nil _ | exact LeD.strip _ _ _ | refine LeL.cons ?_ ?_ | refine LeD.tup ?_ | refine LeD.agg ?_)))
end Go.Proofs.YtdhpodgaeholmaaDoor

/-
  Lines of a source, as the document has them.
-/
namespace Go.Proofs.YtdhpodgaeholmaaDoor
open Go Go.Plat
open Go Go.Plat
set_option linter.unusedVariables false
set_option linter.unusedSimpArgs false
set_option maxRecDepth 100000
set_option maxHeartbeats 2000000
attribute [local irreducible] NilS LookS NormM bitI BytesS NormL Arith QuoS RemS ShlS ShrS BitS CatS SplitS SideS IdxS CallS LoopEnd EndS ModeS DrawS AWP Meets
attribute [local irreducible] letterB digitB kindB okC numR wordC numC blankC lexF lexL spanF digV puR puF numTok signT lexR

theorem seg_while {c : UInt8} : ∀ (l : List UInt8) (n : Nat), n < l.length → (∀ j, j < n → l.getD j 0 ≠ c) → l.getD n 0 = c → l.contains c = true ∧ l.takeWhile (· != c) = l.take n ∧ (l.dropWhile (· != c)).drop 1 = l.drop (n + 1)
  | [], n, h, _, _ => by simp at h
  | a :: l, 0, h, _, h2 => by
    have e : a = c := h2
    subst e
    simp
  | a :: l, n + 1, h, h1, h2 => by
    have e : a ≠ c := h1 0 (by omega)
    have e2 : (a != c) = true := by rw [bne_iff_ne]; exact e
    have e1 : (c == a) = false := beq_eq_false_iff_ne.2 fun q => e q.symm
    obtain ⟨g1, g2, g3⟩ := seg_while l n (by simpa using h) (fun j hj => h1 (j + 1) (by omega)) h2
    rw [List.contains_cons, e1, g1, List.takeWhile_cons, e2, if_pos rfl, g2, List.dropWhile_cons, e2, if_pos rfl, g3]
    exact ⟨rfl, rfl, rfl⟩
theorem seg_none {c : UInt8} : ∀ (l : List UInt8), (∀ j, j < l.length → l.getD j 0 ≠ c) → l.contains c = false
  | [], _ => rfl
  | a :: l, h => by
    have e : a ≠ c := h 0 (by simp)
    have e1 : (c == a) = false := beq_eq_false_iff_ne.2 fun q => e q.symm
    rw [List.contains_cons, e1, seg_none l fun j hj => h (j + 1) (by simpa using hj)]
    rfl
theorem ref_lines_meets : Meets Tryd.prog n_plref1_Lines (SpecP (fun b : List UInt8 => b.length ≤ 1000000000) (fun b => [.sl 1 (b.map byteD) none]) fun b => linesD (linesR b)) := by
  refine meets_f tabOk Tryd.func30 rfl (by decide) ?_
  intro b hb
  refine ⟨Nat.le_refl _, by simp [Tryd.f30], fun E hE => ?_⟩
  have hR : linesR b = if 1200 < b.length then ([], 4, 0) else linesF (splitC 10 b) 1 [] := rfl
  refine vcOk _ ?_
  (all_goals refine qgp ?_ <;> (repeat' first | exact trivial | intro hc | refine And.intro ?_ ?_) <;> refine Lf.mk ?_)
  · rw [if_pos (by omega)] at hR
    refine end_p (VS.mk ?_)
    rw [hR]
    exact .tup (.cons (.nil 2) (.cons (.refl _) .nil))
  rw [if_neg (by omega)] at hR
  refine awp_weak (weak_nil 4 2 rfl) ?_
  refine awp_loop (α := (Nat × Nat) × Int × List LLine) (fun p => p.1.1 ≤ p.1.2 + 1 ∧ p.1.2 ≤ b.length + 1 ∧ p.2.2.length ≤ p.1.2 ∧ 1 ≤ p.2.1 ∧ p.2.1 ≤ p.1.2 + 1 ∧
      (p.1.2 ≤ b.length → p.1.1 ≤ p.1.2 ∧ linesR b = linesF (splitC 10 (b.drop p.1.1)) p.2.1 p.2.2 ∧ ∀ j, p.1.1 ≤ j → j < p.1.2 → b.getD j 0 ≠ 10) ∧ (p.1.2 = b.length + 1 → linesR b = (p.2.2, 0, 0)))
    (fun p => [(0, .sl 1 (b.map byteD) none), (3, .loc 0 0), (4, .sl 2 (p.2.2.map llineD) (some 1)), (5, .int .i64 p.2.1), (6, .int .i64 p.1.1), (7, .int .i64 p.1.2)])
    (fun p => [.cells [.int .i64 0, .int .i64 0], .spare p.2.2.length]) (fun p => b.length + 1 - p.1.2) (fun _ => by simp [hE]) ((0, 0), 1, [])
    ⟨by dsimp only; omega, by dsimp only; omega, Nat.le_refl _, by dsimp only; omega, by dsimp only; omega, fun _ => ⟨Nat.le_refl _, hR, fun j h1 h2 => absurd h2 (by dsimp only; omega)⟩, fun h => absurd h (by dsimp only; omega)⟩ ?_ ?_
  · (repeat' (first | (refine VS.mk ?_) | exact trivial | exact rfl | refine And.intro ?_ ?_))
  rintro ⟨⟨fr, i⟩, at_, out⟩ ⟨hfr, hi, ho, ha1, ha2, hgo, hend⟩
  dsimp only at hfr hi ho ha1 ha2 hgo hend ⊢
  refine vcOk _ ?_
  (all_goals refine qgp ?_ <;> (repeat' first | exact trivial | intro hc | refine And.intro ?_ ?_) <;> refine Lf.mk ?_)
  · obtain ⟨g1, g2, g3⟩ := hgo (by omega)
    have hx : i + 1 ≤ b.length → fr ≤ i + 1 ∧ linesR b = linesF (splitC 10 (b.drop fr)) at_ out ∧ ∀ j, fr ≤ j → j < i + 1 → b.getD j 0 ≠ 10 := fun _ => ⟨by omega, g2, fun j h1 h2 => by
      by_cases e : j = i
      · subst e
        intro e
        rw [e] at hc
        exact hc rfl
      · exact g3 j h1 (by omega)⟩
    refine loop_end ((fr, i + 1), at_, out) ⟨by dsimp only; omega, by dsimp only; omega, by dsimp only; omega, by dsimp only; omega, by dsimp only; omega, hx, fun h => absurd h (by dsimp only; omega)⟩ (by dsimp only; omega) ?_
    (repeat' (first | (refine VS.mk ?_) | exact trivial | exact rfl | refine And.intro ?_ ?_))
  · obtain ⟨g1, g2, g3⟩ := hgo (by omega)
    have hbi : b.getD i 0 = 10 := byte_yes hc
    have gd : ∀ j, (b.drop fr).getD j 0 = b.getD (fr + j) 0 := fun j => by rw [List.getD_eq_getElem?_getD, List.getElem?_drop, ← List.getD_eq_getElem?_getD]
    obtain ⟨w1, w2, w3⟩ := seg_while (c := 10) (b.drop fr) (i - fr) (by rw [List.length_drop]; omega) (fun j hj => by rw [gd]; exact g3 _ (by omega) (by omega)) (by rw [gd, show fr + (i - fr) = i by omega]; exact hbi)
    have hf := g2
    rw [(split_has 10 (b.drop fr)).2 w1, w2, w3, List.drop_drop, show fr + (i - fr + 1) = i + 1 by omega, ← List.drop_take] at hf
    have hX : ∀ o, linesR b = linesF (splitC 10 (b.drop (i + 1))) (at_ + 1) o → (i + 1 ≤ b.length → i + 1 ≤ i + 1 ∧ linesR b = linesF (splitC 10 (b.drop (i + 1))) (at_ + 1) o ∧ ∀ j, i + 1 ≤ j → j < i + 1 → b.getD j 0 ≠ 10) ∧ (i + 1 = b.length + 1 → linesR b = (o, 0, 0)) :=
      fun o h => ⟨fun _ => ⟨Nat.le_refl _, h, fun j h1 h2 => absurd h2 (by omega)⟩, fun h => absurd h (by omega)⟩
    have hpl : ((b.take i).drop fr).length ≤ 1000000000 := by rw [List.length_drop, List.length_take]; omega
    refine call_p rtokens_meets ((b.take i).drop fr) hpl (VS.mk (LeL.of_eq (by rw [Int.toNat_natCast, Int.toNat_natCast]))) ?_
    generalize (b.take i).drop fr = p at *
    rw [linesF_cons] at hf
    generalize lexR p = T at *
    obtain ⟨ts, te⟩ := T
    dsimp only at hf
    (all_goals refine qgp ?_ <;> (repeat' first | exact trivial | intro hc | refine And.intro ?_ ?_) <;> refine Lf.mk ?_)
    · rw [if_pos hc] at hf
      refine end_p (VS.mk ?_)
      rw [hf]
      exact .tup (.cons (.nil 2) (.cons (.refl _) .nil))
    · have ht : te = 0 := by assumption
      rw [if_neg (by rw [ht]; simp), if_neg (by omega)] at hf
      have hx := hX _ hf
      refine loop_end ((i + 1, i + 1), at_ + 1, out ++ [⟨at_, ts⟩]) ⟨by dsimp only; omega, by dsimp only; omega, by dsimp only; rw [List.length_append, List.length_cons, List.length_nil]; omega, by dsimp only; omega, by dsimp only; omega, hx.1, hx.2⟩ (by dsimp only; omega) ?_
      (repeat' (first | (refine VS.mk ?_) | exact trivial | exact rfl | refine And.intro ?_ ?_))
      all_goals (first | rfl | simp [llineD])
    · have ht : te = 0 := by assumption
      rw [if_neg (by rw [ht]; simp), if_pos (by omega)] at hf
      have hx := hX _ hf
      refine loop_end ((i + 1, i + 1), at_ + 1, out) ⟨by dsimp only; omega, by dsimp only; omega, by dsimp only; omega, by dsimp only; omega, by dsimp only; omega, hx.1, hx.2⟩ (by dsimp only; omega) ?_
      (repeat' (first | (refine VS.mk ?_) | exact trivial | exact rfl | refine And.intro ?_ ?_))
  · obtain ⟨g1, g2, g3⟩ := hgo (by omega)
    have gd : ∀ j, (b.drop fr).getD j 0 = b.getD (fr + j) 0 := fun j => by rw [List.getD_eq_getElem?_getD, List.getElem?_drop, ← List.getD_eq_getElem?_getD]
    have w1 := seg_none (c := 10) (b.drop fr) (fun j hj => by rw [gd]; rw [List.length_drop] at hj; exact g3 _ (by omega) (by omega))
    have hf := g2
    rw [(split_has 10 (b.drop fr)).1 w1, show b.drop fr = (b.take i).drop fr by rw [List.take_of_length_le (by omega)]] at hf
    have hX : ∀ o, linesR b = linesF [] (at_ + 1) o → (i + 1 ≤ b.length → i + 1 ≤ i + 1 ∧ linesR b = linesF (splitC 10 (b.drop (i + 1))) (at_ + 1) o ∧ ∀ j, i + 1 ≤ j → j < i + 1 → b.getD j 0 ≠ 10) ∧ (i + 1 = b.length + 1 → linesR b = (o, 0, 0)) :=
      fun o h => ⟨fun h => absurd h (by omega), fun _ => h⟩
    have hpl : ((b.take i).drop fr).length ≤ 1000000000 := by rw [List.length_drop, List.length_take]; omega
    refine call_p rtokens_meets ((b.take i).drop fr) hpl (VS.mk (LeL.of_eq (by rw [Int.toNat_natCast, Int.toNat_natCast]))) ?_
    generalize (b.take i).drop fr = p at *
    rw [linesF_cons] at hf
    generalize lexR p = T at *
    obtain ⟨ts, te⟩ := T
    dsimp only at hf
    (all_goals refine qgp ?_ <;> (repeat' first | exact trivial | intro hc | refine And.intro ?_ ?_) <;> refine Lf.mk ?_)
    · rw [if_pos hc] at hf
      refine end_p (VS.mk ?_)
      rw [hf]
      exact .tup (.cons (.nil 2) (.cons (.refl _) .nil))
    · have ht : te = 0 := by assumption
      rw [if_neg (by rw [ht]; simp), if_neg (by omega)] at hf
      have hx := hX _ hf
      refine loop_end ((i + 1, i + 1), at_ + 1, out ++ [⟨at_, ts⟩]) ⟨by dsimp only; omega, by dsimp only; omega, by dsimp only; rw [List.length_append, List.length_cons, List.length_nil]; omega, by dsimp only; omega, by dsimp only; omega, hx.1, hx.2⟩ (by dsimp only; omega) ?_
      (repeat' (first | (refine VS.mk ?_) | exact trivial | exact rfl | refine And.intro ?_ ?_))
      all_goals (first | rfl | simp [llineD])
    · have ht : te = 0 := by assumption
      rw [if_neg (by rw [ht]; simp), if_pos (by omega)] at hf
      have hx := hX _ hf
      refine loop_end ((i + 1, i + 1), at_ + 1, out) ⟨by dsimp only; omega, by dsimp only; omega, by dsimp only; omega, by dsimp only; omega, by dsimp only; omega, hx.1, hx.2⟩ (by dsimp only; omega) ?_
      (repeat' (first | (refine VS.mk ?_) | exact trivial | exact rfl | refine And.intro ?_ ?_))
  · have hf := hend (by omega)
    refine end_p (VS.mk ?_)
    rw [hf]
    (first | exact LeL.refl _ | (repeat' (first | exact LeL.nil | exact LeD.refl _ | exact LeD.nil _ | exact LeD.strip _ _ _ | refine LeL.cons ?_ ?_ | refine LeD.tup ?_ | refine LeD.agg ?_)))
end Go.Proofs.YtdhpodgaeholmaaDoor

/-
  The same tokens, the same lines.
-/
namespace Go.Proofs.YtdhpodgaeholmaaDoor
open Go Go.Plat
open Go Go.Plat
set_option linter.unusedVariables false
set_option linter.unusedSimpArgs false
set_option maxRecDepth 100000
set_option maxHeartbeats 2000000
attribute [local irreducible] NilS LookS NormM bitI BytesS NormL Arith QuoS RemS ShlS ShrS BitS CatS SplitS SideS IdxS CallS LoopEnd EndS ModeS DrawS AWP Meets
attribute [local irreducible] letterB digitB kindB okC numR wordC numC blankC lexF lexL spanF digV puR puF numTok signT lexR

open Classical in
noncomputable def sameT (a b : List LTok) : Bool := decide (a = b)
theorem sameT_no {a b : List LTok} (h : a ≠ b) : sameT a b = false := by classical exact decide_eq_false h
theorem sameT_yes {a b : List LTok} (h : a = b) : sameT a b = true := by classical exact decide_eq_true h
theorem sameT_eq {a b : List LTok} (h : sameT a b = true) : a = b := Classical.byContradiction fun e => by rw [sameT_no e] at h; cases h
theorem sameT_ne {a b : List LTok} (h : sameT a b = false) : a ≠ b := fun e => by rw [sameT_yes e] at h; cases h
open Classical in
noncomputable def sameL (a b : List LLine) : Bool := decide (a = b)
theorem sameL_no {a b : List LLine} (h : a ≠ b) : sameL a b = false := by classical exact decide_eq_false h
theorem sameL_yes {a b : List LLine} (h : a = b) : sameL a b = true := by classical exact decide_eq_true h
attribute [local irreducible] sameT sameL
theorem ltok_beq (x y : LTok) : (x.kind == y.kind && (x.n == y.n && (x.text == y.text && true))) = true ↔ x = y := by
  obtain ⟨a, b, c⟩ := x
  obtain ⟨d, e, f⟩ := y
  simp
theorem same_tokens_meets : Meets Tryd.prog n_plref1_SameTokens (SpecP (fun ((a, b) : List LTok × List LTok) => a.length ≤ 1000000000 ∧ b.length ≤ 1000000000) (fun (a, b) => [.sl 3 (a.map ltokD) none, .sl 3 (b.map ltokD) none]) fun (a, b) => .bool (sameT a b)) := by
  refine meets_f tabOk Tryd.func24 rfl (by decide) ?_
  rintro ⟨a, b⟩ ⟨ha, hb⟩
  refine ⟨Nat.le_refl _, by simp [Tryd.f24], fun E hE => ?_⟩
  have ha : a.length ≤ 1000000000 := ha
  have hb : b.length ≤ 1000000000 := hb
  refine vcOk _ ?_
  (all_goals refine qgp ?_ <;> (repeat' first | exact trivial | intro hc | refine And.intro ?_ ?_) <;> refine Lf.mk ?_)
  · exact end_p (VS.mk (LeD.ff (sameT_no fun h => hc (by rw [h]))))
  refine awp_loop (α := Nat) (fun k => k ≤ a.length ∧ ∀ j, j < k → a[j]? = b[j]?)
    (fun k => [(0, .sl 3 (a.map ltokD) none), (1, .sl 3 (b.map ltokD) none), (12, .int .i64 a.length), (13, .int .i64 k)])
    (fun _ => []) (fun k => a.length - k) (fun _ => by simp [hE]) 0 ⟨Nat.zero_le _, fun j h => absurd h (Nat.not_lt_zero j)⟩ ?_ ?_
  · (repeat' (first | (refine VS.mk ?_) | exact trivial | exact rfl | refine And.intro ?_ ?_))
  rintro k ⟨hk, hf⟩
  refine vcOk _ ?_
  (all_goals refine qgp ?_ <;> (repeat' first | exact trivial | intro hc | refine And.intro ?_ ?_) <;> refine Lf.mk ?_)
  · obtain ⟨x, hx⟩ : ∃ x, a[k]? = some x := ⟨_, List.getElem?_eq_getElem (by omega)⟩
    obtain ⟨y, hy⟩ : ∃ y, b[k]? = some y := ⟨_, List.getElem?_eq_getElem (by omega)⟩
    refine ix_map x (by omega) (by simpa using hx) ?_
    (all_goals refine qgp ?_ <;> (repeat' first | exact trivial | intro hc | refine And.intro ?_ ?_) <;> refine Lf.mk ?_)
    refine ix_map y (by omega) (by simpa using hy) ?_
    (all_goals refine qgp ?_ <;> (repeat' first | exact trivial | intro hc | refine And.intro ?_ ?_) <;> refine Lf.mk ?_)
    refine eqS_flat [.int .i64, .int .i64, .str] (by kernel_rfl) rfl ?_
    have hq := ltok_beq x y
    (all_goals refine qgp ?_ <;> (repeat' first | exact trivial | intro hc | refine And.intro ?_ ?_) <;> refine Lf.mk ?_)
    · have hne : x ≠ y := fun e => by
        have := hq.2 e
        simp_all
      refine end_p (VS.mk (LeD.ff (sameT_no fun h => ?_)))
      rw [h, hy] at hx
      exact hne (Option.some.inj hx).symm
    · have he : x = y := hq.1 (by simpa using hc)
      have hf1 : ∀ j, j < k + 1 → a[j]? = b[j]? := fun j hj => by
        by_cases e : j = k
        · subst e; rw [hx, hy, he]
        · exact hf j (by omega)
      refine loop_end (k + 1) ⟨by omega, hf1⟩ (by omega) ?_
      (repeat' (first | (refine VS.mk ?_) | exact trivial | exact rfl | refine And.intro ?_ ?_))
  · refine end_p (VS.mk (LeD.tt (sameT_yes ?_)))
    apply List.ext_getElem?
    intro j
    by_cases h : j < a.length
    · exact hf j (by omega)
    · rw [List.getElem?_eq_none (by omega), List.getElem?_eq_none (by omega)]
theorem same_lines_meets : Meets Tryd.prog n_plref1_SameLines (SpecP (fun ((a, b) : List LLine × List LLine) => (a.length ≤ 1000000000 ∧ b.length ≤ 1000000000) ∧ (∀ x ∈ a, x.toks.length ≤ 1000000000) ∧ ∀ x ∈ b, x.toks.length ≤ 1000000000)
    (fun (a, b) => [.sl 2 (a.map llineD) none, .sl 2 (b.map llineD) none]) fun (a, b) => .bool (sameL a b)) := by
  refine meets_f tabOk Tryd.func31 rfl (by decide) ?_
  rintro ⟨a, b⟩ ⟨⟨ha, hb⟩, hta, htb⟩
  refine ⟨Nat.le_refl _, by simp [Tryd.f31], fun E hE => ?_⟩
  have ha : a.length ≤ 1000000000 := ha
  have hb : b.length ≤ 1000000000 := hb
  refine vcOk _ ?_
  (all_goals refine qgp ?_ <;> (repeat' first | exact trivial | intro hc | refine And.intro ?_ ?_) <;> refine Lf.mk ?_)
  · exact end_p (VS.mk (LeD.ff (sameL_no fun h => hc (by rw [h]))))
  refine awp_loop (α := Nat) (fun k => k ≤ a.length ∧ ∀ j, j < k → a[j]? = b[j]?)
    (fun k => [(0, .sl 2 (a.map llineD) none), (1, .sl 2 (b.map llineD) none), (12, .int .i64 a.length), (13, .int .i64 k)])
    (fun _ => []) (fun k => a.length - k) (fun _ => by simp [hE]) 0 ⟨Nat.zero_le _, fun j h => absurd h (Nat.not_lt_zero j)⟩ ?_ ?_
  · (repeat' (first | (refine VS.mk ?_) | exact trivial | exact rfl | refine And.intro ?_ ?_))
  rintro k ⟨hk, hf⟩
  refine vcOk _ ?_
  (all_goals refine qgp ?_ <;> (repeat' first | exact trivial | intro hc | refine And.intro ?_ ?_) <;> refine Lf.mk ?_)
  · obtain ⟨x, hx⟩ : ∃ x, a[k]? = some x := ⟨_, List.getElem?_eq_getElem (by omega)⟩
    obtain ⟨y, hy⟩ : ∃ y, b[k]? = some y := ⟨_, List.getElem?_eq_getElem (by omega)⟩
    have htx := hta x (List.mem_of_getElem? hx)
    have hty := htb y (List.mem_of_getElem? hy)
    have hno : x ≠ y → sameL a b = false := fun hne => sameL_no fun h => by
      rw [h, hy] at hx
      exact hne (Option.some.inj hx).symm
    refine ix_map x (by omega) (by simpa using hx) ?_
    (all_goals refine qgp ?_ <;> (repeat' first | exact trivial | intro hc | refine And.intro ?_ ?_) <;> refine Lf.mk ?_)
    refine ix_map y (by omega) (by simpa using hy) ?_
    (all_goals refine qgp ?_ <;> (repeat' first | exact trivial | intro hc | refine And.intro ?_ ?_) <;> refine Lf.mk ?_)
    · exact end_p (VS.mk (LeD.ff (hno fun h => hc (by rw [h]))))
    refine ix_map x (by omega) (by simpa using hx) ?_
    (all_goals refine qgp ?_ <;> (repeat' first | exact trivial | intro hc | refine And.intro ?_ ?_) <;> refine Lf.mk ?_)
    refine ix_map y (by omega) (by simpa using hy) ?_
    (all_goals refine qgp ?_ <;> (repeat' first | exact trivial | intro hc | refine And.intro ?_ ?_) <;> refine Lf.mk ?_)
    refine call_p same_tokens_meets (x.toks, y.toks) ⟨htx, hty⟩ (VS.mk (LeL.of_eq rfl)) ?_
    (all_goals refine qgp ?_ <;> (repeat' first | exact trivial | intro hc | refine And.intro ?_ ?_) <;> refine Lf.mk ?_)
    · exact end_p (VS.mk (LeD.ff (hno fun h => sameT_ne hc (by rw [h]))))
    · have he : x = y := by
        have h1 := sameT_eq hc
        obtain ⟨p, ts⟩ := x
        obtain ⟨q, us⟩ := y
        dsimp only at h1
        have h2 : p = q := by assumption
        rw [h1, h2]
      have hf1 : ∀ j, j < k + 1 → a[j]? = b[j]? := fun j hj => by
        by_cases e : j = k
        · subst e; rw [hx, hy, he]
        · exact hf j (by omega)
      refine loop_end (k + 1) ⟨by omega, hf1⟩ (by omega) ?_
      (repeat' (first | (refine VS.mk ?_) | exact trivial | exact rfl | refine And.intro ?_ ?_))
  · refine end_p (VS.mk (LeD.tt (sameL_yes ?_)))
    apply List.ext_getElem?
    intro j
    by_cases h : j < a.length
    · exact hf j (by omega)
    · rw [List.getElem?_eq_none (by omega), List.getElem?_eq_none (by omega)]
end Go.Proofs.YtdhpodgaeholmaaDoor

/-
  A number as a text.
-/
namespace Go.Proofs.YtdhpodgaeholmaaDoor
open Go Go.Plat
open Go Go.Plat
set_option linter.unusedVariables false
set_option linter.unusedSimpArgs false
set_option maxRecDepth 100000
set_option maxHeartbeats 2000000
attribute [local irreducible] NilS LookS NormM bitI BytesS NormL Arith QuoS RemS ShlS ShrS BitS CatS SplitS SideS IdxS CallS LoopEnd EndS ModeS DrawS AWP Meets

theorem itoa_meets : Meets Tryd.prog n_strconv_Itoa (SpecP (fun n : Int => -9223372036854775808 ≤ n ∧ n ≤ 9223372036854775807) (fun n => [.int .i64 n]) fun n => .str (Lib.itoa n)) := by
  refine meets_lib ⟨_, Tryd.func40, by decide, rfl⟩ ?_
  intro n hn w F hg vs hl hv
  match vs, hl with
  | [v], _ =>
    cases hv 0 _ v rfl rfl
    refine (Go.Proofs.Tryd.strconv_Itoa n hn.1 hn.2 w ?_).mono ?_
    · exact hg.tab (g := 3) (ns := (List.range 20).map (10 ^ ·)) (by kernel_rfl) (by kernel_rfl) (by rw [List.map_map]; rfl) (by decide)
    · rintro e w' ⟨rfl, k, os, rfl⟩
      exact ⟨_, rfl, .growD w k os, .str _⟩

end Go.Proofs.YtdhpodgaeholmaaDoor

/-
  Tokens as a line; lines' own copies.
-/
namespace Go.Proofs.YtdhpodgaeholmaaDoor
open Go Go.Plat
open Go Go.Plat
set_option linter.unusedVariables false
set_option linter.unusedSimpArgs false
set_option maxRecDepth 100000
set_option maxHeartbeats 2000000
attribute [local irreducible] NilS LookS NormM bitI BytesS NormL Arith QuoS RemS ShlS ShrS BitS CatS SplitS SideS IdxS CallS LoopEnd EndS ModeS DrawS AWP Meets
attribute [local irreducible] letterB digitB kindB okC numR wordC numC blankC lexF lexL spanF digV puR puF numTok signT lexR

def textT (t : LTok) : List UInt8 := if t.kind = 2 then Lib.itoa t.n else t.text
def printT (l : List LTok) : List UInt8 := Lib.join (l.map textT) [32]
def tsum : List LTok → Nat
  | [] => 0
  | t :: l => 22 + t.text.length + tsum l
def I64L (l : List LTok) : Prop := ∀ t ∈ l, -9223372036854775808 ≤ t.n ∧ t.n ≤ 9223372036854775807
theorem ndig_le : ∀ k v : Nat, v < 10 ^ k → 1 ≤ k → Lib.nDigits v ≤ k := fun k => by
  induction k with
  | zero => intro v h1 h2; omega
  | succ k ih =>
    intro v h1 h2
    by_cases hv : v < 10
    · rw [Lib.nDigits_small hv]; omega
    · rw [Lib.nDigits_big hv]
      rw [Nat.pow_succ] at h1
      by_cases hk : k = 0
      · subst hk; omega
      · have := ih (v / 10) (by omega) (by omega); omega
theorem itoa_le {n : Int} (h : -9223372036854775808 ≤ n ∧ n ≤ 9223372036854775807) : (Lib.itoa n).length ≤ 21 := by
  unfold Lib.itoa
  split
  · rw [List.length_cons, Lib.decDigits_length]
    have := ndig_le 20 n.natAbs (by omega) (by decide)
    omega
  · rw [Lib.decDigits_length]
    have := ndig_le 20 n.toNat (by omega) (by decide)
    omega
theorem textT_le {t : LTok} (h : -9223372036854775808 ≤ t.n ∧ t.n ≤ 9223372036854775807) : (textT t).length ≤ 21 + t.text.length := by
  unfold textT
  split
  · have := itoa_le h; omega
  · omega
theorem tail_snoc (p : List UInt8) (r : List (List UInt8)) (x : List UInt8) : Lib.joinTail p (r ++ [x]) = Lib.joinTail p r ++ (p ++ x) := by
  unfold Lib.joinTail
  rw [List.map_append, List.flatten_append]
  simp
theorem join_snoc (p : List UInt8) (xs : List (List UInt8)) (x : List UInt8) : Lib.join (xs ++ [x]) p = if xs = [] then x else Lib.join xs p ++ (p ++ x) := by
  cases xs with
  | nil => exact Lib.join_one x p
  | cons a r =>
    rw [if_neg (List.cons_ne_nil _ _), List.cons_append, Lib.join_cons, Lib.join_cons, tail_snoc, List.append_assoc]
theorem print_snoc (l : List LTok) (t : LTok) : printT (l ++ [t]) = if l = [] then textT t else printT l ++ ([32] ++ textT t) := by
  unfold printT
  rw [List.map_append, List.map_cons, List.map_nil, join_snoc]
  by_cases h : l = []
  · rw [if_pos h, if_pos (by rw [h]; rfl)]
  · rw [if_neg h, if_neg (by simpa using h)]
theorem tsum_snoc (l : List LTok) (t : LTok) : tsum (l ++ [t]) = tsum l + (22 + t.text.length) := by
  induction l with
  | nil => rw [List.nil_append, tsum, tsum]; exact Nat.add_comm _ _
  | cons a l ih => rw [List.cons_append, tsum, tsum, ih]; omega
theorem tsum_take : ∀ (l : List LTok) (k : Nat), tsum (l.take k) ≤ tsum l
  | [], k => by simp
  | a :: l, 0 => by simp [tsum]
  | a :: l, k + 1 => by rw [List.take_succ_cons, tsum, tsum]; have := tsum_take l k; omega
theorem tsum_len : ∀ l : List LTok, l.length ≤ tsum l
  | [] => Nat.le_refl _
  | a :: l => by rw [List.length_cons, tsum]; have := tsum_len l; omega
theorem take_snoc {α : Type} {l : List α} {k : Nat} {x : α} (h : l[k]? = some x) : l.take (k + 1) = l.take k ++ [x] := by
  have hk := (List.getElem?_eq_some_iff.1 h).1
  rw [List.take_succ_eq_append_getElem hk]
  congr 2
  rw [List.getElem?_eq_getElem hk] at h
  exact Option.some.inj h
theorem print_len2 {l : List LTok} (hl : I64L l) : (printT l).length ≤ tsum l := by
  have key : ∀ k, k ≤ l.length → (printT (l.take k)).length ≤ tsum (l.take k) := fun k => by
    induction k with
    | zero => intro _; exact Nat.le_refl _
    | succ k ih =>
      intro hk
      have hx : l[k]? = some l[k] := List.getElem?_eq_getElem (by omega)
      have h1 := ih (by omega)
      have h2 := textT_le (hl l[k] (List.getElem_mem _))
      rw [take_snoc hx, print_snoc, tsum_snoc]
      split
      · omega
      · rw [List.length_append, List.length_append, List.length_cons, List.length_nil]; omega
  have := key l.length (Nat.le_refl _)
  rwa [List.take_length] at this
theorem ref_print_meets : Meets Tryd.prog n_plref1_Print (SpecP (fun l : List LTok => I64L l ∧ tsum l ≤ 1000000000) (fun l => [.sl 3 (l.map ltokD) none]) fun l => .str (printT l)) := by
  refine meets_f tabOk Tryd.func28 rfl (by decide) ?_
  rintro l ⟨hI, hl⟩
  refine ⟨Nat.le_refl _, by simp [Tryd.f28], fun E hE => ?_⟩
  have hlen := tsum_len l
  refine vcOk _ ?_
  (all_goals refine qgp ?_ <;> (repeat' first | exact trivial | intro hc | refine And.intro ?_ ?_) <;> refine Lf.mk ?_)
  refine awp_loop (α := Nat) (fun k => k ≤ l.length)
    (fun k => [(3, .str (printT (l.take k))), (6, .sl 3 (l.map ltokD) none), (7, .int .i64 l.length), (8, .int .i64 k)])
    (fun _ => []) (fun k => l.length - k) (fun _ => by simp [hE]) 0 (Nat.zero_le _) ?_ ?_
  · (repeat' (first | (refine VS.mk ?_) | exact trivial | exact rfl | refine And.intro ?_ ?_))
  intro k hk
  have hb1 := print_len2 (l := l.take k) fun t ht => hI t (List.mem_of_mem_take ht)
  have hb2 := tsum_take l k
  have hb3 := tsum_take l (k + 1)
  refine vcOk _ ?_
  (all_goals refine qgp ?_ <;> (repeat' first | exact trivial | intro hc | refine And.intro ?_ ?_) <;> refine Lf.mk ?_)
  · obtain ⟨x, hx⟩ : ∃ x, l[k]? = some x := ⟨_, List.getElem?_eq_getElem (by omega)⟩
    have hxn := hI x (List.mem_of_getElem? hx)
    have hxl := textT_le hxn
    have hP := print_snoc (l.take k) x
    rw [← take_snoc hx] at hP
    have hS := tsum_snoc (l.take k) x
    rw [← take_snoc hx] at hS
    refine ix_map x (by omega) (by simpa using hx) ?_
    (all_goals refine qgp ?_ <;> (repeat' first | exact trivial | intro hc | refine And.intro ?_ ?_) <;> refine Lf.mk ?_)
    · have hne : l.take k ≠ [] := fun h => by
        have := congrArg List.length h
        rw [List.length_take, List.length_nil] at this
        omega
      rw [if_neg hne] at hP
      refine cat_mk (by show (((printT (l.take k)).length + 1 : Nat) : Int) ≤ 9223372036854775807; omega) ?_
      (all_goals refine qgp ?_ <;> (repeat' first | exact trivial | intro hc | refine And.intro ?_ ?_) <;> refine Lf.mk ?_)
      · refine call_p itoa_meets x.n hxn (VS.mk (LeL.of_eq rfl)) ?_
        have hT : textT x = Lib.itoa x.n := by unfold textT; rw [if_pos hc]
        rw [hT] at hP hxl
        (all_goals refine qgp ?_ <;> (repeat' first | exact trivial | intro hc | refine And.intro ?_ ?_) <;> refine Lf.mk ?_)
        refine cat_mk (by show (((printT (l.take k) ++ [32]).length + (Lib.itoa x.n).length : Nat) : Int) ≤ 9223372036854775807; rw [List.length_append, List.length_cons, List.length_nil]; omega) ?_
        (all_goals refine qgp ?_ <;> (repeat' first | exact trivial | intro hc | refine And.intro ?_ ?_) <;> refine Lf.mk ?_)
        refine loop_end (k + 1) (by omega) (by omega) ?_
        (repeat' (first | (refine VS.mk ?_) | exact trivial | exact rfl | refine And.intro ?_ ?_))
        exact congrArg D.str (by rw [hP, List.append_assoc])
      · have hT : textT x = x.text := by unfold textT; rw [if_neg hc]
        rw [hT] at hP hxl
        refine cat_mk (by show (((printT (l.take k) ++ [32]).length + x.text.length : Nat) : Int) ≤ 9223372036854775807; rw [List.length_append, List.length_cons, List.length_nil]; omega) ?_
        (all_goals refine qgp ?_ <;> (repeat' first | exact trivial | intro hc | refine And.intro ?_ ?_) <;> refine Lf.mk ?_)
        refine loop_end (k + 1) (by omega) (by omega) ?_
        (repeat' (first | (refine VS.mk ?_) | exact trivial | exact rfl | refine And.intro ?_ ?_))
        exact congrArg D.str (by rw [hP, List.append_assoc])
    all_goals
      obtain rfl : k = 0 := by omega
      rw [if_pos (List.take_zero)] at hP
    · refine call_p itoa_meets x.n hxn (VS.mk (LeL.of_eq rfl)) ?_
      have hT : textT x = Lib.itoa x.n := by unfold textT; rw [if_pos (by assumption)]
      rw [hT] at hP hxl
      (all_goals refine qgp ?_ <;> (repeat' first | exact trivial | intro hc | refine And.intro ?_ ?_) <;> refine Lf.mk ?_)
      refine cat_mk (by show (((0 : Nat) + (Lib.itoa x.n).length : Nat) : Int) ≤ 9223372036854775807; omega) ?_
      (all_goals refine qgp ?_ <;> (repeat' first | exact trivial | intro hc | refine And.intro ?_ ?_) <;> refine Lf.mk ?_)
      refine loop_end 1 (by omega) (by omega) ?_
      (repeat' (first | (refine VS.mk ?_) | exact trivial | exact rfl | refine And.intro ?_ ?_))
      all_goals exact congrArg D.str (by rw [hP]; try rfl)
    · have hT : textT x = x.text := by unfold textT; rw [if_neg (by assumption)]
      rw [hT] at hP hxl
      refine cat_mk (by show (((0 : Nat) + x.text.length : Nat) : Int) ≤ 9223372036854775807; omega) ?_
      (all_goals refine qgp ?_ <;> (repeat' first | exact trivial | intro hc | refine And.intro ?_ ?_) <;> refine Lf.mk ?_)
      refine loop_end 1 (by omega) (by omega) ?_
      (repeat' (first | (refine VS.mk ?_) | exact trivial | exact rfl | refine And.intro ?_ ?_))
      all_goals exact congrArg D.str (by rw [hP]; try rfl)
  · have e : l.take k = l := List.take_of_length_le (by omega)
    exact end_p (VS.mk (LeD.of_eq (congrArg D.str (by rw [e]))))
theorem scan_print_meets : Meets Tryd.prog n_scan_Print (SpecP (fun l : List LTok => I64L l ∧ tsum l ≤ 1000000000) (fun l => [.sl 3 (l.map ltokD) none]) fun l => .str (printT l)) := by
  refine meets_f tabOk Tryd.func27 rfl (by decide) ?_
  rintro l ⟨hI, hl⟩
  refine ⟨Nat.le_refl _, by simp [Tryd.f27], fun E hE => ?_⟩
  have hlen := tsum_len l
  refine vcOk _ ?_
  (all_goals refine qgp ?_ <;> (repeat' first | exact trivial | intro hc | refine And.intro ?_ ?_) <;> refine Lf.mk ?_)
  refine awp_weak (weak_nil 3 1 rfl) ?_
  refine awp_loop (α := Nat) (fun k => k ≤ l.length)
    (fun k => [(3, .sl 1 (((l.take k).map textT).map .str) (some 0)), (6, .sl 3 (l.map ltokD) none), (7, .int .i64 l.length), (8, .int .i64 k)])
    (fun k => [.spare (l.take k).length]) (fun k => l.length - k) (fun _ => by simp [hE]) 0 (Nat.zero_le _) ?_ ?_
  · (repeat' (first | (refine VS.mk ?_) | exact trivial | exact rfl | refine And.intro ?_ ?_))
  intro k hk
  have hkl : (l.take k).length = k := by rw [List.length_take]; omega
  refine vcOk _ ?_
  (all_goals refine qgp ?_ <;> (repeat' first | exact trivial | intro hc | refine And.intro ?_ ?_) <;> refine Lf.mk ?_)
  · obtain ⟨x, hx⟩ : ∃ x, l[k]? = some x := ⟨_, List.getElem?_eq_getElem (by omega)⟩
    have hxn := hI x (List.mem_of_getElem? hx)
    have hS := take_snoc hx
    have hkl1 : (l.take (k + 1)).length = k + 1 := by rw [List.length_take]; omega
    refine ix_map x (by omega) (by simpa using hx) ?_
    (all_goals refine qgp ?_ <;> (repeat' first | exact trivial | intro hc | refine And.intro ?_ ?_) <;> refine Lf.mk ?_)
    · refine call_p itoa_meets x.n hxn (VS.mk (LeL.of_eq rfl)) ?_
      have hT : textT x = Lib.itoa x.n := by unfold textT; rw [if_pos hc]
      (all_goals refine qgp ?_ <;> (repeat' first | exact trivial | intro hc | refine And.intro ?_ ?_) <;> refine Lf.mk ?_)
      refine loop_end (k + 1) (by omega) (by omega) ?_
      (repeat' (first | (refine VS.mk ?_) | exact trivial | exact rfl | refine And.intro ?_ ?_))
      · rw [hkl1, List.length_append, List.length_map, List.length_map, hkl]; rfl
      · rw [hS, List.map_append, List.map_append, List.map_cons, List.map_cons, List.map_nil, List.map_nil, hT]
    · have hT : textT x = x.text := by unfold textT; rw [if_neg hc]
      refine loop_end (k + 1) (by omega) (by omega) ?_
      (repeat' (first | (refine VS.mk ?_) | exact trivial | exact rfl | refine And.intro ?_ ?_))
      · rw [hkl1, List.length_append, List.length_map, List.length_map, hkl]; rfl
      · rw [hS, List.map_append, List.map_append, List.map_cons, List.map_cons, List.map_nil, List.map_nil, hT]
  · have e : l.take k = l := List.take_of_length_le (by omega)
    rw [e]
    have hpl := print_len2 hI
    refine call_p join_meets (l.map textT, [32]) ⟨by rw [List.length_map]; omega, by show (printT l).length ≤ _; omega⟩ (VS.mk (LeL.of_eq rfl)) ?_
    (all_goals refine qgp ?_ <;> (repeat' first | exact trivial | intro hc | refine And.intro ?_ ?_) <;> refine Lf.mk ?_)
    exact end_p (VS.mk (LeD.of_eq rfl))
end Go.Proofs.YtdhpodgaeholmaaDoor

/-
  Own copies of lines.
-/
namespace Go.Proofs.YtdhpodgaeholmaaDoor
open Go Go.Plat
open Go Go.Plat
set_option linter.unusedVariables false
set_option linter.unusedSimpArgs false
set_option maxRecDepth 100000
set_option maxHeartbeats 2000000
attribute [local irreducible] NilS LookS NormM bitI BytesS NormL Arith QuoS RemS ShlS ShrS BitS CatS SplitS SideS IdxS CallS LoopEnd EndS ModeS DrawS AWP Meets
attribute [local irreducible] letterB digitB kindB okC numR wordC numC blankC lexF lexL spanF digV puR puF numTok signT lexR

theorem own_meets : Meets Tryd.prog n_scan_Own (SpecP (fun l : List LLine => l.length ≤ 1000000000 ∧ ∀ x ∈ l, x.toks.length ≤ 1000000000) (fun l => [.sl 2 (l.map llineD) none]) fun l => .sl 2 (l.map llineD) none) := by
  refine meets_f tabOk Tryd.func32 rfl (by decide) ?_
  rintro l ⟨hl, ht⟩
  refine ⟨Nat.le_refl _, by simp [Tryd.f32], fun E hE => ?_⟩
  refine vcOk _ ?_
  (all_goals refine qgp ?_ <;> (repeat' first | exact trivial | intro hc | refine And.intro ?_ ?_) <;> refine Lf.mk ?_)
  refine awp_weak (weak_nil 3 2 rfl) ?_
  refine awp_loop (α := Nat) (fun k => k ≤ l.length)
    (fun k => [(3, .sl 2 ((l.take k).map llineD) (some 0)), (6, .sl 2 (l.map llineD) none), (7, .int .i64 l.length), (8, .int .i64 k)])
    (fun k => [.spare (l.take k).length]) (fun k => l.length - k) (fun _ => by simp [hE]) 0 (Nat.zero_le _) ?_ ?_
  · (repeat' (first | (refine VS.mk ?_) | exact trivial | exact rfl | refine And.intro ?_ ?_))
  intro k hk
  have hkl : (l.take k).length = k := by rw [List.length_take]; omega
  refine vcOk _ ?_
  (all_goals refine qgp ?_ <;> (repeat' first | exact trivial | intro hc | refine And.intro ?_ ?_) <;> refine Lf.mk ?_)
  · obtain ⟨x, hx⟩ : ∃ x, l[k]? = some x := ⟨_, List.getElem?_eq_getElem (by omega)⟩
    have hS := take_snoc hx
    have hkl1 : (l.take (k + 1)).length = k + 1 := by rw [List.length_take]; omega
    have hxt := ht x (List.mem_of_getElem? hx)
    refine ix_map x (by omega) (by simpa using hx) ?_
    (all_goals refine qgp ?_ <;> (repeat' first | exact trivial | intro hc | refine And.intro ?_ ?_) <;> refine Lf.mk ?_)
    refine loop_end (k + 1) (by omega) (by omega) ?_
    (repeat' (first | (refine VS.mk ?_) | exact trivial | exact rfl | refine And.intro ?_ ?_))
    · rw [hkl1, List.length_append, List.length_map, hkl]; rfl
    · rw [hS, List.map_append, List.map_cons, List.map_nil]; rfl
  · have e : l.take k = l := List.take_of_length_le (by omega)
    rw [e]
    exact end_p (VS.mk (LeD.of_eq rfl))
end Go.Proofs.YtdhpodgaeholmaaDoor
