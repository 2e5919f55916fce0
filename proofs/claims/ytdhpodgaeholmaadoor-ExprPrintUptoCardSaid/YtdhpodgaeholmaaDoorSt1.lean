/-
  A part of the proof: what the given program's functions answer, each once; conditions that are enough for it.
-/
import Derived.Test.YtdhpodgaeholmaaDoorProg
import Derived.KernelRfl
import Derived.Test.YtdhpodgaeholmaaDoorFw3
import Derived.Test.YtdhpodgaeholmaaDoorFw4
import Derived.Test.YtdhpodgaeholmaaDoorRows
import Derived.WalkKit
import Derived.ProofKit
import Derived.OpenShut
import Derived.JoinedCond
/-
  The types' table and the functions' numbers of this seat; printed by a program.
-/
namespace Go.Proofs.YtdhpodgaeholmaaDoor
open Go Go.Plat
set_option maxRecDepth 100000

theorem TIOk.of {P : Program} {t : Nat} {i : TI} (h1 : (P.underlying t).map tdOf = some i.d) (h2 : (P.info? t).map (fun x => (x.size, x.bytes, x.zero)) = some (i.size, i.bytes, some i.zero)) (h3 : Nat.beq i.size 0 = false) (h3b : Nat.beq i.bytes 0 = false) (h4 : Nat.beq i.zero.cells.size i.size = true)
    (h5 : (match P.underlying t with | some (.struct fs) => fs.toList.all fun f => (P.info? f.type).isSome | _ => true) = true) : TIOk P t i where
  under := by
    cases h : P.underlying t with
    | none => rw [h] at h1; cases h1
    | some d => rw [h] at h1; exact ⟨d, rfl, by simpa using h1⟩
  info := by
    cases h : P.info? t with
    | none => rw [h] at h2; cases h2
    | some x => rw [h] at h2; simp at h2; exact ⟨x, rfl, h2.1, h2.2.1, h2.2.2⟩
  pos := by intro h; rw [h] at h3; simp at h3
  bpos := by intro h; rw [h] at h3b; simp at h3b
  szero := Nat.eq_of_beq_eq_true h4
  fin := h5

theorem tk3 : TIOk Tryd.prog 3 ⟨(.int .i64), 1, 8, (.int .i64 0)⟩ := TIOk.of (by kernel_rfl) (by kernel_rfl) rfl rfl (by kernel_rfl) (by kernel_rfl)
theorem tk4 : TIOk Tryd.prog 4 ⟨.bool, 1, 1, (.bool false)⟩ := TIOk.of (by kernel_rfl) (by kernel_rfl) rfl rfl (by kernel_rfl) (by kernel_rfl)
theorem tk5 : TIOk Tryd.prog 5 ⟨(.int .u8), 1, 1, (.int .u8 0)⟩ := TIOk.of (by kernel_rfl) (by kernel_rfl) rfl rfl (by kernel_rfl) (by kernel_rfl)
theorem tk9 : TIOk Tryd.prog 9 ⟨.str, 1, 16, (.string ⟨#[]⟩)⟩ := TIOk.of (by kernel_rfl) (by kernel_rfl) rfl rfl (by kernel_rfl) (by kernel_rfl)
theorem tk43 : TIOk Tryd.prog 43 ⟨(.slice 5), 1, 24, (.slice none 0 0)⟩ := TIOk.of (by kernel_rfl) (by kernel_rfl) rfl rfl (by kernel_rfl) (by kernel_rfl)
theorem tk2 : TIOk Tryd.prog 2 ⟨(.int .i64), 1, 8, (.int .i64 0)⟩ := TIOk.of (by kernel_rfl) (by kernel_rfl) rfl rfl (by kernel_rfl) (by kernel_rfl)
theorem tk12 : TIOk Tryd.prog 12 ⟨(.int .u64), 1, 8, (.int .u64 0)⟩ := TIOk.of (by kernel_rfl) (by kernel_rfl) rfl rfl (by kernel_rfl) (by kernel_rfl)
theorem tk20 : TIOk Tryd.prog 20 ⟨.iface, 1, 16, .nilIface⟩ := TIOk.of (by kernel_rfl) (by kernel_rfl) rfl rfl (by kernel_rfl) (by kernel_rfl)
theorem tk21 : TIOk Tryd.prog 21 ⟨(.int .i32), 1, 4, (.int .i32 0)⟩ := TIOk.of (by kernel_rfl) (by kernel_rfl) rfl rfl (by kernel_rfl) (by kernel_rfl)
theorem tk22 : TIOk Tryd.prog 22 ⟨(.slice 67), 1, 24, (.slice none 0 0)⟩ := TIOk.of (by kernel_rfl) (by kernel_rfl) rfl rfl (by kernel_rfl) (by kernel_rfl)
theorem tk23 : TIOk Tryd.prog 23 ⟨(.slice 40), 1, 24, (.slice none 0 0)⟩ := TIOk.of (by kernel_rfl) (by kernel_rfl) rfl rfl (by kernel_rfl) (by kernel_rfl)
theorem tk25 : TIOk Tryd.prog 25 ⟨(.slice 27), 1, 24, (.slice none 0 0)⟩ := TIOk.of (by kernel_rfl) (by kernel_rfl) rfl rfl (by kernel_rfl) (by kernel_rfl)
theorem tk26 : TIOk Tryd.prog 26 ⟨(.struct [(0, 3), (1, 3), (2, 9), (3, 25)]), 4, 56, (.agg #[(.int .i64 0), (.int .i64 0), (.string ⟨#[]⟩), (.slice none 0 0)])⟩ := TIOk.of (by kernel_rfl) (by kernel_rfl) rfl rfl (by kernel_rfl) (by kernel_rfl)
theorem tk27 : TIOk Tryd.prog 27 ⟨(.struct [(0, 3), (1, 3), (2, 9), (3, 25)]), 4, 56, (.agg #[(.int .i64 0), (.int .i64 0), (.string ⟨#[]⟩), (.slice none 0 0)])⟩ := TIOk.of (by kernel_rfl) (by kernel_rfl) rfl rfl (by kernel_rfl) (by kernel_rfl)
theorem tk28 : TIOk Tryd.prog 28 ⟨(.int .i64), 1, 8, (.int .i64 0)⟩ := TIOk.of (by kernel_rfl) (by kernel_rfl) rfl rfl (by kernel_rfl) (by kernel_rfl)
theorem tk34 : TIOk Tryd.prog 34 ⟨(.struct [(0, 9), (1, 3)]), 2, 24, (.agg #[(.string ⟨#[]⟩), (.int .i64 0)])⟩ := TIOk.of (by kernel_rfl) (by kernel_rfl) rfl rfl (by kernel_rfl) (by kernel_rfl)
theorem tk35 : TIOk Tryd.prog 35 ⟨(.struct [(0, 9), (1, 3)]), 2, 24, (.agg #[(.string ⟨#[]⟩), (.int .i64 0)])⟩ := TIOk.of (by kernel_rfl) (by kernel_rfl) rfl rfl (by kernel_rfl) (by kernel_rfl)
theorem tk40 : TIOk Tryd.prog 40 ⟨(.struct [(0, 9), (1, 3)]), 2, 24, (.agg #[(.string ⟨#[]⟩), (.int .i64 0)])⟩ := TIOk.of (by kernel_rfl) (by kernel_rfl) rfl rfl (by kernel_rfl) (by kernel_rfl)
theorem tk44 : TIOk Tryd.prog 44 ⟨(.struct [(0, 3), (1, 3), (2, 3), (3, 3)]), 4, 32, (.agg #[(.int .i64 0), (.int .i64 0), (.int .i64 0), (.int .i64 0)])⟩ := TIOk.of (by kernel_rfl) (by kernel_rfl) rfl rfl (by kernel_rfl) (by kernel_rfl)
theorem tk45 : TIOk Tryd.prog 45 ⟨(.struct [(0, 3), (1, 3), (2, 3), (3, 3)]), 4, 32, (.agg #[(.int .i64 0), (.int .i64 0), (.int .i64 0), (.int .i64 0)])⟩ := TIOk.of (by kernel_rfl) (by kernel_rfl) rfl rfl (by kernel_rfl) (by kernel_rfl)
theorem tk55 : TIOk Tryd.prog 55 ⟨(.slice 64), 1, 24, (.slice none 0 0)⟩ := TIOk.of (by kernel_rfl) (by kernel_rfl) rfl rfl (by kernel_rfl) (by kernel_rfl)
theorem tk56 : TIOk Tryd.prog 56 ⟨(.struct [(0, 28), (1, 3)]), 2, 16, (.agg #[(.int .i64 0), (.int .i64 0)])⟩ := TIOk.of (by kernel_rfl) (by kernel_rfl) rfl rfl (by kernel_rfl) (by kernel_rfl)
theorem tk57 : TIOk Tryd.prog 57 ⟨(.struct [(0, 28), (1, 3)]), 2, 16, (.agg #[(.int .i64 0), (.int .i64 0)])⟩ := TIOk.of (by kernel_rfl) (by kernel_rfl) rfl rfl (by kernel_rfl) (by kernel_rfl)
theorem tk63 : TIOk Tryd.prog 63 ⟨(.struct [(0, 3), (1, 22)]), 2, 32, (.agg #[(.int .i64 0), (.slice none 0 0)])⟩ := TIOk.of (by kernel_rfl) (by kernel_rfl) rfl rfl (by kernel_rfl) (by kernel_rfl)
theorem tk64 : TIOk Tryd.prog 64 ⟨(.struct [(0, 3), (1, 22)]), 2, 32, (.agg #[(.int .i64 0), (.slice none 0 0)])⟩ := TIOk.of (by kernel_rfl) (by kernel_rfl) rfl rfl (by kernel_rfl) (by kernel_rfl)
theorem tk66 : TIOk Tryd.prog 66 ⟨(.struct [(0, 3), (1, 3), (2, 9)]), 3, 32, (.agg #[(.int .i64 0), (.int .i64 0), (.string ⟨#[]⟩)])⟩ := TIOk.of (by kernel_rfl) (by kernel_rfl) rfl rfl (by kernel_rfl) (by kernel_rfl)
theorem tk67 : TIOk Tryd.prog 67 ⟨(.struct [(0, 3), (1, 3), (2, 9)]), 3, 32, (.agg #[(.int .i64 0), (.int .i64 0), (.string ⟨#[]⟩)])⟩ := TIOk.of (by kernel_rfl) (by kernel_rfl) rfl rfl (by kernel_rfl) (by kernel_rfl)
theorem tk70 : TIOk Tryd.prog 70 ⟨(.ptr 72), 1, 8, (.pointer none)⟩ := TIOk.of (by kernel_rfl) (by kernel_rfl) rfl rfl (by kernel_rfl) (by kernel_rfl)
theorem tk71 : TIOk Tryd.prog 71 ⟨(.struct [(0, 22), (1, 28)]), 2, 32, (.agg #[(.slice none 0 0), (.int .i64 0)])⟩ := TIOk.of (by kernel_rfl) (by kernel_rfl) rfl rfl (by kernel_rfl) (by kernel_rfl)
theorem tk72 : TIOk Tryd.prog 72 ⟨(.struct [(0, 22), (1, 28)]), 2, 32, (.agg #[(.slice none 0 0), (.int .i64 0)])⟩ := TIOk.of (by kernel_rfl) (by kernel_rfl) rfl rfl (by kernel_rfl) (by kernel_rfl)
theorem tk78 : TIOk Tryd.prog 78 ⟨(.slice 83), 1, 24, (.slice none 0 0)⟩ := TIOk.of (by kernel_rfl) (by kernel_rfl) rfl rfl (by kernel_rfl) (by kernel_rfl)
theorem tk80 : TIOk Tryd.prog 80 ⟨(.slice 9), 1, 24, (.slice none 0 0)⟩ := TIOk.of (by kernel_rfl) (by kernel_rfl) rfl rfl (by kernel_rfl) (by kernel_rfl)
theorem tk81 : TIOk Tryd.prog 81 ⟨(.slice 3), 1, 24, (.slice none 0 0)⟩ := TIOk.of (by kernel_rfl) (by kernel_rfl) rfl rfl (by kernel_rfl) (by kernel_rfl)
theorem tk82 : TIOk Tryd.prog 82 ⟨(.struct [(0, 80), (1, 81)]), 2, 48, (.agg #[(.slice none 0 0), (.slice none 0 0)])⟩ := TIOk.of (by kernel_rfl) (by kernel_rfl) rfl rfl (by kernel_rfl) (by kernel_rfl)
theorem tk83 : TIOk Tryd.prog 83 ⟨(.struct [(0, 80), (1, 81)]), 2, 48, (.agg #[(.slice none 0 0), (.slice none 0 0)])⟩ := TIOk.of (by kernel_rfl) (by kernel_rfl) rfl rfl (by kernel_rfl) (by kernel_rfl)
theorem tk85 : TIOk Tryd.prog 85 ⟨(.slice 35), 1, 24, (.slice none 0 0)⟩ := TIOk.of (by kernel_rfl) (by kernel_rfl) rfl rfl (by kernel_rfl) (by kernel_rfl)
theorem tk89 : TIOk Tryd.prog 89 ⟨(.int .u32), 1, 4, (.int .u32 0)⟩ := TIOk.of (by kernel_rfl) (by kernel_rfl) rfl rfl (by kernel_rfl) (by kernel_rfl)
theorem tk98 : TIOk Tryd.prog 98 ⟨(.ptr 100), 1, 8, (.pointer none)⟩ := TIOk.of (by kernel_rfl) (by kernel_rfl) rfl rfl (by kernel_rfl) (by kernel_rfl)
theorem tk99 : TIOk Tryd.prog 99 ⟨(.struct [(0, 98), (1, 43)]), 2, 32, (.agg #[(.pointer none), (.slice none 0 0)])⟩ := TIOk.of (by kernel_rfl) (by kernel_rfl) rfl rfl (by kernel_rfl) (by kernel_rfl)
theorem tk100 : TIOk Tryd.prog 100 ⟨(.struct [(0, 98), (1, 43)]), 2, 32, (.agg #[(.pointer none), (.slice none 0 0)])⟩ := TIOk.of (by kernel_rfl) (by kernel_rfl) rfl rfl (by kernel_rfl) (by kernel_rfl)
theorem tk102 : TIOk Tryd.prog 102 ⟨.iface, 1, 16, .nilIface⟩ := TIOk.of (by kernel_rfl) (by kernel_rfl) rfl rfl (by kernel_rfl) (by kernel_rfl)
theorem tk103 : TIOk Tryd.prog 103 ⟨.iface, 1, 16, .nilIface⟩ := TIOk.of (by kernel_rfl) (by kernel_rfl) rfl rfl (by kernel_rfl) (by kernel_rfl)
theorem tk107 : TIOk Tryd.prog 107 ⟨(.map 3 4), 1, 8, (.map none)⟩ := TIOk.of (by kernel_rfl) (by kernel_rfl) rfl rfl (by kernel_rfl) (by kernel_rfl)
theorem tk108 : TIOk Tryd.prog 108 ⟨(.struct [(0, 9), (1, 3), (2, 9)]), 3, 40, (.agg #[(.string ⟨#[]⟩), (.int .i64 0), (.string ⟨#[]⟩)])⟩ := TIOk.of (by kernel_rfl) (by kernel_rfl) rfl rfl (by kernel_rfl) (by kernel_rfl)
theorem tk109 : TIOk Tryd.prog 109 ⟨(.struct [(0, 9), (1, 3), (2, 9)]), 3, 40, (.agg #[(.string ⟨#[]⟩), (.int .i64 0), (.string ⟨#[]⟩)])⟩ := TIOk.of (by kernel_rfl) (by kernel_rfl) rfl rfl (by kernel_rfl) (by kernel_rfl)
theorem tk111 : TIOk Tryd.prog 111 ⟨(.map 3 109), 1, 8, (.map none)⟩ := TIOk.of (by kernel_rfl) (by kernel_rfl) rfl rfl (by kernel_rfl) (by kernel_rfl)
theorem tk120 : TIOk Tryd.prog 120 ⟨(.ptr 122), 1, 8, (.pointer none)⟩ := TIOk.of (by kernel_rfl) (by kernel_rfl) rfl rfl (by kernel_rfl) (by kernel_rfl)
theorem tk121 : TIOk Tryd.prog 121 ⟨(.struct [(0, 9), (1, 3)]), 2, 24, (.agg #[(.string ⟨#[]⟩), (.int .i64 0)])⟩ := TIOk.of (by kernel_rfl) (by kernel_rfl) rfl rfl (by kernel_rfl) (by kernel_rfl)
theorem tk122 : TIOk Tryd.prog 122 ⟨(.struct [(0, 9), (1, 3)]), 2, 24, (.agg #[(.string ⟨#[]⟩), (.int .i64 0)])⟩ := TIOk.of (by kernel_rfl) (by kernel_rfl) rfl rfl (by kernel_rfl) (by kernel_rfl)
theorem tk133 : TIOk Tryd.prog 133 ⟨(.slice 136), 1, 24, (.slice none 0 0)⟩ := TIOk.of (by kernel_rfl) (by kernel_rfl) rfl rfl (by kernel_rfl) (by kernel_rfl)
theorem tk135 : TIOk Tryd.prog 135 ⟨(.struct [(0, 3), (1, 9), (2, 3), (3, 3)]), 4, 40, (.agg #[(.int .i64 0), (.string ⟨#[]⟩), (.int .i64 0), (.int .i64 0)])⟩ := TIOk.of (by kernel_rfl) (by kernel_rfl) rfl rfl (by kernel_rfl) (by kernel_rfl)
theorem tk136 : TIOk Tryd.prog 136 ⟨(.struct [(0, 3), (1, 9), (2, 3), (3, 3)]), 4, 40, (.agg #[(.int .i64 0), (.string ⟨#[]⟩), (.int .i64 0), (.int .i64 0)])⟩ := TIOk.of (by kernel_rfl) (by kernel_rfl) rfl rfl (by kernel_rfl) (by kernel_rfl)
theorem tk139 : TIOk Tryd.prog 139 ⟨(.int .u64), 1, 8, (.int .u64 0)⟩ := TIOk.of (by kernel_rfl) (by kernel_rfl) rfl rfl (by kernel_rfl) (by kernel_rfl)
theorem tk141 : TIOk Tryd.prog 141 ⟨(.ptr 5), 1, 8, (.pointer none)⟩ := TIOk.of (by kernel_rfl) (by kernel_rfl) rfl rfl (by kernel_rfl) (by kernel_rfl)
theorem tk144 : TIOk Tryd.prog 144 ⟨(.arr 256 5), 256, 256, (.agg #[(.int .u8 0), (.int .u8 0), (.int .u8 0), (.int .u8 0), (.int .u8 0), (.int .u8 0), (.int .u8 0), (.int .u8 0), (.int .u8 0), (.int .u8 0), (.int .u8 0), (.int .u8 0), (.int .u8 0), (.int .u8 0), (.int .u8 0), (.int .u8 0), (.int .u8 0), (.int .u8 0), (.int .u8 0), (.int .u8 0), (.int .u8 0), (.int .u8 0), (.int .u8 0), (.int .u8 0), (.int .u8 0), (.int .u8 0), (.int .u8 0), (.int .u8 0), (.int .u8 0), (.int .u8 0), (.int .u8 0), (.int .u8 0), (.int .u8 0), (.int .u8 0), (.int .u8 0), (.int .u8 0), (.int .u8 0), (.int .u8 0), (.int .u8 0), (.int .u8 0), (.int .u8 0), (.int .u8 0), (.int .u8 0), (.int .u8 0), (.int .u8 0), (.int .u8 0), (.int .u8 0), (.int .u8 0), (.int .u8 0), (.int .u8 0), (.int .u8 0), (.int .u8 0), (.int .u8 0), (.int .u8 0), (.int .u8 0), (.int .u8 0), (.int .u8 0), (.int .u8 0), (.int .u8 0), (.int .u8 0), (.int .u8 0), (.int .u8 0), (.int .u8 0), (.int .u8 0), (.int .u8 0), (.int .u8 0), (.int .u8 0), (.int .u8 0), (.int .u8 0), (.int .u8 0), (.int .u8 0), (.int .u8 0), (.int .u8 0), (.int .u8 0), (.int .u8 0), (.int .u8 0), (.int .u8 0), (.int .u8 0), (.int .u8 0), (.int .u8 0), (.int .u8 0), (.int .u8 0), (.int .u8 0), (.int .u8 0), (.int .u8 0), (.int .u8 0), (.int .u8 0), (.int .u8 0), (.int .u8 0), (.int .u8 0), (.int .u8 0), (.int .u8 0), (.int .u8 0), (.int .u8 0), (.int .u8 0), (.int .u8 0), (.int .u8 0), (.int .u8 0), (.int .u8 0), (.int .u8 0), (.int .u8 0), (.int .u8 0), (.int .u8 0), (.int .u8 0), (.int .u8 0), (.int .u8 0), (.int .u8 0), (.int .u8 0), (.int .u8 0), (.int .u8 0), (.int .u8 0), (.int .u8 0), (.int .u8 0), (.int .u8 0), (.int .u8 0), (.int .u8 0), (.int .u8 0), (.int .u8 0), (.int .u8 0), (.int .u8 0), (.int .u8 0), (.int .u8 0), (.int .u8 0), (.int .u8 0), (.int .u8 0), (.int .u8 0), (.int .u8 0), (.int .u8 0), (.int .u8 0), (.int .u8 0), (.int .u8 0), (.int .u8 0), (.int .u8 0), (.int .u8 0), (.int .u8 0), (.int .u8 0), (.int .u8 0), (.int .u8 0), (.int .u8 0), (.int .u8 0), (.int .u8 0), (.int .u8 0), (.int .u8 0), (.int .u8 0), (.int .u8 0), (.int .u8 0), (.int .u8 0), (.int .u8 0), (.int .u8 0), (.int .u8 0), (.int .u8 0), (.int .u8 0), (.int .u8 0), (.int .u8 0), (.int .u8 0), (.int .u8 0), (.int .u8 0), (.int .u8 0), (.int .u8 0), (.int .u8 0), (.int .u8 0), (.int .u8 0), (.int .u8 0), (.int .u8 0), (.int .u8 0), (.int .u8 0), (.int .u8 0), (.int .u8 0), (.int .u8 0), (.int .u8 0), (.int .u8 0), (.int .u8 0), (.int .u8 0), (.int .u8 0), (.int .u8 0), (.int .u8 0), (.int .u8 0), (.int .u8 0), (.int .u8 0), (.int .u8 0), (.int .u8 0), (.int .u8 0), (.int .u8 0), (.int .u8 0), (.int .u8 0), (.int .u8 0), (.int .u8 0), (.int .u8 0), (.int .u8 0), (.int .u8 0), (.int .u8 0), (.int .u8 0), (.int .u8 0), (.int .u8 0), (.int .u8 0), (.int .u8 0), (.int .u8 0), (.int .u8 0), (.int .u8 0), (.int .u8 0), (.int .u8 0), (.int .u8 0), (.int .u8 0), (.int .u8 0), (.int .u8 0), (.int .u8 0), (.int .u8 0), (.int .u8 0), (.int .u8 0), (.int .u8 0), (.int .u8 0), (.int .u8 0), (.int .u8 0), (.int .u8 0), (.int .u8 0), (.int .u8 0), (.int .u8 0), (.int .u8 0), (.int .u8 0), (.int .u8 0), (.int .u8 0), (.int .u8 0), (.int .u8 0), (.int .u8 0), (.int .u8 0), (.int .u8 0), (.int .u8 0), (.int .u8 0), (.int .u8 0), (.int .u8 0), (.int .u8 0), (.int .u8 0), (.int .u8 0), (.int .u8 0), (.int .u8 0), (.int .u8 0), (.int .u8 0), (.int .u8 0), (.int .u8 0), (.int .u8 0), (.int .u8 0), (.int .u8 0), (.int .u8 0), (.int .u8 0), (.int .u8 0), (.int .u8 0), (.int .u8 0), (.int .u8 0), (.int .u8 0), (.int .u8 0), (.int .u8 0), (.int .u8 0), (.int .u8 0), (.int .u8 0), (.int .u8 0), (.int .u8 0)])⟩ := TIOk.of (by kernel_rfl) (by kernel_rfl) rfl rfl (by kernel_rfl) (by kernel_rfl)
theorem tk145 : TIOk Tryd.prog 145 ⟨(.int .u64), 1, 8, (.int .u64 0)⟩ := TIOk.of (by kernel_rfl) (by kernel_rfl) rfl rfl (by kernel_rfl) (by kernel_rfl)
theorem tk156 : TIOk Tryd.prog 156 ⟨(.ptr 171), 1, 8, (.pointer none)⟩ := TIOk.of (by kernel_rfl) (by kernel_rfl) rfl rfl (by kernel_rfl) (by kernel_rfl)
theorem tk163 : TIOk Tryd.prog 163 ⟨(.arr 24 5), 24, 24, (.agg #[(.int .u8 0), (.int .u8 0), (.int .u8 0), (.int .u8 0), (.int .u8 0), (.int .u8 0), (.int .u8 0), (.int .u8 0), (.int .u8 0), (.int .u8 0), (.int .u8 0), (.int .u8 0), (.int .u8 0), (.int .u8 0), (.int .u8 0), (.int .u8 0), (.int .u8 0), (.int .u8 0), (.int .u8 0), (.int .u8 0), (.int .u8 0), (.int .u8 0), (.int .u8 0), (.int .u8 0)])⟩ := TIOk.of (by kernel_rfl) (by kernel_rfl) rfl rfl (by kernel_rfl) (by kernel_rfl)
theorem tk168 : TIOk Tryd.prog 168 ⟨(.slice 174), 1, 24, (.slice none 0 0)⟩ := TIOk.of (by kernel_rfl) (by kernel_rfl) rfl rfl (by kernel_rfl) (by kernel_rfl)
theorem tk169 : TIOk Tryd.prog 169 ⟨(.slice 177), 1, 24, (.slice none 0 0)⟩ := TIOk.of (by kernel_rfl) (by kernel_rfl) rfl rfl (by kernel_rfl) (by kernel_rfl)
theorem tk170 : TIOk Tryd.prog 170 ⟨(.struct [(0, 168), (1, 169), (2, 3)]), 3, 56, (.agg #[(.slice none 0 0), (.slice none 0 0), (.int .i64 0)])⟩ := TIOk.of (by kernel_rfl) (by kernel_rfl) rfl rfl (by kernel_rfl) (by kernel_rfl)
theorem tk171 : TIOk Tryd.prog 171 ⟨(.struct [(0, 168), (1, 169), (2, 3)]), 3, 56, (.agg #[(.slice none 0 0), (.slice none 0 0), (.int .i64 0)])⟩ := TIOk.of (by kernel_rfl) (by kernel_rfl) rfl rfl (by kernel_rfl) (by kernel_rfl)
theorem tk172 : TIOk Tryd.prog 172 ⟨(.int .u16), 1, 2, (.int .u16 0)⟩ := TIOk.of (by kernel_rfl) (by kernel_rfl) rfl rfl (by kernel_rfl) (by kernel_rfl)
theorem tk173 : TIOk Tryd.prog 173 ⟨(.struct [(0, 172), (1, 172), (2, 172)]), 3, 6, (.agg #[(.int .u16 0), (.int .u16 0), (.int .u16 0)])⟩ := TIOk.of (by kernel_rfl) (by kernel_rfl) rfl rfl (by kernel_rfl) (by kernel_rfl)
theorem tk174 : TIOk Tryd.prog 174 ⟨(.struct [(0, 172), (1, 172), (2, 172)]), 3, 6, (.agg #[(.int .u16 0), (.int .u16 0), (.int .u16 0)])⟩ := TIOk.of (by kernel_rfl) (by kernel_rfl) rfl rfl (by kernel_rfl) (by kernel_rfl)
theorem tk176 : TIOk Tryd.prog 176 ⟨(.struct [(0, 89), (1, 89), (2, 89)]), 3, 12, (.agg #[(.int .u32 0), (.int .u32 0), (.int .u32 0)])⟩ := TIOk.of (by kernel_rfl) (by kernel_rfl) rfl rfl (by kernel_rfl) (by kernel_rfl)
theorem tk177 : TIOk Tryd.prog 177 ⟨(.struct [(0, 89), (1, 89), (2, 89)]), 3, 12, (.agg #[(.int .u32 0), (.int .u32 0), (.int .u32 0)])⟩ := TIOk.of (by kernel_rfl) (by kernel_rfl) rfl rfl (by kernel_rfl) (by kernel_rfl)
theorem tk180 : TIOk Tryd.prog 180 ⟨(.int .i64), 1, 8, (.int .i64 0)⟩ := TIOk.of (by kernel_rfl) (by kernel_rfl) rfl rfl (by kernel_rfl) (by kernel_rfl)
theorem tk181 : TIOk Tryd.prog 181 ⟨(.ptr 199), 1, 8, (.pointer none)⟩ := TIOk.of (by kernel_rfl) (by kernel_rfl) rfl rfl (by kernel_rfl) (by kernel_rfl)
theorem tk187 : TIOk Tryd.prog 187 ⟨(.arr 20 145), 20, 160, (.agg #[(.int .u64 0), (.int .u64 0), (.int .u64 0), (.int .u64 0), (.int .u64 0), (.int .u64 0), (.int .u64 0), (.int .u64 0), (.int .u64 0), (.int .u64 0), (.int .u64 0), (.int .u64 0), (.int .u64 0), (.int .u64 0), (.int .u64 0), (.int .u64 0), (.int .u64 0), (.int .u64 0), (.int .u64 0), (.int .u64 0)])⟩ := TIOk.of (by kernel_rfl) (by kernel_rfl) rfl rfl (by kernel_rfl) (by kernel_rfl)
theorem tk188 : TIOk Tryd.prog 188 ⟨(.arr 65 5), 65, 65, (.agg #[(.int .u8 0), (.int .u8 0), (.int .u8 0), (.int .u8 0), (.int .u8 0), (.int .u8 0), (.int .u8 0), (.int .u8 0), (.int .u8 0), (.int .u8 0), (.int .u8 0), (.int .u8 0), (.int .u8 0), (.int .u8 0), (.int .u8 0), (.int .u8 0), (.int .u8 0), (.int .u8 0), (.int .u8 0), (.int .u8 0), (.int .u8 0), (.int .u8 0), (.int .u8 0), (.int .u8 0), (.int .u8 0), (.int .u8 0), (.int .u8 0), (.int .u8 0), (.int .u8 0), (.int .u8 0), (.int .u8 0), (.int .u8 0), (.int .u8 0), (.int .u8 0), (.int .u8 0), (.int .u8 0), (.int .u8 0), (.int .u8 0), (.int .u8 0), (.int .u8 0), (.int .u8 0), (.int .u8 0), (.int .u8 0), (.int .u8 0), (.int .u8 0), (.int .u8 0), (.int .u8 0), (.int .u8 0), (.int .u8 0), (.int .u8 0), (.int .u8 0), (.int .u8 0), (.int .u8 0), (.int .u8 0), (.int .u8 0), (.int .u8 0), (.int .u8 0), (.int .u8 0), (.int .u8 0), (.int .u8 0), (.int .u8 0), (.int .u8 0), (.int .u8 0), (.int .u8 0), (.int .u8 0)])⟩ := TIOk.of (by kernel_rfl) (by kernel_rfl) rfl rfl (by kernel_rfl) (by kernel_rfl)
theorem tk191 : TIOk Tryd.prog 191 ⟨(.ptr 174), 1, 8, (.pointer none)⟩ := TIOk.of (by kernel_rfl) (by kernel_rfl) rfl rfl (by kernel_rfl) (by kernel_rfl)
theorem tk192 : TIOk Tryd.prog 192 ⟨(.ptr 177), 1, 8, (.pointer none)⟩ := TIOk.of (by kernel_rfl) (by kernel_rfl) rfl rfl (by kernel_rfl) (by kernel_rfl)
theorem tk193 : TIOk Tryd.prog 193 ⟨(.struct [(0, 5), (1, 5)]), 2, 2, (.agg #[(.int .u8 0), (.int .u8 0)])⟩ := TIOk.of (by kernel_rfl) (by kernel_rfl) rfl rfl (by kernel_rfl) (by kernel_rfl)
theorem tk194 : TIOk Tryd.prog 194 ⟨(.struct [(0, 5), (1, 5)]), 2, 2, (.agg #[(.int .u8 0), (.int .u8 0)])⟩ := TIOk.of (by kernel_rfl) (by kernel_rfl) rfl rfl (by kernel_rfl) (by kernel_rfl)
theorem tk195 : TIOk Tryd.prog 195 ⟨(.arr 16 194), 32, 32, (.agg #[(.int .u8 0), (.int .u8 0), (.int .u8 0), (.int .u8 0), (.int .u8 0), (.int .u8 0), (.int .u8 0), (.int .u8 0), (.int .u8 0), (.int .u8 0), (.int .u8 0), (.int .u8 0), (.int .u8 0), (.int .u8 0), (.int .u8 0), (.int .u8 0), (.int .u8 0), (.int .u8 0), (.int .u8 0), (.int .u8 0), (.int .u8 0), (.int .u8 0), (.int .u8 0), (.int .u8 0), (.int .u8 0), (.int .u8 0), (.int .u8 0), (.int .u8 0), (.int .u8 0), (.int .u8 0), (.int .u8 0), (.int .u8 0)])⟩ := TIOk.of (by kernel_rfl) (by kernel_rfl) rfl rfl (by kernel_rfl) (by kernel_rfl)
theorem tk198 : TIOk Tryd.prog 198 ⟨(.struct [(0, 9), (1, 9), (2, 103)]), 3, 48, (.agg #[(.string ⟨#[]⟩), (.string ⟨#[]⟩), .nilIface])⟩ := TIOk.of (by kernel_rfl) (by kernel_rfl) rfl rfl (by kernel_rfl) (by kernel_rfl)
theorem tk199 : TIOk Tryd.prog 199 ⟨(.struct [(0, 9), (1, 9), (2, 103)]), 3, 48, (.agg #[(.string ⟨#[]⟩), (.string ⟨#[]⟩), .nilIface])⟩ := TIOk.of (by kernel_rfl) (by kernel_rfl) rfl rfl (by kernel_rfl) (by kernel_rfl)
theorem tk202 : TIOk Tryd.prog 202 ⟨(.ptr 204), 1, 8, (.pointer none)⟩ := TIOk.of (by kernel_rfl) (by kernel_rfl) rfl rfl (by kernel_rfl) (by kernel_rfl)
theorem tk203 : TIOk Tryd.prog 203 ⟨(.struct [(0, 9)]), 1, 16, (.agg #[(.string ⟨#[]⟩)])⟩ := TIOk.of (by kernel_rfl) (by kernel_rfl) rfl rfl (by kernel_rfl) (by kernel_rfl)
theorem tk204 : TIOk Tryd.prog 204 ⟨(.struct [(0, 9)]), 1, 16, (.agg #[(.string ⟨#[]⟩)])⟩ := TIOk.of (by kernel_rfl) (by kernel_rfl) rfl rfl (by kernel_rfl) (by kernel_rfl)
theorem tk205 : TIOk Tryd.prog 205 ⟨(.arr 32 5), 32, 32, (.agg #[(.int .u8 0), (.int .u8 0), (.int .u8 0), (.int .u8 0), (.int .u8 0), (.int .u8 0), (.int .u8 0), (.int .u8 0), (.int .u8 0), (.int .u8 0), (.int .u8 0), (.int .u8 0), (.int .u8 0), (.int .u8 0), (.int .u8 0), (.int .u8 0), (.int .u8 0), (.int .u8 0), (.int .u8 0), (.int .u8 0), (.int .u8 0), (.int .u8 0), (.int .u8 0), (.int .u8 0), (.int .u8 0), (.int .u8 0), (.int .u8 0), (.int .u8 0), (.int .u8 0), (.int .u8 0), (.int .u8 0), (.int .u8 0)])⟩ := TIOk.of (by kernel_rfl) (by kernel_rfl) rfl rfl (by kernel_rfl) (by kernel_rfl)
theorem tk206 : TIOk Tryd.prog 206 ⟨(.arr 64 5), 64, 64, (.agg #[(.int .u8 0), (.int .u8 0), (.int .u8 0), (.int .u8 0), (.int .u8 0), (.int .u8 0), (.int .u8 0), (.int .u8 0), (.int .u8 0), (.int .u8 0), (.int .u8 0), (.int .u8 0), (.int .u8 0), (.int .u8 0), (.int .u8 0), (.int .u8 0), (.int .u8 0), (.int .u8 0), (.int .u8 0), (.int .u8 0), (.int .u8 0), (.int .u8 0), (.int .u8 0), (.int .u8 0), (.int .u8 0), (.int .u8 0), (.int .u8 0), (.int .u8 0), (.int .u8 0), (.int .u8 0), (.int .u8 0), (.int .u8 0), (.int .u8 0), (.int .u8 0), (.int .u8 0), (.int .u8 0), (.int .u8 0), (.int .u8 0), (.int .u8 0), (.int .u8 0), (.int .u8 0), (.int .u8 0), (.int .u8 0), (.int .u8 0), (.int .u8 0), (.int .u8 0), (.int .u8 0), (.int .u8 0), (.int .u8 0), (.int .u8 0), (.int .u8 0), (.int .u8 0), (.int .u8 0), (.int .u8 0), (.int .u8 0), (.int .u8 0), (.int .u8 0), (.int .u8 0), (.int .u8 0), (.int .u8 0), (.int .u8 0), (.int .u8 0), (.int .u8 0), (.int .u8 0)])⟩ := TIOk.of (by kernel_rfl) (by kernel_rfl) rfl rfl (by kernel_rfl) (by kernel_rfl)

def tab : Tab := [
  (3, ⟨(.int .i64), 1, 8, (.int .i64 0)⟩),
  (4, ⟨.bool, 1, 1, (.bool false)⟩),
  (5, ⟨(.int .u8), 1, 1, (.int .u8 0)⟩),
  (9, ⟨.str, 1, 16, (.string ⟨#[]⟩)⟩),
  (43, ⟨(.slice 5), 1, 24, (.slice none 0 0)⟩),
  (2, ⟨(.int .i64), 1, 8, (.int .i64 0)⟩),
  (12, ⟨(.int .u64), 1, 8, (.int .u64 0)⟩),
  (20, ⟨.iface, 1, 16, .nilIface⟩),
  (21, ⟨(.int .i32), 1, 4, (.int .i32 0)⟩),
  (22, ⟨(.slice 67), 1, 24, (.slice none 0 0)⟩),
  (23, ⟨(.slice 40), 1, 24, (.slice none 0 0)⟩),
  (25, ⟨(.slice 27), 1, 24, (.slice none 0 0)⟩),
  (26, ⟨(.struct [(0, 3), (1, 3), (2, 9), (3, 25)]), 4, 56, (.agg #[(.int .i64 0), (.int .i64 0), (.string ⟨#[]⟩), (.slice none 0 0)])⟩),
  (27, ⟨(.struct [(0, 3), (1, 3), (2, 9), (3, 25)]), 4, 56, (.agg #[(.int .i64 0), (.int .i64 0), (.string ⟨#[]⟩), (.slice none 0 0)])⟩),
  (28, ⟨(.int .i64), 1, 8, (.int .i64 0)⟩),
  (34, ⟨(.struct [(0, 9), (1, 3)]), 2, 24, (.agg #[(.string ⟨#[]⟩), (.int .i64 0)])⟩),
  (35, ⟨(.struct [(0, 9), (1, 3)]), 2, 24, (.agg #[(.string ⟨#[]⟩), (.int .i64 0)])⟩),
  (40, ⟨(.struct [(0, 9), (1, 3)]), 2, 24, (.agg #[(.string ⟨#[]⟩), (.int .i64 0)])⟩),
  (44, ⟨(.struct [(0, 3), (1, 3), (2, 3), (3, 3)]), 4, 32, (.agg #[(.int .i64 0), (.int .i64 0), (.int .i64 0), (.int .i64 0)])⟩),
  (45, ⟨(.struct [(0, 3), (1, 3), (2, 3), (3, 3)]), 4, 32, (.agg #[(.int .i64 0), (.int .i64 0), (.int .i64 0), (.int .i64 0)])⟩),
  (55, ⟨(.slice 64), 1, 24, (.slice none 0 0)⟩),
  (56, ⟨(.struct [(0, 28), (1, 3)]), 2, 16, (.agg #[(.int .i64 0), (.int .i64 0)])⟩),
  (57, ⟨(.struct [(0, 28), (1, 3)]), 2, 16, (.agg #[(.int .i64 0), (.int .i64 0)])⟩),
  (63, ⟨(.struct [(0, 3), (1, 22)]), 2, 32, (.agg #[(.int .i64 0), (.slice none 0 0)])⟩),
  (64, ⟨(.struct [(0, 3), (1, 22)]), 2, 32, (.agg #[(.int .i64 0), (.slice none 0 0)])⟩),
  (66, ⟨(.struct [(0, 3), (1, 3), (2, 9)]), 3, 32, (.agg #[(.int .i64 0), (.int .i64 0), (.string ⟨#[]⟩)])⟩),
  (67, ⟨(.struct [(0, 3), (1, 3), (2, 9)]), 3, 32, (.agg #[(.int .i64 0), (.int .i64 0), (.string ⟨#[]⟩)])⟩),
  (70, ⟨(.ptr 72), 1, 8, (.pointer none)⟩),
  (71, ⟨(.struct [(0, 22), (1, 28)]), 2, 32, (.agg #[(.slice none 0 0), (.int .i64 0)])⟩),
  (72, ⟨(.struct [(0, 22), (1, 28)]), 2, 32, (.agg #[(.slice none 0 0), (.int .i64 0)])⟩),
  (78, ⟨(.slice 83), 1, 24, (.slice none 0 0)⟩),
  (80, ⟨(.slice 9), 1, 24, (.slice none 0 0)⟩),
  (81, ⟨(.slice 3), 1, 24, (.slice none 0 0)⟩),
  (82, ⟨(.struct [(0, 80), (1, 81)]), 2, 48, (.agg #[(.slice none 0 0), (.slice none 0 0)])⟩),
  (83, ⟨(.struct [(0, 80), (1, 81)]), 2, 48, (.agg #[(.slice none 0 0), (.slice none 0 0)])⟩),
  (85, ⟨(.slice 35), 1, 24, (.slice none 0 0)⟩),
  (89, ⟨(.int .u32), 1, 4, (.int .u32 0)⟩),
  (98, ⟨(.ptr 100), 1, 8, (.pointer none)⟩),
  (99, ⟨(.struct [(0, 98), (1, 43)]), 2, 32, (.agg #[(.pointer none), (.slice none 0 0)])⟩),
  (100, ⟨(.struct [(0, 98), (1, 43)]), 2, 32, (.agg #[(.pointer none), (.slice none 0 0)])⟩),
  (102, ⟨.iface, 1, 16, .nilIface⟩),
  (103, ⟨.iface, 1, 16, .nilIface⟩),
  (107, ⟨(.map 3 4), 1, 8, (.map none)⟩),
  (108, ⟨(.struct [(0, 9), (1, 3), (2, 9)]), 3, 40, (.agg #[(.string ⟨#[]⟩), (.int .i64 0), (.string ⟨#[]⟩)])⟩),
  (109, ⟨(.struct [(0, 9), (1, 3), (2, 9)]), 3, 40, (.agg #[(.string ⟨#[]⟩), (.int .i64 0), (.string ⟨#[]⟩)])⟩),
  (111, ⟨(.map 3 109), 1, 8, (.map none)⟩),
  (120, ⟨(.ptr 122), 1, 8, (.pointer none)⟩),
  (121, ⟨(.struct [(0, 9), (1, 3)]), 2, 24, (.agg #[(.string ⟨#[]⟩), (.int .i64 0)])⟩),
  (122, ⟨(.struct [(0, 9), (1, 3)]), 2, 24, (.agg #[(.string ⟨#[]⟩), (.int .i64 0)])⟩),
  (133, ⟨(.slice 136), 1, 24, (.slice none 0 0)⟩),
  (135, ⟨(.struct [(0, 3), (1, 9), (2, 3), (3, 3)]), 4, 40, (.agg #[(.int .i64 0), (.string ⟨#[]⟩), (.int .i64 0), (.int .i64 0)])⟩),
  (136, ⟨(.struct [(0, 3), (1, 9), (2, 3), (3, 3)]), 4, 40, (.agg #[(.int .i64 0), (.string ⟨#[]⟩), (.int .i64 0), (.int .i64 0)])⟩),
  (139, ⟨(.int .u64), 1, 8, (.int .u64 0)⟩),
  (141, ⟨(.ptr 5), 1, 8, (.pointer none)⟩),
  (144, ⟨(.arr 256 5), 256, 256, (.agg #[(.int .u8 0), (.int .u8 0), (.int .u8 0), (.int .u8 0), (.int .u8 0), (.int .u8 0), (.int .u8 0), (.int .u8 0), (.int .u8 0), (.int .u8 0), (.int .u8 0), (.int .u8 0), (.int .u8 0), (.int .u8 0), (.int .u8 0), (.int .u8 0), (.int .u8 0), (.int .u8 0), (.int .u8 0), (.int .u8 0), (.int .u8 0), (.int .u8 0), (.int .u8 0), (.int .u8 0), (.int .u8 0), (.int .u8 0), (.int .u8 0), (.int .u8 0), (.int .u8 0), (.int .u8 0), (.int .u8 0), (.int .u8 0), (.int .u8 0), (.int .u8 0), (.int .u8 0), (.int .u8 0), (.int .u8 0), (.int .u8 0), (.int .u8 0), (.int .u8 0), (.int .u8 0), (.int .u8 0), (.int .u8 0), (.int .u8 0), (.int .u8 0), (.int .u8 0), (.int .u8 0), (.int .u8 0), (.int .u8 0), (.int .u8 0), (.int .u8 0), (.int .u8 0), (.int .u8 0), (.int .u8 0), (.int .u8 0), (.int .u8 0), (.int .u8 0), (.int .u8 0), (.int .u8 0), (.int .u8 0), (.int .u8 0), (.int .u8 0), (.int .u8 0), (.int .u8 0), (.int .u8 0), (.int .u8 0), (.int .u8 0), (.int .u8 0), (.int .u8 0), (.int .u8 0), (.int .u8 0), (.int .u8 0), (.int .u8 0), (.int .u8 0), (.int .u8 0), (.int .u8 0), (.int .u8 0), (.int .u8 0), (.int .u8 0), (.int .u8 0), (.int .u8 0), (.int .u8 0), (.int .u8 0), (.int .u8 0), (.int .u8 0), (.int .u8 0), (.int .u8 0), (.int .u8 0), (.int .u8 0), (.int .u8 0), (.int .u8 0), (.int .u8 0), (.int .u8 0), (.int .u8 0), (.int .u8 0), (.int .u8 0), (.int .u8 0), (.int .u8 0), (.int .u8 0), (.int .u8 0), (.int .u8 0), (.int .u8 0), (.int .u8 0), (.int .u8 0), (.int .u8 0), (.int .u8 0), (.int .u8 0), (.int .u8 0), (.int .u8 0), (.int .u8 0), (.int .u8 0), (.int .u8 0), (.int .u8 0), (.int .u8 0), (.int .u8 0), (.int .u8 0), (.int .u8 0), (.int .u8 0), (.int .u8 0), (.int .u8 0), (.int .u8 0), (.int .u8 0), (.int .u8 0), (.int .u8 0), (.int .u8 0), (.int .u8 0), (.int .u8 0), (.int .u8 0), (.int .u8 0), (.int .u8 0), (.int .u8 0), (.int .u8 0), (.int .u8 0), (.int .u8 0), (.int .u8 0), (.int .u8 0), (.int .u8 0), (.int .u8 0), (.int .u8 0), (.int .u8 0), (.int .u8 0), (.int .u8 0), (.int .u8 0), (.int .u8 0), (.int .u8 0), (.int .u8 0), (.int .u8 0), (.int .u8 0), (.int .u8 0), (.int .u8 0), (.int .u8 0), (.int .u8 0), (.int .u8 0), (.int .u8 0), (.int .u8 0), (.int .u8 0), (.int .u8 0), (.int .u8 0), (.int .u8 0), (.int .u8 0), (.int .u8 0), (.int .u8 0), (.int .u8 0), (.int .u8 0), (.int .u8 0), (.int .u8 0), (.int .u8 0), (.int .u8 0), (.int .u8 0), (.int .u8 0), (.int .u8 0), (.int .u8 0), (.int .u8 0), (.int .u8 0), (.int .u8 0), (.int .u8 0), (.int .u8 0), (.int .u8 0), (.int .u8 0), (.int .u8 0), (.int .u8 0), (.int .u8 0), (.int .u8 0), (.int .u8 0), (.int .u8 0), (.int .u8 0), (.int .u8 0), (.int .u8 0), (.int .u8 0), (.int .u8 0), (.int .u8 0), (.int .u8 0), (.int .u8 0), (.int .u8 0), (.int .u8 0), (.int .u8 0), (.int .u8 0), (.int .u8 0), (.int .u8 0), (.int .u8 0), (.int .u8 0), (.int .u8 0), (.int .u8 0), (.int .u8 0), (.int .u8 0), (.int .u8 0), (.int .u8 0), (.int .u8 0), (.int .u8 0), (.int .u8 0), (.int .u8 0), (.int .u8 0), (.int .u8 0), (.int .u8 0), (.int .u8 0), (.int .u8 0), (.int .u8 0), (.int .u8 0), (.int .u8 0), (.int .u8 0), (.int .u8 0), (.int .u8 0), (.int .u8 0), (.int .u8 0), (.int .u8 0), (.int .u8 0), (.int .u8 0), (.int .u8 0), (.int .u8 0), (.int .u8 0), (.int .u8 0), (.int .u8 0), (.int .u8 0), (.int .u8 0), (.int .u8 0), (.int .u8 0), (.int .u8 0), (.int .u8 0), (.int .u8 0), (.int .u8 0), (.int .u8 0), (.int .u8 0), (.int .u8 0), (.int .u8 0), (.int .u8 0), (.int .u8 0), (.int .u8 0), (.int .u8 0), (.int .u8 0), (.int .u8 0), (.int .u8 0), (.int .u8 0), (.int .u8 0), (.int .u8 0), (.int .u8 0), (.int .u8 0)])⟩),
  (145, ⟨(.int .u64), 1, 8, (.int .u64 0)⟩),
  (156, ⟨(.ptr 171), 1, 8, (.pointer none)⟩),
  (163, ⟨(.arr 24 5), 24, 24, (.agg #[(.int .u8 0), (.int .u8 0), (.int .u8 0), (.int .u8 0), (.int .u8 0), (.int .u8 0), (.int .u8 0), (.int .u8 0), (.int .u8 0), (.int .u8 0), (.int .u8 0), (.int .u8 0), (.int .u8 0), (.int .u8 0), (.int .u8 0), (.int .u8 0), (.int .u8 0), (.int .u8 0), (.int .u8 0), (.int .u8 0), (.int .u8 0), (.int .u8 0), (.int .u8 0), (.int .u8 0)])⟩),
  (168, ⟨(.slice 174), 1, 24, (.slice none 0 0)⟩),
  (169, ⟨(.slice 177), 1, 24, (.slice none 0 0)⟩),
  (170, ⟨(.struct [(0, 168), (1, 169), (2, 3)]), 3, 56, (.agg #[(.slice none 0 0), (.slice none 0 0), (.int .i64 0)])⟩),
  (171, ⟨(.struct [(0, 168), (1, 169), (2, 3)]), 3, 56, (.agg #[(.slice none 0 0), (.slice none 0 0), (.int .i64 0)])⟩),
  (172, ⟨(.int .u16), 1, 2, (.int .u16 0)⟩),
  (173, ⟨(.struct [(0, 172), (1, 172), (2, 172)]), 3, 6, (.agg #[(.int .u16 0), (.int .u16 0), (.int .u16 0)])⟩),
  (174, ⟨(.struct [(0, 172), (1, 172), (2, 172)]), 3, 6, (.agg #[(.int .u16 0), (.int .u16 0), (.int .u16 0)])⟩),
  (176, ⟨(.struct [(0, 89), (1, 89), (2, 89)]), 3, 12, (.agg #[(.int .u32 0), (.int .u32 0), (.int .u32 0)])⟩),
  (177, ⟨(.struct [(0, 89), (1, 89), (2, 89)]), 3, 12, (.agg #[(.int .u32 0), (.int .u32 0), (.int .u32 0)])⟩),
  (180, ⟨(.int .i64), 1, 8, (.int .i64 0)⟩),
  (181, ⟨(.ptr 199), 1, 8, (.pointer none)⟩),
  (187, ⟨(.arr 20 145), 20, 160, (.agg #[(.int .u64 0), (.int .u64 0), (.int .u64 0), (.int .u64 0), (.int .u64 0), (.int .u64 0), (.int .u64 0), (.int .u64 0), (.int .u64 0), (.int .u64 0), (.int .u64 0), (.int .u64 0), (.int .u64 0), (.int .u64 0), (.int .u64 0), (.int .u64 0), (.int .u64 0), (.int .u64 0), (.int .u64 0), (.int .u64 0)])⟩),
  (188, ⟨(.arr 65 5), 65, 65, (.agg #[(.int .u8 0), (.int .u8 0), (.int .u8 0), (.int .u8 0), (.int .u8 0), (.int .u8 0), (.int .u8 0), (.int .u8 0), (.int .u8 0), (.int .u8 0), (.int .u8 0), (.int .u8 0), (.int .u8 0), (.int .u8 0), (.int .u8 0), (.int .u8 0), (.int .u8 0), (.int .u8 0), (.int .u8 0), (.int .u8 0), (.int .u8 0), (.int .u8 0), (.int .u8 0), (.int .u8 0), (.int .u8 0), (.int .u8 0), (.int .u8 0), (.int .u8 0), (.int .u8 0), (.int .u8 0), (.int .u8 0), (.int .u8 0), (.int .u8 0), (.int .u8 0), (.int .u8 0), (.int .u8 0), (.int .u8 0), (.int .u8 0), (.int .u8 0), (.int .u8 0), (.int .u8 0), (.int .u8 0), (.int .u8 0), (.int .u8 0), (.int .u8 0), (.int .u8 0), (.int .u8 0), (.int .u8 0), (.int .u8 0), (.int .u8 0), (.int .u8 0), (.int .u8 0), (.int .u8 0), (.int .u8 0), (.int .u8 0), (.int .u8 0), (.int .u8 0), (.int .u8 0), (.int .u8 0), (.int .u8 0), (.int .u8 0), (.int .u8 0), (.int .u8 0), (.int .u8 0), (.int .u8 0)])⟩),
  (191, ⟨(.ptr 174), 1, 8, (.pointer none)⟩),
  (192, ⟨(.ptr 177), 1, 8, (.pointer none)⟩),
  (193, ⟨(.struct [(0, 5), (1, 5)]), 2, 2, (.agg #[(.int .u8 0), (.int .u8 0)])⟩),
  (194, ⟨(.struct [(0, 5), (1, 5)]), 2, 2, (.agg #[(.int .u8 0), (.int .u8 0)])⟩),
  (195, ⟨(.arr 16 194), 32, 32, (.agg #[(.int .u8 0), (.int .u8 0), (.int .u8 0), (.int .u8 0), (.int .u8 0), (.int .u8 0), (.int .u8 0), (.int .u8 0), (.int .u8 0), (.int .u8 0), (.int .u8 0), (.int .u8 0), (.int .u8 0), (.int .u8 0), (.int .u8 0), (.int .u8 0), (.int .u8 0), (.int .u8 0), (.int .u8 0), (.int .u8 0), (.int .u8 0), (.int .u8 0), (.int .u8 0), (.int .u8 0), (.int .u8 0), (.int .u8 0), (.int .u8 0), (.int .u8 0), (.int .u8 0), (.int .u8 0), (.int .u8 0), (.int .u8 0)])⟩),
  (198, ⟨(.struct [(0, 9), (1, 9), (2, 103)]), 3, 48, (.agg #[(.string ⟨#[]⟩), (.string ⟨#[]⟩), .nilIface])⟩),
  (199, ⟨(.struct [(0, 9), (1, 9), (2, 103)]), 3, 48, (.agg #[(.string ⟨#[]⟩), (.string ⟨#[]⟩), .nilIface])⟩),
  (202, ⟨(.ptr 204), 1, 8, (.pointer none)⟩),
  (203, ⟨(.struct [(0, 9)]), 1, 16, (.agg #[(.string ⟨#[]⟩)])⟩),
  (204, ⟨(.struct [(0, 9)]), 1, 16, (.agg #[(.string ⟨#[]⟩)])⟩),
  (205, ⟨(.arr 32 5), 32, 32, (.agg #[(.int .u8 0), (.int .u8 0), (.int .u8 0), (.int .u8 0), (.int .u8 0), (.int .u8 0), (.int .u8 0), (.int .u8 0), (.int .u8 0), (.int .u8 0), (.int .u8 0), (.int .u8 0), (.int .u8 0), (.int .u8 0), (.int .u8 0), (.int .u8 0), (.int .u8 0), (.int .u8 0), (.int .u8 0), (.int .u8 0), (.int .u8 0), (.int .u8 0), (.int .u8 0), (.int .u8 0), (.int .u8 0), (.int .u8 0), (.int .u8 0), (.int .u8 0), (.int .u8 0), (.int .u8 0), (.int .u8 0), (.int .u8 0)])⟩),
  (206, ⟨(.arr 64 5), 64, 64, (.agg #[(.int .u8 0), (.int .u8 0), (.int .u8 0), (.int .u8 0), (.int .u8 0), (.int .u8 0), (.int .u8 0), (.int .u8 0), (.int .u8 0), (.int .u8 0), (.int .u8 0), (.int .u8 0), (.int .u8 0), (.int .u8 0), (.int .u8 0), (.int .u8 0), (.int .u8 0), (.int .u8 0), (.int .u8 0), (.int .u8 0), (.int .u8 0), (.int .u8 0), (.int .u8 0), (.int .u8 0), (.int .u8 0), (.int .u8 0), (.int .u8 0), (.int .u8 0), (.int .u8 0), (.int .u8 0), (.int .u8 0), (.int .u8 0), (.int .u8 0), (.int .u8 0), (.int .u8 0), (.int .u8 0), (.int .u8 0), (.int .u8 0), (.int .u8 0), (.int .u8 0), (.int .u8 0), (.int .u8 0), (.int .u8 0), (.int .u8 0), (.int .u8 0), (.int .u8 0), (.int .u8 0), (.int .u8 0), (.int .u8 0), (.int .u8 0), (.int .u8 0), (.int .u8 0), (.int .u8 0), (.int .u8 0), (.int .u8 0), (.int .u8 0), (.int .u8 0), (.int .u8 0), (.int .u8 0), (.int .u8 0), (.int .u8 0), (.int .u8 0), (.int .u8 0), (.int .u8 0)])⟩)]
theorem tabOk : TabOk Tryd.prog tab :=
  .cons tk3 <| .cons tk4 <| .cons tk5 <| .cons tk9 <| .cons tk43 <| .cons tk2 <| .cons tk12 <| .cons tk20 <| .cons tk21 <| .cons tk22 <| .cons tk23 <| .cons tk25 <| .cons tk26 <| .cons tk27 <| .cons tk28 <| .cons tk34 <| .cons tk35 <| .cons tk40 <| .cons tk44 <| .cons tk45 <| .cons tk55 <| .cons tk56 <| .cons tk57 <| .cons tk63 <| .cons tk64 <| .cons tk66 <| .cons tk67 <| .cons tk70 <| .cons tk71 <| .cons tk72 <| .cons tk78 <| .cons tk80 <| .cons tk81 <| .cons tk82 <| .cons tk83 <| .cons tk85 <| .cons tk89 <| .cons tk98 <| .cons tk99 <| .cons tk100 <| .cons tk102 <| .cons tk103 <| .cons tk107 <| .cons tk108 <| .cons tk109 <| .cons tk111 <| .cons tk120 <| .cons tk121 <| .cons tk122 <| .cons tk133 <| .cons tk135 <| .cons tk136 <| .cons tk139 <| .cons tk141 <| .cons tk144 <| .cons tk145 <| .cons tk156 <| .cons tk163 <| .cons tk168 <| .cons tk169 <| .cons tk170 <| .cons tk171 <| .cons tk172 <| .cons tk173 <| .cons tk174 <| .cons tk176 <| .cons tk177 <| .cons tk180 <| .cons tk181 <| .cons tk187 <| .cons tk188 <| .cons tk191 <| .cons tk192 <| .cons tk193 <| .cons tk194 <| .cons tk195 <| .cons tk198 <| .cons tk199 <| .cons tk202 <| .cons tk203 <| .cons tk204 <| .cons tk205 <| .cons tk206 <| .nil _
theorem mixed : Tryd.prog.follows .mixedOrders = true := by kernel_rfl
theorem vcOk {n : Nat} {E : Entry} (c : Code) {Q : Ex → List (Nat × D) → List Ob → Prop} {σ : List (Nat × D)} {L : List Ob} (h : vcK Tryd.prog tab n E c Q σ L) : AWP Tryd.prog n E c Q σ L := awp_vc tabOk mixed c h

abbrev n_gosem_cut_init : Nat := 2
abbrev n_pllaw3_ExprPrint : Nat := 3
abbrev n_pllaw3_ExprMoves : Nat := 4
abbrev n_pllaw8_DisTells : Nat := 5
abbrev n_pllaw2_ScanTells : Nat := 6
abbrev n_pllaw2_ScanPrint : Nat := 7
abbrev n_pllaw2_ScanLines : Nat := 8
abbrev n_pllaw3_alive : Nat := 9
abbrev n_expr_Parse : Nat := 10
abbrev n_plref1_Tokens : Nat := 11
abbrev n_expr_Print : Nat := 12
abbrev n_expr_Eval : Nat := 13
abbrev n_plref1_SameExpr : Nat := 14
abbrev n_plref1_Signed : Nat := 15
abbrev n_dis_Text : Nat := 16
abbrev n_plref6_Text : Nat := 17
abbrev n_plref1_Wrong : Nat := 18
abbrev n_dis_To : Nat := 19
abbrev n_plref6_To : Nat := 20
abbrev n_dis_Line : Nat := 21
abbrev n_plref6_Line : Nat := 22
abbrev n_scan_Tokens : Nat := 23
abbrev n_plref1_SameTokens : Nat := 24
abbrev n_scan_Name : Nat := 25
abbrev n_plref1_Name : Nat := 26
abbrev n_scan_Print : Nat := 27
abbrev n_plref1_Print : Nat := 28
abbrev n_scan_Lines : Nat := 29
abbrev n_plref1_Lines : Nat := 30
abbrev n_plref1_SameLines : Nat := 31
abbrev n_scan_Own : Nat := 32
abbrev n_pllaw2_alive : Nat := 33
abbrev n_pllaw3_num : Nat := 34
abbrev n_pllaw3_sign : Nat := 35
abbrev n_expr_reader_at : Nat := 36
abbrev n_plref1_kind : Nat := 37
abbrev n_plref1_number : Nat := 38
abbrev n_plref1_Has : Nat := 39
abbrev n_strconv_Itoa : Nat := 40
abbrev n_expr_levels : Nat := 41
abbrev n_slices_Index_int_int : Nat := 42
abbrev n_isa_Signed : Nat := 43
abbrev n_slices_IndexFunc_api_Equ_api_Equ : Nat := 44
abbrev n_expr_Eval_1 : Nat := 45
abbrev n_expr_two : Nat := 46
abbrev n_dis_Text_1 : Nat := 47
abbrev n_isa_Decode : Nat := 48
abbrev n_isa_Get : Nat := 49
abbrev n_dis_fine : Nat := 50
abbrev n_isa_Encode : Nat := 51
abbrev n_slices_Contains_int_int : Nat := 52
abbrev n_strings_Builder_WriteString : Nat := 53
abbrev n_dis_name : Nat := 54
abbrev n_strings_Builder_String : Nat := 55
abbrev n_plref1_Decode : Nat := 56
abbrev n_plref6_hex : Nat := 57
abbrev n_plref1_Rows : Nat := 58
abbrev n_plref1_Range : Nat := 59
abbrev n_isa_Info : Nat := 60
abbrev n_strings_TrimSpace : Nat := 61
abbrev n_strings_Cut : Nat := 62
abbrev n_scan_reader_run : Nat := 63
abbrev n_scan_Tokens_1 : Nat := 64
abbrev n_scan_letter : Nat := 65
abbrev n_scan_Tokens_2 : Nat := 66
abbrev n_scan_digit : Nat := 67
abbrev n_scan_reader_number : Nat := 68
abbrev n_scan_reader_sign : Nat := 69
abbrev n_strings_Join : Nat := 70
abbrev n_strings_Split : Nat := 71
abbrev n_expr_reader_one : Nat := 72
abbrev n_expr_reader_sign : Nat := 73
abbrev n_internal_strconv_Itoa : Nat := 74
abbrev n_isa_signed : Nat := 75
abbrev n_expr_number : Nat := 76
abbrev n_isa_rows : Nat := 77
abbrev n_isa_mask : Nat := 78
abbrev n_isa_uses : Nat := 79
abbrev n_isa_Wrong : Nat := 80
abbrev n_strings_Builder_copyCheck : Nat := 81
abbrev n_strconv_FormatInt : Nat := 82
abbrev n_strings_TrimFunc : Nat := 83
abbrev n_unicode_IsSpace : Nat := 84
abbrev n_strings_TrimRightFunc : Nat := 85
abbrev n_internal_stringslite_Cut : Nat := 86
abbrev n_scan_reader_number_1 : Nat := 87
abbrev n_strconv_ParseUint : Nat := 88
abbrev n_strings_Contains : Nat := 89
abbrev n_strings_HasPrefix : Nat := 90
abbrev n_strings_Builder_Grow : Nat := 91
abbrev n_strings_genSplit : Nat := 92
abbrev n_expr_reader_fail : Nat := 93
abbrev n_slices_Index_string_string : Nat := 94
abbrev n_internal_strconv_FormatInt : Nat := 95
abbrev n_isa_Range : Nat := 96
abbrev n_strings_TrimLeftFunc : Nat := 98
abbrev n_unicode_isExcludingLatin : Nat := 99
abbrev n_strings_lastIndexFunc : Nat := 100
abbrev n_unicode_utf8_DecodeRuneInString : Nat := 101
abbrev n_internal_stringslite_Index : Nat := 102
abbrev n_internal_strconv_ParseUint : Nat := 103
abbrev n_strconv_toError : Nat := 104
abbrev n_strings_Index : Nat := 105
abbrev n_internal_stringslite_HasPrefix : Nat := 106
abbrev n_strings_Builder_grow : Nat := 107
abbrev n_strings_explode : Nat := 108
abbrev n_strings_Count : Nat := 109
abbrev n_internal_strconv_small : Nat := 110
abbrev n_internal_strconv_numDigits : Nat := 111
abbrev n_internal_strconv_formatBase10 : Nat := 112
abbrev n_internal_strconv_formatBits : Nat := 113
abbrev n_strings_indexFunc : Nat := 114
abbrev n_unicode_is16 : Nat := 115
abbrev n_unicode_is32 : Nat := 116
abbrev n_unicode_utf8_DecodeLastRuneInString : Nat := 117
abbrev n_unicode_utf8_decodeRuneInStringSlow : Nat := 118
abbrev n_internal_stringslite_IndexByte : Nat := 119
abbrev n_internal_bytealg_Cutover : Nat := 121
abbrev n_internal_bytealg_IndexRabinKarp_string : Nat := 122
abbrev n_internal_strconv_lower : Nat := 123
abbrev n_internal_strconv_underscoreOK : Nat := 124
abbrev n_strconv_syntaxError : Nat := 125
abbrev n_strconv_rangeError : Nat := 126
abbrev n_strconv_baseError : Nat := 127
abbrev n_strconv_bitSizeError : Nat := 128
abbrev n_unicode_utf8_RuneCountInString : Nat := 130
abbrev n_internal_strconv_log10Pow2 : Nat := 132
abbrev n_math_bits_Len64 : Nat := 133
abbrev n_internal_strconv_bool2_int : Nat := 134
abbrev n_internal_strconv_isPowerOfTwo : Nat := 135
abbrev n_math_bits_TrailingZeros : Nat := 136
abbrev n_unicode_utf8_RuneStart : Nat := 137
abbrev n_internal_bytealg_hashStr_string : Nat := 139
abbrev n_internal_stringslite_Clone : Nat := 140
abbrev n_errors_New : Nat := 141
abbrev n_math_bits_TrailingZeros32 : Nat := 142
abbrev n_math_bits_TrailingZeros64 : Nat := 143
abbrev n_gosem_cut_vars : Nat := 178

end Go.Proofs.YtdhpodgaeholmaaDoor

namespace Go.Proofs.YtdhpodgaeholmaaDoor
open Go Go.Plat
set_option linter.unusedVariables false
set_option linter.unusedSimpArgs false
set_option maxRecDepth 100000
set_option maxHeartbeats 2000000
attribute [local irreducible] NilS LookS NormM bitI BytesS NormL Arith QuoS RemS ShlS ShrS BitS CatS SplitS SideS IdxS CallS LoopEnd EndS ModeS DrawS AWP Meets

inductive OExpr where
  | mk (kind n : Int) (name : List UInt8) (kids : List OExpr)
def OExpr.kind : OExpr → Int | .mk k _ _ _ => k
def OExpr.n : OExpr → Int | .mk _ n _ _ => n
def OExpr.name : OExpr → List UInt8 | .mk _ _ s _ => s
def OExpr.kids : OExpr → List OExpr | .mk _ _ _ ks => ks
mutual
def exprD : OExpr → D
  | .mk k n s ks => .agg [.int .i64 k, .int .i64 n, .str s, .sl 4 (exprDs ks) none]
def exprDs : List OExpr → List D
  | [] => []
  | e :: es => exprD e :: exprDs es
end
mutual
def nodes : OExpr → Nat
  | .mk _ _ s ks => 1 + s.length + nodesL ks
def nodesL : List OExpr → Nat
  | [] => 0
  | e :: es => nodes e + nodesL es
end
theorem exprDs_map : ∀ l : List OExpr, exprDs l = l.map exprD
  | [] => by rw [exprDs]; rfl
  | e :: es => by rw [exprDs, exprDs_map es]; rfl
/-- one level of it -/
def exprU (e : OExpr) : D := .agg [.int .i64 e.kind, .int .i64 e.n, .str e.name, .sl 4 (e.kids.map exprD) none]
theorem mk_kind (k n : Int) (s : List UInt8) (ks : List OExpr) : (OExpr.mk k n s ks).kind = k := rfl
theorem mk_n (k n : Int) (s : List UInt8) (ks : List OExpr) : (OExpr.mk k n s ks).n = n := rfl
theorem mk_name (k n : Int) (s : List UInt8) (ks : List OExpr) : (OExpr.mk k n s ks).name = s := rfl
theorem mk_kids (k n : Int) (s : List UInt8) (ks : List OExpr) : (OExpr.mk k n s ks).kids = ks := rfl
theorem exprU_mk (k n : Int) (s : List UInt8) (ks : List OExpr) : exprU (.mk k n s ks) = .agg [.int .i64 k, .int .i64 n, .str s, .sl 4 (ks.map exprD) none] := rfl
theorem exprD_eq (e : OExpr) : exprD e = exprU e := by
  cases e with
  | mk k n s ks => rw [exprD, exprDs_map]; rfl
theorem map1 (a : OExpr) : [a].map exprD = [exprU a] := by rw [List.map_cons, exprD_eq]; rfl
theorem map2 (a b : OExpr) : [a, b].map exprD = [exprU a, exprU b] := by rw [List.map_cons, List.map_cons, exprD_eq, exprD_eq]; rfl
theorem nodes_pos (e : OExpr) : 0 < nodes e := by cases e; rw [nodes]; omega
theorem nodesL_mem : ∀ {l : List OExpr} {x : OExpr}, x ∈ l → nodes x ≤ nodesL l
  | [], _, h => by simp at h
  | e :: es, x, h => by
    rw [nodesL]
    rcases List.mem_cons.1 h with rfl | h
    · omega
    · have := nodesL_mem h; omega
theorem nodesL_len : ∀ l : List OExpr, l.length ≤ nodesL l
  | [] => by rw [nodesL]; simp
  | e :: es => by
    have := nodesL_len es
    have := nodes_pos e
    rw [nodesL, List.length_cons]; omega
theorem nodes_kid {e x : OExpr} (h : x ∈ e.kids) : nodes x < nodes e := by
  cases e with
  | mk k n s ks => have := nodesL_mem (show x ∈ ks from h); rw [nodes]; omega
theorem kids_len (e : OExpr) : e.kids.length < nodes e := by
  cases e with
  | mk k n s ks => have := nodesL_len ks; rw [nodes]; show ks.length < _; omega
theorem name_len (e : OExpr) : e.name.length < nodes e := by
  cases e with
  | mk k n s ks => rw [nodes]; show s.length < _; omega
theorem ix_expr {l : List OExpr} {n : Int} {K : D → Prop} (x : OExpr) (h0 : 0 ≤ n) (h : l[n.toNat]? = some x) (hK : K (exprU x)) : IdxS (l.map exprD) n K := by
  unfold IdxS
  exact ⟨h0, exprU x, by rw [List.getElem?_map, h, ← exprD_eq]; rfl, hK⟩

open Classical in
noncomputable def sameE (a b : OExpr) : Bool := decide (a = b)
theorem sameE_no {a b : OExpr} (h : a ≠ b) : sameE a b = false := by classical exact decide_eq_false h
theorem sameE_yes {a b : OExpr} (h : a = b) : sameE a b = true := by classical exact decide_eq_true h
theorem sameE_ne {a b : OExpr} (h : sameE a b = false) : a ≠ b := fun e => by rw [sameE_yes e] at h; cases h
theorem sameE_eq {a b : OExpr} (h : sameE a b = true) : a = b := Classical.byContradiction fun e => by rw [sameE_no e] at h; cases h
theorem OExpr.ext' {a b : OExpr} (h1 : a.kind = b.kind) (h2 : a.n = b.n) (h3 : a.name = b.name) (h4 : a.kids = b.kids) : a = b := by
  cases a; cases b
  simp only [OExpr.kind, OExpr.n, OExpr.name, OExpr.kids] at h1 h2 h3 h4
  subst h1 h2 h3 h4
  rfl
theorem take_step3 {α : Type} {l m : List α} {k : Nat} {x : α} (h : l.take k = m.take k) (h1 : l[k]? = some x) (h2 : m[k]? = some x) : l.take (k + 1) = m.take (k + 1) := by
  rw [List.take_add_one, List.take_add_one, h, h1, h2]
attribute [local irreducible] exprD sameE nodes OExpr.kind OExpr.n OExpr.name OExpr.kids

theorem samee_meets : ∀ n : Nat, Meets Tryd.prog n_plref1_SameExpr (SpecP (fun ((a, b) : OExpr × OExpr) => nodes a ≤ n ∧ nodes a ≤ 1000000000) (fun (a, b) => [exprU a, exprU b]) fun (a, b) => .bool (sameE a b))
  | 0 => by
    refine meets_f tabOk Tryd.func14 rfl (by decide) ?_
    rintro ⟨a, b⟩ ⟨h, _⟩
    have := nodes_pos a
    omega
  | n + 1 => by
    have ih := samee_meets n
    refine meets_f tabOk Tryd.func14 rfl (by decide) ?_
    rintro ⟨a, b⟩ ⟨hn, hN⟩
    have hkl := kids_len a
    refine ⟨Nat.le_refl _, by simp [Tryd.f14], fun E hE => ?_⟩
    refine vcOk _ ?_
    (all_goals refine qgo ?_ <;> (repeat' first | exact trivial | intro hc | refine And.intro ?_ ?_) <;> refine Lf.mk ?_)
    · exact end_p (VS.mk (LeD.ff (sameE_no fun h => hc (by rw [h]))))
    · exact end_p (VS.mk (LeD.ff (sameE_no fun h => hc (by rw [h]))))
    · exact end_p (VS.mk (LeD.ff (sameE_no fun h => hc (by rw [h]))))
    · exact end_p (VS.mk (LeD.ff (sameE_no fun h => hc (by rw [h]))))
    rename_i h1 h2 h3
    have hkl2 : a.kids.length = b.kids.length := by omega
    refine awp_loop (α := Nat) (fun k => k ≤ a.kids.length ∧ a.kids.take k = b.kids.take k)
      (fun k => [(36, .int .i64 a.kids.length), (37, .int .i64 k), (2, .loc 0 0), (3, .loc 1 0)])
      (fun _ => [.cells [.int .i64 a.kind, .int .i64 a.n, .str a.name, .sl 4 (a.kids.map exprD) none], .cells [.int .i64 b.kind, .int .i64 b.n, .str b.name, .sl 4 (b.kids.map exprD) none]]) (fun k => a.kids.length - k) (fun _ => by simp [hE]) 0 ⟨Nat.zero_le _, by simp⟩ ?_ ?_
    · (repeat' (first | (refine VS.mk ?_) | exact trivial | exact rfl | refine And.intro ?_ ?_))
    rintro k ⟨hk, hst⟩
    refine vcOk _ ?_
    (all_goals refine qgo ?_ <;> (repeat' first | exact trivial | intro hc | refine And.intro ?_ ?_) <;> refine Lf.mk ?_)
    · obtain ⟨x, hx⟩ := at_of_lt (l := a.kids) (k := k) (by omega)
      obtain ⟨y, hy⟩ := at_of_lt (l := b.kids) (k := k) (by omega)
      have hxn := nodes_kid (List.mem_of_getElem? hx)
      refine ix_expr x (by omega) (by simpa using hx) ?_
      (all_goals refine qgo ?_ <;> (repeat' first | exact trivial | intro hc | refine And.intro ?_ ?_) <;> refine Lf.mk ?_)
      refine ix_expr y (by omega) (by simpa using hy) ?_
      (all_goals refine qgo ?_ <;> (repeat' first | exact trivial | intro hc | refine And.intro ?_ ?_) <;> refine Lf.mk ?_)
      refine call_p ih (x, y) ⟨by omega, by omega⟩ (VS.mk (LeL.of_eq rfl)) ?_
      (all_goals refine qgo ?_ <;> (repeat' first | exact trivial | intro hc | refine And.intro ?_ ?_) <;> refine Lf.mk ?_)
      · have hne := sameE_ne hc
        refine end_p (VS.mk (LeD.ff (sameE_no fun h => ?_)))
        rw [← h, hx] at hy
        exact hne (Option.some.inj hy)
      · have hxy := sameE_eq hc
        subst hxy
        refine loop_end (k + 1) ⟨by omega, take_step3 hst hx hy⟩ (by omega) ?_
        (repeat' (first | (refine VS.mk ?_) | exact trivial | exact rfl | refine And.intro ?_ ?_))
    · have hke : k = a.kids.length := by omega
      have hkids : a.kids = b.kids := by rw [hke, List.take_length, hkl2, List.take_length] at hst; exact hst
      exact end_p (VS.mk (LeD.tt (sameE_yes (OExpr.ext' h1 h2 h3 hkids))))
end Go.Proofs.YtdhpodgaeholmaaDoor

namespace Go.Proofs.YtdhpodgaeholmaaDoor
open Go Go.Plat
set_option linter.unusedVariables false
set_option linter.unusedSimpArgs false
set_option maxRecDepth 100000
set_option maxHeartbeats 2000000
attribute [local irreducible] NilS LookS NormM bitI BytesS NormL Arith QuoS RemS ShlS ShrS BitS CatS SplitS SideS IdxS CallS LoopEnd EndS ModeS DrawS AWP Meets

def signedI (n : Int) (k : Nat) : Int := if n % (2 : Int) ^ k / 2 ^ (k - 1) = 1 then n % (2 : Int) ^ k - 2 ^ k else n % (2 : Int) ^ k
theorem signed_meets : Meets Tryd.prog n_isa_signed (SpecP (fun ((n, k) : Int × Nat) => (k = 8 ∨ k = 12 ∨ k = 32)) (fun (n, k) => [.int .i64 n, .int .i64 k]) fun (n, k) => .int .i64 (signedI n k)) := by
  refine meets_f tabOk Tryd.func75 rfl (by decide) ?_
  rintro ⟨n, k⟩ hk
  refine ⟨Nat.le_refl _, by simp [Tryd.f75], fun E hE => ?_⟩
  rcases hk with hk | hk | hk <;> (have hk : k = _ := hk; subst hk; refine vcOk _ ?_)
  · have h0 := Int.emod_nonneg n (show (256 : Int) ≠ 0 by decide)
    have h1 := Int.emod_lt_of_pos n (show (0 : Int) < 256 by decide)
    have hd : signedI n 8 = if n % 256 / 128 = 1 then n % 256 - 256 else n % 256 := rfl
    (all_goals refine qgo ?_ <;> (repeat' first | exact trivial | intro hc | refine And.intro ?_ ?_) <;> refine Lf.mk ?_)
    refine shr_lit (s := 7) (m := 128) rfl (by decide) (by decide) ?_
    (all_goals refine qgo ?_ <;> (repeat' first | exact trivial | intro hc | refine And.intro ?_ ?_) <;> refine Lf.mk ?_)
    · skip
      refine end_p (VS.mk (LeD.of_eq (congrArg (D.int .i64) ?_)))
      rw [hd, if_pos hc]
      omega
    · refine end_p (VS.mk (LeD.of_eq (congrArg (D.int .i64) ?_)))
      rw [hd, if_neg hc]
  · have h0 := Int.emod_nonneg n (show (4096 : Int) ≠ 0 by decide)
    have h1 := Int.emod_lt_of_pos n (show (0 : Int) < 4096 by decide)
    have hd : signedI n 12 = if n % 4096 / 2048 = 1 then n % 4096 - 4096 else n % 4096 := rfl
    (all_goals refine qgo ?_ <;> (repeat' first | exact trivial | intro hc | refine And.intro ?_ ?_) <;> refine Lf.mk ?_)
    refine shl_lit (s := 12) (m := 4096) rfl (by decide) (by decide) (by decide) (by decide) ?_
    (all_goals refine qgo ?_ <;> (repeat' first | exact trivial | intro hc | refine And.intro ?_ ?_) <;> refine Lf.mk ?_)
    refine shr_lit (s := 11) (m := 2048) rfl (by decide) (by decide) ?_
    (all_goals refine qgo ?_ <;> (repeat' first | exact trivial | intro hc | refine And.intro ?_ ?_) <;> refine Lf.mk ?_)
    · refine shl_lit (s := 12) (m := 4096) rfl (by decide) (by decide) (by decide) (by decide) ?_
      (all_goals refine qgo ?_ <;> (repeat' first | exact trivial | intro hc | refine And.intro ?_ ?_) <;> refine Lf.mk ?_)
      refine end_p (VS.mk (LeD.of_eq (congrArg (D.int .i64) ?_)))
      rw [hd, if_pos hc]
      omega
    · refine end_p (VS.mk (LeD.of_eq (congrArg (D.int .i64) ?_)))
      rw [hd, if_neg hc]
  · have h0 := Int.emod_nonneg n (show (4294967296 : Int) ≠ 0 by decide)
    have h1 := Int.emod_lt_of_pos n (show (0 : Int) < 4294967296 by decide)
    have hd : signedI n 32 = if n % 4294967296 / 2147483648 = 1 then n % 4294967296 - 4294967296 else n % 4294967296 := rfl
    (all_goals refine qgo ?_ <;> (repeat' first | exact trivial | intro hc | refine And.intro ?_ ?_) <;> refine Lf.mk ?_)
    refine shl_lit (s := 32) (m := 4294967296) rfl (by decide) (by decide) (by decide) (by decide) ?_
    (all_goals refine qgo ?_ <;> (repeat' first | exact trivial | intro hc | refine And.intro ?_ ?_) <;> refine Lf.mk ?_)
    refine bit_mk (and_mask (k := 32) (by decide) (by decide)) ?_
    rw [show (2 : Int) ^ 32 = 4294967296 from rfl]
    (all_goals refine qgo ?_ <;> (repeat' first | exact trivial | intro hc | refine And.intro ?_ ?_) <;> refine Lf.mk ?_)
    refine shr_lit (s := 31) (m := 2147483648) rfl (by decide) (by decide) ?_
    (all_goals refine qgo ?_ <;> (repeat' first | exact trivial | intro hc | refine And.intro ?_ ?_) <;> refine Lf.mk ?_)
    · refine shl_lit (s := 32) (m := 4294967296) rfl (by decide) (by decide) (by decide) (by decide) ?_
      (all_goals refine qgo ?_ <;> (repeat' first | exact trivial | intro hc | refine And.intro ?_ ?_) <;> refine Lf.mk ?_)
      refine end_p (VS.mk (LeD.of_eq (congrArg (D.int .i64) ?_)))
      rw [hd, if_pos hc]
      omega
    · refine end_p (VS.mk (LeD.of_eq (congrArg (D.int .i64) ?_)))
      rw [hd, if_neg hc]

theorem signed_meets2 : Meets Tryd.prog n_isa_Signed (SpecP (fun _ : Int => True) (fun n => [.int .i64 n]) fun n => .int .i64 (signedI n 32)) := by
  refine meets_f tabOk Tryd.func43 rfl (by decide) fun n _ => ?_
  refine ⟨Nat.le_refl _, by simp [Tryd.f43], fun E hE => ?_⟩
  refine vcOk _ ?_
  (all_goals refine qgo ?_ <;> (repeat' first | exact trivial | intro hc | refine And.intro ?_ ?_) <;> refine Lf.mk ?_)
  refine call_p signed_meets (n, 32) (.inr (.inr rfl)) (VS.mk (by (first | exact LeL.refl _ | (repeat' (first | exact LeL.nil | exact LeD.refl _ | exact LeD.nil _ | exact LeD.strip _ _ _ | refine LeL.cons ?_ ?_ | refine LeD.tup ?_ | refine LeD.agg ?_))))) ?_
  (all_goals refine qgo ?_ <;> (repeat' first | exact trivial | intro hc | refine And.intro ?_ ?_) <;> refine Lf.mk ?_)
  exact end_p (VS.mk (LeD.refl _))


end Go.Proofs.YtdhpodgaeholmaaDoor

namespace Go.Proofs.YtdhpodgaeholmaaDoor
open Go Go.Plat
set_option linter.unusedVariables false
set_option linter.unusedSimpArgs false
set_option maxRecDepth 100000
set_option maxHeartbeats 2000000
attribute [local irreducible] NilS LookS NormM bitI BytesS NormL Arith QuoS RemS ShlS ShrS BitS CatS SplitS SideS IdxS CallS LoopEnd EndS ModeS DrawS AWP Meets

def letterB (c : UInt8) : Bool := decide (97 ≤ c.toNat ∧ c.toNat ≤ 122 ∨ 65 ≤ c.toNat ∧ c.toNat ≤ 90 ∨ c.toNat = 95 ∨ c.toNat = 46)
def digitB (c : UInt8) : Bool := decide (48 ≤ c.toNat ∧ c.toNat ≤ 57)
def kindB (c : UInt8) : Int := if letterB c = true then 97 else if digitB c = true then 48 else if c.toNat = 32 ∨ c.toNat = 9 ∨ c.toNat = 13 then 32 else 0
theorem letter_meets : Meets Tryd.prog n_scan_letter (SpecP (fun _ : UInt8 => True) (fun c => [byteD c]) fun c => .bool (letterB c)) := by
  refine meets_f tabOk Tryd.func65 rfl (by decide) fun c _ => ?_
  refine ⟨Nat.le_refl _, by simp [Tryd.f65], fun E hE => ?_⟩
  refine vcOk _ ?_
  (all_goals refine qgo ?_ <;> (repeat' first | exact trivial | intro hc | refine And.intro ?_ ?_) <;> refine Lf.mk ?_)
  all_goals first
    | (refine end_p (VS.mk (LeD.tt ?_)); unfold letterB; rw [decide_eq_true_eq]; omega)
    | (refine end_p (VS.mk (LeD.ff ?_)); unfold letterB; rw [decide_eq_false_iff_not]; omega)
    | (refine end_p (VS.mk (LeD.of_eq (congrArg D.bool ?_))); unfold letterB; rw [Bool.eq_iff_iff]; simp only [beq_iff_eq, decide_eq_true_eq]; omega)
theorem digit_meets : Meets Tryd.prog n_scan_digit (SpecP (fun _ : UInt8 => True) (fun c => [byteD c]) fun c => .bool (digitB c)) := by
  refine meets_f tabOk Tryd.func67 rfl (by decide) fun c _ => ?_
  refine ⟨Nat.le_refl _, by simp [Tryd.f67], fun E hE => ?_⟩
  refine vcOk _ ?_
  (all_goals refine qgo ?_ <;> (repeat' first | exact trivial | intro hc | refine And.intro ?_ ?_) <;> refine Lf.mk ?_)
  all_goals first
    | (refine end_p (VS.mk (LeD.tt ?_)); unfold digitB; rw [decide_eq_true_eq]; omega)
    | (refine end_p (VS.mk (LeD.ff ?_)); unfold digitB; rw [decide_eq_false_iff_not]; omega)
    | (refine end_p (VS.mk (LeD.of_eq (congrArg D.bool ?_))); unfold digitB; rw [Bool.eq_iff_iff]; simp only [beq_iff_eq, decide_eq_true_eq]; omega)
theorem kind_meets : Meets Tryd.prog n_plref1_kind (SpecP (fun _ : UInt8 => True) (fun c => [byteD c]) fun c => .int .u8 (kindB c)) := by
  refine meets_f tabOk Tryd.func37 rfl (by decide) fun c _ => ?_
  refine ⟨Nat.le_refl _, by simp [Tryd.f37], fun E hE => ?_⟩
  refine vcOk _ ?_
  (all_goals refine qgo ?_ <;> (repeat' first | exact trivial | intro hc | refine And.intro ?_ ?_) <;> refine Lf.mk ?_)
  all_goals
    refine end_p (VS.mk (LeD.of_eq (congrArg (D.int .u8) ?_)))
    unfold kindB letterB digitB
    simp only [decide_eq_true_eq]
    (repeat' split) <;> omega

def nameB (s : List UInt8) : Bool := decide (1 ≤ s.length ∧ s.length ≤ 10) && letterB (s.getD 0 0) && s.all fun c => (letterB c || digitB c) && !(c == 46)
def okC (c : UInt8) : Bool := (letterB c || digitB c) && !(c == 46)
attribute [local irreducible] letterB digitB kindB

theorem all_take {p : UInt8 → Bool} {s : List UInt8} {k : Nat} (hk : k < s.length) : (s.take (k + 1)).all p = ((s.take k).all p && p (s.getD k 0)) := by
  rw [List.take_succ_eq_append_getElem hk, List.all_append]
  simp [List.getD_eq_getElem?_getD, List.getElem?_eq_getElem hk]
theorem all_stop {p : UInt8 → Bool} {s : List UInt8} {k : Nat} (hk : k < s.length) (h : p (s.getD k 0) = false) : s.all p = false := by
  rw [← List.take_append_drop k s, List.all_append, List.drop_eq_getElem_cons hk]
  have : s.getD k 0 = s[k] := by simp [List.getD_eq_getElem?_getD, List.getElem?_eq_getElem hk]
  rw [this] at h
  rw [List.all_cons, h, Bool.false_and, Bool.and_false]

theorem name_any : Meets Tryd.prog n_scan_Name (SpecP (fun _ : List UInt8 => True) (fun s => [.str s]) fun s => .bool (nameB s)) := by
  refine meets_f tabOk Tryd.func25 rfl (by decide) fun s _ => ?_
  refine ⟨Nat.le_refl _, by simp [Tryd.f25], fun E hE => ?_⟩
  refine vcOk _ ?_
  (all_goals refine qgo ?_ <;> (repeat' first | exact trivial | intro hc | refine And.intro ?_ ?_) <;> refine Lf.mk ?_)
  · refine end_p (VS.mk (LeD.ff ?_))
    unfold nameB
    rw [decide_eq_false (by omega)]
    rfl
  · refine end_p (VS.mk (LeD.ff ?_))
    unfold nameB
    rw [decide_eq_false (by omega)]
    rfl
  · refine end_p (VS.mk (LeD.ff ?_))
    have e : okC (s.getD 0 0) = false := by
      have : s.getD 0 0 = 46 := UInt8.toNat_inj.1 (by exact_mod_cast hc)
      rw [this]
      unfold okC
      rw [Bool.and_eq_false_iff]
      exact .inr rfl
    have h2 : s.all okC = false := all_stop (k := 0) (by omega) e
    show (_ && _ && s.all okC) = false
    rw [h2, Bool.and_false]
  refine call_p letter_meets (s.getD 0 0) trivial (VS.mk (LeL.of_eq rfl)) ?_
  (all_goals refine qgo ?_ <;> (repeat' first | exact trivial | intro hc | refine And.intro ?_ ?_) <;> refine Lf.mk ?_)
  · refine end_p (VS.mk (LeD.ff ?_))
    show (_ && letterB (s.getD 0 0) && _) = false
    rw [hc, Bool.and_false, Bool.false_and]
  have hl0 : letterB (s.getD 0 0) = true := by assumption
  refine awp_loop (α := Nat) (fun k => k ≤ s.length ∧ (s.take k).all okC = true) (fun k => [(0, .str s), (24, .int .i64 s.length), (25, .int .i64 k)]) (fun _ => []) (fun k => s.length - k) (fun _ => by simp [hE]) 0 ⟨Nat.zero_le _, by simp⟩ ?_ ?_
  · (repeat' (first | (refine VS.mk ?_) | exact trivial | exact rfl | refine And.intro ?_ ?_))
  rintro k ⟨hk, hall⟩
  refine vcOk _ ?_
  (all_goals refine qgo ?_ <;> (repeat' first | exact trivial | intro hc | refine And.intro ?_ ?_) <;> refine Lf.mk ?_)
  · have hidx : ((k : Int)).toNat = k := Int.toNat_natCast k
    have hk' : k < s.length := by omega
    have hst := all_take (p := okC) hk'
    have hsp := all_stop (p := okC) hk'
    have hok : okC (s.getD k 0) = ((letterB (s.getD k 0) || digitB (s.getD k 0)) && !(s.getD k 0 == 46)) := rfl
    have h46 : (((s.getD k 0).toNat : Nat) : Int) = 46 → okC (s.getD k 0) = false := fun h => by
      have : s.getD k 0 = 46 := UInt8.toNat_inj.1 (by exact_mod_cast h)
      rw [hok, this]
      rw [Bool.and_eq_false_iff]
      exact .inr rfl
    have n46 : ¬ (((s.getD k 0).toNat : Nat) : Int) = 46 → (s.getD k 0 == 46) = false := fun h => beq_eq_false_iff_ne.2 fun e => h (by rw [e]; rfl)
    have bad : okC (s.getD k 0) = false → nameB s = false := fun h => by
      show (_ && letterB (s.getD 0 0) && s.all okC) = false
      rw [hsp h, Bool.and_false]
    refine call_p letter_meets (s.getD k 0) trivial (VS.mk (LeL.of_eq (by rw [hidx]; rfl))) ?_
    (all_goals refine qgo ?_ <;> (repeat' first | exact trivial | intro hc | refine And.intro ?_ ?_) <;> refine Lf.mk ?_)
    · refine call_p digit_meets (s.getD k 0) trivial (VS.mk (LeL.of_eq (by rw [hidx]; rfl))) ?_
      (all_goals refine qgo ?_ <;> (repeat' first | exact trivial | intro hc | refine And.intro ?_ ?_) <;> refine Lf.mk ?_)
      · refine end_p (VS.mk (LeD.ff (bad ?_)))
        rw [hok, (by assumption : letterB (s.getD k 0) = false), (by assumption : digitB (s.getD k 0) = false)]
        rfl
      · rw [hidx] at hc
        exact end_p (VS.mk (LeD.ff (bad (h46 hc))))
      · rw [hidx] at hc
        refine loop_end (k + 1) ⟨by omega, ?_⟩ (by omega) ?_
        rotate_left
        · rw [hst, hall, hok, (by assumption : digitB (s.getD k 0) = true), n46 hc, Bool.or_true]
          rfl
        · (repeat' (first | (refine VS.mk ?_) | exact trivial | exact rfl | refine And.intro ?_ ?_))
    · rw [hidx] at hc
      exact end_p (VS.mk (LeD.ff (bad (h46 hc))))
    · rw [hidx] at hc
      refine loop_end (k + 1) ⟨by omega, ?_⟩ (by omega) ?_
      rotate_left
      · rw [hst, hall, hok, (by assumption : letterB (s.getD k 0) = true), n46 hc]
        rfl
      · (repeat' (first | (refine VS.mk ?_) | exact trivial | exact rfl | refine And.intro ?_ ?_))
  · refine end_p (VS.mk (LeD.tt ?_))
    rw [List.take_of_length_le (by omega)] at hall
    show (_ && letterB (s.getD 0 0) && s.all okC) = true
    rw [hl0, hall, decide_eq_true (by omega)]
    rfl
theorem meets_sub {P : Program} {f : Nat} {α : Type} {I J : α → Prop} {A : α → List D} {R : α → D} (h : Meets P f (SpecP I A R)) (hJ : ∀ p, J p → I p) : Meets P f (SpecP J A R) :=
  by
  unfold Meets at h ⊢
  exact ⟨h.1, fun av L d M ⟨p, hp, hr⟩ => h.2 av L d M ⟨p, hJ p hp, hr⟩⟩
theorem name_meets : Meets Tryd.prog n_scan_Name (SpecP (fun s : List UInt8 => s.length ≤ 1000000000) (fun s => [.str s]) fun s => .bool (nameB s)) := meets_sub name_any fun _ _ => trivial
end Go.Proofs.YtdhpodgaeholmaaDoor

namespace Go.Proofs.YtdhpodgaeholmaaDoor
open Go Go.Plat
set_option linter.unusedVariables false
set_option linter.unusedSimpArgs false
set_option maxRecDepth 100000
set_option maxHeartbeats 2000000
attribute [local irreducible] NilS LookS NormM bitI BytesS NormL Arith QuoS RemS ShlS ShrS BitS CatS SplitS SideS IdxS CallS LoopEnd EndS ModeS DrawS AWP Meets
attribute [local irreducible] signedI exprD nodes OExpr.kind OExpr.n OExpr.name OExpr.kids letterB digitB kindB nameB

structure OTok where
  kind : Int
  n : Int
  text : List UInt8
def tokD (t : OTok) : D := .agg [.int .i64 t.kind, .int .i64 t.n, .str t.text]
structure St where
  rest : List OTok
  err : Int
def noE : OExpr := .mk 0 0 [] []
def idxT (x : List UInt8) : List (List UInt8) → Nat → Int
  | [], _ => -1
  | s :: l, k => if x = s then k else idxT x l (k + 1)
def signs (k : Nat) : List (List UInt8) := match k with | 0 => [[124]] | 1 => [[38]] | 2 => [[60, 60], [62, 62]] | 3 => [[43], [45]] | _ => [[42]]
def kinds (k : Nat) : List Int := match k with | 0 => [11] | 1 => [10] | 2 => [8, 9] | 3 => [6, 7] | _ => [5]
def levD (k : Nat) : D := .agg [.sl 1 ((signs k).map .str) none, .sl 1 ((kinds k).map (.int .i64)) none]
def levsD : D := .sl 2 [levD 0, levD 1, levD 2, levD 3, levD 4] none

theorem levels_meets : Meets Tryd.prog n_expr_levels (SpecP (fun _ : Unit => True) (fun _ => []) fun _ => levsD) := by
  refine meets_f tabOk Tryd.func41 rfl (by decide) fun _ _ => ?_
  refine ⟨Nat.le_refl _, by simp [Tryd.f41], fun E hE => ?_⟩
  refine vcOk _ ?_
  (all_goals refine qgo ?_ <;> (repeat' first | exact trivial | intro hc | refine And.intro ?_ ?_) <;> refine Lf.mk ?_)
  exact end_p (VS.mk (LeD.of_eq rfl))

theorem index_meets : Meets Tryd.prog n_slices_Index_string_string (SpecP (fun ((l, x) : List (List UInt8) × List UInt8) => l.length ≤ 1000000000) (fun (l, x) => [.sl 1 (l.map .str) none, .str x]) fun (l, x) => .int .i64 (idxT x l 0)) := by
  refine meets_f tabOk Tryd.func94 rfl (by decide) ?_
  rintro ⟨l, x⟩ hl
  have hl : l.length ≤ 1000000000 := hl
  refine ⟨Nat.le_refl _, by simp [Tryd.f94], fun E hE => ?_⟩
  refine vcOk _ ?_
  (all_goals refine qgo ?_ <;> (repeat' first | exact trivial | intro hc | refine And.intro ?_ ?_) <;> refine Lf.mk ?_)
  refine awp_loop (α := Nat) (fun k => k ≤ l.length ∧ idxT x l 0 = idxT x (l.drop k) k)
    (fun k => [(7, .int .i64 l.length), (8, .int .i64 k), (0, .sl 1 (l.map .str) none), (1, .str x)])
    (fun _ => []) (fun k => l.length - k) (fun _ => by simp [hE]) 0 ⟨Nat.zero_le _, by simp⟩ ?_ ?_
  · (repeat' (first | (refine VS.mk ?_) | exact trivial | exact rfl | refine And.intro ?_ ?_))
  rintro k ⟨hk, hf⟩
  refine vcOk _ ?_
  (all_goals refine qgo ?_ <;> (repeat' first | exact trivial | intro hc | refine And.intro ?_ ?_) <;> refine Lf.mk ?_)
  · obtain ⟨s, hsk⟩ := at_of_lt (l := l) (k := k) (by omega)
    have hkl : k < l.length := by omega
    have hget : l[k] = s := by rw [List.getElem?_eq_getElem hkl] at hsk; exact Option.some.inj hsk
    rw [List.drop_eq_getElem_cons hkl, hget, idxT] at hf
    refine ix_map s (by omega) (by simpa using hsk) ?_
    (all_goals refine qgo ?_ <;> (repeat' first | exact trivial | intro hc | refine And.intro ?_ ?_) <;> refine Lf.mk ?_)
    · rw [if_pos hc] at hf
      exact end_p (VS.mk (LeD.of_eq (congrArg (D.int .i64) hf.symm)))
    · rw [if_neg hc] at hf
      refine loop_end (k + 1) ⟨by omega, hf⟩ (by omega) ?_
      (repeat' (first | (refine VS.mk ?_) | exact trivial | exact rfl | refine And.intro ?_ ?_))
  · rw [List.drop_of_length_le (by omega), idxT] at hf
    exact end_p (VS.mk (LeD.of_eq (congrArg (D.int .i64) hf.symm)))

def stO (s : St) : List Ob := [.cells [.sl 3 (s.rest.map tokD) none, .int .i64 s.err]]
def signI (l : List (List UInt8)) (s : St) : Int × St := match s.rest with
  | [] => (-1, s)
  | t :: r => if t.kind = 3 then (if 0 ≤ idxT t.text l 0 then (idxT t.text l 0, ⟨r, s.err⟩) else (-1, s)) else (-1, s)
def failS (s : St) (e : Int) : St := if s.err = 0 then ⟨s.rest, e⟩ else s
theorem idxT_lt (x : List UInt8) : ∀ (l : List (List UInt8)) (k : Nat), idxT x l k < 0 → idxT x l k = -1
  | [], k, _ => rfl
  | s :: l, k, h => by
    rw [idxT] at h ⊢
    split at h
    · omega
    · rename_i hn; rw [if_neg hn]; exact idxT_lt x l (k + 1) h

theorem noE_le : LeD (.agg [.int .i64 0, .int .i64 0, .str [], .nilsl]) (exprU noE) := by
  unfold noE
  rw [exprU_mk]
  exact .agg (.cons (.refl _) (.cons (.refl _) (.cons (.refl _) (.cons (.nil 4) .nil))))
theorem fail_meets : Meets Tryd.prog n_expr_reader_fail (SpecF (fun ((s, e) : St × Int) => True) (fun (s, e) => [.loc 0 0, .int .i64 e]) (fun (s, _) => stO s) (fun _ => exprU noE) fun (s, e) => stO (failS s e)) := by
  refine meets_f tabOk Tryd.func93 rfl (by decide) ?_
  rintro ⟨s, e⟩ -
  refine ⟨Nat.le_refl _, by simp [Tryd.f93], fun E hE => ?_⟩
  refine vcOk _ ?_
  (all_goals refine qgo ?_ <;> (repeat' first | exact trivial | intro hc | refine And.intro ?_ ?_) <;> refine Lf.mk ?_)
  · refine end_le (r1 := exprU noE) noE_le ?_ (Nat.le_refl _)
    refine end_mk ?_
    (repeat' (first | (refine VS.mk ?_) | exact trivial | exact rfl | refine And.intro ?_ ?_))
    · dsimp only; unfold failS stO; rw [if_pos hc]
  · refine end_le (r1 := exprU noE) noE_le ?_ (Nat.le_refl _)
    refine end_mk ?_
    (repeat' (first | (refine VS.mk ?_) | exact trivial | exact rfl | refine And.intro ?_ ?_))
    · dsimp only; unfold failS; rw [if_neg hc]; rfl

theorem sign_meets : Meets Tryd.prog n_expr_reader_sign (SpecF (fun ((s, l) : St × List (List UInt8)) => l.length ≤ 1000000000 ∧ s.rest.length ≤ 1000000000) (fun (s, l) => [.loc 0 0, .sl 1 (l.map .str) none]) (fun (s, _) => stO s) (fun (s, l) => .int .i64 (signI l s).1)
    fun (s, l) => stO (signI l s).2) := by
  refine meets_f tabOk Tryd.func73 rfl (by decide) ?_
  rintro ⟨⟨r, e⟩, l⟩ ⟨hl, hr⟩
  have hr : r.length ≤ 1000000000 := hr
  refine ⟨Nat.le_refl _, by simp [Tryd.f73], fun E hE => ?_⟩
  cases r with
  | nil =>
    refine vcOk _ ?_
    (all_goals refine qgp ?_ <;> (repeat' first | exact trivial | intro hc | refine And.intro ?_ ?_) <;> refine Lf.mk ?_)
    refine end_mk ?_
    (repeat' (first | (refine VS.mk ?_) | exact trivial | exact rfl | refine And.intro ?_ ?_))
  | cons t r =>
    have hr2 : r.length + 1 ≤ 1000000000 := hr
    refine vcOk _ ?_
    (all_goals refine qgp ?_ <;> (repeat' first | exact trivial | intro hc | refine And.intro ?_ ?_) <;> refine Lf.mk ?_)
    · refine end_mk ?_
      (repeat' (first | (refine VS.mk ?_) | exact trivial | exact rfl | refine And.intro ?_ ?_))
      all_goals (dsimp only [signI]; rw [if_neg hc]; try rfl)
    · refine call_p index_meets (l, t.text) hl (VS.mk (LeL.of_eq rfl)) ?_
      (all_goals refine qgp ?_ <;> (repeat' first | exact trivial | intro hc | refine And.intro ?_ ?_) <;> refine Lf.mk ?_)
      · refine end_mk ?_
        (repeat' (first | (refine VS.mk ?_) | exact trivial | exact rfl | refine And.intro ?_ ?_))
        all_goals (dsimp only [signI]; rw [if_pos (by assumption), if_pos hc]; try rfl)
      · refine end_mk ?_
        (repeat' (first | (refine VS.mk ?_) | exact trivial | exact rfl | refine And.intro ?_ ?_))
        all_goals (dsimp only [signI]; rw [if_pos (by assumption), if_neg hc])
        · exact congrArg (D.int .i64) (idxT_lt _ _ _ (by omega))
        · rfl
end Go.Proofs.YtdhpodgaeholmaaDoor

namespace Go.Proofs.YtdhpodgaeholmaaDoor
open Go Go.Plat
set_option linter.unusedVariables false
set_option linter.unusedSimpArgs false
set_option maxRecDepth 100000
set_option maxHeartbeats 2000000
attribute [local irreducible] NilS LookS NormM bitI BytesS NormL Arith QuoS RemS ShlS ShrS BitS CatS SplitS SideS IdxS CallS LoopEnd EndS ModeS DrawS AWP Meets
attribute [local irreducible] signedI exprD nodes OExpr.kind OExpr.n OExpr.name OExpr.kids letterB digitB kindB nameB

def kindOf (k : Nat) (i : Int) : Int := (kinds k).getD i.toNat 0
def loopF (k : Nat) (sub : St → OExpr × St) : Nat → OExpr → St → OExpr × St
  | 0, e, s => (e, s)
  | g + 1, e, s => if s.err = 0 then (if (signI (signs k) s).1 < 0 then (e, (signI (signs k) s).2)
      else loopF k sub g (.mk (kindOf k (signI (signs k) s).1) 0 [] [e, (sub (signI (signs k) s).2).1]) (sub (signI (signs k) s).2).2)
    else (e, s)
def levelF (k : Nat) (sub : St → OExpr × St) (s : St) : OExpr × St := loopF k sub ((sub s).2.rest.length + 1) (sub s).1 (sub s).2
/-- level k of so many: 5 - j -/
def atF (one : St → OExpr × St) : Nat → St → OExpr × St
  | 0 => one
  | j + 1 => levelF (4 - j) (atF one j)
def tokI (s : St) : OExpr × St := match s.rest with
  | [] => (noE, failS s 9)
  | t :: r => if t.kind = 2 then (.mk 1 (signedI t.n 32) [] [], ⟨r, s.err⟩)
    else if t.kind = 1 then (if nameB t.text = true then (.mk 2 0 t.text [], ⟨r, s.err⟩) else (noE, failS ⟨r, s.err⟩ 7))
    else (noE, failS ⟨r, s.err⟩ 2)
def opens : List (List UInt8) := [[45], [126], [40]]
def closes : List (List UInt8) := [[41]]
def oneStep (one : St → OExpr × St) (s : St) : OExpr × St :=
  if (signI opens s).1 = 0 then (.mk 3 0 [] [(one (signI opens s).2).1], (one (signI opens s).2).2)
  else if (signI opens s).1 = 1 then (.mk 4 0 [] [(one (signI opens s).2).1], (one (signI opens s).2).2)
  else if (signI opens s).1 = 2 then
    (if (signI closes (atF one 5 (signI opens s).2).2).1 < 0 then (noE, failS (signI closes (atF one 5 (signI opens s).2).2).2 2)
     else ((atF one 5 (signI opens s).2).1, (signI closes (atF one 5 (signI opens s).2).2).2))
  else tokI (signI opens s).2
def oneI : Nat → St → OExpr × St
  | 0, s => (noE, failS s 10)
  | f + 1, s => oneStep (oneI f) s
def Shorter (p : St → OExpr × St) : Prop := ∀ s, (p s).2.rest.length ≤ s.rest.length
theorem sign_short (l : List (List UInt8)) (s : St) : (signI l s).2.rest.length ≤ s.rest.length ∧ (0 ≤ (signI l s).1 → (signI l s).2.rest.length + 1 = s.rest.length) := by
  obtain ⟨r, e⟩ := s
  cases r with
  | nil => exact ⟨Nat.le_refl _, fun h => by simp [signI] at h⟩
  | cons t r =>
    simp only [signI]
    split
    · split
      · exact ⟨by simp, fun _ => by simp⟩
      · exact ⟨Nat.le_refl _, fun h => by simp at h⟩
    · exact ⟨Nat.le_refl _, fun h => by simp at h⟩
theorem loop_short {k : Nat} {sub : St → OExpr × St} (hs : Shorter sub) : ∀ (g : Nat) (e : OExpr) (s : St), (loopF k sub g e s).2.rest.length ≤ s.rest.length
  | 0, e, s => Nat.le_refl _
  | g + 1, e, s => by
    rw [loopF]
    have h1 := (sign_short (signs k) s).1
    split
    · split
      · exact h1
      · have := loop_short (k := k) hs g (.mk (kindOf k (signI (signs k) s).1) 0 [] [e, (sub (signI (signs k) s).2).1]) (sub (signI (signs k) s).2).2
        have h2 := hs (signI (signs k) s).2
        omega
    · exact Nat.le_refl _
theorem level_short {k : Nat} {sub : St → OExpr × St} (hs : Shorter sub) : Shorter (levelF k sub) := fun s => by
  have h1 := hs s
  have h2 := loop_short (k := k) hs ((sub s).2.rest.length + 1) (sub s).1 (sub s).2
  unfold levelF; omega
theorem at_short {one : St → OExpr × St} (hs : Shorter one) : ∀ j, Shorter (atF one j)
  | 0 => hs
  | j + 1 => level_short (at_short hs j)
theorem fail_rest (s : St) (e : Int) : (failS s e).rest = s.rest := by unfold failS; split <;> rfl
theorem tok_short : Shorter tokI := fun s => by
  obtain ⟨r, e⟩ := s
  cases r with
  | nil => simp [tokI, fail_rest]
  | cons t r =>
    simp only [tokI]
    repeat' split
    all_goals (try rw [fail_rest]); simp
theorem step_short {one : St → OExpr × St} (hs : Shorter one) : Shorter (oneStep one) := fun s => by
  have h1 := (sign_short opens s).1
  have h2 := hs (signI opens s).2
  have h3 := at_short hs 5 (signI opens s).2
  have h4 := (sign_short closes (atF one 5 (signI opens s).2).2).1
  have h5 := tok_short (signI opens s).2
  unfold oneStep
  repeat' split
  all_goals (try dsimp only); (try rw [fail_rest]); omega
theorem one_short : ∀ f, Shorter (oneI f)
  | 0 => fun s => by rw [oneI, fail_rest]; exact Nat.le_refl _
  | f + 1 => fun s => by rw [oneI]; exact step_short (one_short f) s

theorem loop_0 {k : Nat} {sub : St → OExpr × St} {e : OExpr} {s : St} : loopF k sub 0 e s = (e, s) := rfl
theorem loop_stop {k g : Nat} {sub : St → OExpr × St} {e : OExpr} {s : St} (h : ¬ s.err = 0) : loopF k sub g e s = (e, s) := by
  cases g with
  | zero => rfl
  | succ g => rw [loopF, if_neg h]
theorem loop_break {k g : Nat} {sub : St → OExpr × St} {e : OExpr} {s : St} (h : s.err = 0) (h2 : (signI (signs k) s).1 < 0) : loopF k sub (g + 1) e s = (e, (signI (signs k) s).2) := by rw [loopF, if_pos h, if_pos h2]
theorem loop_go {k g : Nat} {sub : St → OExpr × St} {e : OExpr} {s : St} (h : s.err = 0) (h2 : ¬ (signI (signs k) s).1 < 0) : loopF k sub (g + 1) e s =
    loopF k sub g (.mk (kindOf k (signI (signs k) s).1) 0 [] [e, (sub (signI (signs k) s).2).1]) (sub (signI (signs k) s).2).2 := by rw [loopF, if_pos h, if_neg h2]
theorem ix_lev {k : Nat} {K : D → Prop} (hk : k < 5) (h : K (levD k)) : IdxS [levD 0, levD 1, levD 2, levD 3, levD 4] (k : Int) K := by
  unfold IdxS
  refine ⟨by omega, levD k, ?_, h⟩
  rw [Int.toNat_natCast]
  match k, hk with
  | 0, _ => rfl
  | 1, _ => rfl
  | 2, _ => rfl
  | 3, _ => rfl
  | 4, _ => rfl
theorem idxT_bd (x : List UInt8) : ∀ (l : List (List UInt8)) (k : Nat), idxT x l k < ((k + l.length : Nat) : Int)
  | [], k => by rw [idxT]; omega
  | s :: l, k => by
    rw [idxT]
    split
    · simp only [List.length_cons]; omega
    · have := idxT_bd x l (k + 1)
      simp only [List.length_cons]; omega
theorem sign_bd (l : List (List UInt8)) (s : St) : (signI l s).1 < (l.length : Int) ∨ l.length = 0 := by
  obtain ⟨r, e⟩ := s
  cases r with
  | nil => simp only [signI]; omega
  | cons t r =>
    have := idxT_bd t.text l 0
    simp only [signI]
    split
    · split
      · dsimp only; omega
      · dsimp only; omega
    · dsimp only; omega
theorem signs_len (k : Nat) : (signs k).length = (kinds k).length ∧ 0 < (signs k).length ∧ (signs k).length ≤ 2 := by
  unfold signs kinds
  split <;> exact ⟨rfl, by decide, by decide⟩
theorem kinds_at {k : Nat} {s : St} (h : ¬ (signI (signs k) s).1 < 0) : (kinds k)[(signI (signs k) s).1.toNat]? = some (kindOf k (signI (signs k) s).1) := by
  have h1 := sign_bd (signs k) s
  obtain ⟨h2, h3, _⟩ := signs_len k
  have hlt : (signI (signs k) s).1.toNat < (kinds k).length := by omega
  unfold kindOf
  rw [List.getD_eq_getElem?_getD, List.getElem?_eq_getElem hlt]
  rfl
end Go.Proofs.YtdhpodgaeholmaaDoor

namespace Go.Proofs.YtdhpodgaeholmaaDoor
open Go Go.Plat
set_option linter.unusedVariables false
set_option linter.unusedSimpArgs false
set_option maxRecDepth 100000
set_option maxHeartbeats 2000000
attribute [local irreducible] NilS LookS NormM bitI BytesS NormL Arith QuoS RemS ShlS ShrS BitS CatS SplitS SideS IdxS CallS LoopEnd EndS ModeS DrawS AWP Meets
attribute [local irreducible] signedI exprD nodes OExpr.kind OExpr.n OExpr.name OExpr.kids letterB digitB kindB nameB signI oneI failS tokI oneStep loopF

def AtOk (k : Int) (d : Int) (f : St → OExpr × St) : Prop :=
  Meets Tryd.prog n_expr_reader_at (SpecF (fun s : St => s.rest.length ≤ 1000000000) (fun _ => [.loc 0 0, .int .i64 k, .int .i64 d]) stO (fun s => exprU (f s).1) fun s => stO (f s).2)
def OneOk (d : Int) (f : St → OExpr × St) : Prop :=
  Meets Tryd.prog n_expr_reader_one (SpecF (fun s : St => s.rest.length ≤ 1000000000) (fun _ => [.loc 0 0, .int .i64 d]) stO (fun s => exprU (f s).1) fun s => stO (f s).2)

theorem at_top {d : Int} {one : St → OExpr × St} (h : OneOk d one) : AtOk 5 d (atF one 0) := by
  refine meets_f tabOk Tryd.func36 rfl (by decide) ?_
  intro s hs
  refine ⟨Nat.le_refl _, by simp [Tryd.f36], fun E hE => ?_⟩
  refine vcOk _ ?_
  (all_goals refine qgp ?_ <;> (repeat' first | exact trivial | intro hc | refine And.intro ?_ ?_) <;> refine Lf.mk ?_)
  refine call_p levels_meets () trivial (VS.mk (LeL.of_eq rfl)) ?_
  (all_goals refine qgp ?_ <;> (repeat' first | exact trivial | intro hc | refine And.intro ?_ ?_) <;> refine Lf.mk ?_)
  refine call_f h [0] [0] s hs rfl rfl ?_
  refine And.intro (VS.mk (LeL.of_eq rfl)) (And.intro (VS.mk rfl) ?_)
  (all_goals refine qgp ?_ <;> (repeat' first | exact trivial | intro hc | refine And.intro ?_ ?_) <;> refine Lf.mk ?_)
  refine end_mk ?_
  (repeat' (first | (refine VS.mk ?_) | exact trivial | exact rfl | refine And.intro ?_ ?_))

theorem at_level {d : Int} {k : Nat} {sub : St → OExpr × St} (hk : k < 5) (hsub : Shorter sub) (h : AtOk ((k : Int) + 1) d sub) : AtOk k d (levelF k sub) := by
  refine meets_f tabOk Tryd.func36 rfl (by decide) ?_
  intro s hs
  refine ⟨Nat.le_refl _, by simp [Tryd.f36], fun E hE => ?_⟩
  refine vcOk _ ?_
  (all_goals refine qgp ?_ <;> (repeat' first | exact trivial | intro hc | refine And.intro ?_ ?_) <;> refine Lf.mk ?_)
  refine call_p levels_meets () trivial (VS.mk (LeL.of_eq rfl)) ?_
  (all_goals refine qgp ?_ <;> (repeat' first | exact trivial | intro hc | refine And.intro ?_ ?_) <;> refine Lf.mk ?_)
  refine call_f h [0] [0] s hs rfl rfl ?_
  refine And.intro (VS.mk (LeL.of_eq rfl)) (And.intro (VS.mk rfl) ?_)
  (all_goals refine qgp ?_ <;> (repeat' first | exact trivial | intro hc | refine And.intro ?_ ?_) <;> refine Lf.mk ?_)
  have hs1 := hsub s
  obtain ⟨hsl1, hsl2, hsl3⟩ := signs_len k
  generalize hT : levelF k sub s = T at *
  have hT0 : loopF k sub ((sub s).2.rest.length + 1) (sub s).1 (sub s).2 = T := hT
  refine awp_loop (α := Nat × OExpr × St) (fun p => p.2.2.rest.length < p.1 ∧ p.2.2.rest.length ≤ 1000000000 ∧ loopF k sub p.1 p.2.1 p.2.2 = T)
    (fun p => [(0, .loc 0 0), (1, .int .i64 k), (2, .int .i64 d), (6, .loc 1 0), (7, levsD), (8, .loc 2 0)])
    (fun p => stO p.2.2 ++ [.cells [.int .i64 0, .int .i64 0, .str [], .nilsl], .cells [.int .i64 p.2.1.kind, .int .i64 p.2.1.n, .str p.2.1.name, .sl 4 (p.2.1.kids.map exprD) none]]) (fun p => p.1) (fun _ => by simp [hE, stO])
    ((sub s).2.rest.length + 1, (sub s).1, (sub s).2) ⟨Nat.lt_succ_self _, Nat.le_trans hs1 hs, hT0⟩ ?_ ?_
  · (repeat' (first | (refine VS.mk ?_) | exact trivial | exact rfl | refine And.intro ?_ ?_))
  rintro ⟨g, e, s2⟩ ⟨hg, hs2, hl⟩
  dsimp only at hg hs2 hl ⊢
  obtain ⟨g, rfl⟩ : ∃ g', g = g' + 1 := ⟨g - 1, by omega⟩
  refine vcOk _ ?_
  (all_goals refine qgp ?_ <;> (repeat' first | exact trivial | intro hc | refine And.intro ?_ ?_) <;> refine Lf.mk ?_)
  · refine ix_lev hk ?_
    (all_goals refine qgp ?_ <;> (repeat' first | exact trivial | intro hc | refine And.intro ?_ ?_) <;> refine Lf.mk ?_)
    refine call_f sign_meets [0] [0] (s2, signs k) ⟨by omega, hs2⟩ rfl rfl ?_
    refine And.intro (VS.mk (LeL.of_eq rfl)) (And.intro (VS.mk rfl) ?_)
    obtain ⟨q1, q2⟩ := sign_short (signs k) s2
    (all_goals refine qgp ?_ <;> (repeat' first | exact trivial | intro hc | refine And.intro ?_ ?_) <;> refine Lf.mk ?_)
    · rw [loop_break (by assumption) hc] at hl
      subst hl
      refine end_mk ?_
      (repeat' (first | (refine VS.mk ?_) | exact trivial | exact rfl | refine And.intro ?_ ?_))
    · rw [loop_go (by assumption) hc] at hl
      have hka := kinds_at (k := k) (s := s2) hc
      refine ix_lev hk ?_
      (all_goals refine qgp ?_ <;> (repeat' first | exact trivial | intro hc | refine And.intro ?_ ?_) <;> refine Lf.mk ?_)
      refine ix_map (kindOf k (signI (signs k) s2).1) (by omega) (by simpa using hka) ?_
      (all_goals refine qgp ?_ <;> (repeat' first | exact trivial | intro hc | refine And.intro ?_ ?_) <;> refine Lf.mk ?_)
      have q3 := hsub (signI (signs k) s2).2
      refine call_f h [0] [0] (signI (signs k) s2).2 (by omega) rfl rfl ?_
      refine And.intro (VS.mk (LeL.of_eq rfl)) (And.intro (VS.mk rfl) ?_)
      (all_goals refine qgp ?_ <;> (repeat' first | exact trivial | intro hc | refine And.intro ?_ ?_) <;> refine Lf.mk ?_)
      refine loop_end (g, .mk (kindOf k (signI (signs k) s2).1) 0 [] [e, (sub (signI (signs k) s2).2).1], (sub (signI (signs k) s2).2).2) ⟨by (dsimp only; omega), by (dsimp only; omega), hl⟩ (by dsimp only; omega) ?_
      dsimp only
      rw [mk_kind, mk_n, mk_name, mk_kids, map2]
      (repeat' (first | (refine VS.mk ?_) | exact trivial | exact rfl | refine And.intro ?_ ?_))
  · rw [loop_stop hc] at hl
    subst hl
    refine end_mk ?_
    (repeat' (first | (refine VS.mk ?_) | exact trivial | exact rfl | refine And.intro ?_ ?_))
end Go.Proofs.YtdhpodgaeholmaaDoor

namespace Go.Proofs.YtdhpodgaeholmaaDoor
open Go Go.Plat
set_option linter.unusedVariables false
set_option linter.unusedSimpArgs false
set_option maxRecDepth 100000
set_option maxHeartbeats 2000000
attribute [local irreducible] NilS LookS NormM bitI BytesS NormL Arith QuoS RemS ShlS ShrS BitS CatS SplitS SideS IdxS CallS LoopEnd EndS ModeS DrawS AWP Meets
attribute [local irreducible] signedI exprD nodes OExpr.kind OExpr.n OExpr.name OExpr.kids letterB digitB kindB nameB signI oneI failS loopF

theorem at_all {d : Int} {one : St → OExpr × St} (hs : Shorter one) (h : OneOk d one) : AtOk 0 d (atF one 5) := by
  have h5 : AtOk (((4 : Nat) : Int) + 1) d (atF one 0) := at_top h
  have h4 : AtOk (((3 : Nat) : Int) + 1) d (atF one 1) := at_level (k := 4) (by decide) (at_short hs 0) h5
  have h3 : AtOk (((2 : Nat) : Int) + 1) d (atF one 2) := at_level (k := 3) (by decide) (at_short hs 1) h4
  have h2 : AtOk (((1 : Nat) : Int) + 1) d (atF one 3) := at_level (k := 2) (by decide) (at_short hs 2) h3
  have h1 : AtOk (((0 : Nat) : Int) + 1) d (atF one 4) := at_level (k := 1) (by decide) (at_short hs 3) h2
  exact at_level (k := 0) (by decide) (at_short hs 4) h1

theorem one_deep {d : Int} (h : 6 < d) : OneOk d (oneI 0) := by
  refine meets_f tabOk Tryd.func72 rfl (by decide) ?_
  intro s hs
  refine ⟨Nat.le_refl _, by simp [Tryd.f72], fun E hE => ?_⟩
  refine vcOk _ ?_
  (all_goals refine qgp ?_ <;> (repeat' first | exact trivial | intro hc | refine And.intro ?_ ?_) <;> refine Lf.mk ?_)
  refine call_f fail_meets [0] [0] (s, 10) trivial rfl rfl ?_
  refine And.intro (VS.mk (LeL.of_eq rfl)) (And.intro (VS.mk rfl) ?_)
  have ho : oneI 0 s = (noE, failS s 10) := by rw [oneI]
  (all_goals refine qgp ?_ <;> (repeat' first | exact trivial | intro hc | refine And.intro ?_ ?_) <;> refine Lf.mk ?_)
  refine end_mk ?_
  (repeat' (first | (refine VS.mk ?_) | exact trivial | exact rfl | refine And.intro ?_ ?_))
  all_goals (rw [ho]; rfl)

theorem one_step {d : Int} {one : St → OExpr × St} (hd : d ≤ 6) (hd0 : 0 ≤ d) (hsub : Shorter one) (h : OneOk (d + 1) one) : OneOk d (oneStep one) := by
  have hat := at_all hsub h
  refine meets_f tabOk Tryd.func72 rfl (by decide) ?_
  intro s hs
  have q1 := (sign_short opens s).1
  refine ⟨Nat.le_refl _, by simp [Tryd.f72], fun E hE => ?_⟩
  refine vcOk _ ?_
  (all_goals refine qgp ?_ <;> (repeat' first | exact trivial | intro hc | refine And.intro ?_ ?_) <;> refine Lf.mk ?_)
  refine call_f sign_meets [0] [0] (s, opens) ⟨by decide, hs⟩ rfl rfl ?_
  refine And.intro (VS.mk (LeL.of_eq rfl)) (And.intro (VS.mk rfl) ?_)
  dsimp only
  have hstep : oneStep one s = if (signI opens s).1 = 0 then (.mk 3 0 [] [(one (signI opens s).2).1], (one (signI opens s).2).2)
    else if (signI opens s).1 = 1 then (.mk 4 0 [] [(one (signI opens s).2).1], (one (signI opens s).2).2)
    else if (signI opens s).1 = 2 then
      (if (signI closes (atF one 5 (signI opens s).2).2).1 < 0 then (noE, failS (signI closes (atF one 5 (signI opens s).2).2).2 2)
       else ((atF one 5 (signI opens s).2).1, (signI closes (atF one 5 (signI opens s).2).2).2))
    else tokI (signI opens s).2 := rfl
  generalize hS : signI opens s = S at *
  obtain ⟨i, s1⟩ := S
  have q1 : s1.rest.length ≤ s.rest.length := q1
  (all_goals refine qgp ?_ <;> (repeat' first | exact trivial | intro hc | refine And.intro ?_ ?_) <;> refine Lf.mk ?_)
  · refine call_f h [0] [0] s1 (by omega) rfl rfl ?_
    refine And.intro (VS.mk (LeL.of_eq rfl)) (And.intro (VS.mk rfl) ?_)
    (all_goals refine qgp ?_ <;> (repeat' first | exact trivial | intro hc | refine And.intro ?_ ?_) <;> refine Lf.mk ?_)
    have ho : oneStep one s = (.mk 3 0 [] [(one s1).1], (one s1).2) := by rw [hstep, if_pos hc]
    refine end_mk ?_
    (repeat' (first | (refine VS.mk ?_) | exact trivial | exact rfl | refine And.intro ?_ ?_))
    all_goals (rw [ho])
    · dsimp only; rw [exprU_mk, map1]; rfl
    · rfl
  · refine call_f h [0] [0] s1 (by omega) rfl rfl ?_
    refine And.intro (VS.mk (LeL.of_eq rfl)) (And.intro (VS.mk rfl) ?_)
    (all_goals refine qgp ?_ <;> (repeat' first | exact trivial | intro hc | refine And.intro ?_ ?_) <;> refine Lf.mk ?_)
    have ho : oneStep one s = (.mk 4 0 [] [(one s1).1], (one s1).2) := by rw [hstep, if_neg (by assumption), if_pos hc]
    refine end_mk ?_
    (repeat' (first | (refine VS.mk ?_) | exact trivial | exact rfl | refine And.intro ?_ ?_))
    all_goals (rw [ho])
    · dsimp only; rw [exprU_mk, map1]; rfl
    · rfl
  · have q2 := at_short hsub 5 s1
    refine call_f hat [0] [0] s1 (by omega) rfl rfl ?_
    refine And.intro (VS.mk (LeL.of_eq rfl)) (And.intro (VS.mk rfl) ?_)
    (all_goals refine qgp ?_ <;> (repeat' first | exact trivial | intro hc | refine And.intro ?_ ?_) <;> refine Lf.mk ?_)
    refine call_f sign_meets [0] [0] ((atF one 5 s1).2, closes) ⟨by decide, by omega⟩ rfl rfl ?_
    refine And.intro (VS.mk (LeL.of_eq rfl)) (And.intro (VS.mk rfl) ?_)
    (all_goals refine qgp ?_ <;> (repeat' first | exact trivial | intro hc | refine And.intro ?_ ?_) <;> refine Lf.mk ?_)
    · refine call_f fail_meets [0] [0] ((signI closes (atF one 5 s1).2).2, 2) trivial rfl rfl ?_
      refine And.intro (VS.mk (LeL.of_eq rfl)) (And.intro (VS.mk rfl) ?_)
      (all_goals refine qgp ?_ <;> (repeat' first | exact trivial | intro hc | refine And.intro ?_ ?_) <;> refine Lf.mk ?_)
      have ho : oneStep one s = (noE, failS (signI closes (atF one 5 s1).2).2 2) := by rw [hstep, if_neg (by assumption), if_neg (by assumption), if_pos (by assumption)]; dsimp only; rw [if_pos hc]
      refine end_mk ?_
      (repeat' (first | (refine VS.mk ?_) | exact trivial | exact rfl | refine And.intro ?_ ?_))
      all_goals (rw [ho]; rfl)
    · have ho : oneStep one s = ((atF one 5 s1).1, (signI closes (atF one 5 s1).2).2) := by rw [hstep, if_neg (by assumption), if_neg (by assumption), if_pos (by assumption)]; dsimp only; rw [if_neg hc]
      refine end_mk ?_
      (repeat' (first | (refine VS.mk ?_) | exact trivial | exact rfl | refine And.intro ?_ ?_))
      all_goals (rw [ho]; rfl)
  · have hr : s1.rest = [] := List.eq_nil_of_length_eq_zero (by omega)
    refine call_f fail_meets [0] [0] (s1, 9) trivial rfl rfl ?_
    refine And.intro (VS.mk (LeL.of_eq rfl)) (And.intro (VS.mk rfl) ?_)
    (all_goals refine qgp ?_ <;> (repeat' first | exact trivial | intro hc | refine And.intro ?_ ?_) <;> refine Lf.mk ?_)
    have ho : oneStep one s = (noE, failS s1 9) := by rw [hstep, if_neg (by assumption), if_neg (by assumption), if_neg (by assumption)]; dsimp only; unfold tokI; rw [hr]
    refine end_mk ?_
    (repeat' (first | (refine VS.mk ?_) | exact trivial | exact rfl | refine And.intro ?_ ?_))
    all_goals (rw [ho]; rfl)
  · obtain ⟨r1, e1⟩ := s1
    cases r1 with
    | nil => exfalso; exact hc rfl
    | cons t r =>
      have ho : oneStep one s = if t.kind = 2 then (.mk 1 (signedI t.n 32) [] [], ⟨r, e1⟩)
          else if t.kind = 1 then (if nameB t.text = true then (.mk 2 0 t.text [], ⟨r, e1⟩) else (noE, failS ⟨r, e1⟩ 7))
          else (noE, failS ⟨r, e1⟩ 2) := by rw [hstep, if_neg (by assumption), if_neg (by assumption), if_neg (by assumption)]; rfl
      clear hstep hS
      (all_goals refine qgp ?_ <;> (repeat' first | exact trivial | intro hc | refine And.intro ?_ ?_) <;> refine Lf.mk ?_)
      · refine call_p signed_meets2 t.n trivial (VS.mk (LeL.of_eq rfl)) ?_
        (all_goals refine qgp ?_ <;> (repeat' first | exact trivial | intro hc | refine And.intro ?_ ?_) <;> refine Lf.mk ?_)
        rw [if_pos hc] at ho
        refine end_le (r1 := exprU (.mk 1 (signedI t.n 32) [] [])) (by rw [exprU_mk]; exact .agg (.cons (.refl _) (.cons (.refl _) (.cons (.refl _) (.cons (.nil 4) .nil))))) ?_ (Nat.le_refl _)
        refine end_mk ?_
        (repeat' (first | (refine VS.mk ?_) | exact trivial | exact rfl | refine And.intro ?_ ?_))
        all_goals (rw [ho]; rfl)
      · refine call_p name_any t.text trivial (VS.mk (LeL.of_eq rfl)) ?_
        (all_goals refine qgp ?_ <;> (repeat' first | exact trivial | intro hc | refine And.intro ?_ ?_) <;> refine Lf.mk ?_)
        · rw [if_neg (by assumption), if_pos (by assumption), if_pos hc] at ho
          refine end_le (r1 := exprU (.mk 2 0 t.text [])) (by rw [exprU_mk]; exact .agg (.cons (.refl _) (.cons (.refl _) (.cons (.refl _) (.cons (.nil 4) .nil))))) ?_ (Nat.le_refl _)
          refine end_mk ?_
          (repeat' (first | (refine VS.mk ?_) | exact trivial | exact rfl | refine And.intro ?_ ?_))
          all_goals (rw [ho]; rfl)
        · refine call_f fail_meets [0] [0] (⟨r, e1⟩, 7) trivial rfl rfl ?_
          refine And.intro (VS.mk (LeL.of_eq rfl)) (And.intro (VS.mk rfl) ?_)
          (all_goals refine qgp ?_ <;> (repeat' first | exact trivial | intro hc | refine And.intro ?_ ?_) <;> refine Lf.mk ?_)
          rw [if_neg (by assumption), if_pos hc, if_neg (by rw [(by assumption : nameB t.text = false)]; decide)] at ho
          refine end_mk ?_
          (repeat' (first | (refine VS.mk ?_) | exact trivial | exact rfl | refine And.intro ?_ ?_))
          all_goals (rw [ho]; rfl)
      · refine call_f fail_meets [0] [0] (⟨r, e1⟩, 2) trivial rfl rfl ?_
        refine And.intro (VS.mk (LeL.of_eq rfl)) (And.intro (VS.mk rfl) ?_)
        (all_goals refine qgp ?_ <;> (repeat' first | exact trivial | intro hc | refine And.intro ?_ ?_) <;> refine Lf.mk ?_)
        rw [if_neg (by assumption), if_neg (by assumption)] at ho
        refine end_mk ?_
        (repeat' (first | (refine VS.mk ?_) | exact trivial | exact rfl | refine And.intro ?_ ?_))
        all_goals (rw [ho]; rfl)
end Go.Proofs.YtdhpodgaeholmaaDoor

namespace Go.Proofs.YtdhpodgaeholmaaDoor
open Go Go.Plat
set_option linter.unusedVariables false
set_option linter.unusedSimpArgs false
set_option maxRecDepth 100000
set_option maxHeartbeats 2000000
attribute [local irreducible] NilS LookS NormM bitI BytesS NormL Arith QuoS RemS ShlS ShrS BitS CatS SplitS SideS IdxS CallS LoopEnd EndS ModeS DrawS AWP Meets
attribute [local irreducible] signedI exprD nodes OExpr.kind OExpr.n OExpr.name OExpr.kids letterB digitB kindB nameB signI oneI failS loopF

theorem one_succ (f : Nat) : oneI (f + 1) = oneStep (oneI f) := by funext s; rw [oneI]
theorem ones : ∀ f : Nat, f ≤ 7 → OneOk (7 - (f : Int)) (oneI f)
  | 0, _ => one_deep (by decide)
  | f + 1, hf => by
    have h := ones f (by omega)
    rw [one_succ]
    have e : (7 : Int) - ((f + 1 : Nat) : Int) + 1 = 7 - (f : Int) := by omega
    exact one_step (by omega) (by omega) (one_short f) (by rw [e]; exact h)
theorem at_one : AtOk 0 0 (atF (oneI 7) 5) := at_all (one_short 7) (ones 7 (by decide))

def parseI (l : List OTok) : OExpr × St := atF (oneI 7) 5 ⟨l, 0⟩
def pRes (l : List OTok) : OExpr × Int × Int := if (parseI l).2.err = 0 then ((parseI l).1, (l.length : Int) - (parseI l).2.rest.length, 0) else (noE, 0, (parseI l).2.err)
def pResD (p : OExpr × Int × Int) : D := .tup [exprU p.1, .int .i64 p.2.1, .int .i64 p.2.2]
theorem parse_short (l : List OTok) : (parseI l).2.rest.length ≤ l.length := at_short (one_short 7) 5 ⟨l, 0⟩
theorem parse_meets : Meets Tryd.prog n_expr_Parse (SpecP (fun l : List OTok => l.length ≤ 1000000000) (fun l => [.sl 3 (l.map tokD) none]) fun l => pResD (pRes l)) := by
  refine meets_f tabOk Tryd.func10 rfl (by decide) ?_
  intro l hl
  refine ⟨Nat.le_refl _, by simp [Tryd.f10], fun E hE => ?_⟩
  refine vcOk _ ?_
  (all_goals refine qgp ?_ <;> (repeat' first | exact trivial | intro hc | refine And.intro ?_ ?_) <;> refine Lf.mk ?_)
  refine call_f at_one [1] [1] ⟨l, 0⟩ hl rfl rfl ?_
  refine And.intro (VS.mk (LeL.of_eq rfl)) (And.intro (VS.mk rfl) ?_)
  have hq := parse_short l
  have hp : pRes l = if (parseI l).2.err = 0 then ((parseI l).1, (l.length : Int) - (parseI l).2.rest.length, 0) else (noE, 0, (parseI l).2.err) := rfl
  have hx : atF (oneI 7) 5 ⟨l, 0⟩ = parseI l := rfl
  rw [hx]
  generalize parseI l = T at *
  obtain ⟨e, r, er⟩ := T
  have hq : r.length ≤ l.length := hq
  (all_goals refine qgp ?_ <;> (repeat' first | exact trivial | intro hc | refine And.intro ?_ ?_) <;> refine Lf.mk ?_)
  · rw [hp, if_neg hc]
    exact end_p (VS.mk (.tup (.cons noE_le (.cons (.refl _) (.cons (.refl _) .nil)))))
  · rw [hp, if_pos hc]
    refine end_p (VS.mk (LeD.of_eq ?_))
    show D.tup [.agg [.int .i64 e.kind, .int .i64 e.n, .str e.name, .sl 4 (e.kids.map exprD) none], .int .i64 _, .int .i64 0] = .tup [exprU e, _, _]
    cases e
    rw [exprU_mk, mk_kind, mk_n, mk_name, mk_kids]
end Go.Proofs.YtdhpodgaeholmaaDoor

/-
  How large what Parse makes is.
-/
namespace Go.Proofs.YtdhpodgaeholmaaDoor
open Go Go.Plat
set_option linter.unusedVariables false
set_option linter.unusedSimpArgs false
set_option maxRecDepth 100000
set_option maxHeartbeats 2000000
attribute [local irreducible] NilS LookS NormM bitI BytesS NormL Arith QuoS RemS ShlS ShrS BitS CatS SplitS SideS IdxS CallS LoopEnd EndS ModeS DrawS AWP Meets
attribute [local irreducible] signedI exprD OExpr.kind OExpr.n OExpr.name OExpr.kids letterB digitB kindB nameB

def wt : List OTok → Nat
  | [] => 0
  | t :: l => 1 + t.text.length + wt l
def Slim (p : St → OExpr × St) : Prop := ∀ s, nodes (p s).1 + 2 * wt (p s).2.rest ≤ 1 + 2 * wt s.rest
theorem nodes_mk0 (k n : Int) (t : List UInt8) : nodes (.mk k n t []) = 1 + t.length := by rw [nodes, nodesL, Nat.add_zero]
theorem nodes_mk1 (k n : Int) (a : OExpr) : nodes (.mk k n [] [a]) = 1 + nodes a := by rw [nodes, nodesL, nodesL]; simp
theorem nodes_mk2 (k n : Int) (a b : OExpr) : nodes (.mk k n [] [a, b]) = 1 + nodes a + nodes b := by rw [nodes, nodesL, nodesL, nodesL]; simp; omega
theorem nodes_no : nodes noE = 1 := by unfold noE; rw [nodes_mk0]; rfl
theorem sign_wt (l : List (List UInt8)) (s : St) : wt (signI l s).2.rest ≤ wt s.rest ∧ (0 ≤ (signI l s).1 → wt (signI l s).2.rest + 1 ≤ wt s.rest) := by
  obtain ⟨r, e⟩ := s
  cases r with
  | nil => exact ⟨Nat.le_refl _, fun h => by simp [signI] at h⟩
  | cons t r =>
    simp only [signI]
    split
    · split
      · simp only [wt]; exact ⟨by omega, fun _ => by omega⟩
      · exact ⟨Nat.le_refl _, fun h => by simp at h⟩
    · exact ⟨Nat.le_refl _, fun h => by simp at h⟩
theorem loop_slim {k : Nat} {sub : St → OExpr × St} (hs : Slim sub) : ∀ (g : Nat) (e : OExpr) (s : St), nodes (loopF k sub g e s).1 + 2 * wt (loopF k sub g e s).2.rest ≤ nodes e + 2 * wt s.rest
  | 0, e, s => Nat.le_refl _
  | g + 1, e, s => by
    rw [loopF]
    obtain ⟨h1, h1'⟩ := sign_wt (signs k) s
    split
    · split
      · dsimp only; omega
      · rename_i hn
        have h3 := h1' (by omega)
        have := loop_slim (k := k) hs g (.mk (kindOf k (signI (signs k) s).1) 0 [] [e, (sub (signI (signs k) s).2).1]) (sub (signI (signs k) s).2).2
        rw [nodes_mk2] at this
        have h2 := hs (signI (signs k) s).2
        omega
    · exact Nat.le_refl _
theorem level_slim {k : Nat} {sub : St → OExpr × St} (hs : Slim sub) : Slim (levelF k sub) := fun s => by
  have h1 := hs s
  have h2 := loop_slim (k := k) hs ((sub s).2.rest.length + 1) (sub s).1 (sub s).2
  unfold levelF; omega
theorem at_slim {one : St → OExpr × St} (hs : Slim one) : ∀ j, Slim (atF one j)
  | 0 => hs
  | j + 1 => level_slim (at_slim hs j)
theorem tok_slim : Slim tokI := fun s => by
  obtain ⟨r, e⟩ := s
  cases r with
  | nil => simp [tokI, fail_rest, nodes_no, wt]
  | cons t r =>
    simp only [tokI]
    repeat' split
    all_goals (try rw [fail_rest]); simp only [nodes_no, nodes_mk0, wt, List.length_nil]; omega
theorem step_slim {one : St → OExpr × St} (hs : Slim one) : Slim (oneStep one) := fun s => by
  obtain ⟨h1, h1'⟩ := sign_wt opens s
  have h2 := hs (signI opens s).2
  have h3 := at_slim hs 5 (signI opens s).2
  have h4 := (sign_wt closes (atF one 5 (signI opens s).2).2).1
  have h5 := tok_slim (signI opens s).2
  have h6 := nodes_pos (atF one 5 (signI opens s).2).1
  unfold oneStep
  repeat' split
  all_goals (try dsimp only); (try rw [fail_rest]); (try simp only [nodes_mk1, nodes_no]); omega
theorem one_slim : ∀ f, Slim (oneI f)
  | 0 => fun s => by rw [oneI, fail_rest, nodes_no]; exact Nat.le_refl _
  | f + 1 => fun s => by rw [oneI]; exact step_slim (one_slim f) s
theorem res_nodes (L : List OTok) : nodes (pRes L).1 ≤ 1 + 2 * wt L := by
  have h := at_slim (one_slim 7) 5 ⟨L, 0⟩
  have h : nodes (parseI L).1 + 2 * wt (parseI L).2.rest ≤ 1 + 2 * wt L := h
  unfold pRes
  split
  · dsimp only; omega
  · dsimp only; rw [nodes_no]; omega

end Go.Proofs.YtdhpodgaeholmaaDoor

namespace Go.Proofs.YtdhpodgaeholmaaDoor
open Go Go.Plat
set_option linter.unusedVariables false
set_option linter.unusedSimpArgs false
set_option maxRecDepth 100000
set_option maxHeartbeats 2000000
attribute [local irreducible] NilS LookS NormM bitI BytesS NormL Arith QuoS RemS ShlS ShrS BitS CatS SplitS SideS IdxS CallS LoopEnd EndS ModeS DrawS AWP Meets

structure OVal where
  name : List UInt8
  n : Int
  deriving DecidableEq
structure OEqu where
  name : List UInt8
  n : Int
def valD (v : OVal) : D := .agg [.str v.name, .int .i64 v.n]
def equD (v : OEqu) : D := .agg [.str v.name, .int .i64 v.n]
def numV (k a b : Int) : Int :=
  if k = 5 then signedI (a * b) 32 else if k = 6 then signedI (a + b) 32 else if k = 7 then signedI (a - b) 32
  else if k = 8 then signedI (a * 2 ^ (b % 32).toNat) 32 else if k = 9 then signedI (a % 4294967296 / 2 ^ (b % 32).toNat) 32
  else if k = 10 then signedI (bitI .and .i64 a b) 32 else if k = 11 then signedI (bitI .or .i64 a b) 32 else signedI a 32
def S32 (n : Int) : Prop := -2147483648 ≤ n ∧ n ≤ 2147483647
theorem signed_eq (n : Int) : signedI n 32 = if n % 4294967296 / 2147483648 = 1 then n % 4294967296 - 4294967296 else n % 4294967296 := rfl
theorem signed_s32 (n : Int) : S32 (signedI n 32) := by
  rw [signed_eq]; unfold S32
  split <;> omega
theorem signed_same {n : Int} (h : S32 n) : signedI n 32 = n := by
  obtain ⟨h1, h2⟩ := h
  rw [signed_eq]
  split <;> omega
theorem signed_cong {m n : Int} (h : m % 4294967296 = n % 4294967296) : signedI m 32 = signedI n 32 := by rw [signed_eq, signed_eq, h]
theorem numV_s32 (k a b : Int) : S32 (numV k a b) := by
  unfold numV
  repeat' split
  all_goals exact signed_s32 _
theorem and_31 {n : Int} : bitI .and .i64 n 31 = n % 32 := and_mask (k := 5) (by decide) (by decide)
theorem and_32 {n : Int} : bitI .and .i64 n 4294967295 = n % 4294967296 := and_mask (k := 32) (by decide) (by decide)
theorem not_i64 {n : Int} (h0 : -9223372036854775808 ≤ n) (h1 : n ≤ 9223372036854775807) : bitI .xor .i64 (if IntKind.i64.signed = true then -1 else IntKind.i64.max) n = -n - 1 := by
  unfold bitI
  have e : (BitVec.ofInt IntKind.i64.bits (-1) ^^^ BitVec.ofInt IntKind.i64.bits n).toNat = 18446744073709551615 - (BitVec.ofInt 64 n).toNat := by
    show (BitVec.ofInt 64 (-1) ^^^ BitVec.ofInt 64 n).toNat = _
    have : BitVec.ofInt 64 (-1) = BitVec.allOnes 64 := by decide
    rw [this, BitVec.allOnes_xor, BitVec.toNat_not]
  show IntKind.i64.wrap (((BitVec.ofInt IntKind.i64.bits (-1) ^^^ BitVec.ofInt IntKind.i64.bits n).toNat : Nat) : Int) = _
  rw [e]
  have h4 := toNat_ofInt n
  generalize (BitVec.ofInt 64 n).toNat = x at *
  have hx : x ≤ 18446744073709551615 := by omega
  unfold IntKind.wrap
  simp [IntKind.bits, IntKind.signed]
  omega
theorem pow_le31 {y : Nat} (h : y ≤ 31) : (1 : Int) ≤ 2 ^ y ∧ (2 : Int) ^ y ≤ 2147483648 := by
  have h1 : (2 : Nat) ^ y ≤ 2 ^ 31 := Nat.pow_le_pow_right (by decide) h
  have h2 : 1 ≤ (2 : Nat) ^ y := Nat.one_le_two_pow
  have e : ((2 : Int) ^ y) = ((2 ^ y : Nat) : Int) := by simp
  rw [e]
  exact ⟨by omega, by have : (2 : Nat) ^ 31 = 2147483648 := by decide
                      omega⟩
theorem shl_bd {a : Int} {y : Nat} (ha : S32 a) (h : y ≤ 31) : -4611686018427387904 ≤ a * 2 ^ y ∧ a * 2 ^ y ≤ 4611686018427387904 := by
  obtain ⟨h1, h2⟩ := pow_le31 h
  obtain ⟨h3, h4⟩ := ha
  generalize (2 : Int) ^ y = p at *
  constructor
  · have : -2147483648 * 2147483648 ≤ a * p := by
      rcases Int.le_total 0 a with h | h
      · have := Int.mul_nonneg h (by omega : 0 ≤ p); omega
      · have h5 : -2147483648 * p ≤ a * p := Int.mul_le_mul_of_nonneg_right h3 (by omega)
        omega
    omega
  · have : a * p ≤ 2147483648 * 2147483648 := by
      rcases Int.le_total 0 a with h | h
      · have h5 : a * p ≤ a * 2147483648 := Int.mul_le_mul_of_nonneg_left h2 h
        omega
      · have := Int.mul_nonneg (by omega : 0 ≤ -a) (by omega : 0 ≤ p)
        rw [Int.neg_mul] at this; omega
    omega
theorem mul_bd {a b : Int} (ha : S32 a) (hb : S32 b) : -4611686018427387904 ≤ a * b ∧ a * b ≤ 4611686018427387904 := by
  obtain ⟨h1, h2⟩ := ha
  obtain ⟨h3, h4⟩ := hb
  have k1 : (a * b).natAbs ≤ 2147483648 * 2147483648 := by
    rw [Int.natAbs_mul]
    exact Nat.mul_le_mul (by omega) (by omega)
  omega
theorem shl_var {a y : Int} {K : D → Prop} (ha : S32 a) (h0 : 0 ≤ y) (h1 : y ≤ 31) (h : K (.int .i64 (a * 2 ^ y.toNat))) : ShlS .i64 a y K := by
  unfold ShlS
  refine ⟨h0, ?_⟩
  have e : min y.toNat IntKind.i64.bits = y.toNat := by simp only [IntKind.bits]; omega
  obtain ⟨h2, h3⟩ := shl_bd ha (y := y.toNat) (by omega)
  rw [e, wrap_i64 (by omega) (by omega)]
  exact h
theorem shr_var {x y : Int} {K : D → Prop} (h0 : 0 ≤ y) (h1 : y ≤ 31) (h : K (.int .i64 (x / 2 ^ y.toNat))) : ShrS .i64 x y K := by
  unfold ShrS
  refine ⟨h0, ?_⟩
  have e : min y.toNat IntKind.i64.bits = y.toNat := by simp only [IntKind.bits]; omega
  have hp : (0 : Int) ≤ 2 ^ y.toNat := Int.le_of_lt (Int.pow_pos (by decide))
  rw [e, Int.fdiv_eq_ediv_of_nonneg _ hp]
  exact h
attribute [local irreducible] signedI

theorem number_meets : Meets Tryd.prog n_expr_number (SpecP (fun ((k, a, b) : Int × Int × Int) => S32 a ∧ S32 b) (fun (k, a, b) => [.int .i64 k, .int .i64 a, .int .i64 b]) fun (k, a, b) => .int .i64 (numV k a b)) := by
  refine meets_f tabOk Tryd.func76 rfl (by decide) ?_
  rintro ⟨k, a, b⟩ ⟨ha, hb⟩
  refine ⟨Nat.le_refl _, by simp [Tryd.f76], fun E hE => ?_⟩
  refine vcOk _ ?_
  have hm := mul_bd ha hb
  have ha1 := ha.1
  have ha2 := ha.2
  have hb1 := hb.1
  have hb2 := hb.2
  (all_goals refine qgo ?_ <;> (repeat' first | exact trivial | intro hc | refine And.intro ?_ ?_) <;> refine Lf.mk ?_)
  any_goals (first | (refine bit_mk and_31 ?_) | (refine bit_mk and_32 ?_) | (refine bit_mk rfl ?_) | skip)
  have hb32 : 0 ≤ b % 32 ∧ b % 32 ≤ 31 := by omega
  (all_goals refine qgo ?_ <;> (repeat' first | exact trivial | intro hc | refine And.intro ?_ ?_) <;> refine Lf.mk ?_)
  any_goals (first | (refine shl_var ha (by omega) (by omega) ?_) | (refine bit_mk and_31 ?_) | skip)
  (all_goals refine qgo ?_ <;> (repeat' first | exact trivial | intro hc | refine And.intro ?_ ?_) <;> refine Lf.mk ?_)
  any_goals (first | (refine shr_var (by omega) (by omega) ?_) | skip)
  (all_goals refine qgo ?_ <;> (repeat' first | exact trivial | intro hc | refine And.intro ?_ ?_) <;> refine Lf.mk ?_)
  all_goals (refine call_p signed_meets2 _ trivial (VS.mk (LeL.of_eq rfl)) ?_)
  (all_goals refine qgo ?_ <;> (repeat' first | exact trivial | intro hc | refine And.intro ?_ ?_) <;> refine Lf.mk ?_)
  all_goals
    refine end_p (VS.mk (LeD.of_eq (congrArg (D.int .i64) (?_ : _ = numV k a b))))
    unfold numV
    repeat (first | rw [if_pos (by assumption)] | rw [if_neg (by assumption)])

def twoV (k : Int) (a b : OVal) : OVal × Int :=
  if a.name = [] ∧ b.name = [] then (⟨[], numV k a.n b.n⟩, 0)
  else if k = 6 ∧ (a.name = [] ∨ b.name = []) then (⟨a.name ++ b.name, numV k a.n b.n⟩, 0)
  else if k = 7 ∧ b.name = [] then (⟨a.name, numV k a.n b.n⟩, 0)
  else if k = 7 ∧ a.name = b.name then (⟨[], numV k a.n b.n⟩, 0)
  else (⟨[], 0⟩, 8)
def vresD (x : OVal × Int) : D := .tup [valD x.1, .int .i64 x.2]
attribute [local irreducible] numV

theorem two_meets : Meets Tryd.prog n_expr_two (SpecP (fun ((k, a, b) : Int × OVal × OVal) => S32 a.n ∧ S32 b.n ∧ a.name.length ≤ 1000000000 ∧ b.name.length ≤ 1000000000) (fun (k, a, b) => [.int .i64 k, valD a, valD b]) fun (k, a, b) => vresD (twoV k a b)) := by
  refine meets_f tabOk Tryd.func46 rfl (by decide) ?_
  rintro ⟨k, a, b⟩ ⟨ha, hb, hna, hnb⟩
  refine ⟨Nat.le_refl _, by simp [Tryd.f46], fun E hE => ?_⟩
  refine vcOk _ ?_
  (all_goals refine qgo ?_ <;> (repeat' first | exact trivial | intro hc | refine And.intro ?_ ?_) <;> refine Lf.mk ?_)
  any_goals (first | (exfalso; exact absurd ‹a.name = []› ‹¬ a.name = []›) | (exfalso; exact absurd ‹b.name = []› ‹¬ b.name = []›) | (exfalso; omega) | skip)
  any_goals (first | (refine cat_mk (by omega) ?_) | skip)
  (all_goals refine qgo ?_ <;> (repeat' first | exact trivial | intro hc | refine And.intro ?_ ?_) <;> refine Lf.mk ?_)
  any_goals (first | (refine call_p number_meets (k, a.n, b.n) ⟨ha, hb⟩ (VS.mk (LeL.of_eq rfl)) ?_) | skip)
  (all_goals refine qgo ?_ <;> (repeat' first | exact trivial | intro hc | refine And.intro ?_ ?_) <;> refine Lf.mk ?_)
  all_goals
    refine end_p (VS.mk (LeD.of_eq (?_ : _ = vresD (twoV k a b))))
    simp_all [twoV, vresD, valD]
end Go.Proofs.YtdhpodgaeholmaaDoor

/-
  What the bound on what is handed in gives.
-/
namespace Go.Proofs.YtdhpodgaeholmaaDoor
open Go Go.Plat
set_option linter.unusedVariables false
set_option linter.unusedSimpArgs false
set_option maxRecDepth 100000
set_option maxHeartbeats 2000000
attribute [local irreducible] NilS LookS NormM bitI BytesS NormL Arith QuoS RemS ShlS ShrS BitS CatS SplitS SideS IdxS CallS LoopEnd EndS ModeS DrawS AWP Meets
theorem own : ownKnob Tryd.prog.godebug = none := by kernel_rfl

theorem one_le {H : Type} (d : DataW H) : 1 ≤ Rows.uptoBulk d := by
  cases d with
  | lit l => cases l <;> simp [Rows.uptoBulk]
  | nil => simp [Rows.uptoBulk]
  | ptr d => simp [Rows.uptoBulk]
  | slice el sp => simp [Rows.uptoBulk]
  | agg ps => simp [Rows.uptoBulk]
  | iface t d => simp [Rows.uptoBulk]
  | map es => simp [Rows.uptoBulk]
  | held h => simp [Rows.uptoBulk]
theorem part_le {H : Type} {d : DataW H} {l : List (DataW H)} (h : d ∈ l) : Rows.uptoBulk d ≤ Rows.uptoBulkAll l := by
  induction l with
  | nil => cases h
  | cons x r ih =>
    simp only [Rows.uptoBulkAll]
    cases List.mem_cons.1 h with
    | inl e => subst e; omega
    | inr e => have := ih e; omega
theorem length_le {H : Type} (l : List (DataW H)) : l.length ≤ Rows.uptoBulkAll l := by
  induction l with
  | nil => simp [Rows.uptoBulkAll]
  | cons x r ih => have := one_le x; simp only [Rows.uptoBulkAll, List.length_cons]; omega
theorem elems_all {H : Type} (d : DataW H) : Rows.uptoBulkAll (elems d) ≤ Rows.uptoBulk d := by
  cases d <;> simp only [elems, Rows.uptoBulk, Rows.uptoBulkAll] <;> omega
theorem elems_le {H : Type} (d : DataW H) : (elems d).length ≤ Rows.uptoBulk d := Nat.le_trans (length_le _) (elems_all d)
theorem bound {H : Type} {l : List (DataW H)} (hk : Rows.uptoSmall H l = true) : Rows.uptoBulkAll l ≤ 1048576 := of_decide_eq_true hk
end Go.Proofs.YtdhpodgaeholmaaDoor

/-
  What tokens, expressions and names' numbers read as.
-/
namespace Go.Proofs.YtdhpodgaeholmaaDoor
open Go Go.Plat
set_option linter.unusedVariables false
set_option linter.unusedSimpArgs false
set_option maxRecDepth 100000
set_option maxHeartbeats 2000000
attribute [local irreducible] NilS LookS NormM bitI BytesS NormL Arith QuoS RemS ShlS ShrS BitS CatS SplitS SideS IdxS CallS LoopEnd EndS ModeS DrawS AWP Meets

abbrev i64Sh : Sh := .int .i64
def tokSh : Sh := .fld i64Sh (.fld i64Sh (.fld .str .fin))
def equSh : Sh := .fld .str (.fld i64Sh .fin)
abbrev exprF (σ : Sh) : Sh := .fld i64Sh (.fld i64Sh (.fld .str (.fld (.sl 4 σ) .fin)))
def exprSh : Nat → Sh
  | 0 => .void 4
  | n + 1 => exprF (exprSh n)
theorem expr_size : ∀ n, (exprSh n).size = 4
  | 0 => rfl
  | n + 1 => by rw [exprSh]; rfl
theorem expr_vd : ∀ K, vdB K (exprSh (K + 1)) = true
  | 0 => by rw [exprSh]; simp [vdB]
  | K + 1 => by
    have h := expr_vd K
    rw [exprSh]
    simp only [vdB, h, Bool.and_true]
theorem fit_tok {H : Type} {d : DataW H} (h : fit tokSh (.inl d)) : ∃ t : OTok, rd tokSh d = tokD t ∧ 1 + t.text.length ≤ Rows.uptoBulk d := by
  obtain ⟨p0, r0, rfl, h0, k0⟩ := fit_fld h
  obtain ⟨p1, r1, rfl, h1, k1⟩ := fit_more k0
  obtain ⟨p2, r2, rfl, h2, k2⟩ := fit_more k1
  obtain rfl := fit_fin k2
  obtain ⟨n0, e0, _⟩ := fit_i64 h0
  obtain ⟨n1, e1, _⟩ := fit_i64 h1
  obtain ⟨s, rfl, e2⟩ := fit_str h2
  refine ⟨⟨n0, n1, s⟩, ?_, ?_⟩
  · unfold tokSh
    rw [rd_fld]
    simp only [rdF_cons, rdF_nil]
    rw [cl_one e0 rfl (by simp), cl_one e1 rfl (by simp), cl_one e2 rfl (by simp)]
    rfl
  · simp only [Rows.uptoBulk, Rows.uptoBulkAll]
    omega
theorem fit_equ {H : Type} {d : DataW H} (h : fit equSh (.inl d)) : ∃ s : OEqu, rd equSh d = equD s := by
  obtain ⟨p0, r0, rfl, h0, k0⟩ := fit_fld h
  obtain ⟨p1, r1, rfl, h1, k1⟩ := fit_more k0
  obtain rfl := fit_fin k1
  obtain ⟨s, rfl, e0⟩ := fit_str h0
  obtain ⟨n, e1, _⟩ := fit_i64 h1
  refine ⟨⟨s, n⟩, ?_⟩
  unfold equSh
  rw [rd_fld]
  simp only [rdF_cons, rdF_nil]
  rw [cl_one e0 rfl (by simp), cl_one e1 rfl (by simp)]
  rfl
theorem wt_le {H : Type} : ∀ {l : List OTok} {ds : List (DataW H)}, l.length = ds.length → (∀ (i : Nat) x t, ds[i]? = some x → l[i]? = some t → 1 + t.text.length ≤ Rows.uptoBulk x) → wt l ≤ Rows.uptoBulkAll ds
  | [], ds, _, _ => by rw [wt]; exact Nat.zero_le _
  | t :: l, [], h, _ => by cases h
  | t :: l, x :: ds, h, hq => by
    have h1 := hq 0 x t rfl rfl
    have h2 := wt_le (l := l) (ds := ds) (by simpa using h) fun i x t hx ht => hq (i + 1) x t (by simpa using hx) (by simpa using ht)
    rw [wt, Rows.uptoBulkAll]; omega
theorem nodes_le {H : Type} : ∀ {l : List OExpr} {ds : List (DataW H)}, l.length = ds.length → (∀ (i : Nat) x e, ds[i]? = some x → l[i]? = some e → nodes e ≤ Rows.uptoBulk x) → nodesL l ≤ Rows.uptoBulkAll ds
  | [], ds, _, _ => by rw [nodesL]; exact Nat.zero_le _
  | t :: l, [], h, _ => by cases h
  | t :: l, x :: ds, h, hq => by
    have h1 := hq 0 x t rfl rfl
    have h2 := nodes_le (l := l) (ds := ds) (by simpa using h) fun i x t hx ht => hq (i + 1) x t (by simpa using hx) (by simpa using ht)
    rw [nodesL, Rows.uptoBulkAll]; omega
theorem fit_expr {H : Type} : ∀ {n : Nat} {d : DataW H}, fit (exprSh n) (.inl d) → ∃ e : OExpr, rd (exprSh n) d = exprU e ∧ nodes e ≤ Rows.uptoBulk d
  | 0, d, h => by rw [exprSh] at h; simp [fit] at h
  | n + 1, d, h => by
    rw [exprSh] at h
    obtain ⟨p0, r0, rfl, h0, k0⟩ := fit_fld h
    obtain ⟨p1, r1, rfl, h1, k1⟩ := fit_more k0
    obtain ⟨p2, r2, rfl, h2, k2⟩ := fit_more k1
    obtain ⟨p3, r3, rfl, h3, k3⟩ := fit_more k2
    obtain rfl := fit_fin k3
    obtain ⟨n0, e0, _⟩ := fit_i64 h0
    obtain ⟨n1, e1, _⟩ := fit_i64 h1
    obtain ⟨s, rfl, e2⟩ := fit_str h2
    obtain ⟨ks, e3, l3, q3⟩ := fit_sl (g := exprD) (Q := fun d e => nodes e ≤ Rows.uptoBulk d) h3 fun x _ hx => by
      obtain ⟨e, i1, i2⟩ := fit_expr hx
      exact ⟨e, by rw [exprD_eq]; exact i1, i2⟩
    refine ⟨.mk n0 n1 s ks, ?_, ?_⟩
    · rw [exprSh, rd_fld]
      simp only [rdF_cons, rdF_nil]
      rw [cl_one e0 rfl (by simp), cl_one e1 rfl (by simp), cl_one e2 rfl (by simp), cl_one e3 rfl (by simp), exprU_mk]
      rfl
    · have a := nodes_le l3 q3
      have b := elems_all p3
      rw [nodes]
      simp only [Rows.uptoBulk, Rows.uptoBulkAll]
      omega
theorem chk_step (σ : Sh) : chk Tryd.prog (exprF σ) (.inl 27) = ((Nat.beq σ.size 4 && chk Tryd.prog σ (.inl 27)) && true) := by kernel_rfl
theorem expr_chk : ∀ n, chk Tryd.prog (exprSh n) (.inl 27) = true
  | 0 => by kernel_rfl
  | n + 1 => by rw [exprSh, chk_step, expr_size, expr_chk n]; rfl
abbrev tellSh (K : Nat) : List Sh := [.sl 3 tokSh, exprSh (K + 1), .sl 2 equSh]
theorem fit_tells {H : Type} {K : Nat} {ds : List (DataW H)} (h : fitAll (tellSh K) ds) (hb : Rows.uptoBulkAll ds ≤ 1048576) : ∃ (L : List OTok) (e : OExpr) (l : List OEqu), rdAll (tellSh K) ds = [.sl 3 (L.map tokD) none, exprU e, .sl 2 (l.map equD) none] ∧
    L.length ≤ 1000000000 ∧ wt L ≤ 100000000 ∧ nodes e ≤ 1048576 ∧ l.length ≤ 1000000000 := by
  obtain ⟨d1, d2, d3, rfl, h1, h2, h3⟩ := fitAll3 h
  simp only [Rows.uptoBulkAll] at hb
  obtain ⟨L, e1, l1, q1⟩ := fit_sl (g := tokD) (Q := fun d t => 1 + t.text.length ≤ Rows.uptoBulk d) h1 fun x _ hx => fit_tok hx
  obtain ⟨e, e2, l2⟩ := fit_expr h2
  obtain ⟨l, e3, l3, _⟩ := fit_sl (g := equD) (Q := fun _ _ => True) h3 fun x _ hx => by
    obtain ⟨s, h⟩ := fit_equ hx
    exact ⟨s, h, trivial⟩
  have w := wt_le l1 q1
  have b1 := elems_all d1
  have b2 := elems_le d1
  have b3 := elems_le d3
  refine ⟨L, e, l, by simp only [rdAll, e1, e2, e3], by omega, by omega, by omega, by omega⟩
end Go.Proofs.YtdhpodgaeholmaaDoor

namespace Go.Proofs.YtdhpodgaeholmaaDoor
open Go Go.Plat
set_option linter.unusedVariables false
set_option linter.unusedSimpArgs false
set_option maxRecDepth 100000
set_option maxHeartbeats 2000000
attribute [local irreducible] NilS LookS NormM bitI BytesS NormL Arith QuoS RemS ShlS ShrS BitS CatS SplitS SideS IdxS CallS LoopEnd EndS ModeS DrawS AWP Meets
attribute [local irreducible] signedI numV

def findQ (n : List UInt8) : List OEqu → Option Int
  | [] => none
  | s :: l => if s.name = n then some s.n else findQ n l
def idxQ (n : List UInt8) : List OEqu → Nat → Int
  | [], _ => -1
  | s :: l, k => if s.name = n then k else idxQ n l (k + 1)
theorem find_cons {n : List UInt8} {s : OEqu} {l : List OEqu} : findQ n (s :: l) = if s.name = n then some s.n else findQ n l := rfl
theorem find_nil {n : List UInt8} : findQ n [] = none := rfl
theorem idxQ_spec (n : List UInt8) : ∀ (l : List OEqu) (k : Nat), (findQ n l = none ∧ idxQ n l k = -1) ∨ ∃ (i : Nat) (s : OEqu), l[i]? = some s ∧ idxQ n l k = ((k + i : Nat) : Int) ∧ findQ n l = some s.n
  | [], k => .inl ⟨rfl, rfl⟩
  | s :: l, k => by
    rw [findQ, idxQ]
    by_cases h : s.name = n
    · rw [if_pos h, if_pos h]
      exact .inr ⟨0, s, rfl, rfl, rfl⟩
    · rw [if_neg h, if_neg h]
      rcases idxQ_spec n l (k + 1) with h1 | ⟨i, t, h1, h2, h3⟩
      · exact .inl h1
      · exact .inr ⟨i + 1, t, h1, by rw [h2]; congr 1; omega, h3⟩
def noVal : OVal := ⟨[], 0⟩
def topV (k n : Int) (s : List UInt8) (vs : List OVal) (l : List OEqu) : OVal × Int :=
  if k = 1 ∧ vs = [] then (⟨[], signedI n 32⟩, 0)
  else if k = 2 ∧ vs = [] then (match findQ s l with | some m => (⟨[], signedI m 32⟩, 0) | none => (⟨s, 0⟩, 0))
  else match vs with
    | [v] => if k = 3 ∨ k = 4 then (if v.name = [] then (if k = 3 then (⟨[], signedI (-v.n) 32⟩, 0) else (⟨[], signedI (-v.n - 1) 32⟩, 0)) else (noVal, 8)) else (noVal, 1)
    | [a, b] => if 5 ≤ k ∧ k ≤ 11 then twoV k a b else (noVal, 1)
    | _ => (noVal, 1)
mutual
def evalE (l : List OEqu) : OExpr → OVal × Int
  | .mk k n s ks => match evalL l ks with
    | .inl w => (noVal, w)
    | .inr vs => topV k n s vs l
def evalL (l : List OEqu) : List OExpr → Int ⊕ List OVal
  | [] => .inr []
  | e :: es => if (evalE l e).2 = 0 then (match evalL l es with | .inl w => .inl w | .inr vs => .inr ((evalE l e).1 :: vs)) else .inl (evalE l e).2
end
def evA (l : List OEqu) (acc : List OVal) (es : List OExpr) : Int ⊕ List OVal := match evalL l es with | .inl w => .inl w | .inr vs => .inr (acc ++ vs)
theorem evA_nil (l : List OEqu) (acc : List OVal) : evA l acc [] = .inr acc := by unfold evA; rw [evalL]; simp
theorem evA_cons (l : List OEqu) (acc : List OVal) (e : OExpr) (es : List OExpr) : evA l acc (e :: es) = if (evalE l e).2 = 0 then evA l (acc ++ [(evalE l e).1]) es else .inl (evalE l e).2 := by
  unfold evA
  rw [evalL]
  by_cases h : (evalE l e).2 = 0
  · rw [if_pos h, if_pos h]
    cases evalL l es <;> simp
  · rw [if_neg h, if_neg h]
theorem evA_all (l : List OEqu) (es : List OExpr) : evA l [] es = evalL l es := by unfold evA; cases evalL l es <;> simp
theorem evalE_eq (l : List OEqu) (e : OExpr) : evalE l e = match evalL l e.kids with
    | .inl w => (noVal, w)
    | .inr vs => topV e.kind e.n e.name vs l := by
  cases e with
  | mk k n s ks => rw [evalE]; rfl
structure VOk (v : OVal) (n : Nat) : Prop where
  s32 : S32 v.n
  len : v.name.length ≤ n
theorem two_ok {k : Int} {a b : OVal} {m n : Nat} (ha : VOk a m) (hb : VOk b n) : VOk (twoV k a b).1 (m + n) := by
  have h1 := ha.len
  have h2 := hb.len
  unfold twoV
  split
  · exact ⟨numV_s32 _ _ _, by simp⟩
  split
  · exact ⟨numV_s32 _ _ _, by simp; omega⟩
  split
  · exact ⟨numV_s32 _ _ _, by dsimp only; omega⟩
  split
  · exact ⟨numV_s32 _ _ _, by simp⟩
  · exact ⟨⟨by decide, by decide⟩, by simp⟩
theorem no_ok {n : Nat} : VOk noVal n := ⟨⟨by decide, by decide⟩, by simp [noVal]⟩
def nsum : List OVal → Nat
  | [] => 0
  | v :: vs => v.name.length + nsum vs
theorem nsum_mem : ∀ {vs : List OVal} {v : OVal}, v ∈ vs → v.name.length ≤ nsum vs
  | [], v, h => by simp at h
  | x :: vs, v, h => by
    rw [nsum]
    rcases List.mem_cons.1 h with rfl | h
    · omega
    · have := nsum_mem h; omega
theorem nsum_app : ∀ (a : List OVal) (v : OVal), nsum (a ++ [v]) = nsum a + v.name.length
  | [], v => by simp [nsum]
  | x :: a, v => by rw [List.cons_append, nsum, nsum, nsum_app]; omega
theorem top_ok {k n : Int} {s : List UInt8} {vs : List OVal} {l : List OEqu} {m : Nat} (h : ∀ v ∈ vs, S32 v.n) (hm : nsum vs ≤ m) : VOk (topV k n s vs l).1 (s.length + m) := by
  unfold topV
  split
  · exact ⟨signed_s32 _, by simp⟩
  split
  · split
    · exact ⟨signed_s32 _, by simp⟩
    · exact ⟨⟨show (-2147483648 : Int) ≤ 0 by decide, show (0 : Int) ≤ 2147483647 by decide⟩, by dsimp only; omega⟩
  rcases vs with _ | ⟨a, _ | ⟨b, _ | ⟨c, r⟩⟩⟩ <;> dsimp only
  · exact no_ok
  · split
    · split
      · split
        · exact ⟨signed_s32 _, by simp⟩
        · exact ⟨signed_s32 _, by simp⟩
      · exact no_ok
    · exact no_ok
  · split
    · have := two_ok (k := k) (a := a) (b := b) ⟨h a (by simp), Nat.le_refl _⟩ ⟨h b (by simp), Nat.le_refl _⟩
      simp only [nsum] at hm
      exact ⟨this.s32, by have := this.len; omega⟩
    · exact no_ok
  · exact no_ok
mutual
theorem eval_ok (l : List OEqu) : ∀ e : OExpr, VOk (evalE l e).1 (nodes e)
  | .mk k n s ks => by
    rw [evalE, nodes]
    cases h : evalL l ks with
    | inl w => exact no_ok
    | inr vs =>
      obtain ⟨h1, h2⟩ := evalL_ok l ks vs h
      have := top_ok (k := k) (n := n) (s := s) (l := l) h1 h2
      exact ⟨this.s32, by have := this.len; dsimp only; omega⟩
theorem evalL_ok (l : List OEqu) : ∀ (es : List OExpr) (vs : List OVal), evalL l es = .inr vs → (∀ v ∈ vs, S32 v.n) ∧ nsum vs ≤ nodesL es
  | [], vs, h => by rw [evalL] at h; cases h; exact ⟨by simp, by simp [nsum]⟩
  | e :: es, vs, h => by
    rw [evalL] at h
    have he := eval_ok l e
    split at h
    · cases hl : evalL l es with
      | inl w => rw [hl] at h; cases h
      | inr ws =>
        rw [hl] at h
        cases h
        obtain ⟨h1, h2⟩ := evalL_ok l es ws hl
        refine ⟨fun v hv => ?_, ?_⟩
        · rcases List.mem_cons.1 hv with rfl | hv
          · exact he.s32
          · exact h1 v hv
        · rw [nsum, nodesL]
          have := he.len
          omega
    · cases h
end

theorem nil_len {α : Type} {l : List α} (h : l.length = 0) : l = [] := List.eq_nil_of_length_eq_zero h
theorem top_num {k n : Int} {s : List UInt8} {vs : List OVal} {l : List OEqu} (h1 : k = 1) (h2 : vs.length = 0) : topV k n s vs l = (⟨[], signedI n 32⟩, 0) := by unfold topV; rw [if_pos ⟨h1, nil_len h2⟩]
theorem top_name {k n : Int} {s : List UInt8} {vs : List OVal} {l : List OEqu} (h1 : k = 2) (h2 : vs.length = 0) : topV k n s vs l = (match findQ s l with | some m => (⟨[], signedI m 32⟩, 0) | none => (⟨s, 0⟩, 0)) := by
  unfold topV; rw [if_neg (by rintro ⟨h, _⟩; omega), if_pos ⟨h1, nil_len h2⟩]
theorem top_one {k n : Int} {s : List UInt8} {v : OVal} {l : List OEqu} (h1 : k = 3 ∨ k = 4) : topV k n s [v] l = if v.name = [] then (if k = 3 then (⟨[], signedI (-v.n) 32⟩, 0) else (⟨[], signedI (-v.n - 1) 32⟩, 0)) else (noVal, 8) := by
  unfold topV; rw [if_neg (by rintro ⟨h, _⟩; omega), if_neg (by rintro ⟨h, _⟩; omega)]; dsimp only; rw [if_pos h1]
theorem top_two {k n : Int} {s : List UInt8} {a b : OVal} {l : List OEqu} (h1 : 5 ≤ k ∧ k ≤ 11) : topV k n s [a, b] l = twoV k a b := by
  unfold topV; rw [if_neg (by rintro ⟨h, _⟩; omega), if_neg (by rintro ⟨h, _⟩; omega)]; dsimp only; rw [if_pos h1]
theorem top_bad {k n : Int} {s : List UInt8} {vs : List OVal} {l : List OEqu} (h0 : vs.length = 0 → k ≠ 1 ∧ k ≠ 2) (h1 : vs.length = 1 → k ≠ 3 ∧ k ≠ 4) (h2 : vs.length = 2 → k < 5 ∨ 11 < k) : topV k n s vs l = (noVal, 1) := by
  unfold topV
  rw [if_neg (by rintro ⟨h, h3⟩; exact (h0 (by rw [h3]; rfl)).1 h), if_neg (by rintro ⟨h, h3⟩; exact (h0 (by rw [h3]; rfl)).2 h)]
  rcases vs with _ | ⟨a, _ | ⟨b, _ | ⟨c, r⟩⟩⟩ <;> dsimp only
  · rw [if_neg (by have := h1 rfl; omega)]
  · rw [if_neg (by have := h2 rfl; omega)]
theorem len_one {α : Type} {l : List α} (h : l.length = 1) : ∃ a, l = [a] := by
  rcases l with _ | ⟨a, _ | ⟨b, r⟩⟩ <;> simp at h
  exact ⟨a, rfl⟩
theorem len_two {α : Type} {l : List α} (h : l.length = 2) : ∃ a b, l = [a, b] := by
  rcases l with _ | ⟨a, _ | ⟨b, _ | ⟨c, r⟩⟩⟩ <;> simp at h
  exact ⟨a, b, rfl⟩
theorem evclos_meets : Meets Tryd.prog n_expr_Eval_1 (SpecF (fun _ : OEqu × OExpr => True) (fun (s, e) => [equD s, .loc 0 0]) (fun (s, e) => [.cells [.int .i64 e.kind, .int .i64 e.n, .str e.name, .sl 4 (e.kids.map exprD) none]]) (fun (s, e) => .bool (s.name == e.name))
    fun (s, e) => [.cells [.int .i64 e.kind, .int .i64 e.n, .str e.name, .sl 4 (e.kids.map exprD) none]]) := by
  refine meets_f tabOk Tryd.func45 rfl (by decide) ?_
  rintro ⟨s, e⟩ -
  refine ⟨Nat.le_refl _, by simp [Tryd.f45], fun E hE => ?_⟩
  refine vcOk _ ?_
  (all_goals refine qgo ?_ <;> (repeat' first | exact trivial | intro hc | refine And.intro ?_ ?_) <;> refine Lf.mk ?_)
  refine end_mk ?_
  (repeat' (first | (refine VS.mk ?_) | exact trivial | exact rfl | refine And.intro ?_ ?_))

theorem evindex_meets : Meets Tryd.prog n_slices_IndexFunc_api_Equ_api_Equ (SpecF (fun ((l, e) : List OEqu × OExpr) => l.length ≤ 1000000000) (fun (l, e) => [.sl 2 (l.map equD) none, .fn n_expr_Eval_1 [.loc 0 0]])
    (fun (l, e) => [.cells [.int .i64 e.kind, .int .i64 e.n, .str e.name, .sl 4 (e.kids.map exprD) none]]) (fun (l, e) => .int .i64 (idxQ e.name l 0)) fun (l, e) => [.cells [.int .i64 e.kind, .int .i64 e.n, .str e.name, .sl 4 (e.kids.map exprD) none]]) := by
  refine meets_f tabOk Tryd.func44 rfl (by decide) ?_
  rintro ⟨l, e⟩ hl
  have hl : l.length ≤ 1000000000 := hl
  refine ⟨Nat.le_refl _, by simp [Tryd.f44], fun E hE => ?_⟩
  refine vcOk _ ?_
  (all_goals refine qgo ?_ <;> (repeat' first | exact trivial | intro hc | refine And.intro ?_ ?_) <;> refine Lf.mk ?_)
  refine awp_loop (α := Nat) (fun k => k ≤ l.length ∧ idxQ e.name l 0 = idxQ e.name (l.drop k) k)
    (fun k => [(7, .int .i64 l.length), (8, .int .i64 k), (0, .sl 2 (l.map equD) none), (1, .fn n_expr_Eval_1 [.loc 0 0])])
    (fun _ => [.cells [.int .i64 e.kind, .int .i64 e.n, .str e.name, .sl 4 (e.kids.map exprD) none]]) (fun k => l.length - k) (fun _ => by simp [hE]) 0 ⟨Nat.zero_le _, by simp⟩ ?_ ?_
  · (repeat' (first | (refine VS.mk ?_) | exact trivial | exact rfl | refine And.intro ?_ ?_))
  rintro k ⟨hk, hf⟩
  refine vcOk _ ?_
  (all_goals refine qgo ?_ <;> (repeat' first | exact trivial | intro hc | refine And.intro ?_ ?_) <;> refine Lf.mk ?_)
  · obtain ⟨s, hsk⟩ := at_of_lt (l := l) (k := k) (by omega)
    have hkl : k < l.length := by omega
    have hget : l[k] = s := by rw [List.getElem?_eq_getElem hkl] at hsk; exact Option.some.inj hsk
    rw [List.drop_eq_getElem_cons hkl, hget, idxQ] at hf
    refine ix_map s (by omega) (by simpa using hsk) ?_
    (all_goals refine qgo ?_ <;> (repeat' first | exact trivial | intro hc | refine And.intro ?_ ?_) <;> refine Lf.mk ?_)
    refine call_f evclos_meets [0] [0] (s, e) trivial rfl rfl ?_
    refine And.intro (VS.mk (LeL.of_eq rfl)) (And.intro (VS.mk rfl) ?_)
    (all_goals refine qgo ?_ <;> (repeat' first | exact trivial | intro hc | refine And.intro ?_ ?_) <;> refine Lf.mk ?_)
    · rw [if_pos hc] at hf
      refine end_mk ?_
      (repeat' (first | (refine VS.mk ?_) | exact trivial | exact rfl | refine And.intro ?_ ?_))
      exact congrArg (D.int .i64) hf.symm
    · rw [if_neg hc] at hf
      refine loop_end (k + 1) ⟨by omega, hf⟩ (by omega) ?_
      (repeat' (first | (refine VS.mk ?_) | exact trivial | exact rfl | refine And.intro ?_ ?_))
  · rw [List.drop_of_length_le (by omega), idxQ] at hf
    refine end_mk ?_
    (repeat' (first | (refine VS.mk ?_) | exact trivial | exact rfl | refine And.intro ?_ ?_))
    exact congrArg (D.int .i64) hf.symm
end Go.Proofs.YtdhpodgaeholmaaDoor

/-
  A place is a place, and so much more: in plain words.
-/
namespace Go.Proofs.YtdhpodgaeholmaaDoor
open Go Go.Plat
set_option linter.unusedVariables false
set_option linter.unusedSimpArgs false
set_option maxRecDepth 100000
attribute [local irreducible] signedI

/-- what comes of an expression where a name is a place, and where it is a number -/
structure Mov (nm : List UInt8) (n : Int) (a b : OVal) : Prop where
  s32 : S32 a.n
  none : nm = [] → b.name = a.name
  hit : nm ≠ [] → a.name = nm → b = ⟨[], signedI (a.n + n) 32⟩
  miss : nm ≠ [] → a.name ≠ nm → b = a
theorem sgmod (x : Int) : signedI x 32 % 4294967296 = x % 4294967296 := by
  rw [signed_eq]; split <;> omega
theorem numV6 (a b : Int) : numV 6 a b = signedI (a + b) 32 := by unfold numV; rfl
theorem numV7 (a b : Int) : numV 7 a b = signedI (a - b) 32 := by unfold numV; rfl

theorem mov_two {nm : List UInt8} {n k : Int} {a b x y : OVal} (ha : Mov nm n a x) (hb : Mov nm n b y) (hok : (twoV k a b).2 = 0) : (twoV k x y).2 = 0 ∧ Mov nm n (twoV k a b).1 (twoV k x y).1 := by
  by_cases hn : nm = []
  · have e1 := ha.none hn
    have e2 := hb.none hn
    have key : ∀ c d : OVal, c.name = a.name → d.name = b.name → (twoV k c d).2 = 0 ∧ S32 (twoV k c d).1.n ∧ (twoV k c d).1.name = (twoV k a b).1.name := by
      intro c d hc hd
      unfold twoV at hok ⊢
      rw [hc, hd]
      split
      · exact ⟨rfl, (by dsimp only; exact numV_s32 _ _ _), rfl⟩
      split
      · exact ⟨rfl, (by dsimp only; exact numV_s32 _ _ _), rfl⟩
      split
      · exact ⟨rfl, (by dsimp only; exact numV_s32 _ _ _), rfl⟩
      split
      · exact ⟨rfl, (by dsimp only; exact numV_s32 _ _ _), rfl⟩
      · rename_i h1 h2 h3 h4
        rw [if_neg h1, if_neg h2, if_neg h3, if_neg h4] at hok
        exact absurd (show (8 : Int) = 0 from hok) (by decide)
    obtain ⟨k1, _, k3⟩ := key x y e1 e2
    exact ⟨k1, (key a b rfl rfl).2.1, fun _ => k3, fun h => (h hn).elim, fun h => (h hn).elim⟩
  · have mis : ∀ c z : OVal, Mov nm n c z → c.name = [] → z = c := fun c z h e => h.miss hn (by rw [e]; exact fun h => hn h.symm)
    by_cases ha0 : a.name = [] <;> by_cases hb0 : b.name = []
    · obtain rfl := mis a x ha ha0
      obtain rfl := mis b y hb hb0
      have e : twoV k x y = (⟨[], numV k x.n y.n⟩, 0) := by unfold twoV; rw [if_pos ⟨ha0, hb0⟩]
      rw [e]
      exact ⟨rfl, (by dsimp only; exact numV_s32 _ _ _), fun _ => rfl, fun _ h => (hn h.symm).elim, fun _ _ => rfl⟩
    · obtain rfl := mis a x ha ha0
      have hk : k = 6 := by
        refine Classical.byContradiction fun hk => ?_
        unfold twoV at hok
        rw [if_neg (fun h => hb0 h.2), if_neg (fun h => hk h.1), if_neg (fun h => hb0 h.2), if_neg (fun h : k = 7 ∧ x.name = b.name => hb0 (h.2 ▸ ha0))] at hok
        exact absurd (show (8 : Int) = 0 from hok) (by decide)
      subst hk
      have e : twoV 6 x b = (⟨b.name, numV 6 x.n b.n⟩, 0) := by
        unfold twoV; rw [if_neg (fun h => hb0 h.2), if_pos ⟨rfl, .inl ha0⟩, ha0]; rfl
      rw [e]
      by_cases hbn : b.name = nm
      · obtain rfl := hb.hit hn hbn
        have e2 : twoV 6 x ⟨[], signedI (b.n + n) 32⟩ = (⟨[], numV 6 x.n (signedI (b.n + n) 32)⟩, 0) := by unfold twoV; rw [if_pos ⟨ha0, rfl⟩]
        rw [e2]
        refine ⟨rfl, (by dsimp only; exact numV_s32 _ _ _), fun h => (hn h).elim, fun _ _ => ?_, fun _ h => (h hbn).elim⟩
        dsimp only
        rw [numV6, numV6]
        congr 1
        refine signed_cong ?_
        have h1 := sgmod (b.n + n)
        have h2 := sgmod (x.n + b.n)
        omega
      · obtain rfl := hb.miss hn hbn
        rw [e]
        exact ⟨rfl, (by dsimp only; exact numV_s32 _ _ _), fun h => (hn h).elim, fun _ h => (hbn h).elim, fun _ _ => rfl⟩
    · obtain rfl := mis b y hb hb0
      have hk : k = 6 ∨ k = 7 := by
        refine Classical.byContradiction fun hk => ?_
        unfold twoV at hok
        rw [if_neg (fun h => ha0 h.1), if_neg (fun h => hk (.inl h.1)), if_neg (fun h => hk (.inr h.1)), if_neg (fun h => hk (.inr h.1))] at hok
        exact absurd (show (8 : Int) = 0 from hok) (by decide)
      have e : ∀ c : OVal, c.name ≠ [] → twoV k c y = (⟨c.name, numV k c.n y.n⟩, 0) := fun c hc => by
        unfold twoV; rw [if_neg (fun h => hc h.1)]
        rcases hk with rfl | rfl
        · rw [if_pos ⟨rfl, .inr hb0⟩, hb0, List.append_nil]
        · rw [if_neg (fun h => absurd h.1 (by decide)), if_pos ⟨rfl, hb0⟩]
      rw [e a ha0]
      by_cases han : a.name = nm
      · obtain rfl := ha.hit hn han
        have e2 : twoV k ⟨[], signedI (a.n + n) 32⟩ y = (⟨[], numV k (signedI (a.n + n) 32) y.n⟩, 0) := by unfold twoV; rw [if_pos ⟨rfl, hb0⟩]
        rw [e2]
        refine ⟨rfl, (by dsimp only; exact numV_s32 _ _ _), fun h => (hn h).elim, fun _ _ => ?_, fun _ h => (h han).elim⟩
        dsimp only
        have h1 := sgmod (a.n + n)
        rcases hk with rfl | rfl
        · rw [numV6, numV6]
          have h2 := sgmod (a.n + y.n)
          congr 1
          refine signed_cong ?_
          omega
        · rw [numV7, numV7]
          have h2 := sgmod (a.n - y.n)
          congr 1
          refine signed_cong ?_
          omega
      · obtain rfl := ha.miss hn han
        rw [e x ha0]
        exact ⟨rfl, (by dsimp only; exact numV_s32 _ _ _), fun h => (hn h).elim, fun _ h => (han h).elim, fun _ _ => rfl⟩
    · have hk : k = 7 ∧ a.name = b.name := by
        refine Classical.byContradiction fun hk => ?_
        unfold twoV at hok
        rw [if_neg (fun h => ha0 h.1), if_neg (fun h => h.2.elim ha0 hb0), if_neg (fun h => hb0 h.2), if_neg hk] at hok
        exact absurd (show (8 : Int) = 0 from hok) (by decide)
      obtain ⟨rfl, hab⟩ := hk
      have e : twoV 7 a b = (⟨[], numV 7 a.n b.n⟩, 0) := by
        unfold twoV; rw [if_neg (fun h => ha0 h.1), if_neg (fun h => absurd h.1 (by decide)), if_neg (fun h => hb0 h.2), if_pos ⟨rfl, hab⟩]
      by_cases han : a.name = nm
      · obtain rfl := ha.hit hn han
        obtain rfl := hb.hit hn (hab ▸ han)
        have e2 : twoV 7 ⟨[], signedI (a.n + n) 32⟩ ⟨[], signedI (b.n + n) 32⟩ = (⟨[], numV 7 (signedI (a.n + n) 32) (signedI (b.n + n) 32)⟩, 0) := by unfold twoV; rw [if_pos ⟨rfl, rfl⟩]
        have e3 : numV 7 (signedI (a.n + n) 32) (signedI (b.n + n) 32) = numV 7 a.n b.n := by
          rw [numV7, numV7]
          have h1 := sgmod (a.n + n)
          have h2 := sgmod (b.n + n)
          refine signed_cong ?_
          omega
        rw [e, e2, e3]
        exact ⟨rfl, (by dsimp only; exact numV_s32 _ _ _), fun _ => rfl, fun _ h => (hn h.symm).elim, fun _ _ => rfl⟩
      · obtain rfl := ha.miss hn han
        obtain rfl := hb.miss hn (fun h => han (hab.trans h))
        rw [e]
        exact ⟨rfl, (by dsimp only; exact numV_s32 _ _ _), fun _ => rfl, fun _ h => (hn h.symm).elim, fun _ _ => rfl⟩

theorem mov_one {nm : List UInt8} {n k : Int} {a x : OVal} (ha : Mov nm n a x) (hk : k = 3 ∨ k = 4) (hok : a.name = []) : x.name = [] ∧ Mov nm n ⟨[], if k = 3 then signedI (-a.n) 32 else signedI (-a.n - 1) 32⟩ ⟨[], if k = 3 then signedI (-x.n) 32 else signedI (-x.n - 1) 32⟩ := by
  have hs : ∀ v : Int, S32 (if k = 3 then signedI (-v) 32 else signedI (-v - 1) 32) := fun v => by split <;> exact signed_s32 _
  by_cases hn : nm = []
  · have e := ha.none hn
    exact ⟨by rw [e, hok], hs _, fun _ => rfl, fun h => (h hn).elim, fun h => (h hn).elim⟩
  · obtain rfl := ha.miss hn (by rw [hok]; exact fun h => hn h.symm)
    exact ⟨hok, hs _, fun _ => rfl, fun _ h => (hn h.symm).elim, fun _ _ => rfl⟩

def MovL (nm : List UInt8) (n : Int) : List OVal → List OVal → Prop
  | [], [] => True
  | a :: av, b :: bv => Mov nm n a b ∧ MovL nm n av bv
  | _, _ => False
theorem mov_top {nm : List UInt8} {n k m : Int} {s : List UInt8} {vs us : List OVal} (h : MovL nm n vs us) (hok : (topV k m s vs []).2 = 0) :
    (topV k m s us [⟨nm, n⟩]).2 = 0 ∧ Mov nm n (topV k m s vs []).1 (topV k m s us [⟨nm, n⟩]).1 := by
  match vs, us, h with
  | [], [], _ =>
    unfold topV at hok ⊢
    by_cases h1 : k = 1
    · rw [if_pos ⟨h1, rfl⟩, if_pos ⟨h1, rfl⟩]
      exact ⟨rfl, signed_s32 _, fun _ => rfl, fun h e => (h e.symm).elim, fun _ _ => rfl⟩
    · rw [if_neg (fun h => h1 h.1)] at hok ⊢
      by_cases h2 : k = 2
      · rw [if_pos ⟨h2, rfl⟩] at hok ⊢
        rw [if_neg (fun h => h1 h.1), if_pos ⟨h2, rfl⟩, find_nil, find_cons, find_nil]
        by_cases h3 : nm = s
        · rw [if_pos h3]
          subst h3
          exact ⟨rfl, by show S32 0; exact ⟨by decide, by decide⟩, fun h => h.symm, fun _ _ => by rw [Int.zero_add], fun _ h => (h rfl).elim⟩
        · rw [if_neg h3]
          exact ⟨rfl, by show S32 0; exact ⟨by decide, by decide⟩, fun _ => rfl, fun _ h => (h3 h.symm).elim, fun _ _ => rfl⟩
      · rw [if_neg (fun h => h2 h.1)] at hok
        exact absurd (show (1 : Int) = 0 from hok) (by decide)
  | [a], [x], ⟨ha, _⟩ =>
    unfold topV at hok ⊢
    rw [if_neg (fun h => by cases h.2), if_neg (fun h => by cases h.2)] at hok ⊢
    rw [if_neg (fun h => by cases h.2), if_neg (fun h => by cases h.2)]
    dsimp only at hok ⊢
    by_cases hk : k = 3 ∨ k = 4
    · rw [if_pos hk] at hok ⊢
      rw [if_pos hk]
      by_cases h0 : a.name = []
      · obtain ⟨q1, q2⟩ := mov_one ha hk h0
        rw [if_pos h0, if_pos q1]
        by_cases h3 : k = 3
        · rw [if_pos h3, if_pos h3] at q2
          rw [if_pos h3, if_pos h3]
          exact ⟨rfl, q2⟩
        · rw [if_neg h3, if_neg h3] at q2
          rw [if_neg h3, if_neg h3]
          exact ⟨rfl, q2⟩
      · rw [if_neg h0] at hok
        exact absurd (show (8 : Int) = 0 from hok) (by decide)
    · rw [if_neg hk] at hok
      exact absurd (show (1 : Int) = 0 from hok) (by decide)
  | [a, b], [x, y], ⟨ha, hb, _⟩ =>
    unfold topV at hok ⊢
    rw [if_neg (fun h => by cases h.2), if_neg (fun h => by cases h.2)] at hok ⊢
    rw [if_neg (fun h => by cases h.2), if_neg (fun h => by cases h.2)]
    dsimp only at hok ⊢
    by_cases hk : 5 ≤ k ∧ k ≤ 11
    · rw [if_pos hk] at hok ⊢
      rw [if_pos hk]
      exact mov_two ha hb hok
    · rw [if_neg hk] at hok
      exact absurd (show (1 : Int) = 0 from hok) (by decide)
  | a :: b :: c :: r, x :: y :: z :: q, _ =>
    unfold topV at hok
    rw [if_neg (fun h => by cases h.2), if_neg (fun h => by cases h.2)] at hok
    exact absurd (show (1 : Int) = 0 from hok) (by decide)

mutual
theorem mov_eval {nm : List UInt8} {n : Int} : ∀ e : OExpr, (evalE [] e).2 = 0 → (evalE [⟨nm, n⟩] e).2 = 0 ∧ Mov nm n (evalE [] e).1 (evalE [⟨nm, n⟩] e).1
  | .mk k m s ks, h => by
    rw [evalE] at h ⊢
    rw [evalE]
    have hl := mov_evalL (nm := nm) (n := n) ks
    cases hv : evalL [] ks with
    | inl w =>
      rw [hv] at h
      dsimp only at h
      exact (evalL_ne hv h).elim
    | inr vs =>
      obtain ⟨us, h1, h2⟩ := hl vs hv
      rw [hv] at h
      rw [h1]
      exact mov_top h2 h
theorem mov_evalL {nm : List UInt8} {n : Int} : ∀ (es : List OExpr) (vs : List OVal), evalL [] es = .inr vs → ∃ us, evalL [⟨nm, n⟩] es = .inr us ∧ MovL nm n vs us
  | [], vs, h => by
    rw [evalL] at h
    cases h
    exact ⟨[], by rw [evalL], by unfold MovL; trivial⟩
  | e :: es, vs, h => by
    rw [evalL] at h
    split at h
    · rename_i h0
      have he := mov_eval (nm := nm) (n := n) e h0
      split at h
      · cases h
      · rename_i ws hw
        cases h
        obtain ⟨us, h1, h2⟩ := mov_evalL es ws hw
        refine ⟨(evalE [⟨nm, n⟩] e).1 :: us, ?_, he.2, h2⟩
        rw [evalL, if_pos he.1, h1]
    · cases h
theorem evalL_ne {l : List OEqu} {w : Int} : ∀ {es : List OExpr}, evalL l es = .inl w → w = 0 → False
  | [], h, _ => by rw [evalL] at h; cases h
  | e :: es, h, hw => by
    rw [evalL] at h
    split at h
    · split at h
      · rename_i hv
        cases h
        exact evalL_ne hv hw
      · cases h
    · rename_i h0
      cases h
      exact h0 hw
end
end Go.Proofs.YtdhpodgaeholmaaDoor

/-
  Print: an expression as a text.
-/
namespace Go.Proofs.YtdhpodgaeholmaaDoor
open Go Go.Plat
open Go Go.Plat
set_option linter.unusedVariables false
set_option linter.unusedSimpArgs false
set_option maxRecDepth 100000
set_option maxHeartbeats 2000000
attribute [local irreducible] NilS LookS NormM bitI BytesS NormL Arith QuoS RemS ShlS ShrS BitS CatS SplitS SideS IdxS CallS LoopEnd EndS ModeS DrawS AWP Meets
attribute [local irreducible] signedI exprD nodes OExpr.kind OExpr.n OExpr.name OExpr.kids letterB digitB kindB nameB

theorem itoa_meets : Meets Tryd.prog n_strconv_Itoa (SpecP (fun n : Int => -9223372036854775808 ≤ n ∧ n ≤ 9223372036854775807) (fun n => [.int .i64 n]) fun n => .str (Lib.itoa n)) := by
  refine meets_lib ⟨_, Tryd.func40, by decide, rfl⟩ ?_
  intro n hn w F hg vs hl hv
  match vs, hl with
  | [v], _ =>
    cases hv 0 _ v rfl rfl
    refine (Go.Proofs.Tryd.strconv_Itoa n hn.1 hn.2 w ?_).mono ?_
    · exact hg.tab (g := 3) (ns := (List.range 20).map (10 ^ ·)) (by kernel_rfl) (by kernel_rfl) (by rw [List.map_map]; rfl) (by decide)
    · rintro e w' ⟨rfl, k, os, rfl⟩
      exact ⟨_, rfl, .growD w k os, .str _⟩

def idxI (x : Int) : List Int → Nat → Int
  | [], _ => -1
  | s :: l, k => if x = s then k else idxI x l (k + 1)
theorem indexI_meets : Meets Tryd.prog n_slices_Index_int_int (SpecP (fun ((l, x) : List Int × Int) => l.length ≤ 1000000000) (fun (l, x) => [.sl 1 (l.map (.int .i64)) none, .int .i64 x]) fun (l, x) => .int .i64 (idxI x l 0)) := by
  refine meets_f tabOk Tryd.func42 rfl (by decide) ?_
  rintro ⟨l, x⟩ hl
  have hl : l.length ≤ 1000000000 := hl
  refine ⟨Nat.le_refl _, by simp [Tryd.f42], fun E hE => ?_⟩
  refine vcOk _ ?_
  (all_goals refine qgo ?_ <;> (repeat' first | exact trivial | intro hc | refine And.intro ?_ ?_) <;> refine Lf.mk ?_)
  refine awp_loop (α := Nat) (fun k => k ≤ l.length ∧ idxI x l 0 = idxI x (l.drop k) k)
    (fun k => [(7, .int .i64 l.length), (8, .int .i64 k), (0, .sl 1 (l.map (.int .i64)) none), (1, .int .i64 x)])
    (fun _ => []) (fun k => l.length - k) (fun _ => by simp [hE]) 0 ⟨Nat.zero_le _, by simp⟩ ?_ ?_
  · (repeat' (first | (refine VS.mk ?_) | exact trivial | exact rfl | refine And.intro ?_ ?_))
  rintro k ⟨hk, hf⟩
  refine vcOk _ ?_
  (all_goals refine qgo ?_ <;> (repeat' first | exact trivial | intro hc | refine And.intro ?_ ?_) <;> refine Lf.mk ?_)
  · obtain ⟨s, hsk⟩ := at_of_lt (l := l) (k := k) (by omega)
    have hkl : k < l.length := by omega
    have hget : l[k] = s := by rw [List.getElem?_eq_getElem hkl] at hsk; exact Option.some.inj hsk
    rw [List.drop_eq_getElem_cons hkl, hget, idxI] at hf
    refine ix_map s (by omega) (by simpa using hsk) ?_
    (all_goals refine qgo ?_ <;> (repeat' first | exact trivial | intro hc | refine And.intro ?_ ?_) <;> refine Lf.mk ?_)
    · rw [if_pos hc] at hf
      exact end_p (VS.mk (LeD.of_eq (congrArg (D.int .i64) hf.symm)))
    · rw [if_neg hc] at hf
      refine loop_end (k + 1) ⟨by omega, hf⟩ (by omega) ?_
      (repeat' (first | (refine VS.mk ?_) | exact trivial | exact rfl | refine And.intro ?_ ?_))
  · rw [List.drop_of_length_le (by omega), idxI] at hf
    exact end_p (VS.mk (LeD.of_eq (congrArg (D.int .i64) hf.symm)))

def sgnP (k : Int) : List UInt8 := if k = 5 then [42] else if k = 6 then [43] else if k = 7 then [45] else if k = 8 then [60, 60] else if k = 9 then [62, 62] else if k = 10 then [38] else [124]
theorem sgn_at {K : Int} : ∀ {k : Nat}, k < 5 → 0 ≤ idxI K (kinds k) 0 → (5 ≤ K ∧ K ≤ 11) ∧ (signs k)[(idxI K (kinds k) 0).toNat]? = some (sgnP K)
  | 0, _, h | 1, _, h | 2, _, h | 3, _, h | 4, _, h => by
    simp only [kinds, idxI] at h ⊢
    repeat' first | split at h | (subst_vars; exact ⟨by decide, rfl⟩) | omega
theorem sgn_has {K : Int} (h : 5 ≤ K ∧ K ≤ 11) (hn : ∀ j, j < 5 → idxI K (kinds j) 0 < 0) : False := by
  have h0 := hn 0 (by decide)
  have h1 := hn 1 (by decide)
  have h2 := hn 2 (by decide)
  have h3 := hn 3 (by decide)
  have h4 := hn 4 (by decide)
  simp only [kinds, idxI] at h0 h1 h2 h3 h4
  repeat' first | omega | split at h0 | split at h1 | split at h2 | split at h3 | split at h4

def topP (k n : Int) (s : List UInt8) (l : List (List UInt8)) : List UInt8 :=
  if k = 1 then Lib.itoa (n % 4294967296) else if k = 2 then s else match l with
  | [a] => if k = 3 then [45, 32] ++ a else if k = 4 then [126, 32] ++ a else []
  | [a, b] => if 5 ≤ k ∧ k ≤ 11 then [40, 32] ++ a ++ [32] ++ sgnP k ++ [32] ++ b ++ [32, 41] else []
  | _ => []
mutual
def printE : OExpr → List UInt8
  | .mk k n s ks => topP k n s (printEs ks)
def printEs : List OExpr → List (List UInt8)
  | [] => []
  | e :: es => printE e :: printEs es
end
theorem printE_eq (e : OExpr) : printE e = topP e.kind e.n e.name (e.kids.map printE) := by
  have hs : ∀ l : List OExpr, printEs l = l.map printE := fun l => by
    induction l with
    | nil => rw [printEs]; rfl
    | cons a l ih => rw [printEs, ih]; rfl
  cases e with
  | mk k n s ks => rw [printE, hs, mk_kind, mk_n, mk_name, mk_kids]
theorem digits_small {u : Nat} (h : u < 4294967296) : (Lib.decDigits u).length ≤ 10 := by
  rw [Lib.decDigits_length]
  have key : ∀ k v : Nat, v < 10 ^ k → 1 ≤ k → Lib.nDigits v ≤ k := fun k => by
    induction k with
    | zero => intro v h1 h2; omega
    | succ k ih =>
      intro v h1 h2
      by_cases hv : v < 10
      · rw [Lib.nDigits_small hv]; omega
      · rw [Lib.nDigits_big hv]
        rw [Nat.pow_succ] at h1
        by_cases hk : k = 0
        · subst hk; omega
        · have := ih (v / 10) (by omega) (by omega); omega
  exact key 10 u (by omega) (by decide)
theorem itoa_len (n : Int) : (Lib.itoa (n % 4294967296)).length ≤ 10 := by
  unfold Lib.itoa
  rw [if_neg (by omega)]
  exact digits_small (by omega)
theorem sgn_len (k : Int) : (sgnP k).length ≤ 2 := by unfold sgnP; repeat' split
                                                      all_goals decide
theorem print_len : ∀ (n : Nat) (e : OExpr), nodes e ≤ n → (printE e).length ≤ 16 * nodes e
  | 0, e, h => by have := nodes_pos e; omega
  | n + 1, .mk k m s ks, h => by
    rw [nodes] at h ⊢
    rw [printE_eq, mk_kind, mk_n, mk_name, mk_kids]
    unfold topP
    have h1 := itoa_len m
    have h2 := sgn_len k
    split
    · omega
    split
    · omega
    match ks with
    | [] => simp
    | [a] =>
      rw [nodesL, nodesL] at h ⊢
      have ha := print_len n a (by omega)
      simp only [List.map_cons, List.map_nil]
      split
      · simp only [List.length_append, List.length_cons, List.length_nil]; omega
      split
      · simp only [List.length_append, List.length_cons, List.length_nil]; omega
      · simp
    | [a, b] =>
      rw [nodesL, nodesL, nodesL] at h ⊢
      have ha := print_len n a (by omega)
      have hb := print_len n b (by omega)
      simp only [List.map_cons, List.map_nil]
      split
      · simp only [List.length_append, List.length_cons, List.length_nil]; omega
      · simp
    | a :: b :: c :: r => simp

theorem top_no {k n : Int} {s : List UInt8} {l : List (List UInt8)} (h1 : k ≠ 1) (h2 : k ≠ 2) (h3 : l.length = 1 → k ≠ 3 ∧ k ≠ 4) (h4 : l.length = 2 → ¬ (5 ≤ k ∧ k ≤ 11)) : topP k n s l = [] := by
  unfold topP
  rw [if_neg h1, if_neg h2]
  split
  · rw [if_neg (h3 rfl).1, if_neg (h3 rfl).2]
  · rw [if_neg (h4 rfl)]
  · rfl
theorem kinds_len (k : Nat) : (kinds k).length ≤ 1000000000 := by unfold kinds; split <;> decide
theorem print_meets : ∀ n : Nat, Meets Tryd.prog n_expr_Print (SpecP (fun e : OExpr => nodes e ≤ n ∧ nodes e ≤ 4194304) (fun e => [exprU e]) fun e => .str (printE e))
  | 0 => by
    refine meets_f tabOk Tryd.func12 rfl (by decide) fun e h => ?_
    have := nodes_pos e
    omega
  | n + 1 => by
    have ih := print_meets n
    refine meets_f tabOk Tryd.func12 rfl (by decide) ?_
    rintro e ⟨hn, hN⟩
    have hkl := kids_len e
    have hnl := name_len e
    refine ⟨Nat.le_refl _, by simp [Tryd.f12], fun E hE => ?_⟩
    have hP := printE_eq e
    have hone : ∀ a, e.kids = [a] → printE e = topP e.kind e.n e.name [printE a] := fun a h => by rw [hP, h]; rfl
    have htwo : ∀ a b, e.kids = [a, b] → printE e = topP e.kind e.n e.name [printE a, printE b] := fun a b h => by rw [hP, h]; rfl
    refine vcOk _ ?_
    (all_goals refine qgp ?_ <;> (repeat' first | exact trivial | intro hc | refine And.intro ?_ ?_) <;> refine Lf.mk ?_)
    · refine bit_mk and_32 ?_
      (all_goals refine qgp ?_ <;> (repeat' first | exact trivial | intro hc | refine And.intro ?_ ?_) <;> refine Lf.mk ?_)
      refine call_p itoa_meets (e.n % 4294967296) ⟨by omega, by omega⟩ (VS.mk (LeL.of_eq rfl)) ?_
      (all_goals refine qgp ?_ <;> (repeat' first | exact trivial | intro hc | refine And.intro ?_ ?_) <;> refine Lf.mk ?_)
      exact end_p (VS.mk (LeD.of_eq (congrArg D.str (by rw [hP]; unfold topP; rw [if_pos hc]))))
    · exact end_p (VS.mk (LeD.of_eq (congrArg D.str (by rw [hP]; unfold topP; rw [if_neg (by assumption), if_pos hc]))))
    · obtain ⟨a, ha⟩ := len_one (l := e.kids) (by omega)
      have hax := nodes_kid (e := e) (x := a) (by rw [ha]; exact List.mem_singleton.2 rfl)
      have hl := print_len (nodes a) a (Nat.le_refl _)
      refine ix_expr a (by omega) (by rw [ha]; rfl) ?_
      (all_goals refine qgp ?_ <;> (repeat' first | exact trivial | intro hc | refine And.intro ?_ ?_) <;> refine Lf.mk ?_)
      refine call_p ih a ⟨by omega, by omega⟩ (VS.mk (LeL.of_eq rfl)) ?_
      (all_goals refine qgp ?_ <;> (repeat' first | exact trivial | intro hc | refine And.intro ?_ ?_) <;> refine Lf.mk ?_)
      refine cat_mk (by simp only [List.length_cons, List.length_nil]; omega) ?_
      (all_goals refine qgp ?_ <;> (repeat' first | exact trivial | intro hc | refine And.intro ?_ ?_) <;> refine Lf.mk ?_)
      exact end_p (VS.mk (LeD.of_eq (congrArg D.str (by rw [hone a ha]; unfold topP; rw [if_neg (by omega), if_neg (by omega)]; dsimp only; rw [if_pos (by omega)]))))
    · obtain ⟨a, ha⟩ := len_one (l := e.kids) (by omega)
      have hax := nodes_kid (e := e) (x := a) (by rw [ha]; exact List.mem_singleton.2 rfl)
      have hl := print_len (nodes a) a (Nat.le_refl _)
      refine ix_expr a (by omega) (by rw [ha]; rfl) ?_
      (all_goals refine qgp ?_ <;> (repeat' first | exact trivial | intro hc | refine And.intro ?_ ?_) <;> refine Lf.mk ?_)
      refine call_p ih a ⟨by omega, by omega⟩ (VS.mk (LeL.of_eq rfl)) ?_
      (all_goals refine qgp ?_ <;> (repeat' first | exact trivial | intro hc | refine And.intro ?_ ?_) <;> refine Lf.mk ?_)
      refine cat_mk (by simp only [List.length_cons, List.length_nil]; omega) ?_
      (all_goals refine qgp ?_ <;> (repeat' first | exact trivial | intro hc | refine And.intro ?_ ?_) <;> refine Lf.mk ?_)
      exact end_p (VS.mk (LeD.of_eq (congrArg D.str (by rw [hone a ha]; unfold topP; rw [if_neg (by omega), if_neg (by omega)]; dsimp only; rw [if_neg (by omega), if_pos (by omega)]))))
    any_goals (exact end_p (VS.mk (LeD.of_eq (congrArg D.str (by rw [hP, top_no (by assumption) (by assumption) (by rw [List.length_map]; omega) (by rw [List.length_map]; omega)])))))
    refine call_p levels_meets () trivial (VS.mk (LeL.of_eq rfl)) ?_
    (all_goals refine qgp ?_ <;> (repeat' first | exact trivial | intro hc | refine And.intro ?_ ?_) <;> refine Lf.mk ?_)
    obtain ⟨a, b, hab⟩ := len_two (l := e.kids) (by omega)
    have hax := nodes_kid (e := e) (x := a) (by rw [hab]; exact List.mem_cons_self)
    have hbx := nodes_kid (e := e) (x := b) (by rw [hab]; exact List.mem_cons_of_mem _ List.mem_cons_self)
    have hla := print_len (nodes a) a (Nat.le_refl _)
    have hlb := print_len (nodes b) b (Nat.le_refl _)
    refine awp_loop (α := Nat) (fun k => k ≤ 5 ∧ ∀ j, j < k → idxI e.kind (kinds j) 0 < 0)
      (fun k => [(57, levsD), (58, .int .i64 5), (59, .int .i64 k), (1, .loc 0 0)])
      (fun _ => [.cells [.int .i64 e.kind, .int .i64 e.n, .str e.name, .sl 4 (e.kids.map exprD) none]]) (fun k => 5 - k) (fun _ => by simp [hE]) 0 ⟨Nat.zero_le _, fun j h => absurd h (Nat.not_lt_zero j)⟩ ?_ ?_
    · (repeat' (first | (refine VS.mk ?_) | exact trivial | exact rfl | refine And.intro ?_ ?_))
    rintro k ⟨hk, hf⟩
    refine vcOk _ ?_
    (all_goals refine qgp ?_ <;> (repeat' first | exact trivial | intro hc | refine And.intro ?_ ?_) <;> refine Lf.mk ?_)
    · refine ix_lev (by omega) ?_
      (all_goals refine qgp ?_ <;> (repeat' first | exact trivial | intro hc | refine And.intro ?_ ?_) <;> refine Lf.mk ?_)
      refine call_p indexI_meets (kinds k, e.kind) (kinds_len k) (VS.mk (LeL.of_eq rfl)) ?_
      (all_goals refine qgpn ?_ <;> (repeat' first | exact trivial | intro hc | refine And.intro ?_ ?_) <;> refine Lf.mk ?_)
      · have hs := sgn_at (by omega) hc
        have hsl := sgn_len e.kind
        refine dr_mk ?_
        (all_goals refine qgp ?_ <;> (repeat' first | exact trivial | intro hc | refine And.intro ?_ ?_) <;> refine Lf.mk ?_)
        refine ix_expr a (by omega) (by rw [hab]; rfl) ?_
        (all_goals refine qgp ?_ <;> (repeat' first | exact trivial | intro hc | refine And.intro ?_ ?_) <;> refine Lf.mk ?_)
        refine call_p ih a ⟨by omega, by omega⟩ (VS.mk (LeL.of_eq rfl)) ?_
        (all_goals refine qgp ?_ <;> (repeat' first | exact trivial | intro hc | refine And.intro ?_ ?_) <;> refine Lf.mk ?_)
        refine cat_mk (by simp only [List.length_cons, List.length_nil]; omega) ?_
        (all_goals refine qgp ?_ <;> (repeat' first | exact trivial | intro hc | refine And.intro ?_ ?_) <;> refine Lf.mk ?_)
        refine cat_mk (by simp only [List.length_append, List.length_cons, List.length_nil]; omega) ?_
        (all_goals refine qgp ?_ <;> (repeat' first | exact trivial | intro hc | refine And.intro ?_ ?_) <;> refine Lf.mk ?_)
        refine ix_map (sgnP e.kind) hc hs.2 ?_
        (all_goals refine qgp ?_ <;> (repeat' first | exact trivial | intro hc | refine And.intro ?_ ?_) <;> refine Lf.mk ?_)
        refine cat_mk (by simp only [List.length_append, List.length_cons, List.length_nil]; omega) ?_
        (all_goals refine qgp ?_ <;> (repeat' first | exact trivial | intro hc | refine And.intro ?_ ?_) <;> refine Lf.mk ?_)
        refine cat_mk (by simp only [List.length_append, List.length_cons, List.length_nil]; omega) ?_
        (all_goals refine qgp ?_ <;> (repeat' first | exact trivial | intro hc | refine And.intro ?_ ?_) <;> refine Lf.mk ?_)
        refine ix_expr b (by omega) (by rw [hab]; rfl) ?_
        (all_goals refine qgp ?_ <;> (repeat' first | exact trivial | intro hc | refine And.intro ?_ ?_) <;> refine Lf.mk ?_)
        refine call_p ih b ⟨by omega, by omega⟩ (VS.mk (LeL.of_eq rfl)) ?_
        (all_goals refine qgp ?_ <;> (repeat' first | exact trivial | intro hc | refine And.intro ?_ ?_) <;> refine Lf.mk ?_)
        refine cat_mk (by simp only [List.length_append, List.length_cons, List.length_nil]; omega) ?_
        (all_goals refine qgp ?_ <;> (repeat' first | exact trivial | intro hc | refine And.intro ?_ ?_) <;> refine Lf.mk ?_)
        refine cat_mk (by simp only [List.length_append, List.length_cons, List.length_nil]; omega) ?_
        (all_goals refine qgp ?_ <;> (repeat' first | exact trivial | intro hc | refine And.intro ?_ ?_) <;> refine Lf.mk ?_)
        exact end_p (VS.mk (LeD.of_eq (congrArg D.str (by rw [htwo a b hab]; unfold topP; rw [if_neg (by omega), if_neg (by omega)]; dsimp only; rw [if_pos hs.1]))))
      · have hf1 : ∀ j, j < k + 1 → idxI e.kind (kinds j) 0 < 0 := fun j hj => by
          by_cases h : j = k
          · subst h; omega
          · exact hf j (by omega)
        refine loop_end (k + 1) ⟨by omega, hf1⟩ (by omega) ?_
        (repeat' (first | (refine VS.mk ?_) | exact trivial | exact rfl | refine And.intro ?_ ?_))
    · exact end_p (VS.mk (LeD.of_eq (congrArg D.str (by rw [htwo a b hab, top_no (by assumption) (by assumption) (fun h => by cases h) (fun _ h => sgn_has h fun j hj => hf j (by omega))]))))
end Go.Proofs.YtdhpodgaeholmaaDoor

namespace Go.Proofs.YtdhpodgaeholmaaDoor
open Go Go.Plat
set_option linter.unusedVariables false
set_option linter.unusedSimpArgs false
set_option maxRecDepth 100000
set_option maxHeartbeats 2000000
attribute [local irreducible] NilS LookS NormM bitI BytesS NormL Arith QuoS RemS ShlS ShrS BitS CatS SplitS SideS IdxS CallS LoopEnd EndS ModeS DrawS AWP Meets
attribute [local irreducible] exprD nodes OExpr.kind OExpr.n OExpr.name OExpr.kids signedI numV evalE evalL twoV findQ idxQ
theorem no_vres {w : Int} {x : OVal × Int} (h : x = (noVal, w)) : LeD (.tup [.agg [.str [], .int .i64 0], .int .i64 w]) (vresD x) := by subst h; exact .refl _

theorem eval_meets (l : List OEqu) (hl : l.length ≤ 1000000000) : ∀ n : Nat, Meets Tryd.prog n_expr_Eval (SpecP (fun e : OExpr => nodes e ≤ n ∧ nodes e ≤ 4194304) (fun e => [exprU e, .sl 2 (l.map equD) none]) fun e => vresD (evalE l e))
  | 0 => by
    refine meets_f tabOk Tryd.func13 rfl (by decide) fun e h => ?_
    have := nodes_pos e
    omega
  | n + 1 => by
    have ih := eval_meets l hl n
    refine meets_f tabOk Tryd.func13 rfl (by decide) ?_
    rintro e ⟨hn, hN⟩
    have hkl := kids_len e
    have hnl := name_len e
    refine ⟨Nat.le_refl _, by simp [Tryd.f13], fun E hE => ?_⟩
    refine vcOk _ ?_
    (all_goals refine qgo ?_ <;> (repeat' first | exact trivial | intro hc | refine And.intro ?_ ?_) <;> refine Lf.mk ?_)
    refine awp_weak (weak_nil 6 2 rfl) ?_
    generalize hEV : evalL l e.kids = EV at *
    have hev0 : evA l [] e.kids = EV := by rw [evA_all, hEV]
    refine awp_loop (α := Nat × List OVal) (fun p => p.1 ≤ e.kids.length ∧ evA l p.2 (e.kids.drop p.1) = EV ∧ p.2.length = p.1 ∧ (∀ v ∈ p.2, S32 v.n) ∧ nsum p.2 ≤ p.1 * 4194304)
      (fun p => [(13, .sl 4 (e.kids.map exprD) none), (14, .int .i64 e.kids.length), (15, .int .i64 p.1), (1, .sl 2 (l.map equD) none), (2, .loc 0 0), (4, .loc 1 0), (6, .sl 2 (p.2.map valD) (some 2))])
      (fun p => [.cells [.int .i64 e.kind, .int .i64 e.n, .str e.name, .sl 4 (e.kids.map exprD) none], .cells [.str [], .int .i64 0], .spare p.2.length]) (fun p => e.kids.length - p.1) (fun _ => by simp [hE]) (0, []) ⟨Nat.zero_le _, by simpa using hev0, rfl, by simp, by simp [nsum]⟩ ?_ ?_
    · (repeat' (first | (refine VS.mk ?_) | exact trivial | exact rfl | refine And.intro ?_ ?_))
    rintro ⟨k, vs⟩ ⟨hk, hev, hvl, hvs, hns⟩
    dsimp only at hk hev hvl hvs hns ⊢
    refine vcOk _ ?_
    (all_goals refine qgo ?_ <;> (repeat' first | exact trivial | intro hc | refine And.intro ?_ ?_) <;> refine Lf.mk ?_)
    · obtain ⟨x, hx⟩ := at_of_lt (l := e.kids) (k := k) (by omega)
      have hxm := List.mem_of_getElem? hx
      have hxn := nodes_kid hxm
      have hok := eval_ok l x
      have hkl3 : k < e.kids.length := by omega
      have hget : e.kids[k] = x := by rw [List.getElem?_eq_getElem hkl3] at hx; exact Option.some.inj hx
      rw [List.drop_eq_getElem_cons hkl3, hget, evA_cons] at hev
      refine ix_expr x (by omega) (by simpa using hx) ?_
      (all_goals refine qgo ?_ <;> (repeat' first | exact trivial | intro hc | refine And.intro ?_ ?_) <;> refine Lf.mk ?_)
      refine call_p ih x ⟨by omega, by omega⟩ (VS.mk (LeL.of_eq rfl)) ?_
      (all_goals refine qgo ?_ <;> (repeat' first | exact trivial | intro hc | refine And.intro ?_ ?_) <;> refine Lf.mk ?_)
      · rw [if_neg hc] at hev
        subst hev
        exact end_p (VS.mk (no_vres (by rw [evalE_eq, hEV])))
      · rw [if_pos hc] at hev
        have hl1 := hok.len
        refine loop_end (k + 1, vs ++ [(evalE l x).1]) ⟨by (dsimp only; omega), hev, by (dsimp only; rw [List.length_append, hvl]; rfl), fun v hv => ?_, by (dsimp only; rw [nsum_app]; omega)⟩ (by dsimp only; omega) ?_
        · (repeat' (first | (refine VS.mk ?_) | exact trivial | exact rfl | refine And.intro ?_ ?_))
          · simp [valD]
          · simp [valD]
        · rcases List.mem_append.1 hv with h | h
          · exact hvs v h
          · rw [List.mem_singleton.1 h]; exact hok.s32
    all_goals
      rw [List.drop_of_length_le (by omega), evA_nil] at hev
      subst hev
      have hT : evalE l e = topV e.kind e.n e.name vs l := by rw [evalE_eq, hEV]
    any_goals (first | (exfalso; omega) | exact end_p (VS.mk (no_vres (by rw [hT, top_bad (by omega) (by omega) (by omega)]))) | skip)
    · refine call_p signed_meets2 e.n trivial (VS.mk (LeL.of_eq rfl)) ?_
      (all_goals refine qgo ?_ <;> (repeat' first | exact trivial | intro hc | refine And.intro ?_ ?_) <;> refine Lf.mk ?_)
      refine end_p (VS.mk (LeD.of_eq ?_))
      rw [hT, top_num (by omega) (by omega)]
      rfl
    · refine call_f evindex_meets [0] [0] (l, e) hl rfl rfl ?_
      refine And.intro (VS.mk (LeL.of_eq rfl)) (And.intro (VS.mk rfl) ?_)
      rcases idxQ_spec e.name l 0 with ⟨h1, h2⟩ | ⟨i, s, h1, h2, h3⟩
      · dsimp only
        rw [h2]
        (all_goals refine qgo ?_ <;> (repeat' first | exact trivial | intro hc | refine And.intro ?_ ?_) <;> refine Lf.mk ?_)
        · exfalso; omega
        · refine end_p (VS.mk (LeD.of_eq ?_))
          rw [hT, top_name (by omega) (by omega), h1]
          rfl
      · have hil : i < l.length := (List.getElem?_eq_some_iff.1 h1).1
        rw [Nat.zero_add] at h2
        dsimp only
        rw [h2]
        (all_goals refine qgo ?_ <;> (repeat' first | exact trivial | intro hc | refine And.intro ?_ ?_) <;> refine Lf.mk ?_)
        · refine ix_map s (by omega) (by simpa using h1) ?_
          (all_goals refine qgo ?_ <;> (repeat' first | exact trivial | intro hc | refine And.intro ?_ ?_) <;> refine Lf.mk ?_)
          refine call_p signed_meets2 s.n trivial (VS.mk (LeL.of_eq rfl)) ?_
          (all_goals refine qgo ?_ <;> (repeat' first | exact trivial | intro hc | refine And.intro ?_ ?_) <;> refine Lf.mk ?_)
          refine end_p (VS.mk (LeD.of_eq ?_))
          rw [hT, top_name (by omega) (by omega), h3]
          rfl
        · exfalso; omega
    · obtain ⟨v, hv1⟩ := len_one (l := vs) (by omega)
      subst hv1
      obtain ⟨s1, s2⟩ := hvs v (by simp)
      (all_goals refine qgo ?_ <;> (repeat' first | exact trivial | intro hc | refine And.intro ?_ ?_) <;> refine Lf.mk ?_)
      · exact end_p (VS.mk (no_vres (by rw [hT, top_one (by omega), if_neg (by assumption)])))
      · refine call_p signed_meets2 (-v.n) trivial (VS.mk (LeL.of_eq (by rw [Int.zero_sub]))) ?_
        (all_goals refine qgo ?_ <;> (repeat' first | exact trivial | intro hc | refine And.intro ?_ ?_) <;> refine Lf.mk ?_)
        refine end_p (VS.mk (LeD.of_eq ?_))
        rw [hT, top_one (by omega), if_pos (by assumption), if_pos (by assumption)]
        rfl
      · exfalso; omega
    · obtain ⟨v, hv1⟩ := len_one (l := vs) (by omega)
      subst hv1
      obtain ⟨s1, s2⟩ := hvs v (by simp)
      (all_goals refine qgo ?_ <;> (repeat' first | exact trivial | intro hc | refine And.intro ?_ ?_) <;> refine Lf.mk ?_)
      · exact end_p (VS.mk (no_vres (by rw [hT, top_one (by omega), if_neg (by assumption)])))
      · exfalso; omega
      · refine bit_mk (not_i64 (by omega) (by omega)) ?_
        (all_goals refine qgo ?_ <;> (repeat' first | exact trivial | intro hc | refine And.intro ?_ ?_) <;> refine Lf.mk ?_)
        refine call_p signed_meets2 (-v.n - 1) trivial (VS.mk (LeL.of_eq rfl)) ?_
        (all_goals refine qgo ?_ <;> (repeat' first | exact trivial | intro hc | refine And.intro ?_ ?_) <;> refine Lf.mk ?_)
        refine end_p (VS.mk (LeD.of_eq ?_))
        rw [hT, top_one (by omega), if_pos (by assumption), if_neg (by omega)]
        rfl
    · obtain ⟨a, b, hab⟩ := len_two (l := vs) (by omega)
      subst hab
      have sa := hvs a (by simp)
      have sb := hvs b (by simp)
      simp only [nsum] at hns
      (all_goals refine qgo ?_ <;> (repeat' first | exact trivial | intro hc | refine And.intro ?_ ?_) <;> refine Lf.mk ?_)
      refine call_p two_meets (e.kind, a, b) ⟨sa, sb, by omega, by omega⟩ (VS.mk (LeL.of_eq rfl)) ?_
      (all_goals refine qgo ?_ <;> (repeat' first | exact trivial | intro hc | refine And.intro ?_ ?_) <;> refine Lf.mk ?_)
      refine end_p (VS.mk (LeD.of_eq ?_))
      rw [hT, top_two (by omega)]
      rfl
end Go.Proofs.YtdhpodgaeholmaaDoor

namespace Go.Proofs.YtdhpodgaeholmaaDoor
open Go Go.Plat
set_option linter.unusedVariables false
set_option linter.unusedSimpArgs false
set_option maxRecDepth 100000
set_option maxHeartbeats 2000000
theorem wrapS_i32 (n : Int) : IntKind.i32.wrap n = signedI n 32 := by
  have : signedI n 32 = if n % 4294967296 / 2147483648 = 1 then n % 4294967296 - 4294967296 else n % 4294967296 := rfl
  rw [this]
  have hm := Int.emod_nonneg n (show (4294967296 : Int) ≠ 0 by decide)
  have hm2 := Int.emod_lt_of_pos n (show (0 : Int) < 4294967296 by decide)
  have e : IntKind.i32.wrap n = if n % 4294967296 ≥ 2147483648 then n % 4294967296 - 4294967296 else n % 4294967296 := by
    simp only [IntKind.wrap, IntKind.signed, IntKind.bits, show (2 : Int) ^ 32 = 4294967296 from rfl, show (2 : Int) ^ (32 - 1) = 2147483648 from rfl, Bool.true_and, decide_eq_true_eq]
  rw [e]
  split <;> split <;> omega
theorem wrapS_u32 (n : Int) : IntKind.u32.wrap n = n % 4294967296 := by
  simp [IntKind.wrap, IntKind.signed, IntKind.bits]
theorem ar_i32 {n : Int} {K : D → Prop} (h : K (.int .i32 (signedI n 32))) : Arith .i32 n K := by unfold Arith; rw [wrapS_i32]; exact h
theorem ar_u32 {n : Int} {K : D → Prop} (h : K (.int .u32 (n % 4294967296))) : Arith .u32 n K := by unfold Arith; rw [wrapS_u32]; exact h
theorem sig_bd (n : Int) : -2147483648 ≤ signedI n 32 ∧ signedI n 32 ≤ 2147483647 := by
  have : signedI n 32 = if n % 4294967296 / 2147483648 = 1 then n % 4294967296 - 4294967296 else n % 4294967296 := rfl
  rw [this]
  split <;> omega
theorem sig_cong {m n : Int} (h : m % 4294967296 = n % 4294967296) : signedI m 32 = signedI n 32 := by
  have : ∀ n, signedI n 32 = if n % 4294967296 / 2147483648 = 1 then n % 4294967296 - 4294967296 else n % 4294967296 := fun _ => rfl
  rw [this, this, h]
theorem sig_mod (n : Int) : signedI n 32 % 4294967296 = n % 4294967296 := by
  have : signedI n 32 = if n % 4294967296 / 2147483648 = 1 then n % 4294967296 - 4294967296 else n % 4294967296 := rfl
  rw [this]
  split <;> omega
theorem ar_sig {n : Int} {K : D → Prop} (h : K (.int .i64 (signedI n 32))) : Arith .i64 (signedI n 32) K := by
  have := sig_bd n
  exact ar_i64 (by omega) (by omega) h
theorem ofInt_mod (n : Int) : (BitVec.ofInt 64 n).toNat % 4294967296 = (BitVec.ofInt 32 n).toNat := by
  have h1 := toNat_ofInt n
  have h2 : ((BitVec.ofInt 32 n).toNat : Int) = n % 4294967296 := by
    rw [BitVec.toNat_ofInt]
    have : (0 : Int) ≤ n % ((2 ^ 32 : Nat) : Int) := Int.emod_nonneg _ (by decide)
    rw [Int.toNat_of_nonneg this]
    rfl
  omega
theorem wrap64_mod (m : Int) : IntKind.i64.wrap m % 4294967296 = m % 4294967296 := by
  unfold IntKind.wrap
  simp only [IntKind.bits, IntKind.signed, show (2 : Int) ^ 64 = 18446744073709551616 from rfl, Bool.true_and, decide_eq_true_eq]
  split <;> omega
theorem mod_and (x y : Nat) : (x &&& y) % 4294967296 = (x % 4294967296) &&& (y % 4294967296) := by
  have := Nat.and_mod_two_pow (a := x) (b := y) (n := 32)
  simpa using this
theorem mod_or (x y : Nat) : (x ||| y) % 4294967296 = (x % 4294967296) ||| (y % 4294967296) := by
  have := Nat.or_mod_two_pow (a := x) (b := y) (n := 32)
  simpa using this
theorem and32 (a b : Int) : bitI .and .i32 a b = signedI (bitI .and .i64 a b) 32 := by
  unfold bitI
  rw [wrapS_i32]
  refine sig_cong ?_
  rw [wrap64_mod]
  have e : ((BitVec.ofInt 64 a &&& BitVec.ofInt 64 b).toNat) % 4294967296 = (BitVec.ofInt 32 a &&& BitVec.ofInt 32 b).toNat := by
    rw [BitVec.toNat_and, BitVec.toNat_and, mod_and, ofInt_mod, ofInt_mod]
  have h2 : (BitVec.ofInt 32 a &&& BitVec.ofInt 32 b).toNat < 4294967296 := (BitVec.ofInt 32 a &&& BitVec.ofInt 32 b).isLt
  show (((BitVec.ofInt 32 a &&& BitVec.ofInt 32 b).toNat : Nat) : Int) % 4294967296 = (((BitVec.ofInt 64 a &&& BitVec.ofInt 64 b).toNat : Nat) : Int) % 4294967296
  omega
theorem or32 (a b : Int) : bitI .or .i32 a b = signedI (bitI .or .i64 a b) 32 := by
  unfold bitI
  rw [wrapS_i32]
  refine sig_cong ?_
  rw [wrap64_mod]
  have e : ((BitVec.ofInt 64 a ||| BitVec.ofInt 64 b).toNat) % 4294967296 = (BitVec.ofInt 32 a ||| BitVec.ofInt 32 b).toNat := by
    rw [BitVec.toNat_or, BitVec.toNat_or, mod_or, ofInt_mod, ofInt_mod]
  have h2 : (BitVec.ofInt 32 a ||| BitVec.ofInt 32 b).toNat < 4294967296 := (BitVec.ofInt 32 a ||| BitVec.ofInt 32 b).isLt
  show (((BitVec.ofInt 32 a ||| BitVec.ofInt 32 b).toNat : Nat) : Int) % 4294967296 = (((BitVec.ofInt 64 a ||| BitVec.ofInt 64 b).toNat : Nat) : Int) % 4294967296
  omega
theorem left32 (a b : Int) : signedI (a % 4294967296 * 2 ^ (b % 4294967296 % 32).toNat % 4294967296) 32 = signedI (a * 2 ^ (b % 32).toNat) 32 := by
  have e : b % 4294967296 % 32 = b % 32 := by omega
  rw [e]
  refine sig_cong ?_
  rw [Int.emod_emod, Int.mul_emod, Int.emod_emod, ← Int.mul_emod]
theorem right32 (a b : Int) : signedI (a % 4294967296 / 2 ^ (b % 4294967296 % 32).toNat) 32 = signedI (a % 4294967296 / 2 ^ (b % 32).toNat) 32 := by
  have e : b % 4294967296 % 32 = b % 32 := by omega
  rw [e]
theorem shl_u32 {x y : Int} {K : D → Prop} (h0 : 0 ≤ y) (h1 : y ≤ 31) (h : K (.int .u32 (x * 2 ^ y.toNat % 4294967296))) : ShlS .u32 x y K := by
  unfold ShlS
  refine ⟨h0, ?_⟩
  have e : min y.toNat IntKind.u32.bits = y.toNat := by simp only [IntKind.bits]; omega
  rw [e, wrapS_u32]
  exact h
theorem shr_u32 {x y : Int} {K : D → Prop} (h0 : 0 ≤ y) (h1 : y ≤ 31) (h : K (.int .u32 (x / 2 ^ y.toNat))) : ShrS .u32 x y K := by
  unfold ShrS
  refine ⟨h0, ?_⟩
  have e : min y.toNat IntKind.u32.bits = y.toNat := by simp only [IntKind.bits]; omega
  have hp : (0 : Int) ≤ 2 ^ y.toNat := Int.le_of_lt (Int.pow_pos (by decide))
  rw [e, Int.fdiv_eq_ediv_of_nonneg _ hp]
  exact h
open Go Go.Plat
set_option linter.unusedVariables false
set_option linter.unusedSimpArgs false
set_option maxRecDepth 100000
set_option maxHeartbeats 2000000
attribute [local irreducible] NilS LookS NormM bitI BytesS NormL Arith QuoS RemS ShlS ShrS BitS CatS SplitS SideS IdxS CallS LoopEnd EndS ModeS DrawS AWP Meets
attribute [local irreducible] signedI
theorem rsig_meets : Meets Tryd.prog n_plref1_Signed (SpecP (fun _ : Int => True) (fun n => [.int .i64 n]) fun n => .int .i64 (signedI n 32)) := by
  refine meets_f tabOk Tryd.func15 rfl (by decide) fun n _ => ?_
  refine ⟨Nat.le_refl _, by simp [Tryd.f15], fun E hE => ?_⟩
  refine vcOk _ ?_
  have hb := sig_bd (n % 4294967296)
  (all_goals refine qgo ?_ <;> (repeat' first | exact trivial | intro hc | refine And.intro ?_ ?_) <;> refine Lf.mk ?_)
  refine ar_u32 ?_
  (all_goals refine qgo ?_ <;> (repeat' first | exact trivial | intro hc | refine And.intro ?_ ?_) <;> refine Lf.mk ?_)
  refine ar_i32 ?_
  (all_goals refine qgo ?_ <;> (repeat' first | exact trivial | intro hc | refine And.intro ?_ ?_) <;> refine Lf.mk ?_)
  refine end_p (VS.mk (LeD.of_eq (congrArg (D.int .i64) ?_)))
  exact sig_cong (Int.emod_emod _ _)
end Go.Proofs.YtdhpodgaeholmaaDoor

namespace Go.Proofs.YtdhpodgaeholmaaDoor
open Go Go.Plat
set_option linter.unusedVariables false
set_option linter.unusedSimpArgs false
set_option maxRecDepth 100000
set_option maxHeartbeats 2000000
attribute [local irreducible] NilS LookS NormM bitI BytesS NormL Arith QuoS RemS ShlS ShrS BitS CatS SplitS SideS IdxS CallS LoopEnd EndS ModeS DrawS AWP Meets
attribute [local irreducible] exprD nodes OExpr.kind OExpr.n OExpr.name OExpr.kids signedI numV evalE evalL twoV findQ idxQ

def nameV (k : Int) (a b : OVal) : Option (List UInt8) :=
  if a.name = [] ∧ b.name = [] then some [] else if k = 7 ∧ a.name = b.name then some [] else if k = 7 ∧ b.name = [] then some a.name
  else if k = 6 ∧ a.name = [] then some b.name else if k = 6 ∧ b.name = [] then some a.name else none
theorem two_name (k : Int) (a b : OVal) : twoV k a b = match nameV k a b with | some n => (⟨n, numV k a.n b.n⟩, 0) | none => (noVal, 8) := by
  unfold twoV nameV noVal
  by_cases h1 : a.name = [] <;> by_cases h2 : b.name = [] <;> by_cases h3 : a.name = b.name <;> by_cases h4 : k = 6 <;> by_cases h5 : k = 7 <;> simp_all
theorem two_res {k X : Int} {a b : OVal} {n : List UInt8} {x : OVal × Int} (hx : x = twoV k a b) (hn : nameV k a b = some n) (hX : X = numV k a.n b.n) : D.tup [.agg [.str n, .int .i64 X], .int .i64 0] = vresD x := by
  subst hX; rw [hx, two_name, hn]; rfl
theorem two_no {k : Int} {a b : OVal} {x : OVal × Int} (hx : x = twoV k a b) (hn : nameV k a b = none) : x = (noVal, 8) := by
  rw [hx, two_name, hn]
theorem ar_i32s {n : Int} {K : D → Prop} (hs : S32 n) (h : K (.int .i32 n)) : Arith .i32 n K := ar_i32 (by rw [signed_same hs]; exact h)
theorem rem_u32 {x : Int} {K : D → Prop} (h0 : 0 ≤ x) (h : K (.int .u32 (x % 32))) : RemS .u32 x 32 K := by
  unfold RemS
  exact ⟨by decide, by rw [Int.tmod_eq_emod_of_nonneg h0]; exact h⟩
end Go.Proofs.YtdhpodgaeholmaaDoor

/-
  The statements on expressions: what is asked first; and: a place is a place, and so much more.
-/
namespace Go.Proofs.YtdhpodgaeholmaaDoor
open Go Go.Plat
open Go Go.Plat
set_option linter.unusedVariables false
set_option linter.unusedSimpArgs false
set_option maxRecDepth 100000
set_option maxHeartbeats 2000000
attribute [local irreducible] NilS LookS NormM bitI BytesS NormL Arith QuoS RemS ShlS ShrS BitS CatS SplitS SideS IdxS CallS LoopEnd EndS ModeS DrawS AWP Meets
attribute [local irreducible] signedI exprD nodes OExpr.kind OExpr.n OExpr.name OExpr.kids letterB digitB kindB nameB evalE evalL printE pRes

theorem num_meets : Meets Tryd.prog n_pllaw3_num (SpecP (fun _ : Int => True) (fun n => [.int .i64 n]) fun n => tokD ⟨2, n, []⟩) := by
  refine meets_f tabOk Tryd.func34 rfl (by decide) fun n _ => ?_
  refine ⟨Nat.le_refl _, by simp [Tryd.f34], fun E hE => ?_⟩
  refine vcOk _ ?_
  (all_goals refine qgo ?_ <;> (repeat' first | exact trivial | intro hc | refine And.intro ?_ ?_) <;> refine Lf.mk ?_)
  exact end_p (VS.mk (LeD.of_eq rfl))
theorem lawsign_meets : Meets Tryd.prog n_pllaw3_sign (SpecP (fun _ : List UInt8 => True) (fun s => [.str s]) fun s => tokD ⟨3, 0, s⟩) := by
  refine meets_f tabOk Tryd.func35 rfl (by decide) fun n _ => ?_
  refine ⟨Nat.le_refl _, by simp [Tryd.f35], fun E hE => ?_⟩
  refine vcOk _ ?_
  (all_goals refine qgo ?_ <;> (repeat' first | exact trivial | intro hc | refine And.intro ?_ ?_) <;> refine Lf.mk ?_)
  exact end_p (VS.mk (LeD.of_eq rfl))
theorem itoa_one {i : Nat} (h : i < 10) : Lib.itoa (i : Int) = [UInt8.ofNat (48 + i)] := by
  unfold Lib.itoa
  rw [if_neg (by omega), Int.toNat_natCast, Lib.decDigits_one h]
def e14 : OExpr := .mk 6 0 [] [.mk 1 2 [] [], .mk 5 0 [] [.mk 1 3 [] [], .mk 1 4 [] []]]
def toks14 : List OTok := [⟨2, 2, []⟩, ⟨3, 0, [43]⟩, ⟨2, 3, []⟩, ⟨3, 0, [42]⟩, ⟨2, 4, []⟩, ⟨3, 0, [44]⟩]
theorem alive_parse : pResD (pRes toks14) = .tup [exprU e14, .int .i64 5, .int .i64 0] := by kernel_rfl
theorem alive_eval : evalE [] e14 = (⟨[], 14⟩, 0) := by kernel_rfl
theorem alive_name : evalE [] (.mk 2 0 [97] []) = (⟨[97], 0⟩, 0) := by kernel_rfl
theorem alive_print : printE e14 = [40, 32, 50, 32, 43, 32, 40, 32, 51, 32, 42, 32, 52, 32, 41, 32, 41] := by
  have h : ∀ i : Nat, i < 10 → printE (.mk 1 i [] []) = [UInt8.ofNat (48 + i)] := fun i hi => by
    rw [printE_eq, mk_kind, mk_n]
    unfold topP
    rw [if_pos rfl, show ((i : Int) % 4294967296) = (i : Int) by omega, itoa_one hi]
  have h2 := h 2 (by decide)
  have h3 := h 3 (by decide)
  have h4 := h 4 (by decide)
  have hm : printE (.mk 5 0 [] [.mk 1 3 [] [], .mk 1 4 [] []]) = [40, 32, 51, 32, 42, 32, 52, 32, 41] := by
    rw [printE_eq, mk_kind, mk_n, mk_name, mk_kids, List.map_cons, List.map_cons, List.map_nil]
    rw [show printE (.mk 1 3 [] []) = [51] from h3, show printE (.mk 1 4 [] []) = [52] from h4]
    rfl
  unfold e14
  rw [printE_eq, mk_kind, mk_n, mk_name, mk_kids, List.map_cons, List.map_cons, List.map_nil, hm, show printE (.mk 1 2 [] []) = [50] from h2]
  rfl
theorem nodes14 : nodes e14 = 5 := by kernel_rfl
theorem nodesA : nodes (.mk 2 0 [97] []) = 2 := by kernel_rfl
theorem alive_meets : Meets Tryd.prog n_pllaw3_alive (SpecP (fun _ : Unit => True) (fun _ => []) fun _ => .bool true) := by
  refine meets_f tabOk Tryd.func9 rfl (by decide) fun _ _ => ?_
  refine ⟨Nat.le_refl _, by simp [Tryd.f9], fun E hE => ?_⟩
  refine vcOk _ ?_
  (all_goals refine qgp ?_ <;> (repeat' first | exact trivial | intro hc | refine And.intro ?_ ?_) <;> refine Lf.mk ?_)
  refine call_p num_meets 2 trivial (VS.mk (LeL.of_eq rfl)) ?_
  (all_goals refine qgp ?_ <;> (repeat' first | exact trivial | intro hc | refine And.intro ?_ ?_) <;> refine Lf.mk ?_)
  refine call_p lawsign_meets [43] trivial (VS.mk (LeL.of_eq rfl)) ?_
  (all_goals refine qgp ?_ <;> (repeat' first | exact trivial | intro hc | refine And.intro ?_ ?_) <;> refine Lf.mk ?_)
  refine call_p num_meets 3 trivial (VS.mk (LeL.of_eq rfl)) ?_
  (all_goals refine qgp ?_ <;> (repeat' first | exact trivial | intro hc | refine And.intro ?_ ?_) <;> refine Lf.mk ?_)
  refine call_p lawsign_meets [42] trivial (VS.mk (LeL.of_eq rfl)) ?_
  (all_goals refine qgp ?_ <;> (repeat' first | exact trivial | intro hc | refine And.intro ?_ ?_) <;> refine Lf.mk ?_)
  refine call_p num_meets 4 trivial (VS.mk (LeL.of_eq rfl)) ?_
  (all_goals refine qgp ?_ <;> (repeat' first | exact trivial | intro hc | refine And.intro ?_ ?_) <;> refine Lf.mk ?_)
  refine call_p lawsign_meets [44] trivial (VS.mk (LeL.of_eq rfl)) ?_
  (all_goals refine qgp ?_ <;> (repeat' first | exact trivial | intro hc | refine And.intro ?_ ?_) <;> refine Lf.mk ?_)
  refine call_p parse_meets toks14 (by decide) (VS.mk (LeL.of_eq rfl)) ?_
  rw [alive_parse]
  (all_goals refine qgp ?_ <;> (repeat' first | exact trivial | intro hc | refine And.intro ?_ ?_) <;> refine Lf.mk ?_)
  refine call_p (eval_meets [] (by decide) 5) e14 (by rw [nodes14]; decide) (VS.mk (.cons (.refl _) (.cons (.nil 2) .nil))) ?_
  rw [alive_eval]
  (all_goals refine qgp ?_ <;> (repeat' first | exact trivial | intro hc | refine And.intro ?_ ?_) <;> refine Lf.mk ?_)
  refine call_p (eval_meets [] (by decide) 5) (.mk 2 0 [97] []) (by rw [nodesA]; decide) (VS.mk (.cons (by rw [exprU_mk]; exact .agg (.cons (.refl _) (.cons (.refl _) (.cons (.refl _) (.cons (.nil 4) .nil))))) (.cons (.nil 2) .nil))) ?_
  rw [alive_name]
  (all_goals refine qgp ?_ <;> (repeat' first | exact trivial | intro hc | refine And.intro ?_ ?_) <;> refine Lf.mk ?_)
  all_goals first
    | exact (hc trivial).elim
    | skip
  refine eqS_flat [.str, .int .i64] (b := true) (by kernel_rfl) rfl ?_
  (all_goals refine qgp ?_ <;> (repeat' first | exact trivial | intro hc | refine And.intro ?_ ?_) <;> refine Lf.mk ?_)
  all_goals first
    | exact (hc trivial).elim
    | (exfalso; exact absurd hc (by decide))
    | skip
  refine call_p (print_meets 5) e14 (by rw [nodes14]; decide) (VS.mk (LeL.of_eq rfl)) ?_
  rw [alive_print]
  (all_goals refine qgp ?_ <;> (repeat' first | exact trivial | intro hc | refine And.intro ?_ ?_) <;> refine Lf.mk ?_)
  all_goals exact end_p (VS.mk (LeD.of_eq rfl))

theorem two_bad {k : Int} {a b : OVal} (h : (twoV k a b).2 ≠ 0) : (twoV k a b).1 = noVal := by
  unfold twoV at h ⊢
  split
  · rename_i h1; rw [if_pos h1] at h; exact absurd rfl h
  rename_i h1; rw [if_neg h1] at h
  split
  · rename_i h1; rw [if_pos h1] at h; exact absurd rfl h
  rename_i h1; rw [if_neg h1] at h
  split
  · rename_i h1; rw [if_pos h1] at h; exact absurd rfl h
  rename_i h1; rw [if_neg h1] at h
  split
  · rename_i h1; rw [if_pos h1] at h; exact absurd rfl h
  · rfl
theorem eval_bad {l : List OEqu} {e : OExpr} (h : (evalE l e).2 ≠ 0) : (evalE l e).1 = noVal := by
  rw [evalE_eq] at h ⊢
  cases hv : evalL l e.kids with
  | inl w => rfl
  | inr vs =>
    rw [hv] at h
    dsimp only at h ⊢
    unfold topV at h ⊢
    by_cases h1 : e.kind = 1 ∧ vs = []
    · rw [if_pos h1] at h; exact absurd rfl h
    rw [if_neg h1] at h ⊢
    by_cases h2 : e.kind = 2 ∧ vs = []
    · rw [if_pos h2] at h
      split at h <;> exact absurd rfl h
    rw [if_neg h2] at h ⊢
    rcases vs with _ | ⟨a, _ | ⟨b, _ | ⟨c, r⟩⟩⟩ <;> dsimp only at h ⊢
    · by_cases h3 : e.kind = 3 ∨ e.kind = 4
      · rw [if_pos h3] at h ⊢
        by_cases h4 : a.name = []
        · rw [if_pos h4] at h
          split at h <;> exact absurd rfl h
        · rw [if_neg h4]
      · rw [if_neg h3]
    · by_cases h3 : 5 ≤ e.kind ∧ e.kind ≤ 11
      · rw [if_pos h3] at h ⊢
        exact two_bad h
      · rw [if_neg h3]
theorem moves_meets : Meets Tryd.prog n_pllaw3_ExprMoves (SpecP (fun ((e, s, n) : OExpr × List UInt8 × Int) => nodes e ≤ 1048576 ∧ -9223372036854775808 ≤ n ∧ n ≤ 9223372036854775807) (fun (e, s, n) => [exprU e, .str s, .int .i64 n]) fun _ => .bool true) := by
  refine meets_f tabOk Tryd.func4 rfl (by decide) ?_
  rintro ⟨e, s, n⟩ ⟨hN, hn0, hn1⟩
  refine ⟨Nat.le_refl _, by simp [Tryd.f4], fun E hE => ?_⟩
  refine vcOk _ ?_
  (all_goals refine qgp ?_ <;> (repeat' first | exact trivial | intro hc | refine And.intro ?_ ?_) <;> refine Lf.mk ?_)
  refine call_p alive_meets () trivial (VS.mk (LeL.of_eq rfl)) ?_
  (all_goals refine qgp ?_ <;> (repeat' first | exact trivial | intro hc | refine And.intro ?_ ?_) <;> refine Lf.mk ?_)
  all_goals first
    | (exfalso; exact absurd hc (by decide))
    | exact end_p (VS.mk (LeD.tt rfl))
    | skip
  refine call_p (eval_meets [] (by decide) (nodes e)) e ⟨Nat.le_refl _, Nat.le_trans hN (by decide)⟩ (VS.mk (.cons (.refl _) (.cons (.nil 2) .nil))) ?_
  have hok := eval_ok [] e
  have hbad := eval_bad (l := []) (e := e)
  have hmv := mov_eval (nm := s) (n := n) e
  have hok2 := eval_ok [⟨s, n⟩] e
  generalize evalE [] e = A at *
  obtain ⟨a, w⟩ := A
  dsimp only at hbad hmv hok
  (all_goals refine qgp ?_ <;> (repeat' first | exact trivial | intro hc | refine And.intro ?_ ?_) <;> refine Lf.mk ?_)
  · have ha := hbad hc
    subst ha
    refine eqS_flat [.str, .int .i64] (b := true) (by kernel_rfl) rfl ?_
    (all_goals refine qgp ?_ <;> (repeat' first | exact trivial | intro hc | refine And.intro ?_ ?_) <;> refine Lf.mk ?_)
    exact end_p (VS.mk (LeD.of_eq rfl))
  obtain ⟨hv0, hM⟩ := hmv hc
  refine call_p (eval_meets [⟨s, n⟩] (by simp) (nodes e)) e ⟨Nat.le_refl _, Nat.le_trans hN (by decide)⟩ (VS.mk (LeL.of_eq rfl)) ?_
  generalize evalE [⟨s, n⟩] e = B at *
  obtain ⟨b, v⟩ := B
  dsimp only at hv0 hM hok2
  subst hv0
  have hs1 := hM.s32.1
  have hs2 := hM.s32.2
  (all_goals refine qgp ?_ <;> (repeat' first | exact trivial | intro hc | refine And.intro ?_ ?_) <;> refine Lf.mk ?_)
  · exact (hc trivial).elim
  refine call_p rsig_meets a.n trivial (VS.mk (LeL.of_eq rfl)) ?_
  rw [show signedI a.n 32 = a.n from by rw [signed_eq]; split <;> omega]
  (all_goals refine qgp ?_ <;> (repeat' first | exact trivial | intro hc | refine And.intro ?_ ?_) <;> refine Lf.mk ?_)
  · exact (hc trivial).elim
  · obtain rfl := hM.hit hc (by assumption)
    refine ar_i64 (by dsimp only; omega) (by dsimp only; omega) ?_
    (all_goals refine qgp ?_ <;> (repeat' first | exact trivial | intro hc | refine And.intro ?_ ?_) <;> refine Lf.mk ?_)
    refine call_p rsig_meets (a.n + n) trivial (VS.mk (LeL.of_eq rfl)) ?_
    (all_goals refine qgp ?_ <;> (repeat' first | exact trivial | intro hc | refine And.intro ?_ ?_) <;> refine Lf.mk ?_)
    refine eqS_flat [.str, .int .i64] (by kernel_rfl) rfl ?_
    (all_goals refine qgp ?_ <;> (repeat' first | exact trivial | intro hc | refine And.intro ?_ ?_) <;> refine Lf.mk ?_)
    refine end_p (VS.mk (LeD.of_eq (congrArg D.bool ?_)))
    show (_ && ((signedI (a.n + n) 32 == signedI (a.n + n) 32) && true)) = true
    simp
  · have e1 := hM.none hc
    exact end_p (VS.mk (LeD.of_eq (congrArg D.bool (by dsimp only; rw [e1]; exact beq_self_eq_true _))))
  · have e1 : b.name = a.name := by
      by_cases h : s = []
      · exact hM.none h
      · rw [hM.miss h hc]
    exact end_p (VS.mk (LeD.of_eq (congrArg D.bool (by dsimp only; rw [e1]; exact beq_self_eq_true _))))
end Go.Proofs.YtdhpodgaeholmaaDoor

/-
  What Parse makes: it takes a token at least.
-/
namespace Go.Proofs.YtdhpodgaeholmaaDoor
open Go Go.Plat
set_option linter.unusedVariables false
set_option linter.unusedSimpArgs false
set_option maxRecDepth 100000
set_option maxHeartbeats 2000000
attribute [local irreducible] NilS LookS NormM bitI BytesS NormL Arith QuoS RemS ShlS ShrS BitS CatS SplitS SideS IdxS CallS LoopEnd EndS ModeS DrawS AWP Meets
attribute [local irreducible] signedI exprD nodes OExpr.kind OExpr.n OExpr.name OExpr.kids letterB digitB kindB nameB

def Eats (p : St → OExpr × St) : Prop := ∀ s, (p s).2.err = 0 → (p s).2.rest.length + 1 ≤ s.rest.length
theorem loop_err {k : Nat} {sub : St → OExpr × St} (g : Nat) (e : OExpr) (s : St) (h : (loopF k sub g e s).2.err = 0) : s.err = 0 := by
  cases g with
  | zero => exact h
  | succ g =>
    refine Classical.byContradiction fun hn => ?_
    rw [loopF, if_neg hn] at h
    exact hn h
theorem level_eats {k : Nat} {sub : St → OExpr × St} (hs : Shorter sub) (he : Eats sub) : Eats (levelF k sub) := fun s h => by
  have h1 := loop_err _ _ _ h
  have h2 := he s h1
  have h3 := loop_short (k := k) hs ((sub s).2.rest.length + 1) (sub s).1 (sub s).2
  unfold levelF
  omega
theorem at_eats {one : St → OExpr × St} (hs : Shorter one) (he : Eats one) : ∀ j, Eats (atF one j)
  | 0 => he
  | j + 1 => level_eats (at_short hs j) (at_eats hs he j)
theorem fail_err {s : St} {e : Int} (he : e ≠ 0) : (failS s e).err ≠ 0 := by
  unfold failS
  split
  · exact he
  · assumption
theorem tok_eats : Eats tokI := fun s h => by
  obtain ⟨r, e⟩ := s
  cases r with
  | nil => exact absurd h (fail_err (by decide))
  | cons t r =>
    simp only [tokI] at h ⊢
    split at h
    · rename_i h1
      rw [if_pos h1]; simp
    rename_i h1
    rw [if_neg h1]
    split at h
    · rename_i h2
      rw [if_pos h2]
      split at h
      · rename_i h3
        rw [if_pos h3]; simp
      · exact absurd h (fail_err (by decide))
    · exact absurd h (fail_err (by decide))
theorem step_eats {one : St → OExpr × St} (hs : Shorter one) (he : Eats one) : Eats (oneStep one) := fun s h => by
  obtain ⟨h1, h1'⟩ := sign_short opens s
  have h2 := hs (signI opens s).2
  have h3 := at_short hs 5 (signI opens s).2
  have h4 := (sign_short closes (atF one 5 (signI opens s).2).2).1
  unfold oneStep at h ⊢
  split at h
  · rename_i q
    rw [if_pos q]
    have := h1' (by omega)
    dsimp only
    omega
  rename_i q; rw [if_neg q]
  split at h
  · rename_i q
    rw [if_pos q]
    have := h1' (by omega)
    dsimp only
    omega
  rename_i q; rw [if_neg q]
  split at h
  · rename_i q
    rw [if_pos q]
    have := h1' (by omega)
    split
    · rw [fail_rest]; omega
    · dsimp only; omega
  · rename_i q; rw [if_neg q]
    have := tok_eats _ h
    omega
theorem one_eats : ∀ f, Eats (oneI f)
  | 0 => fun s h => absurd h (fail_err (by decide))
  | f + 1 => by rw [one_succ]; exact step_eats (one_short f) (one_eats f)
theorem pres_ok {l : List OTok} (h : (pRes l).2.2 = 0) : 1 ≤ (pRes l).2.1 ∧ (pRes l).2.1 ≤ l.length := by
  have h1 := at_eats (one_short 7) (one_eats 7) 5 ⟨l, 0⟩
  unfold pRes at h ⊢
  split at h
  · rename_i q
    rw [if_pos q]
    have h2 := h1 q
    dsimp only
    have h3 : (parseI l).2.rest.length + 1 ≤ l.length := h2
    omega
  · rename_i q; exact absurd h q
theorem pres_bad {l : List OTok} (h : (pRes l).2.2 ≠ 0) : (pRes l).2.1 = 0 := by
  unfold pRes at h ⊢
  split at h
  · exact absurd rfl h
  · rename_i q; rw [if_neg q]
end Go.Proofs.YtdhpodgaeholmaaDoor

/-
  What Parse makes is well made.
-/
namespace Go.Proofs.YtdhpodgaeholmaaDoor
open Go Go.Plat
set_option linter.unusedVariables false
set_option linter.unusedSimpArgs false
set_option maxRecDepth 100000
set_option maxHeartbeats 2000000
attribute [local irreducible] NilS LookS NormM bitI BytesS NormL Arith QuoS RemS ShlS ShrS BitS CatS SplitS SideS IdxS CallS LoopEnd EndS ModeS DrawS AWP Meets
attribute [local irreducible] signedI exprD nodes OExpr.kind OExpr.n OExpr.name OExpr.kids letterB digitB kindB nameB

inductive Good : OExpr → Prop
  | num {n : Int} (h : S32 n) : Good (.mk 1 n [] [])
  | name {s : List UInt8} (h : nameB s = true) : Good (.mk 2 0 s [])
  | un {k : Int} {a : OExpr} (hk : k = 3 ∨ k = 4) (ha : Good a) : Good (.mk k 0 [] [a])
  | bin {k : Int} {a b : OExpr} (hk : 5 ≤ k ∧ k ≤ 11) (ha : Good a) (hb : Good b) : Good (.mk k 0 [] [a, b])
def GoodP (p : St → OExpr × St) : Prop := ∀ s, (p s).2.err = 0 → Good (p s).1
theorem kind_of {k : Nat} {s : St} (h : ¬ (signI (signs k) s).1 < 0) : 5 ≤ kindOf k (signI (signs k) s).1 ∧ kindOf k (signI (signs k) s).1 ≤ 11 := by
  obtain ⟨r, e⟩ := s
  cases r with
  | nil => exact absurd (show (-1 : Int) < 0 by decide) h
  | cons t r =>
    simp only [signI] at h ⊢
    split at h
    · rename_i h1
      rw [if_pos h1]
      split at h
      · rename_i h2
        rw [if_pos h2]
        dsimp only
        unfold signs at h2 ⊢
        unfold kindOf kinds
        rcases k with _ | _ | _ | _ | k
        all_goals
          simp only [idxT] at h2 ⊢
          repeat' first | split at h2 | omega
          all_goals first | omega | decide | (simp_all; done) | skip
      · exact absurd (show (-1 : Int) < 0 by decide) h
    · exact absurd (show (-1 : Int) < 0 by decide) h
theorem loop_good {k : Nat} {sub : St → OExpr × St} (hs : GoodP sub) : ∀ (g : Nat) (e : OExpr) (s : St), Good e → (loopF k sub g e s).2.err = 0 → Good (loopF k sub g e s).1
  | 0, e, s, he, _ => he
  | g + 1, e, s, he, h => by
    have h0 := loop_err _ _ _ h
    rw [loopF, if_pos h0] at h ⊢
    split at h
    · rename_i q; rw [if_pos q]; exact he
    · rename_i q
      rw [if_neg q]
      have h1 := loop_err _ _ _ h
      exact loop_good hs g _ _ (.bin (kind_of q) he (hs _ h1)) h
theorem level_good {k : Nat} {sub : St → OExpr × St} (hs : GoodP sub) : GoodP (levelF k sub) := fun s h =>
  loop_good hs _ _ _ (hs s (loop_err _ _ _ h)) h
theorem at_good {one : St → OExpr × St} (hs : GoodP one) : ∀ j, GoodP (atF one j)
  | 0 => hs
  | j + 1 => level_good (at_good hs j)
theorem tok_good : GoodP tokI := fun s h => by
  obtain ⟨r, e⟩ := s
  cases r with
  | nil => exact absurd h (fail_err (by decide))
  | cons t r =>
    simp only [tokI] at h ⊢
    split at h
    · rename_i h1
      rw [if_pos h1]; exact .num (signed_s32 _)
    rename_i h1
    rw [if_neg h1]
    split at h
    · rename_i h2
      rw [if_pos h2]
      split at h
      · rename_i h3
        rw [if_pos h3]; exact .name h3
      · exact absurd h (fail_err (by decide))
    · exact absurd h (fail_err (by decide))
theorem sign_err (l : List (List UInt8)) (s : St) : (signI l s).2.err = s.err := by
  obtain ⟨r, e⟩ := s
  cases r with
  | nil => rfl
  | cons t r =>
    simp only [signI]
    repeat' split
    all_goals rfl
theorem step_good {one : St → OExpr × St} (hs : GoodP one) : GoodP (oneStep one) := fun s h => by
  unfold oneStep at h ⊢
  split at h
  · rename_i q; rw [if_pos q]; exact .un (.inl rfl) (hs _ h)
  rename_i q; rw [if_neg q]
  split at h
  · rename_i q; rw [if_pos q]; exact .un (.inr rfl) (hs _ h)
  rename_i q; rw [if_neg q]
  split at h
  · rename_i q
    rw [if_pos q]
    split at h
    · exact absurd h (fail_err (by decide))
    · rename_i q2
      rw [if_neg q2]
      refine at_good hs 5 _ ?_
      rw [← sign_err closes]
      exact h
  · rename_i q; rw [if_neg q]
    exact tok_good _ h
theorem one_good : ∀ f, GoodP (oneI f)
  | 0 => fun s h => absurd h (fail_err (by decide))
  | f + 1 => by rw [one_succ]; exact step_good (one_good f)
theorem pres_good {l : List OTok} (h : (pRes l).2.2 = 0) : Good (pRes l).1 := by
  have h1 := at_good (one_good 7) 5 ⟨l, 0⟩
  unfold pRes at h ⊢
  split at h
  · rename_i q
    rw [if_pos q]
    exact h1 q
  · rename_i q; exact absurd h q
end Go.Proofs.YtdhpodgaeholmaaDoor

/-
  What is printed, as tokens.
-/
namespace Go.Proofs.YtdhpodgaeholmaaDoor
open Go Go.Plat
set_option linter.unusedVariables false
set_option linter.unusedSimpArgs false
set_option maxRecDepth 100000
set_option maxHeartbeats 2000000
attribute [local irreducible] NilS LookS NormM bitI BytesS NormL Arith QuoS RemS ShlS ShrS BitS CatS SplitS SideS IdxS CallS LoopEnd EndS ModeS DrawS AWP Meets
attribute [local irreducible] signedI exprD nodes OExpr.kind OExpr.n OExpr.name OExpr.kids letterB digitB kindB nameB

def sgT (s : List UInt8) : OTok := ⟨3, 0, s⟩
def topT (k n : Int) (s : List UInt8) (l : List (List OTok)) : List OTok :=
  if k = 1 then [⟨2, n % 4294967296, []⟩] else if k = 2 then [⟨1, 0, s⟩] else match l with
  | [a] => sgT (if k = 3 then [45] else [126]) :: a
  | [a, b] => sgT [40] :: (a ++ sgT (sgnP k) :: (b ++ [sgT [41]]))
  | _ => []
mutual
def tokE : OExpr → List OTok
  | .mk k n s ks => topT k n s (tokEs ks)
def tokEs : List OExpr → List (List OTok)
  | [] => []
  | e :: es => tokE e :: tokEs es
end
theorem tok_num (n : Int) : tokE (.mk 1 n [] []) = [⟨2, n % 4294967296, []⟩] := by rw [tokE]; rfl
theorem tok_name (s : List UInt8) : tokE (.mk 2 0 s []) = [⟨1, 0, s⟩] := by rw [tokE]; rfl
theorem tok_neg (a : OExpr) : tokE (.mk 3 0 [] [a]) = sgT [45] :: tokE a := by rw [tokE, tokEs, tokEs]; rfl
theorem tok_not (a : OExpr) : tokE (.mk 4 0 [] [a]) = sgT [126] :: tokE a := by rw [tokE, tokEs, tokEs]; rfl
theorem tok_bin {k : Int} (h : 5 ≤ k ∧ k ≤ 11) (a b : OExpr) : tokE (.mk k 0 [] [a, b]) = sgT [40] :: (tokE a ++ sgT (sgnP k) :: (tokE b ++ [sgT [41]])) := by
  rw [tokE, tokEs, tokEs, tokEs, topT, if_neg (by omega), if_neg (by omega)]
theorem open_neg (r : List OTok) (e : Int) : signI opens ⟨sgT [45] :: r, e⟩ = (0, ⟨r, e⟩) := rfl
theorem open_not (r : List OTok) (e : Int) : signI opens ⟨sgT [126] :: r, e⟩ = (1, ⟨r, e⟩) := rfl
theorem open_par (r : List OTok) (e : Int) : signI opens ⟨sgT [40] :: r, e⟩ = (2, ⟨r, e⟩) := rfl
theorem close_par (r : List OTok) (e : Int) : signI closes ⟨sgT [41] :: r, e⟩ = (0, ⟨r, e⟩) := rfl
theorem open_num (n : Int) (r : List OTok) (e : Int) : signI opens ⟨⟨2, n, []⟩ :: r, e⟩ = (-1, ⟨⟨2, n, []⟩ :: r, e⟩) := rfl
theorem open_name (s : List UInt8) (r : List OTok) (e : Int) : signI opens ⟨⟨1, 0, s⟩ :: r, e⟩ = (-1, ⟨⟨1, 0, s⟩ :: r, e⟩) := rfl
theorem loop_halt {k : Nat} {sub : St → OExpr × St} (g : Nat) (e : OExpr) (s : St) (h : signI (signs k) s = (-1, s)) : loopF k sub g e s = (e, s) := by
  cases g with
  | zero => rfl
  | succ g =>
    rw [loopF]
    split
    · rw [h, if_pos (show (-1 : Int) < 0 by decide)]
    · rfl
theorem loop_fell {k : Nat} {sub : St → OExpr × St} (g : Nat) (e : OExpr) (s : St) (h : s.err ≠ 0) : loopF k sub g e s = (e, s) := by
  cases g with
  | zero => rfl
  | succ g => rw [loopF, if_neg h]
end Go.Proofs.YtdhpodgaeholmaaDoor

/-
  A sign that none of some levels knows ends them.
-/
namespace Go.Proofs.YtdhpodgaeholmaaDoor
open Go Go.Plat
set_option linter.unusedVariables false
set_option linter.unusedSimpArgs false
set_option maxRecDepth 100000
set_option maxHeartbeats 2000000
attribute [local irreducible] NilS LookS NormM bitI BytesS NormL Arith QuoS RemS ShlS ShrS BitS CatS SplitS SideS IdxS CallS LoopEnd EndS ModeS DrawS AWP Meets
attribute [local irreducible] signedI exprD nodes OExpr.kind OExpr.n OExpr.name OExpr.kids letterB digitB kindB nameB

/-- the levels below j know no sign here -/
def Halt (j : Nat) (s : St) : Prop := ∀ i, i < j → signI (signs (4 - i)) s = (-1, s)
theorem at_halt {one : St → OExpr × St} {s t : St} {a : OExpr} (h1 : one s = (a, t)) : ∀ j, Halt j t → atF one j s = (a, t)
  | 0, _ => h1
  | j + 1, h => by
    have ih := at_halt h1 j fun i hi => h i (by omega)
    show levelF (4 - j) (atF one j) s = (a, t)
    unfold levelF
    rw [ih]
    exact loop_halt _ _ _ (h j (by omega))
theorem at_fell {one : St → OExpr × St} {s : St} (h1 : (one s).2.err = 10) : ∀ j, (atF one j s).2.err = 10
  | 0 => h1
  | j + 1 => by
    have ih := at_fell h1 j
    show (levelF (4 - j) (atF one j) s).2.err = 10
    unfold levelF
    rw [loop_fell _ _ _ (by rw [ih]; decide)]
    exact ih
theorem halt_close (r : List OTok) (e : Int) : Halt 5 ⟨sgT [41] :: r, e⟩ := fun i h => by
  match i, h with
  | 0, _ | 1, _ | 2, _ | 3, _ | 4, _ => rfl
def lvK (K : Int) : Nat := if K = 5 then 4 else if K = 6 ∨ K = 7 then 3 else if K = 8 ∨ K = 9 then 2 else if K = 10 then 1 else 0
theorem lv_sign {K : Int} (hK : 5 ≤ K ∧ K ≤ 11) (r : List OTok) (e : Int) : lvK K ≤ 4 ∧ Halt (4 - lvK K) ⟨sgT (sgnP K) :: r, e⟩ ∧
    ∃ x : Int, 0 ≤ x ∧ signI (signs (lvK K)) ⟨sgT (sgnP K) :: r, e⟩ = (x, ⟨r, e⟩) ∧ kindOf (lvK K) x = K := by
  have h : K = 5 ∨ K = 6 ∨ K = 7 ∨ K = 8 ∨ K = 9 ∨ K = 10 ∨ K = 11 := by omega
  rcases h with rfl | rfl | rfl | rfl | rfl | rfl | rfl
  all_goals
    refine ⟨by decide, fun i hi => ?_, ?_⟩
    · rcases i with _ | _ | _ | _ | i
      all_goals first
        | (refine absurd hi ?_; decide)
        | rfl
        | (refine absurd hi ?_; simp [lvK])
    · first
        | exact ⟨0, by decide, rfl, rfl⟩
        | exact ⟨1, by decide, rfl, rfl⟩
theorem Halt.mono {j k : Nat} {s : St} (h : Halt k s) (hj : j ≤ k) : Halt j s := fun i hi => h i (by omega)
theorem at_up {one : St → OExpr × St} {s t : St} {a : OExpr} {k : Nat} (h1 : atF one k s = (a, t)) : ∀ j, Halt (k + j) t → atF one (k + j) s = (a, t)
  | 0, _ => h1
  | j + 1, h => by
    have ih := at_up h1 j (h.mono (by omega))
    show levelF (4 - (k + j)) (atF one (k + j)) s = (a, t)
    unfold levelF
    rw [ih]
    exact loop_halt _ _ _ (h (k + j) (by omega))
theorem bin_reads {one : St → OExpr × St} {s : St} {A B : OExpr} {K : Int} {r2 rest : List OTok} (hK : 5 ≤ K ∧ K ≤ 11) (h1 : one s = (A, ⟨sgT (sgnP K) :: r2, 0⟩))
    (h2 : one ⟨r2, 0⟩ = (B, ⟨sgT [41] :: rest, 0⟩)) : atF one 5 s = (.mk K 0 [] [A, B], ⟨sgT [41] :: rest, 0⟩) := by
  obtain ⟨hl, hh, x, hx, hs, hk⟩ := lv_sign hK r2 0
  have e1 := at_halt h1 _ hh
  have e2 := at_halt h2 (4 - lvK K) ((halt_close rest 0).mono (by omega))
  have e3 : atF one (4 - lvK K + 1) s = (.mk K 0 [] [A, B], ⟨sgT [41] :: rest, 0⟩) := by
    show levelF (4 - (4 - lvK K)) (atF one (4 - lvK K)) s = _
    unfold levelF
    rw [e1, show 4 - (4 - lvK K) = lvK K by omega]
    dsimp only
    rw [loopF, if_pos rfl, hs]
    dsimp only
    rw [if_neg (by omega), hk, e2]
    dsimp only
    exact loop_halt _ _ _ (by have := halt_close rest 0 (4 - lvK K) (by omega); rwa [show 4 - (4 - lvK K) = lvK K by omega] at this)
  have e4 := at_up e3 (lvK K) ((halt_close rest 0).mono (by omega))
  rwa [show 4 - lvK K + 1 + lvK K = 5 by omega] at e4
theorem fell_up {one : St → OExpr × St} {s : St} {k : Nat} (h1 : (atF one k s).2.err = 10) : ∀ j, (atF one (k + j) s).2.err = 10
  | 0 => h1
  | j + 1 => by
    have ih := fell_up h1 j
    show (levelF (4 - (k + j)) (atF one (k + j)) s).2.err = 10
    unfold levelF
    rw [loop_fell _ _ _ (by rw [ih]; decide)]
    exact ih
theorem bin_fell {one : St → OExpr × St} {s : St} {A : OExpr} {K : Int} {r2 : List OTok} (hK : 5 ≤ K ∧ K ≤ 11) (h1 : one s = (A, ⟨sgT (sgnP K) :: r2, 0⟩))
    (h2 : (one ⟨r2, 0⟩).2.err = 10) : (atF one 5 s).2.err = 10 := by
  obtain ⟨hl, hh, x, hx, hs, hk⟩ := lv_sign hK r2 0
  have e1 := at_halt h1 _ hh
  have e2 := at_fell h2 (4 - lvK K)
  have e3 : (atF one (4 - lvK K + 1) s).2.err = 10 := by
    show (levelF (4 - (4 - lvK K)) (atF one (4 - lvK K)) s).2.err = _
    unfold levelF
    rw [e1, show 4 - (4 - lvK K) = lvK K by omega]
    dsimp only
    rw [loopF, if_pos rfl, hs]
    dsimp only
    rw [if_neg (by omega), hk, loop_fell _ _ _ (by rw [e2]; decide)]
    exact e2
  have e4 := fell_up e3 (lvK K)
  rwa [show 4 - lvK K + 1 + lvK K = 5 by omega] at e4
theorem fail_keep {s : St} {e : Int} (h : s.err = 10) : (failS s e).err = 10 := by
  unfold failS
  rw [if_neg (by rw [h]; decide)]; exact h
theorem step_neg (one : St → OExpr × St) (r : List OTok) : oneStep one ⟨sgT [45] :: r, 0⟩ = (.mk 3 0 [] [(one ⟨r, 0⟩).1], (one ⟨r, 0⟩).2) := by
  unfold oneStep; rw [open_neg]; rfl
theorem step_not (one : St → OExpr × St) (r : List OTok) : oneStep one ⟨sgT [126] :: r, 0⟩ = (.mk 4 0 [] [(one ⟨r, 0⟩).1], (one ⟨r, 0⟩).2) := by
  unfold oneStep; rw [open_not]; rfl
theorem step_par (one : St → OExpr × St) (r : List OTok) : oneStep one ⟨sgT [40] :: r, 0⟩ = if (signI closes (atF one 5 ⟨r, 0⟩).2).1 < 0 then (noE, failS (signI closes (atF one 5 ⟨r, 0⟩).2).2 2)
     else ((atF one 5 ⟨r, 0⟩).1, (signI closes (atF one 5 ⟨r, 0⟩).2).2) := by
  unfold oneStep; rw [open_par]; rfl
theorem step_num (one : St → OExpr × St) (n : Int) (r : List OTok) : oneStep one ⟨⟨2, n, []⟩ :: r, 0⟩ = (.mk 1 (signedI n 32) [] [], ⟨r, 0⟩) := by
  unfold oneStep; rw [open_num]; rfl
theorem step_name (one : St → OExpr × St) {s : List UInt8} (h : nameB s = true) (r : List OTok) : oneStep one ⟨⟨1, 0, s⟩ :: r, 0⟩ = (.mk 2 0 s [], ⟨r, 0⟩) := by
  unfold oneStep; rw [open_name]
  show tokI ⟨⟨1, 0, s⟩ :: r, 0⟩ = _
  unfold tokI
  dsimp only
  rw [if_neg (by decide), if_pos rfl, if_pos h]
theorem par_fell {one : St → OExpr × St} {r : List OTok} (h : (atF one 5 ⟨r, 0⟩).2.err = 10) : (oneStep one ⟨sgT [40] :: r, 0⟩).2.err = 10 := by
  rw [step_par]
  have e := sign_err closes (atF one 5 ⟨r, 0⟩).2
  rw [h] at e
  split
  · exact fail_keep e
  · exact e
theorem one_reads : ∀ (f : Nat) (a : OExpr), Good a → ∀ rest : List OTok, oneI f ⟨tokE a ++ rest, 0⟩ = (a, ⟨rest, 0⟩) ∨ (oneI f ⟨tokE a ++ rest, 0⟩).2.err = 10
  | 0, a, _, rest => .inr rfl
  | f + 1, a, h, rest => by
    have ih := one_reads f
    rw [one_succ]
    cases h with
    | @num n h =>
      left
      rw [tok_num, List.cons_append, List.nil_append, step_num]
      have e : signedI (n % 4294967296) 32 = n := by rw [signed_cong (n := n) (by omega), signed_same h]
      rw [e]
    | @name s h =>
      left
      rw [tok_name, List.cons_append, List.nil_append, step_name _ h]
    | @un k a hk ha =>
      rcases hk with rfl | rfl
      · rw [tok_neg, List.cons_append, step_neg]
        rcases ih a ha rest with e | e
        · left; rw [e]
        · right; exact e
      · rw [tok_not, List.cons_append, step_not]
        rcases ih a ha rest with e | e
        · left; rw [e]
        · right; exact e
    | @bin k a b hk ha hb =>
      rw [tok_bin hk, List.cons_append, List.append_assoc, List.cons_append, List.append_assoc, List.cons_append, List.nil_append]
      rcases ih a ha (sgT (sgnP k) :: (tokE b ++ sgT [41] :: rest)) with e | e
      · rcases ih b hb (sgT [41] :: rest) with e2 | e2
        · left
          have e3 := bin_reads hk e e2
          rw [step_par, e3]
          dsimp only
          rw [close_par]
          dsimp only
          rw [if_neg (by decide)]
        · right; exact par_fell (bin_fell hk e e2)
      · right; exact par_fell (at_fell e 5)
theorem halt_nil (e : Int) : Halt 5 ⟨[], e⟩ := fun i h => rfl
theorem pres_reads {a : OExpr} (h : Good a) : pRes (tokE a) = (a, ((tokE a).length : Int), 0) ∨ ((pRes (tokE a)).2.2 = 10) := by
  have h1 := one_reads 7 a h []
  rw [List.append_nil] at h1
  rcases h1 with e | e
  · left
    have e2 : parseI (tokE a) = (a, ⟨[], 0⟩) := at_halt e 5 (halt_nil 0)
    unfold pRes
    rw [e2]
    dsimp only
    rw [if_pos rfl]
    simp
  · right
    have e2 : (parseI (tokE a)).2.err = 10 := at_fell e 5
    unfold pRes
    rw [if_neg (by rw [e2]; decide)]
    exact e2
end Go.Proofs.YtdhpodgaeholmaaDoor

namespace Go.Proofs.YtdhpodgaeholmaaDoor
open Go Go.Plat
set_option linter.unusedVariables false
set_option linter.unusedSimpArgs false
set_option maxRecDepth 100000
set_option maxHeartbeats 2000000
attribute [local irreducible] NilS LookS NormM bitI BytesS NormL Arith QuoS RemS ShlS ShrS BitS CatS SplitS SideS IdxS CallS LoopEnd EndS ModeS DrawS AWP Meets
theorem kind_letter {c : UInt8} (h : kindB c = 97) : letterB c = true := by
  unfold kindB at h
  split at h
  · assumption
  split at h
  · cases h
  split at h <;> cases h
theorem kind_digit {c : UInt8} (h : kindB c = 48) : digitB c = true := by
  unfold kindB at h
  split at h
  · cases h
  split at h
  · assumption
  split at h <;> cases h
theorem kind_else {c : UInt8} (h : ¬ kindB c = 97) : letterB c = false := by
  unfold kindB at h
  split at h
  · exact (h rfl).elim
  · simpa using ‹¬ letterB c = true›
theorem kind_none {c : UInt8} (h : ¬ kindB c = 97) (h2 : ¬ kindB c = 48) : okC c = false := by
  have hl := kind_else h
  have hd : digitB c = false := by
    unfold kindB at h2
    rw [hl, if_neg (by decide)] at h2
    split at h2
    · exact (h2 rfl).elim
    · simpa using ‹¬ digitB c = true›
  unfold okC
  rw [hl, hd]
  rfl
theorem ok46 {c : UInt8} (h : ((c.toNat : Nat) : Int) = 46) : okC c = false := by
  have : c = 46 := UInt8.toNat_inj.1 (by exact_mod_cast h)
  subst this
  rfl
theorem okL {c : UInt8} (h : ¬ ((c.toNat : Nat) : Int) = 46) (h2 : letterB c = true ∨ digitB c = true) : okC c = true := by
  have n46 : (c == 46) = false := beq_eq_false_iff_ne.2 fun e => h (by rw [e]; rfl)
  unfold okC
  rw [n46]
  rcases h2 with h | h <;> rw [h] <;> simp
theorem nameB_bad {s : List UInt8} (h : s.all okC = false) : nameB s = false := by
  show (_ && letterB (s.getD 0 0) && s.all okC) = false
  rw [h, Bool.and_false]
theorem nameB_good {s : List UInt8} (h1 : 1 ≤ s.length ∧ s.length ≤ 10) (h2 : letterB (s.getD 0 0) = true) (h : s.all okC = true) : nameB s = true := by
  show (_ && letterB (s.getD 0 0) && s.all okC) = true
  rw [h, h2, decide_eq_true h1]
  rfl
attribute [local irreducible] letterB digitB kindB okC

theorem rname_any : Meets Tryd.prog n_plref1_Name (SpecP (fun _ : List UInt8 => True) (fun s => [.str s]) fun s => .bool (nameB s)) := by
  refine meets_f tabOk Tryd.func26 rfl (by decide) fun s _ => ?_
  refine ⟨Nat.le_refl _, by simp [Tryd.f26], fun E hE => ?_⟩
  refine vcOk _ ?_
  (all_goals refine qgo ?_ <;> (repeat' first | exact trivial | intro hc | refine And.intro ?_ ?_) <;> refine Lf.mk ?_)
  · subst hc
    exact end_p (VS.mk (LeD.ff rfl))
  · refine end_p (VS.mk (LeD.ff ?_))
    unfold nameB
    rw [decide_eq_false (by omega)]
    rfl
  have hne : 0 < s.length := by
    cases s with
    | nil => exact (‹¬ ([] : List UInt8) = []› rfl).elim
    | cons a l => simp
  refine sd_mk ⟨by omega, by omega⟩ ?_
  (all_goals refine qgo ?_ <;> (repeat' first | exact trivial | intro hc | refine And.intro ?_ ?_) <;> refine Lf.mk ?_)
  refine call_p kind_meets (s.getD 0 0) trivial (VS.mk (LeL.of_eq rfl)) ?_
  (all_goals refine qgo ?_ <;> (repeat' first | exact trivial | intro hc | refine And.intro ?_ ?_) <;> refine Lf.mk ?_)
  · refine end_p (VS.mk (LeD.ff ?_))
    show (_ && letterB (s.getD 0 0) && _) = false
    rw [kind_else hc, Bool.and_false, Bool.false_and]
  have hl0 : letterB (s.getD 0 0) = true := kind_letter hc
  refine awp_loop (α := Nat) (fun k => k ≤ s.length ∧ (s.take k).all okC = true) (fun k => [(0, .str s), (18, .int .i64 s.length), (19, .int .i64 k)]) (fun _ => []) (fun k => s.length - k) (fun _ => by simp [hE]) 0 ⟨Nat.zero_le _, by simp⟩ ?_ ?_
  · (repeat' (first | (refine VS.mk ?_) | exact trivial | exact rfl | refine And.intro ?_ ?_))
  rintro k ⟨hk, hall⟩
  refine vcOk _ ?_
  (all_goals refine qgo ?_ <;> (repeat' first | exact trivial | intro hc | refine And.intro ?_ ?_) <;> refine Lf.mk ?_)
  · have hsp := all_stop (p := okC) (s := s) (k := k) (by omega)
    rw [Int.toNat_natCast] at hc
    exact end_p (VS.mk (LeD.ff (nameB_bad (hsp (ok46 hc)))))
  · have hidx : ((k : Int)).toNat = k := Int.toNat_natCast k
    have hk' : k < s.length := by omega
    have hst := all_take (p := okC) hk'
    have hsp := all_stop (p := okC) hk'
    have h46 := hc
    rw [hidx] at h46
    refine call_p kind_meets (s.getD k 0) trivial (VS.mk (LeL.of_eq (by rw [hidx]; rfl))) ?_
    (all_goals refine qgo ?_ <;> (repeat' first | exact trivial | intro hc | refine And.intro ?_ ?_) <;> refine Lf.mk ?_)
    · refine call_p kind_meets (s.getD k 0) trivial (VS.mk (LeL.of_eq (by rw [hidx]; rfl))) ?_
      (all_goals refine qgo ?_ <;> (repeat' first | exact trivial | intro hc | refine And.intro ?_ ?_) <;> refine Lf.mk ?_)
      · exact end_p (VS.mk (LeD.ff (nameB_bad (hsp (kind_none (by assumption) hc)))))
      · refine loop_end (k + 1) ⟨by omega, by rw [hst, hall, okL h46 (.inr (kind_digit hc))]; rfl⟩ (by omega) ?_
        (repeat' (first | (refine VS.mk ?_) | exact trivial | exact rfl | refine And.intro ?_ ?_))
    · refine loop_end (k + 1) ⟨by omega, by rw [hst, hall, okL h46 (.inl (kind_letter hc))]; rfl⟩ (by omega) ?_
      (repeat' (first | (refine VS.mk ?_) | exact trivial | exact rfl | refine And.intro ?_ ?_))
  · have hlen : (s.length : Int) ≤ 10 := by omega
    rw [List.take_of_length_le (by omega)] at hall
    exact end_p (VS.mk (LeD.tt (nameB_good ⟨by omega, by omega⟩ hl0 hall)))
theorem rname_meets : Meets Tryd.prog n_plref1_Name (SpecP (fun s : List UInt8 => s.length ≤ 1000000000) (fun s => [.str s]) fun s => .bool (nameB s)) := meets_sub rname_any fun _ _ => trivial
end Go.Proofs.YtdhpodgaeholmaaDoor

/-
  Tokens of a line, as the document has them.
-/
namespace Go.Proofs.YtdhpodgaeholmaaDoor
open Go Go.Plat
set_option linter.unusedVariables false
set_option linter.unusedSimpArgs false
set_option maxRecDepth 100000
set_option maxHeartbeats 2000000
attribute [local irreducible] NilS LookS NormM bitI BytesS NormL Arith QuoS RemS ShlS ShrS BitS CatS SplitS SideS IdxS CallS LoopEnd EndS ModeS DrawS AWP Meets
attribute [local irreducible] letterB digitB kindB okC

def digV (b : Int) (c : UInt8) : Int :=
  if 48 ≤ c.toNat ∧ c.toNat ≤ 57 then (c.toNat : Int) - 48 else if b = 16 ∧ 97 ≤ c.toNat ∧ c.toNat ≤ 102 then (c.toNat : Int) - 97 + 10
  else if b = 16 ∧ 65 ≤ c.toNat ∧ c.toNat ≤ 70 then (c.toNat : Int) - 65 + 10 else -1
theorem dig_lt (b : Int) (c : UInt8) : -1 ≤ digV b c ∧ digV b c ≤ 15 := by
  unfold digV
  repeat' split
  all_goals omega
def numF (b : Int) : List UInt8 → Int → Option Int
  | [], n => some n
  | c :: r, n => if digV b c < 0 ∨ 4294967295 < n then none else numF b r (n * b + digV b c)
def numFin (ds : List UInt8) : Option Int → Int × Bool
  | none => (0, false)
  | some n => (n, decide (n < 4294967296 ∧ ds ≠ []))
def numRb (b : Int) (ds : List UInt8) : Int × Bool := numFin ds (numF b ds 0)
def numR (w : List UInt8) : Int × Bool := if 2 < w.length ∧ w.take 2 = [48, 120] then numRb 16 (w.drop 2) else numRb 10 w
def numRD (p : Int × Bool) : D := .tup [.int .i64 p.1, .bool p.2]

theorem drop_cons {α : Type} {l : List α} {k : Nat} {d : α} (h : k < l.length) : l.drop k = l.getD k d :: l.drop (k + 1) := by
  rw [List.drop_eq_getElem_cons h, List.getD_eq_getElem?_getD, List.getElem?_eq_getElem h]; rfl
attribute [local irreducible] digV
theorem dig_def (b : Int) (c : UInt8) : (48 ≤ c.toNat ∧ c.toNat ≤ 57 → digV b c = (c.toNat : Int) - 48) ∧ (b = 16 ∧ 97 ≤ c.toNat ∧ c.toNat ≤ 102 → digV b c = (c.toNat : Int) - 87)
    ∧ (b = 16 ∧ 65 ≤ c.toNat ∧ c.toNat ≤ 70 → digV b c = (c.toNat : Int) - 55) ∧ (¬ (48 ≤ c.toNat ∧ c.toNat ≤ 57) ∧ ¬ (b = 16 ∧ 97 ≤ c.toNat ∧ c.toNat ≤ 102) ∧ ¬ (b = 16 ∧ 65 ≤ c.toNat ∧ c.toNat ≤ 70) → digV b c = -1) := by
  unfold digV
  refine ⟨fun h => by rw [if_pos h], fun h => by rw [if_neg (by omega), if_pos h]; omega, fun h => by rw [if_neg (by omega), if_neg (by omega), if_pos h]; omega, fun h => by rw [if_neg h.1, if_neg h.2.1, if_neg h.2.2]⟩
theorem fin_ok {n : Int} {ds : List UInt8} (h : n < 4294967296) : (!(ds == [])) = decide (n < 4294967296 ∧ ds ≠ []) := by
  cases ds <;> simp [h]
theorem fin_bad {n : Int} {ds : List UInt8} (h : ¬ n < 4294967296) : decide (n < 4294967296 ∧ ds ≠ []) = false := by simp [h]
theorem rnumber_meets : Meets Tryd.prog n_plref1_number (SpecP (fun w : List UInt8 => w.length ≤ 1000000000) (fun w => [.str w]) fun w => numRD (numR w)) := by
  refine meets_f tabOk Tryd.func38 rfl (by decide) ?_
  intro w hw
  refine ⟨Nat.le_refl _, by simp [Tryd.f38], fun E hE => ?_⟩
  refine vcOk _ ?_
  (all_goals refine qgp ?_ <;> (repeat' first | exact trivial | intro hc | refine And.intro ?_ ?_) <;> refine Lf.mk ?_)
  case' refine_1.refine_1 => obtain ⟨b, hb⟩ : ∃ b : Int, b = 16 := ⟨_, rfl⟩
  case' refine_1.refine_1 => obtain ⟨ds, hds⟩ : ∃ ds : List UInt8, ds = w.drop 2 := ⟨_, rfl⟩
  case' refine_1.refine_1 => have hR : numR w = numRb b ds := by subst hb hds; unfold numR; rw [if_pos ⟨by omega, hc⟩]
  case' refine_1.refine_2 => obtain ⟨b, hb⟩ : ∃ b : Int, b = 10 := ⟨_, rfl⟩
  case' refine_1.refine_2 => obtain ⟨ds, hds⟩ : ∃ ds : List UInt8, ds = w := ⟨_, rfl⟩
  case' refine_1.refine_2 => have hR : numR w = numRb b ds := by subst hb hds; unfold numR; rw [if_neg (fun h => hc h.2)]
  case' refine_2 => obtain ⟨b, hb⟩ : ∃ b : Int, b = 10 := ⟨_, rfl⟩
  case' refine_2 => obtain ⟨ds, hds⟩ : ∃ ds : List UInt8, ds = w := ⟨_, rfl⟩
  case' refine_2 => have hR : numR w = numRb b ds := by subst hb hds; unfold numR; rw [if_neg (fun h => hc (by omega))]
  all_goals
    have hbb : b = 10 ∨ b = 16 := by omega
    have hdl : ds.length ≤ 1000000000 := by subst hds; first | omega | (rw [List.length_drop]; omega)
    refine awp_loop (α := Nat × Int) (fun p => p.1 ≤ ds.length ∧ numRb b ds = numFin ds (numF b (ds.drop p.1) p.2) ∧ 0 ≤ p.2 ∧ p.2 ≤ 68719476735)
      (fun p => [(0, .str w), (4, .int .i64 b), (5, .str ds), (6, .int .i64 p.2), (22, .int .i64 ds.length), (23, .int .i64 p.1)])
      (fun _ => []) (fun p => ds.length - p.1) (fun _ => by simp [hE]) (0, 0) ⟨Nat.zero_le _, rfl, by decide, by decide⟩ ?_ ?_
    · subst hb hds
      (repeat' (first | (refine VS.mk ?_) | exact trivial | exact rfl | refine And.intro ?_ ?_))
      all_goals first
        | rfl
        | (rw [show Int.toNat 2 = 2 from rfl, Int.toNat_natCast, List.take_length])
    rintro ⟨k, n⟩ ⟨hk, hf, hn0, hn1⟩
    dsimp only at hk hf hn0 hn1 ⊢
    clear hb hds
    have hdd := dig_def b (ds.getD ((k : Nat) : Int).toNat 0)
    have hstep : k < ds.length → numR w = numFin ds (if digV b (ds.getD ((k : Nat) : Int).toNat 0) < 0 ∨ 4294967295 < n then none else numF b (ds.drop (k + 1)) (n * b + digV b (ds.getD ((k : Nat) : Int).toNat 0))) := fun h => by
      rw [hR, hf, drop_cons (d := 0) h, numF, Int.toNat_natCast]
    have hlast : k = ds.length → numR w = (n, decide (n < 4294967296 ∧ ds ≠ [])) := fun h => by
      rw [hR, hf, h, List.drop_length]; rfl
    have h48 := lowByte_toNat (((ds.getD ((k : Nat) : Int).toNat 0).toNat : Int) - 48)
    have h97 := lowByte_toNat (((ds.getD ((k : Nat) : Int).toNat 0).toNat : Int) - 97)
    have h65 := lowByte_toNat (((ds.getD ((k : Nat) : Int).toNat 0).toNat : Int) - 65)
    generalize digV b (ds.getD ((k : Nat) : Int).toNat 0) = dv at *
    have hbad : k < ds.length → dv < 0 ∨ 4294967295 < n → numRD (numR w) = .tup [.int .i64 0, .bool false] := fun h h2 => by rw [hstep h, if_pos h2]; rfl
    have hgo : k < ds.length → ¬ (dv < 0 ∨ 4294967295 < n) → numRb b ds = numFin ds (numF b (ds.drop (k + 1)) (n * b + dv)) := fun h h2 => by rw [← hR, hstep h, if_neg h2]
    rcases hbb with rfl | rfl
    · refine vcOk _ ?_
      (all_goals refine qgp ?_ <;> (repeat' first | exact trivial | intro hc | refine And.intro ?_ ?_) <;> refine Lf.mk ?_)
      all_goals first
        | (refine absurd trivial ?_; assumption)
        | (refine end_p (VS.mk ?_)
           rw [hbad ?_ ?_]
           · exact .tup (.cons (.refl _) (.cons (.ff rfl) .nil))
           · omega
           · omega
           done)
        | (refine end_p (VS.mk ?_)
           rw [hlast ?_]
           · first
               | (refine LeD.tup (.cons (.refl _) (.cons (LeD.of_eq (congrArg D.bool (fin_ok ?_))) .nil)); assumption)
               | (refine LeD.tup (.cons (.refl _) (.cons (LeD.ff (fin_bad ?_)) .nil)); assumption)
           · omega
           done)
        | skip
      all_goals
        have i2 := hgo (by omega) (by omega)
        have i3 : 0 ≤ n * 10 + dv := by omega
        have i4 : n * 10 + dv ≤ 68719476735 := by omega
        refine loop_end (k + 1, n * 10 + dv) ⟨by dsimp only; omega, i2, i3, i4⟩ (by dsimp only; omega) ?_
        (repeat' (first | (refine VS.mk ?_) | exact trivial | exact rfl | refine And.intro ?_ ?_))
        all_goals (first | rfl | (refine congrArg (D.int .i64) ?_; omega))
    · refine vcOk _ ?_
      (all_goals refine qgp ?_ <;> (repeat' first | exact trivial | intro hc | refine And.intro ?_ ?_) <;> refine Lf.mk ?_)
      all_goals first
        | (refine absurd trivial ?_; assumption)
        | (refine end_p (VS.mk ?_)
           rw [hbad ?_ ?_]
           · exact .tup (.cons (.refl _) (.cons (.ff rfl) .nil))
           · omega
           · omega
           done)
        | (refine end_p (VS.mk ?_)
           rw [hlast ?_]
           · first
               | (refine LeD.tup (.cons (.refl _) (.cons (LeD.of_eq (congrArg D.bool (fin_ok ?_))) .nil)); assumption)
               | (refine LeD.tup (.cons (.refl _) (.cons (LeD.ff (fin_bad ?_)) .nil)); assumption)
           · omega
           done)
        | skip
      all_goals
        have i2 := hgo (by omega) (by omega)
        have i3 : 0 ≤ n * 16 + dv := by omega
        have i4 : n * 16 + dv ≤ 68719476735 := by omega
        refine loop_end (k + 1, n * 16 + dv) ⟨by dsimp only; omega, i2, i3, i4⟩ (by dsimp only; omega) ?_
        (repeat' (first | (refine VS.mk ?_) | exact trivial | exact rfl | refine And.intro ?_ ?_))
        all_goals (first | rfl | (refine congrArg (D.int .i64) ?_; omega))
end Go.Proofs.YtdhpodgaeholmaaDoor

/-
  Has, and tokens of a line.
-/
namespace Go.Proofs.YtdhpodgaeholmaaDoor
open Go Go.Plat
set_option linter.unusedVariables false
set_option linter.unusedSimpArgs false
set_option maxRecDepth 100000
set_option maxHeartbeats 2000000
attribute [local irreducible] NilS LookS NormM bitI BytesS NormL Arith QuoS RemS ShlS ShrS BitS CatS SplitS SideS IdxS CallS LoopEnd EndS ModeS DrawS AWP Meets
attribute [local irreducible] letterB digitB kindB okC

theorem rhas_meets : Meets Tryd.prog n_plref1_Has (SpecP (fun ((s, c) : List UInt8 × UInt8) => s.length ≤ 1000000000) (fun (s, c) => [.str s, byteD c]) fun (s, c) => .bool (s.contains c)) := by
  refine meets_f tabOk Tryd.func39 rfl (by decide) ?_
  rintro ⟨s, c⟩ hs
  have hs : s.length ≤ 1000000000 := hs
  refine ⟨Nat.le_refl _, by simp [Tryd.f39], fun E hE => ?_⟩
  refine vcOk _ ?_
  (all_goals refine qgp ?_ <;> (repeat' first | exact trivial | intro hc | refine And.intro ?_ ?_) <;> refine Lf.mk ?_)
  refine awp_loop (α := Nat) (fun k => k ≤ s.length ∧ s.contains c = (s.drop k).contains c)
    (fun k => [(0, .str s), (1, byteD c), (7, .int .i64 s.length), (8, .int .i64 k)])
    (fun _ => []) (fun k => s.length - k) (fun _ => by simp [hE]) 0 ⟨Nat.zero_le _, rfl⟩ ?_ ?_
  · (repeat' (first | (refine VS.mk ?_) | exact trivial | exact rfl | refine And.intro ?_ ?_))
  rintro k ⟨hk, hf⟩
  refine vcOk _ ?_
  (all_goals refine qgp ?_ <;> (repeat' first | exact trivial | intro hc | refine And.intro ?_ ?_) <;> refine Lf.mk ?_)
  · rw [Int.toNat_natCast] at hc
    have e : s.getD k 0 = c := UInt8.toNat_inj.1 (by exact_mod_cast hc)
    refine end_p (VS.mk (LeD.tt ?_))
    rw [hf, drop_cons (d := 0) (by omega), e, List.contains_cons, beq_self_eq_true, Bool.true_or]
  · rw [Int.toNat_natCast] at hc
    have e : (c == s.getD k 0) = false := beq_eq_false_iff_ne.2 fun e => hc (by rw [e])
    have hf1 : s.contains c = (s.drop (k + 1)).contains c := by rw [hf, drop_cons (d := 0) (by omega), List.contains_cons, e, Bool.false_or]
    refine loop_end (k + 1) ⟨by omega, hf1⟩ (by omega) ?_
    (repeat' (first | (refine VS.mk ?_) | exact trivial | exact rfl | refine And.intro ?_ ?_))
  · refine end_p (VS.mk (LeD.ff ?_))
    rw [hf, List.drop_of_length_le (by omega)]
    rfl

structure LTok where
  kind : Int
  n : Int
  text : List UInt8
def ltokD (t : LTok) : D := .agg [.int .i64 t.kind, .int .i64 t.n, .str t.text]
/-- the document's words go on so -/
def wordC (c : UInt8) : Bool := decide (kindB c = 97) || decide (kindB c = 48) || c == 47
def numC (c : UInt8) : Bool := (decide (kindB c = 97) && !(c == 46)) || decide (kindB c = 48)
def spanF (p : UInt8 → Bool) : List UInt8 → Nat
  | [] => 0
  | c :: r => if p c = true then spanF p r + 1 else 0
def signsB : List UInt8 := [58, 44, 35, 64, 40, 41, 43, 45, 42, 38, 124, 126, 61]
/-- what comes of the rest of a line: tokens, or it is none -/
def lexF : Nat → List UInt8 → List LTok → Option (List LTok)
  | 0, _, out => some out
  | _ + 1, [], out => some out
  | f + 1, c :: r, out =>
    if kindB c = 32 then lexF f r out
    else if kindB c = 97 then lexF f ((c :: r).drop (spanF wordC (c :: r))) (out ++ [⟨1, 0, (c :: r).take (spanF wordC (c :: r))⟩])
    else if kindB c = 48 then (if (numR ((c :: r).take (spanF numC (c :: r)))).2 = true then
        lexF f ((c :: r).drop (spanF numC (c :: r))) (out ++ [⟨2, (numR ((c :: r).take (spanF numC (c :: r)))).1, []⟩]) else none)
    else if c = 59 then some out
    else if (c :: r).take 2 = [60, 60] ∨ (c :: r).take 2 = [62, 62] then lexF f (r.drop 1) (out ++ [⟨3, 0, (c :: r).take 2⟩])
    else if signsB.contains c = true then lexF f r (out ++ [⟨3, 0, [c]⟩]) else none
/-- a line's tokens, and what is wrong -/
def lexR (s : List UInt8) : List LTok × Int := if 80 < s.length then ([], 4) else match lexF (s.length + 1) s [] with
  | some l => (l, 0)
  | none => ([], 2)
theorem span_le (p : UInt8 → Bool) : ∀ l, spanF p l ≤ l.length
  | [] => Nat.le_refl _
  | c :: r => by
    rw [spanF]
    have := span_le p r
    split
    · simp; omega
    · simp
theorem span_at (p : UInt8 → Bool) : ∀ l (k : Nat), k < spanF p l → p (l.getD k 0) = true
  | [], k, h => by rw [spanF] at h; omega
  | c :: r, k, h => by
    rw [spanF] at h
    split at h
    · cases k with
      | zero => assumption
      | succ k => exact span_at p r k (by omega)
    · omega
theorem span_end (p : UInt8 → Bool) : ∀ l, spanF p l < l.length → p (l.getD (spanF p l) 0) = false
  | [], h => by simp at h
  | c :: r, h => by
    rw [spanF] at h ⊢
    split
    · rename_i hp
      rw [if_pos hp] at h
      exact span_end p r (by simpa using h)
    · rename_i hp
      simpa using hp
theorem span_eq {p : UInt8 → Bool} {l : List UInt8} {k : Nat} (hk : k ≤ l.length) (h : ∀ j, j < k → p (l.getD j 0) = true) (he : k < l.length → p (l.getD k 0) = false) : k = spanF p l := by
  have h1 := span_le p l
  have h2 := span_end p l
  rcases Nat.lt_trichotomy k (spanF p l) with hlt | heq | hgt
  · have := span_at p l k hlt
    rw [he (by omega)] at this
    cases this
  · exact heq
  · have := h _ hgt
    rw [h2 (by omega)] at this
    cases this
end Go.Proofs.YtdhpodgaeholmaaDoor
