/-
  The types' table and the functions' numbers of this seat; printed by a program.
-/
import Derived.Test.YtgmlcpmkonagcaaProg
import Derived.KernelRfl
import Derived.Test.YtgmlcpmkonagcaaPlDraw6
import Derived.Test.YtgmlcpmkonagcaaPlBr2
namespace Go.Proofs.Ytgmlcpmkonagcaa
open Go Go.Plat
set_option maxRecDepth 100000

theorem TIOk.of {P : Program} {t : Nat} {i : TI} (h1 : (P.underlying t).map tdOf = some i.d) (h2 : (P.info? t).map (fun x => (x.size, x.bytes, x.zero)) = some (i.size, i.bytes, some i.zero)) (h3 : Nat.beq i.size 0 = false) (h3b : Nat.beq i.bytes 0 = false) (h4 : Nat.beq i.zero.cells.size i.size = true)
    (h5 : (match P.underlying t with | some (.struct fs) => fs.toList.all fun f => (P.info? f.type).isSome | _ => true) = true) : TIOk P t i where
  under := by
    cases h : P.underlying t with
    | none => rw [h] at h1; cases h1
    | some d => rw [h] at h1; exact ⟨d, rfl, by simpa using h1⟩
  info := by
    cases h : P.info? t with
    | none => rw [h] at h2; cases h2
    | some x => rw [h] at h2; simp at h2; exact ⟨x, rfl, h2.1, h2.2.1, h2.2.2⟩
  pos := by intro h; rw [h] at h3; simp at h3
  bpos := by intro h; rw [h] at h3b; simp at h3b
  szero := Nat.eq_of_beq_eq_true h4
  fin := h5

theorem tk3 : TIOk Try.prog 3 ⟨(.int .i64), 1, 8, (.int .i64 0)⟩ := TIOk.of (by kernel_rfl) (by kernel_rfl) rfl rfl (by kernel_rfl) (by kernel_rfl)
theorem tk4 : TIOk Try.prog 4 ⟨.bool, 1, 1, (.bool false)⟩ := TIOk.of (by kernel_rfl) (by kernel_rfl) rfl rfl (by kernel_rfl) (by kernel_rfl)
theorem tk5 : TIOk Try.prog 5 ⟨(.int .u8), 1, 1, (.int .u8 0)⟩ := TIOk.of (by kernel_rfl) (by kernel_rfl) rfl rfl (by kernel_rfl) (by kernel_rfl)
theorem tk9 : TIOk Try.prog 9 ⟨.str, 1, 16, (.string ⟨#[]⟩)⟩ := TIOk.of (by kernel_rfl) (by kernel_rfl) rfl rfl (by kernel_rfl) (by kernel_rfl)
theorem tk25 : TIOk Try.prog 25 ⟨(.slice 5), 1, 24, (.slice none 0 0)⟩ := TIOk.of (by kernel_rfl) (by kernel_rfl) rfl rfl (by kernel_rfl) (by kernel_rfl)
theorem tk2 : TIOk Try.prog 2 ⟨(.int .i64), 1, 8, (.int .i64 0)⟩ := TIOk.of (by kernel_rfl) (by kernel_rfl) rfl rfl (by kernel_rfl) (by kernel_rfl)
theorem tk12 : TIOk Try.prog 12 ⟨(.int .u64), 1, 8, (.int .u64 0)⟩ := TIOk.of (by kernel_rfl) (by kernel_rfl) rfl rfl (by kernel_rfl) (by kernel_rfl)
theorem tk20 : TIOk Try.prog 20 ⟨.iface, 1, 16, .nilIface⟩ := TIOk.of (by kernel_rfl) (by kernel_rfl) rfl rfl (by kernel_rfl) (by kernel_rfl)
theorem tk21 : TIOk Try.prog 21 ⟨(.int .i32), 1, 4, (.int .i32 0)⟩ := TIOk.of (by kernel_rfl) (by kernel_rfl) rfl rfl (by kernel_rfl) (by kernel_rfl)
theorem tk22 : TIOk Try.prog 22 ⟨(.int .i64), 1, 8, (.int .i64 0)⟩ := TIOk.of (by kernel_rfl) (by kernel_rfl) rfl rfl (by kernel_rfl) (by kernel_rfl)
theorem tk23 : TIOk Try.prog 23 ⟨(.struct [(0, 22), (1, 3)]), 2, 16, (.agg #[(.int .i64 0), (.int .i64 0)])⟩ := TIOk.of (by kernel_rfl) (by kernel_rfl) rfl rfl (by kernel_rfl) (by kernel_rfl)
theorem tk24 : TIOk Try.prog 24 ⟨(.struct [(0, 22), (1, 3)]), 2, 16, (.agg #[(.int .i64 0), (.int .i64 0)])⟩ := TIOk.of (by kernel_rfl) (by kernel_rfl) rfl rfl (by kernel_rfl) (by kernel_rfl)
theorem tk26 : TIOk Try.prog 26 ⟨(.struct [(0, 3), (1, 3), (2, 3), (3, 3), (4, 24), (6, 25)]), 7, 72, (.agg #[(.int .i64 0), (.int .i64 0), (.int .i64 0), (.int .i64 0), (.int .i64 0), (.int .i64 0), (.slice none 0 0)])⟩ := TIOk.of (by kernel_rfl) (by kernel_rfl) rfl rfl (by kernel_rfl) (by kernel_rfl)
theorem tk27 : TIOk Try.prog 27 ⟨(.struct [(0, 3), (1, 3), (2, 3), (3, 3), (4, 24), (6, 25)]), 7, 72, (.agg #[(.int .i64 0), (.int .i64 0), (.int .i64 0), (.int .i64 0), (.int .i64 0), (.int .i64 0), (.slice none 0 0)])⟩ := TIOk.of (by kernel_rfl) (by kernel_rfl) rfl rfl (by kernel_rfl) (by kernel_rfl)
theorem tk37 : TIOk Try.prog 37 ⟨(.slice 22), 1, 24, (.slice none 0 0)⟩ := TIOk.of (by kernel_rfl) (by kernel_rfl) rfl rfl (by kernel_rfl) (by kernel_rfl)
theorem tk38 : TIOk Try.prog 38 ⟨(.slice 3), 1, 24, (.slice none 0 0)⟩ := TIOk.of (by kernel_rfl) (by kernel_rfl) rfl rfl (by kernel_rfl) (by kernel_rfl)
theorem tk41 : TIOk Try.prog 41 ⟨(.int .u64), 1, 8, (.int .u64 0)⟩ := TIOk.of (by kernel_rfl) (by kernel_rfl) rfl rfl (by kernel_rfl) (by kernel_rfl)
theorem tk50 : TIOk Try.prog 50 ⟨(.int .u32), 1, 4, (.int .u32 0)⟩ := TIOk.of (by kernel_rfl) (by kernel_rfl) rfl rfl (by kernel_rfl) (by kernel_rfl)
theorem tk54 : TIOk Try.prog 54 ⟨(.ptr 5), 1, 8, (.pointer none)⟩ := TIOk.of (by kernel_rfl) (by kernel_rfl) rfl rfl (by kernel_rfl) (by kernel_rfl)

def tab : Tab := [
  (3, ⟨(.int .i64), 1, 8, (.int .i64 0)⟩),
  (4, ⟨.bool, 1, 1, (.bool false)⟩),
  (5, ⟨(.int .u8), 1, 1, (.int .u8 0)⟩),
  (9, ⟨.str, 1, 16, (.string ⟨#[]⟩)⟩),
  (25, ⟨(.slice 5), 1, 24, (.slice none 0 0)⟩),
  (2, ⟨(.int .i64), 1, 8, (.int .i64 0)⟩),
  (12, ⟨(.int .u64), 1, 8, (.int .u64 0)⟩),
  (20, ⟨.iface, 1, 16, .nilIface⟩),
  (21, ⟨(.int .i32), 1, 4, (.int .i32 0)⟩),
  (22, ⟨(.int .i64), 1, 8, (.int .i64 0)⟩),
  (23, ⟨(.struct [(0, 22), (1, 3)]), 2, 16, (.agg #[(.int .i64 0), (.int .i64 0)])⟩),
  (24, ⟨(.struct [(0, 22), (1, 3)]), 2, 16, (.agg #[(.int .i64 0), (.int .i64 0)])⟩),
  (26, ⟨(.struct [(0, 3), (1, 3), (2, 3), (3, 3), (4, 24), (6, 25)]), 7, 72, (.agg #[(.int .i64 0), (.int .i64 0), (.int .i64 0), (.int .i64 0), (.int .i64 0), (.int .i64 0), (.slice none 0 0)])⟩),
  (27, ⟨(.struct [(0, 3), (1, 3), (2, 3), (3, 3), (4, 24), (6, 25)]), 7, 72, (.agg #[(.int .i64 0), (.int .i64 0), (.int .i64 0), (.int .i64 0), (.int .i64 0), (.int .i64 0), (.slice none 0 0)])⟩),
  (37, ⟨(.slice 22), 1, 24, (.slice none 0 0)⟩),
  (38, ⟨(.slice 3), 1, 24, (.slice none 0 0)⟩),
  (41, ⟨(.int .u64), 1, 8, (.int .u64 0)⟩),
  (50, ⟨(.int .u32), 1, 4, (.int .u32 0)⟩),
  (54, ⟨(.ptr 5), 1, 8, (.pointer none)⟩)]
theorem tabOk : TabOk Try.prog tab :=
  .cons tk3 <| .cons tk4 <| .cons tk5 <| .cons tk9 <| .cons tk25 <| .cons tk2 <| .cons tk12 <| .cons tk20 <| .cons tk21 <| .cons tk22 <| .cons tk23 <| .cons tk24 <| .cons tk26 <| .cons tk27 <| .cons tk37 <| .cons tk38 <| .cons tk41 <| .cons tk50 <| .cons tk54 <| .nil _
theorem mixed : Try.prog.follows .mixedOrders = true := by kernel_rfl
theorem vcOk {n : Nat} {E : Entry} (c : Code) {Q : Ex → List (Nat × D) → List Ob → Prop} {σ : List (Nat × D)} {L : List Ob} (h : vcK Try.prog tab n E c Q σ L) : AWP Try.prog n E c Q σ L := awp_vc tabOk mixed c h

abbrev n_gosem_cut_init : Nat := 2
abbrev n_pllaw10_WireTells : Nat := 3
abbrev n_pllaw10_WireTurns : Nat := 4
abbrev n_pllaw10_WireByte : Nat := 5
abbrev n_pltop_Names : Nat := 6
abbrev n_wire_Bytes : Nat := 7
abbrev n_plref6_MsgBytes : Nat := 8
abbrev n_wire_Wrong : Nat := 9
abbrev n_plref6_WrongMsg : Nat := 10
abbrev n_wire_Parse : Nat := 11
abbrev n_plref6_MsgParse : Nat := 12
abbrev n_plref6_SameMsg : Nat := 13
abbrev n_pllaw10_alive : Nat := 14
abbrev n_isa_Put : Nat := 15
abbrev n_wire_sum : Nat := 16
abbrev n_plref6_Sum : Nat := 17
abbrev n_isa_Get : Nat := 18
abbrev n_plref1_Get : Nat := 19

end Go.Proofs.Ytgmlcpmkonagcaa
