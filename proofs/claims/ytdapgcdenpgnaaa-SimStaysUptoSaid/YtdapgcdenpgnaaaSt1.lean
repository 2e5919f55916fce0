/-
  A part of the proof: what the given program's functions answer, each once; conditions that are enough for it.
-/
import Derived.Test.YtdapgcdenpgnaaaProg
import Derived.KernelRfl
import Derived.Test.YtdapgcdenpgnaaaFw3
/-
  The types' table and the functions' numbers of this seat; printed by a program.
-/
namespace Go.Proofs.Ytdapgcdenpgnaaa
open Go Go.Plat
set_option maxRecDepth 100000

theorem TIOk.of {P : Program} {t : Nat} {i : TI} (h1 : (P.underlying t).map tdOf = some i.d) (h2 : (P.info? t).map (fun x => (x.size, x.bytes, x.zero)) = some (i.size, i.bytes, some i.zero)) (h3 : Nat.beq i.size 0 = false) (h3b : Nat.beq i.bytes 0 = false) (h4 : Nat.beq i.zero.cells.size i.size = true)
    (h5 : (match P.underlying t with | some (.struct fs) => fs.toList.all fun f => (P.info? f.type).isSome | _ => true) = true) : TIOk P t i where
  under := by
    cases h : P.underlying t with
    | none => rw [h] at h1; cases h1
    | some d => rw [h] at h1; exact ⟨d, rfl, by simpa using h1⟩
  info := by
    cases h : P.info? t with
    | none => rw [h] at h2; cases h2
    | some x => rw [h] at h2; simp at h2; exact ⟨x, rfl, h2.1, h2.2.1, h2.2.2⟩
  pos := by intro h; rw [h] at h3; simp at h3
  bpos := by intro h; rw [h] at h3b; simp at h3b
  szero := Nat.eq_of_beq_eq_true h4
  fin := h5

theorem tk3 : TIOk Try.prog 3 ⟨(.int .i64), 1, 8, (.int .i64 0)⟩ := TIOk.of (by kernel_rfl) (by kernel_rfl) rfl rfl (by kernel_rfl) (by kernel_rfl)
theorem tk4 : TIOk Try.prog 4 ⟨.bool, 1, 1, (.bool false)⟩ := TIOk.of (by kernel_rfl) (by kernel_rfl) rfl rfl (by kernel_rfl) (by kernel_rfl)
theorem tk5 : TIOk Try.prog 5 ⟨(.int .u8), 1, 1, (.int .u8 0)⟩ := TIOk.of (by kernel_rfl) (by kernel_rfl) rfl rfl (by kernel_rfl) (by kernel_rfl)
theorem tk9 : TIOk Try.prog 9 ⟨.str, 1, 16, (.string ⟨#[]⟩)⟩ := TIOk.of (by kernel_rfl) (by kernel_rfl) rfl rfl (by kernel_rfl) (by kernel_rfl)
theorem tk23 : TIOk Try.prog 23 ⟨(.slice 5), 1, 24, (.slice none 0 0)⟩ := TIOk.of (by kernel_rfl) (by kernel_rfl) rfl rfl (by kernel_rfl) (by kernel_rfl)
theorem tk2 : TIOk Try.prog 2 ⟨(.int .i64), 1, 8, (.int .i64 0)⟩ := TIOk.of (by kernel_rfl) (by kernel_rfl) rfl rfl (by kernel_rfl) (by kernel_rfl)
theorem tk12 : TIOk Try.prog 12 ⟨(.int .u64), 1, 8, (.int .u64 0)⟩ := TIOk.of (by kernel_rfl) (by kernel_rfl) rfl rfl (by kernel_rfl) (by kernel_rfl)
theorem tk20 : TIOk Try.prog 20 ⟨.iface, 1, 16, .nilIface⟩ := TIOk.of (by kernel_rfl) (by kernel_rfl) rfl rfl (by kernel_rfl) (by kernel_rfl)
theorem tk21 : TIOk Try.prog 21 ⟨(.int .i32), 1, 4, (.int .i32 0)⟩ := TIOk.of (by kernel_rfl) (by kernel_rfl) rfl rfl (by kernel_rfl) (by kernel_rfl)
theorem tk22 : TIOk Try.prog 22 ⟨(.arr 16 3), 16, 128, (.agg #[(.int .i64 0), (.int .i64 0), (.int .i64 0), (.int .i64 0), (.int .i64 0), (.int .i64 0), (.int .i64 0), (.int .i64 0), (.int .i64 0), (.int .i64 0), (.int .i64 0), (.int .i64 0), (.int .i64 0), (.int .i64 0), (.int .i64 0), (.int .i64 0)])⟩ := TIOk.of (by kernel_rfl) (by kernel_rfl) rfl rfl (by kernel_rfl) (by kernel_rfl)
theorem tk24 : TIOk Try.prog 24 ⟨(.slice 62), 1, 24, (.slice none 0 0)⟩ := TIOk.of (by kernel_rfl) (by kernel_rfl) rfl rfl (by kernel_rfl) (by kernel_rfl)
theorem tk25 : TIOk Try.prog 25 ⟨(.struct [(0, 3), (1, 23), (2, 24)]), 3, 56, (.agg #[(.int .i64 0), (.slice none 0 0), (.slice none 0 0)])⟩ := TIOk.of (by kernel_rfl) (by kernel_rfl) rfl rfl (by kernel_rfl) (by kernel_rfl)
theorem tk26 : TIOk Try.prog 26 ⟨(.struct [(0, 3), (1, 23), (2, 24)]), 3, 56, (.agg #[(.int .i64 0), (.slice none 0 0), (.slice none 0 0)])⟩ := TIOk.of (by kernel_rfl) (by kernel_rfl) rfl rfl (by kernel_rfl) (by kernel_rfl)
theorem tk27 : TIOk Try.prog 27 ⟨(.slice 3), 1, 24, (.slice none 0 0)⟩ := TIOk.of (by kernel_rfl) (by kernel_rfl) rfl rfl (by kernel_rfl) (by kernel_rfl)
theorem tk28 : TIOk Try.prog 28 ⟨(.struct [(0, 22), (16, 4), (17, 3), (18, 3), (19, 26), (22, 27), (23, 3)]), 24, 240, (.agg #[(.int .i64 0), (.int .i64 0), (.int .i64 0), (.int .i64 0), (.int .i64 0), (.int .i64 0), (.int .i64 0), (.int .i64 0), (.int .i64 0), (.int .i64 0), (.int .i64 0), (.int .i64 0), (.int .i64 0), (.int .i64 0), (.int .i64 0), (.int .i64 0), (.bool false), (.int .i64 0), (.int .i64 0), (.int .i64 0), (.slice none 0 0), (.slice none 0 0), (.slice none 0 0), (.int .i64 0)])⟩ := TIOk.of (by kernel_rfl) (by kernel_rfl) rfl rfl (by kernel_rfl) (by kernel_rfl)
theorem tk29 : TIOk Try.prog 29 ⟨(.struct [(0, 22), (16, 4), (17, 3), (18, 3), (19, 26), (22, 27), (23, 3)]), 24, 240, (.agg #[(.int .i64 0), (.int .i64 0), (.int .i64 0), (.int .i64 0), (.int .i64 0), (.int .i64 0), (.int .i64 0), (.int .i64 0), (.int .i64 0), (.int .i64 0), (.int .i64 0), (.int .i64 0), (.int .i64 0), (.int .i64 0), (.int .i64 0), (.int .i64 0), (.bool false), (.int .i64 0), (.int .i64 0), (.int .i64 0), (.slice none 0 0), (.slice none 0 0), (.slice none 0 0), (.int .i64 0)])⟩ := TIOk.of (by kernel_rfl) (by kernel_rfl) rfl rfl (by kernel_rfl) (by kernel_rfl)
theorem tk31 : TIOk Try.prog 31 ⟨(.int .i64), 1, 8, (.int .i64 0)⟩ := TIOk.of (by kernel_rfl) (by kernel_rfl) rfl rfl (by kernel_rfl) (by kernel_rfl)
theorem tk44 : TIOk Try.prog 44 ⟨(.struct [(0, 3), (1, 3), (2, 3), (3, 3)]), 4, 32, (.agg #[(.int .i64 0), (.int .i64 0), (.int .i64 0), (.int .i64 0)])⟩ := TIOk.of (by kernel_rfl) (by kernel_rfl) rfl rfl (by kernel_rfl) (by kernel_rfl)
theorem tk45 : TIOk Try.prog 45 ⟨(.struct [(0, 3), (1, 3), (2, 3), (3, 3)]), 4, 32, (.agg #[(.int .i64 0), (.int .i64 0), (.int .i64 0), (.int .i64 0)])⟩ := TIOk.of (by kernel_rfl) (by kernel_rfl) rfl rfl (by kernel_rfl) (by kernel_rfl)
theorem tk51 : TIOk Try.prog 51 ⟨(.ptr 29), 1, 8, (.pointer none)⟩ := TIOk.of (by kernel_rfl) (by kernel_rfl) rfl rfl (by kernel_rfl) (by kernel_rfl)
theorem tk61 : TIOk Try.prog 61 ⟨(.struct [(0, 9), (1, 3)]), 2, 24, (.agg #[(.string ⟨#[]⟩), (.int .i64 0)])⟩ := TIOk.of (by kernel_rfl) (by kernel_rfl) rfl rfl (by kernel_rfl) (by kernel_rfl)
theorem tk62 : TIOk Try.prog 62 ⟨(.struct [(0, 9), (1, 3)]), 2, 24, (.agg #[(.string ⟨#[]⟩), (.int .i64 0)])⟩ := TIOk.of (by kernel_rfl) (by kernel_rfl) rfl rfl (by kernel_rfl) (by kernel_rfl)
theorem tk65 : TIOk Try.prog 65 ⟨(.struct [(0, 9), (1, 3), (2, 9)]), 3, 40, (.agg #[(.string ⟨#[]⟩), (.int .i64 0), (.string ⟨#[]⟩)])⟩ := TIOk.of (by kernel_rfl) (by kernel_rfl) rfl rfl (by kernel_rfl) (by kernel_rfl)
theorem tk66 : TIOk Try.prog 66 ⟨(.struct [(0, 9), (1, 3), (2, 9)]), 3, 40, (.agg #[(.string ⟨#[]⟩), (.int .i64 0), (.string ⟨#[]⟩)])⟩ := TIOk.of (by kernel_rfl) (by kernel_rfl) rfl rfl (by kernel_rfl) (by kernel_rfl)
theorem tk67 : TIOk Try.prog 67 ⟨(.map 3 66), 1, 8, (.map none)⟩ := TIOk.of (by kernel_rfl) (by kernel_rfl) rfl rfl (by kernel_rfl) (by kernel_rfl)
theorem tk71 : TIOk Try.prog 71 ⟨(.int .u32), 1, 4, (.int .u32 0)⟩ := TIOk.of (by kernel_rfl) (by kernel_rfl) rfl rfl (by kernel_rfl) (by kernel_rfl)
theorem tk73 : TIOk Try.prog 73 ⟨(.ptr 3), 1, 8, (.pointer none)⟩ := TIOk.of (by kernel_rfl) (by kernel_rfl) rfl rfl (by kernel_rfl) (by kernel_rfl)
theorem tk74 : TIOk Try.prog 74 ⟨(.int .u64), 1, 8, (.int .u64 0)⟩ := TIOk.of (by kernel_rfl) (by kernel_rfl) rfl rfl (by kernel_rfl) (by kernel_rfl)
theorem tk78 : TIOk Try.prog 78 ⟨(.int .i16), 1, 2, (.int .i16 0)⟩ := TIOk.of (by kernel_rfl) (by kernel_rfl) rfl rfl (by kernel_rfl) (by kernel_rfl)
theorem tk79 : TIOk Try.prog 79 ⟨(.int .u16), 1, 2, (.int .u16 0)⟩ := TIOk.of (by kernel_rfl) (by kernel_rfl) rfl rfl (by kernel_rfl) (by kernel_rfl)
theorem tk80 : TIOk Try.prog 80 ⟨(.slice 83), 1, 24, (.slice none 0 0)⟩ := TIOk.of (by kernel_rfl) (by kernel_rfl) rfl rfl (by kernel_rfl) (by kernel_rfl)
theorem tk82 : TIOk Try.prog 82 ⟨(.struct [(0, 3), (1, 9), (2, 3), (3, 3)]), 4, 40, (.agg #[(.int .i64 0), (.string ⟨#[]⟩), (.int .i64 0), (.int .i64 0)])⟩ := TIOk.of (by kernel_rfl) (by kernel_rfl) rfl rfl (by kernel_rfl) (by kernel_rfl)
theorem tk83 : TIOk Try.prog 83 ⟨(.struct [(0, 3), (1, 9), (2, 3), (3, 3)]), 4, 40, (.agg #[(.int .i64 0), (.string ⟨#[]⟩), (.int .i64 0), (.int .i64 0)])⟩ := TIOk.of (by kernel_rfl) (by kernel_rfl) rfl rfl (by kernel_rfl) (by kernel_rfl)
theorem tk99 : TIOk Try.prog 99 ⟨(.ptr 5), 1, 8, (.pointer none)⟩ := TIOk.of (by kernel_rfl) (by kernel_rfl) rfl rfl (by kernel_rfl) (by kernel_rfl)

def tab : Tab := [
  (3, ⟨(.int .i64), 1, 8, (.int .i64 0)⟩),
  (4, ⟨.bool, 1, 1, (.bool false)⟩),
  (5, ⟨(.int .u8), 1, 1, (.int .u8 0)⟩),
  (9, ⟨.str, 1, 16, (.string ⟨#[]⟩)⟩),
  (23, ⟨(.slice 5), 1, 24, (.slice none 0 0)⟩),
  (2, ⟨(.int .i64), 1, 8, (.int .i64 0)⟩),
  (12, ⟨(.int .u64), 1, 8, (.int .u64 0)⟩),
  (20, ⟨.iface, 1, 16, .nilIface⟩),
  (21, ⟨(.int .i32), 1, 4, (.int .i32 0)⟩),
  (22, ⟨(.arr 16 3), 16, 128, (.agg #[(.int .i64 0), (.int .i64 0), (.int .i64 0), (.int .i64 0), (.int .i64 0), (.int .i64 0), (.int .i64 0), (.int .i64 0), (.int .i64 0), (.int .i64 0), (.int .i64 0), (.int .i64 0), (.int .i64 0), (.int .i64 0), (.int .i64 0), (.int .i64 0)])⟩),
  (24, ⟨(.slice 62), 1, 24, (.slice none 0 0)⟩),
  (25, ⟨(.struct [(0, 3), (1, 23), (2, 24)]), 3, 56, (.agg #[(.int .i64 0), (.slice none 0 0), (.slice none 0 0)])⟩),
  (26, ⟨(.struct [(0, 3), (1, 23), (2, 24)]), 3, 56, (.agg #[(.int .i64 0), (.slice none 0 0), (.slice none 0 0)])⟩),
  (27, ⟨(.slice 3), 1, 24, (.slice none 0 0)⟩),
  (28, ⟨(.struct [(0, 22), (16, 4), (17, 3), (18, 3), (19, 26), (22, 27), (23, 3)]), 24, 240, (.agg #[(.int .i64 0), (.int .i64 0), (.int .i64 0), (.int .i64 0), (.int .i64 0), (.int .i64 0), (.int .i64 0), (.int .i64 0), (.int .i64 0), (.int .i64 0), (.int .i64 0), (.int .i64 0), (.int .i64 0), (.int .i64 0), (.int .i64 0), (.int .i64 0), (.bool false), (.int .i64 0), (.int .i64 0), (.int .i64 0), (.slice none 0 0), (.slice none 0 0), (.slice none 0 0), (.int .i64 0)])⟩),
  (29, ⟨(.struct [(0, 22), (16, 4), (17, 3), (18, 3), (19, 26), (22, 27), (23, 3)]), 24, 240, (.agg #[(.int .i64 0), (.int .i64 0), (.int .i64 0), (.int .i64 0), (.int .i64 0), (.int .i64 0), (.int .i64 0), (.int .i64 0), (.int .i64 0), (.int .i64 0), (.int .i64 0), (.int .i64 0), (.int .i64 0), (.int .i64 0), (.int .i64 0), (.int .i64 0), (.bool false), (.int .i64 0), (.int .i64 0), (.int .i64 0), (.slice none 0 0), (.slice none 0 0), (.slice none 0 0), (.int .i64 0)])⟩),
  (31, ⟨(.int .i64), 1, 8, (.int .i64 0)⟩),
  (44, ⟨(.struct [(0, 3), (1, 3), (2, 3), (3, 3)]), 4, 32, (.agg #[(.int .i64 0), (.int .i64 0), (.int .i64 0), (.int .i64 0)])⟩),
  (45, ⟨(.struct [(0, 3), (1, 3), (2, 3), (3, 3)]), 4, 32, (.agg #[(.int .i64 0), (.int .i64 0), (.int .i64 0), (.int .i64 0)])⟩),
  (51, ⟨(.ptr 29), 1, 8, (.pointer none)⟩),
  (61, ⟨(.struct [(0, 9), (1, 3)]), 2, 24, (.agg #[(.string ⟨#[]⟩), (.int .i64 0)])⟩),
  (62, ⟨(.struct [(0, 9), (1, 3)]), 2, 24, (.agg #[(.string ⟨#[]⟩), (.int .i64 0)])⟩),
  (65, ⟨(.struct [(0, 9), (1, 3), (2, 9)]), 3, 40, (.agg #[(.string ⟨#[]⟩), (.int .i64 0), (.string ⟨#[]⟩)])⟩),
  (66, ⟨(.struct [(0, 9), (1, 3), (2, 9)]), 3, 40, (.agg #[(.string ⟨#[]⟩), (.int .i64 0), (.string ⟨#[]⟩)])⟩),
  (67, ⟨(.map 3 66), 1, 8, (.map none)⟩),
  (71, ⟨(.int .u32), 1, 4, (.int .u32 0)⟩),
  (73, ⟨(.ptr 3), 1, 8, (.pointer none)⟩),
  (74, ⟨(.int .u64), 1, 8, (.int .u64 0)⟩),
  (78, ⟨(.int .i16), 1, 2, (.int .i16 0)⟩),
  (79, ⟨(.int .u16), 1, 2, (.int .u16 0)⟩),
  (80, ⟨(.slice 83), 1, 24, (.slice none 0 0)⟩),
  (82, ⟨(.struct [(0, 3), (1, 9), (2, 3), (3, 3)]), 4, 40, (.agg #[(.int .i64 0), (.string ⟨#[]⟩), (.int .i64 0), (.int .i64 0)])⟩),
  (83, ⟨(.struct [(0, 3), (1, 9), (2, 3), (3, 3)]), 4, 40, (.agg #[(.int .i64 0), (.string ⟨#[]⟩), (.int .i64 0), (.int .i64 0)])⟩),
  (99, ⟨(.ptr 5), 1, 8, (.pointer none)⟩)]
theorem tabOk : TabOk Try.prog tab :=
  .cons tk3 <| .cons tk4 <| .cons tk5 <| .cons tk9 <| .cons tk23 <| .cons tk2 <| .cons tk12 <| .cons tk20 <| .cons tk21 <| .cons tk22 <| .cons tk24 <| .cons tk25 <| .cons tk26 <| .cons tk27 <| .cons tk28 <| .cons tk29 <| .cons tk31 <| .cons tk44 <| .cons tk45 <| .cons tk51 <| .cons tk61 <| .cons tk62 <| .cons tk65 <| .cons tk66 <| .cons tk67 <| .cons tk71 <| .cons tk73 <| .cons tk74 <| .cons tk78 <| .cons tk79 <| .cons tk80 <| .cons tk82 <| .cons tk83 <| .cons tk99 <| .nil _
theorem mixed : Try.prog.follows .mixedOrders = true := by kernel_rfl
theorem vcOk {n : Nat} {E : Entry} (c : Code) {Q : Ex → List (Nat × D) → List Ob → Prop} {σ : List (Nat × D)} {L : List Ob} (h : vcK Try.prog tab n E c Q σ L) : AWP Try.prog n E c Q σ L := awp_vc tabOk mixed c h

abbrev n_gosem_cut_init : Nat := 2
abbrev n_pllaw9_SimTells : Nat := 3
abbrev n_pllaw9_SimParts : Nat := 4
abbrev n_pllaw9_SimStays : Nat := 5
abbrev n_pllaw9_right : Nat := 6
abbrev n_sim_Step : Nat := 7
abbrev n_plref6_Step : Nat := 8
abbrev n_plref6_SameMachine : Nat := 9
abbrev n_sim_Own : Nat := 10
abbrev n_sim_New : Nat := 11
abbrev n_plref6_New : Nat := 12
abbrev n_plref6_SameImage : Nat := 13
abbrev n_sim_Image : Nat := 14
abbrev n_sim_Run : Nat := 15
abbrev n_plref6_Run : Nat := 16
abbrev n_pllaw9_alive : Nat := 17
abbrev n_plref1_Decode : Nat := 18
abbrev n_plref1_Get : Nat := 19
abbrev n_plref1_Signed : Nat := 20
abbrev n_sim_fetch : Nat := 21
abbrev n_sim_leads : Nat := 22
abbrev n_sim_plain : Nat := 23
abbrev n_sim_leap : Nat := 24
abbrev n_plref6_Step_1 : Nat := 25
abbrev n_plref6_Fetch : Nat := 26
abbrev n_plref6_Leads : Nat := 27
abbrev n_plref6_Plain : Nat := 28
abbrev n_plref6_To : Nat := 29
abbrev n_slices_Clone_int_int : Nat := 30
abbrev n_slices_Clone_byte_byte : Nat := 31
abbrev n_slices_Clone_api_Sym_api_Sym : Nat := 32
abbrev n_plref1_Rows : Nat := 33
abbrev n_plref1_Range : Nat := 34
abbrev n_sim_in : Nat := 35
abbrev n_isa_Decode : Nat := 36
abbrev n_isa_Get : Nat := 37
abbrev n_isa_Signed : Nat := 38
abbrev n_sim_load : Nat := 39
abbrev n_isa_Put : Nat := 40
abbrev n_sim_sum : Nat := 41
abbrev n_dis_To : Nat := 42
abbrev n_plref6_Has : Nat := 43
abbrev n_plref6_Plain_1 : Nat := 44
abbrev n_plref1_Put : Nat := 45
abbrev n_isa_rows : Nat := 46
abbrev n_isa_mask : Nat := 47
abbrev n_isa_uses : Nat := 48
abbrev n_isa_signed : Nat := 49
abbrev n_isa_Info : Nat := 50

end Go.Proofs.Ytdapgcdenpgnaaa

namespace Go.Proofs.Ytdapgcdenpgnaaa
open Go Go.Plat
set_option linter.unusedVariables false
set_option linter.unusedSimpArgs false
set_option maxRecDepth 100000
set_option maxHeartbeats 2000000
attribute [local irreducible] NilS LookS NormM bitI BytesS NormL Arith QuoS RemS ShlS ShrS BitS CatS SplitS SideS IdxS CallS LoopEnd EndS ModeS DrawS AWP Meets

structure IRow where
  op : Int
  name : List UInt8
  shape : Int
  bits : Int
def irowD (r : IRow) : D := .agg [.int .i64 r.op, .str r.name, .int .i64 r.shape, .int .i64 r.bits]
def irow0 : IRow := ⟨0, [], 0, 0⟩
def irows : List IRow := [
  ⟨1, [110, 111, 112], 0, 9⟩,
  ⟨2, [114, 116, 115], 0, 11⟩,
  ⟨3, [109, 111, 118], 1, 57344⟩,
  ⟨4, [97, 100, 100], 1, 28672⟩,
  ⟨5, [109, 111, 118], 2, 24579⟩,
  ⟨6, [97, 100, 100], 2, 12300⟩,
  ⟨7, [115, 117, 98], 2, 12296⟩,
  ⟨8, [97, 110, 100], 2, 8201⟩,
  ⟨9, [111, 114], 2, 8203⟩,
  ⟨10, [120, 111, 114], 2, 8202⟩,
  ⟨11, [116, 115, 116], 2, 8200⟩,
  ⟨12, [99, 109, 112, 47, 101, 113], 2, 12288⟩,
  ⟨13, [99, 109, 112, 47, 103, 116], 2, 12295⟩,
  ⟨14, [115, 104, 108, 108], 3, 16384⟩,
  ⟨15, [115, 104, 108, 114], 3, 16385⟩,
  ⟨16, [100, 116], 3, 16400⟩,
  ⟨17, [98, 116], 4, 35072⟩,
  ⟨18, [98, 102], 4, 35584⟩,
  ⟨19, [98, 114, 97], 5, 40960⟩,
  ⟨20, [98, 115, 114], 5, 45056⟩,
  ⟨21, [106, 109, 112], 6, 16427⟩,
  ⟨22, [106, 115, 114], 6, 16395⟩,
  ⟨23, [109, 111, 118, 46, 119], 7, 36864⟩,
  ⟨24, [109, 111, 118, 46, 108], 8, 53248⟩,
  ⟨25, [109, 111, 118, 46, 108], 9, 8194⟩,
  ⟨26, [109, 111, 118, 46, 108], 10, 24578⟩,
  ⟨27, [116, 114, 97, 112, 97], 11, 49920⟩]
theorem irows_len : irows.length = 27 := rfl

theorem rows_meets : Meets Try.prog n_isa_rows (SpecP (fun _ : Unit => True) (fun _ => []) fun _ => .sl 4 (irows.map irowD) none) := by
  refine meets_f tabOk Try.func46 rfl (by decide) fun _ _ => ?_
  refine ⟨Nat.le_refl _, by simp [Try.f46], fun E hE => ?_⟩
  refine vcOk _ ?_
  (all_goals refine qgo ?_ <;> (repeat' first | exact trivial | intro hc | refine And.intro ?_ ?_) <;> refine Lf.mk ?_)
  exact end_p (VS.mk (LeD.of_eq (by rfl)))

def infoR (op : Int) : Option IRow := irows.find? fun r => r.op == op
def infoD (op : Int) : D := match infoR op with | some r => .tup [.str r.name, .int .i64 r.shape] | none => .tup [.str [], .int .i64 0]

theorem info_meets : Meets Try.prog n_isa_Info (SpecP (fun _ : Int => True) (fun op => [.int .i64 op]) infoD) := by
  refine meets_f tabOk Try.func50 rfl (by decide) fun op _ => ?_
  refine ⟨Nat.le_refl _, by simp [Try.f50], fun E hE => ?_⟩
  refine vcOk _ ?_
  (all_goals refine qgo ?_ <;> (repeat' first | exact trivial | intro hc | refine And.intro ?_ ?_) <;> refine Lf.mk ?_)
  refine call_p rows_meets () trivial (VS.mk (by (first | exact LeL.refl _ | (repeat' (first | exact LeL.nil | exact LeD.refl _ | exact LeD.nil _ | exact LeD.strip _ _ _ | refine LeL.cons ?_ ?_ | refine LeD.tup ?_ | refine LeD.agg ?_))))) ?_
  (all_goals refine qgo ?_ <;> (repeat' first | exact trivial | intro hc | refine And.intro ?_ ?_) <;> refine Lf.mk ?_)
  refine awp_loop (α := Nat) (fun k => k ≤ 27 ∧ ∀ (i : Nat) r, i < k → irows[i]? = some r → (r.op == op) = false) (fun k => [(6, .sl 4 (irows.map irowD) none), (7, .int .i64 27), (8, .int .i64 k), (0, .int .i64 op)]) (fun _ => []) (fun k => 27 - k) (fun _ => by simp [hE]) 0 ⟨Nat.zero_le _, by simp⟩ ?_ ?_
  · (repeat' (first | (refine VS.mk ?_) | exact trivial | exact rfl | refine And.intro ?_ ?_))
  rintro k ⟨hk, hno⟩
  refine vcOk _ ?_
  (all_goals refine qgo ?_ <;> (repeat' first | exact trivial | intro hc | refine And.intro ?_ ?_) <;> refine Lf.mk ?_)
  · obtain ⟨r, hr⟩ := at_of_lt (l := irows) (k := k) (by rw [irows_len]; omega)
    refine ix_map r (by omega) (by simpa using hr) ?_
    (all_goals refine qgo ?_ <;> (repeat' first | exact trivial | intro hc | refine And.intro ?_ ?_) <;> refine Lf.mk ?_)
    · refine end_p (VS.mk (LeD.of_eq ?_))
      have hf := find_at (p := fun r => r.op == op) hr (by simpa using hc) hno
      rw [infoD, infoR, hf]
    · refine loop_end (k + 1) ⟨by omega, no_step hno hr (by simpa using hc)⟩ (by omega) ?_
      (repeat' (first | (refine VS.mk ?_) | exact trivial | exact rfl | refine And.intro ?_ ?_))
  · refine end_p (VS.mk (LeD.of_eq ?_))
    have hf := no_end hno (by rw [irows_len]; omega)
    rw [infoD, infoR, hf]

def findR (name : List UInt8) (shape : Int) : Option IRow := irows.find? fun r => r.name == name && r.shape == shape
def findI (name : List UInt8) (shape : Int) : Int := match findR name shape with | some r => r.op | none => 0
def uses1 (s : Int) : Bool := s == 1 || s == 3 || s == 6 || s == 7 || s == 8 || s == 2 || s == 9 || s == 10
def uses2 (s : Int) : Bool := s == 2 || s == 9 || s == 10
theorem uses_meets : Meets Try.prog n_isa_uses (SpecP (fun _ : Int => True) (fun s => [.int .i64 s]) fun s => .tup [.bool (uses1 s), .bool (uses2 s)]) := by
  refine meets_f tabOk Try.func48 rfl (by decide) fun s _ => ?_
  refine ⟨Nat.le_refl _, by simp [Try.f48], fun E hE => ?_⟩
  refine vcOk _ ?_
  (all_goals refine qgo ?_ <;> (repeat' first | exact trivial | intro hc | refine And.intro ?_ ?_) <;> refine Lf.mk ?_)
  all_goals (refine end_p (VS.mk ?_))
  all_goals first | (exfalso; omega) | (refine LeD.tup (.cons ?_ (.cons ?_ .nil)) <;> first | exact LeD.tt (by simp_all [uses1, uses2]) | exact LeD.ff (by simp_all [uses1, uses2]))

def lowI (s : Int) : Int := if s = 1 ∨ s = 4 then -128 else if s = 5 then -2048 else 0
def highI (s : Int) : Int := if s = 1 ∨ s = 4 then 127 else if s = 5 then 2047 else if s = 7 ∨ s = 8 ∨ s = 11 then 255 else 0
def maskI (s : Int) : Int := if s = 0 then 65535 else if s = 2 ∨ s = 9 ∨ s = 10 then 61455 else if s = 3 ∨ s = 6 then 61695 else if s = 4 ∨ s = 11 then 65280 else 61440
theorem mask_meets : Meets Try.prog n_isa_mask (SpecP (fun _ : Int => True) (fun s => [.int .i64 s]) fun s => .int .i64 (maskI s)) := by
  refine meets_f tabOk Try.func47 rfl (by decide) fun s _ => ?_
  refine ⟨Nat.le_refl _, by simp [Try.f47], fun E hE => ?_⟩
  refine vcOk _ ?_
  (all_goals refine qgo ?_ <;> (repeat' first | exact trivial | intro hc | refine And.intro ?_ ?_) <;> refine Lf.mk ?_)
  all_goals (refine end_p (VS.mk (LeD.of_eq (congrArg (D.int .i64) ?_))))
  all_goals (unfold maskI; (repeat' split) <;> first | rfl | omega)

def signedI (n : Int) (k : Nat) : Int := if n % (2 : Int) ^ k / 2 ^ (k - 1) = 1 then n % (2 : Int) ^ k - 2 ^ k else n % (2 : Int) ^ k
theorem signed_meets : Meets Try.prog n_isa_signed (SpecP (fun ((n, k) : Int × Nat) => (k = 8 ∨ k = 12 ∨ k = 32)) (fun (n, k) => [.int .i64 n, .int .i64 k]) fun (n, k) => .int .i64 (signedI n k)) := by
  refine meets_f tabOk Try.func49 rfl (by decide) ?_
  rintro ⟨n, k⟩ hk
  refine ⟨Nat.le_refl _, by simp [Try.f49], fun E hE => ?_⟩
  rcases hk with hk | hk | hk <;> (have hk : k = _ := hk; subst hk; refine vcOk _ ?_)
  · have h0 := Int.emod_nonneg n (show (256 : Int) ≠ 0 by decide)
    have h1 := Int.emod_lt_of_pos n (show (0 : Int) < 256 by decide)
    have hd : signedI n 8 = if n % 256 / 128 = 1 then n % 256 - 256 else n % 256 := rfl
    (all_goals refine qgo ?_ <;> (repeat' first | exact trivial | intro hc | refine And.intro ?_ ?_) <;> refine Lf.mk ?_)
    refine shr_lit (s := 7) (m := 128) rfl (by decide) (by decide) ?_
    (all_goals refine qgo ?_ <;> (repeat' first | exact trivial | intro hc | refine And.intro ?_ ?_) <;> refine Lf.mk ?_)
    · skip
      refine end_p (VS.mk (LeD.of_eq (congrArg (D.int .i64) ?_)))
      rw [hd, if_pos hc]
      omega
    · refine end_p (VS.mk (LeD.of_eq (congrArg (D.int .i64) ?_)))
      rw [hd, if_neg hc]
  · have h0 := Int.emod_nonneg n (show (4096 : Int) ≠ 0 by decide)
    have h1 := Int.emod_lt_of_pos n (show (0 : Int) < 4096 by decide)
    have hd : signedI n 12 = if n % 4096 / 2048 = 1 then n % 4096 - 4096 else n % 4096 := rfl
    (all_goals refine qgo ?_ <;> (repeat' first | exact trivial | intro hc | refine And.intro ?_ ?_) <;> refine Lf.mk ?_)
    refine shl_lit (s := 12) (m := 4096) rfl (by decide) (by decide) (by decide) (by decide) ?_
    (all_goals refine qgo ?_ <;> (repeat' first | exact trivial | intro hc | refine And.intro ?_ ?_) <;> refine Lf.mk ?_)
    refine shr_lit (s := 11) (m := 2048) rfl (by decide) (by decide) ?_
    (all_goals refine qgo ?_ <;> (repeat' first | exact trivial | intro hc | refine And.intro ?_ ?_) <;> refine Lf.mk ?_)
    · refine shl_lit (s := 12) (m := 4096) rfl (by decide) (by decide) (by decide) (by decide) ?_
      (all_goals refine qgo ?_ <;> (repeat' first | exact trivial | intro hc | refine And.intro ?_ ?_) <;> refine Lf.mk ?_)
      refine end_p (VS.mk (LeD.of_eq (congrArg (D.int .i64) ?_)))
      rw [hd, if_pos hc]
      omega
    · refine end_p (VS.mk (LeD.of_eq (congrArg (D.int .i64) ?_)))
      rw [hd, if_neg hc]
  · have h0 := Int.emod_nonneg n (show (4294967296 : Int) ≠ 0 by decide)
    have h1 := Int.emod_lt_of_pos n (show (0 : Int) < 4294967296 by decide)
    have hd : signedI n 32 = if n % 4294967296 / 2147483648 = 1 then n % 4294967296 - 4294967296 else n % 4294967296 := rfl
    (all_goals refine qgo ?_ <;> (repeat' first | exact trivial | intro hc | refine And.intro ?_ ?_) <;> refine Lf.mk ?_)
    refine shl_lit (s := 32) (m := 4294967296) rfl (by decide) (by decide) (by decide) (by decide) ?_
    (all_goals refine qgo ?_ <;> (repeat' first | exact trivial | intro hc | refine And.intro ?_ ?_) <;> refine Lf.mk ?_)
    refine bit_mk (and_mask (k := 32) (by decide) (by decide)) ?_
    rw [show (2 : Int) ^ 32 = 4294967296 from rfl]
    (all_goals refine qgo ?_ <;> (repeat' first | exact trivial | intro hc | refine And.intro ?_ ?_) <;> refine Lf.mk ?_)
    refine shr_lit (s := 31) (m := 2147483648) rfl (by decide) (by decide) ?_
    (all_goals refine qgo ?_ <;> (repeat' first | exact trivial | intro hc | refine And.intro ?_ ?_) <;> refine Lf.mk ?_)
    · refine shl_lit (s := 32) (m := 4294967296) rfl (by decide) (by decide) (by decide) (by decide) ?_
      (all_goals refine qgo ?_ <;> (repeat' first | exact trivial | intro hc | refine And.intro ?_ ?_) <;> refine Lf.mk ?_)
      refine end_p (VS.mk (LeD.of_eq (congrArg (D.int .i64) ?_)))
      rw [hd, if_pos hc]
      omega
    · refine end_p (VS.mk (LeD.of_eq (congrArg (D.int .i64) ?_)))
      rw [hd, if_neg hc]
end Go.Proofs.Ytdapgcdenpgnaaa

namespace Go.Proofs.Ytdapgcdenpgnaaa
open Go Go.Plat
set_option linter.unusedVariables false
set_option linter.unusedSimpArgs false
set_option maxRecDepth 100000
set_option maxHeartbeats 2000000
attribute [local irreducible] NilS LookS NormM bitI BytesS NormL Arith QuoS RemS ShlS ShrS BitS CatS SplitS SideS IdxS CallS LoopEnd EndS ModeS DrawS AWP Meets
attribute [local irreducible] irows infoR uses1 uses2 lowI highI maskI signedI

structure Ins where
  op : Int
  n : Int
  m : Int
  imm : Int
def insD (i : Ins) : D := .agg [.int .i64 i.op, .int .i64 i.n, .int .i64 i.m, .int .i64 i.imm]
def badReg (r : IRow) (i : Ins) : Prop := i.n < 0 ∨ 15 < i.n ∨ (uses1 r.shape = false ∧ i.n ≠ 0) ∨ i.m < 0 ∨ 15 < i.m ∨ (uses2 r.shape = false ∧ i.m ≠ 0) ∨ i.imm < lowI r.shape ∨ highI r.shape < i.imm
instance (r : IRow) (i : Ins) : Decidable (badReg r i) := by unfold badReg; infer_instance
def wrongI (i : Ins) : Int := match infoR i.op with
  | none => 1
  | some r => if badReg r i then 3 else 0

theorem irow_name : ∀ r ∈ irows, r.name ≠ [] := by unfold irows; decide
theorem infoR_mem {op : Int} {r : IRow} (h : infoR op = some r) : r ∈ irows ∧ r.op = op := by
  unfold infoR at h
  exact ⟨List.mem_of_find?_eq_some h, by simpa using List.find?_some h⟩

def bitsOf (op : Int) : Int := irows.foldl (fun b r => if r.op = op then r.bits else b) 0
theorem irow_bits : ∀ r ∈ irows, bitsOf r.op = r.bits ∧ 0 ≤ r.bits ∧ r.bits ≤ 65535 := by unfold bitsOf irows; decide
def encN (b n m v : Nat) : Nat := b ||| n * 256 ||| m * 16 ||| v
def encI (r : IRow) (i : Ins) : Int := (encN r.bits.toNat i.n.toNat i.m.toNat (i.imm % (if r.shape = 5 then 4096 else 256)).toNat : Nat)
def encV (i : Ins) : Int := match infoR i.op with | some r => encI r i | none => 0

theorem wrongI_0 {i : Ins} (h : wrongI i = 0) : ∃ r, infoR i.op = some r ∧ 0 ≤ i.n ∧ i.n ≤ 15 ∧ 0 ≤ i.m ∧ i.m ≤ 15 ∧ (uses1 r.shape = false → i.n = 0) ∧ (uses2 r.shape = false → i.m = 0) ∧ lowI r.shape ≤ i.imm ∧ i.imm ≤ highI r.shape := by
  unfold wrongI at h
  split at h
  · exact absurd h (by decide)
  · rename_i r hr
    split at h
    · exact absurd h (by decide)
    · rename_i hb
      unfold badReg at hb
      refine ⟨r, hr, by omega, by omega, by omega, by omega, fun h => ?_, fun h => ?_, by omega, by omega⟩
      · exact Classical.byContradiction fun h' => hb (.inr (.inr (.inl ⟨h, h'⟩)))
      · exact Classical.byContradiction fun h' => hb (.inr (.inr (.inr (.inr (.inr (.inl ⟨h, h'⟩))))))

theorem bits_step {op : Int} {k : Nat} {r : IRow} (h : irows[k]? = some r) : (irows.take (k + 1)).foldl (fun b r => if r.op = op then r.bits else b) 0 = if r.op = op then r.bits else (irows.take k).foldl (fun b r => if r.op = op then r.bits else b) 0 := by
  obtain ⟨hk, rfl⟩ := List.getElem?_eq_some_iff.1 h
  rw [List.take_succ_eq_append_getElem hk, List.foldl_append]
  rfl

theorem mask_bd (s : Int) : 0 ≤ maskI s ∧ maskI s ≤ 65535 := by unfold maskI; (repeat' split) <;> omega
def fitsR (w : Nat) (r : IRow) : Bool := ((w &&& (maskI r.shape).toNat : Nat) : Int) == r.bits
def decR (w : Nat) : Option IRow := irows.find? (fitsR w)
def immOf (w : Int) (s : Int) : Int := if s = 1 ∨ s = 4 then signedI w 8 else if s = 5 then signedI w 12 else if s = 7 ∨ s = 8 ∨ s = 11 then w % 256 else 0
def insOf (w : Int) (r : IRow) : Ins := ⟨r.op, if uses1 r.shape = true then w / 256 % 16 else 0, if uses2 r.shape = true then w / 16 % 16 else 0, immOf w r.shape⟩
def ins0 : Ins := ⟨0, 0, 0, 0⟩
def decI (w : Int) : Ins × Int := if w < 0 ∨ 65535 < w then (ins0, 3) else match decR w.toNat with
  | some r => (insOf w r, 0)
  | none => (ins0, 12)
theorem signed_meets2 : Meets Try.prog n_isa_Signed (SpecP (fun _ : Int => True) (fun n => [.int .i64 n]) fun n => .int .i64 (signedI n 32)) := by
  refine meets_f tabOk Try.func38 rfl (by decide) fun n _ => ?_
  refine ⟨Nat.le_refl _, by simp [Try.f38], fun E hE => ?_⟩
  refine vcOk _ ?_
  (all_goals refine qgo ?_ <;> (repeat' first | exact trivial | intro hc | refine And.intro ?_ ?_) <;> refine Lf.mk ?_)
  refine call_p signed_meets (n, 32) (.inr (.inr rfl)) (VS.mk (by (first | exact LeL.refl _ | (repeat' (first | exact LeL.nil | exact LeD.refl _ | exact LeD.nil _ | exact LeD.strip _ _ _ | refine LeL.cons ?_ ?_ | refine LeD.tup ?_ | refine LeD.agg ?_))))) ?_
  (all_goals refine qgo ?_ <;> (repeat' first | exact trivial | intro hc | refine And.intro ?_ ?_) <;> refine Lf.mk ?_)
  exact end_p (VS.mk (LeD.refl _))

theorem decode_meets : Meets Try.prog n_isa_Decode (SpecP (fun _ : Int => True) (fun w => [.int .i64 w]) fun w => .tup [insD (decI w).1, .int .i64 (decI w).2]) := by
  refine meets_f tabOk Try.func36 rfl (by decide) fun w _ => ?_
  refine ⟨Nat.le_refl _, by simp [Try.f36], fun E hE => ?_⟩
  refine vcOk _ ?_
  (all_goals refine qgo ?_ <;> (repeat' first | exact trivial | intro hc | refine And.intro ?_ ?_) <;> refine Lf.mk ?_)
  · refine end_p (VS.mk (LeD.of_eq ?_))
    rw [show decI w = (ins0, 3) by unfold decI; rw [if_pos (by omega)]]
    rfl
  · refine end_p (VS.mk (LeD.of_eq ?_))
    rw [show decI w = (ins0, 3) by unfold decI; rw [if_pos (by omega)]]
    rfl
  refine call_p rows_meets () trivial (VS.mk (by (first | exact LeL.refl _ | (repeat' (first | exact LeL.nil | exact LeD.refl _ | exact LeD.nil _ | exact LeD.strip _ _ _ | refine LeL.cons ?_ ?_ | refine LeD.tup ?_ | refine LeD.agg ?_))))) ?_
  (all_goals refine qgo ?_ <;> (repeat' first | exact trivial | intro hc | refine And.intro ?_ ?_) <;> refine Lf.mk ?_)
  obtain ⟨W, hW⟩ := Int.eq_ofNat_of_zero_le (show 0 ≤ w by omega)
  subst hW
  refine awp_loop (α := Nat) (fun k => k ≤ 27 ∧ ∀ (i : Nat) r, i < k → irows[i]? = some r → fitsR W r = false) (fun k => [(16, .sl 4 (irows.map irowD) none), (17, .int .i64 27), (18, .int .i64 k), (0, .int .i64 W), (2, .loc 0 0)])
    (fun _ => [.cells [.int .i64 0, .int .i64 0, .int .i64 0, .int .i64 0]]) (fun k => 27 - k) (fun _ => by simp [hE]) 0 ⟨Nat.zero_le _, by simp⟩ ?_ ?_
  · (repeat' (first | (refine VS.mk ?_) | exact trivial | exact rfl | refine And.intro ?_ ?_))
    all_goals (rw [irows_len]; rfl)
  rintro k ⟨hk, hno⟩
  refine vcOk _ ?_
  (all_goals refine qgo ?_ <;> (repeat' first | exact trivial | intro hc | refine And.intro ?_ ?_) <;> refine Lf.mk ?_)
  · obtain ⟨r, hr⟩ := at_of_lt (l := irows) (k := k) (by rw [irows_len]; omega)
    refine ix_map r (by omega) (by simpa using hr) ?_
    (all_goals refine qgo ?_ <;> (repeat' first | exact trivial | intro hc | refine And.intro ?_ ?_) <;> refine Lf.mk ?_)
    refine call_p mask_meets r.shape trivial (VS.mk (by (first | exact LeL.refl _ | (repeat' (first | exact LeL.nil | exact LeD.refl _ | exact LeD.nil _ | exact LeD.strip _ _ _ | refine LeL.cons ?_ ?_ | refine LeD.tup ?_ | refine LeD.agg ?_))))) ?_
    have hmb := mask_bd r.shape
    obtain ⟨X, hX⟩ := Int.eq_ofNat_of_zero_le hmb.1
    rw [hX]
    (all_goals refine qgo ?_ <;> (repeat' first | exact trivial | intro hc | refine And.intro ?_ ?_) <;> refine Lf.mk ?_)
    refine bit_mk (and_eq (a := W) (b := X) rfl rfl (by omega) (by omega)) ?_
    have hfit : fitsR W r = (((W &&& X : Nat) : Int) == r.bits) := by unfold fitsR; rw [hX]; rfl
    (all_goals refine qgo ?_ <;> (repeat' first | exact trivial | intro hc | refine And.intro ?_ ?_) <;> refine Lf.mk ?_)
    · refine loop_end (k + 1) ⟨by omega, no_step hno hr (by rw [hfit]; simpa using hc)⟩ (by omega) ?_
      (repeat' (first | (refine VS.mk ?_) | exact trivial | exact rfl | refine And.intro ?_ ?_))
    have hf := find_at hr (by rw [hfit]; simpa using hc) hno
    have hd : decI (W : Int) = (insOf W r, 0) := by
      unfold decI
      rw [if_neg (by omega)]
      simp only [Int.toNat_natCast, decR, hf]
    refine call_p uses_meets r.shape trivial (VS.mk (by (first | exact LeL.refl _ | (repeat' (first | exact LeL.nil | exact LeD.refl _ | exact LeD.nil _ | exact LeD.strip _ _ _ | refine LeL.cons ?_ ?_ | refine LeD.tup ?_ | refine LeD.agg ?_))))) ?_
    (all_goals refine qgo ?_ <;> (repeat' first | exact trivial | intro hc | refine And.intro ?_ ?_) <;> refine Lf.mk ?_)
    any_goals (first | (exfalso; clear hd hf hno hX hmb hfit; contradiction) | skip)
    any_goals (first | (refine call_p signed_meets (W, 8) (.inl rfl) (VS.mk (LeL.of_eq rfl)) ?_) | (refine call_p signed_meets (W, 12) (.inr (.inl rfl)) (VS.mk (LeL.of_eq rfl)) ?_) | skip)
    (all_goals refine qgo ?_ <;> (repeat' first | exact trivial | intro hc | refine And.intro ?_ ?_) <;> refine Lf.mk ?_)
    all_goals (refine end_p (VS.mk (LeD.of_eq ?_)); rw [hd])
    all_goals (clear hf hno hX hmb hfit hd; simp_all [insD, insOf, immOf])
  · have hf := no_end hno (by rw [irows_len]; omega)
    have hd : decI (W : Int) = (ins0, 12) := by
      unfold decI
      rw [if_neg (by omega)]
      simp only [Int.toNat_natCast, decR, hf]
    refine end_p (VS.mk (LeD.of_eq ?_))
    rw [hd]
    rfl
end Go.Proofs.Ytdapgcdenpgnaaa

namespace Go.Proofs.Ytdapgcdenpgnaaa
open Go Go.Plat
set_option linter.unusedVariables false
set_option linter.unusedSimpArgs false
set_option maxRecDepth 100000
set_option maxHeartbeats 2000000
attribute [local irreducible] NilS LookS NormM bitI BytesS NormL Arith QuoS RemS ShlS ShrS BitS CatS SplitS SideS IdxS CallS LoopEnd EndS ModeS DrawS AWP Meets

def allB (f : Nat → Bool) : Nat → Bool
  | 0 => true
  | n + 1 => match f n with
    | true => allB f n
    | false => false
theorem allB_at {f : Nat → Bool} : ∀ {n : Nat}, allB f n = true → ∀ i, i < n → f i = true
  | 0, _, i, h => by omega
  | n + 1, h, i, hi => by
    simp only [allB] at h
    split at h
    · rename_i h1
      rcases Nat.lt_or_ge i n with h2 | h2
      · exact allB_at h i h2
      · obtain rfl : i = n := by omega
        exact h1
    · cases h

theorem and_f00f {w : Nat} (h : w < 65536) : w &&& 61455 = w / 4096 * 4096 + w % 16 :=
  Nat.eq_of_beq_eq_true (allB_at (f := fun w => Nat.beq (w &&& 61455) (w / 4096 * 4096 + w % 16)) (n := 65536) (by kernel_rfl) w h)
theorem and_f0ff {w : Nat} (h : w < 65536) : w &&& 61695 = w / 4096 * 4096 + w % 256 :=
  Nat.eq_of_beq_eq_true (allB_at (f := fun w => Nat.beq (w &&& 61695) (w / 4096 * 4096 + w % 256)) (n := 65536) (by kernel_rfl) w h)
theorem and_ff00 {w : Nat} (h : w < 65536) : w &&& 65280 = w / 256 * 256 :=
  Nat.eq_of_beq_eq_true (allB_at (f := fun w => Nat.beq (w &&& 65280) (w / 256 * 256)) (n := 65536) (by kernel_rfl) w h)
theorem and_f000 {w : Nat} (h : w < 65536) : w &&& 61440 = w / 4096 * 4096 :=
  Nat.eq_of_beq_eq_true (allB_at (f := fun w => Nat.beq (w &&& 61440) (w / 4096 * 4096)) (n := 65536) (by kernel_rfl) w h)
theorem and_ffff {w : Nat} (h : w < 65536) : w &&& 65535 = w := by
  have := Nat.and_two_pow_sub_one_eq_mod w 16
  simp at this
  rw [this]; omega

def toB (r : IRow) : Nat × Nat × Nat := (r.shape.toNat, (maskI r.shape).toNat, r.bits.toNat)
def rowsB : List (Nat × Nat × Nat) := [(0, 65535, 9), (0, 65535, 11), (1, 61440, 57344), (1, 61440, 28672), (2, 61455, 24579), (2, 61455, 12300), (2, 61455, 12296), (2, 61455, 8201), (2, 61455, 8203), (2, 61455, 8202), (2, 61455, 8200), (2, 61455, 12288), (2, 61455, 12295), (3, 61695, 16384), (3, 61695, 16385), (3, 61695, 16400), (4, 65280, 35072), (4, 65280, 35584), (5, 61440, 40960), (5, 61440, 45056), (6, 61695, 16427), (6, 61695, 16395), (7, 61440, 36864), (8, 61440, 53248), (9, 61455, 8194), (10, 61455, 24578), (11, 65280, 49920)]
theorem rowsB_eq : irows.map toB = rowsB := by unfold irows toB maskI; rfl
def idxB (w : Nat) : List (Nat × Nat × Nat) → Nat → Nat
  | [], k => k
  | p :: l, k => match Nat.beq (w &&& p.2.1) p.2.2 with
    | true => k
    | false => idxB w l (k + 1)
theorem idxB_ge (w : Nat) : ∀ l k, k ≤ idxB w l k
  | [], k => Nat.le_refl _
  | p :: l, k => by
    simp only [idxB]
    split
    · exact Nat.le_refl _
    · have := idxB_ge w l (k + 1); omega
theorem find_idx (w : Nat) : ∀ (l : List IRow) (k j : Nat), (∀ r ∈ l, 0 ≤ r.bits) → idxB w (l.map toB) k = k + j → l.find? (fitsR w) = l[j]?
  | [], k, j, _, _ => by simp
  | r :: l, k, j, hb, h => by
    have h0 := hb r (by simp)
    simp only [List.map_cons, idxB, toB] at h
    have hf : fitsR w r = Nat.beq (w &&& (maskI r.shape).toNat) r.bits.toNat := by
      unfold fitsR
      rw [Bool.eq_iff_iff]
      constructor
      · intro h
        have h := LawfulBEq.eq_of_beq h
        rw [← h]
        exact Nat.beq_refl _
      · intro h
        have h := Nat.eq_of_beq_eq_true h
        rw [h, Int.toNat_of_nonneg h0]
        exact beq_self_eq_true _
    rw [List.find?_cons, hf]
    split at h
    · rename_i hb
      obtain rfl : j = 0 := by omega
      rw [hb]
      rfl
    · rename_i hn
      have := idxB_ge w (l.map toB) (k + 1)
      cases j with
      | zero => omega
      | succ j =>
        rw [hn]
        exact find_idx w l (k + 1) j (fun r hr => hb r (by simp [hr])) (by omega)

def fB (j b n m v : Nat) : Bool := match Nat.beq (b ||| n * 256 ||| m * 16 ||| v) (b + n * 256 + m * 16 + v) with
  | true => Nat.beq (idxB (b + n * 256 + m * 16 + v) rowsB 0) j
  | false => false
theorem fB_eq {j b n m v : Nat} (h : fB j b n m v = true) : encN b n m v = b + n * 256 + m * 16 + v ∧ idxB (b + n * 256 + m * 16 + v) rowsB 0 = j := by
  unfold fB at h
  split at h
  · rename_i h1
    exact ⟨Nat.eq_of_beq_eq_true h1, Nat.eq_of_beq_eq_true h⟩
  · cases h
def formB (s : Nat) (f : Nat → Nat → Nat → Bool) : Bool :=
  match s with
  | 0 => f 0 0 0
  | 1 => allB (fun n => allB (fun v => f n 0 v) 256) 16
  | 7 => allB (fun n => allB (fun v => f n 0 v) 256) 16
  | 8 => allB (fun n => allB (fun v => f n 0 v) 256) 16
  | 2 => allB (fun n => allB (fun m => f n m 0) 16) 16
  | 9 => allB (fun n => allB (fun m => f n m 0) 16) 16
  | 10 => allB (fun n => allB (fun m => f n m 0) 16) 16
  | 3 => allB (fun n => f n 0 0) 16
  | 6 => allB (fun n => f n 0 0) 16
  | 4 => allB (fun v => f 0 0 v) 256
  | 11 => allB (fun v => f 0 0 v) 256
  | _ => allB (fun v => f 0 0 v) 4096
theorem forms : ∀ j, j < 27 → (match rowsB[j]? with | some p => formB p.1 (fB j p.2.2) | none => true) = true :=
  allB_at (n := 27) (by kernel_rfl)

theorem irow_shape : ∀ r ∈ irows, (r.shape = 0 ∨ ((r.shape = 1 ∨ r.shape = 7 ∨ r.shape = 8) ∧ r.bits % 4096 = 0) ∨ ((r.shape = 2 ∨ r.shape = 9 ∨ r.shape = 10) ∧ r.bits % 4096 < 16) ∨ ((r.shape = 3 ∨ r.shape = 6) ∧ r.bits % 4096 < 256) ∨
    ((r.shape = 4 ∨ r.shape = 11) ∧ r.bits % 256 = 0) ∨ (r.shape = 5 ∧ r.bits % 4096 = 0)) := by unfold irows; decide
theorem irow_info : ∀ r ∈ irows, infoR r.op = some r := by
  have h : ∀ j, j < 27 → (match irows[j]? with | some r => (infoR r.op).map (·.bits) == some r.bits && (infoR r.op).map (·.op) == some r.op && (infoR r.op).map (·.shape) == some r.shape && (infoR r.op).map (·.name) == some r.name | none => true) = true :=
    allB_at (n := 27) (by unfold infoR irows; kernel_rfl)
  intro r hr
  obtain ⟨j, hj⟩ := List.getElem?_of_mem hr
  have hjl : j < 27 := by have := (List.getElem?_eq_some_iff.1 hj).1; rwa [irows_len] at this
  have := h j hjl
  rw [hj] at this
  simp only [Bool.and_eq_true, beq_iff_eq] at this
  obtain ⟨⟨⟨h1, h2⟩, h3⟩, h4⟩ := this
  cases hi : infoR r.op with
  | none => rw [hi] at h1; cases h1
  | some q =>
    rw [hi] at h1 h2 h3 h4
    simp at h1 h2 h3 h4
    cases q; cases r
    simp at h1 h2 h3 h4 ⊢
    exact ⟨h2, h4, h3, h1⟩
end Go.Proofs.Ytdapgcdenpgnaaa

namespace Go.Proofs.Ytdapgcdenpgnaaa
open Go Go.Plat
set_option linter.unusedVariables false
set_option linter.unusedSimpArgs false
set_option maxRecDepth 100000
set_option maxHeartbeats 2000000
attribute [local irreducible] NilS LookS NormM bitI BytesS NormL Arith QuoS RemS ShlS ShrS BitS CatS SplitS SideS IdxS CallS LoopEnd EndS ModeS DrawS AWP Meets
attribute [local irreducible] irows infoR rowsB allB decR

theorem row_form {r : IRow} {j : Nat} (hj : irows[j]? = some r) : formB r.shape.toNat (fB j r.bits.toNat) = true := by
  have hjl : j < 27 := by have := (List.getElem?_eq_some_iff.1 hj).1; rwa [irows_len] at this
  have h := forms j hjl
  rw [← rowsB_eq, List.getElem?_map, hj] at h
  exact h

theorem dec_of {r : IRow} {j w : Nat} (hj : irows[j]? = some r) (h : idxB w rowsB 0 = j) : decR w = some r := by
  unfold decR
  rw [find_idx w irows 0 j (fun r hr => (irow_bits r hr).2.1) (by rw [rowsB_eq, h]; omega), hj]

/-- what a row and its numbers come to, and that it is found again -/
theorem row_code {r : IRow} (hr : r ∈ irows) {n m v : Nat} (h : (r.shape = 0 ∧ n = 0 ∧ m = 0 ∧ v = 0) ∨ ((r.shape = 1 ∨ r.shape = 7 ∨ r.shape = 8) ∧ n < 16 ∧ m = 0 ∧ v < 256) ∨ ((r.shape = 2 ∨ r.shape = 9 ∨ r.shape = 10) ∧ n < 16 ∧ m < 16 ∧ v = 0) ∨
    ((r.shape = 3 ∨ r.shape = 6) ∧ n < 16 ∧ m = 0 ∧ v = 0) ∨ ((r.shape = 4 ∨ r.shape = 11) ∧ n = 0 ∧ m = 0 ∧ v < 256) ∨ (r.shape = 5 ∧ n = 0 ∧ m = 0 ∧ v < 4096)) :
    encN r.bits.toNat n m v = r.bits.toNat + n * 256 + m * 16 + v ∧ decR (r.bits.toNat + n * 256 + m * 16 + v) = some r := by
  obtain ⟨j, hj⟩ := List.getElem?_of_mem hr
  have hf := row_form hj
  have key : fB j r.bits.toNat n m v = true := by
    rcases h with ⟨h, rfl, rfl, rfl⟩ | ⟨h | h | h, hn, rfl, hv⟩ | ⟨h | h | h, hn, hm, rfl⟩ | ⟨h | h, hn, rfl, rfl⟩ | ⟨h | h, rfl, rfl, hv⟩ | ⟨h, rfl, rfl, hv⟩ <;> rw [h] at hf
    · exact hf
    · exact allB_at (allB_at (f := fun n => allB (fun v => fB j r.bits.toNat n 0 v) 256) hf n hn) v hv
    · exact allB_at (allB_at (f := fun n => allB (fun v => fB j r.bits.toNat n 0 v) 256) hf n hn) v hv
    · exact allB_at (allB_at (f := fun n => allB (fun v => fB j r.bits.toNat n 0 v) 256) hf n hn) v hv
    · exact allB_at (f := fun m => fB j r.bits.toNat n m 0) (allB_at (f := fun n => allB (fun m => fB j r.bits.toNat n m 0) 16) hf n hn) m hm
    · exact allB_at (f := fun m => fB j r.bits.toNat n m 0) (allB_at (f := fun n => allB (fun m => fB j r.bits.toNat n m 0) 16) hf n hn) m hm
    · exact allB_at (f := fun m => fB j r.bits.toNat n m 0) (allB_at (f := fun n => allB (fun m => fB j r.bits.toNat n m 0) 16) hf n hn) m hm
    · exact allB_at (f := fun n => fB j r.bits.toNat n 0 0) hf n hn
    · exact allB_at (f := fun n => fB j r.bits.toNat n 0 0) hf n hn
    · exact allB_at (f := fun v => fB j r.bits.toNat 0 0 v) hf v hv
    · exact allB_at (f := fun v => fB j r.bits.toNat 0 0 v) hf v hv
    · exact allB_at (f := fun v => fB j r.bits.toNat 0 0 v) hf v hv
  obtain ⟨h1, h2⟩ := fB_eq key
  exact ⟨h1, dec_of hj h2⟩

theorem signed8 (n : Int) : signedI n 8 = if n % 256 / 128 = 1 then n % 256 - 256 else n % 256 := rfl
theorem signed12 (n : Int) : signedI n 12 = if n % 4096 / 2048 = 1 then n % 4096 - 4096 else n % 4096 := rfl

/-- an instruction that may be comes back -/
theorem turn1 {i : Ins} (h : wrongI i = 0) : 0 ≤ encV i ∧ encV i ≤ 65535 ∧ decI (encV i) = (i, 0) := by
  obtain ⟨r, hi, h1, h2, h3, h4, h5, h6, h7, h8⟩ := wrongI_0 h
  obtain ⟨hm, ho⟩ := infoR_mem hi
  obtain ⟨_, b2, b3⟩ := irow_bits r hm
  obtain ⟨N, hN⟩ := Int.eq_ofNat_of_zero_le h1
  obtain ⟨M, hM⟩ := Int.eq_ofNat_of_zero_le h3
  obtain ⟨B, hB⟩ := Int.eq_ofNat_of_zero_le b2
  have he : encV i = encI r i := by unfold encV; rw [hi]
  have fin : ∀ V : Nat, encI r i = (encN B N M V : Nat) → encN B N M V = B + N * 256 + M * 16 + V → decR (B + N * 256 + M * 16 + V) = some r → B + N * 256 + M * 16 + V < 65536 →
      insOf ((B + N * 256 + M * 16 + V : Nat) : Int) r = i → 0 ≤ encV i ∧ encV i ≤ 65535 ∧ decI (encV i) = (i, 0) := by
    intro V e1 e2 e3 e4 e5
    rw [he, e1, e2]
    refine ⟨by omega, by omega, ?_⟩
    unfold decI
    rw [if_neg (by omega)]
    simp only [Int.toNat_natCast, e3, e5]
  have hins : ∀ W : Int, insOf W r = i ↔ (if uses1 r.shape = true then W / 256 % 16 else 0) = i.n ∧ (if uses2 r.shape = true then W / 16 % 16 else 0) = i.m ∧ immOf W r.shape = i.imm := by
    intro W
    unfold insOf
    obtain ⟨op, n, m, imm⟩ := i
    simp only [Ins.mk.injEq] at *
    simp [ho]
  have hcode := fun V => row_code hm (n := N) (m := M) (v := V)
  rw [hB, Int.toNat_natCast] at hcode
  have hsh := irow_shape r hm
  rw [hB] at hsh b3
  rcases hsh with hs | ⟨hs, hb⟩ | ⟨hs, hb⟩ | ⟨hs, hb⟩ | ⟨hs, hb⟩ | ⟨hs, hb⟩
  · have u1 : uses1 r.shape = false := by rw [hs]; rfl
    have u2 : uses2 r.shape = false := by rw [hs]; rfl
    have hlo : lowI r.shape = 0 := by rw [hs]; rfl
    have hhi : highI r.shape = 0 := by rw [hs]; rfl
    have hn0 := h5 u1
    have hm0 := h6 u2
    obtain ⟨V, hV⟩ := Int.eq_ofNat_of_zero_le (Int.emod_nonneg i.imm (show (256 : Int) ≠ 0 by decide))
    have hV2 := Int.emod_lt_of_pos i.imm (show (0 : Int) < 256 by decide)
    have hc := hcode V (by omega)
    refine fin V ?_ hc.1 hc.2 (by omega) ((hins _).2 ⟨?_, ?_, ?_⟩)
    · unfold encI; rw [if_neg (by omega), hV, hB, hN, hM]; rfl
    · rw [if_neg (by rw [u1]; decide)]; omega
    · rw [if_neg (by rw [u2]; decide)]; omega
    · unfold immOf; rw [if_neg (by omega), if_neg (by omega), if_neg (by omega)]; omega
  · rcases hs with hs | hs | hs
    · have u1 : uses1 r.shape = true := by rw [hs]; rfl
      have u2 : uses2 r.shape = false := by rw [hs]; rfl
      have hlo : lowI r.shape = -128 := by rw [hs]; rfl
      have hhi : highI r.shape = 127 := by rw [hs]; rfl
      have hm0 := h6 u2
      obtain ⟨V, hV⟩ := Int.eq_ofNat_of_zero_le (Int.emod_nonneg i.imm (show (256 : Int) ≠ 0 by decide))
      have hV2 := Int.emod_lt_of_pos i.imm (show (0 : Int) < 256 by decide)
      have hc := hcode V (by omega)
      refine fin V ?_ hc.1 hc.2 (by omega) ((hins _).2 ⟨?_, ?_, ?_⟩)
      · unfold encI; rw [if_neg (by omega), hV, hB, hN, hM]; rfl
      · rw [if_pos u1]; omega
      · rw [if_neg (by rw [u2]; decide)]; omega
      · unfold immOf; rw [if_pos (by omega), signed8]; split <;> omega
    · have u1 : uses1 r.shape = true := by rw [hs]; rfl
      have u2 : uses2 r.shape = false := by rw [hs]; rfl
      have hlo : lowI r.shape = 0 := by rw [hs]; rfl
      have hhi : highI r.shape = 255 := by rw [hs]; rfl
      have hm0 := h6 u2
      obtain ⟨V, hV⟩ := Int.eq_ofNat_of_zero_le (Int.emod_nonneg i.imm (show (256 : Int) ≠ 0 by decide))
      have hV2 := Int.emod_lt_of_pos i.imm (show (0 : Int) < 256 by decide)
      have hc := hcode V (by omega)
      refine fin V ?_ hc.1 hc.2 (by omega) ((hins _).2 ⟨?_, ?_, ?_⟩)
      · unfold encI; rw [if_neg (by omega), hV, hB, hN, hM]; rfl
      · rw [if_pos u1]; omega
      · rw [if_neg (by rw [u2]; decide)]; omega
      · unfold immOf; rw [if_neg (by omega), if_neg (by omega), if_pos (by omega)]; omega
    · have u1 : uses1 r.shape = true := by rw [hs]; rfl
      have u2 : uses2 r.shape = false := by rw [hs]; rfl
      have hlo : lowI r.shape = 0 := by rw [hs]; rfl
      have hhi : highI r.shape = 255 := by rw [hs]; rfl
      have hm0 := h6 u2
      obtain ⟨V, hV⟩ := Int.eq_ofNat_of_zero_le (Int.emod_nonneg i.imm (show (256 : Int) ≠ 0 by decide))
      have hV2 := Int.emod_lt_of_pos i.imm (show (0 : Int) < 256 by decide)
      have hc := hcode V (by omega)
      refine fin V ?_ hc.1 hc.2 (by omega) ((hins _).2 ⟨?_, ?_, ?_⟩)
      · unfold encI; rw [if_neg (by omega), hV, hB, hN, hM]; rfl
      · rw [if_pos u1]; omega
      · rw [if_neg (by rw [u2]; decide)]; omega
      · unfold immOf; rw [if_neg (by omega), if_neg (by omega), if_pos (by omega)]; omega
  · rcases hs with hs | hs | hs
    · have u1 : uses1 r.shape = true := by rw [hs]; rfl
      have u2 : uses2 r.shape = true := by rw [hs]; rfl
      have hlo : lowI r.shape = 0 := by rw [hs]; rfl
      have hhi : highI r.shape = 0 := by rw [hs]; rfl
      obtain ⟨V, hV⟩ := Int.eq_ofNat_of_zero_le (Int.emod_nonneg i.imm (show (256 : Int) ≠ 0 by decide))
      have hV2 := Int.emod_lt_of_pos i.imm (show (0 : Int) < 256 by decide)
      have hc := hcode V (by omega)
      refine fin V ?_ hc.1 hc.2 (by omega) ((hins _).2 ⟨?_, ?_, ?_⟩)
      · unfold encI; rw [if_neg (by omega), hV, hB, hN, hM]; rfl
      · rw [if_pos u1]; omega
      · rw [if_pos u2]; omega
      · unfold immOf; rw [if_neg (by omega), if_neg (by omega), if_neg (by omega)]; omega
    · have u1 : uses1 r.shape = true := by rw [hs]; rfl
      have u2 : uses2 r.shape = true := by rw [hs]; rfl
      have hlo : lowI r.shape = 0 := by rw [hs]; rfl
      have hhi : highI r.shape = 0 := by rw [hs]; rfl
      obtain ⟨V, hV⟩ := Int.eq_ofNat_of_zero_le (Int.emod_nonneg i.imm (show (256 : Int) ≠ 0 by decide))
      have hV2 := Int.emod_lt_of_pos i.imm (show (0 : Int) < 256 by decide)
      have hc := hcode V (by omega)
      refine fin V ?_ hc.1 hc.2 (by omega) ((hins _).2 ⟨?_, ?_, ?_⟩)
      · unfold encI; rw [if_neg (by omega), hV, hB, hN, hM]; rfl
      · rw [if_pos u1]; omega
      · rw [if_pos u2]; omega
      · unfold immOf; rw [if_neg (by omega), if_neg (by omega), if_neg (by omega)]; omega
    · have u1 : uses1 r.shape = true := by rw [hs]; rfl
      have u2 : uses2 r.shape = true := by rw [hs]; rfl
      have hlo : lowI r.shape = 0 := by rw [hs]; rfl
      have hhi : highI r.shape = 0 := by rw [hs]; rfl
      obtain ⟨V, hV⟩ := Int.eq_ofNat_of_zero_le (Int.emod_nonneg i.imm (show (256 : Int) ≠ 0 by decide))
      have hV2 := Int.emod_lt_of_pos i.imm (show (0 : Int) < 256 by decide)
      have hc := hcode V (by omega)
      refine fin V ?_ hc.1 hc.2 (by omega) ((hins _).2 ⟨?_, ?_, ?_⟩)
      · unfold encI; rw [if_neg (by omega), hV, hB, hN, hM]; rfl
      · rw [if_pos u1]; omega
      · rw [if_pos u2]; omega
      · unfold immOf; rw [if_neg (by omega), if_neg (by omega), if_neg (by omega)]; omega
  · rcases hs with hs | hs
    · have u1 : uses1 r.shape = true := by rw [hs]; rfl
      have u2 : uses2 r.shape = false := by rw [hs]; rfl
      have hlo : lowI r.shape = 0 := by rw [hs]; rfl
      have hhi : highI r.shape = 0 := by rw [hs]; rfl
      have hm0 := h6 u2
      obtain ⟨V, hV⟩ := Int.eq_ofNat_of_zero_le (Int.emod_nonneg i.imm (show (256 : Int) ≠ 0 by decide))
      have hV2 := Int.emod_lt_of_pos i.imm (show (0 : Int) < 256 by decide)
      have hc := hcode V (by omega)
      refine fin V ?_ hc.1 hc.2 (by omega) ((hins _).2 ⟨?_, ?_, ?_⟩)
      · unfold encI; rw [if_neg (by omega), hV, hB, hN, hM]; rfl
      · rw [if_pos u1]; omega
      · rw [if_neg (by rw [u2]; decide)]; omega
      · unfold immOf; rw [if_neg (by omega), if_neg (by omega), if_neg (by omega)]; omega
    · have u1 : uses1 r.shape = true := by rw [hs]; rfl
      have u2 : uses2 r.shape = false := by rw [hs]; rfl
      have hlo : lowI r.shape = 0 := by rw [hs]; rfl
      have hhi : highI r.shape = 0 := by rw [hs]; rfl
      have hm0 := h6 u2
      obtain ⟨V, hV⟩ := Int.eq_ofNat_of_zero_le (Int.emod_nonneg i.imm (show (256 : Int) ≠ 0 by decide))
      have hV2 := Int.emod_lt_of_pos i.imm (show (0 : Int) < 256 by decide)
      have hc := hcode V (by omega)
      refine fin V ?_ hc.1 hc.2 (by omega) ((hins _).2 ⟨?_, ?_, ?_⟩)
      · unfold encI; rw [if_neg (by omega), hV, hB, hN, hM]; rfl
      · rw [if_pos u1]; omega
      · rw [if_neg (by rw [u2]; decide)]; omega
      · unfold immOf; rw [if_neg (by omega), if_neg (by omega), if_neg (by omega)]; omega
  · rcases hs with hs | hs
    · have u1 : uses1 r.shape = false := by rw [hs]; rfl
      have u2 : uses2 r.shape = false := by rw [hs]; rfl
      have hlo : lowI r.shape = -128 := by rw [hs]; rfl
      have hhi : highI r.shape = 127 := by rw [hs]; rfl
      have hn0 := h5 u1
      have hm0 := h6 u2
      obtain ⟨V, hV⟩ := Int.eq_ofNat_of_zero_le (Int.emod_nonneg i.imm (show (256 : Int) ≠ 0 by decide))
      have hV2 := Int.emod_lt_of_pos i.imm (show (0 : Int) < 256 by decide)
      have hc := hcode V (by omega)
      refine fin V ?_ hc.1 hc.2 (by omega) ((hins _).2 ⟨?_, ?_, ?_⟩)
      · unfold encI; rw [if_neg (by omega), hV, hB, hN, hM]; rfl
      · rw [if_neg (by rw [u1]; decide)]; omega
      · rw [if_neg (by rw [u2]; decide)]; omega
      · unfold immOf; rw [if_pos (by omega), signed8]; split <;> omega
    · have u1 : uses1 r.shape = false := by rw [hs]; rfl
      have u2 : uses2 r.shape = false := by rw [hs]; rfl
      have hlo : lowI r.shape = 0 := by rw [hs]; rfl
      have hhi : highI r.shape = 255 := by rw [hs]; rfl
      have hn0 := h5 u1
      have hm0 := h6 u2
      obtain ⟨V, hV⟩ := Int.eq_ofNat_of_zero_le (Int.emod_nonneg i.imm (show (256 : Int) ≠ 0 by decide))
      have hV2 := Int.emod_lt_of_pos i.imm (show (0 : Int) < 256 by decide)
      have hc := hcode V (by omega)
      refine fin V ?_ hc.1 hc.2 (by omega) ((hins _).2 ⟨?_, ?_, ?_⟩)
      · unfold encI; rw [if_neg (by omega), hV, hB, hN, hM]; rfl
      · rw [if_neg (by rw [u1]; decide)]; omega
      · rw [if_neg (by rw [u2]; decide)]; omega
      · unfold immOf; rw [if_neg (by omega), if_neg (by omega), if_pos (by omega)]; omega
  · have u1 : uses1 r.shape = false := by rw [hs]; rfl
    have u2 : uses2 r.shape = false := by rw [hs]; rfl
    have hlo : lowI r.shape = -2048 := by rw [hs]; rfl
    have hhi : highI r.shape = 2047 := by rw [hs]; rfl
    have hn0 := h5 u1
    have hm0 := h6 u2
    obtain ⟨V, hV⟩ := Int.eq_ofNat_of_zero_le (Int.emod_nonneg i.imm (show (4096 : Int) ≠ 0 by decide))
    have hV2 := Int.emod_lt_of_pos i.imm (show (0 : Int) < 4096 by decide)
    have hc := hcode V (by omega)
    refine fin V ?_ hc.1 hc.2 (by omega) ((hins _).2 ⟨?_, ?_, ?_⟩)
    · unfold encI; rw [if_pos hs, hV, hB, hN, hM]; rfl
    · rw [if_neg (by rw [u1]; decide)]; omega
    · rw [if_neg (by rw [u2]; decide)]; omega
    · unfold immOf; rw [if_neg (by omega), if_pos hs, signed12]; split <;> omega
end Go.Proofs.Ytdapgcdenpgnaaa

namespace Go.Proofs.Ytdapgcdenpgnaaa
open Go Go.Plat
set_option linter.unusedVariables false
set_option linter.unusedSimpArgs false
set_option maxRecDepth 100000
set_option maxHeartbeats 2000000
attribute [local irreducible] NilS LookS NormM bitI BytesS NormL Arith QuoS RemS ShlS ShrS BitS CatS SplitS SideS IdxS CallS LoopEnd EndS ModeS DrawS AWP Meets
attribute [local irreducible] irows infoR rowsB allB decR

theorem wrong_of {r : IRow} {i : Ins} (hi : infoR i.op = some r) (h : ¬ badReg r i) : wrongI i = 0 := by
  unfold wrongI
  rw [hi]
  exact if_neg h

theorem turn2_row {W : Nat} {r : IRow} (hW : W < 65536) (hd : decR W = some r) : wrongI (insOf W r) = 0 ∧ encV (insOf W r) = W := by
  have hm : r ∈ irows ∧ fitsR W r = true := by
    unfold decR at hd
    exact ⟨List.mem_of_find?_eq_some hd, List.find?_some hd⟩
  obtain ⟨hm, hf⟩ := hm
  obtain ⟨_, b2, b3⟩ := irow_bits r hm
  obtain ⟨B, hB⟩ := Int.eq_ofNat_of_zero_le b2
  have hinfo : infoR (insOf W r).op = some r := irow_info r hm
  have hf : ((W &&& (maskI r.shape).toNat : Nat) : Int) = r.bits := LawfulBEq.eq_of_beq hf
  rw [hB] at hf
  have hcode := fun n m v => row_code hm (n := n) (m := m) (v := v)
  rw [hB, Int.toNat_natCast] at hcode
  have hsh := irow_shape r hm
  rw [hB] at hsh b3
  have fin : ∀ N M V : Nat, (insOf W r).n = N → (insOf W r).m = M → ((insOf W r).imm % (if r.shape = 5 then 4096 else 256)).toNat = V → encN B N M V = B + N * 256 + M * 16 + V → W = B + N * 256 + M * 16 + V → encV (insOf W r) = W := by
    intro N M V e1 e2 e3 e4 e5
    unfold encV
    rw [hinfo]
    show encI r (insOf W r) = W
    unfold encI
    rw [e1, e2, e3, hB, Int.toNat_natCast, Int.toNat_natCast, Int.toNat_natCast, e4]
    omega
  rcases hsh with hs | ⟨hs, hb⟩ | ⟨hs, hb⟩ | ⟨hs, hb⟩ | ⟨hs, hb⟩ | ⟨hs, hb⟩
  · have u1 : uses1 r.shape = false := by rw [hs]; rfl
    have u2 : uses2 r.shape = false := by rw [hs]; rfl
    have hlo : lowI r.shape = 0 := by rw [hs]; rfl
    have hhi : highI r.shape = 0 := by rw [hs]; rfl
    rw [show (maskI r.shape).toNat = 65535 by rw [hs]; rfl, and_ffff hW] at hf
    have en : (insOf W r).n = ((0 : Nat) : Int) := if_neg (by rw [u1]; decide)
    have em : (insOf W r).m = ((0 : Nat) : Int) := if_neg (by rw [u2]; decide)
    have ei : (insOf W r).imm = 0 := by show immOf W r.shape = _; unfold immOf; rw [if_neg (by omega), if_neg (by omega), if_neg (by omega)]
    have hv : 0 ≤ 0 ∧ 0 ≤ 0 := by omega
    have ew : ((insOf W r).imm % (if r.shape = 5 then 4096 else 256)).toNat = 0 := by rw [ei, if_neg (by omega)]; rfl
    refine ⟨wrong_of hinfo ?_, fin (0) (0) (0) en em ew (hcode _ _ _ (by omega)).1 (by omega)⟩
    unfold badReg
    rw [en, em, ei, u1, u2, hlo, hhi]
    rintro (h | h | ⟨h, h'⟩ | h | h | ⟨h, h'⟩ | h | h) <;> first | omega | cases h | exact h' rfl
  · rcases hs with hs | hs | hs
    · have u1 : uses1 r.shape = true := by rw [hs]; rfl
      have u2 : uses2 r.shape = false := by rw [hs]; rfl
      have hlo : lowI r.shape = -128 := by rw [hs]; rfl
      have hhi : highI r.shape = 127 := by rw [hs]; rfl
      rw [show (maskI r.shape).toNat = 61440 by rw [hs]; rfl, and_f000 hW] at hf
      have en : (insOf W r).n = ((W / 256 % 16 : Nat) : Int) := if_pos u1
      have em : (insOf W r).m = ((0 : Nat) : Int) := if_neg (by rw [u2]; decide)
      have ei : (insOf W r).imm = signedI W 8 := by show immOf W r.shape = _; unfold immOf; rw [if_pos (by omega)]
      have hv : -128 ≤ signedI W 8 ∧ signedI W 8 ≤ 127 := by rw [signed8]; split <;> omega
      have ew : ((insOf W r).imm % (if r.shape = 5 then 4096 else 256)).toNat = W % 256 := by rw [ei, if_neg (by omega)]; rw [signed8]; split <;> omega
      refine ⟨wrong_of hinfo ?_, fin (W / 256 % 16) (0) (W % 256) en em ew (hcode _ _ _ (by omega)).1 (by omega)⟩
      unfold badReg
      rw [en, em, ei, u1, u2, hlo, hhi]
      rintro (h | h | ⟨h, h'⟩ | h | h | ⟨h, h'⟩ | h | h) <;> first | omega | cases h | exact h' rfl
    · have u1 : uses1 r.shape = true := by rw [hs]; rfl
      have u2 : uses2 r.shape = false := by rw [hs]; rfl
      have hlo : lowI r.shape = 0 := by rw [hs]; rfl
      have hhi : highI r.shape = 255 := by rw [hs]; rfl
      rw [show (maskI r.shape).toNat = 61440 by rw [hs]; rfl, and_f000 hW] at hf
      have en : (insOf W r).n = ((W / 256 % 16 : Nat) : Int) := if_pos u1
      have em : (insOf W r).m = ((0 : Nat) : Int) := if_neg (by rw [u2]; decide)
      have ei : (insOf W r).imm = (W : Int) % 256 := by show immOf W r.shape = _; unfold immOf; rw [if_neg (by omega), if_neg (by omega), if_pos (by omega)]
      have hv : 0 ≤ (W : Int) % 256 ∧ (W : Int) % 256 ≤ 255 := by omega
      have ew : ((insOf W r).imm % (if r.shape = 5 then 4096 else 256)).toNat = W % 256 := by rw [ei, if_neg (by omega)]; omega
      refine ⟨wrong_of hinfo ?_, fin (W / 256 % 16) (0) (W % 256) en em ew (hcode _ _ _ (by omega)).1 (by omega)⟩
      unfold badReg
      rw [en, em, ei, u1, u2, hlo, hhi]
      rintro (h | h | ⟨h, h'⟩ | h | h | ⟨h, h'⟩ | h | h) <;> first | omega | cases h | exact h' rfl
    · have u1 : uses1 r.shape = true := by rw [hs]; rfl
      have u2 : uses2 r.shape = false := by rw [hs]; rfl
      have hlo : lowI r.shape = 0 := by rw [hs]; rfl
      have hhi : highI r.shape = 255 := by rw [hs]; rfl
      rw [show (maskI r.shape).toNat = 61440 by rw [hs]; rfl, and_f000 hW] at hf
      have en : (insOf W r).n = ((W / 256 % 16 : Nat) : Int) := if_pos u1
      have em : (insOf W r).m = ((0 : Nat) : Int) := if_neg (by rw [u2]; decide)
      have ei : (insOf W r).imm = (W : Int) % 256 := by show immOf W r.shape = _; unfold immOf; rw [if_neg (by omega), if_neg (by omega), if_pos (by omega)]
      have hv : 0 ≤ (W : Int) % 256 ∧ (W : Int) % 256 ≤ 255 := by omega
      have ew : ((insOf W r).imm % (if r.shape = 5 then 4096 else 256)).toNat = W % 256 := by rw [ei, if_neg (by omega)]; omega
      refine ⟨wrong_of hinfo ?_, fin (W / 256 % 16) (0) (W % 256) en em ew (hcode _ _ _ (by omega)).1 (by omega)⟩
      unfold badReg
      rw [en, em, ei, u1, u2, hlo, hhi]
      rintro (h | h | ⟨h, h'⟩ | h | h | ⟨h, h'⟩ | h | h) <;> first | omega | cases h | exact h' rfl
  · rcases hs with hs | hs | hs
    · have u1 : uses1 r.shape = true := by rw [hs]; rfl
      have u2 : uses2 r.shape = true := by rw [hs]; rfl
      have hlo : lowI r.shape = 0 := by rw [hs]; rfl
      have hhi : highI r.shape = 0 := by rw [hs]; rfl
      rw [show (maskI r.shape).toNat = 61455 by rw [hs]; rfl, and_f00f hW] at hf
      have en : (insOf W r).n = ((W / 256 % 16 : Nat) : Int) := if_pos u1
      have em : (insOf W r).m = ((W / 16 % 16 : Nat) : Int) := if_pos u2
      have ei : (insOf W r).imm = 0 := by show immOf W r.shape = _; unfold immOf; rw [if_neg (by omega), if_neg (by omega), if_neg (by omega)]
      have hv : 0 ≤ 0 ∧ 0 ≤ 0 := by omega
      have ew : ((insOf W r).imm % (if r.shape = 5 then 4096 else 256)).toNat = 0 := by rw [ei, if_neg (by omega)]; rfl
      refine ⟨wrong_of hinfo ?_, fin (W / 256 % 16) (W / 16 % 16) (0) en em ew (hcode _ _ _ (by omega)).1 (by omega)⟩
      unfold badReg
      rw [en, em, ei, u1, u2, hlo, hhi]
      rintro (h | h | ⟨h, h'⟩ | h | h | ⟨h, h'⟩ | h | h) <;> first | omega | cases h | exact h' rfl
    · have u1 : uses1 r.shape = true := by rw [hs]; rfl
      have u2 : uses2 r.shape = true := by rw [hs]; rfl
      have hlo : lowI r.shape = 0 := by rw [hs]; rfl
      have hhi : highI r.shape = 0 := by rw [hs]; rfl
      rw [show (maskI r.shape).toNat = 61455 by rw [hs]; rfl, and_f00f hW] at hf
      have en : (insOf W r).n = ((W / 256 % 16 : Nat) : Int) := if_pos u1
      have em : (insOf W r).m = ((W / 16 % 16 : Nat) : Int) := if_pos u2
      have ei : (insOf W r).imm = 0 := by show immOf W r.shape = _; unfold immOf; rw [if_neg (by omega), if_neg (by omega), if_neg (by omega)]
      have hv : 0 ≤ 0 ∧ 0 ≤ 0 := by omega
      have ew : ((insOf W r).imm % (if r.shape = 5 then 4096 else 256)).toNat = 0 := by rw [ei, if_neg (by omega)]; rfl
      refine ⟨wrong_of hinfo ?_, fin (W / 256 % 16) (W / 16 % 16) (0) en em ew (hcode _ _ _ (by omega)).1 (by omega)⟩
      unfold badReg
      rw [en, em, ei, u1, u2, hlo, hhi]
      rintro (h | h | ⟨h, h'⟩ | h | h | ⟨h, h'⟩ | h | h) <;> first | omega | cases h | exact h' rfl
    · have u1 : uses1 r.shape = true := by rw [hs]; rfl
      have u2 : uses2 r.shape = true := by rw [hs]; rfl
      have hlo : lowI r.shape = 0 := by rw [hs]; rfl
      have hhi : highI r.shape = 0 := by rw [hs]; rfl
      rw [show (maskI r.shape).toNat = 61455 by rw [hs]; rfl, and_f00f hW] at hf
      have en : (insOf W r).n = ((W / 256 % 16 : Nat) : Int) := if_pos u1
      have em : (insOf W r).m = ((W / 16 % 16 : Nat) : Int) := if_pos u2
      have ei : (insOf W r).imm = 0 := by show immOf W r.shape = _; unfold immOf; rw [if_neg (by omega), if_neg (by omega), if_neg (by omega)]
      have hv : 0 ≤ 0 ∧ 0 ≤ 0 := by omega
      have ew : ((insOf W r).imm % (if r.shape = 5 then 4096 else 256)).toNat = 0 := by rw [ei, if_neg (by omega)]; rfl
      refine ⟨wrong_of hinfo ?_, fin (W / 256 % 16) (W / 16 % 16) (0) en em ew (hcode _ _ _ (by omega)).1 (by omega)⟩
      unfold badReg
      rw [en, em, ei, u1, u2, hlo, hhi]
      rintro (h | h | ⟨h, h'⟩ | h | h | ⟨h, h'⟩ | h | h) <;> first | omega | cases h | exact h' rfl
  · rcases hs with hs | hs
    · have u1 : uses1 r.shape = true := by rw [hs]; rfl
      have u2 : uses2 r.shape = false := by rw [hs]; rfl
      have hlo : lowI r.shape = 0 := by rw [hs]; rfl
      have hhi : highI r.shape = 0 := by rw [hs]; rfl
      rw [show (maskI r.shape).toNat = 61695 by rw [hs]; rfl, and_f0ff hW] at hf
      have en : (insOf W r).n = ((W / 256 % 16 : Nat) : Int) := if_pos u1
      have em : (insOf W r).m = ((0 : Nat) : Int) := if_neg (by rw [u2]; decide)
      have ei : (insOf W r).imm = 0 := by show immOf W r.shape = _; unfold immOf; rw [if_neg (by omega), if_neg (by omega), if_neg (by omega)]
      have hv : 0 ≤ 0 ∧ 0 ≤ 0 := by omega
      have ew : ((insOf W r).imm % (if r.shape = 5 then 4096 else 256)).toNat = 0 := by rw [ei, if_neg (by omega)]; rfl
      refine ⟨wrong_of hinfo ?_, fin (W / 256 % 16) (0) (0) en em ew (hcode _ _ _ (by omega)).1 (by omega)⟩
      unfold badReg
      rw [en, em, ei, u1, u2, hlo, hhi]
      rintro (h | h | ⟨h, h'⟩ | h | h | ⟨h, h'⟩ | h | h) <;> first | omega | cases h | exact h' rfl
    · have u1 : uses1 r.shape = true := by rw [hs]; rfl
      have u2 : uses2 r.shape = false := by rw [hs]; rfl
      have hlo : lowI r.shape = 0 := by rw [hs]; rfl
      have hhi : highI r.shape = 0 := by rw [hs]; rfl
      rw [show (maskI r.shape).toNat = 61695 by rw [hs]; rfl, and_f0ff hW] at hf
      have en : (insOf W r).n = ((W / 256 % 16 : Nat) : Int) := if_pos u1
      have em : (insOf W r).m = ((0 : Nat) : Int) := if_neg (by rw [u2]; decide)
      have ei : (insOf W r).imm = 0 := by show immOf W r.shape = _; unfold immOf; rw [if_neg (by omega), if_neg (by omega), if_neg (by omega)]
      have hv : 0 ≤ 0 ∧ 0 ≤ 0 := by omega
      have ew : ((insOf W r).imm % (if r.shape = 5 then 4096 else 256)).toNat = 0 := by rw [ei, if_neg (by omega)]; rfl
      refine ⟨wrong_of hinfo ?_, fin (W / 256 % 16) (0) (0) en em ew (hcode _ _ _ (by omega)).1 (by omega)⟩
      unfold badReg
      rw [en, em, ei, u1, u2, hlo, hhi]
      rintro (h | h | ⟨h, h'⟩ | h | h | ⟨h, h'⟩ | h | h) <;> first | omega | cases h | exact h' rfl
  · rcases hs with hs | hs
    · have u1 : uses1 r.shape = false := by rw [hs]; rfl
      have u2 : uses2 r.shape = false := by rw [hs]; rfl
      have hlo : lowI r.shape = -128 := by rw [hs]; rfl
      have hhi : highI r.shape = 127 := by rw [hs]; rfl
      rw [show (maskI r.shape).toNat = 65280 by rw [hs]; rfl, and_ff00 hW] at hf
      have en : (insOf W r).n = ((0 : Nat) : Int) := if_neg (by rw [u1]; decide)
      have em : (insOf W r).m = ((0 : Nat) : Int) := if_neg (by rw [u2]; decide)
      have ei : (insOf W r).imm = signedI W 8 := by show immOf W r.shape = _; unfold immOf; rw [if_pos (by omega)]
      have hv : -128 ≤ signedI W 8 ∧ signedI W 8 ≤ 127 := by rw [signed8]; split <;> omega
      have ew : ((insOf W r).imm % (if r.shape = 5 then 4096 else 256)).toNat = W % 256 := by rw [ei, if_neg (by omega)]; rw [signed8]; split <;> omega
      refine ⟨wrong_of hinfo ?_, fin (0) (0) (W % 256) en em ew (hcode _ _ _ (by omega)).1 (by omega)⟩
      unfold badReg
      rw [en, em, ei, u1, u2, hlo, hhi]
      rintro (h | h | ⟨h, h'⟩ | h | h | ⟨h, h'⟩ | h | h) <;> first | omega | cases h | exact h' rfl
    · have u1 : uses1 r.shape = false := by rw [hs]; rfl
      have u2 : uses2 r.shape = false := by rw [hs]; rfl
      have hlo : lowI r.shape = 0 := by rw [hs]; rfl
      have hhi : highI r.shape = 255 := by rw [hs]; rfl
      rw [show (maskI r.shape).toNat = 65280 by rw [hs]; rfl, and_ff00 hW] at hf
      have en : (insOf W r).n = ((0 : Nat) : Int) := if_neg (by rw [u1]; decide)
      have em : (insOf W r).m = ((0 : Nat) : Int) := if_neg (by rw [u2]; decide)
      have ei : (insOf W r).imm = (W : Int) % 256 := by show immOf W r.shape = _; unfold immOf; rw [if_neg (by omega), if_neg (by omega), if_pos (by omega)]
      have hv : 0 ≤ (W : Int) % 256 ∧ (W : Int) % 256 ≤ 255 := by omega
      have ew : ((insOf W r).imm % (if r.shape = 5 then 4096 else 256)).toNat = W % 256 := by rw [ei, if_neg (by omega)]; omega
      refine ⟨wrong_of hinfo ?_, fin (0) (0) (W % 256) en em ew (hcode _ _ _ (by omega)).1 (by omega)⟩
      unfold badReg
      rw [en, em, ei, u1, u2, hlo, hhi]
      rintro (h | h | ⟨h, h'⟩ | h | h | ⟨h, h'⟩ | h | h) <;> first | omega | cases h | exact h' rfl
  · have u1 : uses1 r.shape = false := by rw [hs]; rfl
    have u2 : uses2 r.shape = false := by rw [hs]; rfl
    have hlo : lowI r.shape = -2048 := by rw [hs]; rfl
    have hhi : highI r.shape = 2047 := by rw [hs]; rfl
    rw [show (maskI r.shape).toNat = 61440 by rw [hs]; rfl, and_f000 hW] at hf
    have en : (insOf W r).n = ((0 : Nat) : Int) := if_neg (by rw [u1]; decide)
    have em : (insOf W r).m = ((0 : Nat) : Int) := if_neg (by rw [u2]; decide)
    have ei : (insOf W r).imm = signedI W 12 := by show immOf W r.shape = _; unfold immOf; rw [if_neg (by omega), if_pos hs]
    have hv : -2048 ≤ signedI W 12 ∧ signedI W 12 ≤ 2047 := by rw [signed12]; split <;> omega
    have ew : ((insOf W r).imm % (if r.shape = 5 then 4096 else 256)).toNat = W % 4096 := by rw [ei, if_pos hs]; rw [signed12]; split <;> omega
    refine ⟨wrong_of hinfo ?_, fin (0) (0) (W % 4096) en em ew (hcode _ _ _ (by omega)).1 (by omega)⟩
    unfold badReg
    rw [en, em, ei, u1, u2, hlo, hhi]
    rintro (h | h | ⟨h, h'⟩ | h | h | ⟨h, h'⟩ | h | h) <;> first | omega | cases h | exact h' rfl

theorem turn2 {w : Int} (h : (decI w).2 = 0) : 0 ≤ w ∧ w ≤ 65535 ∧ wrongI (decI w).1 = 0 ∧ encV (decI w).1 = w := by
  unfold decI at h ⊢
  by_cases hw : w < 0 ∨ 65535 < w
  · rw [if_pos hw] at h; exact absurd h (by decide)
  · rw [if_neg hw] at h ⊢
    obtain ⟨W, rfl⟩ := Int.eq_ofNat_of_zero_le (show 0 ≤ w by omega)
    simp only [Int.toNat_natCast] at h ⊢
    cases hd : decR W with
    | none => rw [hd] at h; exact absurd h (show ¬ ((12 : Int) = 0) by decide)
    | some r => exact ⟨by omega, by omega, turn2_row (by omega) hd⟩
theorem turn0 {w : Int} (h : (decI w).2 ≠ 0) : (decI w).1 = ins0 := by
  unfold decI at h ⊢
  by_cases hw : w < 0 ∨ 65535 < w
  · rw [if_pos hw]
  · rw [if_neg hw] at h ⊢
    cases hd : decR w.toNat with
    | none => rfl
    | some r => rw [hd] at h; exact absurd rfl h
end Go.Proofs.Ytdapgcdenpgnaaa

namespace Go.Proofs.Ytdapgcdenpgnaaa
open Go Go.Plat
set_option linter.unusedVariables false
set_option linter.unusedSimpArgs false
set_option maxRecDepth 100000
set_option maxHeartbeats 2000000
attribute [local irreducible] NilS LookS NormM bitI BytesS NormL Arith QuoS RemS ShlS ShrS BitS CatS SplitS SideS IdxS CallS LoopEnd EndS ModeS DrawS AWP Meets

def byteAt (b : List UInt8) (i : Int) : Int := if 0 ≤ i ∧ i < b.length then ((b.getD i.toNat 0).toNat : Int) else 0
def getN (b : List UInt8) (at_ : Int) : Nat → Int
  | 0 => 0
  | k + 1 => getN b at_ k * 256 + byteAt b (at_ + k)

theorem byteAt_bd (b : List UInt8) (i : Int) : 0 ≤ byteAt b i ∧ byteAt b i < 256 := by
  unfold byteAt; split
  · have := u8_lt (b.getD i.toNat 0); omega
  · omega
theorem getN_nn (b : List UInt8) (at_ : Int) : ∀ k, 0 ≤ getN b at_ k
  | 0 => by simp [getN]
  | k + 1 => by have := getN_nn b at_ k; have := byteAt_bd b (at_ + k); simp only [getN]; omega
theorem getN_bd (b : List UInt8) (at_ : Int) (k : Nat) (hk : k ≤ 4) : getN b at_ k ≤ 4294967295 := by
  have h0 := byteAt_bd b (at_ + (0 : Nat)); have h1 := byteAt_bd b (at_ + (1 : Nat)); have h2 := byteAt_bd b (at_ + (2 : Nat)); have h3 := byteAt_bd b (at_ + (3 : Nat))
  match k, hk with
  | 0, _ => simp [getN]
  | 1, _ => simp only [getN]; omega
  | 2, _ => simp only [getN]; omega
  | 3, _ => simp only [getN]; omega
  | 4, _ => simp only [getN]; omega

theorem get_meets : Meets Try.prog n_isa_Get (SpecP (fun ((b, at_, size) : List UInt8 × Int × Nat) => -1000000000000 ≤ at_ ∧ at_ ≤ 1000000000000 ∧ size ≤ 4) (fun (b, at_, size) => [bytesD b, .int .i64 at_, .int .i64 size])
    fun (b, at_, size) => .int .i64 (getN b at_ size)) := by
  refine meets_f tabOk Try.func37 rfl (by decide) ?_
  rintro ⟨b, at_, size⟩ ⟨h1, h2, h4⟩
  refine ⟨Nat.le_refl _, by simp [Try.f37], fun E hE => ?_⟩
  refine vcOk _ ?_
  (all_goals refine qgo ?_ <;> (repeat' first | exact trivial | intro hc | refine And.intro ?_ ?_) <;> refine Lf.mk ?_)
  refine awp_loop (α := Nat) (fun k => k ≤ size) (fun k => [(11, .int .i64 k), (10, .int .i64 size), (7, .int .i64 (getN b at_ k)), (0, bytesD b), (1, .int .i64 at_)]) (fun _ => []) (fun k => size - k) (fun _ => by simp [hE]) 0 (Nat.zero_le _) ?_ ?_
  · (repeat' (first | (refine VS.mk ?_) | exact trivial | exact rfl | refine And.intro ?_ ?_))
  intro k hk
  have g0 := getN_nn b at_ k
  have g1 := getN_bd b at_ k (by omega)
  refine vcOk _ ?_
  (all_goals refine qgo ?_ <;> (repeat' first | exact trivial | intro hc | refine And.intro ?_ ?_) <;> refine Lf.mk ?_)
  · have hb : byteAt b (at_ + k) = ((b.getD (at_ + (k : Int)).toNat 0).toNat : Int) := by unfold byteAt; rw [if_pos ⟨by omega, by omega⟩]
    have := u8_lt (b.getD (at_ + (k : Int)).toNat 0)
    refine bit_mk (or_add (s := 8) rfl g0 (by omega) (by omega) (by omega)) ?_
    (all_goals refine qgo ?_ <;> (repeat' first | exact trivial | intro hc | refine And.intro ?_ ?_) <;> refine Lf.mk ?_)
    refine loop_end (k + 1) (by omega) (by omega) ?_
    (repeat' (first | (refine VS.mk ?_) | exact trivial | exact rfl | refine And.intro ?_ ?_))
    simp [getN, hb]
  · refine loop_end (k + 1) (by omega) (by omega) ?_
    have hb : byteAt b (at_ + k) = 0 := by unfold byteAt; rw [if_neg (by omega)]
    (repeat' (first | (refine VS.mk ?_) | exact trivial | exact rfl | refine And.intro ?_ ?_))
    simp [getN, hb]
  · refine loop_end (k + 1) (by omega) (by omega) ?_
    have hb : byteAt b (at_ + k) = 0 := by unfold byteAt; rw [if_neg (by omega)]
    (repeat' (first | (refine VS.mk ?_) | exact trivial | exact rfl | refine And.intro ?_ ?_))
    simp [getN, hb]
  · obtain rfl : k = size := by omega
    refine end_mk ?_
    (repeat' (first | (refine VS.mk ?_) | exact trivial | exact rfl | refine And.intro ?_ ?_))
def setAt (l : List UInt8) (i : Int) (c : UInt8) : List UInt8 := if 0 ≤ i ∧ i < l.length then l.set i.toNat c else l
def putN (l : List UInt8) (at_ : Int) : Nat → Int → List UInt8
  | 0, _ => l
  | k + 1, n => putN (setAt l (at_ + k) (lowByte n)) at_ k (n / 256)

theorem setAt_len (l : List UInt8) (i : Int) (c : UInt8) : (setAt l i c).length = l.length := by unfold setAt; split <;> simp
theorem putN_len (at_ : Int) : ∀ (k : Nat) (l : List UInt8) (n : Int), (putN l at_ k n).length = l.length
  | 0, l, n => rfl
  | k + 1, l, n => by rw [putN, putN_len, setAt_len]

theorem put_meets : Meets Try.prog n_isa_Put (SpecF (fun ((b, at_, size, n) : List UInt8 × Int × Nat × Int) => -1000000000000 ≤ at_ ∧ at_ ≤ 1000000000000 ∧ size ≤ 1000000000000 ∧ b.length ≤ 1000000000)
    (fun (b, at_, size, n) => [bytesD b, .int .i64 at_, .int .i64 size, .int .i64 n]) (fun _ => []) (fun (b, at_, size, n) => .sl 1 ((putN b at_ size n).map byteD) (some 0)) fun (b, _) => [.spare b.length]) := by
  refine meets_f tabOk Try.func40 rfl (by decide) ?_
  rintro ⟨b, at_, size, n⟩ ⟨h1, h2, h4, h5⟩
  refine ⟨by simp, by simp [Try.f40], fun E hE => ?_⟩
  refine vcOk _ ?_
  (all_goals refine qga ?_ <;> (repeat' first | exact trivial | intro hc | refine And.intro ?_ ?_) <;> refine Lf.mk ?_)
  refine awp_loop (α := Nat × List UInt8 × Int) (fun p => p.1 ≤ size ∧ p.2.1.length = b.length ∧ putN p.2.1 at_ p.1 p.2.2 = putN b at_ size n) (fun p => [(10, .int .i64 ((p.1 : Int) - 1)), (1, .int .i64 at_), (3, .int .i64 p.2.2), (9, .osl 1 0 p.2.1.length 0 p.2.1.length)]) (fun p => [.arr 1 (p.2.1.map byteD)]) (fun p => p.1) (fun _ => by simp [hE]) (size, b, n) ⟨Nat.le_refl _, rfl, rfl⟩ ?_ ?_
  · (repeat' (first | (refine VS.mk ?_) | exact trivial | exact rfl | refine And.intro ?_ ?_))
    · refine rens_bytes b rfl ?_
      (repeat' (first | (refine VS.mk ?_) | exact trivial | exact rfl | refine And.intro ?_ ?_))
  rintro ⟨k, l, m⟩ ⟨hk, hl, hp⟩
  generalize hj : ((k : Int) - 1) = j at *
  dsimp only at hk hl hp ⊢
  refine vcOk _ ?_
  have hm8 : (0 : Int) < 256 := by decide
  have hn : 0 ≤ j → putN (setAt l (at_ + j) (lowByte m)) at_ (k - 1) (m / 256) = putN b at_ size n := fun h => by
    rw [← hp]
    obtain ⟨k', rfl⟩ : ∃ k', k = k' + 1 := ⟨k - 1, by omega⟩
    obtain rfl : j = k' := by omega
    rfl
  have hset : ∀ x, (setAt l x (lowByte m)).length = b.length := fun x => by rw [setAt_len]; exact hl
  (all_goals refine qgo ?_ <;> (repeat' first | exact trivial | intro hc | refine And.intro ?_ ?_) <;> refine Lf.mk ?_)
  · have hs : setAt l (at_ + j) (lowByte m) = l.set (at_ + j).toNat (lowByte m) := by unfold setAt; rw [if_pos ⟨by omega, by omega⟩]
    refine loop_end (k - 1, setAt l (at_ + j) (lowByte m), m / 256) ⟨by (dsimp only; omega), hset _, hn (by assumption)⟩ (by dsimp only; omega) ?_
    (repeat' (first | (refine VS.mk ?_) | exact trivial | exact rfl | refine And.intro ?_ ?_))
    · refine rens_bytes (setAt l (at_ + j) (lowByte m)) ?_ ?_
      · rw [hs, List.map_set]; simp [byteD]
      · (repeat' (first | (refine VS.mk ?_) | exact trivial | exact rfl | refine And.intro ?_ ?_))
    (all_goals (first | rfl | (dsimp only; congr 1; omega) | (dsimp only; simp; done) | (dsimp only; simp; omega) | skip))
    all_goals (dsimp only; rw [hset, hl])
  · have hs : setAt l (at_ + j) (lowByte m) = l := by unfold setAt; rw [if_neg (by omega)]
    refine loop_end (k - 1, setAt l (at_ + j) (lowByte m), m / 256) ⟨by (dsimp only; omega), hset _, hn (by assumption)⟩ (by dsimp only; omega) ?_
    (repeat' (first | (refine VS.mk ?_) | exact trivial | exact rfl | refine And.intro ?_ ?_))
    · refine rens_bytes (setAt l (at_ + j) (lowByte m)) (by rw [hs]) ?_
      (repeat' (first | (refine VS.mk ?_) | exact trivial | exact rfl | refine And.intro ?_ ?_))
    (all_goals (first | rfl | (dsimp only; congr 1; omega) | (dsimp only; simp; done) | (dsimp only; simp; omega) | skip))
    all_goals (dsimp only; rw [hset, hl])
  · have hs : setAt l (at_ + j) (lowByte m) = l := by unfold setAt; rw [if_neg (by omega)]
    refine loop_end (k - 1, setAt l (at_ + j) (lowByte m), m / 256) ⟨by (dsimp only; omega), hset _, hn (by assumption)⟩ (by dsimp only; omega) ?_
    (repeat' (first | (refine VS.mk ?_) | exact trivial | exact rfl | refine And.intro ?_ ?_))
    · refine rens_bytes (setAt l (at_ + j) (lowByte m)) (by rw [hs]) ?_
      (repeat' (first | (refine VS.mk ?_) | exact trivial | exact rfl | refine And.intro ?_ ?_))
    (all_goals (first | rfl | (dsimp only; congr 1; omega) | (dsimp only; simp; done) | (dsimp only; simp; omega) | skip))
    all_goals (dsimp only; rw [hset, hl])
  · obtain rfl : k = 0 := by omega
    have hp : l = putN b at_ size n := hp
    refine end_freeze_bytes (k := 0) l rfl rfl (Nat.le_refl _) (Nat.zero_le _) (r1 := .sl 1 (l.map byteD) (some 1)) (.here _ _ (by simp) (by simp)) ?_
    refine end_keep [1] rfl rfl ?_
    (repeat' (first | (refine VS.mk ?_) | exact trivial | exact rfl | refine And.intro ?_ ?_))
    · rw [hp]
    · rw [hl]
end Go.Proofs.Ytdapgcdenpgnaaa

namespace Go.Proofs.Ytdapgcdenpgnaaa
open Go Go.Plat
set_option linter.unusedVariables false
set_option linter.unusedSimpArgs false
set_option maxRecDepth 100000
set_option maxHeartbeats 2000000
attribute [local irreducible] NilS LookS NormM bitI BytesS NormL Arith QuoS RemS ShlS ShrS BitS CatS SplitS SideS IdxS CallS LoopEnd EndS ModeS DrawS AWP Meets

theorem get2_meets : Meets Try.prog n_plref1_Get (SpecP (fun ((b, at_, size) : List UInt8 × Int × Nat) => -1000000000000 ≤ at_ ∧ at_ ≤ 1000000000000 ∧ size ≤ 4) (fun (b, at_, size) => [bytesD b, .int .i64 at_, .int .i64 size])
    fun (b, at_, size) => .int .i64 (getN b at_ size)) := by
  refine meets_f tabOk Try.func19 rfl (by decide) ?_
  rintro ⟨b, at_, size⟩ ⟨h1, h2, h4⟩
  refine ⟨Nat.le_refl _, by simp [Try.f19], fun E hE => ?_⟩
  refine vcOk _ ?_
  (all_goals refine qgo ?_ <;> (repeat' first | exact trivial | intro hc | refine And.intro ?_ ?_) <;> refine Lf.mk ?_)
  refine awp_loop (α := Nat) (fun k => k ≤ size) (fun k => [(10, .int .i64 k), (9, .int .i64 size), (7, .int .i64 (getN b at_ k)), (0, bytesD b), (1, .int .i64 at_)]) (fun _ => []) (fun k => size - k) (fun _ => by simp [hE]) 0 (Nat.zero_le _) ?_ ?_
  · (repeat' (first | (refine VS.mk ?_) | exact trivial | exact rfl | refine And.intro ?_ ?_))
  intro k hk
  have g0 := getN_nn b at_ k
  have g1 := getN_bd b at_ k (by omega)
  refine vcOk _ ?_
  (all_goals refine qgo ?_ <;> (repeat' first | exact trivial | intro hc | refine And.intro ?_ ?_) <;> refine Lf.mk ?_)
  · have hb : byteAt b (at_ + k) = ((b.getD (at_ + (k : Int)).toNat 0).toNat : Int) := by unfold byteAt; rw [if_pos ⟨by omega, by omega⟩]
    have hc := u8_lt (b.getD (at_ + (k : Int)).toNat 0)
    (all_goals refine qgo ?_ <;> (repeat' first | exact trivial | intro hc | refine And.intro ?_ ?_) <;> refine Lf.mk ?_)
    refine loop_end (k + 1) (by omega) (by omega) ?_
    (repeat' (first | (refine VS.mk ?_) | exact trivial | exact rfl | refine And.intro ?_ ?_))
    simp [getN, hb]
  · refine loop_end (k + 1) (by omega) (by omega) ?_
    have hb : byteAt b (at_ + k) = 0 := by unfold byteAt; rw [if_neg (by omega)]
    (repeat' (first | (refine VS.mk ?_) | exact trivial | exact rfl | refine And.intro ?_ ?_))
    simp [getN, hb]
  · refine loop_end (k + 1) (by omega) (by omega) ?_
    have hb : byteAt b (at_ + k) = 0 := by unfold byteAt; rw [if_neg (by omega)]
    (repeat' (first | (refine VS.mk ?_) | exact trivial | exact rfl | refine And.intro ?_ ?_))
    simp [getN, hb]
  · obtain rfl : k = size := by omega
    refine end_mk ?_
    (repeat' (first | (refine VS.mk ?_) | exact trivial | exact rfl | refine And.intro ?_ ?_))

theorem shr_bytes {n : Int} {k : Nat} (hk : k ≤ 7) {K : D → Prop} (h : K (.int .i64 (n / 256 ^ k))) : ShrS .i64 n (8 * (k : Int)) K := by
  refine shr_lit (s := 8 * k) (m := 256 ^ k) (by simp) (by show 8 * k ≤ 64; omega) ?_ h
  rw [Int.pow_mul]
  rfl

theorem put2_meets : Meets Try.prog n_plref1_Put (SpecF (fun ((b, at_, size, n) : List UInt8 × Int × Nat × Int) => -1000000000000 ≤ at_ ∧ at_ ≤ 1000000000000 ∧ size ≤ 4 ∧ b.length ≤ 1000000000)
    (fun (b, at_, size, n) => [bytesD b, .int .i64 at_, .int .i64 size, .int .i64 n]) (fun _ => []) (fun (b, at_, size, n) => .sl 1 ((putN b at_ size n).map byteD) (some 0)) fun (b, _) => [.spare b.length]) := by
  refine meets_f tabOk Try.func45 rfl (by decide) ?_
  rintro ⟨b, at_, size, n⟩ ⟨h1, h2, h4, h5⟩
  refine ⟨by simp, by simp [Try.f45], fun E hE => ?_⟩
  have h5 : b.length ≤ 1000000000 := h5
  refine vcOk _ ?_
  (all_goals refine qgs ?_ <;> (repeat' first | exact trivial | intro hc | refine And.intro ?_ ?_) <;> refine Lf.mk ?_)
  refine md_l ?_
  refine VS.mk ?_
  refine md_l ?_
  (all_goals refine qga ?_ <;> (repeat' first | exact trivial | intro hc | refine And.intro ?_ ?_) <;> refine Lf.mk ?_)
  refine awp_loop (α := Nat × List UInt8) (fun p => p.1 ≤ size ∧ p.2.length = b.length ∧ putN p.2 at_ (size - p.1) (n / 256 ^ p.1) = putN b at_ size n) (fun p => [(16, .int .i64 (p.1 : Int)), (15, .int .i64 size), (1, .int .i64 at_), (2, .int .i64 size), (3, .int .i64 n), (9, .osl 1 0 p.2.length 0 p.2.length)]) (fun p => [.arr 1 (p.2.map byteD)]) (fun p => size - p.1) (fun _ => by simp [hE]) (0, b) ⟨Nat.zero_le _, rfl, by simp⟩ ?_ ?_
  · (repeat' (first | (refine VS.mk ?_) | exact trivial | exact rfl | refine And.intro ?_ ?_))
    · refine rens_bytes b rfl ?_
      (repeat' (first | (refine VS.mk ?_) | exact trivial | exact rfl | refine And.intro ?_ ?_))
  rintro ⟨k, l⟩ ⟨hk, hl, hp⟩
  dsimp only at hk hl hp ⊢
  have hn : k < size → putN (setAt l (at_ + size - 1 - k) (lowByte (n / 256 ^ k))) at_ (size - (k + 1)) (n / 256 ^ (k + 1)) = putN b at_ size n := fun h => by
    rw [← hp]
    obtain ⟨q, hq⟩ : ∃ q, size - k = q + 1 := ⟨size - k - 1, by omega⟩
    rw [hq, show size - (k + 1) = q by omega, show at_ + (size : Int) - 1 - k = at_ + (q : Int) by omega, putN]
    congr 1
    rw [Int.pow_succ, Int.ediv_ediv_of_nonneg (Int.pow_nonneg (by decide))]
  have hset : ∀ x, (setAt l x (lowByte (n / 256 ^ k))).length = b.length := fun x => by rw [setAt_len]; exact hl
  refine vcOk _ ?_
  (all_goals refine qgo ?_ <;> (repeat' first | exact trivial | intro hc | refine And.intro ?_ ?_) <;> refine Lf.mk ?_)
  · refine shr_bytes (by omega) ?_
    (all_goals refine qgo ?_ <;> (repeat' first | exact trivial | intro hc | refine And.intro ?_ ?_) <;> refine Lf.mk ?_)
    have hs : setAt l (at_ + size - 1 - k) (lowByte (n / 256 ^ k)) = l.set (at_ + size - 1 - k).toNat (lowByte (n / 256 ^ k)) := by unfold setAt; rw [if_pos ⟨by omega, by omega⟩]
    refine loop_end (k + 1, setAt l (at_ + size - 1 - k) (lowByte (n / 256 ^ k))) ⟨by (dsimp only; omega), hset _, hn (by omega)⟩ (by dsimp only; omega) ?_
    (repeat' (first | (refine VS.mk ?_) | exact trivial | exact rfl | refine And.intro ?_ ?_))
    · refine rens_bytes (setAt l (at_ + size - 1 - k) (lowByte (n / 256 ^ k))) ?_ ?_
      · rw [hs]; simp
      · (repeat' (first | (refine VS.mk ?_) | exact trivial | exact rfl | refine And.intro ?_ ?_))
    (all_goals (first | rfl | (dsimp only; congr 1; omega) | (dsimp only; simp; done) | (dsimp only; simp; omega) | skip))
    all_goals (dsimp only; rw [hset, hl])
  · have hs : setAt l (at_ + size - 1 - k) (lowByte (n / 256 ^ k)) = l := by unfold setAt; rw [if_neg (by omega)]
    refine loop_end (k + 1, setAt l (at_ + size - 1 - k) (lowByte (n / 256 ^ k))) ⟨by (dsimp only; omega), hset _, hn (by omega)⟩ (by dsimp only; omega) ?_
    (repeat' (first | (refine VS.mk ?_) | exact trivial | exact rfl | refine And.intro ?_ ?_))
    · refine rens_bytes (setAt l (at_ + size - 1 - k) (lowByte (n / 256 ^ k))) (by rw [hs]) ?_
      (repeat' (first | (refine VS.mk ?_) | exact trivial | exact rfl | refine And.intro ?_ ?_))
    (all_goals (first | rfl | (dsimp only; congr 1; omega) | (dsimp only; simp; done) | (dsimp only; simp; omega) | skip))
    all_goals (dsimp only; rw [hset, hl])
  · have hs : setAt l (at_ + size - 1 - k) (lowByte (n / 256 ^ k)) = l := by unfold setAt; rw [if_neg (by omega)]
    refine loop_end (k + 1, setAt l (at_ + size - 1 - k) (lowByte (n / 256 ^ k))) ⟨by (dsimp only; omega), hset _, hn (by omega)⟩ (by dsimp only; omega) ?_
    (repeat' (first | (refine VS.mk ?_) | exact trivial | exact rfl | refine And.intro ?_ ?_))
    · refine rens_bytes (setAt l (at_ + size - 1 - k) (lowByte (n / 256 ^ k))) (by rw [hs]) ?_
      (repeat' (first | (refine VS.mk ?_) | exact trivial | exact rfl | refine And.intro ?_ ?_))
    (all_goals (first | rfl | (dsimp only; congr 1; omega) | (dsimp only; simp; done) | (dsimp only; simp; omega) | skip))
    all_goals (dsimp only; rw [hset, hl])
  · obtain rfl : k = size := by omega
    have hp : l = putN b at_ k n := by rw [← hp, Nat.sub_self]; rfl
    refine end_freeze_bytes (k := 0) l rfl rfl (Nat.le_refl _) (Nat.zero_le _) (r1 := .sl 1 (l.map byteD) (some 1)) (.here _ _ (by simp) (by simp)) ?_
    refine end_keep [1] rfl rfl ?_
    (repeat' (first | (refine VS.mk ?_) | exact trivial | exact rfl | refine And.intro ?_ ?_))
    · rw [hp]
    · rw [hl]

theorem signed_wrap (n : Int) : IntKind.i64.wrap (IntKind.i32.wrap (IntKind.u32.wrap n)) = if n % 4294967296 / 2147483648 = 1 then n % 4294967296 - 4294967296 else n % 4294967296 := by
  have h0 := Int.emod_nonneg n (show (4294967296 : Int) ≠ 0 by decide)
  have h1 := Int.emod_lt_of_pos n (show (0 : Int) < 4294967296 by decide)
  have e1 : IntKind.u32.wrap n = n % 4294967296 := by simp [IntKind.wrap, IntKind.signed, IntKind.bits]
  rw [e1]
  generalize n % 4294967296 = m at *
  have e2 : IntKind.i32.wrap m = if m / 2147483648 = 1 then m - 4294967296 else m := by
    have hm : m % 4294967296 = m := Int.emod_eq_of_lt h0 h1
    simp only [IntKind.wrap, IntKind.signed, IntKind.bits, show (2 : Int) ^ 32 = 4294967296 from rfl, show (2 : Int) ^ (32 - 1) = 2147483648 from rfl, hm, Bool.true_and]
    split <;> split <;> simp_all <;> omega
  rw [e2]
  split
  · exact wrap_i64 (by omega) (by omega)
  · exact wrap_i64 (by omega) (by omega)
theorem ar_wrap {k : IntKind} {n : Int} {K : D → Prop} (h : K (.int k (k.wrap n))) : Arith k n K := by unfold Arith; exact h
theorem rsigned_meets : Meets Try.prog n_plref1_Signed (SpecP (fun _ : Int => True) (fun n => [.int .i64 n]) fun n => .int .i64 (if n % 4294967296 / 2147483648 = 1 then n % 4294967296 - 4294967296 else n % 4294967296)) := by
  refine meets_f tabOk Try.func20 rfl (by decide) fun n _ => ?_
  refine ⟨Nat.le_refl _, by simp [Try.f20], fun E hE => ?_⟩
  refine vcOk _ ?_
  (all_goals refine qgo ?_ <;> (repeat' first | exact trivial | intro hc | refine And.intro ?_ ?_) <;> refine Lf.mk ?_)
  refine ar_wrap ?_
  (all_goals refine qgo ?_ <;> (repeat' first | exact trivial | intro hc | refine And.intro ?_ ?_) <;> refine Lf.mk ?_)
  refine ar_wrap ?_
  refine VS.mk ?_
  refine ar_wrap ?_
  (all_goals refine qgo ?_ <;> (repeat' first | exact trivial | intro hc | refine And.intro ?_ ?_) <;> refine Lf.mk ?_)
  refine end_p (VS.mk (LeD.of_eq ?_))
  rw [signed_wrap]
end Go.Proofs.Ytdapgcdenpgnaaa

namespace Go.Proofs.Ytdapgcdenpgnaaa
open Go Go.Plat
set_option linter.unusedVariables false
set_option linter.unusedSimpArgs false
set_option maxRecDepth 100000
set_option maxHeartbeats 2000000
attribute [local irreducible] NilS LookS NormM bitI BytesS NormL Arith QuoS RemS ShlS ShrS BitS CatS SplitS SideS IdxS CallS LoopEnd EndS ModeS DrawS AWP Meets

theorem cloneB_meets : Meets Try.prog n_slices_Clone_byte_byte (SpecP (fun ds : List D => ds.length ≤ 100000000 ∧ ∀ (i : Nat) d, ds[i]? = some d → d.cells.length = 1) (fun ds => [.sl 1 ds none]) fun ds => .sl 1 ds none) := by
  refine meets_f tabOk Try.func31 rfl (by decide) ?_
  rintro ds ⟨hds, hlen⟩
  refine ⟨Nat.le_refl _, by simp [Try.f31], fun E hE => ?_⟩
  refine vcOk _ ?_
  (all_goals refine qgo ?_ <;> (repeat' first | exact trivial | intro hc | refine And.intro ?_ ?_) <;> refine Lf.mk ?_)
  refine nil_mk (fun h => ?_) ?_
  · subst h
    (all_goals refine qgo ?_ <;> (repeat' first | exact trivial | intro hc | refine And.intro ?_ ?_) <;> refine Lf.mk ?_)
    exact end_p (VS.mk (LeD.nil _))
  (all_goals refine qgo ?_ <;> (repeat' first | exact trivial | intro hc | refine And.intro ?_ ?_) <;> refine Lf.mk ?_)
  exact end_p (VS.mk (LeD.refl _))

theorem cloneI_meets : Meets Try.prog n_slices_Clone_int_int (SpecP (fun ds : List D => ds.length ≤ 100000000 ∧ ∀ (i : Nat) d, ds[i]? = some d → d.cells.length = 1) (fun ds => [.sl 1 ds none]) fun ds => .sl 1 ds none) := by
  refine meets_f tabOk Try.func30 rfl (by decide) ?_
  rintro ds ⟨hds, hlen⟩
  refine ⟨Nat.le_refl _, by simp [Try.f30], fun E hE => ?_⟩
  refine vcOk _ ?_
  (all_goals refine qgo ?_ <;> (repeat' first | exact trivial | intro hc | refine And.intro ?_ ?_) <;> refine Lf.mk ?_)
  refine nil_mk (fun h => ?_) ?_
  · subst h
    (all_goals refine qgo ?_ <;> (repeat' first | exact trivial | intro hc | refine And.intro ?_ ?_) <;> refine Lf.mk ?_)
    exact end_p (VS.mk (LeD.nil _))
  (all_goals refine qgo ?_ <;> (repeat' first | exact trivial | intro hc | refine And.intro ?_ ?_) <;> refine Lf.mk ?_)
  exact end_p (VS.mk (LeD.refl _))

theorem cloneS_meets : Meets Try.prog n_slices_Clone_api_Sym_api_Sym (SpecP (fun ds : List D => ds.length ≤ 100000000 ∧ ∀ (i : Nat) d, ds[i]? = some d → d.cells.length = 2) (fun ds => [.sl 2 ds none]) fun ds => .sl 2 ds none) := by
  refine meets_f tabOk Try.func32 rfl (by decide) ?_
  rintro ds ⟨hds, hlen⟩
  refine ⟨Nat.le_refl _, by simp [Try.f32], fun E hE => ?_⟩
  refine vcOk _ ?_
  (all_goals refine qgo ?_ <;> (repeat' first | exact trivial | intro hc | refine And.intro ?_ ?_) <;> refine Lf.mk ?_)
  refine nil_mk (fun h => ?_) ?_
  · subst h
    (all_goals refine qgo ?_ <;> (repeat' first | exact trivial | intro hc | refine And.intro ?_ ?_) <;> refine Lf.mk ?_)
    exact end_p (VS.mk (LeD.nil _))
  (all_goals refine qgo ?_ <;> (repeat' first | exact trivial | intro hc | refine And.intro ?_ ?_) <;> refine Lf.mk ?_)
  exact end_p (VS.mk (LeD.refl _))

end Go.Proofs.Ytdapgcdenpgnaaa

namespace Go.Proofs.Ytdapgcdenpgnaaa
open Go Go.Plat
set_option linter.unusedVariables false
set_option linter.unusedSimpArgs false
set_option maxRecDepth 100000
set_option maxHeartbeats 2000000
attribute [local irreducible] NilS LookS NormM bitI BytesS NormL Arith QuoS RemS ShlS ShrS BitS CatS SplitS SideS IdxS CallS LoopEnd EndS ModeS DrawS AWP Meets

structure OSym where
  name : List UInt8
  at_ : Int
  deriving DecidableEq
def symD (s : OSym) : D := .agg [.str s.name, .int .i64 s.at_]
structure OImg where
  base : Int
  bytes : List UInt8
  syms : List OSym
  deriving DecidableEq
def imgD (i : OImg) : D := .agg [.int .i64 i.base, bytesD i.bytes, .sl 2 (i.syms.map symD) none]
def noImg : OImg := ⟨0, [], []⟩

def sameI (a b : OImg) : Bool := decide (a = b)
theorem take_step2 {α : Type} {l m : List α} {k : Nat} {x : α} (h : l.take k = m.take k) (h1 : l[k]? = some x) (h2 : m[k]? = some x) : l.take (k + 1) = m.take (k + 1) := by
  rw [List.take_add_one, List.take_add_one, h, h1, h2]

theorem sameimg_meets : Meets Try.prog n_plref6_SameImage (SpecP (fun ((a, b) : OImg × OImg) => a.syms.length ≤ 4294967296) (fun (a, b) => [imgD a, imgD b]) fun (a, b) => .bool (sameI a b)) := by
  refine meets_f tabOk Try.func13 rfl (by decide) ?_
  rintro ⟨a, b⟩ ha1
  have ha1 : a.syms.length ≤ 4294967296 := ha1
  refine ⟨Nat.le_refl _, by simp [Try.f13], fun E hE => ?_⟩
  refine vcOk _ ?_
  have no : ¬ a = b → sameI a b = false := fun h => decide_eq_false h
  (all_goals refine qgo ?_ <;> (repeat' first | exact trivial | intro hc | refine And.intro ?_ ?_) <;> refine Lf.mk ?_)
  · exact end_p (VS.mk (LeD.ff (no fun h => hc (by subst h; rfl))))
  · exact end_p (VS.mk (LeD.ff (no fun h => hc (by subst h; rfl))))
  · exact end_p (VS.mk (LeD.ff (no fun h => hc (by subst h; rfl))))
  rename_i hbase hbytes
  have hsl' : a.syms.length = b.syms.length := by omega
  refine awp_loop (α := Nat) (fun k => k ≤ a.syms.length ∧ a.syms.take k = b.syms.take k)
    (fun k => [(31, .int .i64 a.syms.length), (32, .int .i64 k), (2, .loc 0 0), (3, .loc 1 0)])
    (fun _ => [.cells [.int .i64 a.base, bytesD a.bytes, .sl 2 (a.syms.map symD) none], .cells [.int .i64 b.base, bytesD b.bytes, .sl 2 (b.syms.map symD) none]]) (fun k => a.syms.length - k) (fun _ => by simp [hE]) 0 ⟨Nat.zero_le _, by simp⟩ ?_ ?_
  · (repeat' (first | (refine VS.mk ?_) | exact trivial | exact rfl | refine And.intro ?_ ?_))
  rintro k ⟨hk, hst⟩
  refine vcOk _ ?_
  (all_goals refine qgo ?_ <;> (repeat' first | exact trivial | intro hc | refine And.intro ?_ ?_) <;> refine Lf.mk ?_)
  · obtain ⟨s, hsk⟩ := at_of_lt (l := a.syms) (k := k) (by omega)
    obtain ⟨t, htk⟩ := at_of_lt (l := b.syms) (k := k) (by omega)
    refine ix_map s (by omega) (by simpa using hsk) ?_
    (all_goals refine qgo ?_ <;> (repeat' first | exact trivial | intro hc | refine And.intro ?_ ?_) <;> refine Lf.mk ?_)
    refine ix_map t (by omega) (by simpa using htk) ?_
    (all_goals refine qgo ?_ <;> (repeat' first | exact trivial | intro hc | refine And.intro ?_ ?_) <;> refine Lf.mk ?_)
    refine eqS_flat [.str, .int .i64] (by kernel_rfl) rfl ?_
    (all_goals refine qgo ?_ <;> (repeat' first | exact trivial | intro hc | refine And.intro ?_ ?_) <;> refine Lf.mk ?_)
    · refine end_p (VS.mk (LeD.ff (no fun h => ?_)))
      subst h
      rw [hsk] at htk
      obtain rfl := Option.some.inj htk
      simp at hc
    · have hs : s = t := by cases s; cases t; simp_all
      subst hs
      refine loop_end (k + 1) ⟨by omega, take_step2 hst hsk htk⟩ (by omega) ?_
      (repeat' (first | (refine VS.mk ?_) | exact trivial | exact rfl | refine And.intro ?_ ?_))
  · obtain rfl : k = a.syms.length := by omega
    have hsyms : a.syms = b.syms := by rw [List.take_length, hsl', List.take_length] at hst; exact hst
    exact end_p (VS.mk (LeD.tt (decide_eq_true (by cases a; cases b; simp_all))))

end Go.Proofs.Ytdapgcdenpgnaaa

/-
  A machine as data, and what its functions compute.
-/
namespace Go.Proofs.Ytdapgcdenpgnaaa
open Go Go.Plat
set_option linter.unusedVariables false
set_option linter.unusedSimpArgs false
set_option maxRecDepth 100000
attribute [local irreducible] signedI decI infoR irows bitI getN putN

structure Mach where
  r : Nat → Int
  t : Bool
  pc : Int
  pr : Int
  img : OImg
  told : List Int
  steps : Int
def machC (m : Mach) : List D :=
  [.int .i64 (m.r 0), .int .i64 (m.r 1), .int .i64 (m.r 2), .int .i64 (m.r 3), .int .i64 (m.r 4), .int .i64 (m.r 5), .int .i64 (m.r 6), .int .i64 (m.r 7),
   .int .i64 (m.r 8), .int .i64 (m.r 9), .int .i64 (m.r 10), .int .i64 (m.r 11), .int .i64 (m.r 12), .int .i64 (m.r 13), .int .i64 (m.r 14), .int .i64 (m.r 15),
   .bool m.t, .int .i64 m.pc, .int .i64 m.pr, .int .i64 m.img.base, bytesD m.img.bytes, .sl 2 (m.img.syms.map symD) none, .sl 1 (m.told.map intD) none, .int .i64 m.steps]
def machD (m : Mach) : D := .agg (machC m)
def mach0 : Mach := ⟨fun _ => 0, false, 0, 0, noImg, [], 0⟩

/-- a register put anew -/
def up (r : Nat → Int) (n v : Int) : Nat → Int := fun k => if (k : Int) = n then v else r k
theorem up_at (r : Nat → Int) (n v : Int) (h : 0 ≤ n) : up r n v n.toNat = v := by unfold up; rw [if_pos (by omega)]

theorem reg_ix {r : Nat → Int} {n : Int} {rest : List D} {K : D → Prop} (h0 : 0 ≤ n) (h1 : n < 16) (h : K (.int .i64 (r n.toNat))) :
    IdxS (.int .i64 (r 0) :: .int .i64 (r 1) :: .int .i64 (r 2) :: .int .i64 (r 3) :: .int .i64 (r 4) :: .int .i64 (r 5) :: .int .i64 (r 6) :: .int .i64 (r 7) :: .int .i64 (r 8) :: .int .i64 (r 9) :: .int .i64 (r 10) :: .int .i64 (r 11) :: .int .i64 (r 12) :: .int .i64 (r 13) :: .int .i64 (r 14) :: .int .i64 (r 15) :: rest) ((0 + n.toNat * 1 : Nat) : Int) K := by
  refine ⟨by omega, .int .i64 (r n.toNat), ?_, h⟩
  obtain ⟨k, rfl⟩ := Int.eq_ofNat_of_zero_le h0
  have hk : k < 16 := by omega
  simp only [Int.toNat_natCast, Nat.mul_one, Nat.zero_add]
  match k, hk with
  | 0, _ | 1, _ | 2, _ | 3, _ | 4, _ | 5, _ | 6, _ | 7, _ | 8, _ | 9, _ | 10, _ | 11, _ | 12, _ | 13, _ | 14, _ | 15, _ => rfl
theorem reg_ixv {r : Nat → Int} {n : Int} {rest : List D} {K : D → Prop} (h0 : 0 ≤ n) (h1 : n < 16) (h : K (.int .i64 (r n.toNat))) :
    IdxS (.int .i64 (r 0) :: .int .i64 (r 1) :: .int .i64 (r 2) :: .int .i64 (r 3) :: .int .i64 (r 4) :: .int .i64 (r 5) :: .int .i64 (r 6) :: .int .i64 (r 7) :: .int .i64 (r 8) :: .int .i64 (r 9) :: .int .i64 (r 10) :: .int .i64 (r 11) :: .int .i64 (r 12) :: .int .i64 (r 13) :: .int .i64 (r 14) :: .int .i64 (r 15) :: rest) n K := by
  refine ⟨h0, .int .i64 (r n.toNat), ?_, h⟩
  obtain ⟨k, rfl⟩ := Int.eq_ofNat_of_zero_le h0
  have hk : k < 16 := by omega
  simp only [Int.toNat_natCast]
  match k, hk with
  | 0, _ | 1, _ | 2, _ | 3, _ | 4, _ | 5, _ | 6, _ | 7, _ | 8, _ | 9, _ | 10, _ | 11, _ | 12, _ | 13, _ | 14, _ | 15, _ => rfl
theorem reg_set {r : Nat → Int} {n v : Int} {rest : List D} {K : List D → Nat → Prop} (h0 : 0 ≤ n) (h1 : n < 16) (h : K (.int .i64 ((up r n v) 0) :: .int .i64 ((up r n v) 1) :: .int .i64 ((up r n v) 2) :: .int .i64 ((up r n v) 3) :: .int .i64 ((up r n v) 4) :: .int .i64 ((up r n v) 5) :: .int .i64 ((up r n v) 6) :: .int .i64 ((up r n v) 7) :: .int .i64 ((up r n v) 8) :: .int .i64 ((up r n v) 9) :: .int .i64 ((up r n v) 10) :: .int .i64 ((up r n v) 11) :: .int .i64 ((up r n v) 12) :: .int .i64 ((up r n v) 13) :: .int .i64 ((up r n v) 14) :: .int .i64 ((up r n v) 15) :: rest) (16 + rest.length)) :
    NormL (List.set (.int .i64 (r 0) :: .int .i64 (r 1) :: .int .i64 (r 2) :: .int .i64 (r 3) :: .int .i64 (r 4) :: .int .i64 (r 5) :: .int .i64 (r 6) :: .int .i64 (r 7) :: .int .i64 (r 8) :: .int .i64 (r 9) :: .int .i64 (r 10) :: .int .i64 (r 11) :: .int .i64 (r 12) :: .int .i64 (r 13) :: .int .i64 (r 14) :: .int .i64 (r 15) :: rest) (0 + n.toNat * 1) (.int .i64 v)) K := by
  unfold NormL
  have e : List.set (.int .i64 (r 0) :: .int .i64 (r 1) :: .int .i64 (r 2) :: .int .i64 (r 3) :: .int .i64 (r 4) :: .int .i64 (r 5) :: .int .i64 (r 6) :: .int .i64 (r 7) :: .int .i64 (r 8) :: .int .i64 (r 9) :: .int .i64 (r 10) :: .int .i64 (r 11) :: .int .i64 (r 12) :: .int .i64 (r 13) :: .int .i64 (r 14) :: .int .i64 (r 15) :: rest) (0 + n.toNat * 1) (.int .i64 v) = (.int .i64 ((up r n v) 0) :: .int .i64 ((up r n v) 1) :: .int .i64 ((up r n v) 2) :: .int .i64 ((up r n v) 3) :: .int .i64 ((up r n v) 4) :: .int .i64 ((up r n v) 5) :: .int .i64 ((up r n v) 6) :: .int .i64 ((up r n v) 7) :: .int .i64 ((up r n v) 8) :: .int .i64 ((up r n v) 9) :: .int .i64 ((up r n v) 10) :: .int .i64 ((up r n v) 11) :: .int .i64 ((up r n v) 12) :: .int .i64 ((up r n v) 13) :: .int .i64 ((up r n v) 14) :: .int .i64 ((up r n v) 15) :: rest) := by
    obtain ⟨k, rfl⟩ := Int.eq_ofNat_of_zero_le h0
    have hk : k < 16 := by omega
    simp only [Int.toNat_natCast, Nat.mul_one, Nat.zero_add]
    match k, hk with
    | 0, _ | 1, _ | 2, _ | 3, _ | 4, _ | 5, _ | 6, _ | 7, _ | 8, _ | 9, _ | 10, _ | 11, _ | 12, _ | 13, _ | 14, _ | 15, _ => rfl
  rw [e]
  refine cast ?_ h
  congr 1
  simp only [List.length_cons]
  omega
theorem sd_reg {n : Int} {l : List D} {K : Prop} (h0 : 0 ≤ n) (h1 : n < 16) (hl : Nat.ble 16 l.length = true) (h : K) : SideS (0 + n.toNat * 1 < l.length) K :=
  ⟨by have := Nat.le_of_ble_eq_true hl; omega, h⟩

/-! what instructions do -/
def inM (m : Mach) (at_ size : Int) : Bool := decide (m.img.base ≤ at_ ∧ at_ % size = 0 ∧ at_ - m.img.base ≤ m.img.bytes.length - size)
def fetchM (m : Mach) (at_ : Int) : Ins × Int := if inM m at_ 2 = true then decI (getN m.img.bytes (at_ - m.img.base) 2) else (ins0, 6)
def leadsM (op : Int) : Bool := decide (op = 2 ∨ (17 ≤ op ∧ op ≤ 22))
def shapeM (op : Int) : Int := match infoR op with | some r => r.shape | none => 0
def toM (i : Ins) (at_ : Int) : Int := if shapeM i.op = 4 ∨ shapeM i.op = 5 ∨ shapeM i.op = 7 then at_ + 4 + 2 * i.imm else if shapeM i.op = 8 then (at_ + 4) - (at_ + 4) % 4 + 4 * i.imm else 0
def and32M (a b : Int) : Int := bitI .and .i32 a b
def or32M (a b : Int) : Int := bitI .or .i32 a b
def xor32M (a b : Int) : Int := bitI .xor .i32 a b
def setM (m : Mach) (n v : Int) : Mach := { m with r := up m.r n v }
def setT (m : Mach) (t : Bool) : Mach := { m with t := t }
def loadM (m : Mach) (i : Ins) (at_ : Int) : Mach × Int :=
  if inM m (if i.op = 26 then m.r i.m.toNat else toM i at_) (if i.op = 23 then 2 else 4) = true then
    (setM m i.n (if i.op = 23 then signedI (signedI (getN m.img.bytes (toM i at_ - m.img.base) 2) 16) 32 else signedI (getN m.img.bytes ((if i.op = 26 then m.r i.m.toNat else toM i at_) - m.img.base) 4) 32), 0)
  else (m, 3)
def putM (m : Mach) (i : Ins) : Mach × Int :=
  if inM m (m.r i.n.toNat) 4 = true then ({ m with img := { m.img with bytes := putN m.img.bytes (m.r i.n.toNat - m.img.base) 4 (m.r i.m.toNat) } }, 0) else (m, 3)
def sumM (m : Mach) (i : Ins) : Mach :=
  let n := m.r i.n.toNat
  let v := m.r i.m.toNat
  if i.op = 5 then setM m i.n v
  else if i.op = 6 then setM m i.n (signedI (n + v) 32)
  else if i.op = 7 then setM m i.n (signedI (n - v) 32)
  else if i.op = 8 then setM m i.n (and32M n v)
  else if i.op = 9 then setM m i.n (or32M n v)
  else if i.op = 10 then setM m i.n (xor32M n v)
  else if i.op = 11 then setT m (decide (and32M n v = 0))
  else if i.op = 12 then setT m (decide (n = v))
  else if i.op = 13 then setT m (decide (n > v))
  else m
def plainM (m : Mach) (i : Ins) (at_ : Int) : Mach × Int :=
  let n := m.r i.n.toNat
  if i.op = 3 then (setM m i.n i.imm, 0)
  else if i.op = 4 then (setM m i.n (signedI (n + i.imm) 32), 0)
  else if i.op = 14 then (setT (setM m i.n (signedI (n * 2) 32)) (decide (n < 0)), 0)
  else if i.op = 15 then (setT (setM m i.n (n % 4294967296 / 2)) (decide (n % 2 = 1)), 0)
  else if i.op = 16 then (setT (setM m i.n (signedI (n - 1) 32)) (decide (signedI (n - 1) 32 = 0)), 0)
  else if i.op = 23 ∨ i.op = 24 ∨ i.op = 26 then loadM m i at_
  else if i.op = 25 then putM m i
  else if i.op = 27 then ({ m with told := m.told ++ [m.r 0] }, 0)
  else (sumM m i, 0)
/-- where it goes on, and whether behind the next one; what is kept for the way back -/
def leapM (m : Mach) (i : Ins) : Mach × Int × Bool :=
  if i.op = 17 then (m, if m.t = true then toM i m.pc else m.pc + 2, false)
  else if i.op = 18 then (m, if m.t = true then m.pc + 2 else toM i m.pc, false)
  else if i.op = 2 then (m, m.pr, true)
  else if i.op = 21 then (m, m.r i.n.toNat, true)
  else if i.op = 22 then ({ m with pr := m.pc + 4 }, m.r i.n.toNat, true)
  else if i.op = 20 then ({ m with pr := m.pc + 4 }, toM i m.pc, true)
  else (m, toM i m.pc, true)
def lateM (m : Mach) (to : Int) : Mach × Bool × Int :=
  let j := fetchM m (m.pc + 2)
  if j.2 ≠ 0 then (mach0, false, j.2)
  else if leadsM j.1.op = true ∨ j.1.op = 27 then (mach0, false, 8)
  else let x := plainM m j.1 (m.pc + 2)
    if x.2 ≠ 0 then (mach0, false, x.2) else ({ x.1 with pc := to }, false, 0)
def stepM (m : Mach) : Mach × Bool × Int :=
  let i := fetchM m m.pc
  if i.2 ≠ 0 then (mach0, false, i.2)
  else
    let m1 : Mach := { m with steps := m.steps + 1 }
    if i.1.op = 27 ∧ i.1.imm = 0 then (m1, true, 0)
    else if leadsM i.1.op = false then
      let x := plainM m1 i.1 m.pc
      if x.2 ≠ 0 then (mach0, false, x.2) else ({ x.1 with pc := x.1.pc + 2 }, false, 0)
    else
      let l := leapM m1 i.1
      if l.2.2 = true then lateM l.1 l.2.1 else ({ l.1 with pc := l.2.1 }, false, 0)
def runM : Nat → Mach → Mach × Int
  | 0, _ => (mach0, 13)
  | n + 1, m => let s := stepM m
    if s.2.2 ≠ 0 then (mach0, s.2.2) else if s.2.1 = true then (s.1, 0) else runM n s.1

/-- bounds of what is at hand -/
structure InM (k : Nat) (m : Mach) : Prop where
  regs : ∀ j, j < 16 → -2147483648 ≤ m.r j ∧ m.r j ≤ 2147483647
  pc : -5000000000 - 100000 * (k : Int) ≤ m.pc ∧ m.pc ≤ 5000000000 + 100000 * (k : Int)
  pr : -5000000000 - 100000 * (k : Int) ≤ m.pr ∧ m.pr ≤ 5000000000 + 100000 * (k : Int)
  base : 0 ≤ m.img.base ∧ m.img.base ≤ 1048576
  len : m.img.bytes.length ≤ 1048576
  syms : m.img.syms.length ≤ 1048576
  told : m.told.length ≤ 1048576 + k
  steps : 0 ≤ m.steps ∧ m.steps ≤ 1000000 + k
theorem InM.mono {k j : Nat} {m : Mach} (h : InM k m) (hk : k ≤ j) : InM j m :=
  ⟨h.regs, by have := h.pc; omega, by have := h.pr; omega, h.base, h.len, h.syms, by have := h.told; omega, by have := h.steps; omega⟩
structure InI (i : Ins) : Prop where
  n : 0 ≤ i.n ∧ i.n < 16
  m : 0 ≤ i.m ∧ i.m < 16
  imm : -4096 ≤ i.imm ∧ i.imm ≤ 4096
end Go.Proofs.Ytdapgcdenpgnaaa

/-
  32 bits: what 64 bit numbers make of numbers of 32 bits.
-/
namespace Go.Proofs.Ytdapgcdenpgnaaa
open Go Go.Plat
set_option linter.unusedVariables false
set_option linter.unusedSimpArgs false
set_option maxRecDepth 100000

theorem wrap32 (n : Int) : IntKind.i32.wrap n = signedI n 32 := by
  have : signedI n 32 = if n % 4294967296 / 2147483648 = 1 then n % 4294967296 - 4294967296 else n % 4294967296 := rfl
  rw [this]
  have e : IntKind.i32.wrap n = if n % 4294967296 ≥ 2147483648 then n % 4294967296 - 4294967296 else n % 4294967296 := by
    simp only [IntKind.wrap, IntKind.signed, IntKind.bits, show (2 : Int) ^ 32 = 4294967296 from rfl, show (2 : Int) ^ (32 - 1) = 2147483648 from rfl, Bool.true_and, decide_eq_true_eq]
  rw [e]
  split <;> split <;> omega
theorem wrapu32 (n : Int) : IntKind.u32.wrap n = n % 4294967296 := by simp [IntKind.wrap, IntKind.signed, IntKind.bits]
theorem wrapu16 (n : Int) : IntKind.u16.wrap n = n % 65536 := by simp [IntKind.wrap, IntKind.signed, IntKind.bits]
theorem wrap16 (n : Int) : IntKind.i16.wrap n = signedI n 16 := by
  have : signedI n 16 = if n % 65536 / 32768 = 1 then n % 65536 - 65536 else n % 65536 := rfl
  rw [this]
  have e : IntKind.i16.wrap n = if n % 65536 ≥ 32768 then n % 65536 - 65536 else n % 65536 := by
    simp only [IntKind.wrap, IntKind.signed, IntKind.bits, show (2 : Int) ^ 16 = 65536 from rfl, show (2 : Int) ^ (16 - 1) = 32768 from rfl, Bool.true_and, decide_eq_true_eq]
  rw [e]
  split <;> split <;> omega
theorem av_i32 {n : Int} {K : D → Prop} (h : K (.int .i32 (signedI n 32))) : Arith .i32 n K := by unfold Arith; rw [wrap32]; exact h
theorem av_u32 {n : Int} {K : D → Prop} (h : K (.int .u32 (n % 4294967296))) : Arith .u32 n K := by unfold Arith; rw [wrapu32]; exact h
theorem av_u16 {n : Int} {K : D → Prop} (h : K (.int .u16 (n % 65536))) : Arith .u16 n K := by unfold Arith; rw [wrapu16]; exact h
theorem av_i16 {n : Int} {K : D → Prop} (h : K (.int .i16 (signedI n 16))) : Arith .i16 n K := by unfold Arith; rw [wrap16]; exact h
theorem sg_bd (n : Int) : -2147483648 ≤ signedI n 32 ∧ signedI n 32 ≤ 2147483647 := by
  have : signedI n 32 = if n % 4294967296 / 2147483648 = 1 then n % 4294967296 - 4294967296 else n % 4294967296 := rfl
  rw [this]
  split <;> omega
theorem sg_cong {m n : Int} (h : m % 4294967296 = n % 4294967296) : signedI m 32 = signedI n 32 := by
  have : ∀ n, signedI n 32 = if n % 4294967296 / 2147483648 = 1 then n % 4294967296 - 4294967296 else n % 4294967296 := fun _ => rfl
  rw [this, this, h]
theorem sg_id {n : Int} (h1 : -2147483648 ≤ n) (h2 : n ≤ 2147483647) : signedI n 32 = n := by
  have : signedI n 32 = if n % 4294967296 / 2147483648 = 1 then n % 4294967296 - 4294967296 else n % 4294967296 := rfl
  rw [this]
  split <;> omega
theorem sg16 {n : Int} (h1 : 0 ≤ n) (h2 : n ≤ 65535) : signedI n 16 = if n > 32767 then n - 65536 else n := by
  have : signedI n 16 = if n % 65536 / 32768 = 1 then n % 65536 - 65536 else n % 65536 := rfl
  rw [this]
  split <;> split <;> omega
theorem sg16_mod (n : Int) : signedI (n % 65536) 16 = signedI n 16 := by
  have : ∀ n, signedI n 16 = if n % 65536 / 32768 = 1 then n % 65536 - 65536 else n % 65536 := fun _ => rfl
  rw [this, this, Int.emod_emod]
theorem sg16_bd (n : Int) : -32768 ≤ signedI n 16 ∧ signedI n 16 ≤ 32767 := by
  have : signedI n 16 = if n % 65536 / 32768 = 1 then n % 65536 - 65536 else n % 65536 := rfl
  rw [this]
  split <;> omega

theorem toInt64 (v : BitVec 64) : IntKind.i64.wrap (v.toNat : Int) = v.toInt := by
  have h := v.isLt
  rw [BitVec.toInt_eq_toNat_cond]
  simp only [IntKind.wrap, IntKind.signed, IntKind.bits, show (2 : Int) ^ 64 = 18446744073709551616 from rfl, show (2 : Int) ^ (64 - 1) = 9223372036854775808 from rfl, Bool.true_and, decide_eq_true_eq]
  have e : (2 : Nat) ^ 64 = 18446744073709551616 := rfl
  rw [e] at h ⊢
  split <;> split <;> omega
theorem toInt32 (v : BitVec 32) : IntKind.i32.wrap (v.toNat : Int) = v.toInt := by
  have h := v.isLt
  rw [BitVec.toInt_eq_toNat_cond]
  simp only [IntKind.wrap, IntKind.signed, IntKind.bits, show (2 : Int) ^ 32 = 4294967296 from rfl, show (2 : Int) ^ (32 - 1) = 2147483648 from rfl, Bool.true_and, decide_eq_true_eq]
  have e : (2 : Nat) ^ 32 = 4294967296 := rfl
  rw [e] at h ⊢
  split <;> split <;> omega
theorem ofInt_se {a : Int} (h1 : -2147483648 ≤ a) (h2 : a ≤ 2147483647) : BitVec.ofInt 64 a = (BitVec.ofInt 32 a).signExtend 64 := by
  unfold BitVec.signExtend
  rw [BitVec.toInt_ofInt, Int.bmod_eq_of_le (by have : (2 : Nat) ^ 32 = 4294967296 := rfl; omega) (by have : (2 : Nat) ^ 32 = 4294967296 := rfl; omega)]
theorem se_toInt (v : BitVec 32) : (v.signExtend 64).toInt = v.toInt := by
  rw [BitVec.toInt_signExtend_of_le (by decide)]
section
variable {a b : Int} (ha1 : -2147483648 ≤ a) (ha2 : a ≤ 2147483647) (hb1 : -2147483648 ≤ b) (hb2 : b ≤ 2147483647)
include ha1 ha2 hb1 hb2
theorem and64 : bitI .and .i64 a b = and32M a b := by
  unfold and32M bitI
  show IntKind.i64.wrap ((BitVec.ofInt 64 a &&& BitVec.ofInt 64 b).toNat : Int) = IntKind.i32.wrap ((BitVec.ofInt 32 a &&& BitVec.ofInt 32 b).toNat : Int)
  rw [toInt64, toInt32, ofInt_se ha1 ha2, ofInt_se hb1 hb2, ← BitVec.signExtend_and, se_toInt]
theorem or64 : bitI .or .i64 a b = or32M a b := by
  unfold or32M bitI
  show IntKind.i64.wrap ((BitVec.ofInt 64 a ||| BitVec.ofInt 64 b).toNat : Int) = IntKind.i32.wrap ((BitVec.ofInt 32 a ||| BitVec.ofInt 32 b).toNat : Int)
  rw [toInt64, toInt32, ofInt_se ha1 ha2, ofInt_se hb1 hb2, ← BitVec.signExtend_or, se_toInt]
theorem xor64 : bitI .xor .i64 a b = xor32M a b := by
  unfold xor32M bitI
  show IntKind.i64.wrap ((BitVec.ofInt 64 a ^^^ BitVec.ofInt 64 b).toNat : Int) = IntKind.i32.wrap ((BitVec.ofInt 32 a ^^^ BitVec.ofInt 32 b).toNat : Int)
  rw [toInt64, toInt32, ofInt_se ha1 ha2, ofInt_se hb1 hb2, ← BitVec.signExtend_xor, se_toInt]
end
theorem bit32_bd (op : BinOp) (a b : Int) : -2147483648 ≤ bitI op .i32 a b ∧ bitI op .i32 a b ≤ 2147483647 := by
  unfold bitI
  rw [wrap32]
  exact sg_bd _
theorem bit_and {a b : Int} (h1 : -2147483648 ≤ a ∧ a ≤ 2147483647) (h2 : -2147483648 ≤ b ∧ b ≤ 2147483647) {K : D → Prop} (h : K (.int .i64 (and32M a b))) : BitS .and .i64 a b K := by
  unfold BitS; rw [and64 h1.1 h1.2 h2.1 h2.2]; exact h
theorem bit_or {a b : Int} (h1 : -2147483648 ≤ a ∧ a ≤ 2147483647) (h2 : -2147483648 ≤ b ∧ b ≤ 2147483647) {K : D → Prop} (h : K (.int .i64 (or32M a b))) : BitS .or .i64 a b K := by
  unfold BitS; rw [or64 h1.1 h1.2 h2.1 h2.2]; exact h
theorem bit_xor {a b : Int} (h1 : -2147483648 ≤ a ∧ a ≤ 2147483647) (h2 : -2147483648 ≤ b ∧ b ≤ 2147483647) {K : D → Prop} (h : K (.int .i64 (xor32M a b))) : BitS .xor .i64 a b K := by
  unfold BitS; rw [xor64 h1.1 h1.2 h2.1 h2.2]; exact h

/-- the two lowest bits away -/
theorem not3 : (~~~ (3#64)).toNat = 18446744073709551612 := by decide
theorem nat_clear (x : Nat) (hx : x < 18446744073709551616) : x &&& 18446744073709551612 = x / 4 * 4 := by
  have e1 : x / 4 * 4 = (x >>> 2) <<< 2 := by rw [Nat.shiftRight_eq_div_pow, Nat.shiftLeft_eq]
  have e2 : (18446744073709551612 : Nat) = (2 ^ 62 - 1) <<< 2 := by decide
  rw [e1, e2]
  refine Nat.eq_of_testBit_eq fun i => ?_
  rw [Nat.testBit_and, Nat.testBit_shiftLeft, Nat.testBit_shiftLeft, Nat.testBit_shiftRight, Nat.testBit_two_pow_sub_one]
  by_cases hi : 2 ≤ i
  · rw [show 2 + (i - 2) = i by omega]
    by_cases h64 : i - 2 < 62
    · simp [hi, h64]
    · have : x.testBit i = false := Nat.testBit_lt_two_pow (Nat.lt_of_lt_of_le hx (show 2 ^ 64 ≤ 2 ^ i from Nat.pow_le_pow_right (by decide) (by omega)))
      simp [this]
  · simp [hi]
theorem clear3 {n : Int} (h1 : -4611686018427387904 ≤ n) (h2 : n ≤ 4611686018427387904) : bitI .andNot .i64 n 3 = n - n % 4 := by
  unfold bitI
  show IntKind.i64.wrap ((BitVec.ofInt 64 n &&& ~~~ (BitVec.ofInt 64 3)).toNat : Int) = _
  rw [show BitVec.ofInt 64 3 = 3#64 from rfl, BitVec.toNat_and, not3, nat_clear _ (BitVec.ofInt 64 n).isLt]
  have h3 := toNat_ofInt n
  simp only [IntKind.wrap, IntKind.signed, IntKind.bits, show (2 : Int) ^ 64 = 18446744073709551616 from rfl, show (2 : Int) ^ (64 - 1) = 9223372036854775808 from rfl, Bool.true_and, decide_eq_true_eq]
  split <;> omega
end Go.Proofs.Ytdapgcdenpgnaaa

/-
  The machine's small functions: in, fetch, leads, copies.
-/
namespace Go.Proofs.Ytdapgcdenpgnaaa
open Go Go.Plat
set_option linter.unusedVariables false
set_option linter.unusedSimpArgs false
set_option maxRecDepth 100000
set_option maxHeartbeats 2000000
attribute [local irreducible] NilS LookS NormM bitI BytesS NormL Arith QuoS RemS ShlS ShrS BitS CatS SplitS SideS IdxS CallS LoopEnd EndS ModeS DrawS AWP Meets
attribute [local irreducible] irows infoR decI signedI getN putN

theorem in_meets : Meets Try.prog n_sim_in (SpecF (fun ((m, at_, size) : Mach × Int × Int) => InM 10000 m ∧ -4000000000000 ≤ at_ ∧ at_ ≤ 4000000000000 ∧ (size = 2 ∨ size = 4))
    (fun (m, at_, size) => [.loc 0 0, .int .i64 at_, .int .i64 size]) (fun (m, _, _) => [.cells (machC m)]) (fun (m, at_, size) => .bool (inM m at_ size)) fun (m, _, _) => [.cells (machC m)]) := by
  refine meets_f tabOk Try.func35 rfl (by decide) ?_
  rintro ⟨m, at_, size⟩ ⟨hm, h1, h2, hs⟩
  have hb := hm.base
  have hl := hm.len
  refine ⟨Nat.le_refl _, by simp [Try.f35], fun E hE => ?_⟩
  refine vcOk _ ?_
  (all_goals refine qgv ?_ <;> (repeat' first | exact trivial | intro hc | refine And.intro ?_ ?_) <;> refine Lf.mk ?_)
  · refine end_le (r1 := .bool (inM m at_ size)) (LeD.of_eq (congrArg D.bool ?_)) (end_mk ?_) (Nat.le_refl _)
    · exact decide_eq_decide.2 ⟨fun h => ⟨by assumption, by assumption, h⟩, fun h => h.2.2⟩
    · (repeat' (first | (refine VS.mk ?_) | exact trivial | exact rfl | refine And.intro ?_ ?_))
  · refine end_le (r1 := .bool (inM m at_ size)) (LeD.ff (decide_eq_false fun h => hc h.2.1)) (end_mk ?_) (Nat.le_refl _)
    (repeat' (first | (refine VS.mk ?_) | exact trivial | exact rfl | refine And.intro ?_ ?_))
  · refine end_le (r1 := .bool (inM m at_ size)) (LeD.ff (decide_eq_false fun h => hc h.1)) (end_mk ?_) (Nat.le_refl _)
    (repeat' (first | (refine VS.mk ?_) | exact trivial | exact rfl | refine And.intro ?_ ?_))

theorem inM_eq {m : Mach} {a s : Int} : inM m a s = true ↔ (m.img.base ≤ a ∧ a % s = 0 ∧ a - m.img.base ≤ m.img.bytes.length - s) := by unfold inM; exact decide_eq_true_iff
attribute [local irreducible] inM
theorem fetchM_ok {m : Mach} {a : Int} (h : (fetchM m a).2 = 0) : inM m a 2 = true ∧ fetchM m a = decI (getN m.img.bytes (a - m.img.base) 2) := by
  unfold fetchM at h ⊢
  split at h
  · exact ⟨by assumption, by rw [if_pos (by assumption)]⟩
  · exact absurd h (by decide)

theorem fetch_meets : Meets Try.prog n_sim_fetch (SpecF (fun ((m, at_) : Mach × Int) => InM 10000 m ∧ -4000000000000 ≤ at_ ∧ at_ ≤ 4000000000000)
    (fun (m, at_) => [.loc 0 0, .int .i64 at_]) (fun (m, _) => [.cells (machC m)]) (fun (m, at_) => .tup [insD (fetchM m at_).1, .int .i64 (fetchM m at_).2]) fun (m, _) => [.cells (machC m)]) := by
  refine meets_f tabOk Try.func21 rfl (by decide) ?_
  rintro ⟨m, at_⟩ ⟨hm, h1, h2⟩
  have hb := hm.base
  have hl := hm.len
  refine ⟨Nat.le_refl _, by simp [Try.f21], fun E hE => ?_⟩
  refine vcOk _ ?_
  (all_goals refine qgv ?_ <;> (repeat' first | exact trivial | intro hc | refine And.intro ?_ ?_) <;> refine Lf.mk ?_)
  refine call_f in_meets [0] [0] (m, at_, 2) ⟨hm, h1, h2, .inl rfl⟩ rfl rfl ?_
  refine And.intro (VS.mk (LeL.of_eq rfl)) (And.intro (VS.mk rfl) ?_)
  (all_goals refine qgv ?_ <;> (repeat' first | exact trivial | intro hc | refine And.intro ?_ ?_) <;> refine Lf.mk ?_)
  · have hf : fetchM m at_ = (ins0, 6) := by unfold fetchM; rw [if_neg (by rw [hc]; decide)]
    refine end_keep [0] rfl rfl ?_
    (repeat' (first | (refine VS.mk ?_) | exact trivial | exact rfl | refine And.intro ?_ ?_))
    all_goals (dsimp only; rw [hf]; rfl)
  · have hf : fetchM m at_ = decI (getN m.img.bytes (at_ - m.img.base) 2) := by unfold fetchM; rw [if_pos hc]
    have hin : m.img.base ≤ at_ ∧ at_ % 2 = 0 ∧ at_ - m.img.base ≤ m.img.bytes.length - 2 := inM_eq.1 hc
    refine call_p get_meets (m.img.bytes, at_ - m.img.base, 2) ⟨by omega, by omega, by decide⟩ (VS.mk (by (first | exact LeL.refl _ | (repeat' (first | exact LeL.nil | exact LeD.refl _ | exact LeD.nil _ | exact LeD.strip _ _ _ | refine LeL.cons ?_ ?_ | refine LeD.tup ?_ | refine LeD.agg ?_))))) ?_
    (all_goals refine qgv ?_ <;> (repeat' first | exact trivial | intro hc | refine And.intro ?_ ?_) <;> refine Lf.mk ?_)
    refine call_p decode_meets (getN m.img.bytes (at_ - m.img.base) 2) trivial (VS.mk (by (first | exact LeL.refl _ | (repeat' (first | exact LeL.nil | exact LeD.refl _ | exact LeD.nil _ | exact LeD.strip _ _ _ | refine LeL.cons ?_ ?_ | refine LeD.tup ?_ | refine LeD.agg ?_))))) ?_
    (all_goals refine qgv ?_ <;> (repeat' first | exact trivial | intro hc | refine And.intro ?_ ?_) <;> refine Lf.mk ?_)
    refine end_keep [0] rfl rfl ?_
    (repeat' (first | (refine VS.mk ?_) | exact trivial | exact rfl | refine And.intro ?_ ?_))
    all_goals (dsimp only; rw [hf]; try rfl)

theorem leads_meets : Meets Try.prog n_sim_leads (SpecP (fun _ : Int => True) (fun op => [.int .i64 op]) fun op => .bool (leadsM op)) := by
  refine meets_f tabOk Try.func22 rfl (by decide) fun op _ => ?_
  refine ⟨Nat.le_refl _, by simp [Try.f22], fun E hE => ?_⟩
  refine vcOk _ ?_
  (all_goals refine qgv ?_ <;> (repeat' first | exact trivial | intro hc | refine And.intro ?_ ?_) <;> refine Lf.mk ?_)
  all_goals (refine end_p (VS.mk ?_))
  all_goals first
    | exact LeD.tt (decide_eq_true (by omega))
    | exact LeD.ff (decide_eq_false (by omega))
    | exact LeD.of_eq (congrArg D.bool (decide_eq_decide.2 (by omega)))

theorem image_meets : Meets Try.prog n_sim_Image (SpecP (fun i : OImg => i.bytes.length ≤ 1048576 ∧ i.syms.length ≤ 1048576) (fun i => [imgD i]) imgD) := by
  refine meets_f tabOk Try.func14 rfl (by decide) ?_
  rintro i ⟨h1, h2⟩
  refine ⟨Nat.le_refl _, by simp [Try.f14], fun E hE => ?_⟩
  refine vcOk _ ?_
  (all_goals refine qgv ?_ <;> (repeat' first | exact trivial | intro hc | refine And.intro ?_ ?_) <;> refine Lf.mk ?_)
  refine call_p cloneB_meets (i.bytes.map byteD) ⟨by simp; omega, fun i d hd => ?_⟩ (VS.mk (LeL.of_eq rfl)) ?_
  · obtain ⟨c, _, rfl⟩ := List.mem_map.1 (List.mem_of_getElem? hd); rfl
  (all_goals refine qgv ?_ <;> (repeat' first | exact trivial | intro hc | refine And.intro ?_ ?_) <;> refine Lf.mk ?_)
  refine call_p cloneS_meets (i.syms.map symD) ⟨by simp; omega, fun i d hd => ?_⟩ (VS.mk (LeL.of_eq rfl)) ?_
  · obtain ⟨c, _, rfl⟩ := List.mem_map.1 (List.mem_of_getElem? hd); rfl
  (all_goals refine qgv ?_ <;> (repeat' first | exact trivial | intro hc | refine And.intro ?_ ?_) <;> refine Lf.mk ?_)
  exact end_p (VS.mk (LeD.of_eq rfl))

def newM (i : OImg) : Mach := ⟨fun _ => 0, false, i.base, -1, i, [], 0⟩
theorem new_meets : Meets Try.prog n_sim_New (SpecP (fun i : OImg => i.bytes.length ≤ 1048576 ∧ i.syms.length ≤ 1048576) (fun i => [imgD i]) fun i => machD (newM i)) := by
  refine meets_f tabOk Try.func11 rfl (by decide) ?_
  rintro i ⟨h1, h2⟩
  refine ⟨Nat.le_refl _, by simp [Try.f11], fun E hE => ?_⟩
  refine vcOk _ ?_
  (all_goals refine qgv ?_ <;> (repeat' first | exact trivial | intro hc | refine And.intro ?_ ?_) <;> refine Lf.mk ?_)
  refine call_p image_meets i ⟨h1, h2⟩ (VS.mk (LeL.of_eq rfl)) ?_
  (all_goals refine qgv ?_ <;> (repeat' first | exact trivial | intro hc | refine And.intro ?_ ?_) <;> refine Lf.mk ?_)
  refine end_p (VS.mk ?_)
  (first | exact LeL.refl _ | (repeat' (first | exact LeL.nil | exact LeD.refl _ | exact LeD.nil _ | exact LeD.strip _ _ _ | refine LeL.cons ?_ ?_ | refine LeD.tup ?_ | refine LeD.agg ?_)))
  all_goals first | exact LeD.ff rfl | skip

theorem own_meets : Meets Try.prog n_sim_Own (SpecP (fun m : Mach => m.img.bytes.length ≤ 1048576 ∧ m.img.syms.length ≤ 1048576 ∧ m.told.length ≤ 2000000) (fun m => [machD m]) machD) := by
  refine meets_f tabOk Try.func10 rfl (by decide) ?_
  rintro m ⟨h1, h2, h3⟩
  refine ⟨Nat.le_refl _, by simp [Try.f10], fun E hE => ?_⟩
  refine vcOk _ ?_
  (all_goals refine qgv ?_ <;> (repeat' first | exact trivial | intro hc | refine And.intro ?_ ?_) <;> refine Lf.mk ?_)
  refine call_p image_meets m.img ⟨h1, h2⟩ (VS.mk (LeL.of_eq rfl)) ?_
  (all_goals refine qgv ?_ <;> (repeat' first | exact trivial | intro hc | refine And.intro ?_ ?_) <;> refine Lf.mk ?_)
  refine call_p cloneI_meets (m.told.map intD) ⟨by simp; omega, fun i d hd => ?_⟩ (VS.mk (LeL.of_eq rfl)) ?_
  · obtain ⟨c, _, rfl⟩ := List.mem_map.1 (List.mem_of_getElem? hd); rfl
  (all_goals refine qgv ?_ <;> (repeat' first | exact trivial | intro hc | refine And.intro ?_ ?_) <;> refine Lf.mk ?_)
  exact end_p (VS.mk (LeD.of_eq rfl))
end Go.Proofs.Ytdapgcdenpgnaaa

namespace Go.Proofs.Ytdapgcdenpgnaaa
open Go Go.Plat
set_option linter.unusedVariables false
set_option linter.unusedSimpArgs false
set_option maxRecDepth 100000
set_option maxHeartbeats 2000000
attribute [local irreducible] NilS LookS NormM bitI BytesS NormL Arith QuoS RemS ShlS ShrS BitS CatS SplitS SideS IdxS CallS LoopEnd EndS ModeS DrawS AWP Meets

structure RRow where
  op : Int
  name : List UInt8
  shape : Int
  bits : List UInt8
def rrowD (r : RRow) : D := .agg [.str r.name, .int .i64 r.shape, .str r.bits]
def rrows : List RRow := [
  ⟨1, [110, 111, 112], 0, [48, 48, 48, 48, 48, 48, 48, 48, 48, 48, 48, 48, 49, 48, 48, 49]⟩,
  ⟨2, [114, 116, 115], 0, [48, 48, 48, 48, 48, 48, 48, 48, 48, 48, 48, 48, 49, 48, 49, 49]⟩,
  ⟨3, [109, 111, 118], 1, [49, 49, 49, 48, 110, 110, 110, 110, 105, 105, 105, 105, 105, 105, 105, 105]⟩,
  ⟨4, [97, 100, 100], 1, [48, 49, 49, 49, 110, 110, 110, 110, 105, 105, 105, 105, 105, 105, 105, 105]⟩,
  ⟨5, [109, 111, 118], 2, [48, 49, 49, 48, 110, 110, 110, 110, 109, 109, 109, 109, 48, 48, 49, 49]⟩,
  ⟨6, [97, 100, 100], 2, [48, 48, 49, 49, 110, 110, 110, 110, 109, 109, 109, 109, 49, 49, 48, 48]⟩,
  ⟨7, [115, 117, 98], 2, [48, 48, 49, 49, 110, 110, 110, 110, 109, 109, 109, 109, 49, 48, 48, 48]⟩,
  ⟨8, [97, 110, 100], 2, [48, 48, 49, 48, 110, 110, 110, 110, 109, 109, 109, 109, 49, 48, 48, 49]⟩,
  ⟨9, [111, 114], 2, [48, 48, 49, 48, 110, 110, 110, 110, 109, 109, 109, 109, 49, 48, 49, 49]⟩,
  ⟨10, [120, 111, 114], 2, [48, 48, 49, 48, 110, 110, 110, 110, 109, 109, 109, 109, 49, 48, 49, 48]⟩,
  ⟨11, [116, 115, 116], 2, [48, 48, 49, 48, 110, 110, 110, 110, 109, 109, 109, 109, 49, 48, 48, 48]⟩,
  ⟨12, [99, 109, 112, 47, 101, 113], 2, [48, 48, 49, 49, 110, 110, 110, 110, 109, 109, 109, 109, 48, 48, 48, 48]⟩,
  ⟨13, [99, 109, 112, 47, 103, 116], 2, [48, 48, 49, 49, 110, 110, 110, 110, 109, 109, 109, 109, 48, 49, 49, 49]⟩,
  ⟨14, [115, 104, 108, 108], 3, [48, 49, 48, 48, 110, 110, 110, 110, 48, 48, 48, 48, 48, 48, 48, 48]⟩,
  ⟨15, [115, 104, 108, 114], 3, [48, 49, 48, 48, 110, 110, 110, 110, 48, 48, 48, 48, 48, 48, 48, 49]⟩,
  ⟨16, [100, 116], 3, [48, 49, 48, 48, 110, 110, 110, 110, 48, 48, 48, 49, 48, 48, 48, 48]⟩,
  ⟨17, [98, 116], 4, [49, 48, 48, 48, 49, 48, 48, 49, 105, 105, 105, 105, 105, 105, 105, 105]⟩,
  ⟨18, [98, 102], 4, [49, 48, 48, 48, 49, 48, 49, 49, 105, 105, 105, 105, 105, 105, 105, 105]⟩,
  ⟨19, [98, 114, 97], 5, [49, 48, 49, 48, 105, 105, 105, 105, 105, 105, 105, 105, 105, 105, 105, 105]⟩,
  ⟨20, [98, 115, 114], 5, [49, 48, 49, 49, 105, 105, 105, 105, 105, 105, 105, 105, 105, 105, 105, 105]⟩,
  ⟨21, [106, 109, 112], 6, [48, 49, 48, 48, 110, 110, 110, 110, 48, 48, 49, 48, 49, 48, 49, 49]⟩,
  ⟨22, [106, 115, 114], 6, [48, 49, 48, 48, 110, 110, 110, 110, 48, 48, 48, 48, 49, 48, 49, 49]⟩,
  ⟨23, [109, 111, 118, 46, 119], 7, [49, 48, 48, 49, 110, 110, 110, 110, 105, 105, 105, 105, 105, 105, 105, 105]⟩,
  ⟨24, [109, 111, 118, 46, 108], 8, [49, 49, 48, 49, 110, 110, 110, 110, 105, 105, 105, 105, 105, 105, 105, 105]⟩,
  ⟨25, [109, 111, 118, 46, 108], 9, [48, 48, 49, 48, 110, 110, 110, 110, 109, 109, 109, 109, 48, 48, 49, 48]⟩,
  ⟨26, [109, 111, 118, 46, 108], 10, [48, 49, 49, 48, 110, 110, 110, 110, 109, 109, 109, 109, 48, 48, 49, 48]⟩,
  ⟨27, [116, 114, 97, 112, 97], 11, [49, 49, 48, 48, 48, 48, 49, 49, 105, 105, 105, 105, 105, 105, 105, 105]⟩]
def rrowsM : List (D × D) := rrows.map fun r => (.int .i64 r.op, rrowD r)

theorem renOf_self {m : Nat → Option Nat} {d : D} (h : renK m d (fun d' => d' = d)) : RenOf m d d := by
  obtain ⟨d', h1, h2⟩ := renK_eq h
  rw [h2] at h1
  exact h1

theorem ren_rows {m : Nat → Option Nat} : ∀ p ∈ rrowsM, RenOf m p.2 p.2 := by
  intro p hp
  obtain ⟨r, _, rfl⟩ := List.mem_map.1 hp
  exact renOf_self rfl
theorem renM_rows {m : Nat → Option Nat} {K : Prop} (h : K) : RenM m rrowsM K := ⟨ren_rows, h⟩

theorem rrows_meets : Meets Try.prog n_plref1_Rows (SpecF (fun _ : Unit => True) (fun _ => []) (fun _ => []) (fun _ => .mp 0) fun _ => [.map rrowsM]) := by
  refine meets_f tabOk Try.func33 rfl (by decide) fun _ _ => ?_
  refine ⟨Nat.zero_le _, by simp [Try.f33], fun E hE => ?_⟩
  refine vcOk _ ?_
  (all_goals refine qgm ?_ <;> (repeat' first | exact trivial | intro hc | refine And.intro ?_ ?_) <;> refine Lf.mk ?_)
  refine end_mk ?_
  (repeat' (first | (refine VS.mk ?_) | exact trivial | exact rfl | refine And.intro ?_ ?_))
  exact ren_rows

/-- the row of an op -/
def rinfo (op : Int) : Option RRow := rrows.find? fun r => op == r.op
theorem getM_rows (op : Int) : getM (.int .i64 op) rrowsM = (rinfo op).map rrowD := by
  unfold rrowsM rinfo
  generalize rrows = l
  have key : ∀ l : List RRow, (idxM (.int .i64 op) (l.map fun r => (D.int .i64 r.op, rrowD r))).bind (fun i => l[i]?) = l.find? fun r => op == r.op := by
    intro l
    induction l with
    | nil => rfl
    | cons r l ih =>
      simp only [List.map_cons, idxM, keyB, List.find?_cons]
      cases op == r.op with
      | true => rfl
      | false =>
        simp only
        rw [← ih]
        cases idxM (.int .i64 op) (l.map fun r => (D.int .i64 r.op, rrowD r)) <;> simp
  rw [← key l]
  unfold getM
  cases idxM (.int .i64 op) (l.map fun r => (D.int .i64 r.op, rrowD r)) with
  | none => rfl
  | some i => simp [Option.map_map, Function.comp_def]
theorem rrowsM_keys : ∀ p ∈ rrowsM, keyOk (.int .i64) p.1 = true := by
  intro p hp
  obtain ⟨r, _, rfl⟩ := List.mem_map.1 hp
  rfl

theorem range2_meets : Meets Try.prog n_plref1_Range (SpecP (fun _ : Int => True) (fun s => [.int .i64 s]) fun s => .tup [.int .i64 (if s = 1 ∨ s = 4 then -128 else if s = 5 then -2048 else 0), .int .i64 (if s = 1 ∨ s = 4 then 127 else if s = 5 then 2047 else if s = 7 ∨ s = 8 ∨ s = 11 then 255 else 0)]) := by
  refine meets_f tabOk Try.func34 rfl (by decide) fun s _ => ?_
  refine ⟨Nat.le_refl _, by simp [Try.f34], fun E hE => ?_⟩
  refine vcOk _ ?_
  (all_goals refine qgo ?_ <;> (repeat' first | exact trivial | intro hc | refine And.intro ?_ ?_) <;> refine Lf.mk ?_)
  all_goals (refine end_p (VS.mk ?_))
  all_goals (refine LeD.of_eq ?_; simp; omega)

def hasB (s : List UInt8) (c : UInt8) : Bool := s.contains c
end Go.Proofs.Ytdapgcdenpgnaaa

namespace Go.Proofs.Ytdapgcdenpgnaaa
open Go Go.Plat
set_option linter.unusedVariables false
set_option linter.unusedSimpArgs false
set_option maxRecDepth 100000
set_option maxHeartbeats 2000000
attribute [local irreducible] NilS LookS NormM bitI BytesS NormL Arith QuoS RemS ShlS ShrS BitS CatS SplitS SideS IdxS CallS LoopEnd EndS ModeS DrawS AWP Meets
attribute [local irreducible] irows infoR rowsB allB decR wrongI encV decI signedI findI lowI highI

def aliveI : Ins := ⟨6, 1, 2, 0⟩
theorem aliveI_wrong : wrongI aliveI = 0 := by kernel_rfl
theorem aliveI_enc : encV aliveI = 12588 := by kernel_rfl
theorem aliveI_dec : decI 12588 = (aliveI, 0) := by rw [← aliveI_enc]; exact (turn1 aliveI_wrong).2.2
theorem aliveI_info : infoD 6 = .tup [.str [97, 100, 100], .int .i64 2] := by kernel_rfl
theorem aliveI_find : findI [97, 100, 100] 1 = 4 := by kernel_rfl
theorem aliveI_signed : signedI 2147483648 32 = -2147483648 := by kernel_rfl
theorem aliveI_low : lowI 5 = -2048 := by kernel_rfl
theorem aliveI_high : highI 5 = 2047 := by kernel_rfl

end Go.Proofs.Ytdapgcdenpgnaaa

namespace Go.Proofs.Ytdapgcdenpgnaaa
open Go Go.Plat
set_option linter.unusedVariables false
set_option linter.unusedSimpArgs false
set_option maxRecDepth 100000
set_option maxHeartbeats 2000000
attribute [local irreducible] NilS LookS NormM bitI BytesS NormL Arith QuoS RemS ShlS ShrS BitS CatS SplitS SideS IdxS CallS LoopEnd EndS ModeS DrawS AWP Meets
attribute [local irreducible] RenM irows infoR rowsB allB decR wrongI encV decI signedI findI lowI highI rrows rinfo rrowsM

theorem keys_eq : (rrows.map fun r => (r.op, r.name, r.shape, hasB r.bits 110, hasB r.bits 109)) = irows.map fun r => (r.op, r.name, r.shape, uses1 r.shape, uses2 r.shape) := by unfold rrows irows; rfl
theorem find_keys (op : Int) : (rinfo op).map (fun r => (r.op, r.name, r.shape, hasB r.bits 110, hasB r.bits 109)) = (infoR op).map fun r => (r.op, r.name, r.shape, uses1 r.shape, uses2 r.shape) := by
  have h1 := List.find?_map (p := fun q : Int × List UInt8 × Int × Bool × Bool => op == q.1) (f := fun r : RRow => (r.op, r.name, r.shape, hasB r.bits 110, hasB r.bits 109)) (l := rrows)
  have h2 := List.find?_map (p := fun q : Int × List UInt8 × Int × Bool × Bool => op == q.1) (f := fun r : IRow => (r.op, r.name, r.shape, uses1 r.shape, uses2 r.shape)) (l := irows)
  rw [keys_eq] at h1
  unfold rinfo infoR
  rw [show (fun r : IRow => r.op == op) = ((fun q : Int × List UInt8 × Int × Bool × Bool => op == q.1) ∘ fun r : IRow => (r.op, r.name, r.shape, uses1 r.shape, uses2 r.shape)) from funext fun r => by simp [BEq.comm]]
  rw [← h2]
  exact h1.symm
theorem rinfo_none {op : Int} (h : infoR op = none) : rinfo op = none := by
  have := find_keys op
  rw [h] at this
  simpa using this
theorem rinfo_some {op : Int} {r : IRow} (h : infoR op = some r) : ∃ q, rinfo op = some q ∧ q.name = r.name ∧ q.shape = r.shape ∧ hasB q.bits 110 = uses1 r.shape ∧ hasB q.bits 109 = uses2 r.shape := by
  have := find_keys op
  rw [h] at this
  simp only [Option.map_some, Option.map_eq_some_iff, Prod.mk.injEq] at this
  obtain ⟨q, h1, h2, h3, h4, h5, h6⟩ := this
  exact ⟨q, h1, h3, h4, h5, h6⟩
theorem rbits_len : ∀ r ∈ rrows, r.bits.length = 16 := by unfold rrows; decide
theorem rinfo_mem {op : Int} {q : RRow} (h : rinfo op = some q) : q ∈ rrows ∧ q.op = op := by
  unfold rinfo at h
  have h2 := List.find?_some h
  simp only [beq_iff_eq] at h2
  exact ⟨List.mem_of_find?_eq_some h, h2.symm⟩

theorem low_eq (s : Int) : lowI s = if s = 1 ∨ s = 4 then -128 else if s = 5 then -2048 else 0 := by unfold lowI; rfl
theorem high_eq (s : Int) : highI s = if s = 1 ∨ s = 4 then 127 else if s = 5 then 2047 else if s = 7 ∨ s = 8 ∨ s = 11 then 255 else 0 := by unfold highI; rfl

end Go.Proofs.Ytdapgcdenpgnaaa

namespace Go.Proofs.Ytdapgcdenpgnaaa
open Go Go.Plat
set_option linter.unusedVariables false
set_option linter.unusedSimpArgs false
set_option maxRecDepth 100000
set_option maxHeartbeats 2000000
attribute [local irreducible] NilS LookS NormM bitI BytesS NormL Arith QuoS RemS ShlS ShrS BitS CatS SplitS SideS IdxS CallS LoopEnd EndS ModeS DrawS AWP Meets
attribute [local irreducible] RenM irows infoR rowsB allB decR wrongI encV decI signedI findI lowI highI rrows rinfo rrowsM

def partI (s : List UInt8) (c : UInt8) (x : Int) : Nat → Int × Int
  | 0 => (x, 0)
  | k + 1 => match s.getD (15 - k) 0 == c with
    | true => ((partI s c x k).1 / 2, (partI s c x k).2 + (partI s c x k).1 % 2 * 2 ^ k)
    | false => partI s c x k
def onesI (s : List UInt8) : Nat → Int
  | 0 => 0
  | k + 1 => onesI s k + (match s.getD (15 - k) 0 == 49 with | true => 2 ^ k | false => 0)
def encW (s : List UInt8) (n m v : Int) (k : Nat) : Int := onesI s k + (partI s 110 n k).2 + (partI s 109 m k).2 + (partI s 105 v k).2

theorem partI_bd (s : List UInt8) (c : UInt8) (x : Int) : ∀ k, 0 ≤ (partI s c x k).2 ∧ (partI s c x k).2 < 2 ^ k
  | 0 => by simp [partI]
  | k + 1 => by
    have h := partI_bd s c x k
    have hp : (2 : Int) ^ (k + 1) = 2 ^ k * 2 := Int.pow_succ _ _
    simp only [partI]
    split
    · have h1 : 0 ≤ (partI s c x k).1 % 2 := Int.emod_nonneg _ (by decide)
      have h2 : (partI s c x k).1 % 2 < 2 := Int.emod_lt_of_pos _ (by decide)
      rcases (show (partI s c x k).1 % 2 = 0 ∨ (partI s c x k).1 % 2 = 1 by omega) with e | e <;> rw [e] <;> simp only <;> omega
    · omega
theorem onesI_bd (s : List UInt8) : ∀ k, 0 ≤ onesI s k ∧ onesI s k < 2 ^ k
  | 0 => by simp [onesI]
  | k + 1 => by
    have h := onesI_bd s k
    have hp : (2 : Int) ^ (k + 1) = 2 ^ k * 2 := Int.pow_succ _ _
    simp only [onesI]
    split <;> omega
theorem pow_bd {k : Nat} (h : k ≤ 16) : (0 : Int) < 2 ^ k ∧ (2 : Int) ^ k ≤ 65536 := by
  have h1 : (2 : Nat) ^ k ≤ 2 ^ 16 := Nat.pow_le_pow_right (by decide) h
  have h2 : 0 < (2 : Nat) ^ k := Nat.pow_pos (by decide)
  have e : (2 : Int) ^ k = ((2 ^ k : Nat) : Int) := by simp
  rw [e]
  have h3 : (2 : Nat) ^ k ≤ 65536 := h1
  generalize (2 : Nat) ^ k = p at *
  omega
theorem shl_var {b : Int} {k : Nat} (hb : b = 0 ∨ b = 1) (hk : k ≤ 15) {K : D → Prop} (h : K (.int .i64 (b * 2 ^ k))) : ShlS .i64 b (k : Int) K := by
  have := pow_bd (k := k) (by omega)
  refine shl_lit (s := k) (m := 2 ^ k) rfl (by omega) rfl ?_ ?_ h <;> rcases hb with rfl | rfl <;> omega

theorem part_hit {s : List UInt8} {c : UInt8} {x : Int} {k : Nat} (h : (((s.getD (15 - k) 0).toNat : Nat) : Int) = (c.toNat : Int)) : partI s c x (k + 1) = ((partI s c x k).1 / 2, (partI s c x k).2 + (partI s c x k).1 % 2 * 2 ^ k) := by
  have e : (s.getD (15 - k) 0 == c) = true := by rw [beq_iff_eq]; exact UInt8.toNat_inj.1 (by exact_mod_cast h)
  simp only [partI, e]
theorem part_miss {s : List UInt8} {c : UInt8} {x : Int} {k : Nat} (h : ¬ (((s.getD (15 - k) 0).toNat : Nat) : Int) = (c.toNat : Int)) : partI s c x (k + 1) = partI s c x k := by
  have e : (s.getD (15 - k) 0 == c) = false := by rw [beq_eq_false_iff_ne]; intro e; apply h; rw [e]
  simp only [partI, e]
theorem ones_hit {s : List UInt8} {k : Nat} (h : (((s.getD (15 - k) 0).toNat : Nat) : Int) = 49) : onesI s (k + 1) = onesI s k + 2 ^ k := by
  have e : (s.getD (15 - k) 0 == 49) = true := by rw [beq_iff_eq]; exact UInt8.toNat_inj.1 (by exact_mod_cast h)
  simp only [onesI, e]
theorem ones_miss {s : List UInt8} {k : Nat} (h : ¬ (((s.getD (15 - k) 0).toNat : Nat) : Int) = 49) : onesI s (k + 1) = onesI s k := by
  have e : (s.getD (15 - k) 0 == 49) = false := by rw [beq_eq_false_iff_ne]; intro e; apply h; rw [e]; rfl
  simp only [onesI, e, Int.add_zero]

end Go.Proofs.Ytdapgcdenpgnaaa

namespace Go.Proofs.Ytdapgcdenpgnaaa
open Go Go.Plat
set_option linter.unusedVariables false
set_option linter.unusedSimpArgs false
set_option maxRecDepth 100000
set_option maxHeartbeats 2000000
attribute [local irreducible] NilS LookS NormM bitI BytesS NormL Arith QuoS RemS ShlS ShrS BitS CatS SplitS SideS IdxS CallS LoopEnd EndS ModeS DrawS AWP Meets

def partA (c : UInt8) : List UInt8 → Int → Int → Int → Int
  | [], _, _, acc => acc
  | a :: l, x, p, acc => match a == c with
    | true => partA c l (x / 2) (2 * p) (acc + x % 2 * p)
    | false => partA c l x (2 * p) acc
def onesA : List UInt8 → Int → Int → Int
  | [], _, acc => acc
  | a :: l, p, acc => match a == 49 with
    | true => onesA l (2 * p) (acc + p)
    | false => onesA l (2 * p) acc

theorem rev_drop {s : List UInt8} (hs : s.length = 16) {k : Nat} (hk : k < 16) : s.reverse.drop k = s.getD (15 - k) 0 :: s.reverse.drop (k + 1) := by
  rw [List.drop_eq_getElem_cons (by simp; omega)]
  congr 1
  rw [List.getElem_reverse, List.getD_eq_getElem?_getD, List.getElem?_eq_getElem (by omega)]
  simp only [Option.getD_some]
  congr 1
  omega
theorem partA_at {s : List UInt8} (hs : s.length = 16) (c : UInt8) (x : Int) : ∀ k, k ≤ 16 → partA c (s.reverse.drop k) (partI s c x k).1 (2 ^ k) (partI s c x k).2 = partA c s.reverse x 1 0
  | 0, _ => by simp [partI]
  | k + 1, hk => by
    rw [← partA_at hs c x k (by omega), rev_drop (k := k) hs (by omega)]
    have hp : (2 : Int) ^ (k + 1) = 2 * 2 ^ k := by rw [Int.pow_succ, Int.mul_comm]
    simp only [partI, partA]
    cases s.getD (15 - k) 0 == c <;> simp only [hp]
theorem partI_A {s : List UInt8} (hs : s.length = 16) (c : UInt8) (x : Int) : (partI s c x 16).2 = partA c s.reverse x 1 0 := by
  rw [← partA_at hs c x 16 (Nat.le_refl _), List.drop_of_length_le (by simp [hs])]
  rfl
theorem onesA_at {s : List UInt8} (hs : s.length = 16) : ∀ k, k ≤ 16 → onesA (s.reverse.drop k) (2 ^ k) (onesI s k) = onesA s.reverse 1 0
  | 0, _ => by simp [onesI]
  | k + 1, hk => by
    rw [← onesA_at hs k (by omega), rev_drop (k := k) hs (by omega)]
    have hp : (2 : Int) ^ (k + 1) = 2 * 2 ^ k := by rw [Int.pow_succ, Int.mul_comm]
    simp only [onesI, onesA]
    cases s.getD (15 - k) 0 == 49 <;> simp only [hp, Int.add_zero]
theorem onesI_A {s : List UInt8} (hs : s.length = 16) : onesI s 16 = onesA s.reverse 1 0 := by
  rw [← onesA_at hs 16 (Nat.le_refl _), List.drop_of_length_le (by simp [hs])]
  rfl

def nB (u : Bool) (f : Nat → Bool) : Bool := match u with
  | true => allB f 16
  | false => f 0
def chkE (p : Nat × Nat × Nat) (l : List UInt8) : Bool :=
  decide (onesA l 1 0 = (p.2.2 : Int)) &&
  nB (uses1 p.1) (fun n => decide (partA 110 l n 1 0 = n * 256)) &&
  nB (uses2 p.1) (fun n => decide (partA 109 l n 1 0 = n * 16)) &&
  (match p.1 with
    | 1 => allB (fun t => decide (partA 105 l ((t : Int) - 128) 1 0 = ((t : Int) - 128) % 256)) 256
    | 4 => allB (fun t => decide (partA 105 l ((t : Int) - 128) 1 0 = ((t : Int) - 128) % 256)) 256
    | 5 => allB (fun t => decide (partA 105 l ((t : Int) - 2048) 1 0 = ((t : Int) - 2048) % 4096)) 4096
    | 7 => allB (fun t => decide (partA 105 l t 1 0 = t)) 256
    | 8 => allB (fun t => decide (partA 105 l t 1 0 = t)) 256
    | 11 => allB (fun t => decide (partA 105 l t 1 0 = t)) 256
    | _ => decide (partA 105 l 0 1 0 = 0))
theorem chkE_all : ∀ j, j < 27 → (match rowsB[j]? with | some p => (match rrows[j]? with | some q => chkE p q.bits.reverse | none => false) | none => false) = true :=
  allB_at (n := 27) (by kernel_rfl)
theorem rops : rrows.map (·.op) = (List.range 27).map fun j : Nat => ((j : Int) + 1) := by unfold rrows; rfl
theorem iops : irows.map (·.op) = (List.range 27).map fun j : Nat => ((j : Int) + 1) := by unfold irows; rfl

attribute [local irreducible] rrows irows rowsB partA onesA infoR rinfo decR

theorem same_row {op : Int} {r : IRow} {q : RRow} (hi : infoR op = some r) (hq : rinfo op = some q) : ∃ j : Nat, j < 27 ∧ irows[j]? = some r ∧ rrows[j]? = some q := by
  obtain ⟨h1, h2⟩ := infoR_mem hi
  obtain ⟨h3, h4⟩ := rinfo_mem hq
  obtain ⟨j, hj⟩ := List.getElem?_of_mem h1
  obtain ⟨k, hk⟩ := List.getElem?_of_mem h3
  have e1 : (irows.map (·.op))[j]? = some r.op := by rw [List.getElem?_map, hj]; rfl
  have e2 : (rrows.map (·.op))[k]? = some q.op := by rw [List.getElem?_map, hk]; rfl
  have hjl : j < 27 := by have := (List.getElem?_eq_some_iff.1 hj).1; rwa [irows_len] at this
  have hkl : k < 27 := by
    have := (List.getElem?_eq_some_iff.1 e2).1
    rw [rops] at this
    simpa using this
  rw [iops, List.getElem?_map, List.getElem?_range hjl] at e1
  rw [rops, List.getElem?_map, List.getElem?_range hkl] at e2
  simp at e1 e2
  have : j = k := by omega
  subst this
  exact ⟨j, hjl, hj, hk⟩

theorem row_chk {r : IRow} {q : RRow} {j : Nat} (hjl : j < 27) (hj : irows[j]? = some r) (hq : rrows[j]? = some q) : chkE (toB r) q.bits.reverse = true := by
  have h := chkE_all j hjl
  rw [← rowsB_eq, List.getElem?_map, hj, hq] at h
  exact h

/-- the document's code is the same -/
theorem encW_eq {i : Ins} {q : RRow} (h : wrongI i = 0) (hq : rinfo i.op = some q) : encW q.bits i.n i.m i.imm 16 = encV i := by
  obtain ⟨r, hi, h1, h2, h3, h4, h5, h6, h7, h8⟩ := wrongI_0 h
  obtain ⟨j, hjl, hj, hk⟩ := same_row hi hq
  have hc := row_chk hjl hj hk
  obtain ⟨hm, ho⟩ := infoR_mem hi
  have hqm := rbits_len q (rinfo_mem hq).1
  obtain ⟨_, b2, b3⟩ := irow_bits r hm
  obtain ⟨N, hN⟩ := Int.eq_ofNat_of_zero_le h1
  obtain ⟨M, hM⟩ := Int.eq_ofNat_of_zero_le h3
  obtain ⟨B, hB⟩ := Int.eq_ofNat_of_zero_le b2
  have he : encV i = encI r i := by unfold encV; rw [hi]
  have hcode := fun V => row_code hm (n := N) (m := M) (v := V)
  rw [hB, Int.toNat_natCast] at hcode
  simp only [chkE, toB, Bool.and_eq_true, decide_eq_true_eq] at hc
  obtain ⟨⟨⟨c1, c2⟩, c3⟩, c4⟩ := hc
  have c1 : onesA q.bits.reverse 1 0 = (B : Int) := by
    have := of_decide_eq_true c1
    rw [this]
    omega
  have fin : ∀ V : Nat, i.imm % (if r.shape = 5 then 4096 else 256) = V → encN B N M V = B + N * 256 + M * 16 + V → partA 110 q.bits.reverse i.n 1 0 = N * 256 → partA 109 q.bits.reverse i.m 1 0 = M * 16 → partA 105 q.bits.reverse i.imm 1 0 = V → encW q.bits i.n i.m i.imm 16 = encV i := by
    intro V e1 e2 e3 e4 e5
    rw [he]
    unfold encW encI
    rw [onesI_A hqm, partI_A hqm, partI_A hqm, partI_A hqm, c1, e3, e4, e5, hB, hN, hM, e1, Int.toNat_natCast, Int.toNat_natCast, Int.toNat_natCast, Int.toNat_natCast, e2]
    omega
  have hsh := irow_shape r hm
  rcases hsh with hs | ⟨hs, hb⟩ | ⟨hs, hb⟩ | ⟨hs, hb⟩ | ⟨hs, hb⟩ | ⟨hs, hb⟩
  · have u1 : uses1 r.shape = false := by rw [hs]; rfl
    have u2 : uses2 r.shape = false := by rw [hs]; rfl
    have hlo : lowI r.shape = 0 := by rw [hs]; rfl
    have hhi : highI r.shape = 0 := by rw [hs]; rfl
    have hsn : r.shape.toNat = 0 := by rw [hs]; rfl
    rw [show ((r.shape.toNat : Nat) : Int) = r.shape by omega, u1] at c2
    rw [show ((r.shape.toNat : Nat) : Int) = r.shape by omega, u2] at c3
    rw [hsn] at c4
    have hn0 := h5 u1
    have hm0 := h6 u2
    obtain ⟨V, hV⟩ := Int.eq_ofNat_of_zero_le (Int.emod_nonneg i.imm (show (256 : Int) ≠ 0 by decide))
    have hV2 := Int.emod_lt_of_pos i.imm (show (0 : Int) < 256 by decide)
    refine fin V (by rw [if_neg (by omega)]; exact hV) (hcode V (by omega)).1 ?_ ?_ ?_
    · rw [hn0, show (N : Int) = 0 by omega]; exact of_decide_eq_true c2
    · rw [hm0, show (M : Int) = 0 by omega]; exact of_decide_eq_true c3
    · rw [show i.imm = 0 by omega, show (V : Int) = 0 by omega]; exact of_decide_eq_true c4
  · rcases hs with hs | hs | hs
    · have u1 : uses1 r.shape = true := by rw [hs]; rfl
      have u2 : uses2 r.shape = false := by rw [hs]; rfl
      have hlo : lowI r.shape = -128 := by rw [hs]; rfl
      have hhi : highI r.shape = 127 := by rw [hs]; rfl
      have hsn : r.shape.toNat = 1 := by rw [hs]; rfl
      rw [show ((r.shape.toNat : Nat) : Int) = r.shape by omega, u1] at c2
      rw [show ((r.shape.toNat : Nat) : Int) = r.shape by omega, u2] at c3
      rw [hsn] at c4
      have hm0 := h6 u2
      obtain ⟨V, hV⟩ := Int.eq_ofNat_of_zero_le (Int.emod_nonneg i.imm (show (256 : Int) ≠ 0 by decide))
      have hV2 := Int.emod_lt_of_pos i.imm (show (0 : Int) < 256 by decide)
      refine fin V (by rw [if_neg (by omega)]; exact hV) (hcode V (by omega)).1 ?_ ?_ ?_
      · rw [hN]; exact of_decide_eq_true (allB_at (f := fun n => decide (partA 110 q.bits.reverse n 1 0 = n * 256)) c2 N (by omega))
      · rw [hm0, show (M : Int) = 0 by omega]; exact of_decide_eq_true c3
      · have := of_decide_eq_true (allB_at (f := fun t : Nat => decide (partA 105 q.bits.reverse ((t : Int) - 128) 1 0 = ((t : Int) - 128) % 256)) c4 (i.imm + 128).toNat (by omega))
        rw [show (((i.imm + 128).toNat : Nat) : Int) - 128 = i.imm by omega, hV] at this
        exact this
    · have u1 : uses1 r.shape = true := by rw [hs]; rfl
      have u2 : uses2 r.shape = false := by rw [hs]; rfl
      have hlo : lowI r.shape = 0 := by rw [hs]; rfl
      have hhi : highI r.shape = 255 := by rw [hs]; rfl
      have hsn : r.shape.toNat = 7 := by rw [hs]; rfl
      rw [show ((r.shape.toNat : Nat) : Int) = r.shape by omega, u1] at c2
      rw [show ((r.shape.toNat : Nat) : Int) = r.shape by omega, u2] at c3
      rw [hsn] at c4
      have hm0 := h6 u2
      obtain ⟨V, hV⟩ := Int.eq_ofNat_of_zero_le (Int.emod_nonneg i.imm (show (256 : Int) ≠ 0 by decide))
      have hV2 := Int.emod_lt_of_pos i.imm (show (0 : Int) < 256 by decide)
      refine fin V (by rw [if_neg (by omega)]; exact hV) (hcode V (by omega)).1 ?_ ?_ ?_
      · rw [hN]; exact of_decide_eq_true (allB_at (f := fun n => decide (partA 110 q.bits.reverse n 1 0 = n * 256)) c2 N (by omega))
      · rw [hm0, show (M : Int) = 0 by omega]; exact of_decide_eq_true c3
      · have := of_decide_eq_true (allB_at (f := fun t : Nat => decide (partA 105 q.bits.reverse (t : Int) 1 0 = t)) c4 i.imm.toNat (by omega))
        rw [show ((i.imm.toNat : Nat) : Int) = i.imm by omega] at this
        rw [this]; omega
    · have u1 : uses1 r.shape = true := by rw [hs]; rfl
      have u2 : uses2 r.shape = false := by rw [hs]; rfl
      have hlo : lowI r.shape = 0 := by rw [hs]; rfl
      have hhi : highI r.shape = 255 := by rw [hs]; rfl
      have hsn : r.shape.toNat = 8 := by rw [hs]; rfl
      rw [show ((r.shape.toNat : Nat) : Int) = r.shape by omega, u1] at c2
      rw [show ((r.shape.toNat : Nat) : Int) = r.shape by omega, u2] at c3
      rw [hsn] at c4
      have hm0 := h6 u2
      obtain ⟨V, hV⟩ := Int.eq_ofNat_of_zero_le (Int.emod_nonneg i.imm (show (256 : Int) ≠ 0 by decide))
      have hV2 := Int.emod_lt_of_pos i.imm (show (0 : Int) < 256 by decide)
      refine fin V (by rw [if_neg (by omega)]; exact hV) (hcode V (by omega)).1 ?_ ?_ ?_
      · rw [hN]; exact of_decide_eq_true (allB_at (f := fun n => decide (partA 110 q.bits.reverse n 1 0 = n * 256)) c2 N (by omega))
      · rw [hm0, show (M : Int) = 0 by omega]; exact of_decide_eq_true c3
      · have := of_decide_eq_true (allB_at (f := fun t : Nat => decide (partA 105 q.bits.reverse (t : Int) 1 0 = t)) c4 i.imm.toNat (by omega))
        rw [show ((i.imm.toNat : Nat) : Int) = i.imm by omega] at this
        rw [this]; omega
  · rcases hs with hs | hs | hs
    · have u1 : uses1 r.shape = true := by rw [hs]; rfl
      have u2 : uses2 r.shape = true := by rw [hs]; rfl
      have hlo : lowI r.shape = 0 := by rw [hs]; rfl
      have hhi : highI r.shape = 0 := by rw [hs]; rfl
      have hsn : r.shape.toNat = 2 := by rw [hs]; rfl
      rw [show ((r.shape.toNat : Nat) : Int) = r.shape by omega, u1] at c2
      rw [show ((r.shape.toNat : Nat) : Int) = r.shape by omega, u2] at c3
      rw [hsn] at c4
      obtain ⟨V, hV⟩ := Int.eq_ofNat_of_zero_le (Int.emod_nonneg i.imm (show (256 : Int) ≠ 0 by decide))
      have hV2 := Int.emod_lt_of_pos i.imm (show (0 : Int) < 256 by decide)
      refine fin V (by rw [if_neg (by omega)]; exact hV) (hcode V (by omega)).1 ?_ ?_ ?_
      · rw [hN]; exact of_decide_eq_true (allB_at (f := fun n => decide (partA 110 q.bits.reverse n 1 0 = n * 256)) c2 N (by omega))
      · rw [hM]; exact of_decide_eq_true (allB_at (f := fun n => decide (partA 109 q.bits.reverse n 1 0 = n * 16)) c3 M (by omega))
      · rw [show i.imm = 0 by omega, show (V : Int) = 0 by omega]; exact of_decide_eq_true c4
    · have u1 : uses1 r.shape = true := by rw [hs]; rfl
      have u2 : uses2 r.shape = true := by rw [hs]; rfl
      have hlo : lowI r.shape = 0 := by rw [hs]; rfl
      have hhi : highI r.shape = 0 := by rw [hs]; rfl
      have hsn : r.shape.toNat = 9 := by rw [hs]; rfl
      rw [show ((r.shape.toNat : Nat) : Int) = r.shape by omega, u1] at c2
      rw [show ((r.shape.toNat : Nat) : Int) = r.shape by omega, u2] at c3
      rw [hsn] at c4
      obtain ⟨V, hV⟩ := Int.eq_ofNat_of_zero_le (Int.emod_nonneg i.imm (show (256 : Int) ≠ 0 by decide))
      have hV2 := Int.emod_lt_of_pos i.imm (show (0 : Int) < 256 by decide)
      refine fin V (by rw [if_neg (by omega)]; exact hV) (hcode V (by omega)).1 ?_ ?_ ?_
      · rw [hN]; exact of_decide_eq_true (allB_at (f := fun n => decide (partA 110 q.bits.reverse n 1 0 = n * 256)) c2 N (by omega))
      · rw [hM]; exact of_decide_eq_true (allB_at (f := fun n => decide (partA 109 q.bits.reverse n 1 0 = n * 16)) c3 M (by omega))
      · rw [show i.imm = 0 by omega, show (V : Int) = 0 by omega]; exact of_decide_eq_true c4
    · have u1 : uses1 r.shape = true := by rw [hs]; rfl
      have u2 : uses2 r.shape = true := by rw [hs]; rfl
      have hlo : lowI r.shape = 0 := by rw [hs]; rfl
      have hhi : highI r.shape = 0 := by rw [hs]; rfl
      have hsn : r.shape.toNat = 10 := by rw [hs]; rfl
      rw [show ((r.shape.toNat : Nat) : Int) = r.shape by omega, u1] at c2
      rw [show ((r.shape.toNat : Nat) : Int) = r.shape by omega, u2] at c3
      rw [hsn] at c4
      obtain ⟨V, hV⟩ := Int.eq_ofNat_of_zero_le (Int.emod_nonneg i.imm (show (256 : Int) ≠ 0 by decide))
      have hV2 := Int.emod_lt_of_pos i.imm (show (0 : Int) < 256 by decide)
      refine fin V (by rw [if_neg (by omega)]; exact hV) (hcode V (by omega)).1 ?_ ?_ ?_
      · rw [hN]; exact of_decide_eq_true (allB_at (f := fun n => decide (partA 110 q.bits.reverse n 1 0 = n * 256)) c2 N (by omega))
      · rw [hM]; exact of_decide_eq_true (allB_at (f := fun n => decide (partA 109 q.bits.reverse n 1 0 = n * 16)) c3 M (by omega))
      · rw [show i.imm = 0 by omega, show (V : Int) = 0 by omega]; exact of_decide_eq_true c4
  · rcases hs with hs | hs
    · have u1 : uses1 r.shape = true := by rw [hs]; rfl
      have u2 : uses2 r.shape = false := by rw [hs]; rfl
      have hlo : lowI r.shape = 0 := by rw [hs]; rfl
      have hhi : highI r.shape = 0 := by rw [hs]; rfl
      have hsn : r.shape.toNat = 3 := by rw [hs]; rfl
      rw [show ((r.shape.toNat : Nat) : Int) = r.shape by omega, u1] at c2
      rw [show ((r.shape.toNat : Nat) : Int) = r.shape by omega, u2] at c3
      rw [hsn] at c4
      have hm0 := h6 u2
      obtain ⟨V, hV⟩ := Int.eq_ofNat_of_zero_le (Int.emod_nonneg i.imm (show (256 : Int) ≠ 0 by decide))
      have hV2 := Int.emod_lt_of_pos i.imm (show (0 : Int) < 256 by decide)
      refine fin V (by rw [if_neg (by omega)]; exact hV) (hcode V (by omega)).1 ?_ ?_ ?_
      · rw [hN]; exact of_decide_eq_true (allB_at (f := fun n => decide (partA 110 q.bits.reverse n 1 0 = n * 256)) c2 N (by omega))
      · rw [hm0, show (M : Int) = 0 by omega]; exact of_decide_eq_true c3
      · rw [show i.imm = 0 by omega, show (V : Int) = 0 by omega]; exact of_decide_eq_true c4
    · have u1 : uses1 r.shape = true := by rw [hs]; rfl
      have u2 : uses2 r.shape = false := by rw [hs]; rfl
      have hlo : lowI r.shape = 0 := by rw [hs]; rfl
      have hhi : highI r.shape = 0 := by rw [hs]; rfl
      have hsn : r.shape.toNat = 6 := by rw [hs]; rfl
      rw [show ((r.shape.toNat : Nat) : Int) = r.shape by omega, u1] at c2
      rw [show ((r.shape.toNat : Nat) : Int) = r.shape by omega, u2] at c3
      rw [hsn] at c4
      have hm0 := h6 u2
      obtain ⟨V, hV⟩ := Int.eq_ofNat_of_zero_le (Int.emod_nonneg i.imm (show (256 : Int) ≠ 0 by decide))
      have hV2 := Int.emod_lt_of_pos i.imm (show (0 : Int) < 256 by decide)
      refine fin V (by rw [if_neg (by omega)]; exact hV) (hcode V (by omega)).1 ?_ ?_ ?_
      · rw [hN]; exact of_decide_eq_true (allB_at (f := fun n => decide (partA 110 q.bits.reverse n 1 0 = n * 256)) c2 N (by omega))
      · rw [hm0, show (M : Int) = 0 by omega]; exact of_decide_eq_true c3
      · rw [show i.imm = 0 by omega, show (V : Int) = 0 by omega]; exact of_decide_eq_true c4
  · rcases hs with hs | hs
    · have u1 : uses1 r.shape = false := by rw [hs]; rfl
      have u2 : uses2 r.shape = false := by rw [hs]; rfl
      have hlo : lowI r.shape = -128 := by rw [hs]; rfl
      have hhi : highI r.shape = 127 := by rw [hs]; rfl
      have hsn : r.shape.toNat = 4 := by rw [hs]; rfl
      rw [show ((r.shape.toNat : Nat) : Int) = r.shape by omega, u1] at c2
      rw [show ((r.shape.toNat : Nat) : Int) = r.shape by omega, u2] at c3
      rw [hsn] at c4
      have hn0 := h5 u1
      have hm0 := h6 u2
      obtain ⟨V, hV⟩ := Int.eq_ofNat_of_zero_le (Int.emod_nonneg i.imm (show (256 : Int) ≠ 0 by decide))
      have hV2 := Int.emod_lt_of_pos i.imm (show (0 : Int) < 256 by decide)
      refine fin V (by rw [if_neg (by omega)]; exact hV) (hcode V (by omega)).1 ?_ ?_ ?_
      · rw [hn0, show (N : Int) = 0 by omega]; exact of_decide_eq_true c2
      · rw [hm0, show (M : Int) = 0 by omega]; exact of_decide_eq_true c3
      · have := of_decide_eq_true (allB_at (f := fun t : Nat => decide (partA 105 q.bits.reverse ((t : Int) - 128) 1 0 = ((t : Int) - 128) % 256)) c4 (i.imm + 128).toNat (by omega))
        rw [show (((i.imm + 128).toNat : Nat) : Int) - 128 = i.imm by omega, hV] at this
        exact this
    · have u1 : uses1 r.shape = false := by rw [hs]; rfl
      have u2 : uses2 r.shape = false := by rw [hs]; rfl
      have hlo : lowI r.shape = 0 := by rw [hs]; rfl
      have hhi : highI r.shape = 255 := by rw [hs]; rfl
      have hsn : r.shape.toNat = 11 := by rw [hs]; rfl
      rw [show ((r.shape.toNat : Nat) : Int) = r.shape by omega, u1] at c2
      rw [show ((r.shape.toNat : Nat) : Int) = r.shape by omega, u2] at c3
      rw [hsn] at c4
      have hn0 := h5 u1
      have hm0 := h6 u2
      obtain ⟨V, hV⟩ := Int.eq_ofNat_of_zero_le (Int.emod_nonneg i.imm (show (256 : Int) ≠ 0 by decide))
      have hV2 := Int.emod_lt_of_pos i.imm (show (0 : Int) < 256 by decide)
      refine fin V (by rw [if_neg (by omega)]; exact hV) (hcode V (by omega)).1 ?_ ?_ ?_
      · rw [hn0, show (N : Int) = 0 by omega]; exact of_decide_eq_true c2
      · rw [hm0, show (M : Int) = 0 by omega]; exact of_decide_eq_true c3
      · have := of_decide_eq_true (allB_at (f := fun t : Nat => decide (partA 105 q.bits.reverse (t : Int) 1 0 = t)) c4 i.imm.toNat (by omega))
        rw [show ((i.imm.toNat : Nat) : Int) = i.imm by omega] at this
        rw [this]; omega
  · have u1 : uses1 r.shape = false := by rw [hs]; rfl
    have u2 : uses2 r.shape = false := by rw [hs]; rfl
    have hlo : lowI r.shape = -2048 := by rw [hs]; rfl
    have hhi : highI r.shape = 2047 := by rw [hs]; rfl
    have hsn : r.shape.toNat = 5 := by rw [hs]; rfl
    rw [show ((r.shape.toNat : Nat) : Int) = r.shape by omega, u1] at c2
    rw [show ((r.shape.toNat : Nat) : Int) = r.shape by omega, u2] at c3
    rw [hsn] at c4
    have hn0 := h5 u1
    have hm0 := h6 u2
    obtain ⟨V, hV⟩ := Int.eq_ofNat_of_zero_le (Int.emod_nonneg i.imm (show (4096 : Int) ≠ 0 by decide))
    have hV2 := Int.emod_lt_of_pos i.imm (show (0 : Int) < 4096 by decide)
    refine fin V (by rw [if_pos hs]; exact hV) (hcode V (by omega)).1 ?_ ?_ ?_
    · rw [hn0, show (N : Int) = 0 by omega]; exact of_decide_eq_true c2
    · rw [hm0, show (M : Int) = 0 by omega]; exact of_decide_eq_true c3
    · have := of_decide_eq_true (allB_at (f := fun t : Nat => decide (partA 105 q.bits.reverse ((t : Int) - 2048) 1 0 = ((t : Int) - 2048) % 4096)) c4 (i.imm + 2048).toNat (by omega))
      rw [show (((i.imm + 2048).toNat : Nat) : Int) - 2048 = i.imm by omega, hV] at this
      exact this
end Go.Proofs.Ytdapgcdenpgnaaa

namespace Go.Proofs.Ytdapgcdenpgnaaa
open Go Go.Plat
set_option linter.unusedVariables false
set_option linter.unusedSimpArgs false
set_option maxRecDepth 100000
set_option maxHeartbeats 2000000
attribute [local irreducible] NilS LookS NormM bitI BytesS NormL Arith QuoS RemS ShlS ShrS BitS CatS SplitS SideS IdxS CallS LoopEnd EndS ModeS DrawS AWP Meets

def bitW (W : Int) (k : Nat) : Int := W / 2 ^ (15 - k) % 2
def preB (s : List UInt8) (W : Int) (k : Nat) : List (UInt8 × Int) := (List.range k).map fun j => (s.getD j 0, bitW W j)
def fitP (p : UInt8 × Int) : Bool := match p.1 == 48 with
  | true => p.2 == 0
  | false => match p.1 == 49 with
    | true => p.2 == 1
    | false => true
def fitF (l : List (UInt8 × Int)) : Bool := l.all fitP
def numF (f : UInt8 → Bool) (l : List (UInt8 × Int)) (x : Int) : Int := l.foldl (fun x p => match f p.1 with | true => 2 * x + p.2 | false => x) x
def isImm (c : UInt8) : Bool := !(c == 48) && !(c == 49) && !(c == 110) && !(c == 109)
def widF (l : List (UInt8 × Int)) : Nat := (l.filter fun p => isImm p.1).length

theorem preB_succ (s : List UInt8) (W : Int) (k : Nat) : preB s W (k + 1) = preB s W k ++ [(s.getD k 0, bitW W k)] := by simp [preB, List.range_succ]
theorem bitW_01 (W : Int) (k : Nat) : bitW W k = 0 ∨ bitW W k = 1 := by unfold bitW; omega
theorem numF_bd (f : UInt8 → Bool) (s : List UInt8) (W : Int) : ∀ k, 0 ≤ numF f (preB s W k) 0 ∧ numF f (preB s W k) 0 < 2 ^ k
  | 0 => by simp [numF, preB]
  | k + 1 => by
    have h := numF_bd f s W k
    have hp : (2 : Int) ^ (k + 1) = 2 ^ k * 2 := Int.pow_succ _ _
    have hb := bitW_01 W k
    have e : numF f (preB s W (k + 1)) 0 = match f (s.getD k 0) with | true => 2 * numF f (preB s W k) 0 + bitW W k | false => numF f (preB s W k) 0 := by
      rw [preB_succ]; simp [numF, List.foldl_append]
    rw [e, hp]
    generalize numF f (preB s W k) 0 = x at *
    generalize bitW W k = b at *
    generalize (2 : Int) ^ k = p at *
    split
    · rcases hb with rfl | rfl
      · show 0 ≤ 2 * x + 0 ∧ 2 * x + 0 < p * 2
        omega
      · show 0 ≤ 2 * x + 1 ∧ 2 * x + 1 < p * 2
        omega
    · show 0 ≤ x ∧ x < p * 2
      omega
theorem widF_bd (s : List UInt8) (W : Int) (k : Nat) : widF (preB s W k) ≤ k := by
  have := List.length_filter_le (fun p : UInt8 × Int => isImm p.1) (preB s W k)
  simp only [widF]
  simp only [preB, List.length_map, List.length_range] at this
  exact this
theorem numF_step (f : UInt8 → Bool) (s : List UInt8) (W : Int) (k : Nat) : numF f (preB s W (k + 1)) 0 = match f (s.getD k 0) with | true => 2 * numF f (preB s W k) 0 + bitW W k | false => numF f (preB s W k) 0 := by
  rw [preB_succ]; simp [numF, List.foldl_append]
theorem fitF_step (s : List UInt8) (W : Int) (k : Nat) : fitF (preB s W (k + 1)) = (fitF (preB s W k) && fitP (s.getD k 0, bitW W k)) := by
  rw [preB_succ]; simp [fitF]
theorem widF_step (s : List UInt8) (W : Int) (k : Nat) : widF (preB s W (k + 1)) = widF (preB s W k) + (match isImm (s.getD k 0) with | true => 1 | false => 0) := by
  rw [preB_succ]
  unfold widF
  rw [List.filter_append, List.length_append]
  congr 1
  cases h : isImm (s.getD k 0) <;> simp only [List.filter, h] <;> rfl
theorem shr_var {n : Int} {k : Nat} (hk : k ≤ 15) {K : D → Prop} (h : K (.int .i64 (n / 2 ^ (15 - k)))) : ShrS .i64 n (15 - (k : Int)) K :=
  shr_lit (s := 15 - k) (m := 2 ^ (15 - k)) (by omega) (by show 15 - k ≤ 64; omega) rfl h

theorem fit_0 (s : List UInt8) (W : Int) : fitF (preB s W 0) = true := rfl
theorem num_0 (f : UInt8 → Bool) (s : List UInt8) (W : Int) : numF f (preB s W 0) 0 = 0 := rfl
theorem wid_0 (s : List UInt8) (W : Int) : widF (preB s W 0) = 0 := rfl
theorem shl_one {d : Nat} {y : Int} (hy : y = d) (hd : d ≤ 16) {K : D → Prop} (h : K (.int .i64 (2 ^ d))) : ShlS .i64 1 y K := by
  have := pow_bd hd
  refine shl_lit (s := d) (m := 2 ^ d) hy (by omega) rfl (by omega) (by omega) ?_
  rwa [Int.one_mul]

theorem fit_48 (b : Int) : fitP (48, b) = (b == 0) := rfl
theorem fit_49 (b : Int) : fitP (49, b) = (b == 1) := rfl
theorem fit_110 (b : Int) : fitP (110, b) = true := rfl
theorem fit_109 (b : Int) : fitP (109, b) = true := rfl
theorem imm_48 : isImm 48 = false := rfl
theorem imm_49 : isImm 49 = false := rfl
theorem imm_110 : isImm 110 = false := rfl
theorem imm_109 : isImm 109 = false := rfl
theorem imm_char {c : UInt8} {b : Int} (h1 : ¬ c = 48) (h2 : ¬ c = 49) (h3 : ¬ c = 110) (h4 : ¬ c = 109) : fitP (c, b) = true ∧ (c == 110) = false ∧ (c == 109) = false ∧ isImm c = true := by
  have e1 : (c == 48) = false := beq_eq_false_iff_ne.2 h1
  have e2 : (c == 49) = false := beq_eq_false_iff_ne.2 h2
  have e3 : (c == 110) = false := beq_eq_false_iff_ne.2 h3
  have e4 : (c == 109) = false := beq_eq_false_iff_ne.2 h4
  exact ⟨by simp only [fitP, e1, e2], e3, e4, by simp only [isImm, e1, e2, e3, e4]; rfl⟩

attribute [local irreducible] RenM irows infoR rowsB allB decR wrongI encV decI signedI findI lowI highI rrows rinfo rrowsM fitF numF widF preB bitW isImm

/-- what the document's reading of a row comes to -/
structure RowDec (W : Nat) (r : IRow) (q : RRow) : Prop where
  fits : fitF (preB q.bits W 16) = fitsR W r
  num : fitsR W r = true → numF (fun c => c == 110) (preB q.bits W 16) 0 = (insOf W r).n ∧ numF (fun c => c == 109) (preB q.bits W 16) 0 = (insOf W r).m
  imm : fitsR W r = true → (lowI r.shape < 0 → 1 ≤ widF (preB q.bits W 16)) ∧ (insOf W r).imm = (if lowI r.shape < 0 ∧ (2 : Int) ^ (widF (preB q.bits W 16) - 1) ≤ numF isImm (preB q.bits W 16) 0 then numF isImm (preB q.bits W 16) 0 - 2 ^ widF (preB q.bits W 16) else numF isImm (preB q.bits W 16) 0)

theorem rdecode_meets (hrow : ∀ (W j : Nat) r q, W < 65536 → irows[j]? = some r → rrows[j]? = some q → RowDec W r q) : Meets Try.prog n_plref1_Decode (SpecP (fun _ : Int => True) (fun w => [.int .i64 w]) fun w => .tup [insD (decI w).1, .int .i64 (decI w).2]) := by
  refine meets_f tabOk Try.func18 rfl (by decide) fun w _ => ?_
  refine ⟨Nat.le_refl _, by simp [Try.f18], fun E hE => ?_⟩
  refine vcOk _ ?_
  (all_goals refine qgo ?_ <;> (repeat' first | exact trivial | intro hc | refine And.intro ?_ ?_) <;> refine Lf.mk ?_)
  · refine end_p (VS.mk (LeD.of_eq ?_))
    rw [show decI w = (ins0, 3) by unfold decI; rw [if_pos (by omega)]]
    rfl
  · refine end_p (VS.mk (LeD.of_eq ?_))
    rw [show decI w = (ins0, 3) by unfold decI; rw [if_pos (by omega)]]
    rfl
  obtain ⟨W, hW⟩ := Int.eq_ofNat_of_zero_le (show 0 ≤ w by omega)
  subst hW
  have hWl : W < 65536 := by omega
  refine awp_loop (α := Nat) (fun m => m ≤ 27 ∧ ∀ (i : Nat) r, i < m → irows[i]? = some r → fitsR W r = false) (fun m => [(4, .int .i64 ((m : Int) + 1)), (0, .int .i64 W), (2, .loc 0 0)])
    (fun _ => [.cells [.int .i64 0, .int .i64 0, .int .i64 0, .int .i64 0]]) (fun m => 27 - m) (fun _ => by simp [hE]) 0 ⟨Nat.zero_le _, by simp⟩ ?_ ?_
  · (repeat' (first | (refine VS.mk ?_) | exact trivial | exact rfl | refine And.intro ?_ ?_))
  rintro m ⟨hm, hno⟩
  refine vcOk _ ?_
  (all_goals refine qgo ?_ <;> (repeat' first | exact trivial | intro hc | refine And.intro ?_ ?_) <;> refine Lf.mk ?_)
  · obtain ⟨r, hr⟩ := at_of_lt (l := irows) (k := m) (by rw [irows_len]; omega)
    obtain ⟨q, hq⟩ : ∃ q, rrows[m]? = some q := by
      have : (rrows.map (·.op)).length = 27 := by rw [rops]; rfl
      exact at_of_lt (by rw [List.length_map] at this; omega)
    have hrop : r.op = (m : Int) + 1 := by
      have e1 : (irows.map (·.op))[m]? = some r.op := by rw [List.getElem?_map, hr]; rfl
      rw [iops, List.getElem?_map, List.getElem?_range (by omega)] at e1
      simpa using e1.symm
    have hri : rinfo ((m : Int) + 1) = some q := by
      obtain ⟨q', h1, _⟩ := rinfo_some (irow_info r (List.mem_of_getElem? hr))
      rw [hrop] at h1
      obtain ⟨j, _, h2, h3⟩ := same_row (by have := irow_info r (List.mem_of_getElem? hr); rwa [hrop] at this) h1
      have e2 : (rrows.map (·.op))[j]? = some q'.op := by rw [List.getElem?_map, h3]; rfl
      have hj : j < 27 := by assumption
      rw [rops, List.getElem?_map, List.getElem?_range hj] at e2
      have := (rinfo_mem h1).2
      simp at e2
      have : j = m := by omega
      subst this
      rw [hq] at h3
      cases h3
      exact h1
    have hg : getM (.int .i64 ((m : Int) + 1)) rrowsM = some (rrowD q) := by rw [getM_rows, hri]; rfl
    have hqm := rbits_len q (rinfo_mem hri).1
    have hrd := hrow W m r q hWl hr hq
    refine call_f rrows_meets [] [1] () trivial rfl rfl ?_
    refine And.intro (VS.mk (LeL.refl _)) (And.intro (VS.mk rfl) ?_)
    (all_goals refine qgo ?_ <;> (repeat' first | exact trivial | intro hc | refine And.intro ?_ ?_) <;> refine Lf.mk ?_)
    refine renM_rows ?_
    (repeat' (first | (refine lk_none hg ?_) | (refine lk_some hg ?_) | (refine VS.mk ?_) | (refine dr_mk ?_) | (refine md_l ?_) | ((first | refine sp_not_dec ?_ ?_ | refine sp_dec ?_ ?_ | refine sp_beq ?_ ?_ | refine sp_bne ?_ ?_ | refine sp_seq ?_ ?_ | refine sp_sne ?_ ?_ | refine sp_not ?_ ?_ | refine sp_any ?_ ?_) <;> (intro hc; try simp only [List.length_map, List.length_append, List.length_cons, List.length_nil, Bool.and_true, Bool.and_eq_true, beq_iff_eq, Bool.and_eq_false_iff, beq_eq_false_iff_ne, Bool.true_and, ne_eq] at hc)) | (with_reducible first | refine norm_one ?_ | refine norm_app ?_ | refine norm_cutEnd ?_ | refine norm_cut ?_ | refine norm_bytes1 ?_ | refine norm_bytes2 ?_ | refine norm_setByte ?_ | refine norm_int1 ?_ | refine norm_mk ?_) | (with_reducible refine bytes_mk ?_) | (refine ar_byte ?_) | (refine ar_i64 (by omega) (by omega) ?_) | (refine ar_low ?_) | (refine ix_byteN (by omega) ?_) | (refine ix_byteK (by simp only [Int.reduceToNat]; exact rfl) (by decide) (by omega) ?_) | (refine ix_byte (by omega) (by omega) ?_) | (refine ix_rfl (by decide) rfl ?_) | (refine sd_mk rfl ?_) | (refine sd_mk (by decide +kernel) ?_) | (refine sd_mk (by first | (simp only [List.length_map, List.length_append, List.length_cons, List.length_nil]; done) | ((try simp only [List.length_map, List.length_append, List.length_cons, List.length_nil, List.length_set, List.length_replicate, List.length_drop, List.length_take, true_and, and_true]); omega) | (dsimp only; omega)) ?_) | (first | refine shl8 (by omega) (by omega) ?_ | refine shl4 (by omega) (by omega) ?_ | refine shl1 (by omega) (by omega) ?_ | refine shl16 (by omega) (by omega) ?_ | refine shl24 (by omega) (by omega) ?_ | refine shr8 (by decide) ?_ | refine shr4 (by decide) ?_ | refine shr1 (by decide) ?_ | refine shr16 (by decide) ?_ | refine shr24 (by decide) ?_) | (with_reducible first | refine bit_mk and_1 ?_ | refine bit_mk and_15 ?_ | refine bit_mk and_255 ?_ | refine bit_mk and_4095 ?_ | refine bit_mk and_65535 ?_) | (refine quo_pos (by omega) (by omega) (by omega) ?_) | (refine rem_pos (by omega) (by omega) ?_)))
    refine awp_weak (weak_le 7 (.bool true) (show LeD .tt (.bool true) from LeD.tt rfl)) ?_
    refine awp_loop (α := Nat) (fun k => k ≤ 16) (fun k => [(29, .int .i64 k), (4, .int .i64 ((m : Int) + 1)), (0, .int .i64 W), (2, .loc 0 0), (5, .loc 2 0), (6, .loc 3 0), (7, .bool (fitF (preB q.bits W k))), (8, .int .i64 (widF (preB q.bits W k)))])
      (fun k => [.cells [.int .i64 0, .int .i64 0, .int .i64 0, .int .i64 0], .map rrowsM, .cells [.str q.name, .int .i64 q.shape, .str q.bits], .cells [.int .i64 ((m : Int) + 1), .int .i64 (numF (fun c => c == 110) (preB q.bits W k) 0), .int .i64 (numF (fun c => c == 109) (preB q.bits W k) 0), .int .i64 (numF isImm (preB q.bits W k) 0)]])
      (fun k => 16 - k) (fun _ => by simp [hE]) 0 (Nat.zero_le _) ?_ ?_
    · (repeat' (first | (refine VS.mk ?_) | exact trivial | exact rfl | refine And.intro ?_ ?_))
      · refine renM_rows ?_
        refine VS.mk ?_
        rw [num_0, num_0, num_0]
      all_goals first | (rw [fit_0]) | (rw [wid_0]; rfl)
    intro k hk
    have hb1 := numF_bd (fun c => c == 110) q.bits W k
    have hb2 := numF_bd (fun c => c == 109) q.bits W k
    have hb3 := numF_bd isImm q.bits W k
    have hb4 := widF_bd q.bits W k
    have hb5 := bitW_01 W k
    have hpow := pow_bd hk
    have hbw : (W : Int) / 2 ^ (15 - k) % 2 = bitW W k := by unfold bitW; rfl
    have hidx : ((k : Int)).toNat = k := Int.toNat_natCast k
    have s1 := fitF_step q.bits W k
    have s2 := numF_step (fun c => c == 110) q.bits W k
    have s3 := numF_step (fun c => c == 109) q.bits W k
    have s4 := numF_step isImm q.bits W k
    have s5 := widF_step q.bits W k
    have hlen : E.L.length ≤ 4 := by simp [hE]
    have char : ∀ {c d : UInt8}, ((c.toNat : Nat) : Int) = ((d.toNat : Nat) : Int) → c = d := fun h => UInt8.toNat_inj.1 (by exact_mod_cast h)
    refine vcOk _ ?_
    (all_goals refine qgo ?_ <;> (repeat' first | exact trivial | intro hc | refine And.intro ?_ ?_) <;> refine Lf.mk ?_)
    · refine shr_var (by omega) ?_
      refine VS.mk ?_
      refine bit_mk and_1 ?_
      rw [hbw]
      (all_goals refine qgo ?_ <;> (repeat' first | exact trivial | intro hc | refine And.intro ?_ ?_) <;> refine Lf.mk ?_)
      · rw [hidx] at *
        have hch : q.bits.getD k 0 = 48 := char (by assumption)
        rw [hch] at s1 s2 s3 s4 s5
        rw [fit_48] at s1
        rw [imm_48] at s4 s5
        have s2 : numF (fun c => c == 110) (preB q.bits W (k + 1)) 0 = numF (fun c => c == 110) (preB q.bits W k) 0 := s2
        have s3 : numF (fun c => c == 109) (preB q.bits W (k + 1)) 0 = numF (fun c => c == 109) (preB q.bits W k) 0 := s3
        have s4 : numF isImm (preB q.bits W (k + 1)) 0 = numF isImm (preB q.bits W k) 0 := s4
        have s5 : widF (preB q.bits W (k + 1)) = widF (preB q.bits W k) + 0 := s5
        refine loop_end_weak (k + 1) (by omega) (by omega) (weak_le 7 (.bool (fitF (preB q.bits W (k + 1)))) ?_) hlen ?_
        · refine LeD.of_eq (congrArg D.bool ?_)
          rw [s1, hc, Bool.true_and]
        · (repeat' (first | (refine VS.mk ?_) | exact trivial | exact rfl | refine And.intro ?_ ?_))
          · refine renM_rows ?_
            refine VS.mk ?_
            rw [s2, s3, s4]
          all_goals first | rfl | (rw [s5]; rfl) | (rw [s5]; congr 1; omega)
      · rw [hidx] at *
        have hch : q.bits.getD k 0 = 48 := char (by assumption)
        rw [hch] at s1 s2 s3 s4 s5
        rw [fit_48] at s1
        rw [imm_48] at s4 s5
        have s2 : numF (fun c => c == 110) (preB q.bits W (k + 1)) 0 = numF (fun c => c == 110) (preB q.bits W k) 0 := s2
        have s3 : numF (fun c => c == 109) (preB q.bits W (k + 1)) 0 = numF (fun c => c == 109) (preB q.bits W k) 0 := s3
        have s4 : numF isImm (preB q.bits W (k + 1)) 0 = numF isImm (preB q.bits W k) 0 := s4
        have s5 : widF (preB q.bits W (k + 1)) = widF (preB q.bits W k) + 0 := s5
        refine loop_end_weak (k + 1) (by omega) (by omega) (weak_le 7 (.bool (fitF (preB q.bits W (k + 1)))) ?_) hlen ?_
        · exact LeD.ff (by rw [s1, hc]; rfl)
        · (repeat' (first | (refine VS.mk ?_) | exact trivial | exact rfl | refine And.intro ?_ ?_))
          · refine renM_rows ?_
            refine VS.mk ?_
            rw [s2, s3, s4]
          all_goals first | rfl | (rw [s5]; rfl) | (rw [s5]; congr 1; omega)
      · rw [hidx] at *
        have hch : q.bits.getD k 0 = 49 := char (by assumption)
        rw [hch] at s1 s2 s3 s4 s5
        rw [fit_49] at s1
        rw [imm_49] at s4 s5
        have s2 : numF (fun c => c == 110) (preB q.bits W (k + 1)) 0 = numF (fun c => c == 110) (preB q.bits W k) 0 := s2
        have s3 : numF (fun c => c == 109) (preB q.bits W (k + 1)) 0 = numF (fun c => c == 109) (preB q.bits W k) 0 := s3
        have s4 : numF isImm (preB q.bits W (k + 1)) 0 = numF isImm (preB q.bits W k) 0 := s4
        have s5 : widF (preB q.bits W (k + 1)) = widF (preB q.bits W k) + 0 := s5
        refine loop_end_weak (k + 1) (by omega) (by omega) (weak_le 7 (.bool (fitF (preB q.bits W (k + 1)))) ?_) hlen ?_
        · refine LeD.of_eq (congrArg D.bool ?_)
          rw [s1, hc, Bool.true_and]
        · (repeat' (first | (refine VS.mk ?_) | exact trivial | exact rfl | refine And.intro ?_ ?_))
          · refine renM_rows ?_
            refine VS.mk ?_
            rw [s2, s3, s4]
          all_goals first | rfl | (rw [s5]; rfl) | (rw [s5]; congr 1; omega)
      · rw [hidx] at *
        have hch : q.bits.getD k 0 = 49 := char (by assumption)
        rw [hch] at s1 s2 s3 s4 s5
        rw [fit_49] at s1
        rw [imm_49] at s4 s5
        have s2 : numF (fun c => c == 110) (preB q.bits W (k + 1)) 0 = numF (fun c => c == 110) (preB q.bits W k) 0 := s2
        have s3 : numF (fun c => c == 109) (preB q.bits W (k + 1)) 0 = numF (fun c => c == 109) (preB q.bits W k) 0 := s3
        have s4 : numF isImm (preB q.bits W (k + 1)) 0 = numF isImm (preB q.bits W k) 0 := s4
        have s5 : widF (preB q.bits W (k + 1)) = widF (preB q.bits W k) + 0 := s5
        refine loop_end_weak (k + 1) (by omega) (by omega) (weak_le 7 (.bool (fitF (preB q.bits W (k + 1)))) ?_) hlen ?_
        · exact LeD.ff (by rw [s1, hc]; rfl)
        · (repeat' (first | (refine VS.mk ?_) | exact trivial | exact rfl | refine And.intro ?_ ?_))
          · refine renM_rows ?_
            refine VS.mk ?_
            rw [s2, s3, s4]
          all_goals first | rfl | (rw [s5]; rfl) | (rw [s5]; congr 1; omega)
      · rw [hidx] at *
        have hch : q.bits.getD k 0 = 110 := char (by assumption)
        rw [hch] at s1 s2 s3 s4 s5
        rw [fit_110] at s1
        rw [imm_110] at s4 s5
        have s2 : numF (fun c => c == 110) (preB q.bits W (k + 1)) 0 = 2 * numF (fun c => c == 110) (preB q.bits W k) 0 + bitW W k := s2
        have s3 : numF (fun c => c == 109) (preB q.bits W (k + 1)) 0 = numF (fun c => c == 109) (preB q.bits W k) 0 := s3
        have s4 : numF isImm (preB q.bits W (k + 1)) 0 = numF isImm (preB q.bits W k) 0 := s4
        have s5 : widF (preB q.bits W (k + 1)) = widF (preB q.bits W k) + 0 := s5
        refine loop_end_weak (k + 1) (by omega) (by omega) (weak_le 7 (.bool (fitF (preB q.bits W (k + 1)))) ?_) hlen ?_
        · refine LeD.of_eq (congrArg D.bool ?_)
          rw [s1, Bool.and_true]
        · (repeat' (first | (refine VS.mk ?_) | exact trivial | exact rfl | refine And.intro ?_ ?_))
          · refine renM_rows ?_
            refine VS.mk ?_
            rw [s2, s3, s4]
          all_goals first | rfl | (rw [s5]; rfl) | (rw [s5]; congr 1; omega)
      · rw [hidx] at *
        have hch : q.bits.getD k 0 = 109 := char (by assumption)
        rw [hch] at s1 s2 s3 s4 s5
        rw [fit_109] at s1
        rw [imm_109] at s4 s5
        have s2 : numF (fun c => c == 110) (preB q.bits W (k + 1)) 0 = numF (fun c => c == 110) (preB q.bits W k) 0 := s2
        have s3 : numF (fun c => c == 109) (preB q.bits W (k + 1)) 0 = 2 * numF (fun c => c == 109) (preB q.bits W k) 0 + bitW W k := s3
        have s4 : numF isImm (preB q.bits W (k + 1)) 0 = numF isImm (preB q.bits W k) 0 := s4
        have s5 : widF (preB q.bits W (k + 1)) = widF (preB q.bits W k) + 0 := s5
        refine loop_end_weak (k + 1) (by omega) (by omega) (weak_le 7 (.bool (fitF (preB q.bits W (k + 1)))) ?_) hlen ?_
        · refine LeD.of_eq (congrArg D.bool ?_)
          rw [s1, Bool.and_true]
        · (repeat' (first | (refine VS.mk ?_) | exact trivial | exact rfl | refine And.intro ?_ ?_))
          · refine renM_rows ?_
            refine VS.mk ?_
            rw [s2, s3, s4]
          all_goals first | rfl | (rw [s5]; rfl) | (rw [s5]; congr 1; omega)
      · rw [hidx] at *
        have n48 : ¬ q.bits.getD k 0 = 48 := fun e => absurd (by rw [e]; rfl) (by assumption : ¬ (((q.bits.getD k 0).toNat : Nat) : Int) = 48)
        have n49 : ¬ q.bits.getD k 0 = 49 := fun e => absurd (by rw [e]; rfl) (by assumption : ¬ (((q.bits.getD k 0).toNat : Nat) : Int) = 49)
        have n110 : ¬ q.bits.getD k 0 = 110 := fun e => absurd (by rw [e]; rfl) (by assumption : ¬ (((q.bits.getD k 0).toNat : Nat) : Int) = 110)
        have n109 : ¬ q.bits.getD k 0 = 109 := fun e => absurd (by rw [e]; rfl) (by assumption : ¬ (((q.bits.getD k 0).toNat : Nat) : Int) = 109)
        obtain ⟨i1, i2, i3, i4⟩ := imm_char n48 n49 n110 n109 (b := bitW W k)
        rw [i1] at s1
        simp only [i2] at s2
        simp only [i3] at s3
        rw [i4] at s4 s5
        have s2 : numF (fun c => c == 110) (preB q.bits W (k + 1)) 0 = numF (fun c => c == 110) (preB q.bits W k) 0 := s2
        have s3 : numF (fun c => c == 109) (preB q.bits W (k + 1)) 0 = numF (fun c => c == 109) (preB q.bits W k) 0 := s3
        have s4 : numF isImm (preB q.bits W (k + 1)) 0 = 2 * numF isImm (preB q.bits W k) 0 + bitW W k := s4
        have s5 : widF (preB q.bits W (k + 1)) = widF (preB q.bits W k) + 1 := s5
        refine loop_end_weak (k + 1) (by omega) (by omega) (weak_le 7 (.bool (fitF (preB q.bits W (k + 1)))) ?_) hlen ?_
        · refine LeD.of_eq (congrArg D.bool ?_)
          rw [s1, Bool.and_true]
        · (repeat' (first | (refine VS.mk ?_) | exact trivial | exact rfl | refine And.intro ?_ ?_))
          · refine renM_rows ?_
            refine VS.mk ?_
            rw [s2, s3, s4]
          all_goals first | rfl | (rw [s5]; rfl) | (rw [s5]; congr 1; omega)
    · have hk16 : k = 16 := by omega
      subst hk16
      have hf : fitsR W r = false := by rw [← hrd.fits]; exact hc
      refine loop_end (m + 1) ⟨by omega, no_step hno hr hf⟩ (by omega) ?_
      (repeat' (first | (refine VS.mk ?_) | exact trivial | exact rfl | refine And.intro ?_ ?_))
    have hk16 : k = 16 := by omega
    subst hk16
    have hf : fitsR W r = true := by rw [← hrd.fits]; exact hc
    obtain ⟨n1, n2⟩ := hrd.num hf
    obtain ⟨i1, i2⟩ := hrd.imm hf
    have hfind := find_at hr hf hno
    have hd : decI (W : Int) = (insOf W r, 0) := by
      unfold decI
      rw [if_neg (by omega)]
      simp only [Int.toNat_natCast, decR, hfind]
    have hqs : q.shape = r.shape := by
      obtain ⟨q', h1, _, h2, _⟩ := rinfo_some (irow_info r (List.mem_of_getElem? hr))
      rw [hrop, hri] at h1
      cases h1
      exact h2
    have hiop : (insOf W r).op = r.op := rfl
    clear s1 s2 s3 s4 s5 hb5 hbw hidx
    generalize numF isImm (preB q.bits W 16) 0 = xi at *
    generalize widF (preB q.bits W 16) = wd at *
    generalize numF (fun c => c == 110) (preB q.bits W 16) 0 = xn at *
    generalize numF (fun c => c == 109) (preB q.bits W 16) 0 = xm at *
    have hpw : (2 : Int) ^ 16 = 65536 := rfl
    have fin : ∀ v : Int, (insOf W r).imm = v → D.agg [.int .i64 ((m : Int) + 1), .int .i64 xn, .int .i64 xm, .int .i64 v] = insD (insOf W r) := by
      intro v hv
      unfold insD
      rw [hiop, hrop, ← n1, ← n2, hv]
    refine call_p range2_meets q.shape trivial (VS.mk (by (first | exact LeL.refl _ | (repeat' (first | exact LeL.nil | exact LeD.refl _ | exact LeD.nil _ | exact LeD.strip _ _ _ | refine LeL.cons ?_ ?_ | refine LeD.tup ?_ | refine LeD.agg ?_))))) ?_
    rw [hqs]
    rw [show (if r.shape = 1 ∨ r.shape = 4 then (-128 : Int) else if r.shape = 5 then -2048 else 0) = lowI r.shape from (low_eq r.shape).symm, show (if r.shape = 1 ∨ r.shape = 4 then (127 : Int) else if r.shape = 5 then 2047 else if r.shape = 7 ∨ r.shape = 8 ∨ r.shape = 11 then 255 else 0) = highI r.shape from (high_eq r.shape).symm]
    (all_goals refine qgo ?_ <;> (repeat' first | exact trivial | intro hc | refine And.intro ?_ ?_) <;> refine Lf.mk ?_)
    · have hwd := i1 hc
      have hpa := pow_bd (k := wd - 1) (by omega)
      have hpb := pow_bd (k := wd) (by omega)
      refine shl_one (d := wd - 1) (by omega) (by omega) ?_
      (all_goals refine qgo ?_ <;> (repeat' first | exact trivial | intro hc | refine And.intro ?_ ?_) <;> refine Lf.mk ?_)
      · skip
        refine shl_one (d := wd) rfl (by omega) ?_
        (all_goals refine qgo ?_ <;> (repeat' first | exact trivial | intro hc | refine And.intro ?_ ?_) <;> refine Lf.mk ?_)
        refine end_p (VS.mk (LeD.of_eq ?_))
        rw [hd, fin (xi - 2 ^ wd) (by rw [i2, if_pos ⟨by assumption, hc⟩])]
      · refine end_p (VS.mk (LeD.of_eq ?_))
        rw [hd, fin xi (by rw [i2, if_neg (fun h => hc h.2)])]
    · refine end_p (VS.mk (LeD.of_eq ?_))
      rw [hd, fin xi (by rw [i2, if_neg (fun h => hc h.1)])]
  · have hf := no_end hno (by rw [irows_len]; omega)
    have hd : decI (W : Int) = (ins0, 12) := by
      unfold decI
      rw [if_neg (by omega)]
      simp only [Int.toNat_natCast, decR, hf]
    refine end_p (VS.mk (LeD.of_eq ?_))
    rw [hd]
    rfl
end Go.Proofs.Ytdapgcdenpgnaaa

namespace Go.Proofs.Ytdapgcdenpgnaaa
open Go Go.Plat
set_option linter.unusedVariables false
set_option linter.unusedSimpArgs false
set_option maxRecDepth 100000
set_option maxHeartbeats 2000000
attribute [local irreducible] NilS LookS NormM bitI BytesS NormL Arith QuoS RemS ShlS ShrS BitS CatS SplitS SideS IdxS CallS LoopEnd EndS ModeS DrawS AWP Meets

def preH (s : List UInt8) (h : Nat) : List (UInt8 × Int) := (List.range 8).map fun j => (s.getD j 0, (h : Int) / 2 ^ (7 - j) % 2)
def preL (s : List UInt8) (l : Nat) : List (UInt8 × Int) := (List.range 8).map fun j => (s.getD (8 + j) 0, (l : Int) / 2 ^ (7 - j) % 2)

theorem pre_split (s : List UInt8) (W : Nat) : preB s W 16 = preH s (W / 256) ++ preL s (W % 256) := by
  unfold preB preH preL bitW
  have hh : ∀ j, j < 8 → (W : Int) / 2 ^ (15 - j) % 2 = ((W / 256 : Nat) : Int) / 2 ^ (7 - j) % 2 := fun j hj => by
    match j, hj with
    | 0, _ => simp; omega
    | 1, _ => simp; omega
    | 2, _ => simp; omega
    | 3, _ => simp; omega
    | 4, _ => simp; omega
    | 5, _ => simp; omega
    | 6, _ => simp; omega
    | 7, _ => simp
  have hl : ∀ j, j < 8 → (W : Int) / 2 ^ (15 - (8 + j)) % 2 = ((W % 256 : Nat) : Int) / 2 ^ (7 - j) % 2 := fun j hj => by
    match j, hj with
    | 0, _ => simp; omega
    | 1, _ => simp; omega
    | 2, _ => simp; omega
    | 3, _ => simp; omega
    | 4, _ => simp; omega
    | 5, _ => simp; omega
    | 6, _ => simp; omega
    | 7, _ => simp
  rw [show (16 : Nat) = 8 + 8 from rfl, List.range_add, List.map_append, List.map_map]
  congr 1
  · apply List.map_congr_left
    intro j hj
    rw [hh j (by simpa using hj)]
  · apply List.map_congr_left
    intro j hj
    simp only [Function.comp_apply]
    rw [hl j (by simpa using hj)]

def isFar (s : Nat) : Bool := s == 5
def isNear (s : Nat) : Bool := s == 1 || s == 4 || s == 7 || s == 8 || s == 11
def chkH (p : Nat × Nat × Nat) (s : List UInt8) (h : Nat) : Bool :=
  (fitF (preH s h) == Nat.beq (h &&& (p.2.1 / 256)) (p.2.2 / 256)) &&
  decide (numF (fun c => c == 110) (preH s h) 0 = if uses1 p.1 = true then ((h % 16 : Nat) : Int) else 0) &&
  decide (numF (fun c => c == 109) (preH s h) 0 = 0) &&
  decide (numF isImm (preH s h) 0 = if isFar p.1 = true then ((h % 16 : Nat) : Int) else 0) &&
  decide (widF (preH s h) = if isFar p.1 = true then 4 else 0)
def chkL (p : Nat × Nat × Nat) (s : List UInt8) (l : Nat) : Bool :=
  (fitF (preL s l) == Nat.beq (l &&& (p.2.1 % 256)) (p.2.2 % 256)) &&
  decide (numF (fun c => c == 109) (preL s l) 0 = if uses2 p.1 = true then ((l / 16 : Nat) : Int) else 0) &&
  (match isFar p.1 with
    | true => allB (fun x => decide (numF isImm (preL s l) (x : Int) = (x : Int) * 256 + (l : Int))) 16
    | false => decide (numF isImm (preL s l) 0 = if isNear p.1 = true then (l : Int) else 0)) &&
  decide (widF (preL s l) = if isFar p.1 = true ∨ isNear p.1 = true then 8 else 0)
def chkD (p : Nat × Nat × Nat) (s : List UInt8) : Bool :=
  allB (chkH p s) 256 && allB (chkL p s) 256 && (s.drop 8).all (fun c => !(c == 110))
def rowD (j : Nat) : Bool := match rowsB[j]? with | some p => (match rrows[j]? with | some q => chkD p q.bits | none => false) | none => false
end Go.Proofs.Ytdapgcdenpgnaaa

namespace Go.Proofs.Ytdapgcdenpgnaaa
open Go Go.Plat
set_option linter.unusedVariables false
set_option linter.unusedSimpArgs false
set_option maxRecDepth 100000
set_option maxHeartbeats 2000000
attribute [local irreducible] NilS LookS NormM bitI BytesS NormL Arith QuoS RemS ShlS ShrS BitS CatS SplitS SideS IdxS CallS LoopEnd EndS ModeS DrawS AWP Meets

theorem rowD_0 : rowD 0 = true := by kernel_rfl
theorem rowD_1 : rowD 1 = true := by kernel_rfl
theorem rowD_2 : rowD 2 = true := by kernel_rfl
theorem rowD_3 : rowD 3 = true := by kernel_rfl
theorem rowD_4 : rowD 4 = true := by kernel_rfl
theorem rowD_5 : rowD 5 = true := by kernel_rfl
theorem rowD_6 : rowD 6 = true := by kernel_rfl
theorem rowD_7 : rowD 7 = true := by kernel_rfl
theorem rowD_8 : rowD 8 = true := by kernel_rfl
theorem rowD_9 : rowD 9 = true := by kernel_rfl
theorem rowD_10 : rowD 10 = true := by kernel_rfl
theorem rowD_11 : rowD 11 = true := by kernel_rfl
theorem rowD_12 : rowD 12 = true := by kernel_rfl
theorem rowD_13 : rowD 13 = true := by kernel_rfl
end Go.Proofs.Ytdapgcdenpgnaaa

namespace Go.Proofs.Ytdapgcdenpgnaaa
open Go Go.Plat
set_option linter.unusedVariables false
set_option linter.unusedSimpArgs false
set_option maxRecDepth 100000
set_option maxHeartbeats 2000000
attribute [local irreducible] NilS LookS NormM bitI BytesS NormL Arith QuoS RemS ShlS ShrS BitS CatS SplitS SideS IdxS CallS LoopEnd EndS ModeS DrawS AWP Meets

theorem rowD_14 : rowD 14 = true := by kernel_rfl
theorem rowD_15 : rowD 15 = true := by kernel_rfl
theorem rowD_16 : rowD 16 = true := by kernel_rfl
theorem rowD_17 : rowD 17 = true := by kernel_rfl
theorem rowD_18 : rowD 18 = true := by kernel_rfl
theorem rowD_19 : rowD 19 = true := by kernel_rfl
theorem rowD_20 : rowD 20 = true := by kernel_rfl
theorem rowD_21 : rowD 21 = true := by kernel_rfl
theorem rowD_22 : rowD 22 = true := by kernel_rfl
theorem rowD_23 : rowD 23 = true := by kernel_rfl
theorem rowD_24 : rowD 24 = true := by kernel_rfl
theorem rowD_25 : rowD 25 = true := by kernel_rfl
theorem rowD_26 : rowD 26 = true := by kernel_rfl
end Go.Proofs.Ytdapgcdenpgnaaa

namespace Go.Proofs.Ytdapgcdenpgnaaa
open Go Go.Plat
set_option linter.unusedVariables false
set_option linter.unusedSimpArgs false
set_option maxRecDepth 100000
set_option maxHeartbeats 2000000
attribute [local irreducible] NilS LookS NormM bitI BytesS NormL Arith QuoS RemS ShlS ShrS BitS CatS SplitS SideS IdxS CallS LoopEnd EndS ModeS DrawS AWP Meets
attribute [local irreducible] rrows irows rowsB infoR rinfo decR fitF numF widF preH preL preB isImm lowI highI signedI allB

theorem rowD_all (j : Nat) (hj : j < 27) : rowD j = true := by
  have h : j = 0 ∨ j = 1 ∨ j = 2 ∨ j = 3 ∨ j = 4 ∨ j = 5 ∨ j = 6 ∨ j = 7 ∨ j = 8 ∨ j = 9 ∨ j = 10 ∨ j = 11 ∨ j = 12 ∨ j = 13 ∨ j = 14 ∨ j = 15 ∨ j = 16 ∨ j = 17 ∨ j = 18 ∨ j = 19 ∨ j = 20 ∨ j = 21 ∨ j = 22 ∨ j = 23 ∨ j = 24 ∨ j = 25 ∨ j = 26 := by omega
  rcases h with rfl | rfl | rfl | rfl | rfl | rfl | rfl | rfl | rfl | rfl | rfl | rfl | rfl | rfl | rfl | rfl | rfl | rfl | rfl | rfl | rfl | rfl | rfl | rfl | rfl | rfl | rfl
  · exact rowD_0
  · exact rowD_1
  · exact rowD_2
  · exact rowD_3
  · exact rowD_4
  · exact rowD_5
  · exact rowD_6
  · exact rowD_7
  · exact rowD_8
  · exact rowD_9
  · exact rowD_10
  · exact rowD_11
  · exact rowD_12
  · exact rowD_13
  · exact rowD_14
  · exact rowD_15
  · exact rowD_16
  · exact rowD_17
  · exact rowD_18
  · exact rowD_19
  · exact rowD_20
  · exact rowD_21
  · exact rowD_22
  · exact rowD_23
  · exact rowD_24
  · exact rowD_25
  · exact rowD_26

theorem row_chkD {r : IRow} {q : RRow} {j : Nat} (hj : irows[j]? = some r) (hq : rrows[j]? = some q) : chkD (toB r) q.bits = true := by
  have hjl : j < 27 := by have := (List.getElem?_eq_some_iff.1 hj).1; rwa [irows_len] at this
  have h := rowD_all j hjl
  unfold rowD at h
  rw [← rowsB_eq, List.getElem?_map, hj, hq] at h
  exact h
end Go.Proofs.Ytdapgcdenpgnaaa

namespace Go.Proofs.Ytdapgcdenpgnaaa
open Go Go.Plat
set_option linter.unusedVariables false
set_option linter.unusedSimpArgs false
set_option maxRecDepth 100000
set_option maxHeartbeats 2000000
attribute [local irreducible] NilS LookS NormM bitI BytesS NormL Arith QuoS RemS ShlS ShrS BitS CatS SplitS SideS IdxS CallS LoopEnd EndS ModeS DrawS AWP Meets

theorem fitF_app (a b : List (UInt8 × Int)) : fitF (a ++ b) = (fitF a && fitF b) := by unfold fitF; exact List.all_append
theorem numF_app (f : UInt8 → Bool) (a b : List (UInt8 × Int)) (x : Int) : numF f (a ++ b) x = numF f b (numF f a x) := by unfold numF; exact List.foldl_append
theorem widF_app (a b : List (UInt8 × Int)) : widF (a ++ b) = widF a + widF b := by unfold widF; rw [List.filter_append, List.length_append]
theorem numF_id (f : UInt8 → Bool) : ∀ (l : List (UInt8 × Int)) (x : Int), (∀ p ∈ l, f p.1 = false) → numF f l x = x
  | [], x, _ => rfl
  | p :: l, x, h => by
    have h0 := h p (by simp)
    show numF f l (match f p.1 with | true => 2 * x + p.2 | false => x) = x
    rw [h0]
    exact numF_id f l x fun q hq => h q (by simp [hq])
theorem preL_char {s : List UInt8} {l : Nat} {p : UInt8 × Int} (hs : s.length = 16) (h : p ∈ preL s l) : p.1 ∈ s.drop 8 := by
  unfold preL at h
  obtain ⟨j, hj, rfl⟩ := List.mem_map.1 h
  have hj : j < 8 := by simpa using hj
  rw [List.getD_eq_getElem?_getD, List.getElem?_eq_getElem (by omega)]
  simp only [Option.getD_some]
  have : (s.drop 8)[j]'(by simp; omega) = s[8 + j] := List.getElem_drop ..
  rw [← this]
  exact List.getElem_mem _

theorem and_halves {W m b : Nat} (hW : W < 65536) (hm : m < 65536) (hb : b < 65536) : (W &&& m) = b ↔ ((W / 256) &&& (m / 256)) = b / 256 ∧ ((W % 256) &&& (m % 256)) = b % 256 := by
  have h1 : (W &&& m) % 2 ^ 8 = (W % 2 ^ 8) &&& (m % 2 ^ 8) := Nat.and_mod_two_pow ..
  have h2 : (W &&& m) / 2 ^ 8 = (W / 2 ^ 8) &&& (m / 2 ^ 8) := Nat.and_div_two_pow ..
  have e : (2 : Nat) ^ 8 = 256 := rfl
  rw [e] at h1 h2
  rw [← h1, ← h2]
  omega

attribute [local irreducible] rrows irows rowsB infoR rinfo decR fitF numF widF preH preL preB isImm allB

theorem row_dec {W : Nat} {r : IRow} {q : RRow} (hW : W < 65536) (hm : r ∈ irows) (hqm : q.bits.length = 16) (hc : chkD (toB r) q.bits = true) : RowDec W r q := by
  simp only [chkD, Bool.and_eq_true] at hc
  obtain ⟨⟨c1, c2⟩, c3⟩ := hc
  have d1 := allB_at c1 (W / 256) (by omega)
  have d2 := allB_at c2 (W % 256) (by omega)
  simp only [chkH, chkL, Bool.and_eq_true, beq_iff_eq] at d1 d2
  obtain ⟨⟨⟨⟨h1, h2⟩, h3⟩, h4⟩, h5⟩ := d1
  obtain ⟨⟨⟨l1, l2⟩, l3⟩, l4⟩ := d2
  obtain ⟨_, b2, b3⟩ := irow_bits r hm
  have hmb := mask_bd r.shape
  have hn : ∀ x, numF (fun c => c == 110) (preL q.bits (W % 256)) x = x := fun x => numF_id _ _ _ fun p hp => by
    have := List.all_eq_true.1 c3 p.1 (preL_char hqm hp)
    simpa using this
  have hsn : ((r.shape.toNat : Nat) : Int) = r.shape := by
    have := irow_shape r hm
    omega
  have hsn : (((toB r).1 : Nat) : Int) = r.shape := hsn
  have h2 := of_decide_eq_true h2
  have h3 := of_decide_eq_true h3
  have h4 := of_decide_eq_true h4
  have h5 := of_decide_eq_true h5
  have l2 := of_decide_eq_true l2
  have l4 := of_decide_eq_true l4
  simp only [hsn] at h2 l2
  have hs1 : (toB r).1 = r.shape.toNat := rfl
  have hs2 : (toB r).2.1 = (maskI r.shape).toNat := rfl
  have hs3 : (toB r).2.2 = r.bits.toNat := rfl
  simp only [hs1, hs2, hs3] at h1 h4 h5 l1 l3 l4
  have efit : fitF (preB q.bits W 16) = fitsR W r := by
    rw [pre_split, fitF_app, h1, l1]
    unfold fitsR
    rw [Bool.eq_iff_iff, Bool.and_eq_true]
    have hh := and_halves (W := W) (m := (maskI r.shape).toNat) (b := r.bits.toNat) hW (by omega) (by omega)
    constructor
    · rintro ⟨ha, hb⟩
      have h := hh.2 ⟨Nat.eq_of_beq_eq_true ha, Nat.eq_of_beq_eq_true hb⟩
      rw [h, Int.toNat_of_nonneg b2]
      exact beq_self_eq_true _
    · intro h
      have h := LawfulBEq.eq_of_beq h
      obtain ⟨ha, hb⟩ := hh.1 (by omega)
      exact ⟨by rw [ha]; exact Nat.beq_refl _, by rw [hb]; exact Nat.beq_refl _⟩
  have enum : numF (fun c => c == 110) (preB q.bits W 16) 0 = (insOf W r).n := by
    rw [pre_split, numF_app, hn, h2]
    show _ = if uses1 r.shape = true then (W : Int) / 256 % 16 else 0
    split <;> omega
  have emum : numF (fun c => c == 109) (preB q.bits W 16) 0 = (insOf W r).m := by
    rw [pre_split, numF_app, h3, l2]
    show _ = if uses2 r.shape = true then (W : Int) / 16 % 16 else 0
    split <;> omega
  have ewid : widF (preB q.bits W 16) = (if isFar r.shape.toNat = true then 4 else 0) + (if isFar r.shape.toNat = true ∨ isNear r.shape.toNat = true then 8 else 0) := by
    rw [pre_split, widF_app, h5, l4]
  have eimm : numF isImm (preB q.bits W 16) 0 = if r.shape = 5 then (W : Int) % 4096 else if isNear r.shape.toNat = true then (W : Int) % 256 else 0 := by
    rw [pre_split, numF_app, h4]
    cases hf : isFar r.shape.toNat with
    | true =>
      rw [hf] at l3
      have hs5 : r.shape = 5 := by
        unfold isFar at hf
        have := LawfulBEq.eq_of_beq hf
        omega
      have := of_decide_eq_true (allB_at l3 (W / 256 % 16) (by omega))
      rw [if_pos rfl, this, if_pos hs5]
      omega
    | false =>
      rw [hf] at l3
      have hs5 : ¬ r.shape = 5 := by
        intro e
        rw [e] at hf
        exact absurd hf (by decide)
      have := of_decide_eq_true l3
      rw [if_neg (by decide), this, if_neg hs5]
      split <;> omega
  refine ⟨efit, fun _ => ⟨enum, emum⟩, fun _ => ?_⟩
  show _ ∧ immOf W r.shape = _
  have hsh := irow_shape r hm
  rcases hsh with hs | ⟨hs, hb⟩ | ⟨hs, hb⟩ | ⟨hs, hb⟩ | ⟨hs, hb⟩ | ⟨hs, hb⟩
  · have a1 : isFar r.shape.toNat = false := by rw [hs]; rfl
    have a2 : isNear r.shape.toNat = false := by rw [hs]; rfl
    have a3 : lowI r.shape = 0 := by rw [hs]; rfl
    simp only [a1, a2] at ewid eimm
    have ew : widF (preB q.bits W 16) = 0 := ewid
    have ei : numF isImm (preB q.bits W 16) 0 = 0 := by rw [eimm, if_neg (by omega)]; rfl
    rw [ew, ei, a3]
    refine ⟨fun h => absurd h (by decide), ?_⟩
    unfold immOf
    rw [if_neg (by omega), if_neg (by omega), if_neg (by omega), if_neg (by omega)]
  · rcases hs with hs | hs | hs
    · have a1 : isFar r.shape.toNat = false := by rw [hs]; rfl
      have a2 : isNear r.shape.toNat = true := by rw [hs]; rfl
      have a3 : lowI r.shape = -128 := by rw [hs]; rfl
      simp only [a1, a2] at ewid eimm
      have ew : widF (preB q.bits W 16) = 8 := ewid
      have ei : numF isImm (preB q.bits W 16) 0 = (W : Int) % 256 := by rw [eimm, if_neg (by omega)]; rfl
      rw [ew, ei, a3]
      refine ⟨fun h => by decide, ?_⟩
      unfold immOf
      rw [if_pos (by omega), signed8, show (2 : Int) ^ (8 - 1) = 128 from rfl, show (2 : Int) ^ 8 = 256 from rfl]
      split <;> split <;> omega
    · have a1 : isFar r.shape.toNat = false := by rw [hs]; rfl
      have a2 : isNear r.shape.toNat = true := by rw [hs]; rfl
      have a3 : lowI r.shape = 0 := by rw [hs]; rfl
      simp only [a1, a2] at ewid eimm
      have ew : widF (preB q.bits W 16) = 8 := ewid
      have ei : numF isImm (preB q.bits W 16) 0 = (W : Int) % 256 := by rw [eimm, if_neg (by omega)]; rfl
      rw [ew, ei, a3]
      refine ⟨fun h => absurd h (by decide), ?_⟩
      unfold immOf
      rw [if_neg (by omega), if_neg (by omega), if_pos (by omega), if_neg (by omega)]
    · have a1 : isFar r.shape.toNat = false := by rw [hs]; rfl
      have a2 : isNear r.shape.toNat = true := by rw [hs]; rfl
      have a3 : lowI r.shape = 0 := by rw [hs]; rfl
      simp only [a1, a2] at ewid eimm
      have ew : widF (preB q.bits W 16) = 8 := ewid
      have ei : numF isImm (preB q.bits W 16) 0 = (W : Int) % 256 := by rw [eimm, if_neg (by omega)]; rfl
      rw [ew, ei, a3]
      refine ⟨fun h => absurd h (by decide), ?_⟩
      unfold immOf
      rw [if_neg (by omega), if_neg (by omega), if_pos (by omega), if_neg (by omega)]
  · rcases hs with hs | hs | hs
    · have a1 : isFar r.shape.toNat = false := by rw [hs]; rfl
      have a2 : isNear r.shape.toNat = false := by rw [hs]; rfl
      have a3 : lowI r.shape = 0 := by rw [hs]; rfl
      simp only [a1, a2] at ewid eimm
      have ew : widF (preB q.bits W 16) = 0 := ewid
      have ei : numF isImm (preB q.bits W 16) 0 = 0 := by rw [eimm, if_neg (by omega)]; rfl
      rw [ew, ei, a3]
      refine ⟨fun h => absurd h (by decide), ?_⟩
      unfold immOf
      rw [if_neg (by omega), if_neg (by omega), if_neg (by omega), if_neg (by omega)]
    · have a1 : isFar r.shape.toNat = false := by rw [hs]; rfl
      have a2 : isNear r.shape.toNat = false := by rw [hs]; rfl
      have a3 : lowI r.shape = 0 := by rw [hs]; rfl
      simp only [a1, a2] at ewid eimm
      have ew : widF (preB q.bits W 16) = 0 := ewid
      have ei : numF isImm (preB q.bits W 16) 0 = 0 := by rw [eimm, if_neg (by omega)]; rfl
      rw [ew, ei, a3]
      refine ⟨fun h => absurd h (by decide), ?_⟩
      unfold immOf
      rw [if_neg (by omega), if_neg (by omega), if_neg (by omega), if_neg (by omega)]
    · have a1 : isFar r.shape.toNat = false := by rw [hs]; rfl
      have a2 : isNear r.shape.toNat = false := by rw [hs]; rfl
      have a3 : lowI r.shape = 0 := by rw [hs]; rfl
      simp only [a1, a2] at ewid eimm
      have ew : widF (preB q.bits W 16) = 0 := ewid
      have ei : numF isImm (preB q.bits W 16) 0 = 0 := by rw [eimm, if_neg (by omega)]; rfl
      rw [ew, ei, a3]
      refine ⟨fun h => absurd h (by decide), ?_⟩
      unfold immOf
      rw [if_neg (by omega), if_neg (by omega), if_neg (by omega), if_neg (by omega)]
  · rcases hs with hs | hs
    · have a1 : isFar r.shape.toNat = false := by rw [hs]; rfl
      have a2 : isNear r.shape.toNat = false := by rw [hs]; rfl
      have a3 : lowI r.shape = 0 := by rw [hs]; rfl
      simp only [a1, a2] at ewid eimm
      have ew : widF (preB q.bits W 16) = 0 := ewid
      have ei : numF isImm (preB q.bits W 16) 0 = 0 := by rw [eimm, if_neg (by omega)]; rfl
      rw [ew, ei, a3]
      refine ⟨fun h => absurd h (by decide), ?_⟩
      unfold immOf
      rw [if_neg (by omega), if_neg (by omega), if_neg (by omega), if_neg (by omega)]
    · have a1 : isFar r.shape.toNat = false := by rw [hs]; rfl
      have a2 : isNear r.shape.toNat = false := by rw [hs]; rfl
      have a3 : lowI r.shape = 0 := by rw [hs]; rfl
      simp only [a1, a2] at ewid eimm
      have ew : widF (preB q.bits W 16) = 0 := ewid
      have ei : numF isImm (preB q.bits W 16) 0 = 0 := by rw [eimm, if_neg (by omega)]; rfl
      rw [ew, ei, a3]
      refine ⟨fun h => absurd h (by decide), ?_⟩
      unfold immOf
      rw [if_neg (by omega), if_neg (by omega), if_neg (by omega), if_neg (by omega)]
  · rcases hs with hs | hs
    · have a1 : isFar r.shape.toNat = false := by rw [hs]; rfl
      have a2 : isNear r.shape.toNat = true := by rw [hs]; rfl
      have a3 : lowI r.shape = -128 := by rw [hs]; rfl
      simp only [a1, a2] at ewid eimm
      have ew : widF (preB q.bits W 16) = 8 := ewid
      have ei : numF isImm (preB q.bits W 16) 0 = (W : Int) % 256 := by rw [eimm, if_neg (by omega)]; rfl
      rw [ew, ei, a3]
      refine ⟨fun h => by decide, ?_⟩
      unfold immOf
      rw [if_pos (by omega), signed8, show (2 : Int) ^ (8 - 1) = 128 from rfl, show (2 : Int) ^ 8 = 256 from rfl]
      split <;> split <;> omega
    · have a1 : isFar r.shape.toNat = false := by rw [hs]; rfl
      have a2 : isNear r.shape.toNat = true := by rw [hs]; rfl
      have a3 : lowI r.shape = 0 := by rw [hs]; rfl
      simp only [a1, a2] at ewid eimm
      have ew : widF (preB q.bits W 16) = 8 := ewid
      have ei : numF isImm (preB q.bits W 16) 0 = (W : Int) % 256 := by rw [eimm, if_neg (by omega)]; rfl
      rw [ew, ei, a3]
      refine ⟨fun h => absurd h (by decide), ?_⟩
      unfold immOf
      rw [if_neg (by omega), if_neg (by omega), if_pos (by omega), if_neg (by omega)]
  · have a1 : isFar r.shape.toNat = true := by rw [hs]; rfl
    have a2 : isNear r.shape.toNat = false := by rw [hs]; rfl
    have a3 : lowI r.shape = -2048 := by rw [hs]; rfl
    simp only [a1, a2] at ewid eimm
    have ew : widF (preB q.bits W 16) = 12 := ewid
    have ei : numF isImm (preB q.bits W 16) 0 = (W : Int) % 4096 := by rw [eimm, if_pos hs]
    rw [ew, ei, a3]
    refine ⟨fun h => by decide, ?_⟩
    unfold immOf
    rw [if_neg (by omega), if_pos hs, signed12, show (2 : Int) ^ (12 - 1) = 2048 from rfl, show (2 : Int) ^ 12 = 4096 from rfl]
    split <;> split <;> omega
end Go.Proofs.Ytdapgcdenpgnaaa

namespace Go.Proofs.Ytdapgcdenpgnaaa
open Go Go.Plat
set_option linter.unusedVariables false
set_option linter.unusedSimpArgs false
set_option maxRecDepth 100000
set_option maxHeartbeats 2000000
attribute [local irreducible] NilS LookS NormM bitI BytesS NormL Arith QuoS RemS ShlS ShrS BitS CatS SplitS SideS IdxS CallS LoopEnd EndS ModeS DrawS AWP Meets

def lastG (name : List UInt8) (shape : Int) : Nat → Int
  | 0 => 0
  | k + 1 => match rinfo k with
    | some q => if q.name = name ∧ q.shape = shape then (k : Int) else lastG name shape k
    | none => lastG name shape k
theorem lastG_0 (name : List UInt8) (shape : Int) : lastG name shape 0 = 0 := rfl
theorem lastG_succ (name : List UInt8) (shape : Int) (k : Nat) : lastG name shape (k + 1) = match rinfo k with
    | some q => if q.name = name ∧ q.shape = shape then (k : Int) else lastG name shape k
    | none => lastG name shape k := rfl
theorem rsigned_eq (n : Int) : (if n % 4294967296 / 2147483648 = 1 then n % 4294967296 - 4294967296 else n % 4294967296) = signedI n 32 := rfl
theorem runiq : ∀ j, j < 27 → (match rrows[j]? with | some q => allB (fun k => match rrows[k]? with | some p => (p.name != q.name) || !(p.shape == q.shape) || Nat.beq k j | none => true) 27 | none => false) = true :=
  allB_at (n := 27) (by kernel_rfl)
theorem nsh_eq : (rrows.map fun r => (r.op, r.name, r.shape)) = irows.map fun r => (r.op, r.name, r.shape) := by unfold rrows irows; rfl
attribute [local irreducible] rrows irows rowsB infoR rinfo decR allB

theorem rinfo_at {k : Nat} {q : RRow} (hk : rrows[k]? = some q) : q.op = (k : Int) + 1 ∧ rinfo ((k : Int) + 1) = some q := by
  have e2 : (rrows.map (·.op))[k]? = some q.op := by rw [List.getElem?_map, hk]; rfl
  have hkl : k < 27 := by
    have := (List.getElem?_eq_some_iff.1 e2).1
    rw [rops] at this
    simpa using this
  rw [rops, List.getElem?_map, List.getElem?_range hkl] at e2
  have e2 : (k : Int) + 1 = q.op := by simpa using e2
  refine ⟨e2.symm, ?_⟩
  obtain ⟨r, hr⟩ := at_of_lt (l := irows) (k := k) (by rw [irows_len]; omega)
  have hrop : r.op = (k : Int) + 1 := by
    have e1 : (irows.map (·.op))[k]? = some r.op := by rw [List.getElem?_map, hr]; rfl
    rw [iops, List.getElem?_map, List.getElem?_range hkl] at e1
    simpa using e1.symm
  have hir := irow_info r (List.mem_of_getElem? hr)
  rw [hrop] at hir
  obtain ⟨q', h1, _⟩ := rinfo_some hir
  obtain ⟨j, hj, h2, h3⟩ := same_row hir h1
  have e3 : (rrows.map (·.op))[j]? = some q'.op := by rw [List.getElem?_map, h3]; rfl
  rw [rops, List.getElem?_map, List.getElem?_range hj] at e3
  have := (rinfo_mem h1).2
  have e3 : (j : Int) + 1 = q'.op := by simpa using e3
  have : j = k := by omega
  subst this
  rw [hk] at h3
  cases h3
  exact h1
theorem rinfo_out {k : Int} {q : RRow} (h : rinfo k = some q) : ∃ j : Nat, j < 27 ∧ k = (j : Int) + 1 ∧ rrows[j]? = some q := by
  obtain ⟨h1, h2⟩ := rinfo_mem h
  obtain ⟨j, hj⟩ := List.getElem?_of_mem h1
  have hjl : j < 27 := by
    have : (rrows.map (·.op)).length = 27 := by rw [rops]; rfl
    have h3 := (List.getElem?_eq_some_iff.1 hj).1
    rw [List.length_map] at this
    omega
  exact ⟨j, hjl, by rw [← (rinfo_at hj).1, h2], hj⟩
theorem uniq_at {j k : Nat} {q p : RRow} (hj : rrows[j]? = some q) (hk : rrows[k]? = some p) (hn : p.name = q.name) (hs : p.shape = q.shape) : k = j := by
  have len : (rrows.map (·.op)).length = 27 := by rw [rops]; rfl
  rw [List.length_map] at len
  have hjl : j < 27 := by have := (List.getElem?_eq_some_iff.1 hj).1; omega
  have hkl : k < 27 := by have := (List.getElem?_eq_some_iff.1 hk).1; omega
  have h := runiq j hjl
  rw [hj] at h
  have h := allB_at h k hkl
  rw [hk] at h
  simp only [hn, hs, bne_self_eq_false, Bool.false_or, beq_self_eq_true, Bool.not_true] at h
  exact Nat.eq_of_beq_eq_true h

theorem lastG_none {name : List UInt8} {shape : Int} (h : ∀ (j : Nat) q, rrows[j]? = some q → ¬ (q.name = name ∧ q.shape = shape)) : ∀ k, lastG name shape k = 0
  | 0 => rfl
  | k + 1 => by
    simp only [lastG]
    cases hr : rinfo (k : Int) with
    | none => exact lastG_none h k
    | some q =>
      obtain ⟨j, _, _, hj⟩ := rinfo_out hr
      simp only
      rw [if_neg (h j q hj)]
      exact lastG_none h k
theorem lastG_some {name : List UInt8} {shape : Int} {j : Nat} {q : RRow} (hj : rrows[j]? = some q) (hq : q.name = name ∧ q.shape = shape) : ∀ k, j + 2 ≤ k → lastG name shape k = (j : Int) + 1
  | 0, h => by omega
  | k + 1, h => by
    simp only [lastG]
    cases hr : rinfo (k : Int) with
    | none =>
      simp only
      rcases Nat.lt_or_ge (j + 1) k with h1 | h1
      · exact lastG_some hj hq k (by omega)
      · have : k = j + 1 := by omega
        subst this
        have := (rinfo_at hj).2
        rw [show (((j + 1 : Nat)) : Int) = (j : Int) + 1 by omega, this] at hr
        cases hr
    | some p =>
      obtain ⟨j', _, e, hj'⟩ := rinfo_out hr
      simp only
      split
      · rename_i hm
        have := uniq_at hj hj' (hm.1.trans hq.1.symm) (hm.2.trans hq.2.symm)
        omega
      · rename_i hm
        rcases Nat.lt_or_ge (j + 1) k with h1 | h1
        · exact lastG_some hj hq k (by omega)
        · exfalso
          apply hm
          have : j' = j := by omega
          subst this
          rw [hj] at hj'
          cases hj'
          exact hq

theorem lastG_eq (name : List UInt8) (shape : Int) : lastG name shape 28 = findI name shape := by
  have h1 := List.find?_map (p := fun q : Int × List UInt8 × Int => q.2.1 == name && q.2.2 == shape) (f := fun r : RRow => (r.op, r.name, r.shape)) (l := rrows)
  have h2 := List.find?_map (p := fun q : Int × List UInt8 × Int => q.2.1 == name && q.2.2 == shape) (f := fun r : IRow => (r.op, r.name, r.shape)) (l := irows)
  rw [nsh_eq, h2] at h1
  have hf : findR name shape = irows.find? ((fun q : Int × List UInt8 × Int => q.2.1 == name && q.2.2 == shape) ∘ fun r : IRow => (r.op, r.name, r.shape)) := rfl
  rw [← hf] at h1
  unfold findI
  cases hr : rrows.find? ((fun q : Int × List UInt8 × Int => q.2.1 == name && q.2.2 == shape) ∘ fun r : RRow => (r.op, r.name, r.shape)) with
  | none =>
    rw [hr] at h1
    have h1 : findR name shape = none := by simpa using h1
    rw [h1]
    refine lastG_none (fun j q hj => ?_) 28
    rintro ⟨e1, e2⟩
    have := List.find?_eq_none.1 hr q (List.mem_of_getElem? hj)
    simp [e1, e2] at this
  | some q =>
    rw [hr] at h1
    simp only [Option.map_some, Option.map_eq_some_iff, Prod.mk.injEq] at h1
    obtain ⟨r, h3, h4, _⟩ := h1
    rw [h3]
    have hp := List.find?_some hr
    have hm := List.mem_of_find?_eq_some hr
    obtain ⟨j, hj⟩ := List.getElem?_of_mem hm
    simp only [Function.comp_apply, Bool.and_eq_true, beq_iff_eq] at hp
    have hop := (rinfo_at hj).1
    have hjl : j < 27 := by
      have len : (rrows.map (·.op)).length = 27 := by rw [rops]; rfl
      rw [List.length_map] at len
      have := (List.getElem?_eq_some_iff.1 hj).1
      omega
    rw [lastG_some hj hp 28 (by omega)]
    simp only
    omega

theorem rdecode : Meets Try.prog n_plref1_Decode (SpecP (fun _ : Int => True) (fun w => [.int .i64 w]) fun w => .tup [insD (decI w).1, .int .i64 (decI w).2]) :=
  rdecode_meets fun W j r q hW hj hq => row_dec hW (List.mem_of_getElem? hj) (rbits_len q (List.mem_of_getElem? hq)) (row_chkD hj hq)
end Go.Proofs.Ytdapgcdenpgnaaa

/-
  Where an instruction leads; the document's small functions.
-/
namespace Go.Proofs.Ytdapgcdenpgnaaa
open Go Go.Plat
set_option linter.unusedVariables false
set_option linter.unusedSimpArgs false
set_option maxRecDepth 100000
set_option maxHeartbeats 2000000
attribute [local irreducible] NilS LookS NormM bitI BytesS NormL Arith QuoS RemS ShlS ShrS BitS CatS SplitS SideS IdxS CallS LoopEnd EndS ModeS DrawS AWP Meets
attribute [local irreducible] irows infoR decI signedI getN putN inM rrows rinfo shapeM

def ldM (i : Ins) : Bool := decide (shapeM i.op = 4 ∨ shapeM i.op = 5 ∨ shapeM i.op = 7 ∨ shapeM i.op = 8)
theorem shape_some {op : Int} {r : IRow} (h : infoR op = some r) : shapeM op = r.shape := by unfold shapeM; rw [h]
theorem shape_none {op : Int} (h : infoR op = none) : shapeM op = 0 := by unfold shapeM; rw [h]
theorem info_shape (op : Int) : ∃ s, infoD op = .tup [.str s, .int .i64 (shapeM op)] := by
  unfold infoD
  cases h : infoR op with
  | none => exact ⟨[], by rw [shape_none h]⟩
  | some r => exact ⟨r.name, by rw [shape_some h]⟩
theorem bit_clear {n : Int} (h1 : -4611686018427387904 ≤ n) (h2 : n ≤ 4611686018427387904) {K : D → Prop} (h : K (.int .i64 (n - n % 4))) : BitS .andNot .i64 n 3 K := by
  unfold BitS; rw [clear3 h1 h2]; exact h

theorem rem_sgn {n : Int} {K : D → Prop} (h : ∀ r, -4 < r → r < 4 → (n - r) % 4 = 0 → (0 ≤ n → 0 ≤ r) → K (.int .i64 r)) : RemS .i64 n 4 K := by
  unfold RemS
  refine ⟨by decide, h _ ?_ ?_ ?_ ?_⟩
  all_goals
    rcases Int.le_total 0 n with hn | hn
    · rw [Int.tmod_eq_emod_of_nonneg hn]; omega
    · have e : n.tmod 4 = - ((-n) % 4) := by
        rw [← Int.tmod_eq_emod_of_nonneg (show 0 ≤ -n by omega), Int.neg_tmod, Int.neg_neg]
      rw [e]; omega

theorem to_meets : Meets Try.prog n_dis_To (SpecP (fun ((i, at_) : Ins × Int) => -4096 ≤ i.imm ∧ i.imm ≤ 4096 ∧ -4000000000000 ≤ at_ ∧ at_ ≤ 4000000000000) (fun (i, at_) => [insD i, .int .i64 at_]) fun (i, at_) => .tup [.int .i64 (toM i at_), .bool (ldM i)]) := by
  refine meets_f tabOk Try.func42 rfl (by decide) ?_
  rintro ⟨i, at_⟩ ⟨h1, h2, h3, h4⟩
  refine ⟨Nat.le_refl _, by simp [Try.f42], fun E hE => ?_⟩
  refine vcOk _ ?_
  (all_goals refine qgv ?_ <;> (repeat' first | exact trivial | intro hc | refine And.intro ?_ ?_) <;> refine Lf.mk ?_)
  refine call_p info_meets i.op trivial (VS.mk (LeL.of_eq rfl)) ?_
  obtain ⟨s, hs⟩ := info_shape i.op
  rw [hs]
  (all_goals refine qgv ?_ <;> (repeat' first | exact trivial | intro hc | refine And.intro ?_ ?_) <;> refine Lf.mk ?_)
  any_goals (refine bit_clear (by omega) (by omega) ?_)
  (all_goals refine qgv ?_ <;> (repeat' first | exact trivial | intro hc | refine And.intro ?_ ?_) <;> refine Lf.mk ?_)
  all_goals (refine end_p (VS.mk (LeD.tup (.cons (LeD.of_eq (congrArg (D.int .i64) ?_)) (.cons ?_ .nil)))))
  all_goals first
    | exact LeD.tt (decide_eq_true (by omega))
    | exact LeD.ff (decide_eq_false (by omega))
    | (unfold toM; rw [if_pos (by omega)]; done)
    | (unfold toM; rw [if_neg (by omega), if_pos (by omega)]; done)
    | (unfold toM; rw [if_neg (by omega), if_neg (by omega)]; done)

theorem rto_meets : Meets Try.prog n_plref6_To (SpecP (fun ((i, at_) : Ins × Int) => -4096 ≤ i.imm ∧ i.imm ≤ 4096 ∧ -4000000000000 ≤ at_ ∧ at_ ≤ 4000000000000) (fun (i, at_) => [insD i, .int .i64 at_]) fun (i, at_) => .tup [.int .i64 (toM i at_), .bool (ldM i)]) := by
  refine meets_f tabOk Try.func29 rfl (by decide) ?_
  rintro ⟨i, at_⟩ ⟨h1, h2, h3, h4⟩
  refine ⟨Nat.le_refl _, by simp [Try.f29], fun E hE => ?_⟩
  refine vcOk _ ?_
  (all_goals refine qgv ?_ <;> (repeat' first | exact trivial | intro hc | refine And.intro ?_ ?_) <;> refine Lf.mk ?_)
  refine call_f rrows_meets [] [1] () trivial rfl rfl ?_
  refine And.intro (VS.mk (LeL.refl _)) (And.intro (VS.mk rfl) ?_)
  (all_goals refine qgv ?_ <;> (repeat' first | exact trivial | intro hc | refine And.intro ?_ ?_) <;> refine Lf.mk ?_)
  refine renM_rows ?_
  (all_goals refine qgv ?_ <;> (repeat' first | exact trivial | intro hc | refine And.intro ?_ ?_) <;> refine Lf.mk ?_)
  have hs : ∃ g, getM (.int .i64 i.op) rrowsM = g ∧ (g = none ∧ shapeM i.op = 0 ∨ ∃ q : RRow, g = some (rrowD q) ∧ q.shape = shapeM i.op) := by
    cases hi : infoR i.op with
    | none => exact ⟨none, by rw [getM_rows, rinfo_none hi]; rfl, .inl ⟨rfl, shape_none hi⟩⟩
    | some r =>
      obtain ⟨q, hq, q1, q2, q3, q4⟩ := rinfo_some hi
      exact ⟨some (rrowD q), by rw [getM_rows, hq]; rfl, .inr ⟨q, rfl, by rw [q2, shape_some hi]⟩⟩
  obtain ⟨g, hg, ⟨rfl, h0⟩ | ⟨q, rfl, hq⟩⟩ := hs
  · (repeat' (first | (refine lk_none hg ?_) | (refine lk_some hg ?_) | (refine rem_sgn fun r hr1 hr2 hr3 hr4 => ?_) | (refine VS.mk ?_) | (refine dr_mk ?_) | (refine md_l (sd_mk (by decide) ?_)) | (refine md_r (sd_mk ⟨by omega, by omega⟩ ?_)) | (refine md_l ?_) | ((first | refine sp_not_dec ?_ ?_ | refine sp_dec ?_ ?_ | refine sp_beq ?_ ?_ | refine sp_bne ?_ ?_ | refine sp_seq ?_ ?_ | refine sp_sne ?_ ?_ | refine sp_not ?_ ?_ | refine sp_any ?_ ?_) <;> (intro hc; (try simp only [List.length_map, List.length_append, List.length_cons, List.length_nil, Bool.and_true, Bool.and_eq_true, beq_iff_eq, Bool.and_eq_false_iff, beq_eq_false_iff_ne, Bool.true_and, ne_eq] at hc); (try (exfalso; omega)))) | (refine reg_ix (by omega) (by omega) ?_) | (refine sd_reg (by omega) (by omega) rfl ?_) | (refine reg_set (by omega) (by omega) ?_) | (with_reducible first | refine norm_one ?_ | refine norm_app ?_ | refine norm_cutEnd ?_ | refine norm_cut ?_ | refine norm_bytes1 ?_ | refine norm_bytes2 ?_ | refine norm_setByte ?_ | refine norm_int1 ?_ | refine norm_mk ?_) | (with_reducible refine bytes_mk ?_) | (refine ar_byte ?_) | (refine ar_i64 (by omega) (by omega) ?_) | (refine ar_low ?_) | (refine ix_byteN (by omega) ?_) | (refine ix_byteK (by simp only [Int.reduceToNat]; exact rfl) (by decide) (by omega) ?_) | (refine ix_byte (by omega) (by omega) ?_) | (refine ix_rfl (by decide) rfl ?_) | (refine sd_mk rfl ?_) | (refine sd_mk (by decide +kernel) ?_) | (refine sd_mk (by first | (simp only [List.length_map, List.length_append, List.length_cons, List.length_nil]; done) | ((try simp only [List.length_map, List.length_append, List.length_cons, List.length_nil, List.length_set, List.length_replicate, List.length_drop, List.length_take, true_and, and_true]); omega) | (dsimp only; omega)) ?_) | (first | refine shl8 (by omega) (by omega) ?_ | refine shl4 (by omega) (by omega) ?_ | refine shl1 (by omega) (by omega) ?_ | refine shl16 (by omega) (by omega) ?_ | refine shl24 (by omega) (by omega) ?_ | refine shr8 (by decide) ?_ | refine shr4 (by decide) ?_ | refine shr1 (by decide) ?_ | refine shr16 (by decide) ?_ | refine shr24 (by decide) ?_) | (with_reducible first | refine bit_mk and_1 ?_ | refine bit_mk and_15 ?_ | refine bit_mk and_255 ?_ | refine bit_mk and_4095 ?_ | refine bit_mk and_65535 ?_) | (refine quo_pos (by omega) (by omega) (by omega) ?_) | (refine rem_pos (by omega) (by omega) ?_)))
    refine end_p (VS.mk (LeD.tup (.cons (LeD.of_eq (congrArg (D.int .i64) ?_)) (.cons (LeD.ff (decide_eq_false (by omega))) .nil))))
    unfold toM
    rw [if_neg (by omega), if_neg (by omega)]
  · (repeat' (first | (refine lk_none hg ?_) | (refine lk_some hg ?_) | (refine rem_sgn fun r hr1 hr2 hr3 hr4 => ?_) | (refine VS.mk ?_) | (refine dr_mk ?_) | (refine md_l (sd_mk (by decide) ?_)) | (refine md_r (sd_mk ⟨by omega, by omega⟩ ?_)) | (refine md_l ?_) | ((first | refine sp_not_dec ?_ ?_ | refine sp_dec ?_ ?_ | refine sp_beq ?_ ?_ | refine sp_bne ?_ ?_ | refine sp_seq ?_ ?_ | refine sp_sne ?_ ?_ | refine sp_not ?_ ?_ | refine sp_any ?_ ?_) <;> (intro hc; (try simp only [List.length_map, List.length_append, List.length_cons, List.length_nil, Bool.and_true, Bool.and_eq_true, beq_iff_eq, Bool.and_eq_false_iff, beq_eq_false_iff_ne, Bool.true_and, ne_eq] at hc); (try (exfalso; omega)))) | (refine reg_ix (by omega) (by omega) ?_) | (refine sd_reg (by omega) (by omega) rfl ?_) | (refine reg_set (by omega) (by omega) ?_) | (with_reducible first | refine norm_one ?_ | refine norm_app ?_ | refine norm_cutEnd ?_ | refine norm_cut ?_ | refine norm_bytes1 ?_ | refine norm_bytes2 ?_ | refine norm_setByte ?_ | refine norm_int1 ?_ | refine norm_mk ?_) | (with_reducible refine bytes_mk ?_) | (refine ar_byte ?_) | (refine ar_i64 (by omega) (by omega) ?_) | (refine ar_low ?_) | (refine ix_byteN (by omega) ?_) | (refine ix_byteK (by simp only [Int.reduceToNat]; exact rfl) (by decide) (by omega) ?_) | (refine ix_byte (by omega) (by omega) ?_) | (refine ix_rfl (by decide) rfl ?_) | (refine sd_mk rfl ?_) | (refine sd_mk (by decide +kernel) ?_) | (refine sd_mk (by first | (simp only [List.length_map, List.length_append, List.length_cons, List.length_nil]; done) | ((try simp only [List.length_map, List.length_append, List.length_cons, List.length_nil, List.length_set, List.length_replicate, List.length_drop, List.length_take, true_and, and_true]); omega) | (dsimp only; omega)) ?_) | (first | refine shl8 (by omega) (by omega) ?_ | refine shl4 (by omega) (by omega) ?_ | refine shl1 (by omega) (by omega) ?_ | refine shl16 (by omega) (by omega) ?_ | refine shl24 (by omega) (by omega) ?_ | refine shr8 (by decide) ?_ | refine shr4 (by decide) ?_ | refine shr1 (by decide) ?_ | refine shr16 (by decide) ?_ | refine shr24 (by decide) ?_) | (with_reducible first | refine bit_mk and_1 ?_ | refine bit_mk and_15 ?_ | refine bit_mk and_255 ?_ | refine bit_mk and_4095 ?_ | refine bit_mk and_65535 ?_) | (refine quo_pos (by omega) (by omega) (by omega) ?_) | (refine rem_pos (by omega) (by omega) ?_)))
    all_goals (refine end_p (VS.mk (LeD.tup (.cons (LeD.of_eq (congrArg (D.int .i64) ?_)) (.cons ?_ .nil)))))
    all_goals first
      | exact LeD.tt (decide_eq_true (by omega))
      | exact LeD.ff (decide_eq_false (by omega))
      | (unfold toM; rw [if_pos (by omega)]; omega)
      | (unfold toM; rw [if_neg (by omega), if_pos (by omega)]; omega)
      | (unfold toM; rw [if_neg (by omega), if_neg (by omega)]; done)
end Go.Proofs.Ytdapgcdenpgnaaa

/-
  The document's machine: its small functions.
-/
namespace Go.Proofs.Ytdapgcdenpgnaaa
open Go Go.Plat
set_option linter.unusedVariables false
set_option linter.unusedSimpArgs false
set_option maxRecDepth 100000
set_option maxHeartbeats 2000000
attribute [local irreducible] NilS LookS NormM bitI BytesS NormL Arith QuoS RemS ShlS ShrS BitS CatS SplitS SideS IdxS CallS LoopEnd EndS ModeS DrawS AWP Meets
attribute [local irreducible] irows infoR decI signedI getN putN rrows rinfo shapeM

theorem has2_meets : Meets Try.prog n_plref6_Has (SpecP (fun ((m, at_, size) : Mach × Int × Int) => InM 10000 m ∧ -4000000000000 ≤ at_ ∧ at_ ≤ 4000000000000 ∧ (size = 2 ∨ size = 4))
    (fun (m, at_, size) => [machD m, .int .i64 at_, .int .i64 size]) (fun (m, at_, size) => .bool (inM m at_ size))) := by
  refine meets_f tabOk Try.func43 rfl (by decide) ?_
  rintro ⟨m, at_, size⟩ ⟨hm, h1, h2, hs⟩
  have hb := hm.base
  have hl := hm.len
  refine ⟨Nat.le_refl _, by simp [Try.f43], fun E hE => ?_⟩
  refine vcOk _ ?_
  (all_goals refine qgv ?_ <;> (repeat' first | exact trivial | intro hc | refine And.intro ?_ ?_) <;> refine Lf.mk ?_)
  · exact end_p (VS.mk (LeD.of_eq (congrArg D.bool (decide_eq_decide.2 ⟨fun h => ⟨by assumption, by assumption, by omega⟩, fun h => by omega⟩))))
  · exact end_p (VS.mk (LeD.ff (decide_eq_false fun h => hc h.2.1)))
  · exact end_p (VS.mk (LeD.ff (decide_eq_false fun h => hc h.1)))
attribute [local irreducible] inM

theorem rfetch_meets : Meets Try.prog n_plref6_Fetch (SpecP (fun ((m, at_) : Mach × Int) => InM 10000 m ∧ -4000000000000 ≤ at_ ∧ at_ ≤ 4000000000000)
    (fun (m, at_) => [machD m, .int .i64 at_]) (fun (m, at_) => .tup [insD (fetchM m at_).1, .int .i64 (fetchM m at_).2])) := by
  refine meets_f tabOk Try.func26 rfl (by decide) ?_
  rintro ⟨m, at_⟩ ⟨hm, h1, h2⟩
  have hb := hm.base
  have hl := hm.len
  refine ⟨Nat.le_refl _, by simp [Try.f26], fun E hE => ?_⟩
  refine vcOk _ ?_
  (all_goals refine qgv ?_ <;> (repeat' first | exact trivial | intro hc | refine And.intro ?_ ?_) <;> refine Lf.mk ?_)
  refine call_p has2_meets (m, at_, 2) ⟨hm, h1, h2, .inl rfl⟩ (VS.mk (LeL.of_eq rfl)) ?_
  (all_goals refine qgv ?_ <;> (repeat' first | exact trivial | intro hc | refine And.intro ?_ ?_) <;> refine Lf.mk ?_)
  · have hf : fetchM m at_ = (ins0, 6) := by unfold fetchM; rw [if_neg (by rw [hc]; decide)]
    refine end_p (VS.mk (LeD.of_eq ?_))
    dsimp only; rw [hf]; rfl
  · have hf : fetchM m at_ = decI (getN m.img.bytes (at_ - m.img.base) 2) := by unfold fetchM; rw [if_pos hc]
    have hin : m.img.base ≤ at_ ∧ at_ % 2 = 0 ∧ at_ - m.img.base ≤ m.img.bytes.length - 2 := inM_eq.1 hc
    refine call_p get2_meets (m.img.bytes, at_ - m.img.base, 2) ⟨by omega, by omega, by decide⟩ (VS.mk (by (first | exact LeL.refl _ | (repeat' (first | exact LeL.nil | exact LeD.refl _ | exact LeD.nil _ | exact LeD.strip _ _ _ | refine LeL.cons ?_ ?_ | refine LeD.tup ?_ | refine LeD.agg ?_))))) ?_
    (all_goals refine qgv ?_ <;> (repeat' first | exact trivial | intro hc | refine And.intro ?_ ?_) <;> refine Lf.mk ?_)
    refine call_p rdecode (getN m.img.bytes (at_ - m.img.base) 2) trivial (VS.mk (by (first | exact LeL.refl _ | (repeat' (first | exact LeL.nil | exact LeD.refl _ | exact LeD.nil _ | exact LeD.strip _ _ _ | refine LeL.cons ?_ ?_ | refine LeD.tup ?_ | refine LeD.agg ?_))))) ?_
    (all_goals refine qgv ?_ <;> (repeat' first | exact trivial | intro hc | refine And.intro ?_ ?_) <;> refine Lf.mk ?_)
    refine end_p (VS.mk (LeD.of_eq ?_))
    dsimp only; rw [hf]; rfl

theorem rleads_meets : Meets Try.prog n_plref6_Leads (SpecP (fun _ : Int => True) (fun op => [.int .i64 op]) fun op => .bool (leadsM op)) := by
  refine meets_f tabOk Try.func27 rfl (by decide) fun op _ => ?_
  refine ⟨Nat.le_refl _, by simp [Try.f27], fun E hE => ?_⟩
  refine vcOk _ ?_
  (all_goals refine qgv ?_ <;> (repeat' first | exact trivial | intro hc | refine And.intro ?_ ?_) <;> refine Lf.mk ?_)
  all_goals (refine end_p (VS.mk ?_))
  all_goals first
    | exact LeD.tt (decide_eq_true (by omega))
    | exact LeD.ff (decide_eq_false (by omega))
    | exact LeD.of_eq (congrArg D.bool (decide_eq_decide.2 (by omega)))

theorem rnew_meets : Meets Try.prog n_plref6_New (SpecP (fun _ : OImg => True) (fun i => [imgD i]) fun i => machD (newM i)) := by
  refine meets_f tabOk Try.func12 rfl (by decide) ?_
  intro i _
  refine ⟨Nat.le_refl _, by simp [Try.f12], fun E hE => ?_⟩
  refine vcOk _ ?_
  (all_goals refine qgv ?_ <;> (repeat' first | exact trivial | intro hc | refine And.intro ?_ ?_) <;> refine Lf.mk ?_)
  refine end_p (VS.mk ?_)
  (first | exact LeL.refl _ | (repeat' (first | exact LeL.nil | exact LeD.refl _ | exact LeD.nil _ | exact LeD.strip _ _ _ | refine LeL.cons ?_ ?_ | refine LeD.tup ?_ | refine LeD.agg ?_)))
  all_goals first | exact LeD.ff rfl | skip

theorem rno_meets : Meets Try.prog n_plref6_Step_1 (SpecP (fun _ : Int => True) (fun e => [.int .i64 e]) fun e => .tup [machD mach0, .ff, .int .i64 e]) := by
  refine meets_f tabOk Try.func25 rfl (by decide) ?_
  intro e _
  refine ⟨Nat.le_refl _, by simp [Try.f25], fun E hE => ?_⟩
  refine vcOk _ ?_
  (all_goals refine qgv ?_ <;> (repeat' first | exact trivial | intro hc | refine And.intro ?_ ?_) <;> refine Lf.mk ?_)
  refine end_p (VS.mk ?_)
  (first | exact LeL.refl _ | (repeat' (first | exact LeL.nil | exact LeD.refl _ | exact LeD.nil _ | exact LeD.strip _ _ _ | refine LeL.cons ?_ ?_ | refine LeD.tup ?_ | refine LeD.agg ?_)))
  all_goals first | exact LeD.ff rfl | skip

theorem rset_meets : Meets Try.prog n_plref6_Plain_1 (SpecF (fun ((m, i, v) : Mach × Ins × Int) => 0 ≤ i.n ∧ i.n < 16 ∧ -2147483648 ≤ v ∧ v ≤ 2147483647) (fun (m, i, v) => [.int .i32 v, .loc 0 0, .loc 1 0])
    (fun (m, i, v) => [.cells (machC m), .cells [.int .i64 i.op, .int .i64 i.n, .int .i64 i.m, .int .i64 i.imm]]) (fun _ => .tup []) fun (m, i, v) => [.cells (machC (setM m i.n v)), .cells [.int .i64 i.op, .int .i64 i.n, .int .i64 i.m, .int .i64 i.imm]]) := by
  refine meets_f tabOk Try.func44 rfl (by decide) ?_
  rintro ⟨m, i, v⟩ ⟨h1, h2, h3, h4⟩
  refine ⟨Nat.le_refl _, by simp [Try.f44], fun E hE => ?_⟩
  refine vcOk _ ?_
  (all_goals refine qgv ?_ <;> (repeat' first | exact trivial | intro hc | refine And.intro ?_ ?_) <;> refine Lf.mk ?_)
  refine end_mk ?_
  (repeat' (first | (refine VS.mk ?_) | exact trivial | exact rfl | refine And.intro ?_ ?_))
end Go.Proofs.Ytdapgcdenpgnaaa

/-
  The machine's loads.
-/
namespace Go.Proofs.Ytdapgcdenpgnaaa
open Go Go.Plat
set_option linter.unusedVariables false
set_option linter.unusedSimpArgs false
set_option maxRecDepth 100000
set_option maxHeartbeats 2000000
attribute [local irreducible] NilS LookS NormM bitI BytesS NormL Arith QuoS RemS ShlS ShrS BitS CatS SplitS SideS IdxS CallS LoopEnd EndS ModeS DrawS AWP Meets
attribute [local irreducible] irows infoR decI signedI putN rrows rinfo shapeM inM up

theorem toM_bd {i : Ins} {a : Int} (h1 : -4096 ≤ i.imm) (h2 : i.imm ≤ 4096) : a - 20000 ≤ toM i a ∧ toM i a ≤ a + 20000 ∨ toM i a = 0 := by
  unfold toM
  split
  · exact .inl ⟨by omega, by omega⟩
  split
  · exact .inl ⟨by omega, by omega⟩
  · exact .inr rfl
theorem getN2_bd (b : List UInt8) (a : Int) : 0 ≤ getN b a 2 ∧ getN b a 2 ≤ 65535 := by
  have h0 := byteAt_bd b (a + (0 : Nat)); have h1 := byteAt_bd b (a + (1 : Nat))
  simp only [getN]; omega
theorem ixr {i : Ins} (h : 0 ≤ i.n ∧ i.n < 16) {m : Mach} {k : Nat} (hm : InM k m) : -2147483648 ≤ m.r i.n.toNat ∧ m.r i.n.toNat ≤ 2147483647 := hm.regs _ (by omega)
theorem ixm {i : Ins} (h : 0 ≤ i.m ∧ i.m < 16) {m : Mach} {k : Nat} (hm : InM k m) : -2147483648 ≤ m.r i.m.toNat ∧ m.r i.m.toNat ≤ 2147483647 := hm.regs _ (by omega)
attribute [local irreducible] getN toM ldM

theorem load_meets : Meets Try.prog n_sim_load (SpecF (fun ((m, i, at_) : Mach × Ins × Int) => InM 10000 m ∧ InI i ∧ -2000000000000 ≤ at_ ∧ at_ ≤ 2000000000000)
    (fun (m, i, at_) => [.loc 0 0, insD i, .int .i64 at_]) (fun (m, _, _) => [.cells (machC m)]) (fun (m, i, at_) => .int .i64 (loadM m i at_).2) fun (m, i, at_) => [.cells (machC (loadM m i at_).1)]) := by
  refine meets_f tabOk Try.func39 rfl (by decide) ?_
  rintro ⟨m, i, at_⟩ ⟨hm, hi, h1, h2⟩
  obtain ⟨n0, n1⟩ := hi.n
  obtain ⟨m0, m1⟩ := hi.m
  obtain ⟨q0, q1⟩ := hi.imm
  have hb := hm.base
  have hl := hm.len
  have hrm := ixm hi.m hm
  have hto := toM_bd (a := at_) q0 q1
  refine ⟨Nat.le_refl _, by simp [Try.f39], fun E hE => ?_⟩
  refine vcOk _ ?_
  (all_goals refine qgv ?_ <;> (repeat' first | exact trivial | intro hc | refine And.intro ?_ ?_) <;> refine Lf.mk ?_)
  refine call_p to_meets (i, at_) ⟨q0, q1, by omega, by omega⟩ (VS.mk (LeL.of_eq rfl)) ?_
  (all_goals refine qgv ?_ <;> (repeat' first | exact trivial | intro hc | refine And.intro ?_ ?_) <;> refine Lf.mk ?_)
  · refine call_f in_meets [0] [0] (m, m.r i.m.toNat, 4) ⟨hm, by omega, by omega, by decide⟩ rfl rfl ?_
    refine And.intro (VS.mk (LeL.of_eq rfl)) (And.intro (VS.mk rfl) ?_)
    have hF : (if i.op = 26 then m.r i.m.toNat else toM i at_) = m.r i.m.toNat := if_pos (by assumption)
    have hS : (if i.op = 23 then (2 : Int) else 4) = 4 := if_neg (by assumption)
    (all_goals refine qgv ?_ <;> (repeat' first | exact trivial | intro hc | refine And.intro ?_ ?_) <;> refine Lf.mk ?_)
    · have hL : loadM m i at_ = (m, 3) := by unfold loadM; rw [hF, hS, if_neg (by rw [hc]; decide)]
      refine end_keep [0] rfl rfl ?_
      (repeat' (first | (refine VS.mk ?_) | exact trivial | exact rfl | refine And.intro ?_ ?_))
      all_goals (dsimp only; rw [hL]; try rfl)
    have hin := inM_eq.1 (show inM m (m.r i.m.toNat) 4 = true from hc)
    refine call_p get_meets (m.img.bytes, m.r i.m.toNat - m.img.base, 4) ⟨by omega, by omega, by decide⟩ (VS.mk (by (first | exact LeL.refl _ | (repeat' (first | exact LeL.nil | exact LeD.refl _ | exact LeD.nil _ | exact LeD.strip _ _ _ | refine LeL.cons ?_ ?_ | refine LeD.tup ?_ | refine LeD.agg ?_))))) ?_
    (all_goals refine qgv ?_ <;> (repeat' first | exact trivial | intro hc | refine And.intro ?_ ?_) <;> refine Lf.mk ?_)
    refine call_p signed_meets2 (getN m.img.bytes (m.r i.m.toNat - m.img.base) 4) trivial (VS.mk (LeL.of_eq rfl)) ?_
    have hL : loadM m i at_ = (setM m i.n (signedI (getN m.img.bytes (m.r i.m.toNat - m.img.base) 4) 32), 0) := by unfold loadM; rw [hF, hS, if_pos (by assumption), if_neg (by assumption)]
    (all_goals refine qgv ?_ <;> (repeat' first | exact trivial | intro hc | refine And.intro ?_ ?_) <;> refine Lf.mk ?_)
    refine end_keep [0] rfl rfl ?_
    (repeat' (first | (refine VS.mk ?_) | exact trivial | exact rfl | refine And.intro ?_ ?_))
    all_goals (dsimp only; rw [hL]; try rfl)
  · refine call_f in_meets [0] [0] (m, toM i at_, 2) ⟨hm, by omega, by omega, by decide⟩ rfl rfl ?_
    refine And.intro (VS.mk (LeL.of_eq rfl)) (And.intro (VS.mk rfl) ?_)
    have hF : (if i.op = 26 then m.r i.m.toNat else toM i at_) = toM i at_ := if_neg (by assumption)
    have hS : (if i.op = 23 then (2 : Int) else 4) = 2 := if_pos (by assumption)
    (all_goals refine qgv ?_ <;> (repeat' first | exact trivial | intro hc | refine And.intro ?_ ?_) <;> refine Lf.mk ?_)
    · have hL : loadM m i at_ = (m, 3) := by unfold loadM; rw [hF, hS, if_neg (by rw [hc]; decide)]
      refine end_keep [0] rfl rfl ?_
      (repeat' (first | (refine VS.mk ?_) | exact trivial | exact rfl | refine And.intro ?_ ?_))
      all_goals (dsimp only; rw [hL]; try rfl)
    have hin := inM_eq.1 (show inM m (toM i at_) 2 = true from hc)
    refine call_p get_meets (m.img.bytes, toM i at_ - m.img.base, 2) ⟨by omega, by omega, by decide⟩ (VS.mk (by (first | exact LeL.refl _ | (repeat' (first | exact LeL.nil | exact LeD.refl _ | exact LeD.nil _ | exact LeD.strip _ _ _ | refine LeL.cons ?_ ?_ | refine LeD.tup ?_ | refine LeD.agg ?_))))) ?_
    have hg2 := getN2_bd m.img.bytes (toM i at_ - m.img.base)
    have hL : loadM m i at_ = (setM m i.n (signedI (signedI (getN m.img.bytes (toM i at_ - m.img.base) 2) 16) 32), 0) := by unfold loadM; rw [hF, hS, if_pos (by assumption), if_pos (by assumption)]
    have h16 := sg16 hg2.1 hg2.2
    rw [h16] at hL
    (all_goals refine qgv ?_ <;> (repeat' first | exact trivial | intro hc | refine And.intro ?_ ?_) <;> refine Lf.mk ?_)
    any_goals (first | (exfalso; exact hc trivial) | skip)
    · refine call_p signed_meets2 (getN m.img.bytes (toM i at_ - m.img.base) 2 - 65536) trivial (VS.mk (LeL.of_eq rfl)) ?_
      rw [if_pos (by omega)] at hL
      (all_goals refine qgv ?_ <;> (repeat' first | exact trivial | intro hc | refine And.intro ?_ ?_) <;> refine Lf.mk ?_)
      refine end_keep [0] rfl rfl ?_
      (repeat' (first | (refine VS.mk ?_) | exact trivial | exact rfl | refine And.intro ?_ ?_))
      all_goals (dsimp only; rw [hL]; try rfl)
    · refine call_p signed_meets2 (getN m.img.bytes (toM i at_ - m.img.base) 2) trivial (VS.mk (LeL.of_eq rfl)) ?_
      rw [if_neg (by omega)] at hL
      (all_goals refine qgv ?_ <;> (repeat' first | exact trivial | intro hc | refine And.intro ?_ ?_) <;> refine Lf.mk ?_)
      refine end_keep [0] rfl rfl ?_
      (repeat' (first | (refine VS.mk ?_) | exact trivial | exact rfl | refine And.intro ?_ ?_))
      all_goals (dsimp only; rw [hL]; try rfl)
  · refine call_f in_meets [0] [0] (m, toM i at_, 4) ⟨hm, by omega, by omega, by decide⟩ rfl rfl ?_
    refine And.intro (VS.mk (LeL.of_eq rfl)) (And.intro (VS.mk rfl) ?_)
    have hF : (if i.op = 26 then m.r i.m.toNat else toM i at_) = toM i at_ := if_neg (by assumption)
    have hS : (if i.op = 23 then (2 : Int) else 4) = 4 := if_neg (by assumption)
    (all_goals refine qgv ?_ <;> (repeat' first | exact trivial | intro hc | refine And.intro ?_ ?_) <;> refine Lf.mk ?_)
    · have hL : loadM m i at_ = (m, 3) := by unfold loadM; rw [hF, hS, if_neg (by rw [hc]; decide)]
      refine end_keep [0] rfl rfl ?_
      (repeat' (first | (refine VS.mk ?_) | exact trivial | exact rfl | refine And.intro ?_ ?_))
      all_goals (dsimp only; rw [hL]; try rfl)
    have hin := inM_eq.1 (show inM m (toM i at_) 4 = true from hc)
    refine call_p get_meets (m.img.bytes, toM i at_ - m.img.base, 4) ⟨by omega, by omega, by decide⟩ (VS.mk (by (first | exact LeL.refl _ | (repeat' (first | exact LeL.nil | exact LeD.refl _ | exact LeD.nil _ | exact LeD.strip _ _ _ | refine LeL.cons ?_ ?_ | refine LeD.tup ?_ | refine LeD.agg ?_))))) ?_
    (all_goals refine qgv ?_ <;> (repeat' first | exact trivial | intro hc | refine And.intro ?_ ?_) <;> refine Lf.mk ?_)
    refine call_p signed_meets2 (getN m.img.bytes (toM i at_ - m.img.base) 4) trivial (VS.mk (LeL.of_eq rfl)) ?_
    have hL : loadM m i at_ = (setM m i.n (signedI (getN m.img.bytes (toM i at_ - m.img.base) 4) 32), 0) := by unfold loadM; rw [hF, hS, if_pos (by assumption), if_neg (by assumption)]
    (all_goals refine qgv ?_ <;> (repeat' first | exact trivial | intro hc | refine And.intro ?_ ?_) <;> refine Lf.mk ?_)
    refine end_keep [0] rfl rfl ?_
    (repeat' (first | (refine VS.mk ?_) | exact trivial | exact rfl | refine And.intro ?_ ?_))
    all_goals (dsimp only; rw [hL]; try rfl)
end Go.Proofs.Ytdapgcdenpgnaaa
