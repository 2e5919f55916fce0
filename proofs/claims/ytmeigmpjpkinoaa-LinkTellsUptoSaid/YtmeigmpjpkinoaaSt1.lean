/-
  A part of the proof: what the given program's functions answer, each once; conditions that are enough for it.
-/
import Derived.Test.YtmeigmpjpkinoaaProg
import Derived.KernelRfl
import Derived.Test.YtmeigmpjpkinoaaFw3
/-
  The types' table and the functions' numbers of this seat; printed by a program.
-/
namespace Go.Proofs.Ytmeigmpjpkinoaa
open Go Go.Plat
set_option maxRecDepth 100000

theorem TIOk.of {P : Program} {t : Nat} {i : TI} (h1 : (P.underlying t).map tdOf = some i.d) (h2 : (P.info? t).map (fun x => (x.size, x.bytes, x.zero)) = some (i.size, i.bytes, some i.zero)) (h3 : Nat.beq i.size 0 = false) (h3b : Nat.beq i.bytes 0 = false) (h4 : Nat.beq i.zero.cells.size i.size = true)
    (h5 : (match P.underlying t with | some (.struct fs) => fs.toList.all fun f => (P.info? f.type).isSome | _ => true) = true) : TIOk P t i where
  under := by
    cases h : P.underlying t with
    | none => rw [h] at h1; cases h1
    | some d => rw [h] at h1; exact ⟨d, rfl, by simpa using h1⟩
  info := by
    cases h : P.info? t with
    | none => rw [h] at h2; cases h2
    | some x => rw [h] at h2; simp at h2; exact ⟨x, rfl, h2.1, h2.2.1, h2.2.2⟩
  pos := by intro h; rw [h] at h3; simp at h3
  bpos := by intro h; rw [h] at h3b; simp at h3b
  szero := Nat.eq_of_beq_eq_true h4
  fin := h5

theorem tk3 : TIOk Try.prog 3 ⟨(.int .i64), 1, 8, (.int .i64 0)⟩ := TIOk.of (by kernel_rfl) (by kernel_rfl) rfl rfl (by kernel_rfl) (by kernel_rfl)
theorem tk4 : TIOk Try.prog 4 ⟨.bool, 1, 1, (.bool false)⟩ := TIOk.of (by kernel_rfl) (by kernel_rfl) rfl rfl (by kernel_rfl) (by kernel_rfl)
theorem tk5 : TIOk Try.prog 5 ⟨(.int .u8), 1, 1, (.int .u8 0)⟩ := TIOk.of (by kernel_rfl) (by kernel_rfl) rfl rfl (by kernel_rfl) (by kernel_rfl)
theorem tk9 : TIOk Try.prog 9 ⟨.str, 1, 16, (.string ⟨#[]⟩)⟩ := TIOk.of (by kernel_rfl) (by kernel_rfl) rfl rfl (by kernel_rfl) (by kernel_rfl)
theorem tk23 : TIOk Try.prog 23 ⟨(.slice 5), 1, 24, (.slice none 0 0)⟩ := TIOk.of (by kernel_rfl) (by kernel_rfl) rfl rfl (by kernel_rfl) (by kernel_rfl)
theorem tk2 : TIOk Try.prog 2 ⟨(.int .i64), 1, 8, (.int .i64 0)⟩ := TIOk.of (by kernel_rfl) (by kernel_rfl) rfl rfl (by kernel_rfl) (by kernel_rfl)
theorem tk12 : TIOk Try.prog 12 ⟨(.int .u64), 1, 8, (.int .u64 0)⟩ := TIOk.of (by kernel_rfl) (by kernel_rfl) rfl rfl (by kernel_rfl) (by kernel_rfl)
theorem tk20 : TIOk Try.prog 20 ⟨.iface, 1, 16, .nilIface⟩ := TIOk.of (by kernel_rfl) (by kernel_rfl) rfl rfl (by kernel_rfl) (by kernel_rfl)
theorem tk21 : TIOk Try.prog 21 ⟨(.int .i32), 1, 4, (.int .i32 0)⟩ := TIOk.of (by kernel_rfl) (by kernel_rfl) rfl rfl (by kernel_rfl) (by kernel_rfl)
theorem tk22 : TIOk Try.prog 22 ⟨(.slice 39), 1, 24, (.slice none 0 0)⟩ := TIOk.of (by kernel_rfl) (by kernel_rfl) rfl rfl (by kernel_rfl) (by kernel_rfl)
theorem tk24 : TIOk Try.prog 24 ⟨(.slice 50), 1, 24, (.slice none 0 0)⟩ := TIOk.of (by kernel_rfl) (by kernel_rfl) rfl rfl (by kernel_rfl) (by kernel_rfl)
theorem tk25 : TIOk Try.prog 25 ⟨(.struct [(0, 3), (1, 23), (2, 24)]), 3, 56, (.agg #[(.int .i64 0), (.slice none 0 0), (.slice none 0 0)])⟩ := TIOk.of (by kernel_rfl) (by kernel_rfl) rfl rfl (by kernel_rfl) (by kernel_rfl)
theorem tk26 : TIOk Try.prog 26 ⟨(.struct [(0, 3), (1, 23), (2, 24)]), 3, 56, (.agg #[(.int .i64 0), (.slice none 0 0), (.slice none 0 0)])⟩ := TIOk.of (by kernel_rfl) (by kernel_rfl) rfl rfl (by kernel_rfl) (by kernel_rfl)
theorem tk27 : TIOk Try.prog 27 ⟨(.int .i64), 1, 8, (.int .i64 0)⟩ := TIOk.of (by kernel_rfl) (by kernel_rfl) rfl rfl (by kernel_rfl) (by kernel_rfl)
theorem tk28 : TIOk Try.prog 28 ⟨(.struct [(0, 27), (1, 3)]), 2, 16, (.agg #[(.int .i64 0), (.int .i64 0)])⟩ := TIOk.of (by kernel_rfl) (by kernel_rfl) rfl rfl (by kernel_rfl) (by kernel_rfl)
theorem tk29 : TIOk Try.prog 29 ⟨(.struct [(0, 27), (1, 3)]), 2, 16, (.agg #[(.int .i64 0), (.int .i64 0)])⟩ := TIOk.of (by kernel_rfl) (by kernel_rfl) rfl rfl (by kernel_rfl) (by kernel_rfl)
theorem tk33 : TIOk Try.prog 33 ⟨(.slice 3), 1, 24, (.slice none 0 0)⟩ := TIOk.of (by kernel_rfl) (by kernel_rfl) rfl rfl (by kernel_rfl) (by kernel_rfl)
theorem tk37 : TIOk Try.prog 37 ⟨(.slice 54), 1, 24, (.slice none 0 0)⟩ := TIOk.of (by kernel_rfl) (by kernel_rfl) rfl rfl (by kernel_rfl) (by kernel_rfl)
theorem tk38 : TIOk Try.prog 38 ⟨(.struct [(0, 23), (1, 24), (2, 37)]), 3, 72, (.agg #[(.slice none 0 0), (.slice none 0 0), (.slice none 0 0)])⟩ := TIOk.of (by kernel_rfl) (by kernel_rfl) rfl rfl (by kernel_rfl) (by kernel_rfl)
theorem tk39 : TIOk Try.prog 39 ⟨(.struct [(0, 23), (1, 24), (2, 37)]), 3, 72, (.agg #[(.slice none 0 0), (.slice none 0 0), (.slice none 0 0)])⟩ := TIOk.of (by kernel_rfl) (by kernel_rfl) rfl rfl (by kernel_rfl) (by kernel_rfl)
theorem tk49 : TIOk Try.prog 49 ⟨(.struct [(0, 9), (1, 3)]), 2, 24, (.agg #[(.string ⟨#[]⟩), (.int .i64 0)])⟩ := TIOk.of (by kernel_rfl) (by kernel_rfl) rfl rfl (by kernel_rfl) (by kernel_rfl)
theorem tk50 : TIOk Try.prog 50 ⟨(.struct [(0, 9), (1, 3)]), 2, 24, (.agg #[(.string ⟨#[]⟩), (.int .i64 0)])⟩ := TIOk.of (by kernel_rfl) (by kernel_rfl) rfl rfl (by kernel_rfl) (by kernel_rfl)
theorem tk53 : TIOk Try.prog 53 ⟨(.struct [(0, 3), (1, 3), (2, 9), (3, 3)]), 4, 40, (.agg #[(.int .i64 0), (.int .i64 0), (.string ⟨#[]⟩), (.int .i64 0)])⟩ := TIOk.of (by kernel_rfl) (by kernel_rfl) rfl rfl (by kernel_rfl) (by kernel_rfl)
theorem tk54 : TIOk Try.prog 54 ⟨(.struct [(0, 3), (1, 3), (2, 9), (3, 3)]), 4, 40, (.agg #[(.int .i64 0), (.int .i64 0), (.string ⟨#[]⟩), (.int .i64 0)])⟩ := TIOk.of (by kernel_rfl) (by kernel_rfl) rfl rfl (by kernel_rfl) (by kernel_rfl)
theorem tk62 : TIOk Try.prog 62 ⟨(.int .u64), 1, 8, (.int .u64 0)⟩ := TIOk.of (by kernel_rfl) (by kernel_rfl) rfl rfl (by kernel_rfl) (by kernel_rfl)
theorem tk64 : TIOk Try.prog 64 ⟨(.map 9 4), 1, 8, (.map none)⟩ := TIOk.of (by kernel_rfl) (by kernel_rfl) rfl rfl (by kernel_rfl) (by kernel_rfl)
theorem tk69 : TIOk Try.prog 69 ⟨(.ptr 71), 1, 8, (.pointer none)⟩ := TIOk.of (by kernel_rfl) (by kernel_rfl) rfl rfl (by kernel_rfl) (by kernel_rfl)
theorem tk70 : TIOk Try.prog 70 ⟨(.struct [(0, 23), (1, 4)]), 2, 32, (.agg #[(.slice none 0 0), (.bool false)])⟩ := TIOk.of (by kernel_rfl) (by kernel_rfl) rfl rfl (by kernel_rfl) (by kernel_rfl)
theorem tk71 : TIOk Try.prog 71 ⟨(.struct [(0, 23), (1, 4)]), 2, 32, (.agg #[(.slice none 0 0), (.bool false)])⟩ := TIOk.of (by kernel_rfl) (by kernel_rfl) rfl rfl (by kernel_rfl) (by kernel_rfl)
theorem tk73 : TIOk Try.prog 73 ⟨(.ptr 75), 1, 8, (.pointer none)⟩ := TIOk.of (by kernel_rfl) (by kernel_rfl) rfl rfl (by kernel_rfl) (by kernel_rfl)
theorem tk74 : TIOk Try.prog 74 ⟨(.struct [(0, 23), (1, 3), (2, 4)]), 3, 40, (.agg #[(.slice none 0 0), (.int .i64 0), (.bool false)])⟩ := TIOk.of (by kernel_rfl) (by kernel_rfl) rfl rfl (by kernel_rfl) (by kernel_rfl)
theorem tk75 : TIOk Try.prog 75 ⟨(.struct [(0, 23), (1, 3), (2, 4)]), 3, 40, (.agg #[(.slice none 0 0), (.int .i64 0), (.bool false)])⟩ := TIOk.of (by kernel_rfl) (by kernel_rfl) rfl rfl (by kernel_rfl) (by kernel_rfl)
theorem tk78 : TIOk Try.prog 78 ⟨(.int .u32), 1, 4, (.int .u32 0)⟩ := TIOk.of (by kernel_rfl) (by kernel_rfl) rfl rfl (by kernel_rfl) (by kernel_rfl)
theorem tk91 : TIOk Try.prog 91 ⟨(.ptr 5), 1, 8, (.pointer none)⟩ := TIOk.of (by kernel_rfl) (by kernel_rfl) rfl rfl (by kernel_rfl) (by kernel_rfl)

def tab : Tab := [
  (3, ⟨(.int .i64), 1, 8, (.int .i64 0)⟩),
  (4, ⟨.bool, 1, 1, (.bool false)⟩),
  (5, ⟨(.int .u8), 1, 1, (.int .u8 0)⟩),
  (9, ⟨.str, 1, 16, (.string ⟨#[]⟩)⟩),
  (23, ⟨(.slice 5), 1, 24, (.slice none 0 0)⟩),
  (2, ⟨(.int .i64), 1, 8, (.int .i64 0)⟩),
  (12, ⟨(.int .u64), 1, 8, (.int .u64 0)⟩),
  (20, ⟨.iface, 1, 16, .nilIface⟩),
  (21, ⟨(.int .i32), 1, 4, (.int .i32 0)⟩),
  (22, ⟨(.slice 39), 1, 24, (.slice none 0 0)⟩),
  (24, ⟨(.slice 50), 1, 24, (.slice none 0 0)⟩),
  (25, ⟨(.struct [(0, 3), (1, 23), (2, 24)]), 3, 56, (.agg #[(.int .i64 0), (.slice none 0 0), (.slice none 0 0)])⟩),
  (26, ⟨(.struct [(0, 3), (1, 23), (2, 24)]), 3, 56, (.agg #[(.int .i64 0), (.slice none 0 0), (.slice none 0 0)])⟩),
  (27, ⟨(.int .i64), 1, 8, (.int .i64 0)⟩),
  (28, ⟨(.struct [(0, 27), (1, 3)]), 2, 16, (.agg #[(.int .i64 0), (.int .i64 0)])⟩),
  (29, ⟨(.struct [(0, 27), (1, 3)]), 2, 16, (.agg #[(.int .i64 0), (.int .i64 0)])⟩),
  (33, ⟨(.slice 3), 1, 24, (.slice none 0 0)⟩),
  (37, ⟨(.slice 54), 1, 24, (.slice none 0 0)⟩),
  (38, ⟨(.struct [(0, 23), (1, 24), (2, 37)]), 3, 72, (.agg #[(.slice none 0 0), (.slice none 0 0), (.slice none 0 0)])⟩),
  (39, ⟨(.struct [(0, 23), (1, 24), (2, 37)]), 3, 72, (.agg #[(.slice none 0 0), (.slice none 0 0), (.slice none 0 0)])⟩),
  (49, ⟨(.struct [(0, 9), (1, 3)]), 2, 24, (.agg #[(.string ⟨#[]⟩), (.int .i64 0)])⟩),
  (50, ⟨(.struct [(0, 9), (1, 3)]), 2, 24, (.agg #[(.string ⟨#[]⟩), (.int .i64 0)])⟩),
  (53, ⟨(.struct [(0, 3), (1, 3), (2, 9), (3, 3)]), 4, 40, (.agg #[(.int .i64 0), (.int .i64 0), (.string ⟨#[]⟩), (.int .i64 0)])⟩),
  (54, ⟨(.struct [(0, 3), (1, 3), (2, 9), (3, 3)]), 4, 40, (.agg #[(.int .i64 0), (.int .i64 0), (.string ⟨#[]⟩), (.int .i64 0)])⟩),
  (62, ⟨(.int .u64), 1, 8, (.int .u64 0)⟩),
  (64, ⟨(.map 9 4), 1, 8, (.map none)⟩),
  (69, ⟨(.ptr 71), 1, 8, (.pointer none)⟩),
  (70, ⟨(.struct [(0, 23), (1, 4)]), 2, 32, (.agg #[(.slice none 0 0), (.bool false)])⟩),
  (71, ⟨(.struct [(0, 23), (1, 4)]), 2, 32, (.agg #[(.slice none 0 0), (.bool false)])⟩),
  (73, ⟨(.ptr 75), 1, 8, (.pointer none)⟩),
  (74, ⟨(.struct [(0, 23), (1, 3), (2, 4)]), 3, 40, (.agg #[(.slice none 0 0), (.int .i64 0), (.bool false)])⟩),
  (75, ⟨(.struct [(0, 23), (1, 3), (2, 4)]), 3, 40, (.agg #[(.slice none 0 0), (.int .i64 0), (.bool false)])⟩),
  (78, ⟨(.int .u32), 1, 4, (.int .u32 0)⟩),
  (91, ⟨(.ptr 5), 1, 8, (.pointer none)⟩)]
theorem tabOk : TabOk Try.prog tab :=
  .cons tk3 <| .cons tk4 <| .cons tk5 <| .cons tk9 <| .cons tk23 <| .cons tk2 <| .cons tk12 <| .cons tk20 <| .cons tk21 <| .cons tk22 <| .cons tk24 <| .cons tk25 <| .cons tk26 <| .cons tk27 <| .cons tk28 <| .cons tk29 <| .cons tk33 <| .cons tk37 <| .cons tk38 <| .cons tk39 <| .cons tk49 <| .cons tk50 <| .cons tk53 <| .cons tk54 <| .cons tk62 <| .cons tk64 <| .cons tk69 <| .cons tk70 <| .cons tk71 <| .cons tk73 <| .cons tk74 <| .cons tk75 <| .cons tk78 <| .cons tk91 <| .nil _
theorem mixed : Try.prog.follows .mixedOrders = true := by kernel_rfl
theorem vcOk {n : Nat} {E : Entry} (c : Code) {Q : Ex → List (Nat × D) → List Ob → Prop} {σ : List (Nat × D)} {L : List Ob} (h : vcK Try.prog tab n E c Q σ L) : AWP Try.prog n E c Q σ L := awp_vc tabOk mixed c h

abbrev n_gosem_cut_init : Nat := 2
abbrev n_pllaw7_LinkTells : Nat := 3
abbrev n_pllaw6_ObjTells : Nat := 4
abbrev n_pllaw6_ObjTurns : Nat := 5
abbrev n_link_Link : Nat := 6
abbrev n_plref6_Link : Nat := 7
abbrev n_plref6_SameImage : Nat := 8
abbrev n_link_Bases : Nat := 9
abbrev n_plref6_Bases : Nat := 10
abbrev n_obj_Bytes : Nat := 11
abbrev n_plref6_Bytes : Nat := 12
abbrev n_obj_Wrong : Nat := 13
abbrev n_plref6_Wrong : Nat := 14
abbrev n_plref4_SameObject : Nat := 15
abbrev n_obj_Own : Nat := 16
abbrev n_obj_Parse : Nat := 17
abbrev n_plref6_Parse : Nat := 18
abbrev n_pllaw6_alive : Nat := 19
abbrev n_link_find : Nat := 20
abbrev n_isa_Signed : Nat := 21
abbrev n_isa_Put : Nat := 22
abbrev n_plref6_Link_1 : Nat := 23
abbrev n_plref6_where : Nat := 24
abbrev n_plref1_Signed : Nat := 25
abbrev n_plref1_Put : Nat := 26
abbrev n_plref4_Up : Nat := 27
abbrev n_obj_num : Nat := 28
abbrev n_obj_text : Nat := 29
abbrev n_plref6_Bytes_1 : Nat := 30
abbrev n_scan_Name : Nat := 31
abbrev n_plref1_Name : Nat := 32
abbrev n_slices_Clone_byte_byte : Nat := 33
abbrev n_slices_Clone_api_Sym_api_Sym : Nat := 34
abbrev n_slices_Clone_api_Reloc_api_Reloc : Nat := 35
abbrev n_obj_reader_take : Nat := 36
abbrev n_obj_reader_num : Nat := 37
abbrev n_obj_reader_byte : Nat := 38
abbrev n_plref6_Rd_T : Nat := 39
abbrev n_plref6_Rd_N : Nat := 40
abbrev n_slices_IndexFunc_api_Sym_api_Sym : Nat := 41
abbrev n_link_find_1 : Nat := 42
abbrev n_isa_signed : Nat := 43
abbrev n_scan_letter : Nat := 44
abbrev n_scan_digit : Nat := 45
abbrev n_plref1_kind : Nat := 46
abbrev n_isa_Get : Nat := 47
abbrev n_plref1_Get : Nat := 48

end Go.Proofs.Ytmeigmpjpkinoaa

namespace Go.Proofs.Ytmeigmpjpkinoaa
open Go Go.Plat
set_option linter.unusedVariables false
set_option linter.unusedSimpArgs false
set_option maxRecDepth 100000
set_option maxHeartbeats 2000000
attribute [local irreducible] NilS LookS NormM bitI BytesS NormL Arith QuoS RemS ShlS ShrS BitS CatS SplitS SideS IdxS CallS LoopEnd EndS ModeS DrawS AWP Meets

def letterB (c : UInt8) : Bool := decide (97 ≤ c.toNat ∧ c.toNat ≤ 122 ∨ 65 ≤ c.toNat ∧ c.toNat ≤ 90 ∨ c.toNat = 95 ∨ c.toNat = 46)
def digitB (c : UInt8) : Bool := decide (48 ≤ c.toNat ∧ c.toNat ≤ 57)
def kindB (c : UInt8) : Int := if letterB c = true then 97 else if digitB c = true then 48 else if c.toNat = 32 ∨ c.toNat = 9 ∨ c.toNat = 13 then 32 else 0
theorem letter_meets : Meets Try.prog n_scan_letter (SpecP (fun _ : UInt8 => True) (fun c => [byteD c]) fun c => .bool (letterB c)) := by
  refine meets_f tabOk Try.func44 rfl (by decide) fun c _ => ?_
  refine ⟨Nat.le_refl _, by simp [Try.f44], fun E hE => ?_⟩
  refine vcOk _ ?_
  (repeat' (first | (refine VS.mk ?_) | (refine dr_mk ?_) | (refine md_l ?_) | ((first | refine sp_not_dec ?_ ?_ | refine sp_dec ?_ ?_ | refine sp_beq ?_ ?_ | refine sp_bne ?_ ?_ | refine sp_seq ?_ ?_ | refine sp_sne ?_ ?_ | refine sp_not ?_ ?_ | refine sp_any ?_ ?_) <;> (intro hc; try simp only [List.length_map, List.length_append, List.length_cons, List.length_nil, Bool.and_true, Bool.and_eq_true, beq_iff_eq, Bool.and_eq_false_iff, beq_eq_false_iff_ne, Bool.true_and, ne_eq] at hc)) | (with_reducible first | refine norm_one ?_ | refine norm_app ?_ | refine norm_cutEnd ?_ | refine norm_cut ?_ | refine norm_bytes1 ?_ | refine norm_bytes2 ?_ | refine norm_setByte ?_ | refine norm_int1 ?_ | refine norm_mk ?_) | (with_reducible refine bytes_mk ?_) | (refine ar_byte ?_) | (refine ar_i64 (by omega) (by omega) ?_) | (refine ar_low ?_) | (refine ix_byteN (by omega) ?_) | (refine ix_byteK (by simp only [Int.reduceToNat]; exact rfl) (by decide) (by omega) ?_) | (refine ix_byte (by omega) (by omega) ?_) | (refine ix_rfl (by decide) rfl ?_) | (refine sd_mk rfl ?_) | (refine sd_mk (by decide +kernel) ?_) | (refine sd_mk (by first | (simp only [List.length_map, List.length_append, List.length_cons, List.length_nil]; done) | ((try simp only [List.length_map, List.length_append, List.length_cons, List.length_nil, List.length_set, List.length_replicate, List.length_drop, List.length_take, true_and, and_true]); omega) | (dsimp only; omega)) ?_) | (first | refine shl8 (by omega) (by omega) ?_ | refine shl4 (by omega) (by omega) ?_ | refine shl1 (by omega) (by omega) ?_ | refine shl16 (by omega) (by omega) ?_ | refine shl24 (by omega) (by omega) ?_ | refine shr8 (by decide) ?_ | refine shr4 (by decide) ?_ | refine shr1 (by decide) ?_ | refine shr16 (by decide) ?_ | refine shr24 (by decide) ?_) | (with_reducible first | refine bit_mk and_1 ?_ | refine bit_mk and_15 ?_ | refine bit_mk and_255 ?_ | refine bit_mk and_4095 ?_ | refine bit_mk and_65535 ?_) | (refine quo_pos (by omega) (by omega) (by omega) ?_) | (refine rem_pos (by omega) (by omega) ?_)))
  all_goals first
    | (refine end_p (VS.mk (LeD.tt ?_)); unfold letterB; rw [decide_eq_true_eq]; omega)
    | (refine end_p (VS.mk (LeD.ff ?_)); unfold letterB; rw [decide_eq_false_iff_not]; omega)
    | (refine end_p (VS.mk (LeD.of_eq (congrArg D.bool ?_))); unfold letterB; rw [Bool.eq_iff_iff]; simp only [beq_iff_eq, decide_eq_true_eq]; omega)
theorem digit_meets : Meets Try.prog n_scan_digit (SpecP (fun _ : UInt8 => True) (fun c => [byteD c]) fun c => .bool (digitB c)) := by
  refine meets_f tabOk Try.func45 rfl (by decide) fun c _ => ?_
  refine ⟨Nat.le_refl _, by simp [Try.f45], fun E hE => ?_⟩
  refine vcOk _ ?_
  (repeat' (first | (refine VS.mk ?_) | (refine dr_mk ?_) | (refine md_l ?_) | ((first | refine sp_not_dec ?_ ?_ | refine sp_dec ?_ ?_ | refine sp_beq ?_ ?_ | refine sp_bne ?_ ?_ | refine sp_seq ?_ ?_ | refine sp_sne ?_ ?_ | refine sp_not ?_ ?_ | refine sp_any ?_ ?_) <;> (intro hc; try simp only [List.length_map, List.length_append, List.length_cons, List.length_nil, Bool.and_true, Bool.and_eq_true, beq_iff_eq, Bool.and_eq_false_iff, beq_eq_false_iff_ne, Bool.true_and, ne_eq] at hc)) | (with_reducible first | refine norm_one ?_ | refine norm_app ?_ | refine norm_cutEnd ?_ | refine norm_cut ?_ | refine norm_bytes1 ?_ | refine norm_bytes2 ?_ | refine norm_setByte ?_ | refine norm_int1 ?_ | refine norm_mk ?_) | (with_reducible refine bytes_mk ?_) | (refine ar_byte ?_) | (refine ar_i64 (by omega) (by omega) ?_) | (refine ar_low ?_) | (refine ix_byteN (by omega) ?_) | (refine ix_byteK (by simp only [Int.reduceToNat]; exact rfl) (by decide) (by omega) ?_) | (refine ix_byte (by omega) (by omega) ?_) | (refine ix_rfl (by decide) rfl ?_) | (refine sd_mk rfl ?_) | (refine sd_mk (by decide +kernel) ?_) | (refine sd_mk (by first | (simp only [List.length_map, List.length_append, List.length_cons, List.length_nil]; done) | ((try simp only [List.length_map, List.length_append, List.length_cons, List.length_nil, List.length_set, List.length_replicate, List.length_drop, List.length_take, true_and, and_true]); omega) | (dsimp only; omega)) ?_) | (first | refine shl8 (by omega) (by omega) ?_ | refine shl4 (by omega) (by omega) ?_ | refine shl1 (by omega) (by omega) ?_ | refine shl16 (by omega) (by omega) ?_ | refine shl24 (by omega) (by omega) ?_ | refine shr8 (by decide) ?_ | refine shr4 (by decide) ?_ | refine shr1 (by decide) ?_ | refine shr16 (by decide) ?_ | refine shr24 (by decide) ?_) | (with_reducible first | refine bit_mk and_1 ?_ | refine bit_mk and_15 ?_ | refine bit_mk and_255 ?_ | refine bit_mk and_4095 ?_ | refine bit_mk and_65535 ?_) | (refine quo_pos (by omega) (by omega) (by omega) ?_) | (refine rem_pos (by omega) (by omega) ?_)))
  all_goals first
    | (refine end_p (VS.mk (LeD.tt ?_)); unfold digitB; rw [decide_eq_true_eq]; omega)
    | (refine end_p (VS.mk (LeD.ff ?_)); unfold digitB; rw [decide_eq_false_iff_not]; omega)
    | (refine end_p (VS.mk (LeD.of_eq (congrArg D.bool ?_))); unfold digitB; rw [Bool.eq_iff_iff]; simp only [beq_iff_eq, decide_eq_true_eq]; omega)
theorem kind_meets : Meets Try.prog n_plref1_kind (SpecP (fun _ : UInt8 => True) (fun c => [byteD c]) fun c => .int .u8 (kindB c)) := by
  refine meets_f tabOk Try.func46 rfl (by decide) fun c _ => ?_
  refine ⟨Nat.le_refl _, by simp [Try.f46], fun E hE => ?_⟩
  refine vcOk _ ?_
  (repeat' (first | (refine VS.mk ?_) | (refine dr_mk ?_) | (refine md_l ?_) | ((first | refine sp_not_dec ?_ ?_ | refine sp_dec ?_ ?_ | refine sp_beq ?_ ?_ | refine sp_bne ?_ ?_ | refine sp_seq ?_ ?_ | refine sp_sne ?_ ?_ | refine sp_not ?_ ?_ | refine sp_any ?_ ?_) <;> (intro hc; try simp only [List.length_map, List.length_append, List.length_cons, List.length_nil, Bool.and_true, Bool.and_eq_true, beq_iff_eq, Bool.and_eq_false_iff, beq_eq_false_iff_ne, Bool.true_and, ne_eq] at hc)) | (with_reducible first | refine norm_one ?_ | refine norm_app ?_ | refine norm_cutEnd ?_ | refine norm_cut ?_ | refine norm_bytes1 ?_ | refine norm_bytes2 ?_ | refine norm_setByte ?_ | refine norm_int1 ?_ | refine norm_mk ?_) | (with_reducible refine bytes_mk ?_) | (refine ar_byte ?_) | (refine ar_i64 (by omega) (by omega) ?_) | (refine ar_low ?_) | (refine ix_byteN (by omega) ?_) | (refine ix_byteK (by simp only [Int.reduceToNat]; exact rfl) (by decide) (by omega) ?_) | (refine ix_byte (by omega) (by omega) ?_) | (refine ix_rfl (by decide) rfl ?_) | (refine sd_mk rfl ?_) | (refine sd_mk (by decide +kernel) ?_) | (refine sd_mk (by first | (simp only [List.length_map, List.length_append, List.length_cons, List.length_nil]; done) | ((try simp only [List.length_map, List.length_append, List.length_cons, List.length_nil, List.length_set, List.length_replicate, List.length_drop, List.length_take, true_and, and_true]); omega) | (dsimp only; omega)) ?_) | (first | refine shl8 (by omega) (by omega) ?_ | refine shl4 (by omega) (by omega) ?_ | refine shl1 (by omega) (by omega) ?_ | refine shl16 (by omega) (by omega) ?_ | refine shl24 (by omega) (by omega) ?_ | refine shr8 (by decide) ?_ | refine shr4 (by decide) ?_ | refine shr1 (by decide) ?_ | refine shr16 (by decide) ?_ | refine shr24 (by decide) ?_) | (with_reducible first | refine bit_mk and_1 ?_ | refine bit_mk and_15 ?_ | refine bit_mk and_255 ?_ | refine bit_mk and_4095 ?_ | refine bit_mk and_65535 ?_) | (refine quo_pos (by omega) (by omega) (by omega) ?_) | (refine rem_pos (by omega) (by omega) ?_)))
  all_goals
    refine end_p (VS.mk (LeD.of_eq (congrArg (D.int .u8) ?_)))
    unfold kindB letterB digitB
    simp only [decide_eq_true_eq]
    (repeat' split) <;> omega

def nameB (s : List UInt8) : Bool := decide (1 ≤ s.length ∧ s.length ≤ 10) && letterB (s.getD 0 0) && s.all fun c => (letterB c || digitB c) && !(c == 46)
def okC (c : UInt8) : Bool := (letterB c || digitB c) && !(c == 46)
attribute [local irreducible] letterB digitB kindB

theorem all_take {p : UInt8 → Bool} {s : List UInt8} {k : Nat} (hk : k < s.length) : (s.take (k + 1)).all p = ((s.take k).all p && p (s.getD k 0)) := by
  rw [List.take_succ_eq_append_getElem hk, List.all_append]
  simp [List.getD_eq_getElem?_getD, List.getElem?_eq_getElem hk]
theorem all_stop {p : UInt8 → Bool} {s : List UInt8} {k : Nat} (hk : k < s.length) (h : p (s.getD k 0) = false) : s.all p = false := by
  rw [← List.take_append_drop k s, List.all_append, List.drop_eq_getElem_cons hk]
  have : s.getD k 0 = s[k] := by simp [List.getD_eq_getElem?_getD, List.getElem?_eq_getElem hk]
  rw [this] at h
  rw [List.all_cons, h, Bool.false_and, Bool.and_false]

theorem name_meets : Meets Try.prog n_scan_Name (SpecP (fun s : List UInt8 => s.length ≤ 1000000000) (fun s => [.str s]) fun s => .bool (nameB s)) := by
  refine meets_f tabOk Try.func31 rfl (by decide) fun s hs => ?_
  refine ⟨Nat.le_refl _, by simp [Try.f31], fun E hE => ?_⟩
  refine vcOk _ ?_
  (repeat' (first | (refine VS.mk ?_) | (refine dr_mk ?_) | (refine md_l ?_) | ((first | refine sp_not_dec ?_ ?_ | refine sp_dec ?_ ?_ | refine sp_beq ?_ ?_ | refine sp_bne ?_ ?_ | refine sp_seq ?_ ?_ | refine sp_sne ?_ ?_ | refine sp_not ?_ ?_ | refine sp_any ?_ ?_) <;> (intro hc; try simp only [List.length_map, List.length_append, List.length_cons, List.length_nil, Bool.and_true, Bool.and_eq_true, beq_iff_eq, Bool.and_eq_false_iff, beq_eq_false_iff_ne, Bool.true_and, ne_eq] at hc)) | (with_reducible first | refine norm_one ?_ | refine norm_app ?_ | refine norm_cutEnd ?_ | refine norm_cut ?_ | refine norm_bytes1 ?_ | refine norm_bytes2 ?_ | refine norm_setByte ?_ | refine norm_int1 ?_ | refine norm_mk ?_) | (with_reducible refine bytes_mk ?_) | (refine ar_byte ?_) | (refine ar_i64 (by omega) (by omega) ?_) | (refine ar_low ?_) | (refine ix_byteN (by omega) ?_) | (refine ix_byteK (by simp only [Int.reduceToNat]; exact rfl) (by decide) (by omega) ?_) | (refine ix_byte (by omega) (by omega) ?_) | (refine ix_rfl (by decide) rfl ?_) | (refine sd_mk rfl ?_) | (refine sd_mk (by decide +kernel) ?_) | (refine sd_mk (by first | (simp only [List.length_map, List.length_append, List.length_cons, List.length_nil]; done) | ((try simp only [List.length_map, List.length_append, List.length_cons, List.length_nil, List.length_set, List.length_replicate, List.length_drop, List.length_take, true_and, and_true]); omega) | (dsimp only; omega)) ?_) | (first | refine shl8 (by omega) (by omega) ?_ | refine shl4 (by omega) (by omega) ?_ | refine shl1 (by omega) (by omega) ?_ | refine shl16 (by omega) (by omega) ?_ | refine shl24 (by omega) (by omega) ?_ | refine shr8 (by decide) ?_ | refine shr4 (by decide) ?_ | refine shr1 (by decide) ?_ | refine shr16 (by decide) ?_ | refine shr24 (by decide) ?_) | (with_reducible first | refine bit_mk and_1 ?_ | refine bit_mk and_15 ?_ | refine bit_mk and_255 ?_ | refine bit_mk and_4095 ?_ | refine bit_mk and_65535 ?_) | (refine quo_pos (by omega) (by omega) (by omega) ?_) | (refine rem_pos (by omega) (by omega) ?_)))
  · refine end_p (VS.mk (LeD.ff ?_))
    unfold nameB
    rw [decide_eq_false (by omega)]
    rfl
  · refine end_p (VS.mk (LeD.ff ?_))
    unfold nameB
    rw [decide_eq_false (by omega)]
    rfl
  · refine end_p (VS.mk (LeD.ff ?_))
    have e : okC (s.getD 0 0) = false := by
      have : s.getD 0 0 = 46 := UInt8.toNat_inj.1 (by exact_mod_cast hc)
      rw [this]
      unfold okC
      rw [Bool.and_eq_false_iff]
      exact .inr rfl
    have h2 : s.all okC = false := all_stop (k := 0) (by omega) e
    show (_ && _ && s.all okC) = false
    rw [h2, Bool.and_false]
  refine call_p letter_meets (s.getD 0 0) trivial (VS.mk (LeL.of_eq rfl)) ?_
  (repeat' (first | (refine VS.mk ?_) | (refine dr_mk ?_) | (refine md_l ?_) | ((first | refine sp_not_dec ?_ ?_ | refine sp_dec ?_ ?_ | refine sp_beq ?_ ?_ | refine sp_bne ?_ ?_ | refine sp_seq ?_ ?_ | refine sp_sne ?_ ?_ | refine sp_not ?_ ?_ | refine sp_any ?_ ?_) <;> (intro hc; try simp only [List.length_map, List.length_append, List.length_cons, List.length_nil, Bool.and_true, Bool.and_eq_true, beq_iff_eq, Bool.and_eq_false_iff, beq_eq_false_iff_ne, Bool.true_and, ne_eq] at hc)) | (with_reducible first | refine norm_one ?_ | refine norm_app ?_ | refine norm_cutEnd ?_ | refine norm_cut ?_ | refine norm_bytes1 ?_ | refine norm_bytes2 ?_ | refine norm_setByte ?_ | refine norm_int1 ?_ | refine norm_mk ?_) | (with_reducible refine bytes_mk ?_) | (refine ar_byte ?_) | (refine ar_i64 (by omega) (by omega) ?_) | (refine ar_low ?_) | (refine ix_byteN (by omega) ?_) | (refine ix_byteK (by simp only [Int.reduceToNat]; exact rfl) (by decide) (by omega) ?_) | (refine ix_byte (by omega) (by omega) ?_) | (refine ix_rfl (by decide) rfl ?_) | (refine sd_mk rfl ?_) | (refine sd_mk (by decide +kernel) ?_) | (refine sd_mk (by first | (simp only [List.length_map, List.length_append, List.length_cons, List.length_nil]; done) | ((try simp only [List.length_map, List.length_append, List.length_cons, List.length_nil, List.length_set, List.length_replicate, List.length_drop, List.length_take, true_and, and_true]); omega) | (dsimp only; omega)) ?_) | (first | refine shl8 (by omega) (by omega) ?_ | refine shl4 (by omega) (by omega) ?_ | refine shl1 (by omega) (by omega) ?_ | refine shl16 (by omega) (by omega) ?_ | refine shl24 (by omega) (by omega) ?_ | refine shr8 (by decide) ?_ | refine shr4 (by decide) ?_ | refine shr1 (by decide) ?_ | refine shr16 (by decide) ?_ | refine shr24 (by decide) ?_) | (with_reducible first | refine bit_mk and_1 ?_ | refine bit_mk and_15 ?_ | refine bit_mk and_255 ?_ | refine bit_mk and_4095 ?_ | refine bit_mk and_65535 ?_) | (refine quo_pos (by omega) (by omega) (by omega) ?_) | (refine rem_pos (by omega) (by omega) ?_)))
  · refine end_p (VS.mk (LeD.ff ?_))
    show (_ && letterB (s.getD 0 0) && _) = false
    rw [hc, Bool.and_false, Bool.false_and]
  have hl0 : letterB (s.getD 0 0) = true := by assumption
  refine awp_loop (α := Nat) (fun k => k ≤ s.length ∧ (s.take k).all okC = true) (fun k => [(0, .str s), (24, .int .i64 s.length), (25, .int .i64 k)]) (fun _ => []) (fun k => s.length - k) (fun _ => by simp [hE]) 0 ⟨Nat.zero_le _, by simp⟩ ?_ ?_
  · (repeat' (first | (refine VS.mk ?_) | exact trivial | exact rfl | refine And.intro ?_ ?_))
  rintro k ⟨hk, hall⟩
  refine vcOk _ ?_
  (repeat' (first | (refine VS.mk ?_) | (refine dr_mk ?_) | (refine md_l ?_) | ((first | refine sp_not_dec ?_ ?_ | refine sp_dec ?_ ?_ | refine sp_beq ?_ ?_ | refine sp_bne ?_ ?_ | refine sp_seq ?_ ?_ | refine sp_sne ?_ ?_ | refine sp_not ?_ ?_ | refine sp_any ?_ ?_) <;> (intro hc; try simp only [List.length_map, List.length_append, List.length_cons, List.length_nil, Bool.and_true, Bool.and_eq_true, beq_iff_eq, Bool.and_eq_false_iff, beq_eq_false_iff_ne, Bool.true_and, ne_eq] at hc)) | (with_reducible first | refine norm_one ?_ | refine norm_app ?_ | refine norm_cutEnd ?_ | refine norm_cut ?_ | refine norm_bytes1 ?_ | refine norm_bytes2 ?_ | refine norm_setByte ?_ | refine norm_int1 ?_ | refine norm_mk ?_) | (with_reducible refine bytes_mk ?_) | (refine ar_byte ?_) | (refine ar_i64 (by omega) (by omega) ?_) | (refine ar_low ?_) | (refine ix_byteN (by omega) ?_) | (refine ix_byteK (by simp only [Int.reduceToNat]; exact rfl) (by decide) (by omega) ?_) | (refine ix_byte (by omega) (by omega) ?_) | (refine ix_rfl (by decide) rfl ?_) | (refine sd_mk rfl ?_) | (refine sd_mk (by decide +kernel) ?_) | (refine sd_mk (by first | (simp only [List.length_map, List.length_append, List.length_cons, List.length_nil]; done) | ((try simp only [List.length_map, List.length_append, List.length_cons, List.length_nil, List.length_set, List.length_replicate, List.length_drop, List.length_take, true_and, and_true]); omega) | (dsimp only; omega)) ?_) | (first | refine shl8 (by omega) (by omega) ?_ | refine shl4 (by omega) (by omega) ?_ | refine shl1 (by omega) (by omega) ?_ | refine shl16 (by omega) (by omega) ?_ | refine shl24 (by omega) (by omega) ?_ | refine shr8 (by decide) ?_ | refine shr4 (by decide) ?_ | refine shr1 (by decide) ?_ | refine shr16 (by decide) ?_ | refine shr24 (by decide) ?_) | (with_reducible first | refine bit_mk and_1 ?_ | refine bit_mk and_15 ?_ | refine bit_mk and_255 ?_ | refine bit_mk and_4095 ?_ | refine bit_mk and_65535 ?_) | (refine quo_pos (by omega) (by omega) (by omega) ?_) | (refine rem_pos (by omega) (by omega) ?_)))
  · have hidx : ((k : Int)).toNat = k := Int.toNat_natCast k
    have hk' : k < s.length := by omega
    have hst := all_take (p := okC) hk'
    have hsp := all_stop (p := okC) hk'
    have hok : okC (s.getD k 0) = ((letterB (s.getD k 0) || digitB (s.getD k 0)) && !(s.getD k 0 == 46)) := rfl
    have h46 : (((s.getD k 0).toNat : Nat) : Int) = 46 → okC (s.getD k 0) = false := fun h => by
      have : s.getD k 0 = 46 := UInt8.toNat_inj.1 (by exact_mod_cast h)
      rw [hok, this]
      rw [Bool.and_eq_false_iff]
      exact .inr rfl
    have n46 : ¬ (((s.getD k 0).toNat : Nat) : Int) = 46 → (s.getD k 0 == 46) = false := fun h => beq_eq_false_iff_ne.2 fun e => h (by rw [e]; rfl)
    have bad : okC (s.getD k 0) = false → nameB s = false := fun h => by
      show (_ && letterB (s.getD 0 0) && s.all okC) = false
      rw [hsp h, Bool.and_false]
    refine call_p letter_meets (s.getD k 0) trivial (VS.mk (LeL.of_eq (by rw [hidx]; rfl))) ?_
    (repeat' (first | (refine VS.mk ?_) | (refine dr_mk ?_) | (refine md_l ?_) | ((first | refine sp_not_dec ?_ ?_ | refine sp_dec ?_ ?_ | refine sp_beq ?_ ?_ | refine sp_bne ?_ ?_ | refine sp_seq ?_ ?_ | refine sp_sne ?_ ?_ | refine sp_not ?_ ?_ | refine sp_any ?_ ?_) <;> (intro hc; try simp only [List.length_map, List.length_append, List.length_cons, List.length_nil, Bool.and_true, Bool.and_eq_true, beq_iff_eq, Bool.and_eq_false_iff, beq_eq_false_iff_ne, Bool.true_and, ne_eq] at hc)) | (with_reducible first | refine norm_one ?_ | refine norm_app ?_ | refine norm_cutEnd ?_ | refine norm_cut ?_ | refine norm_bytes1 ?_ | refine norm_bytes2 ?_ | refine norm_setByte ?_ | refine norm_int1 ?_ | refine norm_mk ?_) | (with_reducible refine bytes_mk ?_) | (refine ar_byte ?_) | (refine ar_i64 (by omega) (by omega) ?_) | (refine ar_low ?_) | (refine ix_byteN (by omega) ?_) | (refine ix_byteK (by simp only [Int.reduceToNat]; exact rfl) (by decide) (by omega) ?_) | (refine ix_byte (by omega) (by omega) ?_) | (refine ix_rfl (by decide) rfl ?_) | (refine sd_mk rfl ?_) | (refine sd_mk (by decide +kernel) ?_) | (refine sd_mk (by first | (simp only [List.length_map, List.length_append, List.length_cons, List.length_nil]; done) | ((try simp only [List.length_map, List.length_append, List.length_cons, List.length_nil, List.length_set, List.length_replicate, List.length_drop, List.length_take, true_and, and_true]); omega) | (dsimp only; omega)) ?_) | (first | refine shl8 (by omega) (by omega) ?_ | refine shl4 (by omega) (by omega) ?_ | refine shl1 (by omega) (by omega) ?_ | refine shl16 (by omega) (by omega) ?_ | refine shl24 (by omega) (by omega) ?_ | refine shr8 (by decide) ?_ | refine shr4 (by decide) ?_ | refine shr1 (by decide) ?_ | refine shr16 (by decide) ?_ | refine shr24 (by decide) ?_) | (with_reducible first | refine bit_mk and_1 ?_ | refine bit_mk and_15 ?_ | refine bit_mk and_255 ?_ | refine bit_mk and_4095 ?_ | refine bit_mk and_65535 ?_) | (refine quo_pos (by omega) (by omega) (by omega) ?_) | (refine rem_pos (by omega) (by omega) ?_)))
    · refine call_p digit_meets (s.getD k 0) trivial (VS.mk (LeL.of_eq (by rw [hidx]; rfl))) ?_
      (repeat' (first | (refine VS.mk ?_) | (refine dr_mk ?_) | (refine md_l ?_) | ((first | refine sp_not_dec ?_ ?_ | refine sp_dec ?_ ?_ | refine sp_beq ?_ ?_ | refine sp_bne ?_ ?_ | refine sp_seq ?_ ?_ | refine sp_sne ?_ ?_ | refine sp_not ?_ ?_ | refine sp_any ?_ ?_) <;> (intro hc; try simp only [List.length_map, List.length_append, List.length_cons, List.length_nil, Bool.and_true, Bool.and_eq_true, beq_iff_eq, Bool.and_eq_false_iff, beq_eq_false_iff_ne, Bool.true_and, ne_eq] at hc)) | (with_reducible first | refine norm_one ?_ | refine norm_app ?_ | refine norm_cutEnd ?_ | refine norm_cut ?_ | refine norm_bytes1 ?_ | refine norm_bytes2 ?_ | refine norm_setByte ?_ | refine norm_int1 ?_ | refine norm_mk ?_) | (with_reducible refine bytes_mk ?_) | (refine ar_byte ?_) | (refine ar_i64 (by omega) (by omega) ?_) | (refine ar_low ?_) | (refine ix_byteN (by omega) ?_) | (refine ix_byteK (by simp only [Int.reduceToNat]; exact rfl) (by decide) (by omega) ?_) | (refine ix_byte (by omega) (by omega) ?_) | (refine ix_rfl (by decide) rfl ?_) | (refine sd_mk rfl ?_) | (refine sd_mk (by decide +kernel) ?_) | (refine sd_mk (by first | (simp only [List.length_map, List.length_append, List.length_cons, List.length_nil]; done) | ((try simp only [List.length_map, List.length_append, List.length_cons, List.length_nil, List.length_set, List.length_replicate, List.length_drop, List.length_take, true_and, and_true]); omega) | (dsimp only; omega)) ?_) | (first | refine shl8 (by omega) (by omega) ?_ | refine shl4 (by omega) (by omega) ?_ | refine shl1 (by omega) (by omega) ?_ | refine shl16 (by omega) (by omega) ?_ | refine shl24 (by omega) (by omega) ?_ | refine shr8 (by decide) ?_ | refine shr4 (by decide) ?_ | refine shr1 (by decide) ?_ | refine shr16 (by decide) ?_ | refine shr24 (by decide) ?_) | (with_reducible first | refine bit_mk and_1 ?_ | refine bit_mk and_15 ?_ | refine bit_mk and_255 ?_ | refine bit_mk and_4095 ?_ | refine bit_mk and_65535 ?_) | (refine quo_pos (by omega) (by omega) (by omega) ?_) | (refine rem_pos (by omega) (by omega) ?_)))
      · refine end_p (VS.mk (LeD.ff (bad ?_)))
        rw [hok, (by assumption : letterB (s.getD k 0) = false), (by assumption : digitB (s.getD k 0) = false)]
        rfl
      · rw [hidx] at hc
        exact end_p (VS.mk (LeD.ff (bad (h46 hc))))
      · rw [hidx] at hc
        refine loop_end (k + 1) ⟨by omega, ?_⟩ (by omega) ?_
        rotate_left
        · rw [hst, hall, hok, (by assumption : digitB (s.getD k 0) = true), n46 hc, Bool.or_true]
          rfl
        · (repeat' (first | (refine VS.mk ?_) | exact trivial | exact rfl | refine And.intro ?_ ?_))
    · rw [hidx] at hc
      exact end_p (VS.mk (LeD.ff (bad (h46 hc))))
    · rw [hidx] at hc
      refine loop_end (k + 1) ⟨by omega, ?_⟩ (by omega) ?_
      rotate_left
      · rw [hst, hall, hok, (by assumption : letterB (s.getD k 0) = true), n46 hc]
        rfl
      · (repeat' (first | (refine VS.mk ?_) | exact trivial | exact rfl | refine And.intro ?_ ?_))
  · refine end_p (VS.mk (LeD.tt ?_))
    rw [List.take_of_length_le (by omega)] at hall
    show (_ && letterB (s.getD 0 0) && s.all okC) = true
    rw [hl0, hall, decide_eq_true (by omega)]
    rfl
end Go.Proofs.Ytmeigmpjpkinoaa

namespace Go.Proofs.Ytmeigmpjpkinoaa
open Go Go.Plat
set_option linter.unusedVariables false
set_option linter.unusedSimpArgs false
set_option maxRecDepth 100000
set_option maxHeartbeats 2000000
attribute [local irreducible] NilS LookS NormM bitI BytesS NormL Arith QuoS RemS ShlS ShrS BitS CatS SplitS SideS IdxS CallS LoopEnd EndS ModeS DrawS AWP Meets
attribute [local irreducible] letterB digitB kindB nameB

theorem cloneB_meets : Meets Try.prog n_slices_Clone_byte_byte (SpecP (fun ds : List D => ds.length ≤ 100000000 ∧ ∀ (i : Nat) d, ds[i]? = some d → d.cells.length = 1) (fun ds => [.sl 1 ds none]) fun ds => .sl 1 ds none) := by
  refine meets_f tabOk Try.func33 rfl (by decide) ?_
  rintro ds ⟨hds, hlen⟩
  refine ⟨Nat.le_refl _, by simp [Try.f33], fun E hE => ?_⟩
  refine vcOk _ ?_
  (repeat' (first | (refine VS.mk ?_) | (refine dr_mk ?_) | (refine md_l ?_) | ((first | refine sp_not_dec ?_ ?_ | refine sp_dec ?_ ?_ | refine sp_beq ?_ ?_ | refine sp_bne ?_ ?_ | refine sp_seq ?_ ?_ | refine sp_sne ?_ ?_ | refine sp_not ?_ ?_ | refine sp_any ?_ ?_) <;> (intro hc; try simp only [List.length_map, List.length_append, List.length_cons, List.length_nil, Bool.and_true, Bool.and_eq_true, beq_iff_eq, Bool.and_eq_false_iff, beq_eq_false_iff_ne, Bool.true_and, ne_eq] at hc)) | (with_reducible first | refine norm_one ?_ | refine norm_app ?_ | refine norm_cutEnd ?_ | refine norm_cut ?_ | refine norm_bytes1 ?_ | refine norm_bytes2 ?_ | refine norm_setByte ?_ | refine norm_int1 ?_ | refine norm_mk ?_) | (with_reducible refine bytes_mk ?_) | (refine ar_byte ?_) | (refine ar_i64 (by omega) (by omega) ?_) | (refine ar_low ?_) | (refine ix_byteN (by omega) ?_) | (refine ix_byteK (by simp only [Int.reduceToNat]; exact rfl) (by decide) (by omega) ?_) | (refine ix_byte (by omega) (by omega) ?_) | (refine ix_rfl (by decide) rfl ?_) | (refine sd_mk rfl ?_) | (refine sd_mk (by decide +kernel) ?_) | (refine sd_mk (by first | (simp only [List.length_map, List.length_append, List.length_cons, List.length_nil]; done) | ((try simp only [List.length_map, List.length_append, List.length_cons, List.length_nil, List.length_set, List.length_replicate, List.length_drop, List.length_take, true_and, and_true]); omega) | (dsimp only; omega)) ?_) | (first | refine shl8 (by omega) (by omega) ?_ | refine shl4 (by omega) (by omega) ?_ | refine shl1 (by omega) (by omega) ?_ | refine shl16 (by omega) (by omega) ?_ | refine shl24 (by omega) (by omega) ?_ | refine shr8 (by decide) ?_ | refine shr4 (by decide) ?_ | refine shr1 (by decide) ?_ | refine shr16 (by decide) ?_ | refine shr24 (by decide) ?_) | (with_reducible first | refine bit_mk and_1 ?_ | refine bit_mk and_15 ?_ | refine bit_mk and_255 ?_ | refine bit_mk and_4095 ?_ | refine bit_mk and_65535 ?_) | (refine quo_pos (by omega) (by omega) (by omega) ?_) | (refine rem_pos (by omega) (by omega) ?_)))
  refine nil_mk (fun h => ?_) ?_
  · subst h
    (repeat' (first | (refine VS.mk ?_) | (refine dr_mk ?_) | (refine md_l ?_) | ((first | refine sp_not_dec ?_ ?_ | refine sp_dec ?_ ?_ | refine sp_beq ?_ ?_ | refine sp_bne ?_ ?_ | refine sp_seq ?_ ?_ | refine sp_sne ?_ ?_ | refine sp_not ?_ ?_ | refine sp_any ?_ ?_) <;> (intro hc; try simp only [List.length_map, List.length_append, List.length_cons, List.length_nil, Bool.and_true, Bool.and_eq_true, beq_iff_eq, Bool.and_eq_false_iff, beq_eq_false_iff_ne, Bool.true_and, ne_eq] at hc)) | (with_reducible first | refine norm_one ?_ | refine norm_app ?_ | refine norm_cutEnd ?_ | refine norm_cut ?_ | refine norm_bytes1 ?_ | refine norm_bytes2 ?_ | refine norm_setByte ?_ | refine norm_int1 ?_ | refine norm_mk ?_) | (with_reducible refine bytes_mk ?_) | (refine ar_byte ?_) | (refine ar_i64 (by omega) (by omega) ?_) | (refine ar_low ?_) | (refine ix_byteN (by omega) ?_) | (refine ix_byteK (by simp only [Int.reduceToNat]; exact rfl) (by decide) (by omega) ?_) | (refine ix_byte (by omega) (by omega) ?_) | (refine ix_rfl (by decide) rfl ?_) | (refine sd_mk rfl ?_) | (refine sd_mk (by decide +kernel) ?_) | (refine sd_mk (by first | (simp only [List.length_map, List.length_append, List.length_cons, List.length_nil]; done) | ((try simp only [List.length_map, List.length_append, List.length_cons, List.length_nil, List.length_set, List.length_replicate, List.length_drop, List.length_take, true_and, and_true]); omega) | (dsimp only; omega)) ?_) | (first | refine shl8 (by omega) (by omega) ?_ | refine shl4 (by omega) (by omega) ?_ | refine shl1 (by omega) (by omega) ?_ | refine shl16 (by omega) (by omega) ?_ | refine shl24 (by omega) (by omega) ?_ | refine shr8 (by decide) ?_ | refine shr4 (by decide) ?_ | refine shr1 (by decide) ?_ | refine shr16 (by decide) ?_ | refine shr24 (by decide) ?_) | (with_reducible first | refine bit_mk and_1 ?_ | refine bit_mk and_15 ?_ | refine bit_mk and_255 ?_ | refine bit_mk and_4095 ?_ | refine bit_mk and_65535 ?_) | (refine quo_pos (by omega) (by omega) (by omega) ?_) | (refine rem_pos (by omega) (by omega) ?_)))
    exact end_p (VS.mk (LeD.nil _))
  (repeat' (first | (refine VS.mk ?_) | (refine dr_mk ?_) | (refine md_l ?_) | ((first | refine sp_not_dec ?_ ?_ | refine sp_dec ?_ ?_ | refine sp_beq ?_ ?_ | refine sp_bne ?_ ?_ | refine sp_seq ?_ ?_ | refine sp_sne ?_ ?_ | refine sp_not ?_ ?_ | refine sp_any ?_ ?_) <;> (intro hc; try simp only [List.length_map, List.length_append, List.length_cons, List.length_nil, Bool.and_true, Bool.and_eq_true, beq_iff_eq, Bool.and_eq_false_iff, beq_eq_false_iff_ne, Bool.true_and, ne_eq] at hc)) | (with_reducible first | refine norm_one ?_ | refine norm_app ?_ | refine norm_cutEnd ?_ | refine norm_cut ?_ | refine norm_bytes1 ?_ | refine norm_bytes2 ?_ | refine norm_setByte ?_ | refine norm_int1 ?_ | refine norm_mk ?_) | (with_reducible refine bytes_mk ?_) | (refine ar_byte ?_) | (refine ar_i64 (by omega) (by omega) ?_) | (refine ar_low ?_) | (refine ix_byteN (by omega) ?_) | (refine ix_byteK (by simp only [Int.reduceToNat]; exact rfl) (by decide) (by omega) ?_) | (refine ix_byte (by omega) (by omega) ?_) | (refine ix_rfl (by decide) rfl ?_) | (refine sd_mk rfl ?_) | (refine sd_mk (by decide +kernel) ?_) | (refine sd_mk (by first | (simp only [List.length_map, List.length_append, List.length_cons, List.length_nil]; done) | ((try simp only [List.length_map, List.length_append, List.length_cons, List.length_nil, List.length_set, List.length_replicate, List.length_drop, List.length_take, true_and, and_true]); omega) | (dsimp only; omega)) ?_) | (first | refine shl8 (by omega) (by omega) ?_ | refine shl4 (by omega) (by omega) ?_ | refine shl1 (by omega) (by omega) ?_ | refine shl16 (by omega) (by omega) ?_ | refine shl24 (by omega) (by omega) ?_ | refine shr8 (by decide) ?_ | refine shr4 (by decide) ?_ | refine shr1 (by decide) ?_ | refine shr16 (by decide) ?_ | refine shr24 (by decide) ?_) | (with_reducible first | refine bit_mk and_1 ?_ | refine bit_mk and_15 ?_ | refine bit_mk and_255 ?_ | refine bit_mk and_4095 ?_ | refine bit_mk and_65535 ?_) | (refine quo_pos (by omega) (by omega) (by omega) ?_) | (refine rem_pos (by omega) (by omega) ?_)))
  exact end_p (VS.mk (LeD.refl _))

theorem cloneS_meets : Meets Try.prog n_slices_Clone_api_Sym_api_Sym (SpecP (fun ds : List D => ds.length ≤ 100000000 ∧ ∀ (i : Nat) d, ds[i]? = some d → d.cells.length = 2) (fun ds => [.sl 2 ds none]) fun ds => .sl 2 ds none) := by
  refine meets_f tabOk Try.func34 rfl (by decide) ?_
  rintro ds ⟨hds, hlen⟩
  refine ⟨Nat.le_refl _, by simp [Try.f34], fun E hE => ?_⟩
  refine vcOk _ ?_
  (repeat' (first | (refine VS.mk ?_) | (refine dr_mk ?_) | (refine md_l ?_) | ((first | refine sp_not_dec ?_ ?_ | refine sp_dec ?_ ?_ | refine sp_beq ?_ ?_ | refine sp_bne ?_ ?_ | refine sp_seq ?_ ?_ | refine sp_sne ?_ ?_ | refine sp_not ?_ ?_ | refine sp_any ?_ ?_) <;> (intro hc; try simp only [List.length_map, List.length_append, List.length_cons, List.length_nil, Bool.and_true, Bool.and_eq_true, beq_iff_eq, Bool.and_eq_false_iff, beq_eq_false_iff_ne, Bool.true_and, ne_eq] at hc)) | (with_reducible first | refine norm_one ?_ | refine norm_app ?_ | refine norm_cutEnd ?_ | refine norm_cut ?_ | refine norm_bytes1 ?_ | refine norm_bytes2 ?_ | refine norm_setByte ?_ | refine norm_int1 ?_ | refine norm_mk ?_) | (with_reducible refine bytes_mk ?_) | (refine ar_byte ?_) | (refine ar_i64 (by omega) (by omega) ?_) | (refine ar_low ?_) | (refine ix_byteN (by omega) ?_) | (refine ix_byteK (by simp only [Int.reduceToNat]; exact rfl) (by decide) (by omega) ?_) | (refine ix_byte (by omega) (by omega) ?_) | (refine ix_rfl (by decide) rfl ?_) | (refine sd_mk rfl ?_) | (refine sd_mk (by decide +kernel) ?_) | (refine sd_mk (by first | (simp only [List.length_map, List.length_append, List.length_cons, List.length_nil]; done) | ((try simp only [List.length_map, List.length_append, List.length_cons, List.length_nil, List.length_set, List.length_replicate, List.length_drop, List.length_take, true_and, and_true]); omega) | (dsimp only; omega)) ?_) | (first | refine shl8 (by omega) (by omega) ?_ | refine shl4 (by omega) (by omega) ?_ | refine shl1 (by omega) (by omega) ?_ | refine shl16 (by omega) (by omega) ?_ | refine shl24 (by omega) (by omega) ?_ | refine shr8 (by decide) ?_ | refine shr4 (by decide) ?_ | refine shr1 (by decide) ?_ | refine shr16 (by decide) ?_ | refine shr24 (by decide) ?_) | (with_reducible first | refine bit_mk and_1 ?_ | refine bit_mk and_15 ?_ | refine bit_mk and_255 ?_ | refine bit_mk and_4095 ?_ | refine bit_mk and_65535 ?_) | (refine quo_pos (by omega) (by omega) (by omega) ?_) | (refine rem_pos (by omega) (by omega) ?_)))
  refine nil_mk (fun h => ?_) ?_
  · subst h
    (repeat' (first | (refine VS.mk ?_) | (refine dr_mk ?_) | (refine md_l ?_) | ((first | refine sp_not_dec ?_ ?_ | refine sp_dec ?_ ?_ | refine sp_beq ?_ ?_ | refine sp_bne ?_ ?_ | refine sp_seq ?_ ?_ | refine sp_sne ?_ ?_ | refine sp_not ?_ ?_ | refine sp_any ?_ ?_) <;> (intro hc; try simp only [List.length_map, List.length_append, List.length_cons, List.length_nil, Bool.and_true, Bool.and_eq_true, beq_iff_eq, Bool.and_eq_false_iff, beq_eq_false_iff_ne, Bool.true_and, ne_eq] at hc)) | (with_reducible first | refine norm_one ?_ | refine norm_app ?_ | refine norm_cutEnd ?_ | refine norm_cut ?_ | refine norm_bytes1 ?_ | refine norm_bytes2 ?_ | refine norm_setByte ?_ | refine norm_int1 ?_ | refine norm_mk ?_) | (with_reducible refine bytes_mk ?_) | (refine ar_byte ?_) | (refine ar_i64 (by omega) (by omega) ?_) | (refine ar_low ?_) | (refine ix_byteN (by omega) ?_) | (refine ix_byteK (by simp only [Int.reduceToNat]; exact rfl) (by decide) (by omega) ?_) | (refine ix_byte (by omega) (by omega) ?_) | (refine ix_rfl (by decide) rfl ?_) | (refine sd_mk rfl ?_) | (refine sd_mk (by decide +kernel) ?_) | (refine sd_mk (by first | (simp only [List.length_map, List.length_append, List.length_cons, List.length_nil]; done) | ((try simp only [List.length_map, List.length_append, List.length_cons, List.length_nil, List.length_set, List.length_replicate, List.length_drop, List.length_take, true_and, and_true]); omega) | (dsimp only; omega)) ?_) | (first | refine shl8 (by omega) (by omega) ?_ | refine shl4 (by omega) (by omega) ?_ | refine shl1 (by omega) (by omega) ?_ | refine shl16 (by omega) (by omega) ?_ | refine shl24 (by omega) (by omega) ?_ | refine shr8 (by decide) ?_ | refine shr4 (by decide) ?_ | refine shr1 (by decide) ?_ | refine shr16 (by decide) ?_ | refine shr24 (by decide) ?_) | (with_reducible first | refine bit_mk and_1 ?_ | refine bit_mk and_15 ?_ | refine bit_mk and_255 ?_ | refine bit_mk and_4095 ?_ | refine bit_mk and_65535 ?_) | (refine quo_pos (by omega) (by omega) (by omega) ?_) | (refine rem_pos (by omega) (by omega) ?_)))
    exact end_p (VS.mk (LeD.nil _))
  (repeat' (first | (refine VS.mk ?_) | (refine dr_mk ?_) | (refine md_l ?_) | ((first | refine sp_not_dec ?_ ?_ | refine sp_dec ?_ ?_ | refine sp_beq ?_ ?_ | refine sp_bne ?_ ?_ | refine sp_seq ?_ ?_ | refine sp_sne ?_ ?_ | refine sp_not ?_ ?_ | refine sp_any ?_ ?_) <;> (intro hc; try simp only [List.length_map, List.length_append, List.length_cons, List.length_nil, Bool.and_true, Bool.and_eq_true, beq_iff_eq, Bool.and_eq_false_iff, beq_eq_false_iff_ne, Bool.true_and, ne_eq] at hc)) | (with_reducible first | refine norm_one ?_ | refine norm_app ?_ | refine norm_cutEnd ?_ | refine norm_cut ?_ | refine norm_bytes1 ?_ | refine norm_bytes2 ?_ | refine norm_setByte ?_ | refine norm_int1 ?_ | refine norm_mk ?_) | (with_reducible refine bytes_mk ?_) | (refine ar_byte ?_) | (refine ar_i64 (by omega) (by omega) ?_) | (refine ar_low ?_) | (refine ix_byteN (by omega) ?_) | (refine ix_byteK (by simp only [Int.reduceToNat]; exact rfl) (by decide) (by omega) ?_) | (refine ix_byte (by omega) (by omega) ?_) | (refine ix_rfl (by decide) rfl ?_) | (refine sd_mk rfl ?_) | (refine sd_mk (by decide +kernel) ?_) | (refine sd_mk (by first | (simp only [List.length_map, List.length_append, List.length_cons, List.length_nil]; done) | ((try simp only [List.length_map, List.length_append, List.length_cons, List.length_nil, List.length_set, List.length_replicate, List.length_drop, List.length_take, true_and, and_true]); omega) | (dsimp only; omega)) ?_) | (first | refine shl8 (by omega) (by omega) ?_ | refine shl4 (by omega) (by omega) ?_ | refine shl1 (by omega) (by omega) ?_ | refine shl16 (by omega) (by omega) ?_ | refine shl24 (by omega) (by omega) ?_ | refine shr8 (by decide) ?_ | refine shr4 (by decide) ?_ | refine shr1 (by decide) ?_ | refine shr16 (by decide) ?_ | refine shr24 (by decide) ?_) | (with_reducible first | refine bit_mk and_1 ?_ | refine bit_mk and_15 ?_ | refine bit_mk and_255 ?_ | refine bit_mk and_4095 ?_ | refine bit_mk and_65535 ?_) | (refine quo_pos (by omega) (by omega) (by omega) ?_) | (refine rem_pos (by omega) (by omega) ?_)))
  exact end_p (VS.mk (LeD.refl _))

theorem cloneR_meets : Meets Try.prog n_slices_Clone_api_Reloc_api_Reloc (SpecP (fun ds : List D => ds.length ≤ 100000000 ∧ ∀ (i : Nat) d, ds[i]? = some d → d.cells.length = 4) (fun ds => [.sl 4 ds none]) fun ds => .sl 4 ds none) := by
  refine meets_f tabOk Try.func35 rfl (by decide) ?_
  rintro ds ⟨hds, hlen⟩
  refine ⟨Nat.le_refl _, by simp [Try.f35], fun E hE => ?_⟩
  refine vcOk _ ?_
  (repeat' (first | (refine VS.mk ?_) | (refine dr_mk ?_) | (refine md_l ?_) | ((first | refine sp_not_dec ?_ ?_ | refine sp_dec ?_ ?_ | refine sp_beq ?_ ?_ | refine sp_bne ?_ ?_ | refine sp_seq ?_ ?_ | refine sp_sne ?_ ?_ | refine sp_not ?_ ?_ | refine sp_any ?_ ?_) <;> (intro hc; try simp only [List.length_map, List.length_append, List.length_cons, List.length_nil, Bool.and_true, Bool.and_eq_true, beq_iff_eq, Bool.and_eq_false_iff, beq_eq_false_iff_ne, Bool.true_and, ne_eq] at hc)) | (with_reducible first | refine norm_one ?_ | refine norm_app ?_ | refine norm_cutEnd ?_ | refine norm_cut ?_ | refine norm_bytes1 ?_ | refine norm_bytes2 ?_ | refine norm_setByte ?_ | refine norm_int1 ?_ | refine norm_mk ?_) | (with_reducible refine bytes_mk ?_) | (refine ar_byte ?_) | (refine ar_i64 (by omega) (by omega) ?_) | (refine ar_low ?_) | (refine ix_byteN (by omega) ?_) | (refine ix_byteK (by simp only [Int.reduceToNat]; exact rfl) (by decide) (by omega) ?_) | (refine ix_byte (by omega) (by omega) ?_) | (refine ix_rfl (by decide) rfl ?_) | (refine sd_mk rfl ?_) | (refine sd_mk (by decide +kernel) ?_) | (refine sd_mk (by first | (simp only [List.length_map, List.length_append, List.length_cons, List.length_nil]; done) | ((try simp only [List.length_map, List.length_append, List.length_cons, List.length_nil, List.length_set, List.length_replicate, List.length_drop, List.length_take, true_and, and_true]); omega) | (dsimp only; omega)) ?_) | (first | refine shl8 (by omega) (by omega) ?_ | refine shl4 (by omega) (by omega) ?_ | refine shl1 (by omega) (by omega) ?_ | refine shl16 (by omega) (by omega) ?_ | refine shl24 (by omega) (by omega) ?_ | refine shr8 (by decide) ?_ | refine shr4 (by decide) ?_ | refine shr1 (by decide) ?_ | refine shr16 (by decide) ?_ | refine shr24 (by decide) ?_) | (with_reducible first | refine bit_mk and_1 ?_ | refine bit_mk and_15 ?_ | refine bit_mk and_255 ?_ | refine bit_mk and_4095 ?_ | refine bit_mk and_65535 ?_) | (refine quo_pos (by omega) (by omega) (by omega) ?_) | (refine rem_pos (by omega) (by omega) ?_)))
  refine nil_mk (fun h => ?_) ?_
  · subst h
    (repeat' (first | (refine VS.mk ?_) | (refine dr_mk ?_) | (refine md_l ?_) | ((first | refine sp_not_dec ?_ ?_ | refine sp_dec ?_ ?_ | refine sp_beq ?_ ?_ | refine sp_bne ?_ ?_ | refine sp_seq ?_ ?_ | refine sp_sne ?_ ?_ | refine sp_not ?_ ?_ | refine sp_any ?_ ?_) <;> (intro hc; try simp only [List.length_map, List.length_append, List.length_cons, List.length_nil, Bool.and_true, Bool.and_eq_true, beq_iff_eq, Bool.and_eq_false_iff, beq_eq_false_iff_ne, Bool.true_and, ne_eq] at hc)) | (with_reducible first | refine norm_one ?_ | refine norm_app ?_ | refine norm_cutEnd ?_ | refine norm_cut ?_ | refine norm_bytes1 ?_ | refine norm_bytes2 ?_ | refine norm_setByte ?_ | refine norm_int1 ?_ | refine norm_mk ?_) | (with_reducible refine bytes_mk ?_) | (refine ar_byte ?_) | (refine ar_i64 (by omega) (by omega) ?_) | (refine ar_low ?_) | (refine ix_byteN (by omega) ?_) | (refine ix_byteK (by simp only [Int.reduceToNat]; exact rfl) (by decide) (by omega) ?_) | (refine ix_byte (by omega) (by omega) ?_) | (refine ix_rfl (by decide) rfl ?_) | (refine sd_mk rfl ?_) | (refine sd_mk (by decide +kernel) ?_) | (refine sd_mk (by first | (simp only [List.length_map, List.length_append, List.length_cons, List.length_nil]; done) | ((try simp only [List.length_map, List.length_append, List.length_cons, List.length_nil, List.length_set, List.length_replicate, List.length_drop, List.length_take, true_and, and_true]); omega) | (dsimp only; omega)) ?_) | (first | refine shl8 (by omega) (by omega) ?_ | refine shl4 (by omega) (by omega) ?_ | refine shl1 (by omega) (by omega) ?_ | refine shl16 (by omega) (by omega) ?_ | refine shl24 (by omega) (by omega) ?_ | refine shr8 (by decide) ?_ | refine shr4 (by decide) ?_ | refine shr1 (by decide) ?_ | refine shr16 (by decide) ?_ | refine shr24 (by decide) ?_) | (with_reducible first | refine bit_mk and_1 ?_ | refine bit_mk and_15 ?_ | refine bit_mk and_255 ?_ | refine bit_mk and_4095 ?_ | refine bit_mk and_65535 ?_) | (refine quo_pos (by omega) (by omega) (by omega) ?_) | (refine rem_pos (by omega) (by omega) ?_)))
    exact end_p (VS.mk (LeD.nil _))
  (repeat' (first | (refine VS.mk ?_) | (refine dr_mk ?_) | (refine md_l ?_) | ((first | refine sp_not_dec ?_ ?_ | refine sp_dec ?_ ?_ | refine sp_beq ?_ ?_ | refine sp_bne ?_ ?_ | refine sp_seq ?_ ?_ | refine sp_sne ?_ ?_ | refine sp_not ?_ ?_ | refine sp_any ?_ ?_) <;> (intro hc; try simp only [List.length_map, List.length_append, List.length_cons, List.length_nil, Bool.and_true, Bool.and_eq_true, beq_iff_eq, Bool.and_eq_false_iff, beq_eq_false_iff_ne, Bool.true_and, ne_eq] at hc)) | (with_reducible first | refine norm_one ?_ | refine norm_app ?_ | refine norm_cutEnd ?_ | refine norm_cut ?_ | refine norm_bytes1 ?_ | refine norm_bytes2 ?_ | refine norm_setByte ?_ | refine norm_int1 ?_ | refine norm_mk ?_) | (with_reducible refine bytes_mk ?_) | (refine ar_byte ?_) | (refine ar_i64 (by omega) (by omega) ?_) | (refine ar_low ?_) | (refine ix_byteN (by omega) ?_) | (refine ix_byteK (by simp only [Int.reduceToNat]; exact rfl) (by decide) (by omega) ?_) | (refine ix_byte (by omega) (by omega) ?_) | (refine ix_rfl (by decide) rfl ?_) | (refine sd_mk rfl ?_) | (refine sd_mk (by decide +kernel) ?_) | (refine sd_mk (by first | (simp only [List.length_map, List.length_append, List.length_cons, List.length_nil]; done) | ((try simp only [List.length_map, List.length_append, List.length_cons, List.length_nil, List.length_set, List.length_replicate, List.length_drop, List.length_take, true_and, and_true]); omega) | (dsimp only; omega)) ?_) | (first | refine shl8 (by omega) (by omega) ?_ | refine shl4 (by omega) (by omega) ?_ | refine shl1 (by omega) (by omega) ?_ | refine shl16 (by omega) (by omega) ?_ | refine shl24 (by omega) (by omega) ?_ | refine shr8 (by decide) ?_ | refine shr4 (by decide) ?_ | refine shr1 (by decide) ?_ | refine shr16 (by decide) ?_ | refine shr24 (by decide) ?_) | (with_reducible first | refine bit_mk and_1 ?_ | refine bit_mk and_15 ?_ | refine bit_mk and_255 ?_ | refine bit_mk and_4095 ?_ | refine bit_mk and_65535 ?_) | (refine quo_pos (by omega) (by omega) (by omega) ?_) | (refine rem_pos (by omega) (by omega) ?_)))
  exact end_p (VS.mk (LeD.refl _))
end Go.Proofs.Ytmeigmpjpkinoaa

namespace Go.Proofs.Ytmeigmpjpkinoaa
open Go Go.Plat
set_option linter.unusedVariables false
set_option linter.unusedSimpArgs false
set_option maxRecDepth 100000
set_option maxHeartbeats 2000000
attribute [local irreducible] NilS LookS NormM bitI BytesS NormL Arith QuoS RemS ShlS ShrS BitS CatS SplitS SideS IdxS CallS LoopEnd EndS ModeS DrawS AWP Meets

def byteAt (b : List UInt8) (i : Int) : Int := if 0 ≤ i ∧ i < b.length then ((b.getD i.toNat 0).toNat : Int) else 0
def getN (b : List UInt8) (at_ : Int) : Nat → Int
  | 0 => 0
  | k + 1 => getN b at_ k * 256 + byteAt b (at_ + k)

theorem byteAt_bd (b : List UInt8) (i : Int) : 0 ≤ byteAt b i ∧ byteAt b i < 256 := by
  unfold byteAt; split
  · have := u8_lt (b.getD i.toNat 0); omega
  · omega
theorem getN_nn (b : List UInt8) (at_ : Int) : ∀ k, 0 ≤ getN b at_ k
  | 0 => by simp [getN]
  | k + 1 => by have := getN_nn b at_ k; have := byteAt_bd b (at_ + k); simp only [getN]; omega
theorem getN_bd (b : List UInt8) (at_ : Int) (k : Nat) (hk : k ≤ 4) : getN b at_ k ≤ 4294967295 := by
  have h0 := byteAt_bd b (at_ + (0 : Nat)); have h1 := byteAt_bd b (at_ + (1 : Nat)); have h2 := byteAt_bd b (at_ + (2 : Nat)); have h3 := byteAt_bd b (at_ + (3 : Nat))
  match k, hk with
  | 0, _ => simp [getN]
  | 1, _ => simp only [getN]; omega
  | 2, _ => simp only [getN]; omega
  | 3, _ => simp only [getN]; omega
  | 4, _ => simp only [getN]; omega

theorem get_meets : Meets Try.prog n_isa_Get (SpecP (fun ((b, at_, size) : List UInt8 × Int × Nat) => -1000000000000 ≤ at_ ∧ at_ ≤ 1000000000000 ∧ size ≤ 4) (fun (b, at_, size) => [bytesD b, .int .i64 at_, .int .i64 size])
    fun (b, at_, size) => .int .i64 (getN b at_ size)) := by
  refine meets_f tabOk Try.func47 rfl (by decide) ?_
  rintro ⟨b, at_, size⟩ ⟨h1, h2, h4⟩
  refine ⟨Nat.le_refl _, by simp [Try.f47], fun E hE => ?_⟩
  refine vcOk _ ?_
  (repeat' (first | (refine VS.mk ?_) | (refine dr_mk ?_) | (refine md_l ?_) | ((first | refine sp_not_dec ?_ ?_ | refine sp_dec ?_ ?_ | refine sp_beq ?_ ?_ | refine sp_bne ?_ ?_ | refine sp_seq ?_ ?_ | refine sp_sne ?_ ?_ | refine sp_not ?_ ?_ | refine sp_any ?_ ?_) <;> (intro hc; try simp only [List.length_map, List.length_append, List.length_cons, List.length_nil, Bool.and_true, Bool.and_eq_true, beq_iff_eq, Bool.and_eq_false_iff, beq_eq_false_iff_ne, Bool.true_and, ne_eq] at hc)) | (with_reducible first | refine norm_one ?_ | refine norm_app ?_ | refine norm_cutEnd ?_ | refine norm_cut ?_ | refine norm_bytes1 ?_ | refine norm_bytes2 ?_ | refine norm_setByte ?_ | refine norm_int1 ?_ | refine norm_mk ?_) | (with_reducible refine bytes_mk ?_) | (refine ar_byte ?_) | (refine ar_i64 (by omega) (by omega) ?_) | (refine ar_low ?_) | (refine ix_byteN (by omega) ?_) | (refine ix_byteK (by simp only [Int.reduceToNat]; exact rfl) (by decide) (by omega) ?_) | (refine ix_byte (by omega) (by omega) ?_) | (refine ix_rfl (by decide) rfl ?_) | (refine sd_mk rfl ?_) | (refine sd_mk (by decide +kernel) ?_) | (refine sd_mk (by first | (simp only [List.length_map, List.length_append, List.length_cons, List.length_nil]; done) | ((try simp only [List.length_map, List.length_append, List.length_cons, List.length_nil, List.length_set, List.length_replicate, List.length_drop, List.length_take, true_and, and_true]); omega) | (dsimp only; omega)) ?_) | (first | refine shl8 (by omega) (by omega) ?_ | refine shl4 (by omega) (by omega) ?_ | refine shl1 (by omega) (by omega) ?_ | refine shl16 (by omega) (by omega) ?_ | refine shl24 (by omega) (by omega) ?_ | refine shr8 (by decide) ?_ | refine shr4 (by decide) ?_ | refine shr1 (by decide) ?_ | refine shr16 (by decide) ?_ | refine shr24 (by decide) ?_) | (with_reducible first | refine bit_mk and_1 ?_ | refine bit_mk and_15 ?_ | refine bit_mk and_255 ?_ | refine bit_mk and_4095 ?_ | refine bit_mk and_65535 ?_) | (refine quo_pos (by omega) (by omega) (by omega) ?_) | (refine rem_pos (by omega) (by omega) ?_)))
  refine awp_loop (α := Nat) (fun k => k ≤ size) (fun k => [(11, .int .i64 k), (10, .int .i64 size), (7, .int .i64 (getN b at_ k)), (0, bytesD b), (1, .int .i64 at_)]) (fun _ => []) (fun k => size - k) (fun _ => by simp [hE]) 0 (Nat.zero_le _) ?_ ?_
  · (repeat' (first | (refine VS.mk ?_) | exact trivial | exact rfl | refine And.intro ?_ ?_))
  intro k hk
  have g0 := getN_nn b at_ k
  have g1 := getN_bd b at_ k (by omega)
  refine vcOk _ ?_
  (repeat' (first | (refine VS.mk ?_) | (refine dr_mk ?_) | (refine md_l ?_) | ((first | refine sp_not_dec ?_ ?_ | refine sp_dec ?_ ?_ | refine sp_beq ?_ ?_ | refine sp_bne ?_ ?_ | refine sp_seq ?_ ?_ | refine sp_sne ?_ ?_ | refine sp_not ?_ ?_ | refine sp_any ?_ ?_) <;> (intro hc; try simp only [List.length_map, List.length_append, List.length_cons, List.length_nil, Bool.and_true, Bool.and_eq_true, beq_iff_eq, Bool.and_eq_false_iff, beq_eq_false_iff_ne, Bool.true_and, ne_eq] at hc)) | (with_reducible first | refine norm_one ?_ | refine norm_app ?_ | refine norm_cutEnd ?_ | refine norm_cut ?_ | refine norm_bytes1 ?_ | refine norm_bytes2 ?_ | refine norm_setByte ?_ | refine norm_int1 ?_ | refine norm_mk ?_) | (with_reducible refine bytes_mk ?_) | (refine ar_byte ?_) | (refine ar_i64 (by omega) (by omega) ?_) | (refine ar_low ?_) | (refine ix_byteN (by omega) ?_) | (refine ix_byteK (by simp only [Int.reduceToNat]; exact rfl) (by decide) (by omega) ?_) | (refine ix_byte (by omega) (by omega) ?_) | (refine ix_rfl (by decide) rfl ?_) | (refine sd_mk rfl ?_) | (refine sd_mk (by decide +kernel) ?_) | (refine sd_mk (by first | (simp only [List.length_map, List.length_append, List.length_cons, List.length_nil]; done) | ((try simp only [List.length_map, List.length_append, List.length_cons, List.length_nil, List.length_set, List.length_replicate, List.length_drop, List.length_take, true_and, and_true]); omega) | (dsimp only; omega)) ?_) | (first | refine shl8 (by omega) (by omega) ?_ | refine shl4 (by omega) (by omega) ?_ | refine shl1 (by omega) (by omega) ?_ | refine shl16 (by omega) (by omega) ?_ | refine shl24 (by omega) (by omega) ?_ | refine shr8 (by decide) ?_ | refine shr4 (by decide) ?_ | refine shr1 (by decide) ?_ | refine shr16 (by decide) ?_ | refine shr24 (by decide) ?_) | (with_reducible first | refine bit_mk and_1 ?_ | refine bit_mk and_15 ?_ | refine bit_mk and_255 ?_ | refine bit_mk and_4095 ?_ | refine bit_mk and_65535 ?_) | (refine quo_pos (by omega) (by omega) (by omega) ?_) | (refine rem_pos (by omega) (by omega) ?_)))
  · have hb : byteAt b (at_ + k) = ((b.getD (at_ + (k : Int)).toNat 0).toNat : Int) := by unfold byteAt; rw [if_pos ⟨by omega, by omega⟩]
    have := u8_lt (b.getD (at_ + (k : Int)).toNat 0)
    refine bit_mk (or_add (s := 8) rfl g0 (by omega) (by omega) (by omega)) ?_
    (repeat' (first | (refine VS.mk ?_) | (refine dr_mk ?_) | (refine md_l ?_) | ((first | refine sp_not_dec ?_ ?_ | refine sp_dec ?_ ?_ | refine sp_beq ?_ ?_ | refine sp_bne ?_ ?_ | refine sp_seq ?_ ?_ | refine sp_sne ?_ ?_ | refine sp_not ?_ ?_ | refine sp_any ?_ ?_) <;> (intro hc; try simp only [List.length_map, List.length_append, List.length_cons, List.length_nil, Bool.and_true, Bool.and_eq_true, beq_iff_eq, Bool.and_eq_false_iff, beq_eq_false_iff_ne, Bool.true_and, ne_eq] at hc)) | (with_reducible first | refine norm_one ?_ | refine norm_app ?_ | refine norm_cutEnd ?_ | refine norm_cut ?_ | refine norm_bytes1 ?_ | refine norm_bytes2 ?_ | refine norm_setByte ?_ | refine norm_int1 ?_ | refine norm_mk ?_) | (with_reducible refine bytes_mk ?_) | (refine ar_byte ?_) | (refine ar_i64 (by omega) (by omega) ?_) | (refine ar_low ?_) | (refine ix_byteN (by omega) ?_) | (refine ix_byteK (by simp only [Int.reduceToNat]; exact rfl) (by decide) (by omega) ?_) | (refine ix_byte (by omega) (by omega) ?_) | (refine ix_rfl (by decide) rfl ?_) | (refine sd_mk rfl ?_) | (refine sd_mk (by decide +kernel) ?_) | (refine sd_mk (by first | (simp only [List.length_map, List.length_append, List.length_cons, List.length_nil]; done) | ((try simp only [List.length_map, List.length_append, List.length_cons, List.length_nil, List.length_set, List.length_replicate, List.length_drop, List.length_take, true_and, and_true]); omega) | (dsimp only; omega)) ?_) | (first | refine shl8 (by omega) (by omega) ?_ | refine shl4 (by omega) (by omega) ?_ | refine shl1 (by omega) (by omega) ?_ | refine shl16 (by omega) (by omega) ?_ | refine shl24 (by omega) (by omega) ?_ | refine shr8 (by decide) ?_ | refine shr4 (by decide) ?_ | refine shr1 (by decide) ?_ | refine shr16 (by decide) ?_ | refine shr24 (by decide) ?_) | (with_reducible first | refine bit_mk and_1 ?_ | refine bit_mk and_15 ?_ | refine bit_mk and_255 ?_ | refine bit_mk and_4095 ?_ | refine bit_mk and_65535 ?_) | (refine quo_pos (by omega) (by omega) (by omega) ?_) | (refine rem_pos (by omega) (by omega) ?_)))
    refine loop_end (k + 1) (by omega) (by omega) ?_
    (repeat' (first | (refine VS.mk ?_) | exact trivial | exact rfl | refine And.intro ?_ ?_))
    simp [getN, hb]
  · refine loop_end (k + 1) (by omega) (by omega) ?_
    have hb : byteAt b (at_ + k) = 0 := by unfold byteAt; rw [if_neg (by omega)]
    (repeat' (first | (refine VS.mk ?_) | exact trivial | exact rfl | refine And.intro ?_ ?_))
    simp [getN, hb]
  · refine loop_end (k + 1) (by omega) (by omega) ?_
    have hb : byteAt b (at_ + k) = 0 := by unfold byteAt; rw [if_neg (by omega)]
    (repeat' (first | (refine VS.mk ?_) | exact trivial | exact rfl | refine And.intro ?_ ?_))
    simp [getN, hb]
  · obtain rfl : k = size := by omega
    refine end_mk ?_
    (repeat' (first | (refine VS.mk ?_) | exact trivial | exact rfl | refine And.intro ?_ ?_))
def setAt (l : List UInt8) (i : Int) (c : UInt8) : List UInt8 := if 0 ≤ i ∧ i < l.length then l.set i.toNat c else l
def putN (l : List UInt8) (at_ : Int) : Nat → Int → List UInt8
  | 0, _ => l
  | k + 1, n => putN (setAt l (at_ + k) (lowByte n)) at_ k (n / 256)

theorem setAt_len (l : List UInt8) (i : Int) (c : UInt8) : (setAt l i c).length = l.length := by unfold setAt; split <;> simp
theorem putN_len (at_ : Int) : ∀ (k : Nat) (l : List UInt8) (n : Int), (putN l at_ k n).length = l.length
  | 0, l, n => rfl
  | k + 1, l, n => by rw [putN, putN_len, setAt_len]

theorem put_meets : Meets Try.prog n_isa_Put (SpecF (fun ((b, at_, size, n) : List UInt8 × Int × Nat × Int) => -1000000000000 ≤ at_ ∧ at_ ≤ 1000000000000 ∧ size ≤ 1000000000000 ∧ b.length ≤ 1000000000)
    (fun (b, at_, size, n) => [bytesD b, .int .i64 at_, .int .i64 size, .int .i64 n]) (fun _ => []) (fun (b, at_, size, n) => .sl 1 ((putN b at_ size n).map byteD) (some 0)) fun (b, _) => [.spare b.length]) := by
  refine meets_f tabOk Try.func22 rfl (by decide) ?_
  rintro ⟨b, at_, size, n⟩ ⟨h1, h2, h4, h5⟩
  refine ⟨by simp, by simp [Try.f22], fun E hE => ?_⟩
  refine vcOk _ ?_
  (repeat' (first | (refine VS.mk ?_) | (refine dr_mk ?_) | (refine md_r ?_) | ((first | refine sp_not_dec ?_ ?_ | refine sp_dec ?_ ?_ | refine sp_beq ?_ ?_ | refine sp_bne ?_ ?_ | refine sp_seq ?_ ?_ | refine sp_sne ?_ ?_ | refine sp_not ?_ ?_ | refine sp_any ?_ ?_) <;> (intro hc; try simp only [List.length_map, List.length_append, List.length_cons, List.length_nil, Bool.and_true, Bool.and_eq_true, beq_iff_eq, Bool.and_eq_false_iff, beq_eq_false_iff_ne, Bool.true_and, ne_eq] at hc)) | (with_reducible first | refine norm_one ?_ | refine norm_app ?_ | refine norm_cutEnd ?_ | refine norm_cut ?_ | refine norm_bytes1 ?_ | refine norm_bytes2 ?_ | refine norm_setByte ?_ | refine norm_int1 ?_ | refine norm_mk ?_) | (with_reducible refine bytes_mk ?_) | (refine ar_byte ?_) | (refine ar_i64 (by omega) (by omega) ?_) | (refine ar_low ?_) | (refine ix_byteN (by omega) ?_) | (refine ix_byteK (by simp only [Int.reduceToNat]; exact rfl) (by decide) (by omega) ?_) | (refine ix_byte (by omega) (by omega) ?_) | (refine ix_rfl (by decide) rfl ?_) | (refine sd_mk rfl ?_) | (refine sd_mk (by decide +kernel) ?_) | (refine sd_mk (by first | (simp only [List.length_map, List.length_append, List.length_cons, List.length_nil]; done) | ((try simp only [List.length_map, List.length_append, List.length_cons, List.length_nil, List.length_set, List.length_replicate, List.length_drop, List.length_take, true_and, and_true]); omega) | (dsimp only; omega)) ?_) | (first | refine shl8 (by omega) (by omega) ?_ | refine shl4 (by omega) (by omega) ?_ | refine shl1 (by omega) (by omega) ?_ | refine shl16 (by omega) (by omega) ?_ | refine shl24 (by omega) (by omega) ?_ | refine shr8 (by decide) ?_ | refine shr4 (by decide) ?_ | refine shr1 (by decide) ?_ | refine shr16 (by decide) ?_ | refine shr24 (by decide) ?_) | (with_reducible first | refine bit_mk and_1 ?_ | refine bit_mk and_15 ?_ | refine bit_mk and_255 ?_ | refine bit_mk and_4095 ?_ | refine bit_mk and_65535 ?_) | (refine quo_pos (by omega) (by omega) (by omega) ?_) | (refine rem_pos (by omega) (by omega) ?_)))
  refine awp_loop (α := Nat × List UInt8 × Int) (fun p => p.1 ≤ size ∧ p.2.1.length = b.length ∧ putN p.2.1 at_ p.1 p.2.2 = putN b at_ size n) (fun p => [(10, .int .i64 ((p.1 : Int) - 1)), (1, .int .i64 at_), (3, .int .i64 p.2.2), (9, .osl 1 0 p.2.1.length 0 p.2.1.length)]) (fun p => [.arr 1 (p.2.1.map byteD)]) (fun p => p.1) (fun _ => by simp [hE]) (size, b, n) ⟨Nat.le_refl _, rfl, rfl⟩ ?_ ?_
  · (repeat' (first | (refine VS.mk ?_) | exact trivial | exact rfl | refine And.intro ?_ ?_))
    · refine rens_bytes b rfl ?_
      (repeat' (first | (refine VS.mk ?_) | exact trivial | exact rfl | refine And.intro ?_ ?_))
  rintro ⟨k, l, m⟩ ⟨hk, hl, hp⟩
  generalize hj : ((k : Int) - 1) = j at *
  dsimp only at hk hl hp ⊢
  refine vcOk _ ?_
  have hm8 : (0 : Int) < 256 := by decide
  have hn : 0 ≤ j → putN (setAt l (at_ + j) (lowByte m)) at_ (k - 1) (m / 256) = putN b at_ size n := fun h => by
    rw [← hp]
    obtain ⟨k', rfl⟩ : ∃ k', k = k' + 1 := ⟨k - 1, by omega⟩
    obtain rfl : j = k' := by omega
    rfl
  have hset : ∀ x, (setAt l x (lowByte m)).length = b.length := fun x => by rw [setAt_len]; exact hl
  (repeat' (first | (refine VS.mk ?_) | (refine dr_mk ?_) | (refine md_l ?_) | ((first | refine sp_not_dec ?_ ?_ | refine sp_dec ?_ ?_ | refine sp_beq ?_ ?_ | refine sp_bne ?_ ?_ | refine sp_seq ?_ ?_ | refine sp_sne ?_ ?_ | refine sp_not ?_ ?_ | refine sp_any ?_ ?_) <;> (intro hc; try simp only [List.length_map, List.length_append, List.length_cons, List.length_nil, Bool.and_true, Bool.and_eq_true, beq_iff_eq, Bool.and_eq_false_iff, beq_eq_false_iff_ne, Bool.true_and, ne_eq] at hc)) | (with_reducible first | refine norm_one ?_ | refine norm_app ?_ | refine norm_cutEnd ?_ | refine norm_cut ?_ | refine norm_bytes1 ?_ | refine norm_bytes2 ?_ | refine norm_setByte ?_ | refine norm_int1 ?_ | refine norm_mk ?_) | (with_reducible refine bytes_mk ?_) | (refine ar_byte ?_) | (refine ar_i64 (by omega) (by omega) ?_) | (refine ar_low ?_) | (refine ix_byteN (by omega) ?_) | (refine ix_byteK (by simp only [Int.reduceToNat]; exact rfl) (by decide) (by omega) ?_) | (refine ix_byte (by omega) (by omega) ?_) | (refine ix_rfl (by decide) rfl ?_) | (refine sd_mk rfl ?_) | (refine sd_mk (by decide +kernel) ?_) | (refine sd_mk (by first | (simp only [List.length_map, List.length_append, List.length_cons, List.length_nil]; done) | ((try simp only [List.length_map, List.length_append, List.length_cons, List.length_nil, List.length_set, List.length_replicate, List.length_drop, List.length_take, true_and, and_true]); omega) | (dsimp only; omega)) ?_) | (first | refine shl8 (by omega) (by omega) ?_ | refine shl4 (by omega) (by omega) ?_ | refine shl1 (by omega) (by omega) ?_ | refine shl16 (by omega) (by omega) ?_ | refine shl24 (by omega) (by omega) ?_ | refine shr8 (by decide) ?_ | refine shr4 (by decide) ?_ | refine shr1 (by decide) ?_ | refine shr16 (by decide) ?_ | refine shr24 (by decide) ?_) | (with_reducible first | refine bit_mk and_1 ?_ | refine bit_mk and_15 ?_ | refine bit_mk and_255 ?_ | refine bit_mk and_4095 ?_ | refine bit_mk and_65535 ?_) | (refine quo_pos (by omega) (by omega) (by omega) ?_) | (refine rem_pos (by omega) (by omega) ?_)))
  · have hs : setAt l (at_ + j) (lowByte m) = l.set (at_ + j).toNat (lowByte m) := by unfold setAt; rw [if_pos ⟨by omega, by omega⟩]
    refine loop_end (k - 1, setAt l (at_ + j) (lowByte m), m / 256) ⟨by (dsimp only; omega), hset _, hn (by assumption)⟩ (by dsimp only; omega) ?_
    (repeat' (first | (refine VS.mk ?_) | exact trivial | exact rfl | refine And.intro ?_ ?_))
    · refine rens_bytes (setAt l (at_ + j) (lowByte m)) ?_ ?_
      · rw [hs, List.map_set]; simp [byteD]
      · (repeat' (first | (refine VS.mk ?_) | exact trivial | exact rfl | refine And.intro ?_ ?_))
    (all_goals (first | rfl | (dsimp only; congr 1; omega) | (dsimp only; simp; done) | (dsimp only; simp; omega) | skip))
    all_goals (dsimp only; rw [hset, hl])
  · have hs : setAt l (at_ + j) (lowByte m) = l := by unfold setAt; rw [if_neg (by omega)]
    refine loop_end (k - 1, setAt l (at_ + j) (lowByte m), m / 256) ⟨by (dsimp only; omega), hset _, hn (by assumption)⟩ (by dsimp only; omega) ?_
    (repeat' (first | (refine VS.mk ?_) | exact trivial | exact rfl | refine And.intro ?_ ?_))
    · refine rens_bytes (setAt l (at_ + j) (lowByte m)) (by rw [hs]) ?_
      (repeat' (first | (refine VS.mk ?_) | exact trivial | exact rfl | refine And.intro ?_ ?_))
    (all_goals (first | rfl | (dsimp only; congr 1; omega) | (dsimp only; simp; done) | (dsimp only; simp; omega) | skip))
    all_goals (dsimp only; rw [hset, hl])
  · have hs : setAt l (at_ + j) (lowByte m) = l := by unfold setAt; rw [if_neg (by omega)]
    refine loop_end (k - 1, setAt l (at_ + j) (lowByte m), m / 256) ⟨by (dsimp only; omega), hset _, hn (by assumption)⟩ (by dsimp only; omega) ?_
    (repeat' (first | (refine VS.mk ?_) | exact trivial | exact rfl | refine And.intro ?_ ?_))
    · refine rens_bytes (setAt l (at_ + j) (lowByte m)) (by rw [hs]) ?_
      (repeat' (first | (refine VS.mk ?_) | exact trivial | exact rfl | refine And.intro ?_ ?_))
    (all_goals (first | rfl | (dsimp only; congr 1; omega) | (dsimp only; simp; done) | (dsimp only; simp; omega) | skip))
    all_goals (dsimp only; rw [hset, hl])
  · obtain rfl : k = 0 := by omega
    have hp : l = putN b at_ size n := hp
    refine end_freeze_bytes (k := 0) l rfl rfl (Nat.le_refl _) (Nat.zero_le _) (r1 := .sl 1 (l.map byteD) (some 1)) (.here _ _ (by simp) (by simp)) ?_
    refine end_keep [1] rfl rfl ?_
    (repeat' (first | (refine VS.mk ?_) | exact trivial | exact rfl | refine And.intro ?_ ?_))
    · rw [hp]
    · rw [hl]
end Go.Proofs.Ytmeigmpjpkinoaa

namespace Go.Proofs.Ytmeigmpjpkinoaa
open Go Go.Plat
set_option linter.unusedVariables false
set_option linter.unusedSimpArgs false
set_option maxRecDepth 100000
set_option maxHeartbeats 2000000
attribute [local irreducible] NilS LookS NormM bitI BytesS NormL Arith QuoS RemS ShlS ShrS BitS CatS SplitS SideS IdxS CallS LoopEnd EndS ModeS DrawS AWP Meets

theorem get2_meets : Meets Try.prog n_plref1_Get (SpecP (fun ((b, at_, size) : List UInt8 × Int × Nat) => -1000000000000 ≤ at_ ∧ at_ ≤ 1000000000000 ∧ size ≤ 4) (fun (b, at_, size) => [bytesD b, .int .i64 at_, .int .i64 size])
    fun (b, at_, size) => .int .i64 (getN b at_ size)) := by
  refine meets_f tabOk Try.func48 rfl (by decide) ?_
  rintro ⟨b, at_, size⟩ ⟨h1, h2, h4⟩
  refine ⟨Nat.le_refl _, by simp [Try.f48], fun E hE => ?_⟩
  refine vcOk _ ?_
  (repeat' (first | (refine VS.mk ?_) | (refine dr_mk ?_) | (refine md_l ?_) | ((first | refine sp_not_dec ?_ ?_ | refine sp_dec ?_ ?_ | refine sp_beq ?_ ?_ | refine sp_bne ?_ ?_ | refine sp_seq ?_ ?_ | refine sp_sne ?_ ?_ | refine sp_not ?_ ?_ | refine sp_any ?_ ?_) <;> (intro hc; try simp only [List.length_map, List.length_append, List.length_cons, List.length_nil, Bool.and_true, Bool.and_eq_true, beq_iff_eq, Bool.and_eq_false_iff, beq_eq_false_iff_ne, Bool.true_and, ne_eq] at hc)) | (with_reducible first | refine norm_one ?_ | refine norm_app ?_ | refine norm_cutEnd ?_ | refine norm_cut ?_ | refine norm_bytes1 ?_ | refine norm_bytes2 ?_ | refine norm_setByte ?_ | refine norm_int1 ?_ | refine norm_mk ?_) | (with_reducible refine bytes_mk ?_) | (refine ar_byte ?_) | (refine ar_i64 (by omega) (by omega) ?_) | (refine ar_low ?_) | (refine ix_byteN (by omega) ?_) | (refine ix_byteK (by simp only [Int.reduceToNat]; exact rfl) (by decide) (by omega) ?_) | (refine ix_byte (by omega) (by omega) ?_) | (refine ix_rfl (by decide) rfl ?_) | (refine sd_mk rfl ?_) | (refine sd_mk (by decide +kernel) ?_) | (refine sd_mk (by first | (simp only [List.length_map, List.length_append, List.length_cons, List.length_nil]; done) | ((try simp only [List.length_map, List.length_append, List.length_cons, List.length_nil, List.length_set, List.length_replicate, List.length_drop, List.length_take, true_and, and_true]); omega) | (dsimp only; omega)) ?_) | (first | refine shl8 (by omega) (by omega) ?_ | refine shl4 (by omega) (by omega) ?_ | refine shl1 (by omega) (by omega) ?_ | refine shl16 (by omega) (by omega) ?_ | refine shl24 (by omega) (by omega) ?_ | refine shr8 (by decide) ?_ | refine shr4 (by decide) ?_ | refine shr1 (by decide) ?_ | refine shr16 (by decide) ?_ | refine shr24 (by decide) ?_) | (with_reducible first | refine bit_mk and_1 ?_ | refine bit_mk and_15 ?_ | refine bit_mk and_255 ?_ | refine bit_mk and_4095 ?_ | refine bit_mk and_65535 ?_) | (refine quo_pos (by omega) (by omega) (by omega) ?_) | (refine rem_pos (by omega) (by omega) ?_)))
  refine awp_loop (α := Nat) (fun k => k ≤ size) (fun k => [(10, .int .i64 k), (9, .int .i64 size), (7, .int .i64 (getN b at_ k)), (0, bytesD b), (1, .int .i64 at_)]) (fun _ => []) (fun k => size - k) (fun _ => by simp [hE]) 0 (Nat.zero_le _) ?_ ?_
  · (repeat' (first | (refine VS.mk ?_) | exact trivial | exact rfl | refine And.intro ?_ ?_))
  intro k hk
  have g0 := getN_nn b at_ k
  have g1 := getN_bd b at_ k (by omega)
  refine vcOk _ ?_
  (repeat' (first | (refine VS.mk ?_) | (refine dr_mk ?_) | (refine md_l ?_) | ((first | refine sp_not_dec ?_ ?_ | refine sp_dec ?_ ?_ | refine sp_beq ?_ ?_ | refine sp_bne ?_ ?_ | refine sp_seq ?_ ?_ | refine sp_sne ?_ ?_ | refine sp_not ?_ ?_ | refine sp_any ?_ ?_) <;> (intro hc; try simp only [List.length_map, List.length_append, List.length_cons, List.length_nil, Bool.and_true, Bool.and_eq_true, beq_iff_eq, Bool.and_eq_false_iff, beq_eq_false_iff_ne, Bool.true_and, ne_eq] at hc)) | (with_reducible first | refine norm_one ?_ | refine norm_app ?_ | refine norm_cutEnd ?_ | refine norm_cut ?_ | refine norm_bytes1 ?_ | refine norm_bytes2 ?_ | refine norm_setByte ?_ | refine norm_int1 ?_ | refine norm_mk ?_) | (with_reducible refine bytes_mk ?_) | (refine ar_byte ?_) | (refine ar_i64 (by omega) (by omega) ?_) | (refine ar_low ?_) | (refine ix_byteN (by omega) ?_) | (refine ix_byteK (by simp only [Int.reduceToNat]; exact rfl) (by decide) (by omega) ?_) | (refine ix_byte (by omega) (by omega) ?_) | (refine ix_rfl (by decide) rfl ?_) | (refine sd_mk rfl ?_) | (refine sd_mk (by decide +kernel) ?_) | (refine sd_mk (by first | (simp only [List.length_map, List.length_append, List.length_cons, List.length_nil]; done) | ((try simp only [List.length_map, List.length_append, List.length_cons, List.length_nil, List.length_set, List.length_replicate, List.length_drop, List.length_take, true_and, and_true]); omega) | (dsimp only; omega)) ?_) | (first | refine shl8 (by omega) (by omega) ?_ | refine shl4 (by omega) (by omega) ?_ | refine shl1 (by omega) (by omega) ?_ | refine shl16 (by omega) (by omega) ?_ | refine shl24 (by omega) (by omega) ?_ | refine shr8 (by decide) ?_ | refine shr4 (by decide) ?_ | refine shr1 (by decide) ?_ | refine shr16 (by decide) ?_ | refine shr24 (by decide) ?_) | (with_reducible first | refine bit_mk and_1 ?_ | refine bit_mk and_15 ?_ | refine bit_mk and_255 ?_ | refine bit_mk and_4095 ?_ | refine bit_mk and_65535 ?_) | (refine quo_pos (by omega) (by omega) (by omega) ?_) | (refine rem_pos (by omega) (by omega) ?_)))
  · have hb : byteAt b (at_ + k) = ((b.getD (at_ + (k : Int)).toNat 0).toNat : Int) := by unfold byteAt; rw [if_pos ⟨by omega, by omega⟩]
    have hc := u8_lt (b.getD (at_ + (k : Int)).toNat 0)
    (repeat' (first | (refine VS.mk ?_) | (refine dr_mk ?_) | (refine md_l ?_) | ((first | refine sp_not_dec ?_ ?_ | refine sp_dec ?_ ?_ | refine sp_beq ?_ ?_ | refine sp_bne ?_ ?_ | refine sp_seq ?_ ?_ | refine sp_sne ?_ ?_ | refine sp_not ?_ ?_ | refine sp_any ?_ ?_) <;> (intro hc; try simp only [List.length_map, List.length_append, List.length_cons, List.length_nil, Bool.and_true, Bool.and_eq_true, beq_iff_eq, Bool.and_eq_false_iff, beq_eq_false_iff_ne, Bool.true_and, ne_eq] at hc)) | (with_reducible first | refine norm_one ?_ | refine norm_app ?_ | refine norm_cutEnd ?_ | refine norm_cut ?_ | refine norm_bytes1 ?_ | refine norm_bytes2 ?_ | refine norm_setByte ?_ | refine norm_int1 ?_ | refine norm_mk ?_) | (with_reducible refine bytes_mk ?_) | (refine ar_byte ?_) | (refine ar_i64 (by omega) (by omega) ?_) | (refine ar_low ?_) | (refine ix_byteN (by omega) ?_) | (refine ix_byteK (by simp only [Int.reduceToNat]; exact rfl) (by decide) (by omega) ?_) | (refine ix_byte (by omega) (by omega) ?_) | (refine ix_rfl (by decide) rfl ?_) | (refine sd_mk rfl ?_) | (refine sd_mk (by decide +kernel) ?_) | (refine sd_mk (by first | (simp only [List.length_map, List.length_append, List.length_cons, List.length_nil]; done) | ((try simp only [List.length_map, List.length_append, List.length_cons, List.length_nil, List.length_set, List.length_replicate, List.length_drop, List.length_take, true_and, and_true]); omega) | (dsimp only; omega)) ?_) | (first | refine shl8 (by omega) (by omega) ?_ | refine shl4 (by omega) (by omega) ?_ | refine shl1 (by omega) (by omega) ?_ | refine shl16 (by omega) (by omega) ?_ | refine shl24 (by omega) (by omega) ?_ | refine shr8 (by decide) ?_ | refine shr4 (by decide) ?_ | refine shr1 (by decide) ?_ | refine shr16 (by decide) ?_ | refine shr24 (by decide) ?_) | (with_reducible first | refine bit_mk and_1 ?_ | refine bit_mk and_15 ?_ | refine bit_mk and_255 ?_ | refine bit_mk and_4095 ?_ | refine bit_mk and_65535 ?_) | (refine quo_pos (by omega) (by omega) (by omega) ?_) | (refine rem_pos (by omega) (by omega) ?_)))
    refine loop_end (k + 1) (by omega) (by omega) ?_
    (repeat' (first | (refine VS.mk ?_) | exact trivial | exact rfl | refine And.intro ?_ ?_))
    simp [getN, hb]
  · refine loop_end (k + 1) (by omega) (by omega) ?_
    have hb : byteAt b (at_ + k) = 0 := by unfold byteAt; rw [if_neg (by omega)]
    (repeat' (first | (refine VS.mk ?_) | exact trivial | exact rfl | refine And.intro ?_ ?_))
    simp [getN, hb]
  · refine loop_end (k + 1) (by omega) (by omega) ?_
    have hb : byteAt b (at_ + k) = 0 := by unfold byteAt; rw [if_neg (by omega)]
    (repeat' (first | (refine VS.mk ?_) | exact trivial | exact rfl | refine And.intro ?_ ?_))
    simp [getN, hb]
  · obtain rfl : k = size := by omega
    refine end_mk ?_
    (repeat' (first | (refine VS.mk ?_) | exact trivial | exact rfl | refine And.intro ?_ ?_))

theorem shr_bytes {n : Int} {k : Nat} (hk : k ≤ 7) {K : D → Prop} (h : K (.int .i64 (n / 256 ^ k))) : ShrS .i64 n (8 * (k : Int)) K := by
  refine shr_lit (s := 8 * k) (m := 256 ^ k) (by simp) (by show 8 * k ≤ 64; omega) ?_ h
  rw [Int.pow_mul]
  rfl

theorem put2_meets : Meets Try.prog n_plref1_Put (SpecF (fun ((b, at_, size, n) : List UInt8 × Int × Nat × Int) => -1000000000000 ≤ at_ ∧ at_ ≤ 1000000000000 ∧ size ≤ 4 ∧ b.length ≤ 1000000000)
    (fun (b, at_, size, n) => [bytesD b, .int .i64 at_, .int .i64 size, .int .i64 n]) (fun _ => []) (fun (b, at_, size, n) => .sl 1 ((putN b at_ size n).map byteD) (some 0)) fun (b, _) => [.spare b.length]) := by
  refine meets_f tabOk Try.func26 rfl (by decide) ?_
  rintro ⟨b, at_, size, n⟩ ⟨h1, h2, h4, h5⟩
  refine ⟨by simp, by simp [Try.f26], fun E hE => ?_⟩
  have h5 : b.length ≤ 1000000000 := h5
  refine vcOk _ ?_
  (repeat' (first | (refine VS.mk ?_) | (refine dr_mk ?_) | ((first | refine sp_not_dec ?_ ?_ | refine sp_dec ?_ ?_ | refine sp_beq ?_ ?_ | refine sp_bne ?_ ?_ | refine sp_seq ?_ ?_ | refine sp_sne ?_ ?_ | refine sp_not ?_ ?_ | refine sp_any ?_ ?_) <;> (intro hc; try simp only [List.length_map, List.length_append, List.length_cons, List.length_nil, Bool.and_true, Bool.and_eq_true, beq_iff_eq, Bool.and_eq_false_iff, beq_eq_false_iff_ne, Bool.true_and, ne_eq] at hc)) | (with_reducible first | refine norm_one ?_ | refine norm_app ?_ | refine norm_cutEnd ?_ | refine norm_cut ?_ | refine norm_bytes1 ?_ | refine norm_bytes2 ?_ | refine norm_setByte ?_ | refine norm_int1 ?_ | refine norm_mk ?_) | (with_reducible refine bytes_mk ?_) | (refine ar_byte ?_) | (refine ar_i64 (by omega) (by omega) ?_) | (refine ar_low ?_) | (refine ix_byteN (by omega) ?_) | (refine ix_byteK (by simp only [Int.reduceToNat]; exact rfl) (by decide) (by omega) ?_) | (refine ix_byte (by omega) (by omega) ?_) | (refine ix_rfl (by decide) rfl ?_) | (refine sd_mk rfl ?_) | (refine sd_mk (by decide +kernel) ?_) | (refine sd_mk (by first | (simp only [List.length_map, List.length_append, List.length_cons, List.length_nil]; done) | ((try simp only [List.length_map, List.length_append, List.length_cons, List.length_nil, List.length_set, List.length_replicate, List.length_drop, List.length_take, true_and, and_true]); omega) | (dsimp only; omega)) ?_) | (first | refine shl8 (by omega) (by omega) ?_ | refine shl4 (by omega) (by omega) ?_ | refine shl1 (by omega) (by omega) ?_ | refine shl16 (by omega) (by omega) ?_ | refine shl24 (by omega) (by omega) ?_ | refine shr8 (by decide) ?_ | refine shr4 (by decide) ?_ | refine shr1 (by decide) ?_ | refine shr16 (by decide) ?_ | refine shr24 (by decide) ?_) | (with_reducible first | refine bit_mk and_1 ?_ | refine bit_mk and_15 ?_ | refine bit_mk and_255 ?_ | refine bit_mk and_4095 ?_ | refine bit_mk and_65535 ?_) | (refine quo_pos (by omega) (by omega) (by omega) ?_) | (refine rem_pos (by omega) (by omega) ?_)))
  refine md_l ?_
  refine VS.mk ?_
  refine md_l ?_
  (repeat' (first | (refine VS.mk ?_) | (refine dr_mk ?_) | (refine md_r ?_) | ((first | refine sp_not_dec ?_ ?_ | refine sp_dec ?_ ?_ | refine sp_beq ?_ ?_ | refine sp_bne ?_ ?_ | refine sp_seq ?_ ?_ | refine sp_sne ?_ ?_ | refine sp_not ?_ ?_ | refine sp_any ?_ ?_) <;> (intro hc; try simp only [List.length_map, List.length_append, List.length_cons, List.length_nil, Bool.and_true, Bool.and_eq_true, beq_iff_eq, Bool.and_eq_false_iff, beq_eq_false_iff_ne, Bool.true_and, ne_eq] at hc)) | (with_reducible first | refine norm_one ?_ | refine norm_app ?_ | refine norm_cutEnd ?_ | refine norm_cut ?_ | refine norm_bytes1 ?_ | refine norm_bytes2 ?_ | refine norm_setByte ?_ | refine norm_int1 ?_ | refine norm_mk ?_) | (with_reducible refine bytes_mk ?_) | (refine ar_byte ?_) | (refine ar_i64 (by omega) (by omega) ?_) | (refine ar_low ?_) | (refine ix_byteN (by omega) ?_) | (refine ix_byteK (by simp only [Int.reduceToNat]; exact rfl) (by decide) (by omega) ?_) | (refine ix_byte (by omega) (by omega) ?_) | (refine ix_rfl (by decide) rfl ?_) | (refine sd_mk rfl ?_) | (refine sd_mk (by decide +kernel) ?_) | (refine sd_mk (by first | (simp only [List.length_map, List.length_append, List.length_cons, List.length_nil]; done) | ((try simp only [List.length_map, List.length_append, List.length_cons, List.length_nil, List.length_set, List.length_replicate, List.length_drop, List.length_take, true_and, and_true]); omega) | (dsimp only; omega)) ?_) | (first | refine shl8 (by omega) (by omega) ?_ | refine shl4 (by omega) (by omega) ?_ | refine shl1 (by omega) (by omega) ?_ | refine shl16 (by omega) (by omega) ?_ | refine shl24 (by omega) (by omega) ?_ | refine shr8 (by decide) ?_ | refine shr4 (by decide) ?_ | refine shr1 (by decide) ?_ | refine shr16 (by decide) ?_ | refine shr24 (by decide) ?_) | (with_reducible first | refine bit_mk and_1 ?_ | refine bit_mk and_15 ?_ | refine bit_mk and_255 ?_ | refine bit_mk and_4095 ?_ | refine bit_mk and_65535 ?_) | (refine quo_pos (by omega) (by omega) (by omega) ?_) | (refine rem_pos (by omega) (by omega) ?_)))
  refine awp_loop (α := Nat × List UInt8) (fun p => p.1 ≤ size ∧ p.2.length = b.length ∧ putN p.2 at_ (size - p.1) (n / 256 ^ p.1) = putN b at_ size n) (fun p => [(16, .int .i64 (p.1 : Int)), (15, .int .i64 size), (1, .int .i64 at_), (2, .int .i64 size), (3, .int .i64 n), (9, .osl 1 0 p.2.length 0 p.2.length)]) (fun p => [.arr 1 (p.2.map byteD)]) (fun p => size - p.1) (fun _ => by simp [hE]) (0, b) ⟨Nat.zero_le _, rfl, by simp⟩ ?_ ?_
  · (repeat' (first | (refine VS.mk ?_) | exact trivial | exact rfl | refine And.intro ?_ ?_))
    · refine rens_bytes b rfl ?_
      (repeat' (first | (refine VS.mk ?_) | exact trivial | exact rfl | refine And.intro ?_ ?_))
  rintro ⟨k, l⟩ ⟨hk, hl, hp⟩
  dsimp only at hk hl hp ⊢
  have hn : k < size → putN (setAt l (at_ + size - 1 - k) (lowByte (n / 256 ^ k))) at_ (size - (k + 1)) (n / 256 ^ (k + 1)) = putN b at_ size n := fun h => by
    rw [← hp]
    obtain ⟨q, hq⟩ : ∃ q, size - k = q + 1 := ⟨size - k - 1, by omega⟩
    rw [hq, show size - (k + 1) = q by omega, show at_ + (size : Int) - 1 - k = at_ + (q : Int) by omega, putN]
    congr 1
    rw [Int.pow_succ, Int.ediv_ediv_of_nonneg (Int.pow_nonneg (by decide))]
  have hset : ∀ x, (setAt l x (lowByte (n / 256 ^ k))).length = b.length := fun x => by rw [setAt_len]; exact hl
  refine vcOk _ ?_
  (repeat' (first | (refine VS.mk ?_) | (refine dr_mk ?_) | (refine md_l ?_) | ((first | refine sp_not_dec ?_ ?_ | refine sp_dec ?_ ?_ | refine sp_beq ?_ ?_ | refine sp_bne ?_ ?_ | refine sp_seq ?_ ?_ | refine sp_sne ?_ ?_ | refine sp_not ?_ ?_ | refine sp_any ?_ ?_) <;> (intro hc; try simp only [List.length_map, List.length_append, List.length_cons, List.length_nil, Bool.and_true, Bool.and_eq_true, beq_iff_eq, Bool.and_eq_false_iff, beq_eq_false_iff_ne, Bool.true_and, ne_eq] at hc)) | (with_reducible first | refine norm_one ?_ | refine norm_app ?_ | refine norm_cutEnd ?_ | refine norm_cut ?_ | refine norm_bytes1 ?_ | refine norm_bytes2 ?_ | refine norm_setByte ?_ | refine norm_int1 ?_ | refine norm_mk ?_) | (with_reducible refine bytes_mk ?_) | (refine ar_byte ?_) | (refine ar_i64 (by omega) (by omega) ?_) | (refine ar_low ?_) | (refine ix_byteN (by omega) ?_) | (refine ix_byteK (by simp only [Int.reduceToNat]; exact rfl) (by decide) (by omega) ?_) | (refine ix_byte (by omega) (by omega) ?_) | (refine ix_rfl (by decide) rfl ?_) | (refine sd_mk rfl ?_) | (refine sd_mk (by decide +kernel) ?_) | (refine sd_mk (by first | (simp only [List.length_map, List.length_append, List.length_cons, List.length_nil]; done) | ((try simp only [List.length_map, List.length_append, List.length_cons, List.length_nil, List.length_set, List.length_replicate, List.length_drop, List.length_take, true_and, and_true]); omega) | (dsimp only; omega)) ?_) | (first | refine shl8 (by omega) (by omega) ?_ | refine shl4 (by omega) (by omega) ?_ | refine shl1 (by omega) (by omega) ?_ | refine shl16 (by omega) (by omega) ?_ | refine shl24 (by omega) (by omega) ?_ | refine shr8 (by decide) ?_ | refine shr4 (by decide) ?_ | refine shr1 (by decide) ?_ | refine shr16 (by decide) ?_ | refine shr24 (by decide) ?_) | (with_reducible first | refine bit_mk and_1 ?_ | refine bit_mk and_15 ?_ | refine bit_mk and_255 ?_ | refine bit_mk and_4095 ?_ | refine bit_mk and_65535 ?_) | (refine quo_pos (by omega) (by omega) (by omega) ?_) | (refine rem_pos (by omega) (by omega) ?_)))
  · refine shr_bytes (by omega) ?_
    (repeat' (first | (refine VS.mk ?_) | (refine dr_mk ?_) | (refine md_l ?_) | ((first | refine sp_not_dec ?_ ?_ | refine sp_dec ?_ ?_ | refine sp_beq ?_ ?_ | refine sp_bne ?_ ?_ | refine sp_seq ?_ ?_ | refine sp_sne ?_ ?_ | refine sp_not ?_ ?_ | refine sp_any ?_ ?_) <;> (intro hc; try simp only [List.length_map, List.length_append, List.length_cons, List.length_nil, Bool.and_true, Bool.and_eq_true, beq_iff_eq, Bool.and_eq_false_iff, beq_eq_false_iff_ne, Bool.true_and, ne_eq] at hc)) | (with_reducible first | refine norm_one ?_ | refine norm_app ?_ | refine norm_cutEnd ?_ | refine norm_cut ?_ | refine norm_bytes1 ?_ | refine norm_bytes2 ?_ | refine norm_setByte ?_ | refine norm_int1 ?_ | refine norm_mk ?_) | (with_reducible refine bytes_mk ?_) | (refine ar_byte ?_) | (refine ar_i64 (by omega) (by omega) ?_) | (refine ar_low ?_) | (refine ix_byteN (by omega) ?_) | (refine ix_byteK (by simp only [Int.reduceToNat]; exact rfl) (by decide) (by omega) ?_) | (refine ix_byte (by omega) (by omega) ?_) | (refine ix_rfl (by decide) rfl ?_) | (refine sd_mk rfl ?_) | (refine sd_mk (by decide +kernel) ?_) | (refine sd_mk (by first | (simp only [List.length_map, List.length_append, List.length_cons, List.length_nil]; done) | ((try simp only [List.length_map, List.length_append, List.length_cons, List.length_nil, List.length_set, List.length_replicate, List.length_drop, List.length_take, true_and, and_true]); omega) | (dsimp only; omega)) ?_) | (first | refine shl8 (by omega) (by omega) ?_ | refine shl4 (by omega) (by omega) ?_ | refine shl1 (by omega) (by omega) ?_ | refine shl16 (by omega) (by omega) ?_ | refine shl24 (by omega) (by omega) ?_ | refine shr8 (by decide) ?_ | refine shr4 (by decide) ?_ | refine shr1 (by decide) ?_ | refine shr16 (by decide) ?_ | refine shr24 (by decide) ?_) | (with_reducible first | refine bit_mk and_1 ?_ | refine bit_mk and_15 ?_ | refine bit_mk and_255 ?_ | refine bit_mk and_4095 ?_ | refine bit_mk and_65535 ?_) | (refine quo_pos (by omega) (by omega) (by omega) ?_) | (refine rem_pos (by omega) (by omega) ?_)))
    have hs : setAt l (at_ + size - 1 - k) (lowByte (n / 256 ^ k)) = l.set (at_ + size - 1 - k).toNat (lowByte (n / 256 ^ k)) := by unfold setAt; rw [if_pos ⟨by omega, by omega⟩]
    refine loop_end (k + 1, setAt l (at_ + size - 1 - k) (lowByte (n / 256 ^ k))) ⟨by (dsimp only; omega), hset _, hn (by omega)⟩ (by dsimp only; omega) ?_
    (repeat' (first | (refine VS.mk ?_) | exact trivial | exact rfl | refine And.intro ?_ ?_))
    · refine rens_bytes (setAt l (at_ + size - 1 - k) (lowByte (n / 256 ^ k))) ?_ ?_
      · rw [hs]; simp
      · (repeat' (first | (refine VS.mk ?_) | exact trivial | exact rfl | refine And.intro ?_ ?_))
    (all_goals (first | rfl | (dsimp only; congr 1; omega) | (dsimp only; simp; done) | (dsimp only; simp; omega) | skip))
    all_goals (dsimp only; rw [hset, hl])
  · have hs : setAt l (at_ + size - 1 - k) (lowByte (n / 256 ^ k)) = l := by unfold setAt; rw [if_neg (by omega)]
    refine loop_end (k + 1, setAt l (at_ + size - 1 - k) (lowByte (n / 256 ^ k))) ⟨by (dsimp only; omega), hset _, hn (by omega)⟩ (by dsimp only; omega) ?_
    (repeat' (first | (refine VS.mk ?_) | exact trivial | exact rfl | refine And.intro ?_ ?_))
    · refine rens_bytes (setAt l (at_ + size - 1 - k) (lowByte (n / 256 ^ k))) (by rw [hs]) ?_
      (repeat' (first | (refine VS.mk ?_) | exact trivial | exact rfl | refine And.intro ?_ ?_))
    (all_goals (first | rfl | (dsimp only; congr 1; omega) | (dsimp only; simp; done) | (dsimp only; simp; omega) | skip))
    all_goals (dsimp only; rw [hset, hl])
  · have hs : setAt l (at_ + size - 1 - k) (lowByte (n / 256 ^ k)) = l := by unfold setAt; rw [if_neg (by omega)]
    refine loop_end (k + 1, setAt l (at_ + size - 1 - k) (lowByte (n / 256 ^ k))) ⟨by (dsimp only; omega), hset _, hn (by omega)⟩ (by dsimp only; omega) ?_
    (repeat' (first | (refine VS.mk ?_) | exact trivial | exact rfl | refine And.intro ?_ ?_))
    · refine rens_bytes (setAt l (at_ + size - 1 - k) (lowByte (n / 256 ^ k))) (by rw [hs]) ?_
      (repeat' (first | (refine VS.mk ?_) | exact trivial | exact rfl | refine And.intro ?_ ?_))
    (all_goals (first | rfl | (dsimp only; congr 1; omega) | (dsimp only; simp; done) | (dsimp only; simp; omega) | skip))
    all_goals (dsimp only; rw [hset, hl])
  · obtain rfl : k = size := by omega
    have hp : l = putN b at_ k n := by rw [← hp, Nat.sub_self]; rfl
    refine end_freeze_bytes (k := 0) l rfl rfl (Nat.le_refl _) (Nat.zero_le _) (r1 := .sl 1 (l.map byteD) (some 1)) (.here _ _ (by simp) (by simp)) ?_
    refine end_keep [1] rfl rfl ?_
    (repeat' (first | (refine VS.mk ?_) | exact trivial | exact rfl | refine And.intro ?_ ?_))
    · rw [hp]
    · rw [hl]

theorem signed_wrap (n : Int) : IntKind.i64.wrap (IntKind.i32.wrap (IntKind.u32.wrap n)) = if n % 4294967296 / 2147483648 = 1 then n % 4294967296 - 4294967296 else n % 4294967296 := by
  have h0 := Int.emod_nonneg n (show (4294967296 : Int) ≠ 0 by decide)
  have h1 := Int.emod_lt_of_pos n (show (0 : Int) < 4294967296 by decide)
  have e1 : IntKind.u32.wrap n = n % 4294967296 := by simp [IntKind.wrap, IntKind.signed, IntKind.bits]
  rw [e1]
  generalize n % 4294967296 = m at *
  have e2 : IntKind.i32.wrap m = if m / 2147483648 = 1 then m - 4294967296 else m := by
    have hm : m % 4294967296 = m := Int.emod_eq_of_lt h0 h1
    simp only [IntKind.wrap, IntKind.signed, IntKind.bits, show (2 : Int) ^ 32 = 4294967296 from rfl, show (2 : Int) ^ (32 - 1) = 2147483648 from rfl, hm, Bool.true_and]
    split <;> split <;> simp_all <;> omega
  rw [e2]
  split
  · exact wrap_i64 (by omega) (by omega)
  · exact wrap_i64 (by omega) (by omega)
theorem ar_wrap {k : IntKind} {n : Int} {K : D → Prop} (h : K (.int k (k.wrap n))) : Arith k n K := by unfold Arith; exact h
theorem rsigned_meets : Meets Try.prog n_plref1_Signed (SpecP (fun _ : Int => True) (fun n => [.int .i64 n]) fun n => .int .i64 (if n % 4294967296 / 2147483648 = 1 then n % 4294967296 - 4294967296 else n % 4294967296)) := by
  refine meets_f tabOk Try.func25 rfl (by decide) fun n _ => ?_
  refine ⟨Nat.le_refl _, by simp [Try.f25], fun E hE => ?_⟩
  refine vcOk _ ?_
  (repeat' (first | (refine VS.mk ?_) | (refine dr_mk ?_) | (refine md_l ?_) | ((first | refine sp_not_dec ?_ ?_ | refine sp_dec ?_ ?_ | refine sp_beq ?_ ?_ | refine sp_bne ?_ ?_ | refine sp_seq ?_ ?_ | refine sp_sne ?_ ?_ | refine sp_not ?_ ?_ | refine sp_any ?_ ?_) <;> (intro hc; try simp only [List.length_map, List.length_append, List.length_cons, List.length_nil, Bool.and_true, Bool.and_eq_true, beq_iff_eq, Bool.and_eq_false_iff, beq_eq_false_iff_ne, Bool.true_and, ne_eq] at hc)) | (with_reducible first | refine norm_one ?_ | refine norm_app ?_ | refine norm_cutEnd ?_ | refine norm_cut ?_ | refine norm_bytes1 ?_ | refine norm_bytes2 ?_ | refine norm_setByte ?_ | refine norm_int1 ?_ | refine norm_mk ?_) | (with_reducible refine bytes_mk ?_) | (refine ar_byte ?_) | (refine ar_i64 (by omega) (by omega) ?_) | (refine ar_low ?_) | (refine ix_byteN (by omega) ?_) | (refine ix_byteK (by simp only [Int.reduceToNat]; exact rfl) (by decide) (by omega) ?_) | (refine ix_byte (by omega) (by omega) ?_) | (refine ix_rfl (by decide) rfl ?_) | (refine sd_mk rfl ?_) | (refine sd_mk (by decide +kernel) ?_) | (refine sd_mk (by first | (simp only [List.length_map, List.length_append, List.length_cons, List.length_nil]; done) | ((try simp only [List.length_map, List.length_append, List.length_cons, List.length_nil, List.length_set, List.length_replicate, List.length_drop, List.length_take, true_and, and_true]); omega) | (dsimp only; omega)) ?_) | (first | refine shl8 (by omega) (by omega) ?_ | refine shl4 (by omega) (by omega) ?_ | refine shl1 (by omega) (by omega) ?_ | refine shl16 (by omega) (by omega) ?_ | refine shl24 (by omega) (by omega) ?_ | refine shr8 (by decide) ?_ | refine shr4 (by decide) ?_ | refine shr1 (by decide) ?_ | refine shr16 (by decide) ?_ | refine shr24 (by decide) ?_) | (with_reducible first | refine bit_mk and_1 ?_ | refine bit_mk and_15 ?_ | refine bit_mk and_255 ?_ | refine bit_mk and_4095 ?_ | refine bit_mk and_65535 ?_) | (refine quo_pos (by omega) (by omega) (by omega) ?_) | (refine rem_pos (by omega) (by omega) ?_)))
  refine ar_wrap ?_
  (repeat' (first | (refine VS.mk ?_) | (refine dr_mk ?_) | (refine md_l ?_) | ((first | refine sp_not_dec ?_ ?_ | refine sp_dec ?_ ?_ | refine sp_beq ?_ ?_ | refine sp_bne ?_ ?_ | refine sp_seq ?_ ?_ | refine sp_sne ?_ ?_ | refine sp_not ?_ ?_ | refine sp_any ?_ ?_) <;> (intro hc; try simp only [List.length_map, List.length_append, List.length_cons, List.length_nil, Bool.and_true, Bool.and_eq_true, beq_iff_eq, Bool.and_eq_false_iff, beq_eq_false_iff_ne, Bool.true_and, ne_eq] at hc)) | (with_reducible first | refine norm_one ?_ | refine norm_app ?_ | refine norm_cutEnd ?_ | refine norm_cut ?_ | refine norm_bytes1 ?_ | refine norm_bytes2 ?_ | refine norm_setByte ?_ | refine norm_int1 ?_ | refine norm_mk ?_) | (with_reducible refine bytes_mk ?_) | (refine ar_byte ?_) | (refine ar_i64 (by omega) (by omega) ?_) | (refine ar_low ?_) | (refine ix_byteN (by omega) ?_) | (refine ix_byteK (by simp only [Int.reduceToNat]; exact rfl) (by decide) (by omega) ?_) | (refine ix_byte (by omega) (by omega) ?_) | (refine ix_rfl (by decide) rfl ?_) | (refine sd_mk rfl ?_) | (refine sd_mk (by decide +kernel) ?_) | (refine sd_mk (by first | (simp only [List.length_map, List.length_append, List.length_cons, List.length_nil]; done) | ((try simp only [List.length_map, List.length_append, List.length_cons, List.length_nil, List.length_set, List.length_replicate, List.length_drop, List.length_take, true_and, and_true]); omega) | (dsimp only; omega)) ?_) | (first | refine shl8 (by omega) (by omega) ?_ | refine shl4 (by omega) (by omega) ?_ | refine shl1 (by omega) (by omega) ?_ | refine shl16 (by omega) (by omega) ?_ | refine shl24 (by omega) (by omega) ?_ | refine shr8 (by decide) ?_ | refine shr4 (by decide) ?_ | refine shr1 (by decide) ?_ | refine shr16 (by decide) ?_ | refine shr24 (by decide) ?_) | (with_reducible first | refine bit_mk and_1 ?_ | refine bit_mk and_15 ?_ | refine bit_mk and_255 ?_ | refine bit_mk and_4095 ?_ | refine bit_mk and_65535 ?_) | (refine quo_pos (by omega) (by omega) (by omega) ?_) | (refine rem_pos (by omega) (by omega) ?_)))
  refine ar_wrap ?_
  refine VS.mk ?_
  refine ar_wrap ?_
  (repeat' (first | (refine VS.mk ?_) | (refine dr_mk ?_) | (refine md_l ?_) | ((first | refine sp_not_dec ?_ ?_ | refine sp_dec ?_ ?_ | refine sp_beq ?_ ?_ | refine sp_bne ?_ ?_ | refine sp_seq ?_ ?_ | refine sp_sne ?_ ?_ | refine sp_not ?_ ?_ | refine sp_any ?_ ?_) <;> (intro hc; try simp only [List.length_map, List.length_append, List.length_cons, List.length_nil, Bool.and_true, Bool.and_eq_true, beq_iff_eq, Bool.and_eq_false_iff, beq_eq_false_iff_ne, Bool.true_and, ne_eq] at hc)) | (with_reducible first | refine norm_one ?_ | refine norm_app ?_ | refine norm_cutEnd ?_ | refine norm_cut ?_ | refine norm_bytes1 ?_ | refine norm_bytes2 ?_ | refine norm_setByte ?_ | refine norm_int1 ?_ | refine norm_mk ?_) | (with_reducible refine bytes_mk ?_) | (refine ar_byte ?_) | (refine ar_i64 (by omega) (by omega) ?_) | (refine ar_low ?_) | (refine ix_byteN (by omega) ?_) | (refine ix_byteK (by simp only [Int.reduceToNat]; exact rfl) (by decide) (by omega) ?_) | (refine ix_byte (by omega) (by omega) ?_) | (refine ix_rfl (by decide) rfl ?_) | (refine sd_mk rfl ?_) | (refine sd_mk (by decide +kernel) ?_) | (refine sd_mk (by first | (simp only [List.length_map, List.length_append, List.length_cons, List.length_nil]; done) | ((try simp only [List.length_map, List.length_append, List.length_cons, List.length_nil, List.length_set, List.length_replicate, List.length_drop, List.length_take, true_and, and_true]); omega) | (dsimp only; omega)) ?_) | (first | refine shl8 (by omega) (by omega) ?_ | refine shl4 (by omega) (by omega) ?_ | refine shl1 (by omega) (by omega) ?_ | refine shl16 (by omega) (by omega) ?_ | refine shl24 (by omega) (by omega) ?_ | refine shr8 (by decide) ?_ | refine shr4 (by decide) ?_ | refine shr1 (by decide) ?_ | refine shr16 (by decide) ?_ | refine shr24 (by decide) ?_) | (with_reducible first | refine bit_mk and_1 ?_ | refine bit_mk and_15 ?_ | refine bit_mk and_255 ?_ | refine bit_mk and_4095 ?_ | refine bit_mk and_65535 ?_) | (refine quo_pos (by omega) (by omega) (by omega) ?_) | (refine rem_pos (by omega) (by omega) ?_)))
  refine end_p (VS.mk (LeD.of_eq ?_))
  rw [signed_wrap]
end Go.Proofs.Ytmeigmpjpkinoaa

namespace Go.Proofs.Ytmeigmpjpkinoaa
open Go Go.Plat
set_option linter.unusedVariables false
set_option linter.unusedSimpArgs false
set_option maxRecDepth 100000
set_option maxHeartbeats 2000000
attribute [local irreducible] NilS LookS NormM bitI BytesS NormL Arith QuoS RemS ShlS ShrS BitS CatS SplitS SideS IdxS CallS LoopEnd EndS ModeS DrawS AWP Meets

def signedI (n : Int) (k : Nat) : Int := if n % (2 : Int) ^ k / 2 ^ (k - 1) = 1 then n % (2 : Int) ^ k - 2 ^ k else n % (2 : Int) ^ k
theorem signed_meets : Meets Try.prog n_isa_signed (SpecP (fun ((n, k) : Int × Nat) => (k = 8 ∨ k = 12 ∨ k = 32)) (fun (n, k) => [.int .i64 n, .int .i64 k]) fun (n, k) => .int .i64 (signedI n k)) := by
  refine meets_f tabOk Try.func43 rfl (by decide) ?_
  rintro ⟨n, k⟩ hk
  refine ⟨Nat.le_refl _, by simp [Try.f43], fun E hE => ?_⟩
  rcases hk with hk | hk | hk <;> (have hk : k = _ := hk; subst hk; refine vcOk _ ?_)
  · have h0 := Int.emod_nonneg n (show (256 : Int) ≠ 0 by decide)
    have h1 := Int.emod_lt_of_pos n (show (0 : Int) < 256 by decide)
    have hd : signedI n 8 = if n % 256 / 128 = 1 then n % 256 - 256 else n % 256 := rfl
    (repeat' (first | (refine VS.mk ?_) | (refine dr_mk ?_) | (refine md_l ?_) | ((first | refine sp_not_dec ?_ ?_ | refine sp_dec ?_ ?_ | refine sp_beq ?_ ?_ | refine sp_bne ?_ ?_ | refine sp_seq ?_ ?_ | refine sp_sne ?_ ?_ | refine sp_not ?_ ?_ | refine sp_any ?_ ?_) <;> (intro hc; try simp only [List.length_map, List.length_append, List.length_cons, List.length_nil, Bool.and_true, Bool.and_eq_true, beq_iff_eq, Bool.and_eq_false_iff, beq_eq_false_iff_ne, Bool.true_and, ne_eq] at hc)) | (with_reducible first | refine norm_one ?_ | refine norm_app ?_ | refine norm_cutEnd ?_ | refine norm_cut ?_ | refine norm_bytes1 ?_ | refine norm_bytes2 ?_ | refine norm_setByte ?_ | refine norm_int1 ?_ | refine norm_mk ?_) | (with_reducible refine bytes_mk ?_) | (refine ar_byte ?_) | (refine ar_i64 (by omega) (by omega) ?_) | (refine ar_low ?_) | (refine ix_byteN (by omega) ?_) | (refine ix_byteK (by simp only [Int.reduceToNat]; exact rfl) (by decide) (by omega) ?_) | (refine ix_byte (by omega) (by omega) ?_) | (refine ix_rfl (by decide) rfl ?_) | (refine sd_mk rfl ?_) | (refine sd_mk (by decide +kernel) ?_) | (refine sd_mk (by first | (simp only [List.length_map, List.length_append, List.length_cons, List.length_nil]; done) | ((try simp only [List.length_map, List.length_append, List.length_cons, List.length_nil, List.length_set, List.length_replicate, List.length_drop, List.length_take, true_and, and_true]); omega) | (dsimp only; omega)) ?_) | (first | refine shl8 (by omega) (by omega) ?_ | refine shl4 (by omega) (by omega) ?_ | refine shl1 (by omega) (by omega) ?_ | refine shl16 (by omega) (by omega) ?_ | refine shl24 (by omega) (by omega) ?_ | refine shr8 (by decide) ?_ | refine shr4 (by decide) ?_ | refine shr1 (by decide) ?_ | refine shr16 (by decide) ?_ | refine shr24 (by decide) ?_) | (with_reducible first | refine bit_mk and_1 ?_ | refine bit_mk and_15 ?_ | refine bit_mk and_255 ?_ | refine bit_mk and_4095 ?_ | refine bit_mk and_65535 ?_) | (refine quo_pos (by omega) (by omega) (by omega) ?_) | (refine rem_pos (by omega) (by omega) ?_)))
    refine shr_lit (s := 7) (m := 128) rfl (by decide) (by decide) ?_
    (repeat' (first | (refine VS.mk ?_) | (refine dr_mk ?_) | (refine md_l ?_) | ((first | refine sp_not_dec ?_ ?_ | refine sp_dec ?_ ?_ | refine sp_beq ?_ ?_ | refine sp_bne ?_ ?_ | refine sp_seq ?_ ?_ | refine sp_sne ?_ ?_ | refine sp_not ?_ ?_ | refine sp_any ?_ ?_) <;> (intro hc; try simp only [List.length_map, List.length_append, List.length_cons, List.length_nil, Bool.and_true, Bool.and_eq_true, beq_iff_eq, Bool.and_eq_false_iff, beq_eq_false_iff_ne, Bool.true_and, ne_eq] at hc)) | (with_reducible first | refine norm_one ?_ | refine norm_app ?_ | refine norm_cutEnd ?_ | refine norm_cut ?_ | refine norm_bytes1 ?_ | refine norm_bytes2 ?_ | refine norm_setByte ?_ | refine norm_int1 ?_ | refine norm_mk ?_) | (with_reducible refine bytes_mk ?_) | (refine ar_byte ?_) | (refine ar_i64 (by omega) (by omega) ?_) | (refine ar_low ?_) | (refine ix_byteN (by omega) ?_) | (refine ix_byteK (by simp only [Int.reduceToNat]; exact rfl) (by decide) (by omega) ?_) | (refine ix_byte (by omega) (by omega) ?_) | (refine ix_rfl (by decide) rfl ?_) | (refine sd_mk rfl ?_) | (refine sd_mk (by decide +kernel) ?_) | (refine sd_mk (by first | (simp only [List.length_map, List.length_append, List.length_cons, List.length_nil]; done) | ((try simp only [List.length_map, List.length_append, List.length_cons, List.length_nil, List.length_set, List.length_replicate, List.length_drop, List.length_take, true_and, and_true]); omega) | (dsimp only; omega)) ?_) | (first | refine shl8 (by omega) (by omega) ?_ | refine shl4 (by omega) (by omega) ?_ | refine shl1 (by omega) (by omega) ?_ | refine shl16 (by omega) (by omega) ?_ | refine shl24 (by omega) (by omega) ?_ | refine shr8 (by decide) ?_ | refine shr4 (by decide) ?_ | refine shr1 (by decide) ?_ | refine shr16 (by decide) ?_ | refine shr24 (by decide) ?_) | (with_reducible first | refine bit_mk and_1 ?_ | refine bit_mk and_15 ?_ | refine bit_mk and_255 ?_ | refine bit_mk and_4095 ?_ | refine bit_mk and_65535 ?_) | (refine quo_pos (by omega) (by omega) (by omega) ?_) | (refine rem_pos (by omega) (by omega) ?_)))
    · skip
      refine end_p (VS.mk (LeD.of_eq (congrArg (D.int .i64) ?_)))
      rw [hd, if_pos hc]
      omega
    · refine end_p (VS.mk (LeD.of_eq (congrArg (D.int .i64) ?_)))
      rw [hd, if_neg hc]
  · have h0 := Int.emod_nonneg n (show (4096 : Int) ≠ 0 by decide)
    have h1 := Int.emod_lt_of_pos n (show (0 : Int) < 4096 by decide)
    have hd : signedI n 12 = if n % 4096 / 2048 = 1 then n % 4096 - 4096 else n % 4096 := rfl
    (repeat' (first | (refine VS.mk ?_) | (refine dr_mk ?_) | (refine md_l ?_) | ((first | refine sp_not_dec ?_ ?_ | refine sp_dec ?_ ?_ | refine sp_beq ?_ ?_ | refine sp_bne ?_ ?_ | refine sp_seq ?_ ?_ | refine sp_sne ?_ ?_ | refine sp_not ?_ ?_ | refine sp_any ?_ ?_) <;> (intro hc; try simp only [List.length_map, List.length_append, List.length_cons, List.length_nil, Bool.and_true, Bool.and_eq_true, beq_iff_eq, Bool.and_eq_false_iff, beq_eq_false_iff_ne, Bool.true_and, ne_eq] at hc)) | (with_reducible first | refine norm_one ?_ | refine norm_app ?_ | refine norm_cutEnd ?_ | refine norm_cut ?_ | refine norm_bytes1 ?_ | refine norm_bytes2 ?_ | refine norm_setByte ?_ | refine norm_int1 ?_ | refine norm_mk ?_) | (with_reducible refine bytes_mk ?_) | (refine ar_byte ?_) | (refine ar_i64 (by omega) (by omega) ?_) | (refine ar_low ?_) | (refine ix_byteN (by omega) ?_) | (refine ix_byteK (by simp only [Int.reduceToNat]; exact rfl) (by decide) (by omega) ?_) | (refine ix_byte (by omega) (by omega) ?_) | (refine ix_rfl (by decide) rfl ?_) | (refine sd_mk rfl ?_) | (refine sd_mk (by decide +kernel) ?_) | (refine sd_mk (by first | (simp only [List.length_map, List.length_append, List.length_cons, List.length_nil]; done) | ((try simp only [List.length_map, List.length_append, List.length_cons, List.length_nil, List.length_set, List.length_replicate, List.length_drop, List.length_take, true_and, and_true]); omega) | (dsimp only; omega)) ?_) | (first | refine shl8 (by omega) (by omega) ?_ | refine shl4 (by omega) (by omega) ?_ | refine shl1 (by omega) (by omega) ?_ | refine shl16 (by omega) (by omega) ?_ | refine shl24 (by omega) (by omega) ?_ | refine shr8 (by decide) ?_ | refine shr4 (by decide) ?_ | refine shr1 (by decide) ?_ | refine shr16 (by decide) ?_ | refine shr24 (by decide) ?_) | (with_reducible first | refine bit_mk and_1 ?_ | refine bit_mk and_15 ?_ | refine bit_mk and_255 ?_ | refine bit_mk and_4095 ?_ | refine bit_mk and_65535 ?_) | (refine quo_pos (by omega) (by omega) (by omega) ?_) | (refine rem_pos (by omega) (by omega) ?_)))
    refine shl_lit (s := 12) (m := 4096) rfl (by decide) (by decide) (by decide) (by decide) ?_
    (repeat' (first | (refine VS.mk ?_) | (refine dr_mk ?_) | (refine md_l ?_) | ((first | refine sp_not_dec ?_ ?_ | refine sp_dec ?_ ?_ | refine sp_beq ?_ ?_ | refine sp_bne ?_ ?_ | refine sp_seq ?_ ?_ | refine sp_sne ?_ ?_ | refine sp_not ?_ ?_ | refine sp_any ?_ ?_) <;> (intro hc; try simp only [List.length_map, List.length_append, List.length_cons, List.length_nil, Bool.and_true, Bool.and_eq_true, beq_iff_eq, Bool.and_eq_false_iff, beq_eq_false_iff_ne, Bool.true_and, ne_eq] at hc)) | (with_reducible first | refine norm_one ?_ | refine norm_app ?_ | refine norm_cutEnd ?_ | refine norm_cut ?_ | refine norm_bytes1 ?_ | refine norm_bytes2 ?_ | refine norm_setByte ?_ | refine norm_int1 ?_ | refine norm_mk ?_) | (with_reducible refine bytes_mk ?_) | (refine ar_byte ?_) | (refine ar_i64 (by omega) (by omega) ?_) | (refine ar_low ?_) | (refine ix_byteN (by omega) ?_) | (refine ix_byteK (by simp only [Int.reduceToNat]; exact rfl) (by decide) (by omega) ?_) | (refine ix_byte (by omega) (by omega) ?_) | (refine ix_rfl (by decide) rfl ?_) | (refine sd_mk rfl ?_) | (refine sd_mk (by decide +kernel) ?_) | (refine sd_mk (by first | (simp only [List.length_map, List.length_append, List.length_cons, List.length_nil]; done) | ((try simp only [List.length_map, List.length_append, List.length_cons, List.length_nil, List.length_set, List.length_replicate, List.length_drop, List.length_take, true_and, and_true]); omega) | (dsimp only; omega)) ?_) | (first | refine shl8 (by omega) (by omega) ?_ | refine shl4 (by omega) (by omega) ?_ | refine shl1 (by omega) (by omega) ?_ | refine shl16 (by omega) (by omega) ?_ | refine shl24 (by omega) (by omega) ?_ | refine shr8 (by decide) ?_ | refine shr4 (by decide) ?_ | refine shr1 (by decide) ?_ | refine shr16 (by decide) ?_ | refine shr24 (by decide) ?_) | (with_reducible first | refine bit_mk and_1 ?_ | refine bit_mk and_15 ?_ | refine bit_mk and_255 ?_ | refine bit_mk and_4095 ?_ | refine bit_mk and_65535 ?_) | (refine quo_pos (by omega) (by omega) (by omega) ?_) | (refine rem_pos (by omega) (by omega) ?_)))
    refine shr_lit (s := 11) (m := 2048) rfl (by decide) (by decide) ?_
    (repeat' (first | (refine VS.mk ?_) | (refine dr_mk ?_) | (refine md_l ?_) | ((first | refine sp_not_dec ?_ ?_ | refine sp_dec ?_ ?_ | refine sp_beq ?_ ?_ | refine sp_bne ?_ ?_ | refine sp_seq ?_ ?_ | refine sp_sne ?_ ?_ | refine sp_not ?_ ?_ | refine sp_any ?_ ?_) <;> (intro hc; try simp only [List.length_map, List.length_append, List.length_cons, List.length_nil, Bool.and_true, Bool.and_eq_true, beq_iff_eq, Bool.and_eq_false_iff, beq_eq_false_iff_ne, Bool.true_and, ne_eq] at hc)) | (with_reducible first | refine norm_one ?_ | refine norm_app ?_ | refine norm_cutEnd ?_ | refine norm_cut ?_ | refine norm_bytes1 ?_ | refine norm_bytes2 ?_ | refine norm_setByte ?_ | refine norm_int1 ?_ | refine norm_mk ?_) | (with_reducible refine bytes_mk ?_) | (refine ar_byte ?_) | (refine ar_i64 (by omega) (by omega) ?_) | (refine ar_low ?_) | (refine ix_byteN (by omega) ?_) | (refine ix_byteK (by simp only [Int.reduceToNat]; exact rfl) (by decide) (by omega) ?_) | (refine ix_byte (by omega) (by omega) ?_) | (refine ix_rfl (by decide) rfl ?_) | (refine sd_mk rfl ?_) | (refine sd_mk (by decide +kernel) ?_) | (refine sd_mk (by first | (simp only [List.length_map, List.length_append, List.length_cons, List.length_nil]; done) | ((try simp only [List.length_map, List.length_append, List.length_cons, List.length_nil, List.length_set, List.length_replicate, List.length_drop, List.length_take, true_and, and_true]); omega) | (dsimp only; omega)) ?_) | (first | refine shl8 (by omega) (by omega) ?_ | refine shl4 (by omega) (by omega) ?_ | refine shl1 (by omega) (by omega) ?_ | refine shl16 (by omega) (by omega) ?_ | refine shl24 (by omega) (by omega) ?_ | refine shr8 (by decide) ?_ | refine shr4 (by decide) ?_ | refine shr1 (by decide) ?_ | refine shr16 (by decide) ?_ | refine shr24 (by decide) ?_) | (with_reducible first | refine bit_mk and_1 ?_ | refine bit_mk and_15 ?_ | refine bit_mk and_255 ?_ | refine bit_mk and_4095 ?_ | refine bit_mk and_65535 ?_) | (refine quo_pos (by omega) (by omega) (by omega) ?_) | (refine rem_pos (by omega) (by omega) ?_)))
    · refine shl_lit (s := 12) (m := 4096) rfl (by decide) (by decide) (by decide) (by decide) ?_
      (repeat' (first | (refine VS.mk ?_) | (refine dr_mk ?_) | (refine md_l ?_) | ((first | refine sp_not_dec ?_ ?_ | refine sp_dec ?_ ?_ | refine sp_beq ?_ ?_ | refine sp_bne ?_ ?_ | refine sp_seq ?_ ?_ | refine sp_sne ?_ ?_ | refine sp_not ?_ ?_ | refine sp_any ?_ ?_) <;> (intro hc; try simp only [List.length_map, List.length_append, List.length_cons, List.length_nil, Bool.and_true, Bool.and_eq_true, beq_iff_eq, Bool.and_eq_false_iff, beq_eq_false_iff_ne, Bool.true_and, ne_eq] at hc)) | (with_reducible first | refine norm_one ?_ | refine norm_app ?_ | refine norm_cutEnd ?_ | refine norm_cut ?_ | refine norm_bytes1 ?_ | refine norm_bytes2 ?_ | refine norm_setByte ?_ | refine norm_int1 ?_ | refine norm_mk ?_) | (with_reducible refine bytes_mk ?_) | (refine ar_byte ?_) | (refine ar_i64 (by omega) (by omega) ?_) | (refine ar_low ?_) | (refine ix_byteN (by omega) ?_) | (refine ix_byteK (by simp only [Int.reduceToNat]; exact rfl) (by decide) (by omega) ?_) | (refine ix_byte (by omega) (by omega) ?_) | (refine ix_rfl (by decide) rfl ?_) | (refine sd_mk rfl ?_) | (refine sd_mk (by decide +kernel) ?_) | (refine sd_mk (by first | (simp only [List.length_map, List.length_append, List.length_cons, List.length_nil]; done) | ((try simp only [List.length_map, List.length_append, List.length_cons, List.length_nil, List.length_set, List.length_replicate, List.length_drop, List.length_take, true_and, and_true]); omega) | (dsimp only; omega)) ?_) | (first | refine shl8 (by omega) (by omega) ?_ | refine shl4 (by omega) (by omega) ?_ | refine shl1 (by omega) (by omega) ?_ | refine shl16 (by omega) (by omega) ?_ | refine shl24 (by omega) (by omega) ?_ | refine shr8 (by decide) ?_ | refine shr4 (by decide) ?_ | refine shr1 (by decide) ?_ | refine shr16 (by decide) ?_ | refine shr24 (by decide) ?_) | (with_reducible first | refine bit_mk and_1 ?_ | refine bit_mk and_15 ?_ | refine bit_mk and_255 ?_ | refine bit_mk and_4095 ?_ | refine bit_mk and_65535 ?_) | (refine quo_pos (by omega) (by omega) (by omega) ?_) | (refine rem_pos (by omega) (by omega) ?_)))
      refine end_p (VS.mk (LeD.of_eq (congrArg (D.int .i64) ?_)))
      rw [hd, if_pos hc]
      omega
    · refine end_p (VS.mk (LeD.of_eq (congrArg (D.int .i64) ?_)))
      rw [hd, if_neg hc]
  · have h0 := Int.emod_nonneg n (show (4294967296 : Int) ≠ 0 by decide)
    have h1 := Int.emod_lt_of_pos n (show (0 : Int) < 4294967296 by decide)
    have hd : signedI n 32 = if n % 4294967296 / 2147483648 = 1 then n % 4294967296 - 4294967296 else n % 4294967296 := rfl
    (repeat' (first | (refine VS.mk ?_) | (refine dr_mk ?_) | (refine md_l ?_) | ((first | refine sp_not_dec ?_ ?_ | refine sp_dec ?_ ?_ | refine sp_beq ?_ ?_ | refine sp_bne ?_ ?_ | refine sp_seq ?_ ?_ | refine sp_sne ?_ ?_ | refine sp_not ?_ ?_ | refine sp_any ?_ ?_) <;> (intro hc; try simp only [List.length_map, List.length_append, List.length_cons, List.length_nil, Bool.and_true, Bool.and_eq_true, beq_iff_eq, Bool.and_eq_false_iff, beq_eq_false_iff_ne, Bool.true_and, ne_eq] at hc)) | (with_reducible first | refine norm_one ?_ | refine norm_app ?_ | refine norm_cutEnd ?_ | refine norm_cut ?_ | refine norm_bytes1 ?_ | refine norm_bytes2 ?_ | refine norm_setByte ?_ | refine norm_int1 ?_ | refine norm_mk ?_) | (with_reducible refine bytes_mk ?_) | (refine ar_byte ?_) | (refine ar_i64 (by omega) (by omega) ?_) | (refine ar_low ?_) | (refine ix_byteN (by omega) ?_) | (refine ix_byteK (by simp only [Int.reduceToNat]; exact rfl) (by decide) (by omega) ?_) | (refine ix_byte (by omega) (by omega) ?_) | (refine ix_rfl (by decide) rfl ?_) | (refine sd_mk rfl ?_) | (refine sd_mk (by decide +kernel) ?_) | (refine sd_mk (by first | (simp only [List.length_map, List.length_append, List.length_cons, List.length_nil]; done) | ((try simp only [List.length_map, List.length_append, List.length_cons, List.length_nil, List.length_set, List.length_replicate, List.length_drop, List.length_take, true_and, and_true]); omega) | (dsimp only; omega)) ?_) | (first | refine shl8 (by omega) (by omega) ?_ | refine shl4 (by omega) (by omega) ?_ | refine shl1 (by omega) (by omega) ?_ | refine shl16 (by omega) (by omega) ?_ | refine shl24 (by omega) (by omega) ?_ | refine shr8 (by decide) ?_ | refine shr4 (by decide) ?_ | refine shr1 (by decide) ?_ | refine shr16 (by decide) ?_ | refine shr24 (by decide) ?_) | (with_reducible first | refine bit_mk and_1 ?_ | refine bit_mk and_15 ?_ | refine bit_mk and_255 ?_ | refine bit_mk and_4095 ?_ | refine bit_mk and_65535 ?_) | (refine quo_pos (by omega) (by omega) (by omega) ?_) | (refine rem_pos (by omega) (by omega) ?_)))
    refine shl_lit (s := 32) (m := 4294967296) rfl (by decide) (by decide) (by decide) (by decide) ?_
    (repeat' (first | (refine VS.mk ?_) | (refine dr_mk ?_) | (refine md_l ?_) | ((first | refine sp_not_dec ?_ ?_ | refine sp_dec ?_ ?_ | refine sp_beq ?_ ?_ | refine sp_bne ?_ ?_ | refine sp_seq ?_ ?_ | refine sp_sne ?_ ?_ | refine sp_not ?_ ?_ | refine sp_any ?_ ?_) <;> (intro hc; try simp only [List.length_map, List.length_append, List.length_cons, List.length_nil, Bool.and_true, Bool.and_eq_true, beq_iff_eq, Bool.and_eq_false_iff, beq_eq_false_iff_ne, Bool.true_and, ne_eq] at hc)) | (with_reducible first | refine norm_one ?_ | refine norm_app ?_ | refine norm_cutEnd ?_ | refine norm_cut ?_ | refine norm_bytes1 ?_ | refine norm_bytes2 ?_ | refine norm_setByte ?_ | refine norm_int1 ?_ | refine norm_mk ?_) | (with_reducible refine bytes_mk ?_) | (refine ar_byte ?_) | (refine ar_i64 (by omega) (by omega) ?_) | (refine ar_low ?_) | (refine ix_byteN (by omega) ?_) | (refine ix_byteK (by simp only [Int.reduceToNat]; exact rfl) (by decide) (by omega) ?_) | (refine ix_byte (by omega) (by omega) ?_) | (refine ix_rfl (by decide) rfl ?_) | (refine sd_mk rfl ?_) | (refine sd_mk (by decide +kernel) ?_) | (refine sd_mk (by first | (simp only [List.length_map, List.length_append, List.length_cons, List.length_nil]; done) | ((try simp only [List.length_map, List.length_append, List.length_cons, List.length_nil, List.length_set, List.length_replicate, List.length_drop, List.length_take, true_and, and_true]); omega) | (dsimp only; omega)) ?_) | (first | refine shl8 (by omega) (by omega) ?_ | refine shl4 (by omega) (by omega) ?_ | refine shl1 (by omega) (by omega) ?_ | refine shl16 (by omega) (by omega) ?_ | refine shl24 (by omega) (by omega) ?_ | refine shr8 (by decide) ?_ | refine shr4 (by decide) ?_ | refine shr1 (by decide) ?_ | refine shr16 (by decide) ?_ | refine shr24 (by decide) ?_) | (with_reducible first | refine bit_mk and_1 ?_ | refine bit_mk and_15 ?_ | refine bit_mk and_255 ?_ | refine bit_mk and_4095 ?_ | refine bit_mk and_65535 ?_) | (refine quo_pos (by omega) (by omega) (by omega) ?_) | (refine rem_pos (by omega) (by omega) ?_)))
    refine bit_mk (and_mask (k := 32) (by decide) (by decide)) ?_
    rw [show (2 : Int) ^ 32 = 4294967296 from rfl]
    (repeat' (first | (refine VS.mk ?_) | (refine dr_mk ?_) | (refine md_l ?_) | ((first | refine sp_not_dec ?_ ?_ | refine sp_dec ?_ ?_ | refine sp_beq ?_ ?_ | refine sp_bne ?_ ?_ | refine sp_seq ?_ ?_ | refine sp_sne ?_ ?_ | refine sp_not ?_ ?_ | refine sp_any ?_ ?_) <;> (intro hc; try simp only [List.length_map, List.length_append, List.length_cons, List.length_nil, Bool.and_true, Bool.and_eq_true, beq_iff_eq, Bool.and_eq_false_iff, beq_eq_false_iff_ne, Bool.true_and, ne_eq] at hc)) | (with_reducible first | refine norm_one ?_ | refine norm_app ?_ | refine norm_cutEnd ?_ | refine norm_cut ?_ | refine norm_bytes1 ?_ | refine norm_bytes2 ?_ | refine norm_setByte ?_ | refine norm_int1 ?_ | refine norm_mk ?_) | (with_reducible refine bytes_mk ?_) | (refine ar_byte ?_) | (refine ar_i64 (by omega) (by omega) ?_) | (refine ar_low ?_) | (refine ix_byteN (by omega) ?_) | (refine ix_byteK (by simp only [Int.reduceToNat]; exact rfl) (by decide) (by omega) ?_) | (refine ix_byte (by omega) (by omega) ?_) | (refine ix_rfl (by decide) rfl ?_) | (refine sd_mk rfl ?_) | (refine sd_mk (by decide +kernel) ?_) | (refine sd_mk (by first | (simp only [List.length_map, List.length_append, List.length_cons, List.length_nil]; done) | ((try simp only [List.length_map, List.length_append, List.length_cons, List.length_nil, List.length_set, List.length_replicate, List.length_drop, List.length_take, true_and, and_true]); omega) | (dsimp only; omega)) ?_) | (first | refine shl8 (by omega) (by omega) ?_ | refine shl4 (by omega) (by omega) ?_ | refine shl1 (by omega) (by omega) ?_ | refine shl16 (by omega) (by omega) ?_ | refine shl24 (by omega) (by omega) ?_ | refine shr8 (by decide) ?_ | refine shr4 (by decide) ?_ | refine shr1 (by decide) ?_ | refine shr16 (by decide) ?_ | refine shr24 (by decide) ?_) | (with_reducible first | refine bit_mk and_1 ?_ | refine bit_mk and_15 ?_ | refine bit_mk and_255 ?_ | refine bit_mk and_4095 ?_ | refine bit_mk and_65535 ?_) | (refine quo_pos (by omega) (by omega) (by omega) ?_) | (refine rem_pos (by omega) (by omega) ?_)))
    refine shr_lit (s := 31) (m := 2147483648) rfl (by decide) (by decide) ?_
    (repeat' (first | (refine VS.mk ?_) | (refine dr_mk ?_) | (refine md_l ?_) | ((first | refine sp_not_dec ?_ ?_ | refine sp_dec ?_ ?_ | refine sp_beq ?_ ?_ | refine sp_bne ?_ ?_ | refine sp_seq ?_ ?_ | refine sp_sne ?_ ?_ | refine sp_not ?_ ?_ | refine sp_any ?_ ?_) <;> (intro hc; try simp only [List.length_map, List.length_append, List.length_cons, List.length_nil, Bool.and_true, Bool.and_eq_true, beq_iff_eq, Bool.and_eq_false_iff, beq_eq_false_iff_ne, Bool.true_and, ne_eq] at hc)) | (with_reducible first | refine norm_one ?_ | refine norm_app ?_ | refine norm_cutEnd ?_ | refine norm_cut ?_ | refine norm_bytes1 ?_ | refine norm_bytes2 ?_ | refine norm_setByte ?_ | refine norm_int1 ?_ | refine norm_mk ?_) | (with_reducible refine bytes_mk ?_) | (refine ar_byte ?_) | (refine ar_i64 (by omega) (by omega) ?_) | (refine ar_low ?_) | (refine ix_byteN (by omega) ?_) | (refine ix_byteK (by simp only [Int.reduceToNat]; exact rfl) (by decide) (by omega) ?_) | (refine ix_byte (by omega) (by omega) ?_) | (refine ix_rfl (by decide) rfl ?_) | (refine sd_mk rfl ?_) | (refine sd_mk (by decide +kernel) ?_) | (refine sd_mk (by first | (simp only [List.length_map, List.length_append, List.length_cons, List.length_nil]; done) | ((try simp only [List.length_map, List.length_append, List.length_cons, List.length_nil, List.length_set, List.length_replicate, List.length_drop, List.length_take, true_and, and_true]); omega) | (dsimp only; omega)) ?_) | (first | refine shl8 (by omega) (by omega) ?_ | refine shl4 (by omega) (by omega) ?_ | refine shl1 (by omega) (by omega) ?_ | refine shl16 (by omega) (by omega) ?_ | refine shl24 (by omega) (by omega) ?_ | refine shr8 (by decide) ?_ | refine shr4 (by decide) ?_ | refine shr1 (by decide) ?_ | refine shr16 (by decide) ?_ | refine shr24 (by decide) ?_) | (with_reducible first | refine bit_mk and_1 ?_ | refine bit_mk and_15 ?_ | refine bit_mk and_255 ?_ | refine bit_mk and_4095 ?_ | refine bit_mk and_65535 ?_) | (refine quo_pos (by omega) (by omega) (by omega) ?_) | (refine rem_pos (by omega) (by omega) ?_)))
    · refine shl_lit (s := 32) (m := 4294967296) rfl (by decide) (by decide) (by decide) (by decide) ?_
      (repeat' (first | (refine VS.mk ?_) | (refine dr_mk ?_) | (refine md_l ?_) | ((first | refine sp_not_dec ?_ ?_ | refine sp_dec ?_ ?_ | refine sp_beq ?_ ?_ | refine sp_bne ?_ ?_ | refine sp_seq ?_ ?_ | refine sp_sne ?_ ?_ | refine sp_not ?_ ?_ | refine sp_any ?_ ?_) <;> (intro hc; try simp only [List.length_map, List.length_append, List.length_cons, List.length_nil, Bool.and_true, Bool.and_eq_true, beq_iff_eq, Bool.and_eq_false_iff, beq_eq_false_iff_ne, Bool.true_and, ne_eq] at hc)) | (with_reducible first | refine norm_one ?_ | refine norm_app ?_ | refine norm_cutEnd ?_ | refine norm_cut ?_ | refine norm_bytes1 ?_ | refine norm_bytes2 ?_ | refine norm_setByte ?_ | refine norm_int1 ?_ | refine norm_mk ?_) | (with_reducible refine bytes_mk ?_) | (refine ar_byte ?_) | (refine ar_i64 (by omega) (by omega) ?_) | (refine ar_low ?_) | (refine ix_byteN (by omega) ?_) | (refine ix_byteK (by simp only [Int.reduceToNat]; exact rfl) (by decide) (by omega) ?_) | (refine ix_byte (by omega) (by omega) ?_) | (refine ix_rfl (by decide) rfl ?_) | (refine sd_mk rfl ?_) | (refine sd_mk (by decide +kernel) ?_) | (refine sd_mk (by first | (simp only [List.length_map, List.length_append, List.length_cons, List.length_nil]; done) | ((try simp only [List.length_map, List.length_append, List.length_cons, List.length_nil, List.length_set, List.length_replicate, List.length_drop, List.length_take, true_and, and_true]); omega) | (dsimp only; omega)) ?_) | (first | refine shl8 (by omega) (by omega) ?_ | refine shl4 (by omega) (by omega) ?_ | refine shl1 (by omega) (by omega) ?_ | refine shl16 (by omega) (by omega) ?_ | refine shl24 (by omega) (by omega) ?_ | refine shr8 (by decide) ?_ | refine shr4 (by decide) ?_ | refine shr1 (by decide) ?_ | refine shr16 (by decide) ?_ | refine shr24 (by decide) ?_) | (with_reducible first | refine bit_mk and_1 ?_ | refine bit_mk and_15 ?_ | refine bit_mk and_255 ?_ | refine bit_mk and_4095 ?_ | refine bit_mk and_65535 ?_) | (refine quo_pos (by omega) (by omega) (by omega) ?_) | (refine rem_pos (by omega) (by omega) ?_)))
      refine end_p (VS.mk (LeD.of_eq (congrArg (D.int .i64) ?_)))
      rw [hd, if_pos hc]
      omega
    · refine end_p (VS.mk (LeD.of_eq (congrArg (D.int .i64) ?_)))
      rw [hd, if_neg hc]

theorem signed_meets2 : Meets Try.prog n_isa_Signed (SpecP (fun _ : Int => True) (fun n => [.int .i64 n]) fun n => .int .i64 (signedI n 32)) := by
  refine meets_f tabOk Try.func21 rfl (by decide) fun n _ => ?_
  refine ⟨Nat.le_refl _, by simp [Try.f21], fun E hE => ?_⟩
  refine vcOk _ ?_
  (repeat' (first | (refine VS.mk ?_) | (refine dr_mk ?_) | (refine md_l ?_) | ((first | refine sp_not_dec ?_ ?_ | refine sp_dec ?_ ?_ | refine sp_beq ?_ ?_ | refine sp_bne ?_ ?_ | refine sp_seq ?_ ?_ | refine sp_sne ?_ ?_ | refine sp_not ?_ ?_ | refine sp_any ?_ ?_) <;> (intro hc; try simp only [List.length_map, List.length_append, List.length_cons, List.length_nil, Bool.and_true, Bool.and_eq_true, beq_iff_eq, Bool.and_eq_false_iff, beq_eq_false_iff_ne, Bool.true_and, ne_eq] at hc)) | (with_reducible first | refine norm_one ?_ | refine norm_app ?_ | refine norm_cutEnd ?_ | refine norm_cut ?_ | refine norm_bytes1 ?_ | refine norm_bytes2 ?_ | refine norm_setByte ?_ | refine norm_int1 ?_ | refine norm_mk ?_) | (with_reducible refine bytes_mk ?_) | (refine ar_byte ?_) | (refine ar_i64 (by omega) (by omega) ?_) | (refine ar_low ?_) | (refine ix_byteN (by omega) ?_) | (refine ix_byteK (by simp only [Int.reduceToNat]; exact rfl) (by decide) (by omega) ?_) | (refine ix_byte (by omega) (by omega) ?_) | (refine ix_rfl (by decide) rfl ?_) | (refine sd_mk rfl ?_) | (refine sd_mk (by decide +kernel) ?_) | (refine sd_mk (by first | (simp only [List.length_map, List.length_append, List.length_cons, List.length_nil]; done) | ((try simp only [List.length_map, List.length_append, List.length_cons, List.length_nil, List.length_set, List.length_replicate, List.length_drop, List.length_take, true_and, and_true]); omega) | (dsimp only; omega)) ?_) | (first | refine shl8 (by omega) (by omega) ?_ | refine shl4 (by omega) (by omega) ?_ | refine shl1 (by omega) (by omega) ?_ | refine shl16 (by omega) (by omega) ?_ | refine shl24 (by omega) (by omega) ?_ | refine shr8 (by decide) ?_ | refine shr4 (by decide) ?_ | refine shr1 (by decide) ?_ | refine shr16 (by decide) ?_ | refine shr24 (by decide) ?_) | (with_reducible first | refine bit_mk and_1 ?_ | refine bit_mk and_15 ?_ | refine bit_mk and_255 ?_ | refine bit_mk and_4095 ?_ | refine bit_mk and_65535 ?_) | (refine quo_pos (by omega) (by omega) (by omega) ?_) | (refine rem_pos (by omega) (by omega) ?_)))
  refine call_p signed_meets (n, 32) (.inr (.inr rfl)) (VS.mk (by (first | exact LeL.refl _ | (repeat' (first | exact LeL.nil | exact LeD.refl _ | exact LeD.nil _ | exact LeD.strip _ _ _ | refine LeL.cons ?_ ?_ | refine LeD.tup ?_ | refine LeD.agg ?_))))) ?_
  (repeat' (first | (refine VS.mk ?_) | (refine dr_mk ?_) | (refine md_l ?_) | ((first | refine sp_not_dec ?_ ?_ | refine sp_dec ?_ ?_ | refine sp_beq ?_ ?_ | refine sp_bne ?_ ?_ | refine sp_seq ?_ ?_ | refine sp_sne ?_ ?_ | refine sp_not ?_ ?_ | refine sp_any ?_ ?_) <;> (intro hc; try simp only [List.length_map, List.length_append, List.length_cons, List.length_nil, Bool.and_true, Bool.and_eq_true, beq_iff_eq, Bool.and_eq_false_iff, beq_eq_false_iff_ne, Bool.true_and, ne_eq] at hc)) | (with_reducible first | refine norm_one ?_ | refine norm_app ?_ | refine norm_cutEnd ?_ | refine norm_cut ?_ | refine norm_bytes1 ?_ | refine norm_bytes2 ?_ | refine norm_setByte ?_ | refine norm_int1 ?_ | refine norm_mk ?_) | (with_reducible refine bytes_mk ?_) | (refine ar_byte ?_) | (refine ar_i64 (by omega) (by omega) ?_) | (refine ar_low ?_) | (refine ix_byteN (by omega) ?_) | (refine ix_byteK (by simp only [Int.reduceToNat]; exact rfl) (by decide) (by omega) ?_) | (refine ix_byte (by omega) (by omega) ?_) | (refine ix_rfl (by decide) rfl ?_) | (refine sd_mk rfl ?_) | (refine sd_mk (by decide +kernel) ?_) | (refine sd_mk (by first | (simp only [List.length_map, List.length_append, List.length_cons, List.length_nil]; done) | ((try simp only [List.length_map, List.length_append, List.length_cons, List.length_nil, List.length_set, List.length_replicate, List.length_drop, List.length_take, true_and, and_true]); omega) | (dsimp only; omega)) ?_) | (first | refine shl8 (by omega) (by omega) ?_ | refine shl4 (by omega) (by omega) ?_ | refine shl1 (by omega) (by omega) ?_ | refine shl16 (by omega) (by omega) ?_ | refine shl24 (by omega) (by omega) ?_ | refine shr8 (by decide) ?_ | refine shr4 (by decide) ?_ | refine shr1 (by decide) ?_ | refine shr16 (by decide) ?_ | refine shr24 (by decide) ?_) | (with_reducible first | refine bit_mk and_1 ?_ | refine bit_mk and_15 ?_ | refine bit_mk and_255 ?_ | refine bit_mk and_4095 ?_ | refine bit_mk and_65535 ?_) | (refine quo_pos (by omega) (by omega) (by omega) ?_) | (refine rem_pos (by omega) (by omega) ?_)))
  exact end_p (VS.mk (LeD.refl _))


end Go.Proofs.Ytmeigmpjpkinoaa

namespace Go.Proofs.Ytmeigmpjpkinoaa
open Go Go.Plat
set_option linter.unusedVariables false
set_option linter.unusedSimpArgs false
set_option maxRecDepth 100000
set_option maxHeartbeats 2000000
attribute [local irreducible] NilS LookS NormM bitI BytesS NormL Arith QuoS RemS ShlS ShrS BitS CatS SplitS SideS IdxS CallS LoopEnd EndS ModeS DrawS AWP Meets

structure OSym where
  name : List UInt8
  at_ : Int
  deriving DecidableEq
structure ORel where
  at_ : Int
  size : Int
  name : List UInt8
  add : Int
  deriving DecidableEq
structure OObj where
  code : List UInt8
  syms : List OSym
  rels : List ORel
  deriving DecidableEq
def symD (s : OSym) : D := .agg [.str s.name, .int .i64 s.at_]
def relD (r : ORel) : D := .agg [.int .i64 r.at_, .int .i64 r.size, .str r.name, .int .i64 r.add]
def objD (o : OObj) : D := .agg [bytesD o.code, .sl 2 (o.syms.map symD) none, .sl 4 (o.rels.map relD) none]

def symsW (n : Int) : List OSym → List (List UInt8) → Option Int
  | [], _ => none
  | s :: l, had => if nameB s.name = false ∨ s.name ∈ had then some 7 else if s.at_ < 0 ∨ n < s.at_ then some 3 else symsW n l (s.name :: had)
def relsW (n : Int) : List ORel → Int → Int
  | [], _ => 0
  | r :: l, last => if r.size ≠ 2 ∧ r.size ≠ 4 then 1 else if r.at_ < last ∨ n - r.size < r.at_ then 3 else if r.at_ % r.size ≠ 0 then 11 else if r.name ≠ [] ∧ nameB r.name = false then 7 else if signedI r.add 32 ≠ r.add then 3 else relsW n l (r.at_ + r.size)
def wrongO (o : OObj) : Int := if 8000 < o.code.length ∨ 255 < o.syms.length ∨ 16000 < o.rels.length then 4 else match symsW o.code.length o.syms [] with
  | some e => e
  | none => relsW o.code.length o.rels 0

def hadM (l : List OSym) : List (D × D) := l.map fun s => (.str s.name, .tt)
theorem hadM_keys (l : List OSym) : ∀ p ∈ hadM l, keyOk .str p.1 = true := by
  intro p hp
  obtain ⟨r, _, rfl⟩ := List.mem_map.1 hp
  rfl
theorem hadM_ren {m : Nat → Option Nat} (l : List OSym) : ∀ p ∈ hadM l, RenOf m p.2 p.2 := by
  intro p hp
  obtain ⟨r, _, rfl⟩ := List.mem_map.1 hp
  exact renOf_pure trivial
theorem idx_had (n : List UInt8) : ∀ l : List OSym, (¬ n ∈ l.map (·.name)) → idxM (.str n) (hadM l) = none
  | [], _ => rfl
  | s :: l, h => by
    have h1 : (n == s.name) = false := beq_eq_false_iff_ne.2 fun e => h (by simp [e])
    simp only [hadM, List.map_cons, idxM, keyB, h1]
    have := idx_had n l fun hm => h (by simp at hm ⊢; exact .inr hm)
    unfold hadM at this
    rw [this]
    rfl
theorem get_had {n : List UInt8} : ∀ {l : List OSym}, n ∈ l.map (·.name) → getM (.str n) (hadM l) = some .tt
  | [], h => by simp at h
  | s :: l, h => by
    by_cases h1 : n = s.name
    · subst h1
      simp [getM, hadM, idxM, keyB]
    · have h2 : (n == s.name) = false := beq_eq_false_iff_ne.2 h1
      have h3 : n ∈ l.map (·.name) := by
        simp only [List.map_cons, List.mem_cons] at h
        exact h.resolve_left h1
      have := get_had h3
      unfold getM hadM at this ⊢
      simp only [List.map_cons, idxM, keyB, h2]
      revert this
      cases idxM (.str n) (l.map fun s => (D.str s.name, D.tt)) with
      | none => intro h; cases h
      | some j => intro h; simpa using h
theorem none_had {n : List UInt8} {l : List OSym} (h : ¬ n ∈ l.map (·.name)) : getM (.str n) (hadM l) = none := by unfold getM; rw [idx_had n l h]; rfl
theorem set_had {s : OSym} {l : List OSym} (h : ¬ s.name ∈ l.map (·.name)) : setM (.str s.name) .tt (hadM l) = hadM (l ++ [s]) := by
  rw [setM_none (idx_had _ _ h)]
  simp [hadM]

theorem renM_had {m : Nat → Option Nat} {K : Prop} (l : List OSym) (h : K) : RenM m (hadM l) K := ⟨hadM_ren l, h⟩
theorem renM_nil {m : Nat → Option Nat} {K : Prop} (h : K) : RenM m [] K := ⟨by simp, h⟩
theorem hadM_nil : hadM [] = [] := rfl

attribute [local irreducible] letterB digitB kindB nameB hadM RenM signedI

theorem owrong_meets : Meets Try.prog n_obj_Wrong (SpecP (fun o : OObj => (∀ r ∈ o.rels, -9223372036854775808 ≤ r.at_ ∧ r.at_ ≤ 9223372036854775807 ∧ r.name.length ≤ 1000000000) ∧ ∀ s ∈ o.syms, s.name.length ≤ 1000000000) (fun o => [objD o]) fun o => .int .i64 (wrongO o)) := by
  refine meets_f tabOk Try.func13 rfl (by decide) ?_
  rintro o ⟨ho, hs⟩
  refine ⟨Nat.le_refl _, by simp [Try.f13], fun E hE => ?_⟩
  refine vcOk _ ?_
  (repeat' (first | (refine VS.mk ?_) | (refine dr_mk ?_) | (refine md_l ?_) | ((first | refine sp_not_dec ?_ ?_ | refine sp_dec ?_ ?_ | refine sp_beq ?_ ?_ | refine sp_bne ?_ ?_ | refine sp_seq ?_ ?_ | refine sp_sne ?_ ?_ | refine sp_not ?_ ?_ | refine sp_any ?_ ?_) <;> (intro hc; try simp only [List.length_map, List.length_append, List.length_cons, List.length_nil, Bool.and_true, Bool.and_eq_true, beq_iff_eq, Bool.and_eq_false_iff, beq_eq_false_iff_ne, Bool.true_and, ne_eq] at hc)) | (with_reducible first | refine norm_one ?_ | refine norm_app ?_ | refine norm_cutEnd ?_ | refine norm_cut ?_ | refine norm_bytes1 ?_ | refine norm_bytes2 ?_ | refine norm_setByte ?_ | refine norm_int1 ?_ | refine norm_mk ?_) | (with_reducible refine bytes_mk ?_) | (refine ar_byte ?_) | (refine ar_i64 (by omega) (by omega) ?_) | (refine ar_low ?_) | (refine ix_byteN (by omega) ?_) | (refine ix_byteK (by simp only [Int.reduceToNat]; exact rfl) (by decide) (by omega) ?_) | (refine ix_byte (by omega) (by omega) ?_) | (refine ix_rfl (by decide) rfl ?_) | (refine sd_mk rfl ?_) | (refine sd_mk (by decide +kernel) ?_) | (refine sd_mk (by first | (simp only [List.length_map, List.length_append, List.length_cons, List.length_nil]; done) | ((try simp only [List.length_map, List.length_append, List.length_cons, List.length_nil, List.length_set, List.length_replicate, List.length_drop, List.length_take, true_and, and_true]); omega) | (dsimp only; omega)) ?_) | (first | refine shl8 (by omega) (by omega) ?_ | refine shl4 (by omega) (by omega) ?_ | refine shl1 (by omega) (by omega) ?_ | refine shl16 (by omega) (by omega) ?_ | refine shl24 (by omega) (by omega) ?_ | refine shr8 (by decide) ?_ | refine shr4 (by decide) ?_ | refine shr1 (by decide) ?_ | refine shr16 (by decide) ?_ | refine shr24 (by decide) ?_) | (with_reducible first | refine bit_mk and_1 ?_ | refine bit_mk and_15 ?_ | refine bit_mk and_255 ?_ | refine bit_mk and_4095 ?_ | refine bit_mk and_65535 ?_) | (refine quo_pos (by omega) (by omega) (by omega) ?_) | (refine rem_pos (by omega) (by omega) ?_)))
  · refine end_p (VS.mk (LeD.of_eq (congrArg (D.int .i64) ?_)))
    unfold wrongO; rw [if_pos (by omega)]
  · refine end_p (VS.mk (LeD.of_eq (congrArg (D.int .i64) ?_)))
    unfold wrongO; rw [if_pos (by omega)]
  · refine end_p (VS.mk (LeD.of_eq (congrArg (D.int .i64) ?_)))
    unfold wrongO; rw [if_pos (by omega)]
  have hw : wrongO o = match symsW o.code.length o.syms [] with
      | some e => e
      | none => relsW o.code.length o.rels 0 := by unfold wrongO; rw [if_neg (by omega)]
  refine awp_loop (α := Nat) (fun k => k ≤ o.syms.length ∧ symsW o.code.length o.syms [] = symsW o.code.length (o.syms.drop k) ((o.syms.take k).map (·.name)).reverse)
    (fun k => [(27, .sl 2 (o.syms.map symD) none), (28, .int .i64 o.syms.length), (29, .int .i64 k), (1, .loc 0 0), (3, .mp 1)])
    (fun k => [.cells [bytesD o.code, .sl 2 (o.syms.map symD) none, .sl 4 (o.rels.map relD) none], .map (hadM (o.syms.take k))]) (fun k => o.syms.length - k) (fun _ => by simp [hE]) 0 ⟨Nat.zero_le _, by simp⟩ ?_ ?_
  · (repeat' (first | (refine VS.mk ?_) | exact trivial | exact rfl | refine And.intro ?_ ?_))
    refine renM_nil ?_
    refine VS.mk ?_
    rw [List.take_zero, hadM_nil]
    rfl
  rintro k ⟨hk, hsw⟩
  refine vcOk _ ?_
  (repeat' (first | (refine VS.mk ?_) | (refine dr_mk ?_) | (refine md_l ?_) | ((first | refine sp_not_dec ?_ ?_ | refine sp_dec ?_ ?_ | refine sp_beq ?_ ?_ | refine sp_bne ?_ ?_ | refine sp_seq ?_ ?_ | refine sp_sne ?_ ?_ | refine sp_not ?_ ?_ | refine sp_any ?_ ?_) <;> (intro hc; try simp only [List.length_map, List.length_append, List.length_cons, List.length_nil, Bool.and_true, Bool.and_eq_true, beq_iff_eq, Bool.and_eq_false_iff, beq_eq_false_iff_ne, Bool.true_and, ne_eq] at hc)) | (with_reducible first | refine norm_one ?_ | refine norm_app ?_ | refine norm_cutEnd ?_ | refine norm_cut ?_ | refine norm_bytes1 ?_ | refine norm_bytes2 ?_ | refine norm_setByte ?_ | refine norm_int1 ?_ | refine norm_mk ?_) | (with_reducible refine bytes_mk ?_) | (refine ar_byte ?_) | (refine ar_i64 (by omega) (by omega) ?_) | (refine ar_low ?_) | (refine ix_byteN (by omega) ?_) | (refine ix_byteK (by simp only [Int.reduceToNat]; exact rfl) (by decide) (by omega) ?_) | (refine ix_byte (by omega) (by omega) ?_) | (refine ix_rfl (by decide) rfl ?_) | (refine sd_mk rfl ?_) | (refine sd_mk (by decide +kernel) ?_) | (refine sd_mk (by first | (simp only [List.length_map, List.length_append, List.length_cons, List.length_nil]; done) | ((try simp only [List.length_map, List.length_append, List.length_cons, List.length_nil, List.length_set, List.length_replicate, List.length_drop, List.length_take, true_and, and_true]); omega) | (dsimp only; omega)) ?_) | (first | refine shl8 (by omega) (by omega) ?_ | refine shl4 (by omega) (by omega) ?_ | refine shl1 (by omega) (by omega) ?_ | refine shl16 (by omega) (by omega) ?_ | refine shl24 (by omega) (by omega) ?_ | refine shr8 (by decide) ?_ | refine shr4 (by decide) ?_ | refine shr1 (by decide) ?_ | refine shr16 (by decide) ?_ | refine shr24 (by decide) ?_) | (with_reducible first | refine bit_mk and_1 ?_ | refine bit_mk and_15 ?_ | refine bit_mk and_255 ?_ | refine bit_mk and_4095 ?_ | refine bit_mk and_65535 ?_) | (refine quo_pos (by omega) (by omega) (by omega) ?_) | (refine rem_pos (by omega) (by omega) ?_)))
  · obtain ⟨s, hsk⟩ := at_of_lt (l := o.syms) (k := k) (by omega)
    have hkl : k < o.syms.length := by omega
    have hsm := hs s (List.mem_of_getElem? hsk)
    have hget : o.syms[k] = s := by rw [List.getElem?_eq_getElem hkl] at hsk; exact Option.some.inj hsk
    rw [List.drop_eq_getElem_cons hkl, hget] at hsw
    have htake : o.syms.take (k + 1) = o.syms.take k ++ [s] := by rw [List.take_succ_eq_append_getElem hkl, hget]
    have hmem : ∀ n : List UInt8, n ∈ ((o.syms.take k).map (·.name)).reverse ↔ n ∈ (o.syms.take k).map (·.name) := fun n => List.mem_reverse
    refine ix_map s (by omega) (by simpa using hsk) ?_
    (repeat' (first | (refine VS.mk ?_) | (refine dr_mk ?_) | (refine md_l ?_) | ((first | refine sp_not_dec ?_ ?_ | refine sp_dec ?_ ?_ | refine sp_beq ?_ ?_ | refine sp_bne ?_ ?_ | refine sp_seq ?_ ?_ | refine sp_sne ?_ ?_ | refine sp_not ?_ ?_ | refine sp_any ?_ ?_) <;> (intro hc; try simp only [List.length_map, List.length_append, List.length_cons, List.length_nil, Bool.and_true, Bool.and_eq_true, beq_iff_eq, Bool.and_eq_false_iff, beq_eq_false_iff_ne, Bool.true_and, ne_eq] at hc)) | (with_reducible first | refine norm_one ?_ | refine norm_app ?_ | refine norm_cutEnd ?_ | refine norm_cut ?_ | refine norm_bytes1 ?_ | refine norm_bytes2 ?_ | refine norm_setByte ?_ | refine norm_int1 ?_ | refine norm_mk ?_) | (with_reducible refine bytes_mk ?_) | (refine ar_byte ?_) | (refine ar_i64 (by omega) (by omega) ?_) | (refine ar_low ?_) | (refine ix_byteN (by omega) ?_) | (refine ix_byteK (by simp only [Int.reduceToNat]; exact rfl) (by decide) (by omega) ?_) | (refine ix_byte (by omega) (by omega) ?_) | (refine ix_rfl (by decide) rfl ?_) | (refine sd_mk rfl ?_) | (refine sd_mk (by decide +kernel) ?_) | (refine sd_mk (by first | (simp only [List.length_map, List.length_append, List.length_cons, List.length_nil]; done) | ((try simp only [List.length_map, List.length_append, List.length_cons, List.length_nil, List.length_set, List.length_replicate, List.length_drop, List.length_take, true_and, and_true]); omega) | (dsimp only; omega)) ?_) | (first | refine shl8 (by omega) (by omega) ?_ | refine shl4 (by omega) (by omega) ?_ | refine shl1 (by omega) (by omega) ?_ | refine shl16 (by omega) (by omega) ?_ | refine shl24 (by omega) (by omega) ?_ | refine shr8 (by decide) ?_ | refine shr4 (by decide) ?_ | refine shr1 (by decide) ?_ | refine shr16 (by decide) ?_ | refine shr24 (by decide) ?_) | (with_reducible first | refine bit_mk and_1 ?_ | refine bit_mk and_15 ?_ | refine bit_mk and_255 ?_ | refine bit_mk and_4095 ?_ | refine bit_mk and_65535 ?_) | (refine quo_pos (by omega) (by omega) (by omega) ?_) | (refine rem_pos (by omega) (by omega) ?_)))
    refine call_p name_meets s.name hsm (VS.mk (by (first | exact LeL.refl _ | (repeat' (first | exact LeL.nil | exact LeD.refl _ | exact LeD.nil _ | exact LeD.strip _ _ _ | refine LeL.cons ?_ ?_ | refine LeD.tup ?_ | refine LeD.agg ?_))))) ?_
    (repeat' (first | (refine VS.mk ?_) | (refine dr_mk ?_) | (refine md_l ?_) | ((first | refine sp_not_dec ?_ ?_ | refine sp_dec ?_ ?_ | refine sp_beq ?_ ?_ | refine sp_bne ?_ ?_ | refine sp_seq ?_ ?_ | refine sp_sne ?_ ?_ | refine sp_not ?_ ?_ | refine sp_any ?_ ?_) <;> (intro hc; try simp only [List.length_map, List.length_append, List.length_cons, List.length_nil, Bool.and_true, Bool.and_eq_true, beq_iff_eq, Bool.and_eq_false_iff, beq_eq_false_iff_ne, Bool.true_and, ne_eq] at hc)) | (with_reducible first | refine norm_one ?_ | refine norm_app ?_ | refine norm_cutEnd ?_ | refine norm_cut ?_ | refine norm_bytes1 ?_ | refine norm_bytes2 ?_ | refine norm_setByte ?_ | refine norm_int1 ?_ | refine norm_mk ?_) | (with_reducible refine bytes_mk ?_) | (refine ar_byte ?_) | (refine ar_i64 (by omega) (by omega) ?_) | (refine ar_low ?_) | (refine ix_byteN (by omega) ?_) | (refine ix_byteK (by simp only [Int.reduceToNat]; exact rfl) (by decide) (by omega) ?_) | (refine ix_byte (by omega) (by omega) ?_) | (refine ix_rfl (by decide) rfl ?_) | (refine sd_mk rfl ?_) | (refine sd_mk (by decide +kernel) ?_) | (refine sd_mk (by first | (simp only [List.length_map, List.length_append, List.length_cons, List.length_nil]; done) | ((try simp only [List.length_map, List.length_append, List.length_cons, List.length_nil, List.length_set, List.length_replicate, List.length_drop, List.length_take, true_and, and_true]); omega) | (dsimp only; omega)) ?_) | (first | refine shl8 (by omega) (by omega) ?_ | refine shl4 (by omega) (by omega) ?_ | refine shl1 (by omega) (by omega) ?_ | refine shl16 (by omega) (by omega) ?_ | refine shl24 (by omega) (by omega) ?_ | refine shr8 (by decide) ?_ | refine shr4 (by decide) ?_ | refine shr1 (by decide) ?_ | refine shr16 (by decide) ?_ | refine shr24 (by decide) ?_) | (with_reducible first | refine bit_mk and_1 ?_ | refine bit_mk and_15 ?_ | refine bit_mk and_255 ?_ | refine bit_mk and_4095 ?_ | refine bit_mk and_65535 ?_) | (refine quo_pos (by omega) (by omega) (by omega) ?_) | (refine rem_pos (by omega) (by omega) ?_)))
    · refine end_p (VS.mk (LeD.of_eq (congrArg (D.int .i64) ?_)))
      rw [hw, hsw, symsW, if_pos (.inl hc)]
    refine sd_mk (hadM_keys _) ?_
    refine VS.mk ?_
    by_cases hin : s.name ∈ (o.syms.take k).map (·.name)
    · refine lk_some (get_had hin) ?_
      (repeat' (first | (refine VS.mk ?_) | (refine dr_mk ?_) | (refine md_l ?_) | ((first | refine sp_not_dec ?_ ?_ | refine sp_dec ?_ ?_ | refine sp_beq ?_ ?_ | refine sp_bne ?_ ?_ | refine sp_seq ?_ ?_ | refine sp_sne ?_ ?_ | refine sp_not ?_ ?_ | refine sp_any ?_ ?_) <;> (intro hc; try simp only [List.length_map, List.length_append, List.length_cons, List.length_nil, Bool.and_true, Bool.and_eq_true, beq_iff_eq, Bool.and_eq_false_iff, beq_eq_false_iff_ne, Bool.true_and, ne_eq] at hc)) | (with_reducible first | refine norm_one ?_ | refine norm_app ?_ | refine norm_cutEnd ?_ | refine norm_cut ?_ | refine norm_bytes1 ?_ | refine norm_bytes2 ?_ | refine norm_setByte ?_ | refine norm_int1 ?_ | refine norm_mk ?_) | (with_reducible refine bytes_mk ?_) | (refine ar_byte ?_) | (refine ar_i64 (by omega) (by omega) ?_) | (refine ar_low ?_) | (refine ix_byteN (by omega) ?_) | (refine ix_byteK (by simp only [Int.reduceToNat]; exact rfl) (by decide) (by omega) ?_) | (refine ix_byte (by omega) (by omega) ?_) | (refine ix_rfl (by decide) rfl ?_) | (refine sd_mk rfl ?_) | (refine sd_mk (by decide +kernel) ?_) | (refine sd_mk (by first | (simp only [List.length_map, List.length_append, List.length_cons, List.length_nil]; done) | ((try simp only [List.length_map, List.length_append, List.length_cons, List.length_nil, List.length_set, List.length_replicate, List.length_drop, List.length_take, true_and, and_true]); omega) | (dsimp only; omega)) ?_) | (first | refine shl8 (by omega) (by omega) ?_ | refine shl4 (by omega) (by omega) ?_ | refine shl1 (by omega) (by omega) ?_ | refine shl16 (by omega) (by omega) ?_ | refine shl24 (by omega) (by omega) ?_ | refine shr8 (by decide) ?_ | refine shr4 (by decide) ?_ | refine shr1 (by decide) ?_ | refine shr16 (by decide) ?_ | refine shr24 (by decide) ?_) | (with_reducible first | refine bit_mk and_1 ?_ | refine bit_mk and_15 ?_ | refine bit_mk and_255 ?_ | refine bit_mk and_4095 ?_ | refine bit_mk and_65535 ?_) | (refine quo_pos (by omega) (by omega) (by omega) ?_) | (refine rem_pos (by omega) (by omega) ?_)))
      any_goals (refine end_p (VS.mk (LeD.of_eq (congrArg (D.int .i64) ?_))))
      any_goals rw [hw, hsw, symsW, if_pos (.inr ((hmem _).2 hin))]

    · refine lk_none (none_had hin) ?_
      (repeat' (first | (refine VS.mk ?_) | (refine dr_mk ?_) | (refine md_l ?_) | ((first | refine sp_not_dec ?_ ?_ | refine sp_dec ?_ ?_ | refine sp_beq ?_ ?_ | refine sp_bne ?_ ?_ | refine sp_seq ?_ ?_ | refine sp_sne ?_ ?_ | refine sp_not ?_ ?_ | refine sp_any ?_ ?_) <;> (intro hc; try simp only [List.length_map, List.length_append, List.length_cons, List.length_nil, Bool.and_true, Bool.and_eq_true, beq_iff_eq, Bool.and_eq_false_iff, beq_eq_false_iff_ne, Bool.true_and, ne_eq] at hc)) | (with_reducible first | refine norm_one ?_ | refine norm_app ?_ | refine norm_cutEnd ?_ | refine norm_cut ?_ | refine norm_bytes1 ?_ | refine norm_bytes2 ?_ | refine norm_setByte ?_ | refine norm_int1 ?_ | refine norm_mk ?_) | (with_reducible refine bytes_mk ?_) | (refine ar_byte ?_) | (refine ar_i64 (by omega) (by omega) ?_) | (refine ar_low ?_) | (refine ix_byteN (by omega) ?_) | (refine ix_byteK (by simp only [Int.reduceToNat]; exact rfl) (by decide) (by omega) ?_) | (refine ix_byte (by omega) (by omega) ?_) | (refine ix_rfl (by decide) rfl ?_) | (refine sd_mk rfl ?_) | (refine sd_mk (by decide +kernel) ?_) | (refine sd_mk (by first | (simp only [List.length_map, List.length_append, List.length_cons, List.length_nil]; done) | ((try simp only [List.length_map, List.length_append, List.length_cons, List.length_nil, List.length_set, List.length_replicate, List.length_drop, List.length_take, true_and, and_true]); omega) | (dsimp only; omega)) ?_) | (first | refine shl8 (by omega) (by omega) ?_ | refine shl4 (by omega) (by omega) ?_ | refine shl1 (by omega) (by omega) ?_ | refine shl16 (by omega) (by omega) ?_ | refine shl24 (by omega) (by omega) ?_ | refine shr8 (by decide) ?_ | refine shr4 (by decide) ?_ | refine shr1 (by decide) ?_ | refine shr16 (by decide) ?_ | refine shr24 (by decide) ?_) | (with_reducible first | refine bit_mk and_1 ?_ | refine bit_mk and_15 ?_ | refine bit_mk and_255 ?_ | refine bit_mk and_4095 ?_ | refine bit_mk and_65535 ?_) | (refine quo_pos (by omega) (by omega) (by omega) ?_) | (refine rem_pos (by omega) (by omega) ?_)))
      refine sd_mk (hadM_keys _) ?_
      refine VS.mk ?_
      refine norm_m (set_had hin) ?_
      have hstep : ¬ (nameB s.name = false ∨ s.name ∈ ((o.syms.take k).map (·.name)).reverse) := by
        rintro (h | h)
        · rw [hc] at h; cases h
        · exact hin ((hmem _).1 h)
      (repeat' (first | (refine VS.mk ?_) | (refine dr_mk ?_) | (refine md_l ?_) | ((first | refine sp_not_dec ?_ ?_ | refine sp_dec ?_ ?_ | refine sp_beq ?_ ?_ | refine sp_bne ?_ ?_ | refine sp_seq ?_ ?_ | refine sp_sne ?_ ?_ | refine sp_not ?_ ?_ | refine sp_any ?_ ?_) <;> (intro hc; try simp only [List.length_map, List.length_append, List.length_cons, List.length_nil, Bool.and_true, Bool.and_eq_true, beq_iff_eq, Bool.and_eq_false_iff, beq_eq_false_iff_ne, Bool.true_and, ne_eq] at hc)) | (with_reducible first | refine norm_one ?_ | refine norm_app ?_ | refine norm_cutEnd ?_ | refine norm_cut ?_ | refine norm_bytes1 ?_ | refine norm_bytes2 ?_ | refine norm_setByte ?_ | refine norm_int1 ?_ | refine norm_mk ?_) | (with_reducible refine bytes_mk ?_) | (refine ar_byte ?_) | (refine ar_i64 (by omega) (by omega) ?_) | (refine ar_low ?_) | (refine ix_byteN (by omega) ?_) | (refine ix_byteK (by simp only [Int.reduceToNat]; exact rfl) (by decide) (by omega) ?_) | (refine ix_byte (by omega) (by omega) ?_) | (refine ix_rfl (by decide) rfl ?_) | (refine sd_mk rfl ?_) | (refine sd_mk (by decide +kernel) ?_) | (refine sd_mk (by first | (simp only [List.length_map, List.length_append, List.length_cons, List.length_nil]; done) | ((try simp only [List.length_map, List.length_append, List.length_cons, List.length_nil, List.length_set, List.length_replicate, List.length_drop, List.length_take, true_and, and_true]); omega) | (dsimp only; omega)) ?_) | (first | refine shl8 (by omega) (by omega) ?_ | refine shl4 (by omega) (by omega) ?_ | refine shl1 (by omega) (by omega) ?_ | refine shl16 (by omega) (by omega) ?_ | refine shl24 (by omega) (by omega) ?_ | refine shr8 (by decide) ?_ | refine shr4 (by decide) ?_ | refine shr1 (by decide) ?_ | refine shr16 (by decide) ?_ | refine shr24 (by decide) ?_) | (with_reducible first | refine bit_mk and_1 ?_ | refine bit_mk and_15 ?_ | refine bit_mk and_255 ?_ | refine bit_mk and_4095 ?_ | refine bit_mk and_65535 ?_) | (refine quo_pos (by omega) (by omega) (by omega) ?_) | (refine rem_pos (by omega) (by omega) ?_)))
      · refine end_p (VS.mk (LeD.of_eq (congrArg (D.int .i64) ?_)))
        rw [hw, hsw, symsW, if_neg hstep, if_pos (.inl hc)]
      · refine end_p (VS.mk (LeD.of_eq (congrArg (D.int .i64) ?_)))
        rw [hw, hsw, symsW, if_neg hstep, if_pos (.inr hc)]
      · have hnew : symsW o.code.length o.syms [] = symsW o.code.length (o.syms.drop (k + 1)) ((o.syms.take (k + 1)).map (·.name)).reverse := by
          rw [hsw, symsW, if_neg hstep, if_neg (by omega), htake]
          simp
        refine loop_end (k + 1) ⟨by omega, hnew⟩ (by omega) ?_
        rw [htake]
        (repeat' (first | (refine VS.mk ?_) | exact trivial | exact rfl | refine And.intro ?_ ?_))
        refine renM_had _ ?_
        refine VS.mk ?_
        rfl
  · obtain rfl : k = o.syms.length := by omega
    rw [List.drop_length, symsW] at hsw
    rw [hsw] at hw
    have hw : wrongO o = relsW o.code.length o.rels 0 := hw
    refine awp_loop (α := Nat × Int) (fun p => p.1 ≤ o.rels.length ∧ 0 ≤ p.2 ∧ p.2 ≤ 8000 ∧ relsW o.code.length o.rels 0 = relsW o.code.length (o.rels.drop p.1) p.2)
      (fun p => [(59, .sl 4 (o.rels.map relD) none), (60, .int .i64 o.rels.length), (61, .int .i64 p.1), (1, .loc 0 0), (6, .int .i64 p.2)])
      (fun _ => [.cells [bytesD o.code, .sl 2 (o.syms.map symD) none, .sl 4 (o.rels.map relD) none]]) (fun p => o.rels.length - p.1) (fun _ => by simp [hE]) (0, 0) ⟨Nat.zero_le _, by decide, by decide, by simp⟩ ?_ ?_
    · (repeat' (first | (refine VS.mk ?_) | exact trivial | exact rfl | refine And.intro ?_ ?_))
    rintro ⟨k, last⟩ ⟨hk, hl0, hl1, hrw⟩
    dsimp only at hk hl0 hl1 hrw ⊢
    refine vcOk _ ?_
    (repeat' (first | (refine VS.mk ?_) | (refine dr_mk ?_) | (refine md_l ?_) | ((first | refine sp_not_dec ?_ ?_ | refine sp_dec ?_ ?_ | refine sp_beq ?_ ?_ | refine sp_bne ?_ ?_ | refine sp_seq ?_ ?_ | refine sp_sne ?_ ?_ | refine sp_not ?_ ?_ | refine sp_any ?_ ?_) <;> (intro hc; try simp only [List.length_map, List.length_append, List.length_cons, List.length_nil, Bool.and_true, Bool.and_eq_true, beq_iff_eq, Bool.and_eq_false_iff, beq_eq_false_iff_ne, Bool.true_and, ne_eq] at hc)) | (with_reducible first | refine norm_one ?_ | refine norm_app ?_ | refine norm_cutEnd ?_ | refine norm_cut ?_ | refine norm_bytes1 ?_ | refine norm_bytes2 ?_ | refine norm_setByte ?_ | refine norm_int1 ?_ | refine norm_mk ?_) | (with_reducible refine bytes_mk ?_) | (refine ar_byte ?_) | (refine ar_i64 (by omega) (by omega) ?_) | (refine ar_low ?_) | (refine ix_byteN (by omega) ?_) | (refine ix_byteK (by simp only [Int.reduceToNat]; exact rfl) (by decide) (by omega) ?_) | (refine ix_byte (by omega) (by omega) ?_) | (refine ix_rfl (by decide) rfl ?_) | (refine sd_mk rfl ?_) | (refine sd_mk (by decide +kernel) ?_) | (refine sd_mk (by first | (simp only [List.length_map, List.length_append, List.length_cons, List.length_nil]; done) | ((try simp only [List.length_map, List.length_append, List.length_cons, List.length_nil, List.length_set, List.length_replicate, List.length_drop, List.length_take, true_and, and_true]); omega) | (dsimp only; omega)) ?_) | (first | refine shl8 (by omega) (by omega) ?_ | refine shl4 (by omega) (by omega) ?_ | refine shl1 (by omega) (by omega) ?_ | refine shl16 (by omega) (by omega) ?_ | refine shl24 (by omega) (by omega) ?_ | refine shr8 (by decide) ?_ | refine shr4 (by decide) ?_ | refine shr1 (by decide) ?_ | refine shr16 (by decide) ?_ | refine shr24 (by decide) ?_) | (with_reducible first | refine bit_mk and_1 ?_ | refine bit_mk and_15 ?_ | refine bit_mk and_255 ?_ | refine bit_mk and_4095 ?_ | refine bit_mk and_65535 ?_) | (refine quo_pos (by omega) (by omega) (by omega) ?_) | (refine rem_pos (by omega) (by omega) ?_)))
    · obtain ⟨r, hrk⟩ := at_of_lt (l := o.rels) (k := k) (by omega)
      have hkl : k < o.rels.length := by omega
      obtain ⟨hr1, hr2, hr3⟩ := ho r (List.mem_of_getElem? hrk)
      have hget : o.rels[k] = r := by rw [List.getElem?_eq_getElem hkl] at hrk; exact Option.some.inj hrk
      rw [List.drop_eq_getElem_cons hkl, hget] at hrw
      rw [hrw, relsW] at hw
      refine ix_map r (by omega) (by simpa using hrk) ?_
      (repeat' (first | (refine VS.mk ?_) | (refine dr_mk ?_) | (refine md_l ?_) | ((first | refine sp_not_dec ?_ ?_ | refine sp_dec ?_ ?_ | refine sp_beq ?_ ?_ | refine sp_bne ?_ ?_ | refine sp_seq ?_ ?_ | refine sp_sne ?_ ?_ | refine sp_not ?_ ?_ | refine sp_any ?_ ?_) <;> (intro hc; try simp only [List.length_map, List.length_append, List.length_cons, List.length_nil, Bool.and_true, Bool.and_eq_true, beq_iff_eq, Bool.and_eq_false_iff, beq_eq_false_iff_ne, Bool.true_and, ne_eq] at hc)) | (with_reducible first | refine norm_one ?_ | refine norm_app ?_ | refine norm_cutEnd ?_ | refine norm_cut ?_ | refine norm_bytes1 ?_ | refine norm_bytes2 ?_ | refine norm_setByte ?_ | refine norm_int1 ?_ | refine norm_mk ?_) | (with_reducible refine bytes_mk ?_) | (refine ar_byte ?_) | (refine ar_i64 (by omega) (by omega) ?_) | (refine ar_low ?_) | (refine ix_byteN (by omega) ?_) | (refine ix_byteK (by simp only [Int.reduceToNat]; exact rfl) (by decide) (by omega) ?_) | (refine ix_byte (by omega) (by omega) ?_) | (refine ix_rfl (by decide) rfl ?_) | (refine sd_mk rfl ?_) | (refine sd_mk (by decide +kernel) ?_) | (refine sd_mk (by first | (simp only [List.length_map, List.length_append, List.length_cons, List.length_nil]; done) | ((try simp only [List.length_map, List.length_append, List.length_cons, List.length_nil, List.length_set, List.length_replicate, List.length_drop, List.length_take, true_and, and_true]); omega) | (dsimp only; omega)) ?_) | (first | refine shl8 (by omega) (by omega) ?_ | refine shl4 (by omega) (by omega) ?_ | refine shl1 (by omega) (by omega) ?_ | refine shl16 (by omega) (by omega) ?_ | refine shl24 (by omega) (by omega) ?_ | refine shr8 (by decide) ?_ | refine shr4 (by decide) ?_ | refine shr1 (by decide) ?_ | refine shr16 (by decide) ?_ | refine shr24 (by decide) ?_) | (with_reducible first | refine bit_mk and_1 ?_ | refine bit_mk and_15 ?_ | refine bit_mk and_255 ?_ | refine bit_mk and_4095 ?_ | refine bit_mk and_65535 ?_) | (refine quo_pos (by omega) (by omega) (by omega) ?_) | (refine rem_pos (by omega) (by omega) ?_)))
      any_goals (refine call_p name_meets r.name hr3 (VS.mk (LeL.of_eq rfl)) ?_)
      (repeat' (first | (refine VS.mk ?_) | (refine dr_mk ?_) | (refine md_l ?_) | ((first | refine sp_not_dec ?_ ?_ | refine sp_dec ?_ ?_ | refine sp_beq ?_ ?_ | refine sp_bne ?_ ?_ | refine sp_seq ?_ ?_ | refine sp_sne ?_ ?_ | refine sp_not ?_ ?_ | refine sp_any ?_ ?_) <;> (intro hc; try simp only [List.length_map, List.length_append, List.length_cons, List.length_nil, Bool.and_true, Bool.and_eq_true, beq_iff_eq, Bool.and_eq_false_iff, beq_eq_false_iff_ne, Bool.true_and, ne_eq] at hc)) | (with_reducible first | refine norm_one ?_ | refine norm_app ?_ | refine norm_cutEnd ?_ | refine norm_cut ?_ | refine norm_bytes1 ?_ | refine norm_bytes2 ?_ | refine norm_setByte ?_ | refine norm_int1 ?_ | refine norm_mk ?_) | (with_reducible refine bytes_mk ?_) | (refine ar_byte ?_) | (refine ar_i64 (by omega) (by omega) ?_) | (refine ar_low ?_) | (refine ix_byteN (by omega) ?_) | (refine ix_byteK (by simp only [Int.reduceToNat]; exact rfl) (by decide) (by omega) ?_) | (refine ix_byte (by omega) (by omega) ?_) | (refine ix_rfl (by decide) rfl ?_) | (refine sd_mk rfl ?_) | (refine sd_mk (by decide +kernel) ?_) | (refine sd_mk (by first | (simp only [List.length_map, List.length_append, List.length_cons, List.length_nil]; done) | ((try simp only [List.length_map, List.length_append, List.length_cons, List.length_nil, List.length_set, List.length_replicate, List.length_drop, List.length_take, true_and, and_true]); omega) | (dsimp only; omega)) ?_) | (first | refine shl8 (by omega) (by omega) ?_ | refine shl4 (by omega) (by omega) ?_ | refine shl1 (by omega) (by omega) ?_ | refine shl16 (by omega) (by omega) ?_ | refine shl24 (by omega) (by omega) ?_ | refine shr8 (by decide) ?_ | refine shr4 (by decide) ?_ | refine shr1 (by decide) ?_ | refine shr16 (by decide) ?_ | refine shr24 (by decide) ?_) | (with_reducible first | refine bit_mk and_1 ?_ | refine bit_mk and_15 ?_ | refine bit_mk and_255 ?_ | refine bit_mk and_4095 ?_ | refine bit_mk and_65535 ?_) | (refine quo_pos (by omega) (by omega) (by omega) ?_) | (refine rem_pos (by omega) (by omega) ?_)))
      any_goals (refine call_p signed_meets2 r.add trivial (VS.mk (LeL.of_eq rfl)) ?_)
      (repeat' (first | (refine VS.mk ?_) | (refine dr_mk ?_) | (refine md_l ?_) | ((first | refine sp_not_dec ?_ ?_ | refine sp_dec ?_ ?_ | refine sp_beq ?_ ?_ | refine sp_bne ?_ ?_ | refine sp_seq ?_ ?_ | refine sp_sne ?_ ?_ | refine sp_not ?_ ?_ | refine sp_any ?_ ?_) <;> (intro hc; try simp only [List.length_map, List.length_append, List.length_cons, List.length_nil, Bool.and_true, Bool.and_eq_true, beq_iff_eq, Bool.and_eq_false_iff, beq_eq_false_iff_ne, Bool.true_and, ne_eq] at hc)) | (with_reducible first | refine norm_one ?_ | refine norm_app ?_ | refine norm_cutEnd ?_ | refine norm_cut ?_ | refine norm_bytes1 ?_ | refine norm_bytes2 ?_ | refine norm_setByte ?_ | refine norm_int1 ?_ | refine norm_mk ?_) | (with_reducible refine bytes_mk ?_) | (refine ar_byte ?_) | (refine ar_i64 (by omega) (by omega) ?_) | (refine ar_low ?_) | (refine ix_byteN (by omega) ?_) | (refine ix_byteK (by simp only [Int.reduceToNat]; exact rfl) (by decide) (by omega) ?_) | (refine ix_byte (by omega) (by omega) ?_) | (refine ix_rfl (by decide) rfl ?_) | (refine sd_mk rfl ?_) | (refine sd_mk (by decide +kernel) ?_) | (refine sd_mk (by first | (simp only [List.length_map, List.length_append, List.length_cons, List.length_nil]; done) | ((try simp only [List.length_map, List.length_append, List.length_cons, List.length_nil, List.length_set, List.length_replicate, List.length_drop, List.length_take, true_and, and_true]); omega) | (dsimp only; omega)) ?_) | (first | refine shl8 (by omega) (by omega) ?_ | refine shl4 (by omega) (by omega) ?_ | refine shl1 (by omega) (by omega) ?_ | refine shl16 (by omega) (by omega) ?_ | refine shl24 (by omega) (by omega) ?_ | refine shr8 (by decide) ?_ | refine shr4 (by decide) ?_ | refine shr1 (by decide) ?_ | refine shr16 (by decide) ?_ | refine shr24 (by decide) ?_) | (with_reducible first | refine bit_mk and_1 ?_ | refine bit_mk and_15 ?_ | refine bit_mk and_255 ?_ | refine bit_mk and_4095 ?_ | refine bit_mk and_65535 ?_) | (refine quo_pos (by omega) (by omega) (by omega) ?_) | (refine rem_pos (by omega) (by omega) ?_)))
      any_goals (refine end_p (VS.mk (LeD.of_eq (congrArg (D.int .i64) ?_))); rw [hw])
      any_goals first
        | (rw [if_pos] <;> omega)
        | (rw [if_neg, if_pos] <;> omega)
        | (rw [if_neg, if_neg, if_pos] <;> omega)
        | (rw [if_neg, if_neg, if_neg, if_pos] <;> first | omega | (refine ⟨?_, ?_⟩ <;> assumption))
        | (rw [if_neg, if_neg, if_neg, if_neg, if_pos] <;> first | omega | assumption | (rintro ⟨h1, h2⟩; simp_all))
        | skip
      all_goals (
        have hnew : relsW o.code.length o.rels 0 = relsW o.code.length (o.rels.drop (k + 1)) (r.at_ + r.size) := by
          rw [hrw, relsW]
          rw [if_neg, if_neg, if_neg, if_neg, if_neg]
          all_goals first
            | omega
            | exact fun h => h (by assumption)
            | (rintro ⟨h1, h2⟩; simp_all; done)
        refine loop_end (k + 1, r.at_ + r.size) ⟨by (dsimp only; omega), by (dsimp only; omega), by (dsimp only; omega), hnew⟩ (by dsimp only; omega) ?_
        (repeat' (first | (refine VS.mk ?_) | exact trivial | exact rfl | refine And.intro ?_ ?_)))

    · refine end_p (VS.mk (LeD.of_eq (congrArg (D.int .i64) ?_)))
      rw [hw, hrw, List.drop_of_length_le (by omega)]
      rfl
end Go.Proofs.Ytmeigmpjpkinoaa

namespace Go.Proofs.Ytmeigmpjpkinoaa
open Go Go.Plat
set_option linter.unusedVariables false
set_option linter.unusedSimpArgs false
set_option maxRecDepth 100000
set_option maxHeartbeats 2000000
attribute [local irreducible] NilS LookS NormM bitI BytesS NormL Arith QuoS RemS ShlS ShrS BitS CatS SplitS SideS IdxS CallS LoopEnd EndS ModeS DrawS AWP Meets
theorem kind_letter {c : UInt8} (h : kindB c = 97) : letterB c = true := by
  unfold kindB at h
  split at h
  · assumption
  split at h
  · cases h
  split at h <;> cases h
theorem kind_digit {c : UInt8} (h : kindB c = 48) : digitB c = true := by
  unfold kindB at h
  split at h
  · cases h
  split at h
  · assumption
  split at h <;> cases h
theorem kind_else {c : UInt8} (h : ¬ kindB c = 97) : letterB c = false := by
  unfold kindB at h
  split at h
  · exact (h rfl).elim
  · simpa using ‹¬ letterB c = true›
theorem kind_none {c : UInt8} (h : ¬ kindB c = 97) (h2 : ¬ kindB c = 48) : okC c = false := by
  have hl := kind_else h
  have hd : digitB c = false := by
    unfold kindB at h2
    rw [hl, if_neg (by decide)] at h2
    split at h2
    · exact (h2 rfl).elim
    · simpa using ‹¬ digitB c = true›
  unfold okC
  rw [hl, hd]
  rfl
theorem ok46 {c : UInt8} (h : ((c.toNat : Nat) : Int) = 46) : okC c = false := by
  have : c = 46 := UInt8.toNat_inj.1 (by exact_mod_cast h)
  subst this
  rfl
theorem okL {c : UInt8} (h : ¬ ((c.toNat : Nat) : Int) = 46) (h2 : letterB c = true ∨ digitB c = true) : okC c = true := by
  have n46 : (c == 46) = false := beq_eq_false_iff_ne.2 fun e => h (by rw [e]; rfl)
  unfold okC
  rw [n46]
  rcases h2 with h | h <;> rw [h] <;> simp
theorem nameB_bad {s : List UInt8} (h : s.all okC = false) : nameB s = false := by
  show (_ && letterB (s.getD 0 0) && s.all okC) = false
  rw [h, Bool.and_false]
theorem nameB_good {s : List UInt8} (h1 : 1 ≤ s.length ∧ s.length ≤ 10) (h2 : letterB (s.getD 0 0) = true) (h : s.all okC = true) : nameB s = true := by
  show (_ && letterB (s.getD 0 0) && s.all okC) = true
  rw [h, h2, decide_eq_true h1]
  rfl
attribute [local irreducible] letterB digitB kindB okC

theorem rname_meets : Meets Try.prog n_plref1_Name (SpecP (fun s : List UInt8 => s.length ≤ 1000000000) (fun s => [.str s]) fun s => .bool (nameB s)) := by
  refine meets_f tabOk Try.func32 rfl (by decide) fun s hs => ?_
  refine ⟨Nat.le_refl _, by simp [Try.f32], fun E hE => ?_⟩
  refine vcOk _ ?_
  (repeat' (first | (refine VS.mk ?_) | (refine dr_mk ?_) | (refine md_l ?_) | ((first | refine sp_not_dec ?_ ?_ | refine sp_dec ?_ ?_ | refine sp_beq ?_ ?_ | refine sp_bne ?_ ?_ | refine sp_seq ?_ ?_ | refine sp_sne ?_ ?_ | refine sp_not ?_ ?_ | refine sp_any ?_ ?_) <;> (intro hc; try simp only [List.length_map, List.length_append, List.length_cons, List.length_nil, Bool.and_true, Bool.and_eq_true, beq_iff_eq, Bool.and_eq_false_iff, beq_eq_false_iff_ne, Bool.true_and, ne_eq] at hc)) | (with_reducible first | refine norm_one ?_ | refine norm_app ?_ | refine norm_cutEnd ?_ | refine norm_cut ?_ | refine norm_bytes1 ?_ | refine norm_bytes2 ?_ | refine norm_setByte ?_ | refine norm_int1 ?_ | refine norm_mk ?_) | (with_reducible refine bytes_mk ?_) | (refine ar_byte ?_) | (refine ar_i64 (by omega) (by omega) ?_) | (refine ar_low ?_) | (refine ix_byteN (by omega) ?_) | (refine ix_byteK (by simp only [Int.reduceToNat]; exact rfl) (by decide) (by omega) ?_) | (refine ix_byte (by omega) (by omega) ?_) | (refine ix_rfl (by decide) rfl ?_) | (refine sd_mk rfl ?_) | (refine sd_mk (by decide +kernel) ?_) | (refine sd_mk (by first | (simp only [List.length_map, List.length_append, List.length_cons, List.length_nil]; done) | ((try simp only [List.length_map, List.length_append, List.length_cons, List.length_nil, List.length_set, List.length_replicate, List.length_drop, List.length_take, true_and, and_true]); omega) | (dsimp only; omega)) ?_) | (first | refine shl8 (by omega) (by omega) ?_ | refine shl4 (by omega) (by omega) ?_ | refine shl1 (by omega) (by omega) ?_ | refine shl16 (by omega) (by omega) ?_ | refine shl24 (by omega) (by omega) ?_ | refine shr8 (by decide) ?_ | refine shr4 (by decide) ?_ | refine shr1 (by decide) ?_ | refine shr16 (by decide) ?_ | refine shr24 (by decide) ?_) | (with_reducible first | refine bit_mk and_1 ?_ | refine bit_mk and_15 ?_ | refine bit_mk and_255 ?_ | refine bit_mk and_4095 ?_ | refine bit_mk and_65535 ?_) | (refine quo_pos (by omega) (by omega) (by omega) ?_) | (refine rem_pos (by omega) (by omega) ?_)))
  · subst hc
    exact end_p (VS.mk (LeD.ff rfl))
  · refine end_p (VS.mk (LeD.ff ?_))
    unfold nameB
    rw [decide_eq_false (by omega)]
    rfl
  have hne : 0 < s.length := by
    cases s with
    | nil => exact (‹¬ ([] : List UInt8) = []› rfl).elim
    | cons a l => simp
  refine sd_mk ⟨by omega, by omega⟩ ?_
  (repeat' (first | (refine VS.mk ?_) | (refine dr_mk ?_) | (refine md_l ?_) | ((first | refine sp_not_dec ?_ ?_ | refine sp_dec ?_ ?_ | refine sp_beq ?_ ?_ | refine sp_bne ?_ ?_ | refine sp_seq ?_ ?_ | refine sp_sne ?_ ?_ | refine sp_not ?_ ?_ | refine sp_any ?_ ?_) <;> (intro hc; try simp only [List.length_map, List.length_append, List.length_cons, List.length_nil, Bool.and_true, Bool.and_eq_true, beq_iff_eq, Bool.and_eq_false_iff, beq_eq_false_iff_ne, Bool.true_and, ne_eq] at hc)) | (with_reducible first | refine norm_one ?_ | refine norm_app ?_ | refine norm_cutEnd ?_ | refine norm_cut ?_ | refine norm_bytes1 ?_ | refine norm_bytes2 ?_ | refine norm_setByte ?_ | refine norm_int1 ?_ | refine norm_mk ?_) | (with_reducible refine bytes_mk ?_) | (refine ar_byte ?_) | (refine ar_i64 (by omega) (by omega) ?_) | (refine ar_low ?_) | (refine ix_byteN (by omega) ?_) | (refine ix_byteK (by simp only [Int.reduceToNat]; exact rfl) (by decide) (by omega) ?_) | (refine ix_byte (by omega) (by omega) ?_) | (refine ix_rfl (by decide) rfl ?_) | (refine sd_mk rfl ?_) | (refine sd_mk (by decide +kernel) ?_) | (refine sd_mk (by first | (simp only [List.length_map, List.length_append, List.length_cons, List.length_nil]; done) | ((try simp only [List.length_map, List.length_append, List.length_cons, List.length_nil, List.length_set, List.length_replicate, List.length_drop, List.length_take, true_and, and_true]); omega) | (dsimp only; omega)) ?_) | (first | refine shl8 (by omega) (by omega) ?_ | refine shl4 (by omega) (by omega) ?_ | refine shl1 (by omega) (by omega) ?_ | refine shl16 (by omega) (by omega) ?_ | refine shl24 (by omega) (by omega) ?_ | refine shr8 (by decide) ?_ | refine shr4 (by decide) ?_ | refine shr1 (by decide) ?_ | refine shr16 (by decide) ?_ | refine shr24 (by decide) ?_) | (with_reducible first | refine bit_mk and_1 ?_ | refine bit_mk and_15 ?_ | refine bit_mk and_255 ?_ | refine bit_mk and_4095 ?_ | refine bit_mk and_65535 ?_) | (refine quo_pos (by omega) (by omega) (by omega) ?_) | (refine rem_pos (by omega) (by omega) ?_)))
  refine call_p kind_meets (s.getD 0 0) trivial (VS.mk (LeL.of_eq rfl)) ?_
  (repeat' (first | (refine VS.mk ?_) | (refine dr_mk ?_) | (refine md_l ?_) | ((first | refine sp_not_dec ?_ ?_ | refine sp_dec ?_ ?_ | refine sp_beq ?_ ?_ | refine sp_bne ?_ ?_ | refine sp_seq ?_ ?_ | refine sp_sne ?_ ?_ | refine sp_not ?_ ?_ | refine sp_any ?_ ?_) <;> (intro hc; try simp only [List.length_map, List.length_append, List.length_cons, List.length_nil, Bool.and_true, Bool.and_eq_true, beq_iff_eq, Bool.and_eq_false_iff, beq_eq_false_iff_ne, Bool.true_and, ne_eq] at hc)) | (with_reducible first | refine norm_one ?_ | refine norm_app ?_ | refine norm_cutEnd ?_ | refine norm_cut ?_ | refine norm_bytes1 ?_ | refine norm_bytes2 ?_ | refine norm_setByte ?_ | refine norm_int1 ?_ | refine norm_mk ?_) | (with_reducible refine bytes_mk ?_) | (refine ar_byte ?_) | (refine ar_i64 (by omega) (by omega) ?_) | (refine ar_low ?_) | (refine ix_byteN (by omega) ?_) | (refine ix_byteK (by simp only [Int.reduceToNat]; exact rfl) (by decide) (by omega) ?_) | (refine ix_byte (by omega) (by omega) ?_) | (refine ix_rfl (by decide) rfl ?_) | (refine sd_mk rfl ?_) | (refine sd_mk (by decide +kernel) ?_) | (refine sd_mk (by first | (simp only [List.length_map, List.length_append, List.length_cons, List.length_nil]; done) | ((try simp only [List.length_map, List.length_append, List.length_cons, List.length_nil, List.length_set, List.length_replicate, List.length_drop, List.length_take, true_and, and_true]); omega) | (dsimp only; omega)) ?_) | (first | refine shl8 (by omega) (by omega) ?_ | refine shl4 (by omega) (by omega) ?_ | refine shl1 (by omega) (by omega) ?_ | refine shl16 (by omega) (by omega) ?_ | refine shl24 (by omega) (by omega) ?_ | refine shr8 (by decide) ?_ | refine shr4 (by decide) ?_ | refine shr1 (by decide) ?_ | refine shr16 (by decide) ?_ | refine shr24 (by decide) ?_) | (with_reducible first | refine bit_mk and_1 ?_ | refine bit_mk and_15 ?_ | refine bit_mk and_255 ?_ | refine bit_mk and_4095 ?_ | refine bit_mk and_65535 ?_) | (refine quo_pos (by omega) (by omega) (by omega) ?_) | (refine rem_pos (by omega) (by omega) ?_)))
  · refine end_p (VS.mk (LeD.ff ?_))
    show (_ && letterB (s.getD 0 0) && _) = false
    rw [kind_else hc, Bool.and_false, Bool.false_and]
  have hl0 : letterB (s.getD 0 0) = true := kind_letter hc
  refine awp_loop (α := Nat) (fun k => k ≤ s.length ∧ (s.take k).all okC = true) (fun k => [(0, .str s), (18, .int .i64 s.length), (19, .int .i64 k)]) (fun _ => []) (fun k => s.length - k) (fun _ => by simp [hE]) 0 ⟨Nat.zero_le _, by simp⟩ ?_ ?_
  · (repeat' (first | (refine VS.mk ?_) | exact trivial | exact rfl | refine And.intro ?_ ?_))
  rintro k ⟨hk, hall⟩
  refine vcOk _ ?_
  (repeat' (first | (refine VS.mk ?_) | (refine dr_mk ?_) | (refine md_l ?_) | ((first | refine sp_not_dec ?_ ?_ | refine sp_dec ?_ ?_ | refine sp_beq ?_ ?_ | refine sp_bne ?_ ?_ | refine sp_seq ?_ ?_ | refine sp_sne ?_ ?_ | refine sp_not ?_ ?_ | refine sp_any ?_ ?_) <;> (intro hc; try simp only [List.length_map, List.length_append, List.length_cons, List.length_nil, Bool.and_true, Bool.and_eq_true, beq_iff_eq, Bool.and_eq_false_iff, beq_eq_false_iff_ne, Bool.true_and, ne_eq] at hc)) | (with_reducible first | refine norm_one ?_ | refine norm_app ?_ | refine norm_cutEnd ?_ | refine norm_cut ?_ | refine norm_bytes1 ?_ | refine norm_bytes2 ?_ | refine norm_setByte ?_ | refine norm_int1 ?_ | refine norm_mk ?_) | (with_reducible refine bytes_mk ?_) | (refine ar_byte ?_) | (refine ar_i64 (by omega) (by omega) ?_) | (refine ar_low ?_) | (refine ix_byteN (by omega) ?_) | (refine ix_byteK (by simp only [Int.reduceToNat]; exact rfl) (by decide) (by omega) ?_) | (refine ix_byte (by omega) (by omega) ?_) | (refine ix_rfl (by decide) rfl ?_) | (refine sd_mk rfl ?_) | (refine sd_mk (by decide +kernel) ?_) | (refine sd_mk (by first | (simp only [List.length_map, List.length_append, List.length_cons, List.length_nil]; done) | ((try simp only [List.length_map, List.length_append, List.length_cons, List.length_nil, List.length_set, List.length_replicate, List.length_drop, List.length_take, true_and, and_true]); omega) | (dsimp only; omega)) ?_) | (first | refine shl8 (by omega) (by omega) ?_ | refine shl4 (by omega) (by omega) ?_ | refine shl1 (by omega) (by omega) ?_ | refine shl16 (by omega) (by omega) ?_ | refine shl24 (by omega) (by omega) ?_ | refine shr8 (by decide) ?_ | refine shr4 (by decide) ?_ | refine shr1 (by decide) ?_ | refine shr16 (by decide) ?_ | refine shr24 (by decide) ?_) | (with_reducible first | refine bit_mk and_1 ?_ | refine bit_mk and_15 ?_ | refine bit_mk and_255 ?_ | refine bit_mk and_4095 ?_ | refine bit_mk and_65535 ?_) | (refine quo_pos (by omega) (by omega) (by omega) ?_) | (refine rem_pos (by omega) (by omega) ?_)))
  · have hsp := all_stop (p := okC) (s := s) (k := k) (by omega)
    rw [Int.toNat_natCast] at hc
    exact end_p (VS.mk (LeD.ff (nameB_bad (hsp (ok46 hc)))))
  · have hidx : ((k : Int)).toNat = k := Int.toNat_natCast k
    have hk' : k < s.length := by omega
    have hst := all_take (p := okC) hk'
    have hsp := all_stop (p := okC) hk'
    have h46 := hc
    rw [hidx] at h46
    refine call_p kind_meets (s.getD k 0) trivial (VS.mk (LeL.of_eq (by rw [hidx]; rfl))) ?_
    (repeat' (first | (refine VS.mk ?_) | (refine dr_mk ?_) | (refine md_l ?_) | ((first | refine sp_not_dec ?_ ?_ | refine sp_dec ?_ ?_ | refine sp_beq ?_ ?_ | refine sp_bne ?_ ?_ | refine sp_seq ?_ ?_ | refine sp_sne ?_ ?_ | refine sp_not ?_ ?_ | refine sp_any ?_ ?_) <;> (intro hc; try simp only [List.length_map, List.length_append, List.length_cons, List.length_nil, Bool.and_true, Bool.and_eq_true, beq_iff_eq, Bool.and_eq_false_iff, beq_eq_false_iff_ne, Bool.true_and, ne_eq] at hc)) | (with_reducible first | refine norm_one ?_ | refine norm_app ?_ | refine norm_cutEnd ?_ | refine norm_cut ?_ | refine norm_bytes1 ?_ | refine norm_bytes2 ?_ | refine norm_setByte ?_ | refine norm_int1 ?_ | refine norm_mk ?_) | (with_reducible refine bytes_mk ?_) | (refine ar_byte ?_) | (refine ar_i64 (by omega) (by omega) ?_) | (refine ar_low ?_) | (refine ix_byteN (by omega) ?_) | (refine ix_byteK (by simp only [Int.reduceToNat]; exact rfl) (by decide) (by omega) ?_) | (refine ix_byte (by omega) (by omega) ?_) | (refine ix_rfl (by decide) rfl ?_) | (refine sd_mk rfl ?_) | (refine sd_mk (by decide +kernel) ?_) | (refine sd_mk (by first | (simp only [List.length_map, List.length_append, List.length_cons, List.length_nil]; done) | ((try simp only [List.length_map, List.length_append, List.length_cons, List.length_nil, List.length_set, List.length_replicate, List.length_drop, List.length_take, true_and, and_true]); omega) | (dsimp only; omega)) ?_) | (first | refine shl8 (by omega) (by omega) ?_ | refine shl4 (by omega) (by omega) ?_ | refine shl1 (by omega) (by omega) ?_ | refine shl16 (by omega) (by omega) ?_ | refine shl24 (by omega) (by omega) ?_ | refine shr8 (by decide) ?_ | refine shr4 (by decide) ?_ | refine shr1 (by decide) ?_ | refine shr16 (by decide) ?_ | refine shr24 (by decide) ?_) | (with_reducible first | refine bit_mk and_1 ?_ | refine bit_mk and_15 ?_ | refine bit_mk and_255 ?_ | refine bit_mk and_4095 ?_ | refine bit_mk and_65535 ?_) | (refine quo_pos (by omega) (by omega) (by omega) ?_) | (refine rem_pos (by omega) (by omega) ?_)))
    · refine call_p kind_meets (s.getD k 0) trivial (VS.mk (LeL.of_eq (by rw [hidx]; rfl))) ?_
      (repeat' (first | (refine VS.mk ?_) | (refine dr_mk ?_) | (refine md_l ?_) | ((first | refine sp_not_dec ?_ ?_ | refine sp_dec ?_ ?_ | refine sp_beq ?_ ?_ | refine sp_bne ?_ ?_ | refine sp_seq ?_ ?_ | refine sp_sne ?_ ?_ | refine sp_not ?_ ?_ | refine sp_any ?_ ?_) <;> (intro hc; try simp only [List.length_map, List.length_append, List.length_cons, List.length_nil, Bool.and_true, Bool.and_eq_true, beq_iff_eq, Bool.and_eq_false_iff, beq_eq_false_iff_ne, Bool.true_and, ne_eq] at hc)) | (with_reducible first | refine norm_one ?_ | refine norm_app ?_ | refine norm_cutEnd ?_ | refine norm_cut ?_ | refine norm_bytes1 ?_ | refine norm_bytes2 ?_ | refine norm_setByte ?_ | refine norm_int1 ?_ | refine norm_mk ?_) | (with_reducible refine bytes_mk ?_) | (refine ar_byte ?_) | (refine ar_i64 (by omega) (by omega) ?_) | (refine ar_low ?_) | (refine ix_byteN (by omega) ?_) | (refine ix_byteK (by simp only [Int.reduceToNat]; exact rfl) (by decide) (by omega) ?_) | (refine ix_byte (by omega) (by omega) ?_) | (refine ix_rfl (by decide) rfl ?_) | (refine sd_mk rfl ?_) | (refine sd_mk (by decide +kernel) ?_) | (refine sd_mk (by first | (simp only [List.length_map, List.length_append, List.length_cons, List.length_nil]; done) | ((try simp only [List.length_map, List.length_append, List.length_cons, List.length_nil, List.length_set, List.length_replicate, List.length_drop, List.length_take, true_and, and_true]); omega) | (dsimp only; omega)) ?_) | (first | refine shl8 (by omega) (by omega) ?_ | refine shl4 (by omega) (by omega) ?_ | refine shl1 (by omega) (by omega) ?_ | refine shl16 (by omega) (by omega) ?_ | refine shl24 (by omega) (by omega) ?_ | refine shr8 (by decide) ?_ | refine shr4 (by decide) ?_ | refine shr1 (by decide) ?_ | refine shr16 (by decide) ?_ | refine shr24 (by decide) ?_) | (with_reducible first | refine bit_mk and_1 ?_ | refine bit_mk and_15 ?_ | refine bit_mk and_255 ?_ | refine bit_mk and_4095 ?_ | refine bit_mk and_65535 ?_) | (refine quo_pos (by omega) (by omega) (by omega) ?_) | (refine rem_pos (by omega) (by omega) ?_)))
      · exact end_p (VS.mk (LeD.ff (nameB_bad (hsp (kind_none (by assumption) hc)))))
      · refine loop_end (k + 1) ⟨by omega, by rw [hst, hall, okL h46 (.inr (kind_digit hc))]; rfl⟩ (by omega) ?_
        (repeat' (first | (refine VS.mk ?_) | exact trivial | exact rfl | refine And.intro ?_ ?_))
    · refine loop_end (k + 1) ⟨by omega, by rw [hst, hall, okL h46 (.inl (kind_letter hc))]; rfl⟩ (by omega) ?_
      (repeat' (first | (refine VS.mk ?_) | exact trivial | exact rfl | refine And.intro ?_ ?_))
  · have hlen : (s.length : Int) ≤ 10 := by omega
    rw [List.take_of_length_le (by omega)] at hall
    exact end_p (VS.mk (LeD.tt (nameB_good ⟨by omega, by omega⟩ hl0 hall)))
end Go.Proofs.Ytmeigmpjpkinoaa

namespace Go.Proofs.Ytmeigmpjpkinoaa
open Go Go.Plat
set_option linter.unusedVariables false
set_option linter.unusedSimpArgs false
set_option maxRecDepth 100000
set_option maxHeartbeats 2000000
attribute [local irreducible] NilS LookS NormM bitI BytesS NormL Arith QuoS RemS ShlS ShrS BitS CatS SplitS SideS IdxS CallS LoopEnd EndS ModeS DrawS AWP Meets
theorem rsigned_eq (n : Int) : (if n % 4294967296 / 2147483648 = 1 then n % 4294967296 - 4294967296 else n % 4294967296) = signedI n 32 := rfl
attribute [local irreducible] letterB digitB kindB okC nameB signedI

theorem rowrong_meets : Meets Try.prog n_plref6_Wrong (SpecP (fun o : OObj => (∀ r ∈ o.rels, -9223372036854775808 ≤ r.at_ ∧ r.at_ ≤ 9223372036854775807 ∧ r.name.length ≤ 1000000000) ∧ ∀ s ∈ o.syms, s.name.length ≤ 1000000000) (fun o => [objD o]) fun o => .int .i64 (wrongO o)) := by
  refine meets_f tabOk Try.func14 rfl (by decide) ?_
  rintro o ⟨ho, hs⟩
  refine ⟨Nat.le_refl _, by simp [Try.f14], fun E hE => ?_⟩
  refine vcOk _ ?_
  (repeat' (first | (refine VS.mk ?_) | (refine dr_mk ?_) | (refine md_l ?_) | ((first | refine sp_not_dec ?_ ?_ | refine sp_dec ?_ ?_ | refine sp_beq ?_ ?_ | refine sp_bne ?_ ?_ | refine sp_seq ?_ ?_ | refine sp_sne ?_ ?_ | refine sp_not ?_ ?_ | refine sp_any ?_ ?_) <;> (intro hc; try simp only [List.length_map, List.length_append, List.length_cons, List.length_nil, Bool.and_true, Bool.and_eq_true, beq_iff_eq, Bool.and_eq_false_iff, beq_eq_false_iff_ne, Bool.true_and, ne_eq] at hc)) | (with_reducible first | refine norm_one ?_ | refine norm_app ?_ | refine norm_cutEnd ?_ | refine norm_cut ?_ | refine norm_bytes1 ?_ | refine norm_bytes2 ?_ | refine norm_setByte ?_ | refine norm_int1 ?_ | refine norm_mk ?_) | (with_reducible refine bytes_mk ?_) | (refine ar_byte ?_) | (refine ar_i64 (by omega) (by omega) ?_) | (refine ar_low ?_) | (refine ix_byteN (by omega) ?_) | (refine ix_byteK (by simp only [Int.reduceToNat]; exact rfl) (by decide) (by omega) ?_) | (refine ix_byte (by omega) (by omega) ?_) | (refine ix_rfl (by decide) rfl ?_) | (refine sd_mk rfl ?_) | (refine sd_mk (by decide +kernel) ?_) | (refine sd_mk (by first | (simp only [List.length_map, List.length_append, List.length_cons, List.length_nil]; done) | ((try simp only [List.length_map, List.length_append, List.length_cons, List.length_nil, List.length_set, List.length_replicate, List.length_drop, List.length_take, true_and, and_true]); omega) | (dsimp only; omega)) ?_) | (first | refine shl8 (by omega) (by omega) ?_ | refine shl4 (by omega) (by omega) ?_ | refine shl1 (by omega) (by omega) ?_ | refine shl16 (by omega) (by omega) ?_ | refine shl24 (by omega) (by omega) ?_ | refine shr8 (by decide) ?_ | refine shr4 (by decide) ?_ | refine shr1 (by decide) ?_ | refine shr16 (by decide) ?_ | refine shr24 (by decide) ?_) | (with_reducible first | refine bit_mk and_1 ?_ | refine bit_mk and_15 ?_ | refine bit_mk and_255 ?_ | refine bit_mk and_4095 ?_ | refine bit_mk and_65535 ?_) | (refine quo_pos (by omega) (by omega) (by omega) ?_) | (refine rem_pos (by omega) (by omega) ?_)))
  · refine end_p (VS.mk (LeD.of_eq (congrArg (D.int .i64) ?_)))
    unfold wrongO; rw [if_pos (by omega)]
  · refine end_p (VS.mk (LeD.of_eq (congrArg (D.int .i64) ?_)))
    unfold wrongO; rw [if_pos (by omega)]
  · refine end_p (VS.mk (LeD.of_eq (congrArg (D.int .i64) ?_)))
    unfold wrongO; rw [if_pos (by omega)]
  have hw : wrongO o = match symsW o.code.length o.syms [] with
      | some e => e
      | none => relsW o.code.length o.rels 0 := by unfold wrongO; rw [if_neg (by omega)]; try rfl
  have hsl : o.syms.length ≤ 255 := by omega
  refine awp_loop (α := Nat) (fun k => k ≤ o.syms.length ∧ symsW o.code.length o.syms [] = symsW o.code.length (o.syms.drop k) ((o.syms.take k).map (·.name)).reverse)
    (fun k => [(27, .sl 2 (o.syms.map symD) none), (28, .int .i64 o.syms.length), (29, .int .i64 k), (1, .loc 0 0)])
    (fun k => [.cells [bytesD o.code, .sl 2 (o.syms.map symD) none, .sl 4 (o.rels.map relD) none]]) (fun k => o.syms.length - k) (fun _ => by simp [hE]) 0 ⟨Nat.zero_le _, by simp⟩ ?_ ?_
  · (repeat' (first | (refine VS.mk ?_) | exact trivial | exact rfl | refine And.intro ?_ ?_))
  rintro k ⟨hk, hsw⟩
  refine vcOk _ ?_
  (repeat' (first | (refine VS.mk ?_) | (refine dr_mk ?_) | (refine md_l ?_) | ((first | refine sp_not_dec ?_ ?_ | refine sp_dec ?_ ?_ | refine sp_beq ?_ ?_ | refine sp_bne ?_ ?_ | refine sp_seq ?_ ?_ | refine sp_sne ?_ ?_ | refine sp_not ?_ ?_ | refine sp_any ?_ ?_) <;> (intro hc; try simp only [List.length_map, List.length_append, List.length_cons, List.length_nil, Bool.and_true, Bool.and_eq_true, beq_iff_eq, Bool.and_eq_false_iff, beq_eq_false_iff_ne, Bool.true_and, ne_eq] at hc)) | (with_reducible first | refine norm_one ?_ | refine norm_app ?_ | refine norm_cutEnd ?_ | refine norm_cut ?_ | refine norm_bytes1 ?_ | refine norm_bytes2 ?_ | refine norm_setByte ?_ | refine norm_int1 ?_ | refine norm_mk ?_) | (with_reducible refine bytes_mk ?_) | (refine ar_byte ?_) | (refine ar_i64 (by omega) (by omega) ?_) | (refine ar_low ?_) | (refine ix_byteN (by omega) ?_) | (refine ix_byteK (by simp only [Int.reduceToNat]; exact rfl) (by decide) (by omega) ?_) | (refine ix_byte (by omega) (by omega) ?_) | (refine ix_rfl (by decide) rfl ?_) | (refine sd_mk rfl ?_) | (refine sd_mk (by decide +kernel) ?_) | (refine sd_mk (by first | (simp only [List.length_map, List.length_append, List.length_cons, List.length_nil]; done) | ((try simp only [List.length_map, List.length_append, List.length_cons, List.length_nil, List.length_set, List.length_replicate, List.length_drop, List.length_take, true_and, and_true]); omega) | (dsimp only; omega)) ?_) | (first | refine shl8 (by omega) (by omega) ?_ | refine shl4 (by omega) (by omega) ?_ | refine shl1 (by omega) (by omega) ?_ | refine shl16 (by omega) (by omega) ?_ | refine shl24 (by omega) (by omega) ?_ | refine shr8 (by decide) ?_ | refine shr4 (by decide) ?_ | refine shr1 (by decide) ?_ | refine shr16 (by decide) ?_ | refine shr24 (by decide) ?_) | (with_reducible first | refine bit_mk and_1 ?_ | refine bit_mk and_15 ?_ | refine bit_mk and_255 ?_ | refine bit_mk and_4095 ?_ | refine bit_mk and_65535 ?_) | (refine quo_pos (by omega) (by omega) (by omega) ?_) | (refine rem_pos (by omega) (by omega) ?_)))
  · obtain ⟨s, hsk⟩ := at_of_lt (l := o.syms) (k := k) (by omega)
    have hkl : k < o.syms.length := by omega
    have hsm := hs s (List.mem_of_getElem? hsk)
    have hget : o.syms[k] = s := by rw [List.getElem?_eq_getElem hkl] at hsk; exact Option.some.inj hsk
    rw [List.drop_eq_getElem_cons hkl, hget] at hsw
    have htake : o.syms.take (k + 1) = o.syms.take k ++ [s] := by rw [List.take_succ_eq_append_getElem hkl, hget]
    have hmem : ∀ n : List UInt8, n ∈ ((o.syms.take k).map (·.name)).reverse ↔ n ∈ (o.syms.take k).map (·.name) := fun n => List.mem_reverse
    refine ix_map s (by omega) (by simpa using hsk) ?_
    (repeat' (first | (refine VS.mk ?_) | (refine dr_mk ?_) | (refine md_l ?_) | ((first | refine sp_not_dec ?_ ?_ | refine sp_dec ?_ ?_ | refine sp_beq ?_ ?_ | refine sp_bne ?_ ?_ | refine sp_seq ?_ ?_ | refine sp_sne ?_ ?_ | refine sp_not ?_ ?_ | refine sp_any ?_ ?_) <;> (intro hc; try simp only [List.length_map, List.length_append, List.length_cons, List.length_nil, Bool.and_true, Bool.and_eq_true, beq_iff_eq, Bool.and_eq_false_iff, beq_eq_false_iff_ne, Bool.true_and, ne_eq] at hc)) | (with_reducible first | refine norm_one ?_ | refine norm_app ?_ | refine norm_cutEnd ?_ | refine norm_cut ?_ | refine norm_bytes1 ?_ | refine norm_bytes2 ?_ | refine norm_setByte ?_ | refine norm_int1 ?_ | refine norm_mk ?_) | (with_reducible refine bytes_mk ?_) | (refine ar_byte ?_) | (refine ar_i64 (by omega) (by omega) ?_) | (refine ar_low ?_) | (refine ix_byteN (by omega) ?_) | (refine ix_byteK (by simp only [Int.reduceToNat]; exact rfl) (by decide) (by omega) ?_) | (refine ix_byte (by omega) (by omega) ?_) | (refine ix_rfl (by decide) rfl ?_) | (refine sd_mk rfl ?_) | (refine sd_mk (by decide +kernel) ?_) | (refine sd_mk (by first | (simp only [List.length_map, List.length_append, List.length_cons, List.length_nil]; done) | ((try simp only [List.length_map, List.length_append, List.length_cons, List.length_nil, List.length_set, List.length_replicate, List.length_drop, List.length_take, true_and, and_true]); omega) | (dsimp only; omega)) ?_) | (first | refine shl8 (by omega) (by omega) ?_ | refine shl4 (by omega) (by omega) ?_ | refine shl1 (by omega) (by omega) ?_ | refine shl16 (by omega) (by omega) ?_ | refine shl24 (by omega) (by omega) ?_ | refine shr8 (by decide) ?_ | refine shr4 (by decide) ?_ | refine shr1 (by decide) ?_ | refine shr16 (by decide) ?_ | refine shr24 (by decide) ?_) | (with_reducible first | refine bit_mk and_1 ?_ | refine bit_mk and_15 ?_ | refine bit_mk and_255 ?_ | refine bit_mk and_4095 ?_ | refine bit_mk and_65535 ?_) | (refine quo_pos (by omega) (by omega) (by omega) ?_) | (refine rem_pos (by omega) (by omega) ?_)))
    refine call_p rname_meets s.name hsm (VS.mk (by (first | exact LeL.refl _ | (repeat' (first | exact LeL.nil | exact LeD.refl _ | exact LeD.nil _ | exact LeD.strip _ _ _ | refine LeL.cons ?_ ?_ | refine LeD.tup ?_ | refine LeD.agg ?_))))) ?_
    (repeat' (first | (refine VS.mk ?_) | (refine dr_mk ?_) | (refine md_l ?_) | ((first | refine sp_not_dec ?_ ?_ | refine sp_dec ?_ ?_ | refine sp_beq ?_ ?_ | refine sp_bne ?_ ?_ | refine sp_seq ?_ ?_ | refine sp_sne ?_ ?_ | refine sp_not ?_ ?_ | refine sp_any ?_ ?_) <;> (intro hc; try simp only [List.length_map, List.length_append, List.length_cons, List.length_nil, Bool.and_true, Bool.and_eq_true, beq_iff_eq, Bool.and_eq_false_iff, beq_eq_false_iff_ne, Bool.true_and, ne_eq] at hc)) | (with_reducible first | refine norm_one ?_ | refine norm_app ?_ | refine norm_cutEnd ?_ | refine norm_cut ?_ | refine norm_bytes1 ?_ | refine norm_bytes2 ?_ | refine norm_setByte ?_ | refine norm_int1 ?_ | refine norm_mk ?_) | (with_reducible refine bytes_mk ?_) | (refine ar_byte ?_) | (refine ar_i64 (by omega) (by omega) ?_) | (refine ar_low ?_) | (refine ix_byteN (by omega) ?_) | (refine ix_byteK (by simp only [Int.reduceToNat]; exact rfl) (by decide) (by omega) ?_) | (refine ix_byte (by omega) (by omega) ?_) | (refine ix_rfl (by decide) rfl ?_) | (refine sd_mk rfl ?_) | (refine sd_mk (by decide +kernel) ?_) | (refine sd_mk (by first | (simp only [List.length_map, List.length_append, List.length_cons, List.length_nil]; done) | ((try simp only [List.length_map, List.length_append, List.length_cons, List.length_nil, List.length_set, List.length_replicate, List.length_drop, List.length_take, true_and, and_true]); omega) | (dsimp only; omega)) ?_) | (first | refine shl8 (by omega) (by omega) ?_ | refine shl4 (by omega) (by omega) ?_ | refine shl1 (by omega) (by omega) ?_ | refine shl16 (by omega) (by omega) ?_ | refine shl24 (by omega) (by omega) ?_ | refine shr8 (by decide) ?_ | refine shr4 (by decide) ?_ | refine shr1 (by decide) ?_ | refine shr16 (by decide) ?_ | refine shr24 (by decide) ?_) | (with_reducible first | refine bit_mk and_1 ?_ | refine bit_mk and_15 ?_ | refine bit_mk and_255 ?_ | refine bit_mk and_4095 ?_ | refine bit_mk and_65535 ?_) | (refine quo_pos (by omega) (by omega) (by omega) ?_) | (refine rem_pos (by omega) (by omega) ?_)))
    · refine end_p (VS.mk (LeD.of_eq (congrArg (D.int .i64) ?_)))
      rw [hw, hsw, symsW, if_pos (.inl hc)]
    have hno : ¬ nameB s.name = false := by rw [hc]; decide
    refine awp_loop (α := Nat) (fun j => j ≤ k ∧ ∀ i t, i < j → o.syms[i]? = some t → ¬ t.name = s.name)
      (fun j => [(41, .sl 2 ((o.syms.take k).map symD) none), (42, .int .i64 k), (43, .int .i64 j), (27, .sl 2 (o.syms.map symD) none), (28, .int .i64 o.syms.length), (29, .int .i64 k), (1, .loc 0 0), (4, .loc 1 0)])
      (fun j => [.cells [bytesD o.code, .sl 2 (o.syms.map symD) none, .sl 4 (o.rels.map relD) none], .cells [.str s.name, .int .i64 s.at_]]) (fun j => k - j) (fun _ => by simp [hE]) 0 ⟨Nat.zero_le _, fun i t h => absurd h (Nat.not_lt_zero _)⟩ ?_ ?_
    · (repeat' (first | (refine VS.mk ?_) | exact trivial | (with_reducible exact rfl) | refine And.intro ?_ ?_))
      · rfl
      · simp
      · simp; omega
      · rfl
      · rfl
    rintro j ⟨hj, hjn⟩
    refine vcOk _ ?_
    (repeat' (first | (refine VS.mk ?_) | (refine dr_mk ?_) | (refine md_l ?_) | ((first | refine sp_not_dec ?_ ?_ | refine sp_dec ?_ ?_ | refine sp_beq ?_ ?_ | refine sp_bne ?_ ?_ | refine sp_seq ?_ ?_ | refine sp_sne ?_ ?_ | refine sp_not ?_ ?_ | refine sp_any ?_ ?_) <;> (intro hc; try simp only [List.length_map, List.length_append, List.length_cons, List.length_nil, Bool.and_true, Bool.and_eq_true, beq_iff_eq, Bool.and_eq_false_iff, beq_eq_false_iff_ne, Bool.true_and, ne_eq] at hc)) | (with_reducible first | refine norm_one ?_ | refine norm_app ?_ | refine norm_cutEnd ?_ | refine norm_cut ?_ | refine norm_bytes1 ?_ | refine norm_bytes2 ?_ | refine norm_setByte ?_ | refine norm_int1 ?_ | refine norm_mk ?_) | (with_reducible refine bytes_mk ?_) | (refine ar_byte ?_) | (refine ar_i64 (by omega) (by omega) ?_) | (refine ar_low ?_) | (refine ix_byteN (by omega) ?_) | (refine ix_byteK (by simp only [Int.reduceToNat]; exact rfl) (by decide) (by omega) ?_) | (refine ix_byte (by omega) (by omega) ?_) | (refine ix_rfl (by decide) rfl ?_) | (refine sd_mk rfl ?_) | (refine sd_mk (by decide +kernel) ?_) | (refine sd_mk (by first | (simp only [List.length_map, List.length_append, List.length_cons, List.length_nil]; done) | ((try simp only [List.length_map, List.length_append, List.length_cons, List.length_nil, List.length_set, List.length_replicate, List.length_drop, List.length_take, true_and, and_true]); omega) | (dsimp only; omega)) ?_) | (first | refine shl8 (by omega) (by omega) ?_ | refine shl4 (by omega) (by omega) ?_ | refine shl1 (by omega) (by omega) ?_ | refine shl16 (by omega) (by omega) ?_ | refine shl24 (by omega) (by omega) ?_ | refine shr8 (by decide) ?_ | refine shr4 (by decide) ?_ | refine shr1 (by decide) ?_ | refine shr16 (by decide) ?_ | refine shr24 (by decide) ?_) | (with_reducible first | refine bit_mk and_1 ?_ | refine bit_mk and_15 ?_ | refine bit_mk and_255 ?_ | refine bit_mk and_4095 ?_ | refine bit_mk and_65535 ?_) | (refine quo_pos (by omega) (by omega) (by omega) ?_) | (refine rem_pos (by omega) (by omega) ?_)))
    · have hjk : j < k := by omega
      obtain ⟨t, htj⟩ := at_of_lt (l := o.syms) (k := j) (by omega)
      have htj2 : (o.syms.take k)[j]? = some t := by rw [List.getElem?_take_of_lt hjk]; exact htj
      refine ix_map t (by omega) (by simpa using htj2) ?_
      (repeat' (first | (refine VS.mk ?_) | (refine dr_mk ?_) | (refine md_l ?_) | ((first | refine sp_not_dec ?_ ?_ | refine sp_dec ?_ ?_ | refine sp_beq ?_ ?_ | refine sp_bne ?_ ?_ | refine sp_seq ?_ ?_ | refine sp_sne ?_ ?_ | refine sp_not ?_ ?_ | refine sp_any ?_ ?_) <;> (intro hc; try simp only [List.length_map, List.length_append, List.length_cons, List.length_nil, Bool.and_true, Bool.and_eq_true, beq_iff_eq, Bool.and_eq_false_iff, beq_eq_false_iff_ne, Bool.true_and, ne_eq] at hc)) | (with_reducible first | refine norm_one ?_ | refine norm_app ?_ | refine norm_cutEnd ?_ | refine norm_cut ?_ | refine norm_bytes1 ?_ | refine norm_bytes2 ?_ | refine norm_setByte ?_ | refine norm_int1 ?_ | refine norm_mk ?_) | (with_reducible refine bytes_mk ?_) | (refine ar_byte ?_) | (refine ar_i64 (by omega) (by omega) ?_) | (refine ar_low ?_) | (refine ix_byteN (by omega) ?_) | (refine ix_byteK (by simp only [Int.reduceToNat]; exact rfl) (by decide) (by omega) ?_) | (refine ix_byte (by omega) (by omega) ?_) | (refine ix_rfl (by decide) rfl ?_) | (refine sd_mk rfl ?_) | (refine sd_mk (by decide +kernel) ?_) | (refine sd_mk (by first | (simp only [List.length_map, List.length_append, List.length_cons, List.length_nil]; done) | ((try simp only [List.length_map, List.length_append, List.length_cons, List.length_nil, List.length_set, List.length_replicate, List.length_drop, List.length_take, true_and, and_true]); omega) | (dsimp only; omega)) ?_) | (first | refine shl8 (by omega) (by omega) ?_ | refine shl4 (by omega) (by omega) ?_ | refine shl1 (by omega) (by omega) ?_ | refine shl16 (by omega) (by omega) ?_ | refine shl24 (by omega) (by omega) ?_ | refine shr8 (by decide) ?_ | refine shr4 (by decide) ?_ | refine shr1 (by decide) ?_ | refine shr16 (by decide) ?_ | refine shr24 (by decide) ?_) | (with_reducible first | refine bit_mk and_1 ?_ | refine bit_mk and_15 ?_ | refine bit_mk and_255 ?_ | refine bit_mk and_4095 ?_ | refine bit_mk and_65535 ?_) | (refine quo_pos (by omega) (by omega) (by omega) ?_) | (refine rem_pos (by omega) (by omega) ?_)))
      · refine end_p (VS.mk (LeD.of_eq (congrArg (D.int .i64) ?_)))
        rw [hw, hsw, symsW, if_pos (.inr ((hmem _).2 (List.mem_map.2 ⟨t, List.mem_of_getElem? htj2, hc⟩)))]
      · have hnext : ∀ i u, i < j + 1 → o.syms[i]? = some u → ¬ u.name = s.name := fun i u hi hu => by
          rcases Nat.lt_or_ge i j with h | h
          · exact hjn i u h hu
          · have hij : i = j := by omega
            rw [hij, htj] at hu
            rw [← Option.some.inj hu]
            exact hc
        refine loop_end (j + 1) ⟨by omega, hnext⟩ (by omega) ?_
        (repeat' (first | (refine VS.mk ?_) | exact trivial | exact rfl | refine And.intro ?_ ?_))
    all_goals
      have hjk : j = k := by omega
      have hin : ¬ s.name ∈ (o.syms.take k).map (·.name) := fun hm => by
        obtain ⟨t, ht, hts⟩ := List.mem_map.1 hm
        obtain ⟨i, hi, hit⟩ := List.getElem_of_mem ht
        simp only [List.length_take] at hi
        have hlt : i < j := by omega
        rw [List.getElem_take] at hit
        exact hjn i t hlt (by rw [List.getElem?_eq_getElem (by omega), hit]) hts
      have hstep : ¬ (nameB s.name = false ∨ s.name ∈ ((o.syms.take k).map (·.name)).reverse) := by
        rintro (h | h)
        · exact hno h
        · exact hin ((hmem _).1 h)
    · refine end_p (VS.mk (LeD.of_eq (congrArg (D.int .i64) ?_)))
      rw [hw, hsw, symsW, if_neg hstep, if_pos (.inl hc)]
    · refine end_p (VS.mk (LeD.of_eq (congrArg (D.int .i64) ?_)))
      rw [hw, hsw, symsW, if_neg hstep, if_pos (.inr hc)]
    · have hnew : symsW o.code.length o.syms [] = symsW o.code.length (o.syms.drop (k + 1)) ((o.syms.take (k + 1)).map (·.name)).reverse := by
        rw [hsw, symsW, if_neg hstep, if_neg (by omega), htake]
        simp
      refine loop_end (k + 1) ⟨by omega, hnew⟩ (by omega) ?_
      (repeat' (first | (refine VS.mk ?_) | exact trivial | exact rfl | refine And.intro ?_ ?_))
  · obtain rfl : k = o.syms.length := by omega
    rw [List.drop_length, symsW] at hsw
    rw [hsw] at hw
    have hw : wrongO o = relsW o.code.length o.rels 0 := hw
    refine awp_loop (α := Nat × Int) (fun p => p.1 ≤ o.rels.length ∧ 0 ≤ p.2 ∧ p.2 ≤ 8000 ∧ relsW o.code.length o.rels 0 = relsW o.code.length (o.rels.drop p.1) p.2)
      (fun p => [(66, .sl 4 (o.rels.map relD) none), (67, .int .i64 o.rels.length), (68, .int .i64 p.1), (1, .loc 0 0), (7, .int .i64 p.2)])
      (fun _ => [.cells [bytesD o.code, .sl 2 (o.syms.map symD) none, .sl 4 (o.rels.map relD) none]]) (fun p => o.rels.length - p.1) (fun _ => by simp [hE]) (0, 0) ⟨Nat.zero_le _, by decide, by decide, by simp⟩ ?_ ?_
    · (repeat' (first | (refine VS.mk ?_) | exact trivial | exact rfl | refine And.intro ?_ ?_))
    rintro ⟨k, last⟩ ⟨hk, hl0, hl1, hrw⟩
    dsimp only at hk hl0 hl1 hrw ⊢
    refine vcOk _ ?_
    (repeat' (first | (refine VS.mk ?_) | (refine dr_mk ?_) | (refine md_l ?_) | ((first | refine sp_not_dec ?_ ?_ | refine sp_dec ?_ ?_ | refine sp_beq ?_ ?_ | refine sp_bne ?_ ?_ | refine sp_seq ?_ ?_ | refine sp_sne ?_ ?_ | refine sp_not ?_ ?_ | refine sp_any ?_ ?_) <;> (intro hc; try simp only [List.length_map, List.length_append, List.length_cons, List.length_nil, Bool.and_true, Bool.and_eq_true, beq_iff_eq, Bool.and_eq_false_iff, beq_eq_false_iff_ne, Bool.true_and, ne_eq] at hc)) | (with_reducible first | refine norm_one ?_ | refine norm_app ?_ | refine norm_cutEnd ?_ | refine norm_cut ?_ | refine norm_bytes1 ?_ | refine norm_bytes2 ?_ | refine norm_setByte ?_ | refine norm_int1 ?_ | refine norm_mk ?_) | (with_reducible refine bytes_mk ?_) | (refine ar_byte ?_) | (refine ar_i64 (by omega) (by omega) ?_) | (refine ar_low ?_) | (refine ix_byteN (by omega) ?_) | (refine ix_byteK (by simp only [Int.reduceToNat]; exact rfl) (by decide) (by omega) ?_) | (refine ix_byte (by omega) (by omega) ?_) | (refine ix_rfl (by decide) rfl ?_) | (refine sd_mk rfl ?_) | (refine sd_mk (by decide +kernel) ?_) | (refine sd_mk (by first | (simp only [List.length_map, List.length_append, List.length_cons, List.length_nil]; done) | ((try simp only [List.length_map, List.length_append, List.length_cons, List.length_nil, List.length_set, List.length_replicate, List.length_drop, List.length_take, true_and, and_true]); omega) | (dsimp only; omega)) ?_) | (first | refine shl8 (by omega) (by omega) ?_ | refine shl4 (by omega) (by omega) ?_ | refine shl1 (by omega) (by omega) ?_ | refine shl16 (by omega) (by omega) ?_ | refine shl24 (by omega) (by omega) ?_ | refine shr8 (by decide) ?_ | refine shr4 (by decide) ?_ | refine shr1 (by decide) ?_ | refine shr16 (by decide) ?_ | refine shr24 (by decide) ?_) | (with_reducible first | refine bit_mk and_1 ?_ | refine bit_mk and_15 ?_ | refine bit_mk and_255 ?_ | refine bit_mk and_4095 ?_ | refine bit_mk and_65535 ?_) | (refine quo_pos (by omega) (by omega) (by omega) ?_) | (refine rem_pos (by omega) (by omega) ?_)))
    · obtain ⟨r, hrk⟩ := at_of_lt (l := o.rels) (k := k) (by omega)
      have hkl : k < o.rels.length := by omega
      obtain ⟨hr1, hr2, hr3⟩ := ho r (List.mem_of_getElem? hrk)
      have hget : o.rels[k] = r := by rw [List.getElem?_eq_getElem hkl] at hrk; exact Option.some.inj hrk
      rw [List.drop_eq_getElem_cons hkl, hget] at hrw
      rw [hrw, relsW] at hw
      refine ix_map r (by omega) (by simpa using hrk) ?_
      (repeat' (first | (refine VS.mk ?_) | (refine dr_mk ?_) | (refine md_l ?_) | ((first | refine sp_not_dec ?_ ?_ | refine sp_dec ?_ ?_ | refine sp_beq ?_ ?_ | refine sp_bne ?_ ?_ | refine sp_seq ?_ ?_ | refine sp_sne ?_ ?_ | refine sp_not ?_ ?_ | refine sp_any ?_ ?_) <;> (intro hc; try simp only [List.length_map, List.length_append, List.length_cons, List.length_nil, Bool.and_true, Bool.and_eq_true, beq_iff_eq, Bool.and_eq_false_iff, beq_eq_false_iff_ne, Bool.true_and, ne_eq] at hc)) | (with_reducible first | refine norm_one ?_ | refine norm_app ?_ | refine norm_cutEnd ?_ | refine norm_cut ?_ | refine norm_bytes1 ?_ | refine norm_bytes2 ?_ | refine norm_setByte ?_ | refine norm_int1 ?_ | refine norm_mk ?_) | (with_reducible refine bytes_mk ?_) | (refine ar_byte ?_) | (refine ar_i64 (by omega) (by omega) ?_) | (refine ar_low ?_) | (refine ix_byteN (by omega) ?_) | (refine ix_byteK (by simp only [Int.reduceToNat]; exact rfl) (by decide) (by omega) ?_) | (refine ix_byte (by omega) (by omega) ?_) | (refine ix_rfl (by decide) rfl ?_) | (refine sd_mk rfl ?_) | (refine sd_mk (by decide +kernel) ?_) | (refine sd_mk (by first | (simp only [List.length_map, List.length_append, List.length_cons, List.length_nil]; done) | ((try simp only [List.length_map, List.length_append, List.length_cons, List.length_nil, List.length_set, List.length_replicate, List.length_drop, List.length_take, true_and, and_true]); omega) | (dsimp only; omega)) ?_) | (first | refine shl8 (by omega) (by omega) ?_ | refine shl4 (by omega) (by omega) ?_ | refine shl1 (by omega) (by omega) ?_ | refine shl16 (by omega) (by omega) ?_ | refine shl24 (by omega) (by omega) ?_ | refine shr8 (by decide) ?_ | refine shr4 (by decide) ?_ | refine shr1 (by decide) ?_ | refine shr16 (by decide) ?_ | refine shr24 (by decide) ?_) | (with_reducible first | refine bit_mk and_1 ?_ | refine bit_mk and_15 ?_ | refine bit_mk and_255 ?_ | refine bit_mk and_4095 ?_ | refine bit_mk and_65535 ?_) | (refine quo_pos (by omega) (by omega) (by omega) ?_) | (refine rem_pos (by omega) (by omega) ?_)))
      any_goals (refine call_p rname_meets r.name hr3 (VS.mk (LeL.of_eq rfl)) ?_)
      (repeat' (first | (refine VS.mk ?_) | (refine dr_mk ?_) | (refine md_l ?_) | ((first | refine sp_not_dec ?_ ?_ | refine sp_dec ?_ ?_ | refine sp_beq ?_ ?_ | refine sp_bne ?_ ?_ | refine sp_seq ?_ ?_ | refine sp_sne ?_ ?_ | refine sp_not ?_ ?_ | refine sp_any ?_ ?_) <;> (intro hc; try simp only [List.length_map, List.length_append, List.length_cons, List.length_nil, Bool.and_true, Bool.and_eq_true, beq_iff_eq, Bool.and_eq_false_iff, beq_eq_false_iff_ne, Bool.true_and, ne_eq] at hc)) | (with_reducible first | refine norm_one ?_ | refine norm_app ?_ | refine norm_cutEnd ?_ | refine norm_cut ?_ | refine norm_bytes1 ?_ | refine norm_bytes2 ?_ | refine norm_setByte ?_ | refine norm_int1 ?_ | refine norm_mk ?_) | (with_reducible refine bytes_mk ?_) | (refine ar_byte ?_) | (refine ar_i64 (by omega) (by omega) ?_) | (refine ar_low ?_) | (refine ix_byteN (by omega) ?_) | (refine ix_byteK (by simp only [Int.reduceToNat]; exact rfl) (by decide) (by omega) ?_) | (refine ix_byte (by omega) (by omega) ?_) | (refine ix_rfl (by decide) rfl ?_) | (refine sd_mk rfl ?_) | (refine sd_mk (by decide +kernel) ?_) | (refine sd_mk (by first | (simp only [List.length_map, List.length_append, List.length_cons, List.length_nil]; done) | ((try simp only [List.length_map, List.length_append, List.length_cons, List.length_nil, List.length_set, List.length_replicate, List.length_drop, List.length_take, true_and, and_true]); omega) | (dsimp only; omega)) ?_) | (first | refine shl8 (by omega) (by omega) ?_ | refine shl4 (by omega) (by omega) ?_ | refine shl1 (by omega) (by omega) ?_ | refine shl16 (by omega) (by omega) ?_ | refine shl24 (by omega) (by omega) ?_ | refine shr8 (by decide) ?_ | refine shr4 (by decide) ?_ | refine shr1 (by decide) ?_ | refine shr16 (by decide) ?_ | refine shr24 (by decide) ?_) | (with_reducible first | refine bit_mk and_1 ?_ | refine bit_mk and_15 ?_ | refine bit_mk and_255 ?_ | refine bit_mk and_4095 ?_ | refine bit_mk and_65535 ?_) | (refine quo_pos (by omega) (by omega) (by omega) ?_) | (refine rem_pos (by omega) (by omega) ?_)))
      any_goals (refine call_p rsigned_meets r.add trivial (VS.mk (LeL.of_eq rfl)) ?_; rw [rsigned_eq])
      (repeat' (first | (refine VS.mk ?_) | (refine dr_mk ?_) | (refine md_l ?_) | ((first | refine sp_not_dec ?_ ?_ | refine sp_dec ?_ ?_ | refine sp_beq ?_ ?_ | refine sp_bne ?_ ?_ | refine sp_seq ?_ ?_ | refine sp_sne ?_ ?_ | refine sp_not ?_ ?_ | refine sp_any ?_ ?_) <;> (intro hc; try simp only [List.length_map, List.length_append, List.length_cons, List.length_nil, Bool.and_true, Bool.and_eq_true, beq_iff_eq, Bool.and_eq_false_iff, beq_eq_false_iff_ne, Bool.true_and, ne_eq] at hc)) | (with_reducible first | refine norm_one ?_ | refine norm_app ?_ | refine norm_cutEnd ?_ | refine norm_cut ?_ | refine norm_bytes1 ?_ | refine norm_bytes2 ?_ | refine norm_setByte ?_ | refine norm_int1 ?_ | refine norm_mk ?_) | (with_reducible refine bytes_mk ?_) | (refine ar_byte ?_) | (refine ar_i64 (by omega) (by omega) ?_) | (refine ar_low ?_) | (refine ix_byteN (by omega) ?_) | (refine ix_byteK (by simp only [Int.reduceToNat]; exact rfl) (by decide) (by omega) ?_) | (refine ix_byte (by omega) (by omega) ?_) | (refine ix_rfl (by decide) rfl ?_) | (refine sd_mk rfl ?_) | (refine sd_mk (by decide +kernel) ?_) | (refine sd_mk (by first | (simp only [List.length_map, List.length_append, List.length_cons, List.length_nil]; done) | ((try simp only [List.length_map, List.length_append, List.length_cons, List.length_nil, List.length_set, List.length_replicate, List.length_drop, List.length_take, true_and, and_true]); omega) | (dsimp only; omega)) ?_) | (first | refine shl8 (by omega) (by omega) ?_ | refine shl4 (by omega) (by omega) ?_ | refine shl1 (by omega) (by omega) ?_ | refine shl16 (by omega) (by omega) ?_ | refine shl24 (by omega) (by omega) ?_ | refine shr8 (by decide) ?_ | refine shr4 (by decide) ?_ | refine shr1 (by decide) ?_ | refine shr16 (by decide) ?_ | refine shr24 (by decide) ?_) | (with_reducible first | refine bit_mk and_1 ?_ | refine bit_mk and_15 ?_ | refine bit_mk and_255 ?_ | refine bit_mk and_4095 ?_ | refine bit_mk and_65535 ?_) | (refine quo_pos (by omega) (by omega) (by omega) ?_) | (refine rem_pos (by omega) (by omega) ?_)))
      any_goals (refine end_p (VS.mk (LeD.of_eq (congrArg (D.int .i64) ?_))); rw [hw])
      any_goals first
        | (rw [if_pos] <;> omega)
        | (rw [if_neg, if_pos] <;> omega)
        | (rw [if_neg, if_neg, if_pos] <;> omega)
        | (rw [if_neg, if_neg, if_neg, if_pos] <;> first | omega | (refine ⟨?_, ?_⟩ <;> assumption))
        | (rw [if_neg, if_neg, if_neg, if_neg, if_pos] <;> first | omega | assumption | (exact fun h => hc h.symm) | (rintro ⟨h1, h2⟩; exact h1 (by assumption)) | (rintro ⟨h1, h2⟩; exact absurd (h2.symm.trans (by assumption)) Bool.false_ne_true))
        | skip
      all_goals (
        have hnew : relsW o.code.length o.rels 0 = relsW o.code.length (o.rels.drop (k + 1)) (r.at_ + r.size) := by
          rw [hrw, relsW]
          rw [if_neg, if_neg, if_neg, if_neg, if_neg]
          all_goals first
            | omega
            | exact fun h => h (by assumption)
            | exact fun h => h (Eq.symm (by assumption))
            | (rintro ⟨h1, h2⟩; exact h1 (by assumption)) | (rintro ⟨h1, h2⟩; exact absurd (h2.symm.trans (by assumption)) Bool.false_ne_true)
        refine loop_end (k + 1, r.at_ + r.size) ⟨by (dsimp only; omega), by (dsimp only; omega), by (dsimp only; omega), hnew⟩ (by dsimp only; omega) ?_
        (repeat' (first | (refine VS.mk ?_) | exact trivial | exact rfl | refine And.intro ?_ ?_)))
    · refine end_p (VS.mk (LeD.of_eq (congrArg (D.int .i64) ?_)))
      rw [hw, hrw, List.drop_of_length_le (by omega)]
      rfl
end Go.Proofs.Ytmeigmpjpkinoaa

namespace Go.Proofs.Ytmeigmpjpkinoaa
open Go Go.Plat
set_option linter.unusedVariables false
set_option linter.unusedSimpArgs false
set_option maxRecDepth 100000
set_option maxHeartbeats 2000000
attribute [local irreducible] NilS LookS NormM bitI BytesS NormL Arith QuoS RemS ShlS ShrS BitS CatS SplitS SideS IdxS CallS LoopEnd EndS ModeS DrawS AWP Meets
attribute [local irreducible] letterB digitB kindB okC nameB signedI

def upI (n : Int) : Int := n + 3 - (n + 3) % 4
def basesE : List OObj → Int → List Int
  | [], _ => []
  | o :: l, n => upI n :: basesE l (upI n + o.code.length)
def endE : List OObj → Int → Int
  | [], n => n
  | o :: l, n => endE l (upI n + o.code.length)
def intD (n : Int) : D := .int .i64 n
def intsD (l : List Int) : D := .sl 1 (l.map intD) none

theorem bits3 : ∀ i : Fin 64, (~~~ (3#64)).getLsbD i = decide (2 ≤ i.1) := by decide
theorem andnot_bv (x : BitVec 64) : x &&& ~~~ (3#64) = (x >>> 2) <<< 2 := by
  apply BitVec.eq_of_getLsbD_eq
  intro i hi
  rw [BitVec.getLsbD_and, bits3 ⟨i, hi⟩, BitVec.getLsbD_shiftLeft, BitVec.getLsbD_ushiftRight]
  by_cases h : 2 ≤ i
  · simp [h, hi, show ¬ i < 2 by omega, show 2 + (i - 2) = i by omega]
  · simp [h, show i < 2 by omega]
theorem andnot_3 {n : Int} (h0 : 0 ≤ n) (h1 : n ≤ 9223372036854775807) : bitI .andNot .i64 n 3 = n - n % 4 := by
  obtain ⟨a, rfl⟩ := Int.eq_ofNat_of_zero_le h0
  have ha : a ≤ 9223372036854775807 := by omega
  unfold bitI
  have hx := ofInt_nat ha
  have e : (BitVec.ofInt IntKind.i64.bits (a : Int) &&& ~~~ BitVec.ofInt IntKind.i64.bits 3).toNat = a / 4 * 4 := by
    generalize BitVec.ofInt IntKind.i64.bits (a : Int) = x at *
    change BitVec 64 at x
    show (x &&& ~~~ (3#64)).toNat = _
    rw [andnot_bv, BitVec.toNat_shiftLeft, BitVec.toNat_ushiftRight]
    have hx : x.toNat = a := hx
    rw [hx, Nat.shiftRight_eq_div_pow, Nat.shiftLeft_eq]
    omega
  show IntKind.i64.wrap ((_ : Nat) : Int) = _
  rw [e]
  refine (Go.Plat.wrap_small (by omega)).trans ?_
  omega

theorem upI_bd (n : Int) : n ≤ upI n ∧ upI n ≤ n + 3 ∧ upI n % 4 = 0 := by unfold upI; omega

theorem lbases_meets : Meets Try.prog n_link_Bases (SpecP (fun ((l, n) : List OObj × Int) => l.length ≤ 1048576 ∧ 0 ≤ n ∧ n ≤ 1000000000 ∧ ∀ o ∈ l, o.code.length ≤ 1048576) (fun (l, n) => [.sl 3 (l.map objD) none, .int .i64 n])
    fun (l, n) => .tup [intsD (basesE l n), .int .i64 (endE l n)]) := by
  refine meets_f tabOk Try.func9 rfl (by decide) ?_
  rintro ⟨l, n⟩ ⟨hl, hn0, hn1, ho⟩
  refine ⟨Nat.le_refl _, by simp [Try.f9], fun E hE => ?_⟩
  refine vcOk _ ?_
  (repeat' (first | (refine VS.mk ?_) | (refine dr_mk ?_) | (refine md_l ?_) | ((first | refine sp_not_dec ?_ ?_ | refine sp_dec ?_ ?_ | refine sp_beq ?_ ?_ | refine sp_bne ?_ ?_ | refine sp_seq ?_ ?_ | refine sp_sne ?_ ?_ | refine sp_not ?_ ?_ | refine sp_any ?_ ?_) <;> (intro hc; try simp only [List.length_map, List.length_append, List.length_cons, List.length_nil, Bool.and_true, Bool.and_eq_true, beq_iff_eq, Bool.and_eq_false_iff, beq_eq_false_iff_ne, Bool.true_and, ne_eq] at hc)) | (with_reducible first | refine norm_one ?_ | refine norm_app ?_ | refine norm_cutEnd ?_ | refine norm_cut ?_ | refine norm_bytes1 ?_ | refine norm_bytes2 ?_ | refine norm_setByte ?_ | refine norm_int1 ?_ | refine norm_mk ?_) | (with_reducible refine bytes_mk ?_) | (refine ar_byte ?_) | (refine ar_i64 (by omega) (by omega) ?_) | (refine ar_low ?_) | (refine ix_byteN (by omega) ?_) | (refine ix_byteK (by simp only [Int.reduceToNat]; exact rfl) (by decide) (by omega) ?_) | (refine ix_byte (by omega) (by omega) ?_) | (refine ix_rfl (by decide) rfl ?_) | (refine sd_mk rfl ?_) | (refine sd_mk (by decide +kernel) ?_) | (refine sd_mk (by first | (simp only [List.length_map, List.length_append, List.length_cons, List.length_nil]; done) | ((try simp only [List.length_map, List.length_append, List.length_cons, List.length_nil, List.length_set, List.length_replicate, List.length_drop, List.length_take, true_and, and_true]); omega) | (dsimp only; omega)) ?_) | (first | refine shl8 (by omega) (by omega) ?_ | refine shl4 (by omega) (by omega) ?_ | refine shl1 (by omega) (by omega) ?_ | refine shl16 (by omega) (by omega) ?_ | refine shl24 (by omega) (by omega) ?_ | refine shr8 (by decide) ?_ | refine shr4 (by decide) ?_ | refine shr1 (by decide) ?_ | refine shr16 (by decide) ?_ | refine shr24 (by decide) ?_) | (with_reducible first | refine bit_mk and_1 ?_ | refine bit_mk and_15 ?_ | refine bit_mk and_255 ?_ | refine bit_mk and_4095 ?_ | refine bit_mk and_65535 ?_) | (refine quo_pos (by omega) (by omega) (by omega) ?_) | (refine rem_pos (by omega) (by omega) ?_)))
  refine awp_weak (weak_nil 6 1 rfl) ?_
  refine awp_loop (α := Nat × List Int × Int) (fun p => p.1 ≤ l.length ∧ p.2.1.length = p.1 ∧ p.2.1 ++ basesE (l.drop p.1) p.2.2 = basesE l n ∧ endE (l.drop p.1) p.2.2 = endE l n ∧ 0 ≤ p.2.2 ∧ p.2.2 ≤ 1000000000 + p.1 * 1048580)
    (fun p => [(11, .sl 3 (l.map objD) none), (12, .int .i64 l.length), (13, .int .i64 p.1), (6, .sl 1 (p.2.1.map intD) (some 0)), (7, .int .i64 p.2.2)])
    (fun p => [.spare p.2.1.length]) (fun p => l.length - p.1) (fun _ => by simp [hE]) (0, [], n) ⟨Nat.zero_le _, rfl, by simp, by simp, hn0, by dsimp only; omega⟩ ?_ ?_
  · (repeat' (first | (refine VS.mk ?_) | exact trivial | exact rfl | refine And.intro ?_ ?_))
  rintro ⟨k, bs, a⟩ ⟨hk, hbl, hb, he, ha0, ha1⟩
  dsimp only at hk hbl hb he ha0 ha1 ⊢
  refine vcOk _ ?_
  have hkb : (k : Int) * 1048580 ≤ 1048576 * 1048580 := by omega
  (repeat' (first | (refine VS.mk ?_) | (refine dr_mk ?_) | (refine md_l ?_) | ((first | refine sp_not_dec ?_ ?_ | refine sp_dec ?_ ?_ | refine sp_beq ?_ ?_ | refine sp_bne ?_ ?_ | refine sp_seq ?_ ?_ | refine sp_sne ?_ ?_ | refine sp_not ?_ ?_ | refine sp_any ?_ ?_) <;> (intro hc; try simp only [List.length_map, List.length_append, List.length_cons, List.length_nil, Bool.and_true, Bool.and_eq_true, beq_iff_eq, Bool.and_eq_false_iff, beq_eq_false_iff_ne, Bool.true_and, ne_eq] at hc)) | (with_reducible first | refine norm_one ?_ | refine norm_app ?_ | refine norm_cutEnd ?_ | refine norm_cut ?_ | refine norm_bytes1 ?_ | refine norm_bytes2 ?_ | refine norm_setByte ?_ | refine norm_int1 ?_ | refine norm_mk ?_) | (with_reducible refine bytes_mk ?_) | (refine ar_byte ?_) | (refine ar_i64 (by omega) (by omega) ?_) | (refine ar_low ?_) | (refine ix_byteN (by omega) ?_) | (refine ix_byteK (by simp only [Int.reduceToNat]; exact rfl) (by decide) (by omega) ?_) | (refine ix_byte (by omega) (by omega) ?_) | (refine ix_rfl (by decide) rfl ?_) | (refine sd_mk rfl ?_) | (refine sd_mk (by decide +kernel) ?_) | (refine sd_mk (by first | (simp only [List.length_map, List.length_append, List.length_cons, List.length_nil]; done) | ((try simp only [List.length_map, List.length_append, List.length_cons, List.length_nil, List.length_set, List.length_replicate, List.length_drop, List.length_take, true_and, and_true]); omega) | (dsimp only; omega)) ?_) | (first | refine shl8 (by omega) (by omega) ?_ | refine shl4 (by omega) (by omega) ?_ | refine shl1 (by omega) (by omega) ?_ | refine shl16 (by omega) (by omega) ?_ | refine shl24 (by omega) (by omega) ?_ | refine shr8 (by decide) ?_ | refine shr4 (by decide) ?_ | refine shr1 (by decide) ?_ | refine shr16 (by decide) ?_ | refine shr24 (by decide) ?_) | (with_reducible first | refine bit_mk and_1 ?_ | refine bit_mk and_15 ?_ | refine bit_mk and_255 ?_ | refine bit_mk and_4095 ?_ | refine bit_mk and_65535 ?_) | (refine quo_pos (by omega) (by omega) (by omega) ?_) | (refine rem_pos (by omega) (by omega) ?_)))
  · obtain ⟨o, hok⟩ := at_of_lt (l := l) (k := k) (by omega)
    have hkl : k < l.length := by omega
    have hget : l[k] = o := by rw [List.getElem?_eq_getElem hkl] at hok; exact Option.some.inj hok
    have hoc := ho o (List.mem_of_getElem? hok)
    rw [List.drop_eq_getElem_cons hkl, hget, basesE] at hb
    rw [List.drop_eq_getElem_cons hkl, hget, endE] at he
    have hup := upI_bd a
    refine ix_map o (by omega) (by simpa using hok) ?_
    (repeat' (first | (refine VS.mk ?_) | (refine dr_mk ?_) | (refine md_l ?_) | ((first | refine sp_not_dec ?_ ?_ | refine sp_dec ?_ ?_ | refine sp_beq ?_ ?_ | refine sp_bne ?_ ?_ | refine sp_seq ?_ ?_ | refine sp_sne ?_ ?_ | refine sp_not ?_ ?_ | refine sp_any ?_ ?_) <;> (intro hc; try simp only [List.length_map, List.length_append, List.length_cons, List.length_nil, Bool.and_true, Bool.and_eq_true, beq_iff_eq, Bool.and_eq_false_iff, beq_eq_false_iff_ne, Bool.true_and, ne_eq] at hc)) | (with_reducible first | refine norm_one ?_ | refine norm_app ?_ | refine norm_cutEnd ?_ | refine norm_cut ?_ | refine norm_bytes1 ?_ | refine norm_bytes2 ?_ | refine norm_setByte ?_ | refine norm_int1 ?_ | refine norm_mk ?_) | (with_reducible refine bytes_mk ?_) | (refine ar_byte ?_) | (refine ar_i64 (by omega) (by omega) ?_) | (refine ar_low ?_) | (refine ix_byteN (by omega) ?_) | (refine ix_byteK (by simp only [Int.reduceToNat]; exact rfl) (by decide) (by omega) ?_) | (refine ix_byte (by omega) (by omega) ?_) | (refine ix_rfl (by decide) rfl ?_) | (refine sd_mk rfl ?_) | (refine sd_mk (by decide +kernel) ?_) | (refine sd_mk (by first | (simp only [List.length_map, List.length_append, List.length_cons, List.length_nil]; done) | ((try simp only [List.length_map, List.length_append, List.length_cons, List.length_nil, List.length_set, List.length_replicate, List.length_drop, List.length_take, true_and, and_true]); omega) | (dsimp only; omega)) ?_) | (first | refine shl8 (by omega) (by omega) ?_ | refine shl4 (by omega) (by omega) ?_ | refine shl1 (by omega) (by omega) ?_ | refine shl16 (by omega) (by omega) ?_ | refine shl24 (by omega) (by omega) ?_ | refine shr8 (by decide) ?_ | refine shr4 (by decide) ?_ | refine shr1 (by decide) ?_ | refine shr16 (by decide) ?_ | refine shr24 (by decide) ?_) | (with_reducible first | refine bit_mk and_1 ?_ | refine bit_mk and_15 ?_ | refine bit_mk and_255 ?_ | refine bit_mk and_4095 ?_ | refine bit_mk and_65535 ?_) | (refine quo_pos (by omega) (by omega) (by omega) ?_) | (refine rem_pos (by omega) (by omega) ?_)))
    refine bit_mk (andnot_3 (by omega) (by omega)) ?_
    (repeat' (first | (refine VS.mk ?_) | (refine dr_mk ?_) | (refine md_l ?_) | ((first | refine sp_not_dec ?_ ?_ | refine sp_dec ?_ ?_ | refine sp_beq ?_ ?_ | refine sp_bne ?_ ?_ | refine sp_seq ?_ ?_ | refine sp_sne ?_ ?_ | refine sp_not ?_ ?_ | refine sp_any ?_ ?_) <;> (intro hc; try simp only [List.length_map, List.length_append, List.length_cons, List.length_nil, Bool.and_true, Bool.and_eq_true, beq_iff_eq, Bool.and_eq_false_iff, beq_eq_false_iff_ne, Bool.true_and, ne_eq] at hc)) | (with_reducible first | refine norm_one ?_ | refine norm_app ?_ | refine norm_cutEnd ?_ | refine norm_cut ?_ | refine norm_bytes1 ?_ | refine norm_bytes2 ?_ | refine norm_setByte ?_ | refine norm_int1 ?_ | refine norm_mk ?_) | (with_reducible refine bytes_mk ?_) | (refine ar_byte ?_) | (refine ar_i64 (by omega) (by omega) ?_) | (refine ar_low ?_) | (refine ix_byteN (by omega) ?_) | (refine ix_byteK (by simp only [Int.reduceToNat]; exact rfl) (by decide) (by omega) ?_) | (refine ix_byte (by omega) (by omega) ?_) | (refine ix_rfl (by decide) rfl ?_) | (refine sd_mk rfl ?_) | (refine sd_mk (by decide +kernel) ?_) | (refine sd_mk (by first | (simp only [List.length_map, List.length_append, List.length_cons, List.length_nil]; done) | ((try simp only [List.length_map, List.length_append, List.length_cons, List.length_nil, List.length_set, List.length_replicate, List.length_drop, List.length_take, true_and, and_true]); omega) | (dsimp only; omega)) ?_) | (first | refine shl8 (by omega) (by omega) ?_ | refine shl4 (by omega) (by omega) ?_ | refine shl1 (by omega) (by omega) ?_ | refine shl16 (by omega) (by omega) ?_ | refine shl24 (by omega) (by omega) ?_ | refine shr8 (by decide) ?_ | refine shr4 (by decide) ?_ | refine shr1 (by decide) ?_ | refine shr16 (by decide) ?_ | refine shr24 (by decide) ?_) | (with_reducible first | refine bit_mk and_1 ?_ | refine bit_mk and_15 ?_ | refine bit_mk and_255 ?_ | refine bit_mk and_4095 ?_ | refine bit_mk and_65535 ?_) | (refine quo_pos (by omega) (by omega) (by omega) ?_) | (refine rem_pos (by omega) (by omega) ?_)))
    refine loop_end (k + 1, bs ++ [upI a], upI a + o.code.length) ⟨by (dsimp only; omega), by (dsimp only; rw [List.length_append, hbl]; rfl), by (dsimp only; rw [List.append_assoc]; exact hb), he, by (dsimp only; omega), by (dsimp only; omega)⟩ (by dsimp only; omega) ?_
    (repeat' (first | (refine VS.mk ?_) | exact trivial | exact rfl | refine And.intro ?_ ?_))
    · simp
    · simp [intD, upI]
  · obtain rfl : k = l.length := by omega
    rw [List.drop_length, basesE, List.append_nil] at hb
    rw [List.drop_length, endE] at he
    refine end_p (VS.mk ?_)
    rw [hb, he]
    (first | exact LeL.refl _ | (repeat' (first | exact LeL.nil | exact LeD.refl _ | exact LeD.nil _ | exact LeD.strip _ _ _ | refine LeL.cons ?_ ?_ | refine LeD.tup ?_ | refine LeD.agg ?_)))
end Go.Proofs.Ytmeigmpjpkinoaa
