/-
  A part of the proof: what the given program's functions answer, each once; conditions that are enough for it.
-/
import Derived.Test.YtgmlcpmkonagcaaProg
import Derived.KernelRfl
import Derived.Test.YtgmlcpmkonagcaaFw3
import Derived.Test.YtgmlcpmkonagcaaRows
import Derived.WalkKit
import Derived.ProofKit
import Derived.OpenShut
import Derived.JoinedCond
/-
  The types' table and the functions' numbers of this seat; printed by a program.
-/
namespace Go.Proofs.Ytgmlcpmkonagcaa
open Go Go.Plat
set_option maxRecDepth 100000

theorem TIOk.of {P : Program} {t : Nat} {i : TI} (h1 : (P.underlying t).map tdOf = some i.d) (h2 : (P.info? t).map (fun x => (x.size, x.bytes, x.zero)) = some (i.size, i.bytes, some i.zero)) (h3 : Nat.beq i.size 0 = false) (h3b : Nat.beq i.bytes 0 = false) (h4 : Nat.beq i.zero.cells.size i.size = true)
    (h5 : (match P.underlying t with | some (.struct fs) => fs.toList.all fun f => (P.info? f.type).isSome | _ => true) = true) : TIOk P t i where
  under := by
    cases h : P.underlying t with
    | none => rw [h] at h1; cases h1
    | some d => rw [h] at h1; exact ⟨d, rfl, by simpa using h1⟩
  info := by
    cases h : P.info? t with
    | none => rw [h] at h2; cases h2
    | some x => rw [h] at h2; simp at h2; exact ⟨x, rfl, h2.1, h2.2.1, h2.2.2⟩
  pos := by intro h; rw [h] at h3; simp at h3
  bpos := by intro h; rw [h] at h3b; simp at h3b
  szero := Nat.eq_of_beq_eq_true h4
  fin := h5

theorem tk3 : TIOk Try.prog 3 ⟨(.int .i64), 1, 8, (.int .i64 0)⟩ := TIOk.of (by kernel_rfl) (by kernel_rfl) rfl rfl (by kernel_rfl) (by kernel_rfl)
theorem tk4 : TIOk Try.prog 4 ⟨.bool, 1, 1, (.bool false)⟩ := TIOk.of (by kernel_rfl) (by kernel_rfl) rfl rfl (by kernel_rfl) (by kernel_rfl)
theorem tk5 : TIOk Try.prog 5 ⟨(.int .u8), 1, 1, (.int .u8 0)⟩ := TIOk.of (by kernel_rfl) (by kernel_rfl) rfl rfl (by kernel_rfl) (by kernel_rfl)
theorem tk9 : TIOk Try.prog 9 ⟨.str, 1, 16, (.string ⟨#[]⟩)⟩ := TIOk.of (by kernel_rfl) (by kernel_rfl) rfl rfl (by kernel_rfl) (by kernel_rfl)
theorem tk25 : TIOk Try.prog 25 ⟨(.slice 5), 1, 24, (.slice none 0 0)⟩ := TIOk.of (by kernel_rfl) (by kernel_rfl) rfl rfl (by kernel_rfl) (by kernel_rfl)
theorem tk2 : TIOk Try.prog 2 ⟨(.int .i64), 1, 8, (.int .i64 0)⟩ := TIOk.of (by kernel_rfl) (by kernel_rfl) rfl rfl (by kernel_rfl) (by kernel_rfl)
theorem tk12 : TIOk Try.prog 12 ⟨(.int .u64), 1, 8, (.int .u64 0)⟩ := TIOk.of (by kernel_rfl) (by kernel_rfl) rfl rfl (by kernel_rfl) (by kernel_rfl)
theorem tk20 : TIOk Try.prog 20 ⟨.iface, 1, 16, .nilIface⟩ := TIOk.of (by kernel_rfl) (by kernel_rfl) rfl rfl (by kernel_rfl) (by kernel_rfl)
theorem tk21 : TIOk Try.prog 21 ⟨(.int .i32), 1, 4, (.int .i32 0)⟩ := TIOk.of (by kernel_rfl) (by kernel_rfl) rfl rfl (by kernel_rfl) (by kernel_rfl)
theorem tk22 : TIOk Try.prog 22 ⟨(.int .i64), 1, 8, (.int .i64 0)⟩ := TIOk.of (by kernel_rfl) (by kernel_rfl) rfl rfl (by kernel_rfl) (by kernel_rfl)
theorem tk23 : TIOk Try.prog 23 ⟨(.struct [(0, 22), (1, 3)]), 2, 16, (.agg #[(.int .i64 0), (.int .i64 0)])⟩ := TIOk.of (by kernel_rfl) (by kernel_rfl) rfl rfl (by kernel_rfl) (by kernel_rfl)
theorem tk24 : TIOk Try.prog 24 ⟨(.struct [(0, 22), (1, 3)]), 2, 16, (.agg #[(.int .i64 0), (.int .i64 0)])⟩ := TIOk.of (by kernel_rfl) (by kernel_rfl) rfl rfl (by kernel_rfl) (by kernel_rfl)
theorem tk26 : TIOk Try.prog 26 ⟨(.struct [(0, 3), (1, 3), (2, 3), (3, 3), (4, 24), (6, 25)]), 7, 72, (.agg #[(.int .i64 0), (.int .i64 0), (.int .i64 0), (.int .i64 0), (.int .i64 0), (.int .i64 0), (.slice none 0 0)])⟩ := TIOk.of (by kernel_rfl) (by kernel_rfl) rfl rfl (by kernel_rfl) (by kernel_rfl)
theorem tk27 : TIOk Try.prog 27 ⟨(.struct [(0, 3), (1, 3), (2, 3), (3, 3), (4, 24), (6, 25)]), 7, 72, (.agg #[(.int .i64 0), (.int .i64 0), (.int .i64 0), (.int .i64 0), (.int .i64 0), (.int .i64 0), (.slice none 0 0)])⟩ := TIOk.of (by kernel_rfl) (by kernel_rfl) rfl rfl (by kernel_rfl) (by kernel_rfl)
theorem tk37 : TIOk Try.prog 37 ⟨(.slice 22), 1, 24, (.slice none 0 0)⟩ := TIOk.of (by kernel_rfl) (by kernel_rfl) rfl rfl (by kernel_rfl) (by kernel_rfl)
theorem tk38 : TIOk Try.prog 38 ⟨(.slice 3), 1, 24, (.slice none 0 0)⟩ := TIOk.of (by kernel_rfl) (by kernel_rfl) rfl rfl (by kernel_rfl) (by kernel_rfl)
theorem tk41 : TIOk Try.prog 41 ⟨(.int .u64), 1, 8, (.int .u64 0)⟩ := TIOk.of (by kernel_rfl) (by kernel_rfl) rfl rfl (by kernel_rfl) (by kernel_rfl)
theorem tk50 : TIOk Try.prog 50 ⟨(.int .u32), 1, 4, (.int .u32 0)⟩ := TIOk.of (by kernel_rfl) (by kernel_rfl) rfl rfl (by kernel_rfl) (by kernel_rfl)
theorem tk54 : TIOk Try.prog 54 ⟨(.ptr 5), 1, 8, (.pointer none)⟩ := TIOk.of (by kernel_rfl) (by kernel_rfl) rfl rfl (by kernel_rfl) (by kernel_rfl)

def tab : Tab := [
  (3, ⟨(.int .i64), 1, 8, (.int .i64 0)⟩),
  (4, ⟨.bool, 1, 1, (.bool false)⟩),
  (5, ⟨(.int .u8), 1, 1, (.int .u8 0)⟩),
  (9, ⟨.str, 1, 16, (.string ⟨#[]⟩)⟩),
  (25, ⟨(.slice 5), 1, 24, (.slice none 0 0)⟩),
  (2, ⟨(.int .i64), 1, 8, (.int .i64 0)⟩),
  (12, ⟨(.int .u64), 1, 8, (.int .u64 0)⟩),
  (20, ⟨.iface, 1, 16, .nilIface⟩),
  (21, ⟨(.int .i32), 1, 4, (.int .i32 0)⟩),
  (22, ⟨(.int .i64), 1, 8, (.int .i64 0)⟩),
  (23, ⟨(.struct [(0, 22), (1, 3)]), 2, 16, (.agg #[(.int .i64 0), (.int .i64 0)])⟩),
  (24, ⟨(.struct [(0, 22), (1, 3)]), 2, 16, (.agg #[(.int .i64 0), (.int .i64 0)])⟩),
  (26, ⟨(.struct [(0, 3), (1, 3), (2, 3), (3, 3), (4, 24), (6, 25)]), 7, 72, (.agg #[(.int .i64 0), (.int .i64 0), (.int .i64 0), (.int .i64 0), (.int .i64 0), (.int .i64 0), (.slice none 0 0)])⟩),
  (27, ⟨(.struct [(0, 3), (1, 3), (2, 3), (3, 3), (4, 24), (6, 25)]), 7, 72, (.agg #[(.int .i64 0), (.int .i64 0), (.int .i64 0), (.int .i64 0), (.int .i64 0), (.int .i64 0), (.slice none 0 0)])⟩),
  (37, ⟨(.slice 22), 1, 24, (.slice none 0 0)⟩),
  (38, ⟨(.slice 3), 1, 24, (.slice none 0 0)⟩),
  (41, ⟨(.int .u64), 1, 8, (.int .u64 0)⟩),
  (50, ⟨(.int .u32), 1, 4, (.int .u32 0)⟩),
  (54, ⟨(.ptr 5), 1, 8, (.pointer none)⟩)]
theorem tabOk : TabOk Try.prog tab :=
  .cons tk3 <| .cons tk4 <| .cons tk5 <| .cons tk9 <| .cons tk25 <| .cons tk2 <| .cons tk12 <| .cons tk20 <| .cons tk21 <| .cons tk22 <| .cons tk23 <| .cons tk24 <| .cons tk26 <| .cons tk27 <| .cons tk37 <| .cons tk38 <| .cons tk41 <| .cons tk50 <| .cons tk54 <| .nil _
theorem mixed : Try.prog.follows .mixedOrders = true := by kernel_rfl
theorem vcOk {n : Nat} {E : Entry} (c : Code) {Q : Ex → List (Nat × D) → List Ob → Prop} {σ : List (Nat × D)} {L : List Ob} (h : vcK Try.prog tab n E c Q σ L) : AWP Try.prog n E c Q σ L := awp_vc tabOk mixed c h

abbrev n_gosem_cut_init : Nat := 2
abbrev n_pllaw10_WireTells : Nat := 3
abbrev n_pllaw10_WireTurns : Nat := 4
abbrev n_pllaw10_WireByte : Nat := 5
abbrev n_pltop_Names : Nat := 6
abbrev n_wire_Bytes : Nat := 7
abbrev n_plref6_MsgBytes : Nat := 8
abbrev n_wire_Wrong : Nat := 9
abbrev n_plref6_WrongMsg : Nat := 10
abbrev n_wire_Parse : Nat := 11
abbrev n_plref6_MsgParse : Nat := 12
abbrev n_plref6_SameMsg : Nat := 13
abbrev n_pllaw10_alive : Nat := 14
abbrev n_isa_Put : Nat := 15
abbrev n_wire_sum : Nat := 16
abbrev n_plref6_Sum : Nat := 17
abbrev n_isa_Get : Nat := 18
abbrev n_plref1_Get : Nat := 19

end Go.Proofs.Ytgmlcpmkonagcaa

namespace Go.Proofs.Ytgmlcpmkonagcaa
open Go Go.Plat
set_option linter.unusedVariables false
set_option linter.unusedSimpArgs false
set_option maxRecDepth 100000
set_option maxHeartbeats 2000000
attribute [local irreducible] BytesS NormL Arith QuoS RemS ShlS ShrS BitS CatS SplitS SideS IdxS CallS LoopEnd EndS ModeS DrawS AWP Meets

def encI (n : Int) : D := .int .i64 n
def errsL : List Int := [0, 1, 2, 3, 4, 5, 6, 7, 8, 9, 10, 11, 12, 13, 14]
def namesL : List Int := [1, 2, 3, 4, 5, 6, 7, 8, 9, 10, 11, 12, 13, 14, 15, 16, 17, 18, 19, 20, 21, 22, 23, 24, 25, 26, 27, 0, 1, 2, 3, 4, 5, 6, 7, 8, 9, 10, 11, 1, 2, 3, 1, 2, 3, 4, 5, 6, 7, 8, 9, 10, 11, 1200, 80, 200, 4000, 6, 10, 4, 8000, 4, 1, 2, 3, 3, 12, 4, 80, 60, 1, 2, 3, 4, 5, 2000]
theorem errs_at : ∀ k : Nat, k < 15 → errsL.getD k 0 = k := by decide

theorem names_meets : Meets Try.prog n_pltop_Names (SpecP (fun _ : Unit => True) (fun _ => []) fun _ => .bool true) := by
  refine meets_f tabOk Try.func6 rfl (by decide) fun _ _ => ?_
  refine ⟨Nat.le_refl _, by simp [Try.f6], fun E hE => ?_⟩
  refine vcOk _ ?_
  (repeat' (first | (refine VS.mk ?_) | (refine dr_mk ?_) | (refine md_l ?_) | ((refine sp_not_dec (fun hc => ?_) (fun hc => ?_)) <;> (try simp only [List.length_map, List.length_append, List.length_cons, List.length_nil, Bool.and_true, Bool.and_eq_true, beq_iff_eq, Bool.and_eq_false_iff, beq_eq_false_iff_ne, Bool.true_and, ne_eq] at hc)) | ((refine sp_dec (fun hc => ?_) (fun hc => ?_)) <;> (try simp only [List.length_map, List.length_append, List.length_cons, List.length_nil, Bool.and_true, Bool.and_eq_true, beq_iff_eq, Bool.and_eq_false_iff, beq_eq_false_iff_ne, Bool.true_and, ne_eq] at hc)) | ((refine sp_beq (fun hc => ?_) (fun hc => ?_)) <;> (try simp only [List.length_map, List.length_append, List.length_cons, List.length_nil, Bool.and_true, Bool.and_eq_true, beq_iff_eq, Bool.and_eq_false_iff, beq_eq_false_iff_ne, Bool.true_and, ne_eq] at hc)) | ((refine sp_bne (fun hc => ?_) (fun hc => ?_)) <;> (try simp only [List.length_map, List.length_append, List.length_cons, List.length_nil, Bool.and_true, Bool.and_eq_true, beq_iff_eq, Bool.and_eq_false_iff, beq_eq_false_iff_ne, Bool.true_and, ne_eq] at hc)) | ((refine sp_seq (fun hc => ?_) (fun hc => ?_)) <;> (try simp only [List.length_map, List.length_append, List.length_cons, List.length_nil, Bool.and_true, Bool.and_eq_true, beq_iff_eq, Bool.and_eq_false_iff, beq_eq_false_iff_ne, Bool.true_and, ne_eq] at hc)) | ((refine sp_sne (fun hc => ?_) (fun hc => ?_)) <;> (try simp only [List.length_map, List.length_append, List.length_cons, List.length_nil, Bool.and_true, Bool.and_eq_true, beq_iff_eq, Bool.and_eq_false_iff, beq_eq_false_iff_ne, Bool.true_and, ne_eq] at hc)) | ((refine sp_not (fun hc => ?_) (fun hc => ?_)) <;> (try simp only [List.length_map, List.length_append, List.length_cons, List.length_nil, Bool.and_true, Bool.and_eq_true, beq_iff_eq, Bool.and_eq_false_iff, beq_eq_false_iff_ne, Bool.true_and, ne_eq] at hc)) | ((refine sp_any (fun hc => ?_) (fun hc => ?_)) <;> (try simp only [List.length_map, List.length_append, List.length_cons, List.length_nil, Bool.and_true, Bool.and_eq_true, beq_iff_eq, Bool.and_eq_false_iff, beq_eq_false_iff_ne, Bool.true_and, ne_eq] at hc)) | (with_reducible first | refine norm_one ?_ | refine norm_app ?_ | refine norm_cutEnd ?_ | refine norm_cut ?_ | refine norm_bytes1 ?_ | refine norm_bytes2 ?_ | refine norm_setByte ?_ | refine norm_int1 ?_ | refine norm_mk ?_) | (with_reducible refine bytes_mk ?_) | (refine ar_byte ?_) | (refine ar_i64 (by omega) (by omega) ?_) | (refine ar_low ?_) | (refine ix_byteN (by omega) ?_) | (refine ix_byteK (by simp only [Int.reduceToNat]; exact rfl) (by decide) (by omega) ?_) | (refine ix_byte (by omega) (by omega) ?_) | (refine ix_rfl (by decide) rfl ?_) | (refine sd_mk rfl ?_) | (refine sd_mk (by first | (simp only [List.length_map, List.length_append, List.length_cons, List.length_nil]; done) | ((try simp only [List.length_map, List.length_append, List.length_cons, List.length_nil, List.length_set, List.length_replicate, List.length_drop, List.length_take, true_and, and_true]); omega) | (dsimp only; omega)) ?_) | (refine shl_lit (s := 8) (m := 256) rfl (by decide) (by decide) (by omega) (by omega) ?_) | (refine shl_lit (s := 4) (m := 16) rfl (by decide) (by decide) (by omega) (by omega) ?_) | (refine shl_lit (s := 1) (m := 2) rfl (by decide) (by decide) (by omega) (by omega) ?_) | (refine shl_lit (s := 16) (m := 65536) rfl (by decide) (by decide) (by omega) (by omega) ?_) | (refine shl_lit (s := 24) (m := 16777216) rfl (by decide) (by decide) (by omega) (by omega) ?_) | (refine shr_lit (s := 8) (m := 256) rfl (by decide) (by decide) ?_) | (refine shr_lit (s := 4) (m := 16) rfl (by decide) (by decide) ?_) | (refine shr_lit (s := 1) (m := 2) rfl (by decide) (by decide) ?_) | (refine shr_lit (s := 16) (m := 65536) rfl (by decide) (by decide) ?_) | (refine shr_lit (s := 24) (m := 16777216) rfl (by decide) (by decide) ?_) | (refine quo_pos (by omega) (by omega) (by omega) ?_) | (refine rem_pos (by omega) (by omega) ?_)))
  refine awp_loop (α := Nat) (fun k => k ≤ 15) (fun k => [(8, .sl 1 (errsL.map encI) none), (9, .int .i64 15), (10, .int .i64 k)]) (fun _ => []) (fun k => 15 - k) (fun _ => by simp [hE]) 0 (Nat.zero_le _) ?_ ?_
  · (repeat' (first | (refine VS.mk ?_) | exact trivial | exact rfl | refine And.intro ?_ ?_))
  intro k hk
  refine vcOk _ ?_
  (repeat' (first | (refine VS.mk ?_) | (refine dr_mk ?_) | (refine md_l ?_) | ((refine sp_not_dec (fun hc => ?_) (fun hc => ?_)) <;> (try simp only [List.length_map, List.length_append, List.length_cons, List.length_nil, Bool.and_true, Bool.and_eq_true, beq_iff_eq, Bool.and_eq_false_iff, beq_eq_false_iff_ne, Bool.true_and, ne_eq] at hc)) | ((refine sp_dec (fun hc => ?_) (fun hc => ?_)) <;> (try simp only [List.length_map, List.length_append, List.length_cons, List.length_nil, Bool.and_true, Bool.and_eq_true, beq_iff_eq, Bool.and_eq_false_iff, beq_eq_false_iff_ne, Bool.true_and, ne_eq] at hc)) | ((refine sp_beq (fun hc => ?_) (fun hc => ?_)) <;> (try simp only [List.length_map, List.length_append, List.length_cons, List.length_nil, Bool.and_true, Bool.and_eq_true, beq_iff_eq, Bool.and_eq_false_iff, beq_eq_false_iff_ne, Bool.true_and, ne_eq] at hc)) | ((refine sp_bne (fun hc => ?_) (fun hc => ?_)) <;> (try simp only [List.length_map, List.length_append, List.length_cons, List.length_nil, Bool.and_true, Bool.and_eq_true, beq_iff_eq, Bool.and_eq_false_iff, beq_eq_false_iff_ne, Bool.true_and, ne_eq] at hc)) | ((refine sp_seq (fun hc => ?_) (fun hc => ?_)) <;> (try simp only [List.length_map, List.length_append, List.length_cons, List.length_nil, Bool.and_true, Bool.and_eq_true, beq_iff_eq, Bool.and_eq_false_iff, beq_eq_false_iff_ne, Bool.true_and, ne_eq] at hc)) | ((refine sp_sne (fun hc => ?_) (fun hc => ?_)) <;> (try simp only [List.length_map, List.length_append, List.length_cons, List.length_nil, Bool.and_true, Bool.and_eq_true, beq_iff_eq, Bool.and_eq_false_iff, beq_eq_false_iff_ne, Bool.true_and, ne_eq] at hc)) | ((refine sp_not (fun hc => ?_) (fun hc => ?_)) <;> (try simp only [List.length_map, List.length_append, List.length_cons, List.length_nil, Bool.and_true, Bool.and_eq_true, beq_iff_eq, Bool.and_eq_false_iff, beq_eq_false_iff_ne, Bool.true_and, ne_eq] at hc)) | ((refine sp_any (fun hc => ?_) (fun hc => ?_)) <;> (try simp only [List.length_map, List.length_append, List.length_cons, List.length_nil, Bool.and_true, Bool.and_eq_true, beq_iff_eq, Bool.and_eq_false_iff, beq_eq_false_iff_ne, Bool.true_and, ne_eq] at hc)) | (with_reducible first | refine norm_one ?_ | refine norm_app ?_ | refine norm_cutEnd ?_ | refine norm_cut ?_ | refine norm_bytes1 ?_ | refine norm_bytes2 ?_ | refine norm_setByte ?_ | refine norm_int1 ?_ | refine norm_mk ?_) | (with_reducible refine bytes_mk ?_) | (refine ar_byte ?_) | (refine ar_i64 (by omega) (by omega) ?_) | (refine ar_low ?_) | (refine ix_byteN (by omega) ?_) | (refine ix_byteK (by simp only [Int.reduceToNat]; exact rfl) (by decide) (by omega) ?_) | (refine ix_byte (by omega) (by omega) ?_) | (refine ix_rfl (by decide) rfl ?_) | (refine sd_mk rfl ?_) | (refine sd_mk (by first | (simp only [List.length_map, List.length_append, List.length_cons, List.length_nil]; done) | ((try simp only [List.length_map, List.length_append, List.length_cons, List.length_nil, List.length_set, List.length_replicate, List.length_drop, List.length_take, true_and, and_true]); omega) | (dsimp only; omega)) ?_) | (refine shl_lit (s := 8) (m := 256) rfl (by decide) (by decide) (by omega) (by omega) ?_) | (refine shl_lit (s := 4) (m := 16) rfl (by decide) (by decide) (by omega) (by omega) ?_) | (refine shl_lit (s := 1) (m := 2) rfl (by decide) (by decide) (by omega) (by omega) ?_) | (refine shl_lit (s := 16) (m := 65536) rfl (by decide) (by decide) (by omega) (by omega) ?_) | (refine shl_lit (s := 24) (m := 16777216) rfl (by decide) (by decide) (by omega) (by omega) ?_) | (refine shr_lit (s := 8) (m := 256) rfl (by decide) (by decide) ?_) | (refine shr_lit (s := 4) (m := 16) rfl (by decide) (by decide) ?_) | (refine shr_lit (s := 1) (m := 2) rfl (by decide) (by decide) ?_) | (refine shr_lit (s := 16) (m := 65536) rfl (by decide) (by decide) ?_) | (refine shr_lit (s := 24) (m := 16777216) rfl (by decide) (by decide) ?_) | (refine quo_pos (by omega) (by omega) (by omega) ?_) | (refine rem_pos (by omega) (by omega) ?_)))
  · refine ix_getD 0 (by omega) (by simp [errsL]; omega) ?_
    have h := errs_at k (by omega)
    (repeat' (first | (refine VS.mk ?_) | (refine dr_mk ?_) | (refine md_l ?_) | ((refine sp_not_dec (fun hc => ?_) (fun hc => ?_)) <;> (try simp only [List.length_map, List.length_append, List.length_cons, List.length_nil, Bool.and_true, Bool.and_eq_true, beq_iff_eq, Bool.and_eq_false_iff, beq_eq_false_iff_ne, Bool.true_and, ne_eq] at hc)) | ((refine sp_dec (fun hc => ?_) (fun hc => ?_)) <;> (try simp only [List.length_map, List.length_append, List.length_cons, List.length_nil, Bool.and_true, Bool.and_eq_true, beq_iff_eq, Bool.and_eq_false_iff, beq_eq_false_iff_ne, Bool.true_and, ne_eq] at hc)) | ((refine sp_beq (fun hc => ?_) (fun hc => ?_)) <;> (try simp only [List.length_map, List.length_append, List.length_cons, List.length_nil, Bool.and_true, Bool.and_eq_true, beq_iff_eq, Bool.and_eq_false_iff, beq_eq_false_iff_ne, Bool.true_and, ne_eq] at hc)) | ((refine sp_bne (fun hc => ?_) (fun hc => ?_)) <;> (try simp only [List.length_map, List.length_append, List.length_cons, List.length_nil, Bool.and_true, Bool.and_eq_true, beq_iff_eq, Bool.and_eq_false_iff, beq_eq_false_iff_ne, Bool.true_and, ne_eq] at hc)) | ((refine sp_seq (fun hc => ?_) (fun hc => ?_)) <;> (try simp only [List.length_map, List.length_append, List.length_cons, List.length_nil, Bool.and_true, Bool.and_eq_true, beq_iff_eq, Bool.and_eq_false_iff, beq_eq_false_iff_ne, Bool.true_and, ne_eq] at hc)) | ((refine sp_sne (fun hc => ?_) (fun hc => ?_)) <;> (try simp only [List.length_map, List.length_append, List.length_cons, List.length_nil, Bool.and_true, Bool.and_eq_true, beq_iff_eq, Bool.and_eq_false_iff, beq_eq_false_iff_ne, Bool.true_and, ne_eq] at hc)) | ((refine sp_not (fun hc => ?_) (fun hc => ?_)) <;> (try simp only [List.length_map, List.length_append, List.length_cons, List.length_nil, Bool.and_true, Bool.and_eq_true, beq_iff_eq, Bool.and_eq_false_iff, beq_eq_false_iff_ne, Bool.true_and, ne_eq] at hc)) | ((refine sp_any (fun hc => ?_) (fun hc => ?_)) <;> (try simp only [List.length_map, List.length_append, List.length_cons, List.length_nil, Bool.and_true, Bool.and_eq_true, beq_iff_eq, Bool.and_eq_false_iff, beq_eq_false_iff_ne, Bool.true_and, ne_eq] at hc)) | (with_reducible first | refine norm_one ?_ | refine norm_app ?_ | refine norm_cutEnd ?_ | refine norm_cut ?_ | refine norm_bytes1 ?_ | refine norm_bytes2 ?_ | refine norm_setByte ?_ | refine norm_int1 ?_ | refine norm_mk ?_) | (with_reducible refine bytes_mk ?_) | (refine ar_byte ?_) | (refine ar_i64 (by omega) (by omega) ?_) | (refine ar_low ?_) | (refine ix_byteN (by omega) ?_) | (refine ix_byteK (by simp only [Int.reduceToNat]; exact rfl) (by decide) (by omega) ?_) | (refine ix_byte (by omega) (by omega) ?_) | (refine ix_rfl (by decide) rfl ?_) | (refine sd_mk rfl ?_) | (refine sd_mk (by first | (simp only [List.length_map, List.length_append, List.length_cons, List.length_nil]; done) | ((try simp only [List.length_map, List.length_append, List.length_cons, List.length_nil, List.length_set, List.length_replicate, List.length_drop, List.length_take, true_and, and_true]); omega) | (dsimp only; omega)) ?_) | (refine shl_lit (s := 8) (m := 256) rfl (by decide) (by decide) (by omega) (by omega) ?_) | (refine shl_lit (s := 4) (m := 16) rfl (by decide) (by decide) (by omega) (by omega) ?_) | (refine shl_lit (s := 1) (m := 2) rfl (by decide) (by decide) (by omega) (by omega) ?_) | (refine shl_lit (s := 16) (m := 65536) rfl (by decide) (by decide) (by omega) (by omega) ?_) | (refine shl_lit (s := 24) (m := 16777216) rfl (by decide) (by decide) (by omega) (by omega) ?_) | (refine shr_lit (s := 8) (m := 256) rfl (by decide) (by decide) ?_) | (refine shr_lit (s := 4) (m := 16) rfl (by decide) (by decide) ?_) | (refine shr_lit (s := 1) (m := 2) rfl (by decide) (by decide) ?_) | (refine shr_lit (s := 16) (m := 65536) rfl (by decide) (by decide) ?_) | (refine shr_lit (s := 24) (m := 16777216) rfl (by decide) (by decide) ?_) | (refine quo_pos (by omega) (by omega) (by omega) ?_) | (refine rem_pos (by omega) (by omega) ?_)))
    · exfalso
      apply hc
      simpa using h
    refine loop_end (k + 1) (by omega) (by omega) ?_
    (repeat' (first | (refine VS.mk ?_) | exact trivial | exact rfl | refine And.intro ?_ ?_))
  refine awp_loop (α := Nat) (fun k => k ≤ 76) (fun k => [(4, .sl 1 (namesL.map encI) none), (5, .sl 1 (namesL.map encI) none), (21, .sl 1 (namesL.map encI) none), (22, .int .i64 76), (23, .int .i64 k)]) (fun _ => []) (fun k => 76 - k) (fun _ => by simp [hE]) 0 (Nat.zero_le _) ?_ ?_
  · (repeat' (first | (refine VS.mk ?_) | exact trivial | exact rfl | refine And.intro ?_ ?_))
  intro k hk
  refine vcOk _ ?_
  (repeat' (first | (refine VS.mk ?_) | (refine dr_mk ?_) | (refine md_l ?_) | ((refine sp_not_dec (fun hc => ?_) (fun hc => ?_)) <;> (try simp only [List.length_map, List.length_append, List.length_cons, List.length_nil, Bool.and_true, Bool.and_eq_true, beq_iff_eq, Bool.and_eq_false_iff, beq_eq_false_iff_ne, Bool.true_and, ne_eq] at hc)) | ((refine sp_dec (fun hc => ?_) (fun hc => ?_)) <;> (try simp only [List.length_map, List.length_append, List.length_cons, List.length_nil, Bool.and_true, Bool.and_eq_true, beq_iff_eq, Bool.and_eq_false_iff, beq_eq_false_iff_ne, Bool.true_and, ne_eq] at hc)) | ((refine sp_beq (fun hc => ?_) (fun hc => ?_)) <;> (try simp only [List.length_map, List.length_append, List.length_cons, List.length_nil, Bool.and_true, Bool.and_eq_true, beq_iff_eq, Bool.and_eq_false_iff, beq_eq_false_iff_ne, Bool.true_and, ne_eq] at hc)) | ((refine sp_bne (fun hc => ?_) (fun hc => ?_)) <;> (try simp only [List.length_map, List.length_append, List.length_cons, List.length_nil, Bool.and_true, Bool.and_eq_true, beq_iff_eq, Bool.and_eq_false_iff, beq_eq_false_iff_ne, Bool.true_and, ne_eq] at hc)) | ((refine sp_seq (fun hc => ?_) (fun hc => ?_)) <;> (try simp only [List.length_map, List.length_append, List.length_cons, List.length_nil, Bool.and_true, Bool.and_eq_true, beq_iff_eq, Bool.and_eq_false_iff, beq_eq_false_iff_ne, Bool.true_and, ne_eq] at hc)) | ((refine sp_sne (fun hc => ?_) (fun hc => ?_)) <;> (try simp only [List.length_map, List.length_append, List.length_cons, List.length_nil, Bool.and_true, Bool.and_eq_true, beq_iff_eq, Bool.and_eq_false_iff, beq_eq_false_iff_ne, Bool.true_and, ne_eq] at hc)) | ((refine sp_not (fun hc => ?_) (fun hc => ?_)) <;> (try simp only [List.length_map, List.length_append, List.length_cons, List.length_nil, Bool.and_true, Bool.and_eq_true, beq_iff_eq, Bool.and_eq_false_iff, beq_eq_false_iff_ne, Bool.true_and, ne_eq] at hc)) | ((refine sp_any (fun hc => ?_) (fun hc => ?_)) <;> (try simp only [List.length_map, List.length_append, List.length_cons, List.length_nil, Bool.and_true, Bool.and_eq_true, beq_iff_eq, Bool.and_eq_false_iff, beq_eq_false_iff_ne, Bool.true_and, ne_eq] at hc)) | (with_reducible first | refine norm_one ?_ | refine norm_app ?_ | refine norm_cutEnd ?_ | refine norm_cut ?_ | refine norm_bytes1 ?_ | refine norm_bytes2 ?_ | refine norm_setByte ?_ | refine norm_int1 ?_ | refine norm_mk ?_) | (with_reducible refine bytes_mk ?_) | (refine ar_byte ?_) | (refine ar_i64 (by omega) (by omega) ?_) | (refine ar_low ?_) | (refine ix_byteN (by omega) ?_) | (refine ix_byteK (by simp only [Int.reduceToNat]; exact rfl) (by decide) (by omega) ?_) | (refine ix_byte (by omega) (by omega) ?_) | (refine ix_rfl (by decide) rfl ?_) | (refine sd_mk rfl ?_) | (refine sd_mk (by first | (simp only [List.length_map, List.length_append, List.length_cons, List.length_nil]; done) | ((try simp only [List.length_map, List.length_append, List.length_cons, List.length_nil, List.length_set, List.length_replicate, List.length_drop, List.length_take, true_and, and_true]); omega) | (dsimp only; omega)) ?_) | (refine shl_lit (s := 8) (m := 256) rfl (by decide) (by decide) (by omega) (by omega) ?_) | (refine shl_lit (s := 4) (m := 16) rfl (by decide) (by decide) (by omega) (by omega) ?_) | (refine shl_lit (s := 1) (m := 2) rfl (by decide) (by decide) (by omega) (by omega) ?_) | (refine shl_lit (s := 16) (m := 65536) rfl (by decide) (by decide) (by omega) (by omega) ?_) | (refine shl_lit (s := 24) (m := 16777216) rfl (by decide) (by decide) (by omega) (by omega) ?_) | (refine shr_lit (s := 8) (m := 256) rfl (by decide) (by decide) ?_) | (refine shr_lit (s := 4) (m := 16) rfl (by decide) (by decide) ?_) | (refine shr_lit (s := 1) (m := 2) rfl (by decide) (by decide) ?_) | (refine shr_lit (s := 16) (m := 65536) rfl (by decide) (by decide) ?_) | (refine shr_lit (s := 24) (m := 16777216) rfl (by decide) (by decide) ?_) | (refine quo_pos (by omega) (by omega) (by omega) ?_) | (refine rem_pos (by omega) (by omega) ?_)))
  · refine ix_getD 0 (by omega) (by simp [namesL]; omega) ?_
    (repeat' (first | (refine VS.mk ?_) | (refine dr_mk ?_) | (refine md_l ?_) | ((refine sp_not_dec (fun hc => ?_) (fun hc => ?_)) <;> (try simp only [List.length_map, List.length_append, List.length_cons, List.length_nil, Bool.and_true, Bool.and_eq_true, beq_iff_eq, Bool.and_eq_false_iff, beq_eq_false_iff_ne, Bool.true_and, ne_eq] at hc)) | ((refine sp_dec (fun hc => ?_) (fun hc => ?_)) <;> (try simp only [List.length_map, List.length_append, List.length_cons, List.length_nil, Bool.and_true, Bool.and_eq_true, beq_iff_eq, Bool.and_eq_false_iff, beq_eq_false_iff_ne, Bool.true_and, ne_eq] at hc)) | ((refine sp_beq (fun hc => ?_) (fun hc => ?_)) <;> (try simp only [List.length_map, List.length_append, List.length_cons, List.length_nil, Bool.and_true, Bool.and_eq_true, beq_iff_eq, Bool.and_eq_false_iff, beq_eq_false_iff_ne, Bool.true_and, ne_eq] at hc)) | ((refine sp_bne (fun hc => ?_) (fun hc => ?_)) <;> (try simp only [List.length_map, List.length_append, List.length_cons, List.length_nil, Bool.and_true, Bool.and_eq_true, beq_iff_eq, Bool.and_eq_false_iff, beq_eq_false_iff_ne, Bool.true_and, ne_eq] at hc)) | ((refine sp_seq (fun hc => ?_) (fun hc => ?_)) <;> (try simp only [List.length_map, List.length_append, List.length_cons, List.length_nil, Bool.and_true, Bool.and_eq_true, beq_iff_eq, Bool.and_eq_false_iff, beq_eq_false_iff_ne, Bool.true_and, ne_eq] at hc)) | ((refine sp_sne (fun hc => ?_) (fun hc => ?_)) <;> (try simp only [List.length_map, List.length_append, List.length_cons, List.length_nil, Bool.and_true, Bool.and_eq_true, beq_iff_eq, Bool.and_eq_false_iff, beq_eq_false_iff_ne, Bool.true_and, ne_eq] at hc)) | ((refine sp_not (fun hc => ?_) (fun hc => ?_)) <;> (try simp only [List.length_map, List.length_append, List.length_cons, List.length_nil, Bool.and_true, Bool.and_eq_true, beq_iff_eq, Bool.and_eq_false_iff, beq_eq_false_iff_ne, Bool.true_and, ne_eq] at hc)) | ((refine sp_any (fun hc => ?_) (fun hc => ?_)) <;> (try simp only [List.length_map, List.length_append, List.length_cons, List.length_nil, Bool.and_true, Bool.and_eq_true, beq_iff_eq, Bool.and_eq_false_iff, beq_eq_false_iff_ne, Bool.true_and, ne_eq] at hc)) | (with_reducible first | refine norm_one ?_ | refine norm_app ?_ | refine norm_cutEnd ?_ | refine norm_cut ?_ | refine norm_bytes1 ?_ | refine norm_bytes2 ?_ | refine norm_setByte ?_ | refine norm_int1 ?_ | refine norm_mk ?_) | (with_reducible refine bytes_mk ?_) | (refine ar_byte ?_) | (refine ar_i64 (by omega) (by omega) ?_) | (refine ar_low ?_) | (refine ix_byteN (by omega) ?_) | (refine ix_byteK (by simp only [Int.reduceToNat]; exact rfl) (by decide) (by omega) ?_) | (refine ix_byte (by omega) (by omega) ?_) | (refine ix_rfl (by decide) rfl ?_) | (refine sd_mk rfl ?_) | (refine sd_mk (by first | (simp only [List.length_map, List.length_append, List.length_cons, List.length_nil]; done) | ((try simp only [List.length_map, List.length_append, List.length_cons, List.length_nil, List.length_set, List.length_replicate, List.length_drop, List.length_take, true_and, and_true]); omega) | (dsimp only; omega)) ?_) | (refine shl_lit (s := 8) (m := 256) rfl (by decide) (by decide) (by omega) (by omega) ?_) | (refine shl_lit (s := 4) (m := 16) rfl (by decide) (by decide) (by omega) (by omega) ?_) | (refine shl_lit (s := 1) (m := 2) rfl (by decide) (by decide) (by omega) (by omega) ?_) | (refine shl_lit (s := 16) (m := 65536) rfl (by decide) (by decide) (by omega) (by omega) ?_) | (refine shl_lit (s := 24) (m := 16777216) rfl (by decide) (by decide) (by omega) (by omega) ?_) | (refine shr_lit (s := 8) (m := 256) rfl (by decide) (by decide) ?_) | (refine shr_lit (s := 4) (m := 16) rfl (by decide) (by decide) ?_) | (refine shr_lit (s := 1) (m := 2) rfl (by decide) (by decide) ?_) | (refine shr_lit (s := 16) (m := 65536) rfl (by decide) (by decide) ?_) | (refine shr_lit (s := 24) (m := 16777216) rfl (by decide) (by decide) ?_) | (refine quo_pos (by omega) (by omega) (by omega) ?_) | (refine rem_pos (by omega) (by omega) ?_)))
    refine ix_getD 0 (by omega) (by simp [namesL]; omega) ?_
    (repeat' (first | (refine VS.mk ?_) | (refine dr_mk ?_) | (refine md_l ?_) | ((refine sp_not_dec (fun hc => ?_) (fun hc => ?_)) <;> (try simp only [List.length_map, List.length_append, List.length_cons, List.length_nil, Bool.and_true, Bool.and_eq_true, beq_iff_eq, Bool.and_eq_false_iff, beq_eq_false_iff_ne, Bool.true_and, ne_eq] at hc)) | ((refine sp_dec (fun hc => ?_) (fun hc => ?_)) <;> (try simp only [List.length_map, List.length_append, List.length_cons, List.length_nil, Bool.and_true, Bool.and_eq_true, beq_iff_eq, Bool.and_eq_false_iff, beq_eq_false_iff_ne, Bool.true_and, ne_eq] at hc)) | ((refine sp_beq (fun hc => ?_) (fun hc => ?_)) <;> (try simp only [List.length_map, List.length_append, List.length_cons, List.length_nil, Bool.and_true, Bool.and_eq_true, beq_iff_eq, Bool.and_eq_false_iff, beq_eq_false_iff_ne, Bool.true_and, ne_eq] at hc)) | ((refine sp_bne (fun hc => ?_) (fun hc => ?_)) <;> (try simp only [List.length_map, List.length_append, List.length_cons, List.length_nil, Bool.and_true, Bool.and_eq_true, beq_iff_eq, Bool.and_eq_false_iff, beq_eq_false_iff_ne, Bool.true_and, ne_eq] at hc)) | ((refine sp_seq (fun hc => ?_) (fun hc => ?_)) <;> (try simp only [List.length_map, List.length_append, List.length_cons, List.length_nil, Bool.and_true, Bool.and_eq_true, beq_iff_eq, Bool.and_eq_false_iff, beq_eq_false_iff_ne, Bool.true_and, ne_eq] at hc)) | ((refine sp_sne (fun hc => ?_) (fun hc => ?_)) <;> (try simp only [List.length_map, List.length_append, List.length_cons, List.length_nil, Bool.and_true, Bool.and_eq_true, beq_iff_eq, Bool.and_eq_false_iff, beq_eq_false_iff_ne, Bool.true_and, ne_eq] at hc)) | ((refine sp_not (fun hc => ?_) (fun hc => ?_)) <;> (try simp only [List.length_map, List.length_append, List.length_cons, List.length_nil, Bool.and_true, Bool.and_eq_true, beq_iff_eq, Bool.and_eq_false_iff, beq_eq_false_iff_ne, Bool.true_and, ne_eq] at hc)) | ((refine sp_any (fun hc => ?_) (fun hc => ?_)) <;> (try simp only [List.length_map, List.length_append, List.length_cons, List.length_nil, Bool.and_true, Bool.and_eq_true, beq_iff_eq, Bool.and_eq_false_iff, beq_eq_false_iff_ne, Bool.true_and, ne_eq] at hc)) | (with_reducible first | refine norm_one ?_ | refine norm_app ?_ | refine norm_cutEnd ?_ | refine norm_cut ?_ | refine norm_bytes1 ?_ | refine norm_bytes2 ?_ | refine norm_setByte ?_ | refine norm_int1 ?_ | refine norm_mk ?_) | (with_reducible refine bytes_mk ?_) | (refine ar_byte ?_) | (refine ar_i64 (by omega) (by omega) ?_) | (refine ar_low ?_) | (refine ix_byteN (by omega) ?_) | (refine ix_byteK (by simp only [Int.reduceToNat]; exact rfl) (by decide) (by omega) ?_) | (refine ix_byte (by omega) (by omega) ?_) | (refine ix_rfl (by decide) rfl ?_) | (refine sd_mk rfl ?_) | (refine sd_mk (by first | (simp only [List.length_map, List.length_append, List.length_cons, List.length_nil]; done) | ((try simp only [List.length_map, List.length_append, List.length_cons, List.length_nil, List.length_set, List.length_replicate, List.length_drop, List.length_take, true_and, and_true]); omega) | (dsimp only; omega)) ?_) | (refine shl_lit (s := 8) (m := 256) rfl (by decide) (by decide) (by omega) (by omega) ?_) | (refine shl_lit (s := 4) (m := 16) rfl (by decide) (by decide) (by omega) (by omega) ?_) | (refine shl_lit (s := 1) (m := 2) rfl (by decide) (by decide) (by omega) (by omega) ?_) | (refine shl_lit (s := 16) (m := 65536) rfl (by decide) (by decide) (by omega) (by omega) ?_) | (refine shl_lit (s := 24) (m := 16777216) rfl (by decide) (by decide) (by omega) (by omega) ?_) | (refine shr_lit (s := 8) (m := 256) rfl (by decide) (by decide) ?_) | (refine shr_lit (s := 4) (m := 16) rfl (by decide) (by decide) ?_) | (refine shr_lit (s := 1) (m := 2) rfl (by decide) (by decide) ?_) | (refine shr_lit (s := 16) (m := 65536) rfl (by decide) (by decide) ?_) | (refine shr_lit (s := 24) (m := 16777216) rfl (by decide) (by decide) ?_) | (refine quo_pos (by omega) (by omega) (by omega) ?_) | (refine rem_pos (by omega) (by omega) ?_)))
    · exact absurd trivial hc
    refine loop_end (k + 1) (by omega) (by omega) ?_
    (repeat' (first | (refine VS.mk ?_) | exact trivial | exact rfl | refine And.intro ?_ ?_))
  · exact end_p (VS.mk (LeD.tt rfl))
end Go.Proofs.Ytgmlcpmkonagcaa

/-
  What the bound on what is handed in gives.
-/
namespace Go.Proofs.Ytgmlcpmkonagcaa
open Go Go.Plat
set_option linter.unusedVariables false
set_option linter.unusedSimpArgs false
set_option maxRecDepth 100000
set_option maxHeartbeats 2000000
attribute [local irreducible] BytesS NormL Arith QuoS RemS ShlS ShrS BitS CatS SplitS SideS IdxS CallS LoopEnd EndS ModeS DrawS AWP Meets
theorem own : ownKnob Try.prog.godebug = none := by kernel_rfl

theorem one_le {H : Type} (d : DataW H) : 1 ≤ Rows.uptoBulk d := by
  cases d with
  | lit l => cases l <;> simp [Rows.uptoBulk]
  | nil => simp [Rows.uptoBulk]
  | ptr d => simp [Rows.uptoBulk]
  | slice el sp => simp [Rows.uptoBulk]
  | agg ps => simp [Rows.uptoBulk]
  | iface t d => simp [Rows.uptoBulk]
  | map es => simp [Rows.uptoBulk]
  | held h => simp [Rows.uptoBulk]
theorem part_le {H : Type} {d : DataW H} {l : List (DataW H)} (h : d ∈ l) : Rows.uptoBulk d ≤ Rows.uptoBulkAll l := by
  induction l with
  | nil => cases h
  | cons x r ih =>
    simp only [Rows.uptoBulkAll]
    cases List.mem_cons.1 h with
    | inl e => subst e; omega
    | inr e => have := ih e; omega
theorem length_le {H : Type} (l : List (DataW H)) : l.length ≤ Rows.uptoBulkAll l := by
  induction l with
  | nil => simp [Rows.uptoBulkAll]
  | cons x r ih => have := one_le x; simp only [Rows.uptoBulkAll, List.length_cons]; omega
theorem elems_all {H : Type} (d : DataW H) : Rows.uptoBulkAll (elems d) ≤ Rows.uptoBulk d := by
  cases d <;> simp only [elems, Rows.uptoBulk, Rows.uptoBulkAll] <;> omega
theorem elems_le {H : Type} (d : DataW H) : (elems d).length ≤ Rows.uptoBulk d := Nat.le_trans (length_le _) (elems_all d)
theorem bound {H : Type} {l : List (DataW H)} (hk : Rows.uptoSmall H l = true) : Rows.uptoBulkAll l ≤ 1048576 := of_decide_eq_true hk
end Go.Proofs.Ytgmlcpmkonagcaa
