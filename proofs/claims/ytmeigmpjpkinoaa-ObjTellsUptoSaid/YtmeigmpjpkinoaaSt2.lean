/-
  A part of the proof: what the given program's functions answer, each once; conditions that are enough for it.
-/
import Derived.Test.YtmeigmpjpkinoaaSt1
import Derived.Test.YtmeigmpjpkinoaaFw3
import Derived.Test.YtmeigmpjpkinoaaRows
import Derived.WalkKit
import Derived.ProofKit
import Derived.OpenShut
import Derived.JoinedCond
namespace Go.Proofs.Ytmeigmpjpkinoaa
open Go Go.Plat
set_option linter.unusedVariables false
set_option linter.unusedSimpArgs false
set_option maxRecDepth 100000
set_option maxHeartbeats 2000000
attribute [local irreducible] NilS LookS NormM bitI BytesS NormL Arith QuoS RemS ShlS ShrS BitS CatS SplitS SideS IdxS CallS LoopEnd EndS ModeS DrawS AWP Meets
attribute [local irreducible] signedI letterB digitB nameB wrongO

/-- what is read, what is left, whether there was too little -/
def takeV (b : List UInt8) (n : Int) : List UInt8 := if n < 0 ∨ b.length < n then List.replicate (min (max n 0) 4).toNat 0 else b.take n.toNat
def takeB (b : List UInt8) (n : Int) : List UInt8 := if n < 0 ∨ b.length < n then b else b.drop n.toNat
def takeE (b : List UInt8) (n : Int) (e : Bool) : Bool := if n < 0 ∨ b.length < n then true else e

theorem take_meets : Meets Try.prog n_obj_reader_take (SpecF (fun ((b, e, n) : List UInt8 × Bool × Int) => b.length ≤ 100000000)
    (fun (b, e, n) => [.loc 0 0, .int .i64 n]) (fun (b, e, n) => [.cells [bytesD b, .bool e]]) (fun (b, e, n) => bytesD (takeV b n)) fun (b, e, n) => [.cells [bytesD (takeB b n), .bool (takeE b n e)]]) := by
  refine meets_f tabOk Try.func36 rfl (by decide) ?_
  rintro ⟨b, e, n⟩ hb
  have hb : b.length ≤ 100000000 := hb
  refine ⟨Nat.le_refl _, by simp [Try.f36], fun E hE => ?_⟩
  refine vcOk _ ?_
  (repeat' (first | (refine VS.mk ?_) | (refine dr_mk ?_) | (refine md_l ?_) | ((first | refine sp_not_dec ?_ ?_ | refine sp_dec ?_ ?_ | refine sp_beq ?_ ?_ | refine sp_bne ?_ ?_ | refine sp_seq ?_ ?_ | refine sp_sne ?_ ?_ | refine sp_not ?_ ?_ | refine sp_any ?_ ?_) <;> (intro hc; try simp only [List.length_map, List.length_append, List.length_cons, List.length_nil, Bool.and_true, Bool.and_eq_true, beq_iff_eq, Bool.and_eq_false_iff, beq_eq_false_iff_ne, Bool.true_and, ne_eq] at hc)) | (with_reducible first | refine norm_one ?_ | refine norm_app ?_ | refine norm_cutEnd ?_ | refine norm_cut ?_ | refine norm_bytes1 ?_ | refine norm_bytes2 ?_ | refine norm_setByte ?_ | refine norm_int1 ?_ | refine norm_mk ?_) | (with_reducible refine bytes_mk ?_) | (refine ar_byte ?_) | (refine ar_i64 (by omega) (by omega) ?_) | (refine ar_low ?_) | (refine ix_byteN (by omega) ?_) | (refine ix_byteK (by simp only [Int.reduceToNat]; exact rfl) (by decide) (by omega) ?_) | (refine ix_byte (by omega) (by omega) ?_) | (refine ix_rfl (by decide) rfl ?_) | (refine sd_mk rfl ?_) | (refine sd_mk (by decide +kernel) ?_) | (refine sd_mk (by first | (simp only [List.length_map, List.length_append, List.length_cons, List.length_nil]; done) | ((try simp only [List.length_map, List.length_append, List.length_cons, List.length_nil, List.length_set, List.length_replicate, List.length_drop, List.length_take, true_and, and_true]); omega) | (dsimp only; omega)) ?_) | (first | refine shl8 (by omega) (by omega) ?_ | refine shl4 (by omega) (by omega) ?_ | refine shl1 (by omega) (by omega) ?_ | refine shl16 (by omega) (by omega) ?_ | refine shl24 (by omega) (by omega) ?_ | refine shr8 (by decide) ?_ | refine shr4 (by decide) ?_ | refine shr1 (by decide) ?_ | refine shr16 (by decide) ?_ | refine shr24 (by decide) ?_) | (with_reducible first | refine bit_mk and_1 ?_ | refine bit_mk and_15 ?_ | refine bit_mk and_255 ?_ | refine bit_mk and_4095 ?_ | refine bit_mk and_65535 ?_) | (refine quo_pos (by omega) (by omega) (by omega) ?_) | (refine rem_pos (by omega) (by omega) ?_)))
  · have h : n < 0 ∨ b.length < n := .inl hc
    refine end_cell 0 [bytesD b, .bool true] rfl (.cons (.refl _) (.cons (.tt rfl) .nil)) ?_ (Nat.le_refl _)
    refine end_mk ?_
    (repeat' (first | (refine VS.mk ?_) | exact trivial | exact rfl | refine And.intro ?_ ?_))
    · dsimp only; rw [takeV, if_pos h]; simp only [bytesD, List.map_replicate]; rfl
    · dsimp only; rw [takeB, takeE, if_pos h, if_pos h]; rfl
  · have h : n < 0 ∨ b.length < n := .inr hc
    refine end_cell 0 [bytesD b, .bool true] rfl (.cons (.refl _) (.cons (.tt rfl) .nil)) ?_ (Nat.le_refl _)
    refine end_mk ?_
    (repeat' (first | (refine VS.mk ?_) | exact trivial | exact rfl | refine And.intro ?_ ?_))
    · dsimp only; rw [takeV, if_pos h]; simp only [bytesD, List.map_replicate]; rfl
    · dsimp only; rw [takeB, takeE, if_pos h, if_pos h]; rfl
  have h : ¬ (n < 0 ∨ b.length < n) := by omega
  refine call_p cloneB_meets ((b.take n.toNat).map byteD) ⟨by simp; omega, fun i d hd => ?_⟩ (VS.mk (LeL.of_eq ?_)) ?_
  · obtain ⟨c, _, rfl⟩ := List.mem_map.1 (List.mem_of_getElem? hd); rfl
  · simp
  (repeat' (first | (refine VS.mk ?_) | (refine dr_mk ?_) | (refine md_l ?_) | ((first | refine sp_not_dec ?_ ?_ | refine sp_dec ?_ ?_ | refine sp_beq ?_ ?_ | refine sp_bne ?_ ?_ | refine sp_seq ?_ ?_ | refine sp_sne ?_ ?_ | refine sp_not ?_ ?_ | refine sp_any ?_ ?_) <;> (intro hc; try simp only [List.length_map, List.length_append, List.length_cons, List.length_nil, Bool.and_true, Bool.and_eq_true, beq_iff_eq, Bool.and_eq_false_iff, beq_eq_false_iff_ne, Bool.true_and, ne_eq] at hc)) | (with_reducible first | refine norm_one ?_ | refine norm_app ?_ | refine norm_cutEnd ?_ | refine norm_cut ?_ | refine norm_bytes1 ?_ | refine norm_bytes2 ?_ | refine norm_setByte ?_ | refine norm_int1 ?_ | refine norm_mk ?_) | (with_reducible refine bytes_mk ?_) | (refine ar_byte ?_) | (refine ar_i64 (by omega) (by omega) ?_) | (refine ar_low ?_) | (refine ix_byteN (by omega) ?_) | (refine ix_byteK (by simp only [Int.reduceToNat]; exact rfl) (by decide) (by omega) ?_) | (refine ix_byte (by omega) (by omega) ?_) | (refine ix_rfl (by decide) rfl ?_) | (refine sd_mk rfl ?_) | (refine sd_mk (by decide +kernel) ?_) | (refine sd_mk (by first | (simp only [List.length_map, List.length_append, List.length_cons, List.length_nil]; done) | ((try simp only [List.length_map, List.length_append, List.length_cons, List.length_nil, List.length_set, List.length_replicate, List.length_drop, List.length_take, true_and, and_true]); omega) | (dsimp only; omega)) ?_) | (first | refine shl8 (by omega) (by omega) ?_ | refine shl4 (by omega) (by omega) ?_ | refine shl1 (by omega) (by omega) ?_ | refine shl16 (by omega) (by omega) ?_ | refine shl24 (by omega) (by omega) ?_ | refine shr8 (by decide) ?_ | refine shr4 (by decide) ?_ | refine shr1 (by decide) ?_ | refine shr16 (by decide) ?_ | refine shr24 (by decide) ?_) | (with_reducible first | refine bit_mk and_1 ?_ | refine bit_mk and_15 ?_ | refine bit_mk and_255 ?_ | refine bit_mk and_4095 ?_ | refine bit_mk and_65535 ?_) | (refine quo_pos (by omega) (by omega) (by omega) ?_) | (refine rem_pos (by omega) (by omega) ?_)))
  refine end_mk ?_
  (repeat' (first | (refine VS.mk ?_) | exact trivial | exact rfl | refine And.intro ?_ ?_))
  · dsimp only; rw [takeV, if_neg h]; rfl
  · dsimp only; rw [takeB, takeE, if_neg h, if_neg h]; rfl

theorem rnum_meets : Meets Try.prog n_obj_reader_num (SpecF (fun ((b, e) : List UInt8 × Bool) => b.length ≤ 100000000)
    (fun (b, e) => [.loc 0 0]) (fun (b, e) => [.cells [bytesD b, .bool e]]) (fun (b, e) => .int .i64 (getN (takeV b 4) 0 4)) fun (b, e) => [.cells [bytesD (takeB b 4), .bool (takeE b 4 e)]]) := by
  refine meets_f tabOk Try.func37 rfl (by decide) ?_
  rintro ⟨b, e⟩ hb
  refine ⟨Nat.le_refl _, by simp [Try.f37], fun E hE => ?_⟩
  refine vcOk _ ?_
  (repeat' (first | (refine VS.mk ?_) | (refine dr_mk ?_) | (refine md_l ?_) | ((first | refine sp_not_dec ?_ ?_ | refine sp_dec ?_ ?_ | refine sp_beq ?_ ?_ | refine sp_bne ?_ ?_ | refine sp_seq ?_ ?_ | refine sp_sne ?_ ?_ | refine sp_not ?_ ?_ | refine sp_any ?_ ?_) <;> (intro hc; try simp only [List.length_map, List.length_append, List.length_cons, List.length_nil, Bool.and_true, Bool.and_eq_true, beq_iff_eq, Bool.and_eq_false_iff, beq_eq_false_iff_ne, Bool.true_and, ne_eq] at hc)) | (with_reducible first | refine norm_one ?_ | refine norm_app ?_ | refine norm_cutEnd ?_ | refine norm_cut ?_ | refine norm_bytes1 ?_ | refine norm_bytes2 ?_ | refine norm_setByte ?_ | refine norm_int1 ?_ | refine norm_mk ?_) | (with_reducible refine bytes_mk ?_) | (refine ar_byte ?_) | (refine ar_i64 (by omega) (by omega) ?_) | (refine ar_low ?_) | (refine ix_byteN (by omega) ?_) | (refine ix_byteK (by simp only [Int.reduceToNat]; exact rfl) (by decide) (by omega) ?_) | (refine ix_byte (by omega) (by omega) ?_) | (refine ix_rfl (by decide) rfl ?_) | (refine sd_mk rfl ?_) | (refine sd_mk (by decide +kernel) ?_) | (refine sd_mk (by first | (simp only [List.length_map, List.length_append, List.length_cons, List.length_nil]; done) | ((try simp only [List.length_map, List.length_append, List.length_cons, List.length_nil, List.length_set, List.length_replicate, List.length_drop, List.length_take, true_and, and_true]); omega) | (dsimp only; omega)) ?_) | (first | refine shl8 (by omega) (by omega) ?_ | refine shl4 (by omega) (by omega) ?_ | refine shl1 (by omega) (by omega) ?_ | refine shl16 (by omega) (by omega) ?_ | refine shl24 (by omega) (by omega) ?_ | refine shr8 (by decide) ?_ | refine shr4 (by decide) ?_ | refine shr1 (by decide) ?_ | refine shr16 (by decide) ?_ | refine shr24 (by decide) ?_) | (with_reducible first | refine bit_mk and_1 ?_ | refine bit_mk and_15 ?_ | refine bit_mk and_255 ?_ | refine bit_mk and_4095 ?_ | refine bit_mk and_65535 ?_) | (refine quo_pos (by omega) (by omega) (by omega) ?_) | (refine rem_pos (by omega) (by omega) ?_)))
  refine call_f take_meets [0] [0] (b, e, 4) hb rfl rfl ?_
  refine And.intro (VS.mk (LeL.of_eq rfl)) (And.intro (VS.mk rfl) ?_)
  (repeat' (first | (refine VS.mk ?_) | (refine dr_mk ?_) | (refine md_l ?_) | ((first | refine sp_not_dec ?_ ?_ | refine sp_dec ?_ ?_ | refine sp_beq ?_ ?_ | refine sp_bne ?_ ?_ | refine sp_seq ?_ ?_ | refine sp_sne ?_ ?_ | refine sp_not ?_ ?_ | refine sp_any ?_ ?_) <;> (intro hc; try simp only [List.length_map, List.length_append, List.length_cons, List.length_nil, Bool.and_true, Bool.and_eq_true, beq_iff_eq, Bool.and_eq_false_iff, beq_eq_false_iff_ne, Bool.true_and, ne_eq] at hc)) | (with_reducible first | refine norm_one ?_ | refine norm_app ?_ | refine norm_cutEnd ?_ | refine norm_cut ?_ | refine norm_bytes1 ?_ | refine norm_bytes2 ?_ | refine norm_setByte ?_ | refine norm_int1 ?_ | refine norm_mk ?_) | (with_reducible refine bytes_mk ?_) | (refine ar_byte ?_) | (refine ar_i64 (by omega) (by omega) ?_) | (refine ar_low ?_) | (refine ix_byteN (by omega) ?_) | (refine ix_byteK (by simp only [Int.reduceToNat]; exact rfl) (by decide) (by omega) ?_) | (refine ix_byte (by omega) (by omega) ?_) | (refine ix_rfl (by decide) rfl ?_) | (refine sd_mk rfl ?_) | (refine sd_mk (by decide +kernel) ?_) | (refine sd_mk (by first | (simp only [List.length_map, List.length_append, List.length_cons, List.length_nil]; done) | ((try simp only [List.length_map, List.length_append, List.length_cons, List.length_nil, List.length_set, List.length_replicate, List.length_drop, List.length_take, true_and, and_true]); omega) | (dsimp only; omega)) ?_) | (first | refine shl8 (by omega) (by omega) ?_ | refine shl4 (by omega) (by omega) ?_ | refine shl1 (by omega) (by omega) ?_ | refine shl16 (by omega) (by omega) ?_ | refine shl24 (by omega) (by omega) ?_ | refine shr8 (by decide) ?_ | refine shr4 (by decide) ?_ | refine shr1 (by decide) ?_ | refine shr16 (by decide) ?_ | refine shr24 (by decide) ?_) | (with_reducible first | refine bit_mk and_1 ?_ | refine bit_mk and_15 ?_ | refine bit_mk and_255 ?_ | refine bit_mk and_4095 ?_ | refine bit_mk and_65535 ?_) | (refine quo_pos (by omega) (by omega) (by omega) ?_) | (refine rem_pos (by omega) (by omega) ?_)))
  refine call_p get_meets (takeV b 4, 0, 4) ⟨by decide, by decide, by decide⟩ (VS.mk (LeL.of_eq rfl)) ?_
  (repeat' (first | (refine VS.mk ?_) | (refine dr_mk ?_) | (refine md_l ?_) | ((first | refine sp_not_dec ?_ ?_ | refine sp_dec ?_ ?_ | refine sp_beq ?_ ?_ | refine sp_bne ?_ ?_ | refine sp_seq ?_ ?_ | refine sp_sne ?_ ?_ | refine sp_not ?_ ?_ | refine sp_any ?_ ?_) <;> (intro hc; try simp only [List.length_map, List.length_append, List.length_cons, List.length_nil, Bool.and_true, Bool.and_eq_true, beq_iff_eq, Bool.and_eq_false_iff, beq_eq_false_iff_ne, Bool.true_and, ne_eq] at hc)) | (with_reducible first | refine norm_one ?_ | refine norm_app ?_ | refine norm_cutEnd ?_ | refine norm_cut ?_ | refine norm_bytes1 ?_ | refine norm_bytes2 ?_ | refine norm_setByte ?_ | refine norm_int1 ?_ | refine norm_mk ?_) | (with_reducible refine bytes_mk ?_) | (refine ar_byte ?_) | (refine ar_i64 (by omega) (by omega) ?_) | (refine ar_low ?_) | (refine ix_byteN (by omega) ?_) | (refine ix_byteK (by simp only [Int.reduceToNat]; exact rfl) (by decide) (by omega) ?_) | (refine ix_byte (by omega) (by omega) ?_) | (refine ix_rfl (by decide) rfl ?_) | (refine sd_mk rfl ?_) | (refine sd_mk (by decide +kernel) ?_) | (refine sd_mk (by first | (simp only [List.length_map, List.length_append, List.length_cons, List.length_nil]; done) | ((try simp only [List.length_map, List.length_append, List.length_cons, List.length_nil, List.length_set, List.length_replicate, List.length_drop, List.length_take, true_and, and_true]); omega) | (dsimp only; omega)) ?_) | (first | refine shl8 (by omega) (by omega) ?_ | refine shl4 (by omega) (by omega) ?_ | refine shl1 (by omega) (by omega) ?_ | refine shl16 (by omega) (by omega) ?_ | refine shl24 (by omega) (by omega) ?_ | refine shr8 (by decide) ?_ | refine shr4 (by decide) ?_ | refine shr1 (by decide) ?_ | refine shr16 (by decide) ?_ | refine shr24 (by decide) ?_) | (with_reducible first | refine bit_mk and_1 ?_ | refine bit_mk and_15 ?_ | refine bit_mk and_255 ?_ | refine bit_mk and_4095 ?_ | refine bit_mk and_65535 ?_) | (refine quo_pos (by omega) (by omega) (by omega) ?_) | (refine rem_pos (by omega) (by omega) ?_)))
  refine end_mk ?_
  (repeat' (first | (refine VS.mk ?_) | exact trivial | exact rfl | refine And.intro ?_ ?_))

theorem rbyte_meets : Meets Try.prog n_obj_reader_byte (SpecF (fun ((b, e) : List UInt8 × Bool) => b.length ≤ 100000000)
    (fun (b, e) => [.loc 0 0]) (fun (b, e) => [.cells [bytesD b, .bool e]]) (fun (b, e) => .int .i64 (getN (takeV b 1) 0 1)) fun (b, e) => [.cells [bytesD (takeB b 1), .bool (takeE b 1 e)]]) := by
  refine meets_f tabOk Try.func38 rfl (by decide) ?_
  rintro ⟨b, e⟩ hb
  refine ⟨Nat.le_refl _, by simp [Try.f38], fun E hE => ?_⟩
  refine vcOk _ ?_
  (repeat' (first | (refine VS.mk ?_) | (refine dr_mk ?_) | (refine md_l ?_) | ((first | refine sp_not_dec ?_ ?_ | refine sp_dec ?_ ?_ | refine sp_beq ?_ ?_ | refine sp_bne ?_ ?_ | refine sp_seq ?_ ?_ | refine sp_sne ?_ ?_ | refine sp_not ?_ ?_ | refine sp_any ?_ ?_) <;> (intro hc; try simp only [List.length_map, List.length_append, List.length_cons, List.length_nil, Bool.and_true, Bool.and_eq_true, beq_iff_eq, Bool.and_eq_false_iff, beq_eq_false_iff_ne, Bool.true_and, ne_eq] at hc)) | (with_reducible first | refine norm_one ?_ | refine norm_app ?_ | refine norm_cutEnd ?_ | refine norm_cut ?_ | refine norm_bytes1 ?_ | refine norm_bytes2 ?_ | refine norm_setByte ?_ | refine norm_int1 ?_ | refine norm_mk ?_) | (with_reducible refine bytes_mk ?_) | (refine ar_byte ?_) | (refine ar_i64 (by omega) (by omega) ?_) | (refine ar_low ?_) | (refine ix_byteN (by omega) ?_) | (refine ix_byteK (by simp only [Int.reduceToNat]; exact rfl) (by decide) (by omega) ?_) | (refine ix_byte (by omega) (by omega) ?_) | (refine ix_rfl (by decide) rfl ?_) | (refine sd_mk rfl ?_) | (refine sd_mk (by decide +kernel) ?_) | (refine sd_mk (by first | (simp only [List.length_map, List.length_append, List.length_cons, List.length_nil]; done) | ((try simp only [List.length_map, List.length_append, List.length_cons, List.length_nil, List.length_set, List.length_replicate, List.length_drop, List.length_take, true_and, and_true]); omega) | (dsimp only; omega)) ?_) | (first | refine shl8 (by omega) (by omega) ?_ | refine shl4 (by omega) (by omega) ?_ | refine shl1 (by omega) (by omega) ?_ | refine shl16 (by omega) (by omega) ?_ | refine shl24 (by omega) (by omega) ?_ | refine shr8 (by decide) ?_ | refine shr4 (by decide) ?_ | refine shr1 (by decide) ?_ | refine shr16 (by decide) ?_ | refine shr24 (by decide) ?_) | (with_reducible first | refine bit_mk and_1 ?_ | refine bit_mk and_15 ?_ | refine bit_mk and_255 ?_ | refine bit_mk and_4095 ?_ | refine bit_mk and_65535 ?_) | (refine quo_pos (by omega) (by omega) (by omega) ?_) | (refine rem_pos (by omega) (by omega) ?_)))
  refine call_f take_meets [0] [0] (b, e, 1) hb rfl rfl ?_
  refine And.intro (VS.mk (LeL.of_eq rfl)) (And.intro (VS.mk rfl) ?_)
  (repeat' (first | (refine VS.mk ?_) | (refine dr_mk ?_) | (refine md_l ?_) | ((first | refine sp_not_dec ?_ ?_ | refine sp_dec ?_ ?_ | refine sp_beq ?_ ?_ | refine sp_bne ?_ ?_ | refine sp_seq ?_ ?_ | refine sp_sne ?_ ?_ | refine sp_not ?_ ?_ | refine sp_any ?_ ?_) <;> (intro hc; try simp only [List.length_map, List.length_append, List.length_cons, List.length_nil, Bool.and_true, Bool.and_eq_true, beq_iff_eq, Bool.and_eq_false_iff, beq_eq_false_iff_ne, Bool.true_and, ne_eq] at hc)) | (with_reducible first | refine norm_one ?_ | refine norm_app ?_ | refine norm_cutEnd ?_ | refine norm_cut ?_ | refine norm_bytes1 ?_ | refine norm_bytes2 ?_ | refine norm_setByte ?_ | refine norm_int1 ?_ | refine norm_mk ?_) | (with_reducible refine bytes_mk ?_) | (refine ar_byte ?_) | (refine ar_i64 (by omega) (by omega) ?_) | (refine ar_low ?_) | (refine ix_byteN (by omega) ?_) | (refine ix_byteK (by simp only [Int.reduceToNat]; exact rfl) (by decide) (by omega) ?_) | (refine ix_byte (by omega) (by omega) ?_) | (refine ix_rfl (by decide) rfl ?_) | (refine sd_mk rfl ?_) | (refine sd_mk (by decide +kernel) ?_) | (refine sd_mk (by first | (simp only [List.length_map, List.length_append, List.length_cons, List.length_nil]; done) | ((try simp only [List.length_map, List.length_append, List.length_cons, List.length_nil, List.length_set, List.length_replicate, List.length_drop, List.length_take, true_and, and_true]); omega) | (dsimp only; omega)) ?_) | (first | refine shl8 (by omega) (by omega) ?_ | refine shl4 (by omega) (by omega) ?_ | refine shl1 (by omega) (by omega) ?_ | refine shl16 (by omega) (by omega) ?_ | refine shl24 (by omega) (by omega) ?_ | refine shr8 (by decide) ?_ | refine shr4 (by decide) ?_ | refine shr1 (by decide) ?_ | refine shr16 (by decide) ?_ | refine shr24 (by decide) ?_) | (with_reducible first | refine bit_mk and_1 ?_ | refine bit_mk and_15 ?_ | refine bit_mk and_255 ?_ | refine bit_mk and_4095 ?_ | refine bit_mk and_65535 ?_) | (refine quo_pos (by omega) (by omega) (by omega) ?_) | (refine rem_pos (by omega) (by omega) ?_)))
  refine call_p get_meets (takeV b 1, 0, 1) ⟨by decide, by decide, by decide⟩ (VS.mk (LeL.of_eq rfl)) ?_
  (repeat' (first | (refine VS.mk ?_) | (refine dr_mk ?_) | (refine md_l ?_) | ((first | refine sp_not_dec ?_ ?_ | refine sp_dec ?_ ?_ | refine sp_beq ?_ ?_ | refine sp_bne ?_ ?_ | refine sp_seq ?_ ?_ | refine sp_sne ?_ ?_ | refine sp_not ?_ ?_ | refine sp_any ?_ ?_) <;> (intro hc; try simp only [List.length_map, List.length_append, List.length_cons, List.length_nil, Bool.and_true, Bool.and_eq_true, beq_iff_eq, Bool.and_eq_false_iff, beq_eq_false_iff_ne, Bool.true_and, ne_eq] at hc)) | (with_reducible first | refine norm_one ?_ | refine norm_app ?_ | refine norm_cutEnd ?_ | refine norm_cut ?_ | refine norm_bytes1 ?_ | refine norm_bytes2 ?_ | refine norm_setByte ?_ | refine norm_int1 ?_ | refine norm_mk ?_) | (with_reducible refine bytes_mk ?_) | (refine ar_byte ?_) | (refine ar_i64 (by omega) (by omega) ?_) | (refine ar_low ?_) | (refine ix_byteN (by omega) ?_) | (refine ix_byteK (by simp only [Int.reduceToNat]; exact rfl) (by decide) (by omega) ?_) | (refine ix_byte (by omega) (by omega) ?_) | (refine ix_rfl (by decide) rfl ?_) | (refine sd_mk rfl ?_) | (refine sd_mk (by decide +kernel) ?_) | (refine sd_mk (by first | (simp only [List.length_map, List.length_append, List.length_cons, List.length_nil]; done) | ((try simp only [List.length_map, List.length_append, List.length_cons, List.length_nil, List.length_set, List.length_replicate, List.length_drop, List.length_take, true_and, and_true]); omega) | (dsimp only; omega)) ?_) | (first | refine shl8 (by omega) (by omega) ?_ | refine shl4 (by omega) (by omega) ?_ | refine shl1 (by omega) (by omega) ?_ | refine shl16 (by omega) (by omega) ?_ | refine shl24 (by omega) (by omega) ?_ | refine shr8 (by decide) ?_ | refine shr4 (by decide) ?_ | refine shr1 (by decide) ?_ | refine shr16 (by decide) ?_ | refine shr24 (by decide) ?_) | (with_reducible first | refine bit_mk and_1 ?_ | refine bit_mk and_15 ?_ | refine bit_mk and_255 ?_ | refine bit_mk and_4095 ?_ | refine bit_mk and_65535 ?_) | (refine quo_pos (by omega) (by omega) (by omega) ?_) | (refine rem_pos (by omega) (by omega) ?_)))
  refine end_mk ?_
  (repeat' (first | (refine VS.mk ?_) | exact trivial | exact rfl | refine And.intro ?_ ?_))
end Go.Proofs.Ytmeigmpjpkinoaa

namespace Go.Proofs.Ytmeigmpjpkinoaa
open Go Go.Plat
set_option linter.unusedVariables false
set_option linter.unusedSimpArgs false
set_option maxRecDepth 100000
set_option maxHeartbeats 2000000
attribute [local irreducible] NilS LookS NormM bitI BytesS NormL Arith QuoS RemS ShlS ShrS BitS CatS SplitS SideS IdxS CallS LoopEnd EndS ModeS DrawS AWP Meets
attribute [local irreducible] signedI letterB digitB nameB wrongO

def numV (b : List UInt8) : Int := getN (takeV b 4) 0 4
def numR (b : List UInt8) : List UInt8 := takeB b 4
def numE (b : List UInt8) (e : Bool) : Bool := takeE b 4 e
def byteV (b : List UInt8) : Int := getN (takeV b 1) 0 1
def byteR (b : List UInt8) : List UInt8 := takeB b 1
def byteE (b : List UInt8) (e : Bool) : Bool := takeE b 1 e
def textV (b : List UInt8) : List UInt8 := takeV (byteR b) (byteV b)
def textR (b : List UInt8) : List UInt8 := takeB (byteR b) (byteV b)
def textE (b : List UInt8) (e : Bool) : Bool := takeE (byteR b) (byteV b) (byteE b e)

def loopS : Nat → List UInt8 → Bool → List OSym → List OSym × List UInt8 × Bool
  | 0, b, e, acc => (acc, b, e)
  | k + 1, b, e, acc => if e = true then (acc, b, e) else loopS k (numR (textR b)) (numE (textR b) (textE b e)) (acc ++ [⟨textV b, numV (textR b)⟩])
def loopR : Nat → List UInt8 → Bool → List ORel → List ORel × List UInt8 × Bool
  | 0, b, e, acc => (acc, b, e)
  | k + 1, b, e, acc => if e = true then (acc, b, e) else
    loopR k (numR (textR (byteR (numR b)))) (numE (textR (byteR (numR b))) (textE (byteR (numR b)) (byteE (numR b) (numE b e))))
      (acc ++ [⟨numV b, byteV (numR b), textV (byteR (numR b)), signedI (numV (textR (byteR (numR b)))) 32⟩])

theorem takeV_len (b : List UInt8) (n : Int) (hn : n ≤ 255) : (takeV b n).length ≤ 255 := by
  unfold takeV; split
  · simp; omega
  · simp; omega
theorem takeB_len (b : List UInt8) (n : Int) : (takeB b n).length ≤ b.length := by
  unfold takeB; split
  · exact Nat.le_refl _
  · simp
theorem getN_byte (v : List UInt8) : getN v 0 1 ≤ 255 := by
  have := byteAt_bd v (0 + (0 : Nat))
  simp only [getN]
  omega
theorem numV_bd (b : List UInt8) : 0 ≤ numV b ∧ numV b ≤ 4294967295 := by
  have h1 := getN_bd (takeV b 4) 0 4 (by decide)
  have h2 := getN_nn (takeV b 4) 0 4
  unfold numV
  omega
theorem byteV_bd (b : List UInt8) : 0 ≤ byteV b ∧ byteV b ≤ 255 := ⟨getN_nn _ _ _, getN_byte _⟩
theorem textV_len (b : List UInt8) : (textV b).length ≤ 255 := takeV_len _ _ (byteV_bd b).2

structure PSt where
  o : OObj
  b : List UInt8
  e : Bool
/-- what is read, before anything is asked of it -/
def readO (b : List UInt8) : PSt :=
  let b0 := takeB b 3; let e0 := takeE b 3 false
  let b1 := numR b0; let e1 := numE b0 e0
  let code := takeV b1 (numV b0); let b2 := takeB b1 (numV b0); let e2 := takeE b1 (numV b0) e1
  let S := loopS (numV b2).toNat (numR b2) (numE b2 e2) []
  let R := loopR (numV S.2.1).toNat (numR S.2.1) (numE S.2.1 S.2.2) []
  ⟨⟨code, S.1, R.1⟩, R.2.1, R.2.2⟩
def parseOE (b : List UInt8) : Int := if takeV b 3 ≠ magicB then 2 else if (readO b).e = true ∨ (readO b).b ≠ [] then 2 else wrongO (readO b).o
def noObj : OObj := ⟨[], [], []⟩
def parseO (b : List UInt8) : OObj := if parseOE b = 0 then (readO b).o else noObj

theorem oparse_meets : Meets Try.prog n_obj_Parse (SpecP (fun b : List UInt8 => b.length ≤ 100000000) (fun b => [bytesD b]) fun b => .tup [objD (parseO b), .int .i64 (parseOE b)]) := by
  refine meets_f tabOk Try.func17 rfl (by decide) fun bb hb => ?_
  refine ⟨Nat.le_refl _, by simp [Try.f17], fun E hE => ?_⟩
  refine vcOk _ ?_
  (repeat' (first | (refine VS.mk ?_) | (refine dr_mk ?_) | (refine md_l ?_) | ((first | refine sp_not_dec ?_ ?_ | refine sp_dec ?_ ?_ | refine sp_beq ?_ ?_ | refine sp_bne ?_ ?_ | refine sp_seq ?_ ?_ | refine sp_sne ?_ ?_ | refine sp_not ?_ ?_ | refine sp_any ?_ ?_) <;> (intro hc; try simp only [List.length_map, List.length_append, List.length_cons, List.length_nil, Bool.and_true, Bool.and_eq_true, beq_iff_eq, Bool.and_eq_false_iff, beq_eq_false_iff_ne, Bool.true_and, ne_eq] at hc)) | (with_reducible first | refine norm_one ?_ | refine norm_app ?_ | refine norm_cutEnd ?_ | refine norm_cut ?_ | refine norm_bytes1 ?_ | refine norm_bytes2 ?_ | refine norm_setByte ?_ | refine norm_int1 ?_ | refine norm_mk ?_) | (with_reducible refine bytes_mk ?_) | (refine ar_byte ?_) | (refine ar_i64 (by omega) (by omega) ?_) | (refine ar_low ?_) | (refine ix_byteN (by omega) ?_) | (refine ix_byteK (by simp only [Int.reduceToNat]; exact rfl) (by decide) (by omega) ?_) | (refine ix_byte (by omega) (by omega) ?_) | (refine ix_rfl (by decide) rfl ?_) | (refine sd_mk rfl ?_) | (refine sd_mk (by decide +kernel) ?_) | (refine sd_mk (by first | (simp only [List.length_map, List.length_append, List.length_cons, List.length_nil]; done) | ((try simp only [List.length_map, List.length_append, List.length_cons, List.length_nil, List.length_set, List.length_replicate, List.length_drop, List.length_take, true_and, and_true]); omega) | (dsimp only; omega)) ?_) | (first | refine shl8 (by omega) (by omega) ?_ | refine shl4 (by omega) (by omega) ?_ | refine shl1 (by omega) (by omega) ?_ | refine shl16 (by omega) (by omega) ?_ | refine shl24 (by omega) (by omega) ?_ | refine shr8 (by decide) ?_ | refine shr4 (by decide) ?_ | refine shr1 (by decide) ?_ | refine shr16 (by decide) ?_ | refine shr24 (by decide) ?_) | (with_reducible first | refine bit_mk and_1 ?_ | refine bit_mk and_15 ?_ | refine bit_mk and_255 ?_ | refine bit_mk and_4095 ?_ | refine bit_mk and_65535 ?_) | (refine quo_pos (by omega) (by omega) (by omega) ?_) | (refine rem_pos (by omega) (by omega) ?_)))
  refine call_cell 1 [bytesD bb, .bool false] rfl (.cons (.refl _) (.cons (.ff rfl) .nil)) ?_
  refine VS.mk ?_
  refine call_f take_meets [1] [1] (bb, false, 3) hb rfl rfl ?_
  refine And.intro (VS.mk (LeL.of_eq rfl)) (And.intro (VS.mk rfl) ?_)
  (repeat' (first | (refine VS.mk ?_) | (refine dr_mk ?_) | (refine md_l ?_) | ((first | refine sp_not_dec ?_ ?_ | refine sp_dec ?_ ?_ | refine sp_beq ?_ ?_ | refine sp_bne ?_ ?_ | refine sp_seq ?_ ?_ | refine sp_sne ?_ ?_ | refine sp_not ?_ ?_ | refine sp_any ?_ ?_) <;> (intro hc; try simp only [List.length_map, List.length_append, List.length_cons, List.length_nil, Bool.and_true, Bool.and_eq_true, beq_iff_eq, Bool.and_eq_false_iff, beq_eq_false_iff_ne, Bool.true_and, ne_eq] at hc)) | (with_reducible first | refine norm_one ?_ | refine norm_app ?_ | refine norm_cutEnd ?_ | refine norm_cut ?_ | refine norm_bytes1 ?_ | refine norm_bytes2 ?_ | refine norm_setByte ?_ | refine norm_int1 ?_ | refine norm_mk ?_) | (with_reducible refine bytes_mk ?_) | (refine ar_byte ?_) | (refine ar_i64 (by omega) (by omega) ?_) | (refine ar_low ?_) | (refine ix_byteN (by omega) ?_) | (refine ix_byteK (by simp only [Int.reduceToNat]; exact rfl) (by decide) (by omega) ?_) | (refine ix_byte (by omega) (by omega) ?_) | (refine ix_rfl (by decide) rfl ?_) | (refine sd_mk rfl ?_) | (refine sd_mk (by decide +kernel) ?_) | (refine sd_mk (by first | (simp only [List.length_map, List.length_append, List.length_cons, List.length_nil]; done) | ((try simp only [List.length_map, List.length_append, List.length_cons, List.length_nil, List.length_set, List.length_replicate, List.length_drop, List.length_take, true_and, and_true]); omega) | (dsimp only; omega)) ?_) | (first | refine shl8 (by omega) (by omega) ?_ | refine shl4 (by omega) (by omega) ?_ | refine shl1 (by omega) (by omega) ?_ | refine shl16 (by omega) (by omega) ?_ | refine shl24 (by omega) (by omega) ?_ | refine shr8 (by decide) ?_ | refine shr4 (by decide) ?_ | refine shr1 (by decide) ?_ | refine shr16 (by decide) ?_ | refine shr24 (by decide) ?_) | (with_reducible first | refine bit_mk and_1 ?_ | refine bit_mk and_15 ?_ | refine bit_mk and_255 ?_ | refine bit_mk and_4095 ?_ | refine bit_mk and_65535 ?_) | (refine quo_pos (by omega) (by omega) (by omega) ?_) | (refine rem_pos (by omega) (by omega) ?_)))
  · refine end_p (VS.mk (LeD.trans (.tup (.cons (.agg (.cons (.nil 1) (.cons (.nil 2) (.cons (.nil 4) .nil)))) (.cons (.refl _) .nil))) (LeD.of_eq ?_)))
    have h : parseOE bb = 2 := if_pos hc
    rw [parseO, h, if_neg (by decide)]
    rfl
  have hb0 : (takeB bb 3).length ≤ 100000000 := Nat.le_trans (takeB_len _ _) hb
  have hm : takeV bb 3 = magicB := hc
  refine call_f rnum_meets [1] [1] (takeB bb 3, takeE bb 3 false) hb0 rfl rfl ?_
  refine And.intro (VS.mk (LeL.of_eq rfl)) (And.intro (VS.mk rfl) ?_)
  (repeat' (first | (refine VS.mk ?_) | (refine dr_mk ?_) | (refine md_l ?_) | ((first | refine sp_not_dec ?_ ?_ | refine sp_dec ?_ ?_ | refine sp_beq ?_ ?_ | refine sp_bne ?_ ?_ | refine sp_seq ?_ ?_ | refine sp_sne ?_ ?_ | refine sp_not ?_ ?_ | refine sp_any ?_ ?_) <;> (intro hc; try simp only [List.length_map, List.length_append, List.length_cons, List.length_nil, Bool.and_true, Bool.and_eq_true, beq_iff_eq, Bool.and_eq_false_iff, beq_eq_false_iff_ne, Bool.true_and, ne_eq] at hc)) | (with_reducible first | refine norm_one ?_ | refine norm_app ?_ | refine norm_cutEnd ?_ | refine norm_cut ?_ | refine norm_bytes1 ?_ | refine norm_bytes2 ?_ | refine norm_setByte ?_ | refine norm_int1 ?_ | refine norm_mk ?_) | (with_reducible refine bytes_mk ?_) | (refine ar_byte ?_) | (refine ar_i64 (by omega) (by omega) ?_) | (refine ar_low ?_) | (refine ix_byteN (by omega) ?_) | (refine ix_byteK (by simp only [Int.reduceToNat]; exact rfl) (by decide) (by omega) ?_) | (refine ix_byte (by omega) (by omega) ?_) | (refine ix_rfl (by decide) rfl ?_) | (refine sd_mk rfl ?_) | (refine sd_mk (by decide +kernel) ?_) | (refine sd_mk (by first | (simp only [List.length_map, List.length_append, List.length_cons, List.length_nil]; done) | ((try simp only [List.length_map, List.length_append, List.length_cons, List.length_nil, List.length_set, List.length_replicate, List.length_drop, List.length_take, true_and, and_true]); omega) | (dsimp only; omega)) ?_) | (first | refine shl8 (by omega) (by omega) ?_ | refine shl4 (by omega) (by omega) ?_ | refine shl1 (by omega) (by omega) ?_ | refine shl16 (by omega) (by omega) ?_ | refine shl24 (by omega) (by omega) ?_ | refine shr8 (by decide) ?_ | refine shr4 (by decide) ?_ | refine shr1 (by decide) ?_ | refine shr16 (by decide) ?_ | refine shr24 (by decide) ?_) | (with_reducible first | refine bit_mk and_1 ?_ | refine bit_mk and_15 ?_ | refine bit_mk and_255 ?_ | refine bit_mk and_4095 ?_ | refine bit_mk and_65535 ?_) | (refine quo_pos (by omega) (by omega) (by omega) ?_) | (refine rem_pos (by omega) (by omega) ?_)))
  generalize hb0e : takeB bb 3 = b0 at *
  generalize he0e : takeE bb 3 false = e0 at *
  have hb1 : (numR b0).length ≤ 100000000 := Nat.le_trans (takeB_len _ _) hb0
  refine call_f take_meets [1] [1] (numR b0, numE b0 e0, numV b0) hb1 rfl rfl ?_
  refine And.intro (VS.mk (LeL.of_eq rfl)) (And.intro (VS.mk rfl) ?_)
  (repeat' (first | (refine VS.mk ?_) | (refine dr_mk ?_) | (refine md_l ?_) | ((first | refine sp_not_dec ?_ ?_ | refine sp_dec ?_ ?_ | refine sp_beq ?_ ?_ | refine sp_bne ?_ ?_ | refine sp_seq ?_ ?_ | refine sp_sne ?_ ?_ | refine sp_not ?_ ?_ | refine sp_any ?_ ?_) <;> (intro hc; try simp only [List.length_map, List.length_append, List.length_cons, List.length_nil, Bool.and_true, Bool.and_eq_true, beq_iff_eq, Bool.and_eq_false_iff, beq_eq_false_iff_ne, Bool.true_and, ne_eq] at hc)) | (with_reducible first | refine norm_one ?_ | refine norm_app ?_ | refine norm_cutEnd ?_ | refine norm_cut ?_ | refine norm_bytes1 ?_ | refine norm_bytes2 ?_ | refine norm_setByte ?_ | refine norm_int1 ?_ | refine norm_mk ?_) | (with_reducible refine bytes_mk ?_) | (refine ar_byte ?_) | (refine ar_i64 (by omega) (by omega) ?_) | (refine ar_low ?_) | (refine ix_byteN (by omega) ?_) | (refine ix_byteK (by simp only [Int.reduceToNat]; exact rfl) (by decide) (by omega) ?_) | (refine ix_byte (by omega) (by omega) ?_) | (refine ix_rfl (by decide) rfl ?_) | (refine sd_mk rfl ?_) | (refine sd_mk (by decide +kernel) ?_) | (refine sd_mk (by first | (simp only [List.length_map, List.length_append, List.length_cons, List.length_nil]; done) | ((try simp only [List.length_map, List.length_append, List.length_cons, List.length_nil, List.length_set, List.length_replicate, List.length_drop, List.length_take, true_and, and_true]); omega) | (dsimp only; omega)) ?_) | (first | refine shl8 (by omega) (by omega) ?_ | refine shl4 (by omega) (by omega) ?_ | refine shl1 (by omega) (by omega) ?_ | refine shl16 (by omega) (by omega) ?_ | refine shl24 (by omega) (by omega) ?_ | refine shr8 (by decide) ?_ | refine shr4 (by decide) ?_ | refine shr1 (by decide) ?_ | refine shr16 (by decide) ?_ | refine shr24 (by decide) ?_) | (with_reducible first | refine bit_mk and_1 ?_ | refine bit_mk and_15 ?_ | refine bit_mk and_255 ?_ | refine bit_mk and_4095 ?_ | refine bit_mk and_65535 ?_) | (refine quo_pos (by omega) (by omega) (by omega) ?_) | (refine rem_pos (by omega) (by omega) ?_)))
  have hb2 : (takeB (numR b0) (numV b0)).length ≤ 100000000 := Nat.le_trans (takeB_len _ _) hb1
  generalize hb2e : takeB (numR b0) (numV b0) = b2 at *
  generalize he2e : takeE (numR b0) (numV b0) (numE b0 e0) = e2 at *
  refine call_f rnum_meets [1] [1] (b2, e2) hb2 rfl rfl ?_
  refine And.intro (VS.mk (LeL.of_eq rfl)) (And.intro (VS.mk rfl) ?_)
  (repeat' (first | (refine VS.mk ?_) | (refine dr_mk ?_) | (refine md_l ?_) | ((first | refine sp_not_dec ?_ ?_ | refine sp_dec ?_ ?_ | refine sp_beq ?_ ?_ | refine sp_bne ?_ ?_ | refine sp_seq ?_ ?_ | refine sp_sne ?_ ?_ | refine sp_not ?_ ?_ | refine sp_any ?_ ?_) <;> (intro hc; try simp only [List.length_map, List.length_append, List.length_cons, List.length_nil, Bool.and_true, Bool.and_eq_true, beq_iff_eq, Bool.and_eq_false_iff, beq_eq_false_iff_ne, Bool.true_and, ne_eq] at hc)) | (with_reducible first | refine norm_one ?_ | refine norm_app ?_ | refine norm_cutEnd ?_ | refine norm_cut ?_ | refine norm_bytes1 ?_ | refine norm_bytes2 ?_ | refine norm_setByte ?_ | refine norm_int1 ?_ | refine norm_mk ?_) | (with_reducible refine bytes_mk ?_) | (refine ar_byte ?_) | (refine ar_i64 (by omega) (by omega) ?_) | (refine ar_low ?_) | (refine ix_byteN (by omega) ?_) | (refine ix_byteK (by simp only [Int.reduceToNat]; exact rfl) (by decide) (by omega) ?_) | (refine ix_byte (by omega) (by omega) ?_) | (refine ix_rfl (by decide) rfl ?_) | (refine sd_mk rfl ?_) | (refine sd_mk (by decide +kernel) ?_) | (refine sd_mk (by first | (simp only [List.length_map, List.length_append, List.length_cons, List.length_nil]; done) | ((try simp only [List.length_map, List.length_append, List.length_cons, List.length_nil, List.length_set, List.length_replicate, List.length_drop, List.length_take, true_and, and_true]); omega) | (dsimp only; omega)) ?_) | (first | refine shl8 (by omega) (by omega) ?_ | refine shl4 (by omega) (by omega) ?_ | refine shl1 (by omega) (by omega) ?_ | refine shl16 (by omega) (by omega) ?_ | refine shl24 (by omega) (by omega) ?_ | refine shr8 (by decide) ?_ | refine shr4 (by decide) ?_ | refine shr1 (by decide) ?_ | refine shr16 (by decide) ?_ | refine shr24 (by decide) ?_) | (with_reducible first | refine bit_mk and_1 ?_ | refine bit_mk and_15 ?_ | refine bit_mk and_255 ?_ | refine bit_mk and_4095 ?_ | refine bit_mk and_65535 ?_) | (refine quo_pos (by omega) (by omega) (by omega) ?_) | (refine rem_pos (by omega) (by omega) ?_)))
  refine awp_weak (weak_cellnil' 2 2 [bytesD (takeV (numR b0) (numV b0)), .sl 2 [] (some 3), .nilsl] rfl ⟨.same, .here, .same, trivial⟩) ?_
  generalize hcode : takeV (numR b0) (numV b0) = code at *
  have hb3 : (numR b2).length ≤ 100000000 := Nat.le_trans (takeB_len _ _) hb2
  obtain ⟨hn0, hn1⟩ := numV_bd b2
  generalize hS : loopS (numV b2).toNat (numR b2) (numE b2 e2) [] = S at *
  refine awp_loop (α := Nat × List UInt8 × Bool × List OSym) (fun p => p.2.2.2.length + p.1 ≤ 4294967295 ∧ p.2.1.length ≤ 100000000 ∧ (∀ s ∈ p.2.2.2, s.name.length ≤ 255) ∧ loopS p.1 p.2.1 p.2.2.1 p.2.2.2 = S)
    (fun p => [(2, .loc 0 0), (4, .loc 1 0), (5, .loc 2 0), (6, .int .i64 p.1), (3, .int .i64 0)])
    (fun p => [.cells [.nilsl, .nilsl, .nilsl], .cells [bytesD p.2.1, .bool p.2.2.1], .cells [bytesD code, .sl 2 (p.2.2.2.map symD) (some 3), .nilsl], .spare p.2.2.2.length]) (fun p => p.1) (fun _ => by simp [hE])
    ((numV b2).toNat, numR b2, numE b2 e2, []) ⟨by (dsimp only [List.length_nil]; omega), hb3, by simp, hS⟩ ?_ ?_
  · (repeat' (first | (refine VS.mk ?_) | exact trivial | exact rfl | refine And.intro ?_ ?_))
    show D.int IntKind.i64 (numV b2) = D.int IntKind.i64 ((numV b2).toNat : Int)
    rw [Int.toNat_of_nonneg hn0]
  rintro ⟨k, b, e, acc⟩ ⟨hk, hb, hacc, hl⟩
  dsimp only at hk hb hacc hl ⊢
  refine vcOk _ ?_
  (repeat' (first | (refine VS.mk ?_) | (refine dr_mk ?_) | (refine md_l ?_) | ((first | refine sp_not_dec ?_ ?_ | refine sp_dec ?_ ?_ | refine sp_beq ?_ ?_ | refine sp_bne ?_ ?_ | refine sp_seq ?_ ?_ | refine sp_sne ?_ ?_ | refine sp_not ?_ ?_ | refine sp_any ?_ ?_) <;> (intro hc; try simp only [List.length_map, List.length_append, List.length_cons, List.length_nil, Bool.and_true, Bool.and_eq_true, beq_iff_eq, Bool.and_eq_false_iff, beq_eq_false_iff_ne, Bool.true_and, ne_eq] at hc)) | (with_reducible first | refine norm_one ?_ | refine norm_app ?_ | refine norm_cutEnd ?_ | refine norm_cut ?_ | refine norm_bytes1 ?_ | refine norm_bytes2 ?_ | refine norm_setByte ?_ | refine norm_int1 ?_ | refine norm_mk ?_) | (with_reducible refine bytes_mk ?_) | (refine ar_byte ?_) | (refine ar_i64 (by omega) (by omega) ?_) | (refine ar_low ?_) | (refine ix_byteN (by omega) ?_) | (refine ix_byteK (by simp only [Int.reduceToNat]; exact rfl) (by decide) (by omega) ?_) | (refine ix_byte (by omega) (by omega) ?_) | (refine ix_rfl (by decide) rfl ?_) | (refine sd_mk rfl ?_) | (refine sd_mk (by decide +kernel) ?_) | (refine sd_mk (by first | (simp only [List.length_map, List.length_append, List.length_cons, List.length_nil]; done) | ((try simp only [List.length_map, List.length_append, List.length_cons, List.length_nil, List.length_set, List.length_replicate, List.length_drop, List.length_take, true_and, and_true]); omega) | (dsimp only; omega)) ?_) | (first | refine shl8 (by omega) (by omega) ?_ | refine shl4 (by omega) (by omega) ?_ | refine shl1 (by omega) (by omega) ?_ | refine shl16 (by omega) (by omega) ?_ | refine shl24 (by omega) (by omega) ?_ | refine shr8 (by decide) ?_ | refine shr4 (by decide) ?_ | refine shr1 (by decide) ?_ | refine shr16 (by decide) ?_ | refine shr24 (by decide) ?_) | (with_reducible first | refine bit_mk and_1 ?_ | refine bit_mk and_15 ?_ | refine bit_mk and_255 ?_ | refine bit_mk and_4095 ?_ | refine bit_mk and_65535 ?_) | (refine quo_pos (by omega) (by omega) (by omega) ?_) | (refine rem_pos (by omega) (by omega) ?_)))
  · have hk0 : 0 < k := by omega
    have he : e = false := hc
    have hbb : (byteR b).length ≤ 100000000 := Nat.le_trans (takeB_len _ _) hb
    have hbt : (textR b).length ≤ 100000000 := Nat.le_trans (takeB_len _ _) hbb
    refine call_f rbyte_meets [1] [1] (b, e) hb rfl rfl ?_
    refine And.intro (VS.mk (LeL.of_eq rfl)) (And.intro (VS.mk rfl) ?_)
    (repeat' (first | (refine VS.mk ?_) | (refine dr_mk ?_) | (refine md_l ?_) | ((first | refine sp_not_dec ?_ ?_ | refine sp_dec ?_ ?_ | refine sp_beq ?_ ?_ | refine sp_bne ?_ ?_ | refine sp_seq ?_ ?_ | refine sp_sne ?_ ?_ | refine sp_not ?_ ?_ | refine sp_any ?_ ?_) <;> (intro hc; try simp only [List.length_map, List.length_append, List.length_cons, List.length_nil, Bool.and_true, Bool.and_eq_true, beq_iff_eq, Bool.and_eq_false_iff, beq_eq_false_iff_ne, Bool.true_and, ne_eq] at hc)) | (with_reducible first | refine norm_one ?_ | refine norm_app ?_ | refine norm_cutEnd ?_ | refine norm_cut ?_ | refine norm_bytes1 ?_ | refine norm_bytes2 ?_ | refine norm_setByte ?_ | refine norm_int1 ?_ | refine norm_mk ?_) | (with_reducible refine bytes_mk ?_) | (refine ar_byte ?_) | (refine ar_i64 (by omega) (by omega) ?_) | (refine ar_low ?_) | (refine ix_byteN (by omega) ?_) | (refine ix_byteK (by simp only [Int.reduceToNat]; exact rfl) (by decide) (by omega) ?_) | (refine ix_byte (by omega) (by omega) ?_) | (refine ix_rfl (by decide) rfl ?_) | (refine sd_mk rfl ?_) | (refine sd_mk (by decide +kernel) ?_) | (refine sd_mk (by first | (simp only [List.length_map, List.length_append, List.length_cons, List.length_nil]; done) | ((try simp only [List.length_map, List.length_append, List.length_cons, List.length_nil, List.length_set, List.length_replicate, List.length_drop, List.length_take, true_and, and_true]); omega) | (dsimp only; omega)) ?_) | (first | refine shl8 (by omega) (by omega) ?_ | refine shl4 (by omega) (by omega) ?_ | refine shl1 (by omega) (by omega) ?_ | refine shl16 (by omega) (by omega) ?_ | refine shl24 (by omega) (by omega) ?_ | refine shr8 (by decide) ?_ | refine shr4 (by decide) ?_ | refine shr1 (by decide) ?_ | refine shr16 (by decide) ?_ | refine shr24 (by decide) ?_) | (with_reducible first | refine bit_mk and_1 ?_ | refine bit_mk and_15 ?_ | refine bit_mk and_255 ?_ | refine bit_mk and_4095 ?_ | refine bit_mk and_65535 ?_) | (refine quo_pos (by omega) (by omega) (by omega) ?_) | (refine rem_pos (by omega) (by omega) ?_)))
    refine call_f take_meets [1] [1] (byteR b, byteE b e, byteV b) hbb rfl rfl ?_
    refine And.intro (VS.mk (LeL.of_eq rfl)) (And.intro (VS.mk rfl) ?_)
    (repeat' (first | (refine VS.mk ?_) | (refine dr_mk ?_) | (refine md_l ?_) | ((first | refine sp_not_dec ?_ ?_ | refine sp_dec ?_ ?_ | refine sp_beq ?_ ?_ | refine sp_bne ?_ ?_ | refine sp_seq ?_ ?_ | refine sp_sne ?_ ?_ | refine sp_not ?_ ?_ | refine sp_any ?_ ?_) <;> (intro hc; try simp only [List.length_map, List.length_append, List.length_cons, List.length_nil, Bool.and_true, Bool.and_eq_true, beq_iff_eq, Bool.and_eq_false_iff, beq_eq_false_iff_ne, Bool.true_and, ne_eq] at hc)) | (with_reducible first | refine norm_one ?_ | refine norm_app ?_ | refine norm_cutEnd ?_ | refine norm_cut ?_ | refine norm_bytes1 ?_ | refine norm_bytes2 ?_ | refine norm_setByte ?_ | refine norm_int1 ?_ | refine norm_mk ?_) | (with_reducible refine bytes_mk ?_) | (refine ar_byte ?_) | (refine ar_i64 (by omega) (by omega) ?_) | (refine ar_low ?_) | (refine ix_byteN (by omega) ?_) | (refine ix_byteK (by simp only [Int.reduceToNat]; exact rfl) (by decide) (by omega) ?_) | (refine ix_byte (by omega) (by omega) ?_) | (refine ix_rfl (by decide) rfl ?_) | (refine sd_mk rfl ?_) | (refine sd_mk (by decide +kernel) ?_) | (refine sd_mk (by first | (simp only [List.length_map, List.length_append, List.length_cons, List.length_nil]; done) | ((try simp only [List.length_map, List.length_append, List.length_cons, List.length_nil, List.length_set, List.length_replicate, List.length_drop, List.length_take, true_and, and_true]); omega) | (dsimp only; omega)) ?_) | (first | refine shl8 (by omega) (by omega) ?_ | refine shl4 (by omega) (by omega) ?_ | refine shl1 (by omega) (by omega) ?_ | refine shl16 (by omega) (by omega) ?_ | refine shl24 (by omega) (by omega) ?_ | refine shr8 (by decide) ?_ | refine shr4 (by decide) ?_ | refine shr1 (by decide) ?_ | refine shr16 (by decide) ?_ | refine shr24 (by decide) ?_) | (with_reducible first | refine bit_mk and_1 ?_ | refine bit_mk and_15 ?_ | refine bit_mk and_255 ?_ | refine bit_mk and_4095 ?_ | refine bit_mk and_65535 ?_) | (refine quo_pos (by omega) (by omega) (by omega) ?_) | (refine rem_pos (by omega) (by omega) ?_)))
    refine call_f rnum_meets [1] [1] (textR b, textE b e) hbt rfl rfl ?_
    refine And.intro (VS.mk (LeL.of_eq rfl)) (And.intro (VS.mk rfl) ?_)
    (repeat' (first | (refine VS.mk ?_) | (refine dr_mk ?_) | (refine md_l ?_) | ((first | refine sp_not_dec ?_ ?_ | refine sp_dec ?_ ?_ | refine sp_beq ?_ ?_ | refine sp_bne ?_ ?_ | refine sp_seq ?_ ?_ | refine sp_sne ?_ ?_ | refine sp_not ?_ ?_ | refine sp_any ?_ ?_) <;> (intro hc; try simp only [List.length_map, List.length_append, List.length_cons, List.length_nil, Bool.and_true, Bool.and_eq_true, beq_iff_eq, Bool.and_eq_false_iff, beq_eq_false_iff_ne, Bool.true_and, ne_eq] at hc)) | (with_reducible first | refine norm_one ?_ | refine norm_app ?_ | refine norm_cutEnd ?_ | refine norm_cut ?_ | refine norm_bytes1 ?_ | refine norm_bytes2 ?_ | refine norm_setByte ?_ | refine norm_int1 ?_ | refine norm_mk ?_) | (with_reducible refine bytes_mk ?_) | (refine ar_byte ?_) | (refine ar_i64 (by omega) (by omega) ?_) | (refine ar_low ?_) | (refine ix_byteN (by omega) ?_) | (refine ix_byteK (by simp only [Int.reduceToNat]; exact rfl) (by decide) (by omega) ?_) | (refine ix_byte (by omega) (by omega) ?_) | (refine ix_rfl (by decide) rfl ?_) | (refine sd_mk rfl ?_) | (refine sd_mk (by decide +kernel) ?_) | (refine sd_mk (by first | (simp only [List.length_map, List.length_append, List.length_cons, List.length_nil]; done) | ((try simp only [List.length_map, List.length_append, List.length_cons, List.length_nil, List.length_set, List.length_replicate, List.length_drop, List.length_take, true_and, and_true]); omega) | (dsimp only; omega)) ?_) | (first | refine shl8 (by omega) (by omega) ?_ | refine shl4 (by omega) (by omega) ?_ | refine shl1 (by omega) (by omega) ?_ | refine shl16 (by omega) (by omega) ?_ | refine shl24 (by omega) (by omega) ?_ | refine shr8 (by decide) ?_ | refine shr4 (by decide) ?_ | refine shr1 (by decide) ?_ | refine shr16 (by decide) ?_ | refine shr24 (by decide) ?_) | (with_reducible first | refine bit_mk and_1 ?_ | refine bit_mk and_15 ?_ | refine bit_mk and_255 ?_ | refine bit_mk and_4095 ?_ | refine bit_mk and_65535 ?_) | (refine quo_pos (by omega) (by omega) (by omega) ?_) | (refine rem_pos (by omega) (by omega) ?_)))
    obtain ⟨k', rfl⟩ : ∃ k', k = k' + 1 := ⟨k - 1, by omega⟩
    have hnew : loopS k' (numR (textR b)) (numE (textR b) (textE b e)) (acc ++ [⟨textV b, numV (textR b)⟩]) = S := by rw [← hl, loopS, if_neg (by rw [he]; decide)]
    have hmem : ∀ s ∈ acc ++ [(⟨textV b, numV (textR b)⟩ : OSym)], s.name.length ≤ 255 := by
      intro s hs
      rcases List.mem_append.1 hs with h | h
      · exact hacc s h
      · rw [List.mem_singleton.1 h]; exact textV_len b
    refine loop_end (k', numR (textR b), numE (textR b) (textE b e), acc ++ [⟨textV b, numV (textR b)⟩]) ⟨by (dsimp only; rw [List.length_append]; show _ + 1 + _ ≤ _; omega), Nat.le_trans (takeB_len _ _) hbt, hmem, hnew⟩ (by dsimp only; omega) ?_
    (repeat' (first | (refine VS.mk ?_) | exact trivial | exact rfl | refine And.intro ?_ ?_))
    all_goals first
      | (simp [symD, numR, numE, textV, numV, bytesD]; done)
      | (refine congrArg (D.int .i64) ?_; dsimp only; omega)
  all_goals
    have hS' : S = (acc, b, e) := by
      rw [← hl]
      cases k with
      | zero => rfl
      | succ k =>
        have he : e = true := by first | assumption | (exfalso; omega)
        rw [loopS, if_pos he]
    clear hl hk
    refine call_f rnum_meets [1] [1] (b, e) hb rfl rfl ?_
    refine And.intro (VS.mk (LeL.of_eq rfl)) (And.intro (VS.mk rfl) ?_)
    (repeat' (first | (refine VS.mk ?_) | (refine dr_mk ?_) | (refine md_l ?_) | ((first | refine sp_not_dec ?_ ?_ | refine sp_dec ?_ ?_ | refine sp_beq ?_ ?_ | refine sp_bne ?_ ?_ | refine sp_seq ?_ ?_ | refine sp_sne ?_ ?_ | refine sp_not ?_ ?_ | refine sp_any ?_ ?_) <;> (intro hc; try simp only [List.length_map, List.length_append, List.length_cons, List.length_nil, Bool.and_true, Bool.and_eq_true, beq_iff_eq, Bool.and_eq_false_iff, beq_eq_false_iff_ne, Bool.true_and, ne_eq] at hc)) | (with_reducible first | refine norm_one ?_ | refine norm_app ?_ | refine norm_cutEnd ?_ | refine norm_cut ?_ | refine norm_bytes1 ?_ | refine norm_bytes2 ?_ | refine norm_setByte ?_ | refine norm_int1 ?_ | refine norm_mk ?_) | (with_reducible refine bytes_mk ?_) | (refine ar_byte ?_) | (refine ar_i64 (by omega) (by omega) ?_) | (refine ar_low ?_) | (refine ix_byteN (by omega) ?_) | (refine ix_byteK (by simp only [Int.reduceToNat]; exact rfl) (by decide) (by omega) ?_) | (refine ix_byte (by omega) (by omega) ?_) | (refine ix_rfl (by decide) rfl ?_) | (refine sd_mk rfl ?_) | (refine sd_mk (by decide +kernel) ?_) | (refine sd_mk (by first | (simp only [List.length_map, List.length_append, List.length_cons, List.length_nil]; done) | ((try simp only [List.length_map, List.length_append, List.length_cons, List.length_nil, List.length_set, List.length_replicate, List.length_drop, List.length_take, true_and, and_true]); omega) | (dsimp only; omega)) ?_) | (first | refine shl8 (by omega) (by omega) ?_ | refine shl4 (by omega) (by omega) ?_ | refine shl1 (by omega) (by omega) ?_ | refine shl16 (by omega) (by omega) ?_ | refine shl24 (by omega) (by omega) ?_ | refine shr8 (by decide) ?_ | refine shr4 (by decide) ?_ | refine shr1 (by decide) ?_ | refine shr16 (by decide) ?_ | refine shr24 (by decide) ?_) | (with_reducible first | refine bit_mk and_1 ?_ | refine bit_mk and_15 ?_ | refine bit_mk and_255 ?_ | refine bit_mk and_4095 ?_ | refine bit_mk and_65535 ?_) | (refine quo_pos (by omega) (by omega) (by omega) ?_) | (refine rem_pos (by omega) (by omega) ?_)))
    refine awp_weak (weak_cellnil' 2 4 [bytesD code, .sl 2 (acc.map symD) (some 3), .sl 4 [] (some 4)] rfl ⟨.same, .same, .here, trivial⟩) ?_
    have hb7 : (numR b).length ≤ 100000000 := Nat.le_trans (takeB_len _ _) hb
    obtain ⟨hm0, hm1⟩ := numV_bd b
    generalize hR : loopR (numV b).toNat (numR b) (numE b e) [] = R at *
    refine awp_loop (α := Nat × List UInt8 × Bool × List ORel) (fun p => p.2.2.2.length + p.1 ≤ 4294967295 ∧ p.2.1.length ≤ 100000000 ∧ (∀ r ∈ p.2.2.2, -9223372036854775808 ≤ r.at_ ∧ r.at_ ≤ 9223372036854775807 ∧ r.name.length ≤ 1000000000) ∧ loopR p.1 p.2.1 p.2.2.1 p.2.2.2 = R)
      (fun p => [(2, .loc 0 0), (4, .loc 1 0), (5, .loc 2 0), (7, .int .i64 p.1), (3, .int .i64 0)])
      (fun p => [.cells [.nilsl, .nilsl, .nilsl], .cells [bytesD p.2.1, .bool p.2.2.1], .cells [bytesD code, .sl 2 (acc.map symD) (some 3), .sl 4 (p.2.2.2.map relD) (some 4)], .spare acc.length, .spare p.2.2.2.length]) (fun p => p.1) (fun _ => by simp [hE])
      ((numV b).toNat, numR b, numE b e, []) ⟨by (dsimp only [List.length_nil]; omega), hb7, by simp, hR⟩ ?_ ?_
    · (repeat' (first | (refine VS.mk ?_) | exact trivial | exact rfl | refine And.intro ?_ ?_))
      show D.int IntKind.i64 (numV b) = D.int IntKind.i64 ((numV b).toNat : Int)
      rw [Int.toNat_of_nonneg hm0]
    have hrd : readO bb = ⟨⟨code, acc, R.1⟩, R.2.1, R.2.2⟩ := by simp only [readO, hb0e, he0e, hcode, hb2e, he2e, hS, hS', hR]
    have hacc' : ∀ s ∈ acc, s.name.length ≤ 1000000000 := fun s h => Nat.le_trans (hacc s h) (by decide)
    clear hb7 hR
    rintro ⟨k, b', e', rs⟩ ⟨hk, hb', hrs, hl⟩
    dsimp only at hk hb' hrs hl ⊢
    refine vcOk _ ?_
    (repeat' (first | (refine VS.mk ?_) | (refine dr_mk ?_) | (refine md_l ?_) | ((first | refine sp_not_dec ?_ ?_ | refine sp_dec ?_ ?_ | refine sp_beq ?_ ?_ | refine sp_bne ?_ ?_ | refine sp_seq ?_ ?_ | refine sp_sne ?_ ?_ | refine sp_not ?_ ?_ | refine sp_any ?_ ?_) <;> (intro hc; try simp only [List.length_map, List.length_append, List.length_cons, List.length_nil, Bool.and_true, Bool.and_eq_true, beq_iff_eq, Bool.and_eq_false_iff, beq_eq_false_iff_ne, Bool.true_and, ne_eq] at hc)) | (with_reducible first | refine norm_one ?_ | refine norm_app ?_ | refine norm_cutEnd ?_ | refine norm_cut ?_ | refine norm_bytes1 ?_ | refine norm_bytes2 ?_ | refine norm_setByte ?_ | refine norm_int1 ?_ | refine norm_mk ?_) | (with_reducible refine bytes_mk ?_) | (refine ar_byte ?_) | (refine ar_i64 (by omega) (by omega) ?_) | (refine ar_low ?_) | (refine ix_byteN (by omega) ?_) | (refine ix_byteK (by simp only [Int.reduceToNat]; exact rfl) (by decide) (by omega) ?_) | (refine ix_byte (by omega) (by omega) ?_) | (refine ix_rfl (by decide) rfl ?_) | (refine sd_mk rfl ?_) | (refine sd_mk (by decide +kernel) ?_) | (refine sd_mk (by first | (simp only [List.length_map, List.length_append, List.length_cons, List.length_nil]; done) | ((try simp only [List.length_map, List.length_append, List.length_cons, List.length_nil, List.length_set, List.length_replicate, List.length_drop, List.length_take, true_and, and_true]); omega) | (dsimp only; omega)) ?_) | (first | refine shl8 (by omega) (by omega) ?_ | refine shl4 (by omega) (by omega) ?_ | refine shl1 (by omega) (by omega) ?_ | refine shl16 (by omega) (by omega) ?_ | refine shl24 (by omega) (by omega) ?_ | refine shr8 (by decide) ?_ | refine shr4 (by decide) ?_ | refine shr1 (by decide) ?_ | refine shr16 (by decide) ?_ | refine shr24 (by decide) ?_) | (with_reducible first | refine bit_mk and_1 ?_ | refine bit_mk and_15 ?_ | refine bit_mk and_255 ?_ | refine bit_mk and_4095 ?_ | refine bit_mk and_65535 ?_) | (refine quo_pos (by omega) (by omega) (by omega) ?_) | (refine rem_pos (by omega) (by omega) ?_)))
    · have hk0 : 0 < k := by omega
      have he : e' = false := by assumption
      have c1 : (numR b').length ≤ 100000000 := Nat.le_trans (takeB_len _ _) hb'
      have c2 : (byteR (numR b')).length ≤ 100000000 := Nat.le_trans (takeB_len _ _) c1
      have c3 : (byteR (byteR (numR b'))).length ≤ 100000000 := Nat.le_trans (takeB_len _ _) c2
      have c4 : (textR (byteR (numR b'))).length ≤ 100000000 := Nat.le_trans (takeB_len _ _) c3
      refine call_f rnum_meets [1] [1] (b', e') hb' rfl rfl ?_
      refine And.intro (VS.mk (LeL.of_eq rfl)) (And.intro (VS.mk rfl) ?_)
      (repeat' (first | (refine VS.mk ?_) | (refine dr_mk ?_) | (refine md_l ?_) | ((first | refine sp_not_dec ?_ ?_ | refine sp_dec ?_ ?_ | refine sp_beq ?_ ?_ | refine sp_bne ?_ ?_ | refine sp_seq ?_ ?_ | refine sp_sne ?_ ?_ | refine sp_not ?_ ?_ | refine sp_any ?_ ?_) <;> (intro hc; try simp only [List.length_map, List.length_append, List.length_cons, List.length_nil, Bool.and_true, Bool.and_eq_true, beq_iff_eq, Bool.and_eq_false_iff, beq_eq_false_iff_ne, Bool.true_and, ne_eq] at hc)) | (with_reducible first | refine norm_one ?_ | refine norm_app ?_ | refine norm_cutEnd ?_ | refine norm_cut ?_ | refine norm_bytes1 ?_ | refine norm_bytes2 ?_ | refine norm_setByte ?_ | refine norm_int1 ?_ | refine norm_mk ?_) | (with_reducible refine bytes_mk ?_) | (refine ar_byte ?_) | (refine ar_i64 (by omega) (by omega) ?_) | (refine ar_low ?_) | (refine ix_byteN (by omega) ?_) | (refine ix_byteK (by simp only [Int.reduceToNat]; exact rfl) (by decide) (by omega) ?_) | (refine ix_byte (by omega) (by omega) ?_) | (refine ix_rfl (by decide) rfl ?_) | (refine sd_mk rfl ?_) | (refine sd_mk (by decide +kernel) ?_) | (refine sd_mk (by first | (simp only [List.length_map, List.length_append, List.length_cons, List.length_nil]; done) | ((try simp only [List.length_map, List.length_append, List.length_cons, List.length_nil, List.length_set, List.length_replicate, List.length_drop, List.length_take, true_and, and_true]); omega) | (dsimp only; omega)) ?_) | (first | refine shl8 (by omega) (by omega) ?_ | refine shl4 (by omega) (by omega) ?_ | refine shl1 (by omega) (by omega) ?_ | refine shl16 (by omega) (by omega) ?_ | refine shl24 (by omega) (by omega) ?_ | refine shr8 (by decide) ?_ | refine shr4 (by decide) ?_ | refine shr1 (by decide) ?_ | refine shr16 (by decide) ?_ | refine shr24 (by decide) ?_) | (with_reducible first | refine bit_mk and_1 ?_ | refine bit_mk and_15 ?_ | refine bit_mk and_255 ?_ | refine bit_mk and_4095 ?_ | refine bit_mk and_65535 ?_) | (refine quo_pos (by omega) (by omega) (by omega) ?_) | (refine rem_pos (by omega) (by omega) ?_)))
      refine call_f rbyte_meets [1] [1] (numR b', numE b' e') c1 rfl rfl ?_
      refine And.intro (VS.mk (LeL.of_eq rfl)) (And.intro (VS.mk rfl) ?_)
      (repeat' (first | (refine VS.mk ?_) | (refine dr_mk ?_) | (refine md_l ?_) | ((first | refine sp_not_dec ?_ ?_ | refine sp_dec ?_ ?_ | refine sp_beq ?_ ?_ | refine sp_bne ?_ ?_ | refine sp_seq ?_ ?_ | refine sp_sne ?_ ?_ | refine sp_not ?_ ?_ | refine sp_any ?_ ?_) <;> (intro hc; try simp only [List.length_map, List.length_append, List.length_cons, List.length_nil, Bool.and_true, Bool.and_eq_true, beq_iff_eq, Bool.and_eq_false_iff, beq_eq_false_iff_ne, Bool.true_and, ne_eq] at hc)) | (with_reducible first | refine norm_one ?_ | refine norm_app ?_ | refine norm_cutEnd ?_ | refine norm_cut ?_ | refine norm_bytes1 ?_ | refine norm_bytes2 ?_ | refine norm_setByte ?_ | refine norm_int1 ?_ | refine norm_mk ?_) | (with_reducible refine bytes_mk ?_) | (refine ar_byte ?_) | (refine ar_i64 (by omega) (by omega) ?_) | (refine ar_low ?_) | (refine ix_byteN (by omega) ?_) | (refine ix_byteK (by simp only [Int.reduceToNat]; exact rfl) (by decide) (by omega) ?_) | (refine ix_byte (by omega) (by omega) ?_) | (refine ix_rfl (by decide) rfl ?_) | (refine sd_mk rfl ?_) | (refine sd_mk (by decide +kernel) ?_) | (refine sd_mk (by first | (simp only [List.length_map, List.length_append, List.length_cons, List.length_nil]; done) | ((try simp only [List.length_map, List.length_append, List.length_cons, List.length_nil, List.length_set, List.length_replicate, List.length_drop, List.length_take, true_and, and_true]); omega) | (dsimp only; omega)) ?_) | (first | refine shl8 (by omega) (by omega) ?_ | refine shl4 (by omega) (by omega) ?_ | refine shl1 (by omega) (by omega) ?_ | refine shl16 (by omega) (by omega) ?_ | refine shl24 (by omega) (by omega) ?_ | refine shr8 (by decide) ?_ | refine shr4 (by decide) ?_ | refine shr1 (by decide) ?_ | refine shr16 (by decide) ?_ | refine shr24 (by decide) ?_) | (with_reducible first | refine bit_mk and_1 ?_ | refine bit_mk and_15 ?_ | refine bit_mk and_255 ?_ | refine bit_mk and_4095 ?_ | refine bit_mk and_65535 ?_) | (refine quo_pos (by omega) (by omega) (by omega) ?_) | (refine rem_pos (by omega) (by omega) ?_)))
      refine call_f rbyte_meets [1] [1] (byteR (numR b'), byteE (numR b') (numE b' e')) c2 rfl rfl ?_
      refine And.intro (VS.mk (LeL.of_eq rfl)) (And.intro (VS.mk rfl) ?_)
      (repeat' (first | (refine VS.mk ?_) | (refine dr_mk ?_) | (refine md_l ?_) | ((first | refine sp_not_dec ?_ ?_ | refine sp_dec ?_ ?_ | refine sp_beq ?_ ?_ | refine sp_bne ?_ ?_ | refine sp_seq ?_ ?_ | refine sp_sne ?_ ?_ | refine sp_not ?_ ?_ | refine sp_any ?_ ?_) <;> (intro hc; try simp only [List.length_map, List.length_append, List.length_cons, List.length_nil, Bool.and_true, Bool.and_eq_true, beq_iff_eq, Bool.and_eq_false_iff, beq_eq_false_iff_ne, Bool.true_and, ne_eq] at hc)) | (with_reducible first | refine norm_one ?_ | refine norm_app ?_ | refine norm_cutEnd ?_ | refine norm_cut ?_ | refine norm_bytes1 ?_ | refine norm_bytes2 ?_ | refine norm_setByte ?_ | refine norm_int1 ?_ | refine norm_mk ?_) | (with_reducible refine bytes_mk ?_) | (refine ar_byte ?_) | (refine ar_i64 (by omega) (by omega) ?_) | (refine ar_low ?_) | (refine ix_byteN (by omega) ?_) | (refine ix_byteK (by simp only [Int.reduceToNat]; exact rfl) (by decide) (by omega) ?_) | (refine ix_byte (by omega) (by omega) ?_) | (refine ix_rfl (by decide) rfl ?_) | (refine sd_mk rfl ?_) | (refine sd_mk (by decide +kernel) ?_) | (refine sd_mk (by first | (simp only [List.length_map, List.length_append, List.length_cons, List.length_nil]; done) | ((try simp only [List.length_map, List.length_append, List.length_cons, List.length_nil, List.length_set, List.length_replicate, List.length_drop, List.length_take, true_and, and_true]); omega) | (dsimp only; omega)) ?_) | (first | refine shl8 (by omega) (by omega) ?_ | refine shl4 (by omega) (by omega) ?_ | refine shl1 (by omega) (by omega) ?_ | refine shl16 (by omega) (by omega) ?_ | refine shl24 (by omega) (by omega) ?_ | refine shr8 (by decide) ?_ | refine shr4 (by decide) ?_ | refine shr1 (by decide) ?_ | refine shr16 (by decide) ?_ | refine shr24 (by decide) ?_) | (with_reducible first | refine bit_mk and_1 ?_ | refine bit_mk and_15 ?_ | refine bit_mk and_255 ?_ | refine bit_mk and_4095 ?_ | refine bit_mk and_65535 ?_) | (refine quo_pos (by omega) (by omega) (by omega) ?_) | (refine rem_pos (by omega) (by omega) ?_)))
      refine call_f take_meets [1] [1] (byteR (byteR (numR b')), byteE (byteR (numR b')) (byteE (numR b') (numE b' e')), byteV (byteR (numR b'))) c3 rfl rfl ?_
      refine And.intro (VS.mk (LeL.of_eq rfl)) (And.intro (VS.mk rfl) ?_)
      (repeat' (first | (refine VS.mk ?_) | (refine dr_mk ?_) | (refine md_l ?_) | ((first | refine sp_not_dec ?_ ?_ | refine sp_dec ?_ ?_ | refine sp_beq ?_ ?_ | refine sp_bne ?_ ?_ | refine sp_seq ?_ ?_ | refine sp_sne ?_ ?_ | refine sp_not ?_ ?_ | refine sp_any ?_ ?_) <;> (intro hc; try simp only [List.length_map, List.length_append, List.length_cons, List.length_nil, Bool.and_true, Bool.and_eq_true, beq_iff_eq, Bool.and_eq_false_iff, beq_eq_false_iff_ne, Bool.true_and, ne_eq] at hc)) | (with_reducible first | refine norm_one ?_ | refine norm_app ?_ | refine norm_cutEnd ?_ | refine norm_cut ?_ | refine norm_bytes1 ?_ | refine norm_bytes2 ?_ | refine norm_setByte ?_ | refine norm_int1 ?_ | refine norm_mk ?_) | (with_reducible refine bytes_mk ?_) | (refine ar_byte ?_) | (refine ar_i64 (by omega) (by omega) ?_) | (refine ar_low ?_) | (refine ix_byteN (by omega) ?_) | (refine ix_byteK (by simp only [Int.reduceToNat]; exact rfl) (by decide) (by omega) ?_) | (refine ix_byte (by omega) (by omega) ?_) | (refine ix_rfl (by decide) rfl ?_) | (refine sd_mk rfl ?_) | (refine sd_mk (by decide +kernel) ?_) | (refine sd_mk (by first | (simp only [List.length_map, List.length_append, List.length_cons, List.length_nil]; done) | ((try simp only [List.length_map, List.length_append, List.length_cons, List.length_nil, List.length_set, List.length_replicate, List.length_drop, List.length_take, true_and, and_true]); omega) | (dsimp only; omega)) ?_) | (first | refine shl8 (by omega) (by omega) ?_ | refine shl4 (by omega) (by omega) ?_ | refine shl1 (by omega) (by omega) ?_ | refine shl16 (by omega) (by omega) ?_ | refine shl24 (by omega) (by omega) ?_ | refine shr8 (by decide) ?_ | refine shr4 (by decide) ?_ | refine shr1 (by decide) ?_ | refine shr16 (by decide) ?_ | refine shr24 (by decide) ?_) | (with_reducible first | refine bit_mk and_1 ?_ | refine bit_mk and_15 ?_ | refine bit_mk and_255 ?_ | refine bit_mk and_4095 ?_ | refine bit_mk and_65535 ?_) | (refine quo_pos (by omega) (by omega) (by omega) ?_) | (refine rem_pos (by omega) (by omega) ?_)))
      refine call_f rnum_meets [1] [1] (textR (byteR (numR b')), textE (byteR (numR b')) (byteE (numR b') (numE b' e'))) c4 rfl rfl ?_
      refine And.intro (VS.mk (LeL.of_eq rfl)) (And.intro (VS.mk rfl) ?_)
      (repeat' (first | (refine VS.mk ?_) | (refine dr_mk ?_) | (refine md_l ?_) | ((first | refine sp_not_dec ?_ ?_ | refine sp_dec ?_ ?_ | refine sp_beq ?_ ?_ | refine sp_bne ?_ ?_ | refine sp_seq ?_ ?_ | refine sp_sne ?_ ?_ | refine sp_not ?_ ?_ | refine sp_any ?_ ?_) <;> (intro hc; try simp only [List.length_map, List.length_append, List.length_cons, List.length_nil, Bool.and_true, Bool.and_eq_true, beq_iff_eq, Bool.and_eq_false_iff, beq_eq_false_iff_ne, Bool.true_and, ne_eq] at hc)) | (with_reducible first | refine norm_one ?_ | refine norm_app ?_ | refine norm_cutEnd ?_ | refine norm_cut ?_ | refine norm_bytes1 ?_ | refine norm_bytes2 ?_ | refine norm_setByte ?_ | refine norm_int1 ?_ | refine norm_mk ?_) | (with_reducible refine bytes_mk ?_) | (refine ar_byte ?_) | (refine ar_i64 (by omega) (by omega) ?_) | (refine ar_low ?_) | (refine ix_byteN (by omega) ?_) | (refine ix_byteK (by simp only [Int.reduceToNat]; exact rfl) (by decide) (by omega) ?_) | (refine ix_byte (by omega) (by omega) ?_) | (refine ix_rfl (by decide) rfl ?_) | (refine sd_mk rfl ?_) | (refine sd_mk (by decide +kernel) ?_) | (refine sd_mk (by first | (simp only [List.length_map, List.length_append, List.length_cons, List.length_nil]; done) | ((try simp only [List.length_map, List.length_append, List.length_cons, List.length_nil, List.length_set, List.length_replicate, List.length_drop, List.length_take, true_and, and_true]); omega) | (dsimp only; omega)) ?_) | (first | refine shl8 (by omega) (by omega) ?_ | refine shl4 (by omega) (by omega) ?_ | refine shl1 (by omega) (by omega) ?_ | refine shl16 (by omega) (by omega) ?_ | refine shl24 (by omega) (by omega) ?_ | refine shr8 (by decide) ?_ | refine shr4 (by decide) ?_ | refine shr1 (by decide) ?_ | refine shr16 (by decide) ?_ | refine shr24 (by decide) ?_) | (with_reducible first | refine bit_mk and_1 ?_ | refine bit_mk and_15 ?_ | refine bit_mk and_255 ?_ | refine bit_mk and_4095 ?_ | refine bit_mk and_65535 ?_) | (refine quo_pos (by omega) (by omega) (by omega) ?_) | (refine rem_pos (by omega) (by omega) ?_)))
      refine call_p signed_meets2 (numV (textR (byteR (numR b')))) trivial (VS.mk (LeL.of_eq rfl)) ?_
      (repeat' (first | (refine VS.mk ?_) | (refine dr_mk ?_) | (refine md_l ?_) | ((first | refine sp_not_dec ?_ ?_ | refine sp_dec ?_ ?_ | refine sp_beq ?_ ?_ | refine sp_bne ?_ ?_ | refine sp_seq ?_ ?_ | refine sp_sne ?_ ?_ | refine sp_not ?_ ?_ | refine sp_any ?_ ?_) <;> (intro hc; try simp only [List.length_map, List.length_append, List.length_cons, List.length_nil, Bool.and_true, Bool.and_eq_true, beq_iff_eq, Bool.and_eq_false_iff, beq_eq_false_iff_ne, Bool.true_and, ne_eq] at hc)) | (with_reducible first | refine norm_one ?_ | refine norm_app ?_ | refine norm_cutEnd ?_ | refine norm_cut ?_ | refine norm_bytes1 ?_ | refine norm_bytes2 ?_ | refine norm_setByte ?_ | refine norm_int1 ?_ | refine norm_mk ?_) | (with_reducible refine bytes_mk ?_) | (refine ar_byte ?_) | (refine ar_i64 (by omega) (by omega) ?_) | (refine ar_low ?_) | (refine ix_byteN (by omega) ?_) | (refine ix_byteK (by simp only [Int.reduceToNat]; exact rfl) (by decide) (by omega) ?_) | (refine ix_byte (by omega) (by omega) ?_) | (refine ix_rfl (by decide) rfl ?_) | (refine sd_mk rfl ?_) | (refine sd_mk (by decide +kernel) ?_) | (refine sd_mk (by first | (simp only [List.length_map, List.length_append, List.length_cons, List.length_nil]; done) | ((try simp only [List.length_map, List.length_append, List.length_cons, List.length_nil, List.length_set, List.length_replicate, List.length_drop, List.length_take, true_and, and_true]); omega) | (dsimp only; omega)) ?_) | (first | refine shl8 (by omega) (by omega) ?_ | refine shl4 (by omega) (by omega) ?_ | refine shl1 (by omega) (by omega) ?_ | refine shl16 (by omega) (by omega) ?_ | refine shl24 (by omega) (by omega) ?_ | refine shr8 (by decide) ?_ | refine shr4 (by decide) ?_ | refine shr1 (by decide) ?_ | refine shr16 (by decide) ?_ | refine shr24 (by decide) ?_) | (with_reducible first | refine bit_mk and_1 ?_ | refine bit_mk and_15 ?_ | refine bit_mk and_255 ?_ | refine bit_mk and_4095 ?_ | refine bit_mk and_65535 ?_) | (refine quo_pos (by omega) (by omega) (by omega) ?_) | (refine rem_pos (by omega) (by omega) ?_)))
      obtain ⟨k', rfl⟩ : ∃ k', k = k' + 1 := ⟨k - 1, by omega⟩
      have hnew : loopR k' (numR (textR (byteR (numR b')))) (numE (textR (byteR (numR b'))) (textE (byteR (numR b')) (byteE (numR b') (numE b' e'))))
          (rs ++ [⟨numV b', byteV (numR b'), textV (byteR (numR b')), signedI (numV (textR (byteR (numR b')))) 32⟩]) = R := by rw [← hl, loopR, if_neg (by rw [he]; decide)]
      have hmem : ∀ r ∈ rs ++ [(⟨numV b', byteV (numR b'), textV (byteR (numR b')), signedI (numV (textR (byteR (numR b')))) 32⟩ : ORel)], -9223372036854775808 ≤ r.at_ ∧ r.at_ ≤ 9223372036854775807 ∧ r.name.length ≤ 1000000000 := by
        intro s hs
        rcases List.mem_append.1 hs with h | h
        · exact hrs s h
        · rw [List.mem_singleton.1 h]
          have := numV_bd b'
          have := textV_len (byteR (numR b'))
          exact ⟨by dsimp only; omega, by dsimp only; omega, by dsimp only; omega⟩
      refine loop_end (k', numR (textR (byteR (numR b'))), numE (textR (byteR (numR b'))) (textE (byteR (numR b')) (byteE (numR b') (numE b' e'))), rs ++ [⟨numV b', byteV (numR b'), textV (byteR (numR b')), signedI (numV (textR (byteR (numR b')))) 32⟩])
        ⟨by (dsimp only; rw [List.length_append]; show _ + 1 + _ ≤ _; omega), Nat.le_trans (takeB_len _ _) c4, hmem, hnew⟩ (by dsimp only; omega) ?_
      (repeat' (first | (refine VS.mk ?_) | exact trivial | exact rfl | refine And.intro ?_ ?_))
      all_goals first
        | (simp [relD, numR, numE, textV, numV, byteV, bytesD]; done)
        | (refine congrArg (D.int .i64) ?_; dsimp only; omega)
    all_goals
      have hR' : R = (rs, b', e') := by
        rw [← hl]
        cases k with
        | zero => rfl
        | succ k =>
          have he : e' = true := by first | assumption | (exfalso; omega)
          rw [loopR, if_pos he]
      rw [hR'] at hrd
      have hpo : parseOE bb = if e' = true ∨ b' ≠ [] then 2 else wrongO ⟨code, acc, rs⟩ := by
        unfold parseOE
        rw [if_neg (fun h => h hm), hrd]
      first
        | (have h : parseOE bb = 2 := by
            rw [hpo, if_pos]
            first
              | exact .inl (by assumption)
              | (refine .inr fun h => ?_; subst h; simp at hc; done)
           refine end_p (VS.mk (LeD.trans (.tup (.cons (.agg (.cons (.nil 1) (.cons (.nil 2) (.cons (.nil 4) .nil)))) (.cons (.refl _) .nil))) (LeD.of_eq ?_)))
           rw [parseO, h, if_neg (by decide)]
           rfl)
        | skip
    all_goals
      have he0 : e' = false := by first | assumption | (cases e' <;> simp_all; done)
      have h0 : ¬ (e' = true ∨ b' ≠ []) := by
        rintro (h | h)
        · rw [he0] at h; cases h
        · exact h (List.eq_nil_of_length_eq_zero (by omega))
      rw [if_neg h0] at hpo
      refine call_p owrong_meets ⟨code, acc, rs⟩ ⟨hrs, hacc'⟩ (VS.mk (by (first | exact LeL.refl _ | (repeat' (first | exact LeL.nil | exact LeD.refl _ | exact LeD.nil _ | exact LeD.strip _ _ _ | refine LeL.cons ?_ ?_ | refine LeD.tup ?_ | refine LeD.agg ?_))))) ?_
      (repeat' (first | (refine VS.mk ?_) | (refine dr_mk ?_) | (refine md_l ?_) | ((first | refine sp_not_dec ?_ ?_ | refine sp_dec ?_ ?_ | refine sp_beq ?_ ?_ | refine sp_bne ?_ ?_ | refine sp_seq ?_ ?_ | refine sp_sne ?_ ?_ | refine sp_not ?_ ?_ | refine sp_any ?_ ?_) <;> (intro hc; try simp only [List.length_map, List.length_append, List.length_cons, List.length_nil, Bool.and_true, Bool.and_eq_true, beq_iff_eq, Bool.and_eq_false_iff, beq_eq_false_iff_ne, Bool.true_and, ne_eq] at hc)) | (with_reducible first | refine norm_one ?_ | refine norm_app ?_ | refine norm_cutEnd ?_ | refine norm_cut ?_ | refine norm_bytes1 ?_ | refine norm_bytes2 ?_ | refine norm_setByte ?_ | refine norm_int1 ?_ | refine norm_mk ?_) | (with_reducible refine bytes_mk ?_) | (refine ar_byte ?_) | (refine ar_i64 (by omega) (by omega) ?_) | (refine ar_low ?_) | (refine ix_byteN (by omega) ?_) | (refine ix_byteK (by simp only [Int.reduceToNat]; exact rfl) (by decide) (by omega) ?_) | (refine ix_byte (by omega) (by omega) ?_) | (refine ix_rfl (by decide) rfl ?_) | (refine sd_mk rfl ?_) | (refine sd_mk (by decide +kernel) ?_) | (refine sd_mk (by first | (simp only [List.length_map, List.length_append, List.length_cons, List.length_nil]; done) | ((try simp only [List.length_map, List.length_append, List.length_cons, List.length_nil, List.length_set, List.length_replicate, List.length_drop, List.length_take, true_and, and_true]); omega) | (dsimp only; omega)) ?_) | (first | refine shl8 (by omega) (by omega) ?_ | refine shl4 (by omega) (by omega) ?_ | refine shl1 (by omega) (by omega) ?_ | refine shl16 (by omega) (by omega) ?_ | refine shl24 (by omega) (by omega) ?_ | refine shr8 (by decide) ?_ | refine shr4 (by decide) ?_ | refine shr1 (by decide) ?_ | refine shr16 (by decide) ?_ | refine shr24 (by decide) ?_) | (with_reducible first | refine bit_mk and_1 ?_ | refine bit_mk and_15 ?_ | refine bit_mk and_255 ?_ | refine bit_mk and_4095 ?_ | refine bit_mk and_65535 ?_) | (refine quo_pos (by omega) (by omega) (by omega) ?_) | (refine rem_pos (by omega) (by omega) ?_)))
      · refine end_p (VS.mk (LeD.trans (.tup (.cons (.agg (.cons (.nil 1) (.cons (.nil 2) (.cons (.nil 4) .nil)))) (.cons (.refl _) .nil))) (LeD.of_eq ?_)))
        rw [parseO, hpo, if_neg hc]
        rfl
      · refine end_p (VS.mk ?_)
        rw [parseO, hpo, if_pos hc, hrd, hc]
        (first | exact LeL.refl _ | (repeat' (first | exact LeL.nil | exact LeD.refl _ | exact LeD.nil _ | exact LeD.strip _ _ _ | refine LeL.cons ?_ ?_ | refine LeD.tup ?_ | refine LeD.agg ?_)))
end Go.Proofs.Ytmeigmpjpkinoaa

namespace Go.Proofs.Ytmeigmpjpkinoaa
open Go Go.Plat
set_option linter.unusedVariables false
set_option linter.unusedSimpArgs false
set_option maxRecDepth 100000
set_option maxHeartbeats 2000000
attribute [local irreducible] NilS LookS NormM bitI BytesS NormL Arith QuoS RemS ShlS ShrS BitS CatS SplitS SideS IdxS CallS LoopEnd EndS ModeS DrawS AWP Meets
attribute [local irreducible] signedI letterB digitB nameB wrongO loopS loopR readO

def sameO (a b : OObj) : Bool := decide (a = b)
theorem sameO_no {a b : OObj} (h : a ≠ b) : sameO a b = false := decide_eq_false h
theorem sameO_yes {a b : OObj} (h : a = b) : sameO a b = true := decide_eq_true h
theorem take_step {α : Type} {l m : List α} {k : Nat} {x : α} (h : l.take k = m.take k) (h1 : l[k]? = some x) (h2 : m[k]? = some x) : l.take (k + 1) = m.take (k + 1) := by
  rw [List.take_add_one, List.take_add_one, h, h1, h2]

theorem same_meets : Meets Try.prog n_plref4_SameObject (SpecP (fun ((a, b) : OObj × OObj) => a.syms.length ≤ 4294967296 ∧ a.rels.length ≤ 4294967296) (fun (a, b) => [objD a, objD b]) fun (a, b) => .bool (sameO a b)) := by
  refine meets_f tabOk Try.func15 rfl (by decide) ?_
  rintro ⟨a, b⟩ ⟨ha1, ha2⟩
  refine ⟨Nat.le_refl _, by simp [Try.f15], fun E hE => ?_⟩
  refine vcOk _ ?_
  (repeat' (first | (refine VS.mk ?_) | (refine dr_mk ?_) | (refine md_l ?_) | ((first | refine sp_not_dec ?_ ?_ | refine sp_dec ?_ ?_ | refine sp_beq ?_ ?_ | refine sp_bne ?_ ?_ | refine sp_seq ?_ ?_ | refine sp_sne ?_ ?_ | refine sp_not ?_ ?_ | refine sp_any ?_ ?_) <;> (intro hc; try simp only [List.length_map, List.length_append, List.length_cons, List.length_nil, Bool.and_true, Bool.and_eq_true, beq_iff_eq, Bool.and_eq_false_iff, beq_eq_false_iff_ne, Bool.true_and, ne_eq] at hc)) | (with_reducible first | refine norm_one ?_ | refine norm_app ?_ | refine norm_cutEnd ?_ | refine norm_cut ?_ | refine norm_bytes1 ?_ | refine norm_bytes2 ?_ | refine norm_setByte ?_ | refine norm_int1 ?_ | refine norm_mk ?_) | (with_reducible refine bytes_mk ?_) | (refine ar_byte ?_) | (refine ar_i64 (by omega) (by omega) ?_) | (refine ar_low ?_) | (refine ix_byteN (by omega) ?_) | (refine ix_byteK (by simp only [Int.reduceToNat]; exact rfl) (by decide) (by omega) ?_) | (refine ix_byte (by omega) (by omega) ?_) | (refine ix_rfl (by decide) rfl ?_) | (refine sd_mk rfl ?_) | (refine sd_mk (by decide +kernel) ?_) | (refine sd_mk (by first | (simp only [List.length_map, List.length_append, List.length_cons, List.length_nil]; done) | ((try simp only [List.length_map, List.length_append, List.length_cons, List.length_nil, List.length_set, List.length_replicate, List.length_drop, List.length_take, true_and, and_true]); omega) | (dsimp only; omega)) ?_) | (first | refine shl8 (by omega) (by omega) ?_ | refine shl4 (by omega) (by omega) ?_ | refine shl1 (by omega) (by omega) ?_ | refine shl16 (by omega) (by omega) ?_ | refine shl24 (by omega) (by omega) ?_ | refine shr8 (by decide) ?_ | refine shr4 (by decide) ?_ | refine shr1 (by decide) ?_ | refine shr16 (by decide) ?_ | refine shr24 (by decide) ?_) | (with_reducible first | refine bit_mk and_1 ?_ | refine bit_mk and_15 ?_ | refine bit_mk and_255 ?_ | refine bit_mk and_4095 ?_ | refine bit_mk and_65535 ?_) | (refine quo_pos (by omega) (by omega) (by omega) ?_) | (refine rem_pos (by omega) (by omega) ?_)))
  · exact end_p (VS.mk (LeD.ff (sameO_no (fun h => hc (congrArg OObj.code h)))))
  · exact end_p (VS.mk (LeD.ff (sameO_no (fun h => hc (by subst h; rfl)))))
  · exact end_p (VS.mk (LeD.ff (sameO_no (fun h => hc (by subst h; rfl)))))
  rename_i hcode hsl
  have hrl : (a.rels.length : Int) = b.rels.length := hc
  have hsl' : a.syms.length = b.syms.length := by omega
  have hrl' : a.rels.length = b.rels.length := by omega
  refine awp_loop (α := Nat) (fun k => k ≤ a.syms.length ∧ a.syms.take k = b.syms.take k)
    (fun k => [(34, .int .i64 a.syms.length), (35, .int .i64 k), (2, .loc 0 0), (3, .loc 1 0)])
    (fun _ => [.cells [bytesD a.code, .sl 2 (a.syms.map symD) none, .sl 4 (a.rels.map relD) none], .cells [bytesD b.code, .sl 2 (b.syms.map symD) none, .sl 4 (b.rels.map relD) none]]) (fun k => a.syms.length - k) (fun _ => by simp [hE]) 0 ⟨Nat.zero_le _, by simp⟩ ?_ ?_
  · (repeat' (first | (refine VS.mk ?_) | exact trivial | exact rfl | refine And.intro ?_ ?_))
  rintro k ⟨hk, hst⟩
  refine vcOk _ ?_
  (repeat' (first | (refine VS.mk ?_) | (refine dr_mk ?_) | (refine md_l ?_) | ((first | refine sp_not_dec ?_ ?_ | refine sp_dec ?_ ?_ | refine sp_beq ?_ ?_ | refine sp_bne ?_ ?_ | refine sp_seq ?_ ?_ | refine sp_sne ?_ ?_ | refine sp_not ?_ ?_ | refine sp_any ?_ ?_) <;> (intro hc; try simp only [List.length_map, List.length_append, List.length_cons, List.length_nil, Bool.and_true, Bool.and_eq_true, beq_iff_eq, Bool.and_eq_false_iff, beq_eq_false_iff_ne, Bool.true_and, ne_eq] at hc)) | (with_reducible first | refine norm_one ?_ | refine norm_app ?_ | refine norm_cutEnd ?_ | refine norm_cut ?_ | refine norm_bytes1 ?_ | refine norm_bytes2 ?_ | refine norm_setByte ?_ | refine norm_int1 ?_ | refine norm_mk ?_) | (with_reducible refine bytes_mk ?_) | (refine ar_byte ?_) | (refine ar_i64 (by omega) (by omega) ?_) | (refine ar_low ?_) | (refine ix_byteN (by omega) ?_) | (refine ix_byteK (by simp only [Int.reduceToNat]; exact rfl) (by decide) (by omega) ?_) | (refine ix_byte (by omega) (by omega) ?_) | (refine ix_rfl (by decide) rfl ?_) | (refine sd_mk rfl ?_) | (refine sd_mk (by decide +kernel) ?_) | (refine sd_mk (by first | (simp only [List.length_map, List.length_append, List.length_cons, List.length_nil]; done) | ((try simp only [List.length_map, List.length_append, List.length_cons, List.length_nil, List.length_set, List.length_replicate, List.length_drop, List.length_take, true_and, and_true]); omega) | (dsimp only; omega)) ?_) | (first | refine shl8 (by omega) (by omega) ?_ | refine shl4 (by omega) (by omega) ?_ | refine shl1 (by omega) (by omega) ?_ | refine shl16 (by omega) (by omega) ?_ | refine shl24 (by omega) (by omega) ?_ | refine shr8 (by decide) ?_ | refine shr4 (by decide) ?_ | refine shr1 (by decide) ?_ | refine shr16 (by decide) ?_ | refine shr24 (by decide) ?_) | (with_reducible first | refine bit_mk and_1 ?_ | refine bit_mk and_15 ?_ | refine bit_mk and_255 ?_ | refine bit_mk and_4095 ?_ | refine bit_mk and_65535 ?_) | (refine quo_pos (by omega) (by omega) (by omega) ?_) | (refine rem_pos (by omega) (by omega) ?_)))
  · obtain ⟨s, hsk⟩ := at_of_lt (l := a.syms) (k := k) (by omega)
    obtain ⟨t, htk⟩ := at_of_lt (l := b.syms) (k := k) (by omega)
    refine ix_map s (by omega) (by simpa using hsk) ?_
    (repeat' (first | (refine VS.mk ?_) | (refine dr_mk ?_) | (refine md_l ?_) | ((first | refine sp_not_dec ?_ ?_ | refine sp_dec ?_ ?_ | refine sp_beq ?_ ?_ | refine sp_bne ?_ ?_ | refine sp_seq ?_ ?_ | refine sp_sne ?_ ?_ | refine sp_not ?_ ?_ | refine sp_any ?_ ?_) <;> (intro hc; try simp only [List.length_map, List.length_append, List.length_cons, List.length_nil, Bool.and_true, Bool.and_eq_true, beq_iff_eq, Bool.and_eq_false_iff, beq_eq_false_iff_ne, Bool.true_and, ne_eq] at hc)) | (with_reducible first | refine norm_one ?_ | refine norm_app ?_ | refine norm_cutEnd ?_ | refine norm_cut ?_ | refine norm_bytes1 ?_ | refine norm_bytes2 ?_ | refine norm_setByte ?_ | refine norm_int1 ?_ | refine norm_mk ?_) | (with_reducible refine bytes_mk ?_) | (refine ar_byte ?_) | (refine ar_i64 (by omega) (by omega) ?_) | (refine ar_low ?_) | (refine ix_byteN (by omega) ?_) | (refine ix_byteK (by simp only [Int.reduceToNat]; exact rfl) (by decide) (by omega) ?_) | (refine ix_byte (by omega) (by omega) ?_) | (refine ix_rfl (by decide) rfl ?_) | (refine sd_mk rfl ?_) | (refine sd_mk (by decide +kernel) ?_) | (refine sd_mk (by first | (simp only [List.length_map, List.length_append, List.length_cons, List.length_nil]; done) | ((try simp only [List.length_map, List.length_append, List.length_cons, List.length_nil, List.length_set, List.length_replicate, List.length_drop, List.length_take, true_and, and_true]); omega) | (dsimp only; omega)) ?_) | (first | refine shl8 (by omega) (by omega) ?_ | refine shl4 (by omega) (by omega) ?_ | refine shl1 (by omega) (by omega) ?_ | refine shl16 (by omega) (by omega) ?_ | refine shl24 (by omega) (by omega) ?_ | refine shr8 (by decide) ?_ | refine shr4 (by decide) ?_ | refine shr1 (by decide) ?_ | refine shr16 (by decide) ?_ | refine shr24 (by decide) ?_) | (with_reducible first | refine bit_mk and_1 ?_ | refine bit_mk and_15 ?_ | refine bit_mk and_255 ?_ | refine bit_mk and_4095 ?_ | refine bit_mk and_65535 ?_) | (refine quo_pos (by omega) (by omega) (by omega) ?_) | (refine rem_pos (by omega) (by omega) ?_)))
    refine ix_map t (by omega) (by simpa using htk) ?_
    (repeat' (first | (refine VS.mk ?_) | (refine dr_mk ?_) | (refine md_l ?_) | ((first | refine sp_not_dec ?_ ?_ | refine sp_dec ?_ ?_ | refine sp_beq ?_ ?_ | refine sp_bne ?_ ?_ | refine sp_seq ?_ ?_ | refine sp_sne ?_ ?_ | refine sp_not ?_ ?_ | refine sp_any ?_ ?_) <;> (intro hc; try simp only [List.length_map, List.length_append, List.length_cons, List.length_nil, Bool.and_true, Bool.and_eq_true, beq_iff_eq, Bool.and_eq_false_iff, beq_eq_false_iff_ne, Bool.true_and, ne_eq] at hc)) | (with_reducible first | refine norm_one ?_ | refine norm_app ?_ | refine norm_cutEnd ?_ | refine norm_cut ?_ | refine norm_bytes1 ?_ | refine norm_bytes2 ?_ | refine norm_setByte ?_ | refine norm_int1 ?_ | refine norm_mk ?_) | (with_reducible refine bytes_mk ?_) | (refine ar_byte ?_) | (refine ar_i64 (by omega) (by omega) ?_) | (refine ar_low ?_) | (refine ix_byteN (by omega) ?_) | (refine ix_byteK (by simp only [Int.reduceToNat]; exact rfl) (by decide) (by omega) ?_) | (refine ix_byte (by omega) (by omega) ?_) | (refine ix_rfl (by decide) rfl ?_) | (refine sd_mk rfl ?_) | (refine sd_mk (by decide +kernel) ?_) | (refine sd_mk (by first | (simp only [List.length_map, List.length_append, List.length_cons, List.length_nil]; done) | ((try simp only [List.length_map, List.length_append, List.length_cons, List.length_nil, List.length_set, List.length_replicate, List.length_drop, List.length_take, true_and, and_true]); omega) | (dsimp only; omega)) ?_) | (first | refine shl8 (by omega) (by omega) ?_ | refine shl4 (by omega) (by omega) ?_ | refine shl1 (by omega) (by omega) ?_ | refine shl16 (by omega) (by omega) ?_ | refine shl24 (by omega) (by omega) ?_ | refine shr8 (by decide) ?_ | refine shr4 (by decide) ?_ | refine shr1 (by decide) ?_ | refine shr16 (by decide) ?_ | refine shr24 (by decide) ?_) | (with_reducible first | refine bit_mk and_1 ?_ | refine bit_mk and_15 ?_ | refine bit_mk and_255 ?_ | refine bit_mk and_4095 ?_ | refine bit_mk and_65535 ?_) | (refine quo_pos (by omega) (by omega) (by omega) ?_) | (refine rem_pos (by omega) (by omega) ?_)))
    refine eqS_flat [.str, .int .i64] (by kernel_rfl) rfl ?_
    (repeat' (first | (refine VS.mk ?_) | (refine dr_mk ?_) | (refine md_l ?_) | ((first | refine sp_not_dec ?_ ?_ | refine sp_dec ?_ ?_ | refine sp_beq ?_ ?_ | refine sp_bne ?_ ?_ | refine sp_seq ?_ ?_ | refine sp_sne ?_ ?_ | refine sp_not ?_ ?_ | refine sp_any ?_ ?_) <;> (intro hc; try simp only [List.length_map, List.length_append, List.length_cons, List.length_nil, Bool.and_true, Bool.and_eq_true, beq_iff_eq, Bool.and_eq_false_iff, beq_eq_false_iff_ne, Bool.true_and, ne_eq] at hc)) | (with_reducible first | refine norm_one ?_ | refine norm_app ?_ | refine norm_cutEnd ?_ | refine norm_cut ?_ | refine norm_bytes1 ?_ | refine norm_bytes2 ?_ | refine norm_setByte ?_ | refine norm_int1 ?_ | refine norm_mk ?_) | (with_reducible refine bytes_mk ?_) | (refine ar_byte ?_) | (refine ar_i64 (by omega) (by omega) ?_) | (refine ar_low ?_) | (refine ix_byteN (by omega) ?_) | (refine ix_byteK (by simp only [Int.reduceToNat]; exact rfl) (by decide) (by omega) ?_) | (refine ix_byte (by omega) (by omega) ?_) | (refine ix_rfl (by decide) rfl ?_) | (refine sd_mk rfl ?_) | (refine sd_mk (by decide +kernel) ?_) | (refine sd_mk (by first | (simp only [List.length_map, List.length_append, List.length_cons, List.length_nil]; done) | ((try simp only [List.length_map, List.length_append, List.length_cons, List.length_nil, List.length_set, List.length_replicate, List.length_drop, List.length_take, true_and, and_true]); omega) | (dsimp only; omega)) ?_) | (first | refine shl8 (by omega) (by omega) ?_ | refine shl4 (by omega) (by omega) ?_ | refine shl1 (by omega) (by omega) ?_ | refine shl16 (by omega) (by omega) ?_ | refine shl24 (by omega) (by omega) ?_ | refine shr8 (by decide) ?_ | refine shr4 (by decide) ?_ | refine shr1 (by decide) ?_ | refine shr16 (by decide) ?_ | refine shr24 (by decide) ?_) | (with_reducible first | refine bit_mk and_1 ?_ | refine bit_mk and_15 ?_ | refine bit_mk and_255 ?_ | refine bit_mk and_4095 ?_ | refine bit_mk and_65535 ?_) | (refine quo_pos (by omega) (by omega) (by omega) ?_) | (refine rem_pos (by omega) (by omega) ?_)))
    · refine end_p (VS.mk (LeD.ff (sameO_no fun h => ?_)))
      subst h
      rw [hsk] at htk
      obtain rfl := Option.some.inj htk
      simp at hc
    · have hs : s = t := by cases s; cases t; simp_all
      subst hs
      refine loop_end (k + 1) ⟨by omega, take_step hst hsk htk⟩ (by omega) ?_
      (repeat' (first | (refine VS.mk ?_) | exact trivial | exact rfl | refine And.intro ?_ ?_))
  obtain rfl : k = a.syms.length := by omega
  have hsyms : a.syms = b.syms := by rw [List.take_length, hsl', List.take_length] at hst; exact hst
  refine awp_loop (α := Nat) (fun k => k ≤ a.rels.length ∧ a.rels.take k = b.rels.take k)
    (fun k => [(52, .int .i64 a.rels.length), (53, .int .i64 k), (2, .loc 0 0), (3, .loc 1 0)])
    (fun _ => [.cells [bytesD a.code, .sl 2 (a.syms.map symD) none, .sl 4 (a.rels.map relD) none], .cells [bytesD b.code, .sl 2 (b.syms.map symD) none, .sl 4 (b.rels.map relD) none]]) (fun k => a.rels.length - k) (fun _ => by simp [hE]) 0 ⟨Nat.zero_le _, by simp⟩ ?_ ?_
  · (repeat' (first | (refine VS.mk ?_) | exact trivial | exact rfl | refine And.intro ?_ ?_))
  rintro k ⟨hk, hst⟩
  refine vcOk _ ?_
  (repeat' (first | (refine VS.mk ?_) | (refine dr_mk ?_) | (refine md_l ?_) | ((first | refine sp_not_dec ?_ ?_ | refine sp_dec ?_ ?_ | refine sp_beq ?_ ?_ | refine sp_bne ?_ ?_ | refine sp_seq ?_ ?_ | refine sp_sne ?_ ?_ | refine sp_not ?_ ?_ | refine sp_any ?_ ?_) <;> (intro hc; try simp only [List.length_map, List.length_append, List.length_cons, List.length_nil, Bool.and_true, Bool.and_eq_true, beq_iff_eq, Bool.and_eq_false_iff, beq_eq_false_iff_ne, Bool.true_and, ne_eq] at hc)) | (with_reducible first | refine norm_one ?_ | refine norm_app ?_ | refine norm_cutEnd ?_ | refine norm_cut ?_ | refine norm_bytes1 ?_ | refine norm_bytes2 ?_ | refine norm_setByte ?_ | refine norm_int1 ?_ | refine norm_mk ?_) | (with_reducible refine bytes_mk ?_) | (refine ar_byte ?_) | (refine ar_i64 (by omega) (by omega) ?_) | (refine ar_low ?_) | (refine ix_byteN (by omega) ?_) | (refine ix_byteK (by simp only [Int.reduceToNat]; exact rfl) (by decide) (by omega) ?_) | (refine ix_byte (by omega) (by omega) ?_) | (refine ix_rfl (by decide) rfl ?_) | (refine sd_mk rfl ?_) | (refine sd_mk (by decide +kernel) ?_) | (refine sd_mk (by first | (simp only [List.length_map, List.length_append, List.length_cons, List.length_nil]; done) | ((try simp only [List.length_map, List.length_append, List.length_cons, List.length_nil, List.length_set, List.length_replicate, List.length_drop, List.length_take, true_and, and_true]); omega) | (dsimp only; omega)) ?_) | (first | refine shl8 (by omega) (by omega) ?_ | refine shl4 (by omega) (by omega) ?_ | refine shl1 (by omega) (by omega) ?_ | refine shl16 (by omega) (by omega) ?_ | refine shl24 (by omega) (by omega) ?_ | refine shr8 (by decide) ?_ | refine shr4 (by decide) ?_ | refine shr1 (by decide) ?_ | refine shr16 (by decide) ?_ | refine shr24 (by decide) ?_) | (with_reducible first | refine bit_mk and_1 ?_ | refine bit_mk and_15 ?_ | refine bit_mk and_255 ?_ | refine bit_mk and_4095 ?_ | refine bit_mk and_65535 ?_) | (refine quo_pos (by omega) (by omega) (by omega) ?_) | (refine rem_pos (by omega) (by omega) ?_)))
  · obtain ⟨s, hsk⟩ := at_of_lt (l := a.rels) (k := k) (by omega)
    obtain ⟨t, htk⟩ := at_of_lt (l := b.rels) (k := k) (by omega)
    refine ix_map s (by omega) (by simpa using hsk) ?_
    (repeat' (first | (refine VS.mk ?_) | (refine dr_mk ?_) | (refine md_l ?_) | ((first | refine sp_not_dec ?_ ?_ | refine sp_dec ?_ ?_ | refine sp_beq ?_ ?_ | refine sp_bne ?_ ?_ | refine sp_seq ?_ ?_ | refine sp_sne ?_ ?_ | refine sp_not ?_ ?_ | refine sp_any ?_ ?_) <;> (intro hc; try simp only [List.length_map, List.length_append, List.length_cons, List.length_nil, Bool.and_true, Bool.and_eq_true, beq_iff_eq, Bool.and_eq_false_iff, beq_eq_false_iff_ne, Bool.true_and, ne_eq] at hc)) | (with_reducible first | refine norm_one ?_ | refine norm_app ?_ | refine norm_cutEnd ?_ | refine norm_cut ?_ | refine norm_bytes1 ?_ | refine norm_bytes2 ?_ | refine norm_setByte ?_ | refine norm_int1 ?_ | refine norm_mk ?_) | (with_reducible refine bytes_mk ?_) | (refine ar_byte ?_) | (refine ar_i64 (by omega) (by omega) ?_) | (refine ar_low ?_) | (refine ix_byteN (by omega) ?_) | (refine ix_byteK (by simp only [Int.reduceToNat]; exact rfl) (by decide) (by omega) ?_) | (refine ix_byte (by omega) (by omega) ?_) | (refine ix_rfl (by decide) rfl ?_) | (refine sd_mk rfl ?_) | (refine sd_mk (by decide +kernel) ?_) | (refine sd_mk (by first | (simp only [List.length_map, List.length_append, List.length_cons, List.length_nil]; done) | ((try simp only [List.length_map, List.length_append, List.length_cons, List.length_nil, List.length_set, List.length_replicate, List.length_drop, List.length_take, true_and, and_true]); omega) | (dsimp only; omega)) ?_) | (first | refine shl8 (by omega) (by omega) ?_ | refine shl4 (by omega) (by omega) ?_ | refine shl1 (by omega) (by omega) ?_ | refine shl16 (by omega) (by omega) ?_ | refine shl24 (by omega) (by omega) ?_ | refine shr8 (by decide) ?_ | refine shr4 (by decide) ?_ | refine shr1 (by decide) ?_ | refine shr16 (by decide) ?_ | refine shr24 (by decide) ?_) | (with_reducible first | refine bit_mk and_1 ?_ | refine bit_mk and_15 ?_ | refine bit_mk and_255 ?_ | refine bit_mk and_4095 ?_ | refine bit_mk and_65535 ?_) | (refine quo_pos (by omega) (by omega) (by omega) ?_) | (refine rem_pos (by omega) (by omega) ?_)))
    refine ix_map t (by omega) (by simpa using htk) ?_
    (repeat' (first | (refine VS.mk ?_) | (refine dr_mk ?_) | (refine md_l ?_) | ((first | refine sp_not_dec ?_ ?_ | refine sp_dec ?_ ?_ | refine sp_beq ?_ ?_ | refine sp_bne ?_ ?_ | refine sp_seq ?_ ?_ | refine sp_sne ?_ ?_ | refine sp_not ?_ ?_ | refine sp_any ?_ ?_) <;> (intro hc; try simp only [List.length_map, List.length_append, List.length_cons, List.length_nil, Bool.and_true, Bool.and_eq_true, beq_iff_eq, Bool.and_eq_false_iff, beq_eq_false_iff_ne, Bool.true_and, ne_eq] at hc)) | (with_reducible first | refine norm_one ?_ | refine norm_app ?_ | refine norm_cutEnd ?_ | refine norm_cut ?_ | refine norm_bytes1 ?_ | refine norm_bytes2 ?_ | refine norm_setByte ?_ | refine norm_int1 ?_ | refine norm_mk ?_) | (with_reducible refine bytes_mk ?_) | (refine ar_byte ?_) | (refine ar_i64 (by omega) (by omega) ?_) | (refine ar_low ?_) | (refine ix_byteN (by omega) ?_) | (refine ix_byteK (by simp only [Int.reduceToNat]; exact rfl) (by decide) (by omega) ?_) | (refine ix_byte (by omega) (by omega) ?_) | (refine ix_rfl (by decide) rfl ?_) | (refine sd_mk rfl ?_) | (refine sd_mk (by decide +kernel) ?_) | (refine sd_mk (by first | (simp only [List.length_map, List.length_append, List.length_cons, List.length_nil]; done) | ((try simp only [List.length_map, List.length_append, List.length_cons, List.length_nil, List.length_set, List.length_replicate, List.length_drop, List.length_take, true_and, and_true]); omega) | (dsimp only; omega)) ?_) | (first | refine shl8 (by omega) (by omega) ?_ | refine shl4 (by omega) (by omega) ?_ | refine shl1 (by omega) (by omega) ?_ | refine shl16 (by omega) (by omega) ?_ | refine shl24 (by omega) (by omega) ?_ | refine shr8 (by decide) ?_ | refine shr4 (by decide) ?_ | refine shr1 (by decide) ?_ | refine shr16 (by decide) ?_ | refine shr24 (by decide) ?_) | (with_reducible first | refine bit_mk and_1 ?_ | refine bit_mk and_15 ?_ | refine bit_mk and_255 ?_ | refine bit_mk and_4095 ?_ | refine bit_mk and_65535 ?_) | (refine quo_pos (by omega) (by omega) (by omega) ?_) | (refine rem_pos (by omega) (by omega) ?_)))
    refine eqS_flat [.int .i64, .int .i64, .str, .int .i64] (by kernel_rfl) rfl ?_
    (repeat' (first | (refine VS.mk ?_) | (refine dr_mk ?_) | (refine md_l ?_) | ((first | refine sp_not_dec ?_ ?_ | refine sp_dec ?_ ?_ | refine sp_beq ?_ ?_ | refine sp_bne ?_ ?_ | refine sp_seq ?_ ?_ | refine sp_sne ?_ ?_ | refine sp_not ?_ ?_ | refine sp_any ?_ ?_) <;> (intro hc; try simp only [List.length_map, List.length_append, List.length_cons, List.length_nil, Bool.and_true, Bool.and_eq_true, beq_iff_eq, Bool.and_eq_false_iff, beq_eq_false_iff_ne, Bool.true_and, ne_eq] at hc)) | (with_reducible first | refine norm_one ?_ | refine norm_app ?_ | refine norm_cutEnd ?_ | refine norm_cut ?_ | refine norm_bytes1 ?_ | refine norm_bytes2 ?_ | refine norm_setByte ?_ | refine norm_int1 ?_ | refine norm_mk ?_) | (with_reducible refine bytes_mk ?_) | (refine ar_byte ?_) | (refine ar_i64 (by omega) (by omega) ?_) | (refine ar_low ?_) | (refine ix_byteN (by omega) ?_) | (refine ix_byteK (by simp only [Int.reduceToNat]; exact rfl) (by decide) (by omega) ?_) | (refine ix_byte (by omega) (by omega) ?_) | (refine ix_rfl (by decide) rfl ?_) | (refine sd_mk rfl ?_) | (refine sd_mk (by decide +kernel) ?_) | (refine sd_mk (by first | (simp only [List.length_map, List.length_append, List.length_cons, List.length_nil]; done) | ((try simp only [List.length_map, List.length_append, List.length_cons, List.length_nil, List.length_set, List.length_replicate, List.length_drop, List.length_take, true_and, and_true]); omega) | (dsimp only; omega)) ?_) | (first | refine shl8 (by omega) (by omega) ?_ | refine shl4 (by omega) (by omega) ?_ | refine shl1 (by omega) (by omega) ?_ | refine shl16 (by omega) (by omega) ?_ | refine shl24 (by omega) (by omega) ?_ | refine shr8 (by decide) ?_ | refine shr4 (by decide) ?_ | refine shr1 (by decide) ?_ | refine shr16 (by decide) ?_ | refine shr24 (by decide) ?_) | (with_reducible first | refine bit_mk and_1 ?_ | refine bit_mk and_15 ?_ | refine bit_mk and_255 ?_ | refine bit_mk and_4095 ?_ | refine bit_mk and_65535 ?_) | (refine quo_pos (by omega) (by omega) (by omega) ?_) | (refine rem_pos (by omega) (by omega) ?_)))
    · refine end_p (VS.mk (LeD.ff (sameO_no fun h => ?_)))
      subst h
      rw [hsk] at htk
      obtain rfl := Option.some.inj htk
      simp at hc
    · have hs : s = t := by cases s; cases t; simp_all
      subst hs
      refine loop_end (k + 1) ⟨by omega, take_step hst hsk htk⟩ (by omega) ?_
      (repeat' (first | (refine VS.mk ?_) | exact trivial | exact rfl | refine And.intro ?_ ?_))
  · obtain rfl : k = a.rels.length := by omega
    have hrels : a.rels = b.rels := by rw [List.take_length, hrl', List.take_length] at hst; exact hst
    exact end_p (VS.mk (LeD.tt (sameO_yes (by cases a; cases b; simp_all))))
end Go.Proofs.Ytmeigmpjpkinoaa

namespace Go.Proofs.Ytmeigmpjpkinoaa
open Go Go.Plat
set_option linter.unusedVariables false
set_option linter.unusedSimpArgs false
set_option maxRecDepth 100000
set_option maxHeartbeats 2000000
attribute [local irreducible] NilS LookS NormM bitI BytesS NormL Arith QuoS RemS ShlS ShrS BitS CatS SplitS SideS IdxS CallS LoopEnd EndS ModeS DrawS AWP Meets
attribute [local irreducible] signedI letterB digitB nameB wrongO loopS loopR readO

theorem own_meets : Meets Try.prog n_obj_Own (SpecP (fun o : OObj => o.code.length ≤ 100000000 ∧ o.syms.length ≤ 100000000 ∧ o.rels.length ≤ 100000000) (fun o => [objD o]) fun o => objD o) := by
  refine meets_f tabOk Try.func16 rfl (by decide) ?_
  rintro o ⟨h1, h2, h3⟩
  refine ⟨Nat.le_refl _, by simp [Try.f16], fun E hE => ?_⟩
  refine vcOk _ ?_
  (repeat' (first | (refine VS.mk ?_) | (refine dr_mk ?_) | (refine md_l ?_) | ((first | refine sp_not_dec ?_ ?_ | refine sp_dec ?_ ?_ | refine sp_beq ?_ ?_ | refine sp_bne ?_ ?_ | refine sp_seq ?_ ?_ | refine sp_sne ?_ ?_ | refine sp_not ?_ ?_ | refine sp_any ?_ ?_) <;> (intro hc; try simp only [List.length_map, List.length_append, List.length_cons, List.length_nil, Bool.and_true, Bool.and_eq_true, beq_iff_eq, Bool.and_eq_false_iff, beq_eq_false_iff_ne, Bool.true_and, ne_eq] at hc)) | (with_reducible first | refine norm_one ?_ | refine norm_app ?_ | refine norm_cutEnd ?_ | refine norm_cut ?_ | refine norm_bytes1 ?_ | refine norm_bytes2 ?_ | refine norm_setByte ?_ | refine norm_int1 ?_ | refine norm_mk ?_) | (with_reducible refine bytes_mk ?_) | (refine ar_byte ?_) | (refine ar_i64 (by omega) (by omega) ?_) | (refine ar_low ?_) | (refine ix_byteN (by omega) ?_) | (refine ix_byteK (by simp only [Int.reduceToNat]; exact rfl) (by decide) (by omega) ?_) | (refine ix_byte (by omega) (by omega) ?_) | (refine ix_rfl (by decide) rfl ?_) | (refine sd_mk rfl ?_) | (refine sd_mk (by decide +kernel) ?_) | (refine sd_mk (by first | (simp only [List.length_map, List.length_append, List.length_cons, List.length_nil]; done) | ((try simp only [List.length_map, List.length_append, List.length_cons, List.length_nil, List.length_set, List.length_replicate, List.length_drop, List.length_take, true_and, and_true]); omega) | (dsimp only; omega)) ?_) | (first | refine shl8 (by omega) (by omega) ?_ | refine shl4 (by omega) (by omega) ?_ | refine shl1 (by omega) (by omega) ?_ | refine shl16 (by omega) (by omega) ?_ | refine shl24 (by omega) (by omega) ?_ | refine shr8 (by decide) ?_ | refine shr4 (by decide) ?_ | refine shr1 (by decide) ?_ | refine shr16 (by decide) ?_ | refine shr24 (by decide) ?_) | (with_reducible first | refine bit_mk and_1 ?_ | refine bit_mk and_15 ?_ | refine bit_mk and_255 ?_ | refine bit_mk and_4095 ?_ | refine bit_mk and_65535 ?_) | (refine quo_pos (by omega) (by omega) (by omega) ?_) | (refine rem_pos (by omega) (by omega) ?_)))
  refine call_p cloneB_meets (o.code.map byteD) ⟨by simpa using h1, fun i d hd => ?_⟩ (VS.mk (LeL.of_eq rfl)) ?_
  · obtain ⟨c, _, rfl⟩ := List.mem_map.1 (List.mem_of_getElem? hd); rfl
  (repeat' (first | (refine VS.mk ?_) | (refine dr_mk ?_) | (refine md_l ?_) | ((first | refine sp_not_dec ?_ ?_ | refine sp_dec ?_ ?_ | refine sp_beq ?_ ?_ | refine sp_bne ?_ ?_ | refine sp_seq ?_ ?_ | refine sp_sne ?_ ?_ | refine sp_not ?_ ?_ | refine sp_any ?_ ?_) <;> (intro hc; try simp only [List.length_map, List.length_append, List.length_cons, List.length_nil, Bool.and_true, Bool.and_eq_true, beq_iff_eq, Bool.and_eq_false_iff, beq_eq_false_iff_ne, Bool.true_and, ne_eq] at hc)) | (with_reducible first | refine norm_one ?_ | refine norm_app ?_ | refine norm_cutEnd ?_ | refine norm_cut ?_ | refine norm_bytes1 ?_ | refine norm_bytes2 ?_ | refine norm_setByte ?_ | refine norm_int1 ?_ | refine norm_mk ?_) | (with_reducible refine bytes_mk ?_) | (refine ar_byte ?_) | (refine ar_i64 (by omega) (by omega) ?_) | (refine ar_low ?_) | (refine ix_byteN (by omega) ?_) | (refine ix_byteK (by simp only [Int.reduceToNat]; exact rfl) (by decide) (by omega) ?_) | (refine ix_byte (by omega) (by omega) ?_) | (refine ix_rfl (by decide) rfl ?_) | (refine sd_mk rfl ?_) | (refine sd_mk (by decide +kernel) ?_) | (refine sd_mk (by first | (simp only [List.length_map, List.length_append, List.length_cons, List.length_nil]; done) | ((try simp only [List.length_map, List.length_append, List.length_cons, List.length_nil, List.length_set, List.length_replicate, List.length_drop, List.length_take, true_and, and_true]); omega) | (dsimp only; omega)) ?_) | (first | refine shl8 (by omega) (by omega) ?_ | refine shl4 (by omega) (by omega) ?_ | refine shl1 (by omega) (by omega) ?_ | refine shl16 (by omega) (by omega) ?_ | refine shl24 (by omega) (by omega) ?_ | refine shr8 (by decide) ?_ | refine shr4 (by decide) ?_ | refine shr1 (by decide) ?_ | refine shr16 (by decide) ?_ | refine shr24 (by decide) ?_) | (with_reducible first | refine bit_mk and_1 ?_ | refine bit_mk and_15 ?_ | refine bit_mk and_255 ?_ | refine bit_mk and_4095 ?_ | refine bit_mk and_65535 ?_) | (refine quo_pos (by omega) (by omega) (by omega) ?_) | (refine rem_pos (by omega) (by omega) ?_)))
  refine call_p cloneS_meets (o.syms.map symD) ⟨by simpa using h2, fun i d hd => ?_⟩ (VS.mk (LeL.of_eq rfl)) ?_
  · obtain ⟨c, _, rfl⟩ := List.mem_map.1 (List.mem_of_getElem? hd); rfl
  (repeat' (first | (refine VS.mk ?_) | (refine dr_mk ?_) | (refine md_l ?_) | ((first | refine sp_not_dec ?_ ?_ | refine sp_dec ?_ ?_ | refine sp_beq ?_ ?_ | refine sp_bne ?_ ?_ | refine sp_seq ?_ ?_ | refine sp_sne ?_ ?_ | refine sp_not ?_ ?_ | refine sp_any ?_ ?_) <;> (intro hc; try simp only [List.length_map, List.length_append, List.length_cons, List.length_nil, Bool.and_true, Bool.and_eq_true, beq_iff_eq, Bool.and_eq_false_iff, beq_eq_false_iff_ne, Bool.true_and, ne_eq] at hc)) | (with_reducible first | refine norm_one ?_ | refine norm_app ?_ | refine norm_cutEnd ?_ | refine norm_cut ?_ | refine norm_bytes1 ?_ | refine norm_bytes2 ?_ | refine norm_setByte ?_ | refine norm_int1 ?_ | refine norm_mk ?_) | (with_reducible refine bytes_mk ?_) | (refine ar_byte ?_) | (refine ar_i64 (by omega) (by omega) ?_) | (refine ar_low ?_) | (refine ix_byteN (by omega) ?_) | (refine ix_byteK (by simp only [Int.reduceToNat]; exact rfl) (by decide) (by omega) ?_) | (refine ix_byte (by omega) (by omega) ?_) | (refine ix_rfl (by decide) rfl ?_) | (refine sd_mk rfl ?_) | (refine sd_mk (by decide +kernel) ?_) | (refine sd_mk (by first | (simp only [List.length_map, List.length_append, List.length_cons, List.length_nil]; done) | ((try simp only [List.length_map, List.length_append, List.length_cons, List.length_nil, List.length_set, List.length_replicate, List.length_drop, List.length_take, true_and, and_true]); omega) | (dsimp only; omega)) ?_) | (first | refine shl8 (by omega) (by omega) ?_ | refine shl4 (by omega) (by omega) ?_ | refine shl1 (by omega) (by omega) ?_ | refine shl16 (by omega) (by omega) ?_ | refine shl24 (by omega) (by omega) ?_ | refine shr8 (by decide) ?_ | refine shr4 (by decide) ?_ | refine shr1 (by decide) ?_ | refine shr16 (by decide) ?_ | refine shr24 (by decide) ?_) | (with_reducible first | refine bit_mk and_1 ?_ | refine bit_mk and_15 ?_ | refine bit_mk and_255 ?_ | refine bit_mk and_4095 ?_ | refine bit_mk and_65535 ?_) | (refine quo_pos (by omega) (by omega) (by omega) ?_) | (refine rem_pos (by omega) (by omega) ?_)))
  refine call_p cloneR_meets (o.rels.map relD) ⟨by simpa using h3, fun i d hd => ?_⟩ (VS.mk (LeL.of_eq rfl)) ?_
  · obtain ⟨c, _, rfl⟩ := List.mem_map.1 (List.mem_of_getElem? hd); rfl
  (repeat' (first | (refine VS.mk ?_) | (refine dr_mk ?_) | (refine md_l ?_) | ((first | refine sp_not_dec ?_ ?_ | refine sp_dec ?_ ?_ | refine sp_beq ?_ ?_ | refine sp_bne ?_ ?_ | refine sp_seq ?_ ?_ | refine sp_sne ?_ ?_ | refine sp_not ?_ ?_ | refine sp_any ?_ ?_) <;> (intro hc; try simp only [List.length_map, List.length_append, List.length_cons, List.length_nil, Bool.and_true, Bool.and_eq_true, beq_iff_eq, Bool.and_eq_false_iff, beq_eq_false_iff_ne, Bool.true_and, ne_eq] at hc)) | (with_reducible first | refine norm_one ?_ | refine norm_app ?_ | refine norm_cutEnd ?_ | refine norm_cut ?_ | refine norm_bytes1 ?_ | refine norm_bytes2 ?_ | refine norm_setByte ?_ | refine norm_int1 ?_ | refine norm_mk ?_) | (with_reducible refine bytes_mk ?_) | (refine ar_byte ?_) | (refine ar_i64 (by omega) (by omega) ?_) | (refine ar_low ?_) | (refine ix_byteN (by omega) ?_) | (refine ix_byteK (by simp only [Int.reduceToNat]; exact rfl) (by decide) (by omega) ?_) | (refine ix_byte (by omega) (by omega) ?_) | (refine ix_rfl (by decide) rfl ?_) | (refine sd_mk rfl ?_) | (refine sd_mk (by decide +kernel) ?_) | (refine sd_mk (by first | (simp only [List.length_map, List.length_append, List.length_cons, List.length_nil]; done) | ((try simp only [List.length_map, List.length_append, List.length_cons, List.length_nil, List.length_set, List.length_replicate, List.length_drop, List.length_take, true_and, and_true]); omega) | (dsimp only; omega)) ?_) | (first | refine shl8 (by omega) (by omega) ?_ | refine shl4 (by omega) (by omega) ?_ | refine shl1 (by omega) (by omega) ?_ | refine shl16 (by omega) (by omega) ?_ | refine shl24 (by omega) (by omega) ?_ | refine shr8 (by decide) ?_ | refine shr4 (by decide) ?_ | refine shr1 (by decide) ?_ | refine shr16 (by decide) ?_ | refine shr24 (by decide) ?_) | (with_reducible first | refine bit_mk and_1 ?_ | refine bit_mk and_15 ?_ | refine bit_mk and_255 ?_ | refine bit_mk and_4095 ?_ | refine bit_mk and_65535 ?_) | (refine quo_pos (by omega) (by omega) (by omega) ?_) | (refine rem_pos (by omega) (by omega) ?_)))
  refine end_p (VS.mk (LeD.of_eq rfl))
end Go.Proofs.Ytmeigmpjpkinoaa

namespace Go.Proofs.Ytmeigmpjpkinoaa
open Go Go.Plat
set_option linter.unusedVariables false
set_option linter.unusedSimpArgs false
set_option maxRecDepth 100000
set_option maxHeartbeats 2000000
attribute [local irreducible] NilS LookS NormM bitI BytesS NormL Arith QuoS RemS ShlS ShrS BitS CatS SplitS SideS IdxS CallS LoopEnd EndS ModeS DrawS AWP Meets
def oA : OObj := ⟨[1, 2, 3, 4], [⟨[97], 2⟩], [⟨0, 4, [98], -1⟩]⟩
theorem oA_wrong : wrongO oA = 0 := by decide +kernel
theorem oA_parseE : parseOE (objB oA) = 0 := by decide +kernel
theorem oA_parse : parseO (objB oA) = oA := by decide +kernel
theorem oA_same : sameO oA oA = true := sameO_yes rfl
attribute [local irreducible] signedI letterB digitB nameB wrongO loopS loopR readO parseO parseOE objB

theorem oalive_meets : Meets Try.prog n_pllaw6_alive (SpecP (fun _ : Unit => True) (fun _ => []) fun _ => .bool true) := by
  refine meets_f tabOk Try.func19 rfl (by decide) ?_
  rintro - -
  refine ⟨Nat.le_refl _, by simp [Try.f19], fun E hE => ?_⟩
  refine vcOk _ ?_
  (repeat' (first | (refine VS.mk ?_) | (refine dr_mk ?_) | (refine md_l ?_) | ((first | refine sp_not_dec ?_ ?_ | refine sp_dec ?_ ?_ | refine sp_beq ?_ ?_ | refine sp_bne ?_ ?_ | refine sp_seq ?_ ?_ | refine sp_sne ?_ ?_ | refine sp_not ?_ ?_ | refine sp_any ?_ ?_) <;> (intro hc; try simp only [List.length_map, List.length_append, List.length_cons, List.length_nil, Bool.and_true, Bool.and_eq_true, beq_iff_eq, Bool.and_eq_false_iff, beq_eq_false_iff_ne, Bool.true_and, ne_eq] at hc)) | (with_reducible first | refine norm_one ?_ | refine norm_app ?_ | refine norm_cutEnd ?_ | refine norm_cut ?_ | refine norm_bytes1 ?_ | refine norm_bytes2 ?_ | refine norm_setByte ?_ | refine norm_int1 ?_ | refine norm_mk ?_) | (with_reducible refine bytes_mk ?_) | (refine ar_byte ?_) | (refine ar_i64 (by omega) (by omega) ?_) | (refine ar_low ?_) | (refine ix_byteN (by omega) ?_) | (refine ix_byteK (by simp only [Int.reduceToNat]; exact rfl) (by decide) (by omega) ?_) | (refine ix_byte (by omega) (by omega) ?_) | (refine ix_rfl (by decide) rfl ?_) | (refine sd_mk rfl ?_) | (refine sd_mk (by decide +kernel) ?_) | (refine sd_mk (by first | (simp only [List.length_map, List.length_append, List.length_cons, List.length_nil]; done) | ((try simp only [List.length_map, List.length_append, List.length_cons, List.length_nil, List.length_set, List.length_replicate, List.length_drop, List.length_take, true_and, and_true]); omega) | (dsimp only; omega)) ?_) | (first | refine shl8 (by omega) (by omega) ?_ | refine shl4 (by omega) (by omega) ?_ | refine shl1 (by omega) (by omega) ?_ | refine shl16 (by omega) (by omega) ?_ | refine shl24 (by omega) (by omega) ?_ | refine shr8 (by decide) ?_ | refine shr4 (by decide) ?_ | refine shr1 (by decide) ?_ | refine shr16 (by decide) ?_ | refine shr24 (by decide) ?_) | (with_reducible first | refine bit_mk and_1 ?_ | refine bit_mk and_15 ?_ | refine bit_mk and_255 ?_ | refine bit_mk and_4095 ?_ | refine bit_mk and_65535 ?_) | (refine quo_pos (by omega) (by omega) (by omega) ?_) | (refine rem_pos (by omega) (by omega) ?_)))
  refine call_p obytes_meets oA ⟨by decide, by decide⟩ (VS.mk (LeL.of_eq rfl)) ?_
  rw [oA_wrong, if_pos rfl]
  (repeat' (first | (refine VS.mk ?_) | (refine dr_mk ?_) | (refine md_l ?_) | ((first | refine sp_not_dec ?_ ?_ | refine sp_dec ?_ ?_ | refine sp_beq ?_ ?_ | refine sp_bne ?_ ?_ | refine sp_seq ?_ ?_ | refine sp_sne ?_ ?_ | refine sp_not ?_ ?_ | refine sp_any ?_ ?_) <;> (intro hc; try simp only [List.length_map, List.length_append, List.length_cons, List.length_nil, Bool.and_true, Bool.and_eq_true, beq_iff_eq, Bool.and_eq_false_iff, beq_eq_false_iff_ne, Bool.true_and, ne_eq] at hc)) | (with_reducible first | refine norm_one ?_ | refine norm_app ?_ | refine norm_cutEnd ?_ | refine norm_cut ?_ | refine norm_bytes1 ?_ | refine norm_bytes2 ?_ | refine norm_setByte ?_ | refine norm_int1 ?_ | refine norm_mk ?_) | (with_reducible refine bytes_mk ?_) | (refine ar_byte ?_) | (refine ar_i64 (by omega) (by omega) ?_) | (refine ar_low ?_) | (refine ix_byteN (by omega) ?_) | (refine ix_byteK (by simp only [Int.reduceToNat]; exact rfl) (by decide) (by omega) ?_) | (refine ix_byte (by omega) (by omega) ?_) | (refine ix_rfl (by decide) rfl ?_) | (refine sd_mk rfl ?_) | (refine sd_mk (by decide +kernel) ?_) | (refine sd_mk (by first | (simp only [List.length_map, List.length_append, List.length_cons, List.length_nil]; done) | ((try simp only [List.length_map, List.length_append, List.length_cons, List.length_nil, List.length_set, List.length_replicate, List.length_drop, List.length_take, true_and, and_true]); omega) | (dsimp only; omega)) ?_) | (first | refine shl8 (by omega) (by omega) ?_ | refine shl4 (by omega) (by omega) ?_ | refine shl1 (by omega) (by omega) ?_ | refine shl16 (by omega) (by omega) ?_ | refine shl24 (by omega) (by omega) ?_ | refine shr8 (by decide) ?_ | refine shr4 (by decide) ?_ | refine shr1 (by decide) ?_ | refine shr16 (by decide) ?_ | refine shr24 (by decide) ?_) | (with_reducible first | refine bit_mk and_1 ?_ | refine bit_mk and_15 ?_ | refine bit_mk and_255 ?_ | refine bit_mk and_4095 ?_ | refine bit_mk and_65535 ?_) | (refine quo_pos (by omega) (by omega) (by omega) ?_) | (refine rem_pos (by omega) (by omega) ?_)))
  refine call_p oparse_meets (objB oA) (by decide +kernel) (VS.mk (LeL.of_eq rfl)) ?_
  rw [oA_parseE, oA_parse]
  (repeat' (first | (refine VS.mk ?_) | (refine dr_mk ?_) | (refine md_l ?_) | ((first | refine sp_not_dec ?_ ?_ | refine sp_dec ?_ ?_ | refine sp_beq ?_ ?_ | refine sp_bne ?_ ?_ | refine sp_seq ?_ ?_ | refine sp_sne ?_ ?_ | refine sp_not ?_ ?_ | refine sp_any ?_ ?_) <;> (intro hc; try simp only [List.length_map, List.length_append, List.length_cons, List.length_nil, Bool.and_true, Bool.and_eq_true, beq_iff_eq, Bool.and_eq_false_iff, beq_eq_false_iff_ne, Bool.true_and, ne_eq] at hc)) | (with_reducible first | refine norm_one ?_ | refine norm_app ?_ | refine norm_cutEnd ?_ | refine norm_cut ?_ | refine norm_bytes1 ?_ | refine norm_bytes2 ?_ | refine norm_setByte ?_ | refine norm_int1 ?_ | refine norm_mk ?_) | (with_reducible refine bytes_mk ?_) | (refine ar_byte ?_) | (refine ar_i64 (by omega) (by omega) ?_) | (refine ar_low ?_) | (refine ix_byteN (by omega) ?_) | (refine ix_byteK (by simp only [Int.reduceToNat]; exact rfl) (by decide) (by omega) ?_) | (refine ix_byte (by omega) (by omega) ?_) | (refine ix_rfl (by decide) rfl ?_) | (refine sd_mk rfl ?_) | (refine sd_mk (by decide +kernel) ?_) | (refine sd_mk (by first | (simp only [List.length_map, List.length_append, List.length_cons, List.length_nil]; done) | ((try simp only [List.length_map, List.length_append, List.length_cons, List.length_nil, List.length_set, List.length_replicate, List.length_drop, List.length_take, true_and, and_true]); omega) | (dsimp only; omega)) ?_) | (first | refine shl8 (by omega) (by omega) ?_ | refine shl4 (by omega) (by omega) ?_ | refine shl1 (by omega) (by omega) ?_ | refine shl16 (by omega) (by omega) ?_ | refine shl24 (by omega) (by omega) ?_ | refine shr8 (by decide) ?_ | refine shr4 (by decide) ?_ | refine shr1 (by decide) ?_ | refine shr16 (by decide) ?_ | refine shr24 (by decide) ?_) | (with_reducible first | refine bit_mk and_1 ?_ | refine bit_mk and_15 ?_ | refine bit_mk and_255 ?_ | refine bit_mk and_4095 ?_ | refine bit_mk and_65535 ?_) | (refine quo_pos (by omega) (by omega) (by omega) ?_) | (refine rem_pos (by omega) (by omega) ?_)))
  any_goals (first | exact absurd trivial hc | skip)
  refine call_p same_meets (oA, oA) ⟨by decide, by decide⟩ (VS.mk (LeL.of_eq rfl)) ?_
  dsimp only
  rw [oA_same]
  (repeat' (first | (refine VS.mk ?_) | (refine dr_mk ?_) | (refine md_l ?_) | ((first | refine sp_not_dec ?_ ?_ | refine sp_dec ?_ ?_ | refine sp_beq ?_ ?_ | refine sp_bne ?_ ?_ | refine sp_seq ?_ ?_ | refine sp_sne ?_ ?_ | refine sp_not ?_ ?_ | refine sp_any ?_ ?_) <;> (intro hc; try simp only [List.length_map, List.length_append, List.length_cons, List.length_nil, Bool.and_true, Bool.and_eq_true, beq_iff_eq, Bool.and_eq_false_iff, beq_eq_false_iff_ne, Bool.true_and, ne_eq] at hc)) | (with_reducible first | refine norm_one ?_ | refine norm_app ?_ | refine norm_cutEnd ?_ | refine norm_cut ?_ | refine norm_bytes1 ?_ | refine norm_bytes2 ?_ | refine norm_setByte ?_ | refine norm_int1 ?_ | refine norm_mk ?_) | (with_reducible refine bytes_mk ?_) | (refine ar_byte ?_) | (refine ar_i64 (by omega) (by omega) ?_) | (refine ar_low ?_) | (refine ix_byteN (by omega) ?_) | (refine ix_byteK (by simp only [Int.reduceToNat]; exact rfl) (by decide) (by omega) ?_) | (refine ix_byte (by omega) (by omega) ?_) | (refine ix_rfl (by decide) rfl ?_) | (refine sd_mk rfl ?_) | (refine sd_mk (by decide +kernel) ?_) | (refine sd_mk (by first | (simp only [List.length_map, List.length_append, List.length_cons, List.length_nil]; done) | ((try simp only [List.length_map, List.length_append, List.length_cons, List.length_nil, List.length_set, List.length_replicate, List.length_drop, List.length_take, true_and, and_true]); omega) | (dsimp only; omega)) ?_) | (first | refine shl8 (by omega) (by omega) ?_ | refine shl4 (by omega) (by omega) ?_ | refine shl1 (by omega) (by omega) ?_ | refine shl16 (by omega) (by omega) ?_ | refine shl24 (by omega) (by omega) ?_ | refine shr8 (by decide) ?_ | refine shr4 (by decide) ?_ | refine shr1 (by decide) ?_ | refine shr16 (by decide) ?_ | refine shr24 (by decide) ?_) | (with_reducible first | refine bit_mk and_1 ?_ | refine bit_mk and_15 ?_ | refine bit_mk and_255 ?_ | refine bit_mk and_4095 ?_ | refine bit_mk and_65535 ?_) | (refine quo_pos (by omega) (by omega) (by omega) ?_) | (refine rem_pos (by omega) (by omega) ?_)))
  any_goals (first | exact Bool.noConfusion hc | skip)
  refine call_p owrong_meets oA ⟨by decide, by decide⟩ (VS.mk (LeL.of_eq rfl)) ?_
  rw [oA_wrong]
  (repeat' (first | (refine VS.mk ?_) | (refine dr_mk ?_) | (refine md_l ?_) | ((first | refine sp_not_dec ?_ ?_ | refine sp_dec ?_ ?_ | refine sp_beq ?_ ?_ | refine sp_bne ?_ ?_ | refine sp_seq ?_ ?_ | refine sp_sne ?_ ?_ | refine sp_not ?_ ?_ | refine sp_any ?_ ?_) <;> (intro hc; try simp only [List.length_map, List.length_append, List.length_cons, List.length_nil, Bool.and_true, Bool.and_eq_true, beq_iff_eq, Bool.and_eq_false_iff, beq_eq_false_iff_ne, Bool.true_and, ne_eq] at hc)) | (with_reducible first | refine norm_one ?_ | refine norm_app ?_ | refine norm_cutEnd ?_ | refine norm_cut ?_ | refine norm_bytes1 ?_ | refine norm_bytes2 ?_ | refine norm_setByte ?_ | refine norm_int1 ?_ | refine norm_mk ?_) | (with_reducible refine bytes_mk ?_) | (refine ar_byte ?_) | (refine ar_i64 (by omega) (by omega) ?_) | (refine ar_low ?_) | (refine ix_byteN (by omega) ?_) | (refine ix_byteK (by simp only [Int.reduceToNat]; exact rfl) (by decide) (by omega) ?_) | (refine ix_byte (by omega) (by omega) ?_) | (refine ix_rfl (by decide) rfl ?_) | (refine sd_mk rfl ?_) | (refine sd_mk (by decide +kernel) ?_) | (refine sd_mk (by first | (simp only [List.length_map, List.length_append, List.length_cons, List.length_nil]; done) | ((try simp only [List.length_map, List.length_append, List.length_cons, List.length_nil, List.length_set, List.length_replicate, List.length_drop, List.length_take, true_and, and_true]); omega) | (dsimp only; omega)) ?_) | (first | refine shl8 (by omega) (by omega) ?_ | refine shl4 (by omega) (by omega) ?_ | refine shl1 (by omega) (by omega) ?_ | refine shl16 (by omega) (by omega) ?_ | refine shl24 (by omega) (by omega) ?_ | refine shr8 (by decide) ?_ | refine shr4 (by decide) ?_ | refine shr1 (by decide) ?_ | refine shr16 (by decide) ?_ | refine shr24 (by decide) ?_) | (with_reducible first | refine bit_mk and_1 ?_ | refine bit_mk and_15 ?_ | refine bit_mk and_255 ?_ | refine bit_mk and_4095 ?_ | refine bit_mk and_65535 ?_) | (refine quo_pos (by omega) (by omega) (by omega) ?_) | (refine rem_pos (by omega) (by omega) ?_)))
  any_goals (first | exact absurd trivial hc | skip)
  refine call_p own_meets oA (by decide) (VS.mk (LeL.of_eq rfl)) ?_
  (repeat' (first | (refine VS.mk ?_) | (refine dr_mk ?_) | (refine md_l ?_) | ((first | refine sp_not_dec ?_ ?_ | refine sp_dec ?_ ?_ | refine sp_beq ?_ ?_ | refine sp_bne ?_ ?_ | refine sp_seq ?_ ?_ | refine sp_sne ?_ ?_ | refine sp_not ?_ ?_ | refine sp_any ?_ ?_) <;> (intro hc; try simp only [List.length_map, List.length_append, List.length_cons, List.length_nil, Bool.and_true, Bool.and_eq_true, beq_iff_eq, Bool.and_eq_false_iff, beq_eq_false_iff_ne, Bool.true_and, ne_eq] at hc)) | (with_reducible first | refine norm_one ?_ | refine norm_app ?_ | refine norm_cutEnd ?_ | refine norm_cut ?_ | refine norm_bytes1 ?_ | refine norm_bytes2 ?_ | refine norm_setByte ?_ | refine norm_int1 ?_ | refine norm_mk ?_) | (with_reducible refine bytes_mk ?_) | (refine ar_byte ?_) | (refine ar_i64 (by omega) (by omega) ?_) | (refine ar_low ?_) | (refine ix_byteN (by omega) ?_) | (refine ix_byteK (by simp only [Int.reduceToNat]; exact rfl) (by decide) (by omega) ?_) | (refine ix_byte (by omega) (by omega) ?_) | (refine ix_rfl (by decide) rfl ?_) | (refine sd_mk rfl ?_) | (refine sd_mk (by decide +kernel) ?_) | (refine sd_mk (by first | (simp only [List.length_map, List.length_append, List.length_cons, List.length_nil]; done) | ((try simp only [List.length_map, List.length_append, List.length_cons, List.length_nil, List.length_set, List.length_replicate, List.length_drop, List.length_take, true_and, and_true]); omega) | (dsimp only; omega)) ?_) | (first | refine shl8 (by omega) (by omega) ?_ | refine shl4 (by omega) (by omega) ?_ | refine shl1 (by omega) (by omega) ?_ | refine shl16 (by omega) (by omega) ?_ | refine shl24 (by omega) (by omega) ?_ | refine shr8 (by decide) ?_ | refine shr4 (by decide) ?_ | refine shr1 (by decide) ?_ | refine shr16 (by decide) ?_ | refine shr24 (by decide) ?_) | (with_reducible first | refine bit_mk and_1 ?_ | refine bit_mk and_15 ?_ | refine bit_mk and_255 ?_ | refine bit_mk and_4095 ?_ | refine bit_mk and_65535 ?_) | (refine quo_pos (by omega) (by omega) (by omega) ?_) | (refine rem_pos (by omega) (by omega) ?_)))
  exact end_p (VS.mk (LeD.of_eq rfl))
end Go.Proofs.Ytmeigmpjpkinoaa

namespace Go.Proofs.Ytmeigmpjpkinoaa
open Go Go.Plat
set_option linter.unusedVariables false
set_option maxRecDepth 100000
attribute [local irreducible] signedI letterB digitB nameB wrongO

theorem low_ext {a b : UInt8} (h : (a.toNat : Int) = b.toNat) : a = b := UInt8.toNat_inj.1 (by omega)
theorem low_eq {n : Int} {c : UInt8} (h : n % 256 = c.toNat) : lowByte n = c := low_ext (by rw [lowByte_toNat, h])
theorem get4 (c0 c1 c2 c3 : UInt8) : getN [c0, c1, c2, c3] 0 4 = (((c0.toNat : Int) * 256 + c1.toNat) * 256 + c2.toNat) * 256 + c3.toNat := by
  simp [getN, byteAt]
theorem numB_len (n : Int) : (numB n).length = 4 := rfl
theorem takeV_app {n : Int} {x : List UInt8} (r : List UInt8) (h : (x.length : Int) = n) : takeV (x ++ r) n = x := by
  unfold takeV; rw [if_neg (by simp only [List.length_append]; omega)]
  rw [← h]; simp
theorem takeB_app {n : Int} {x : List UInt8} (r : List UInt8) (h : (x.length : Int) = n) : takeB (x ++ r) n = r := by
  unfold takeB; rw [if_neg (by simp only [List.length_append]; omega)]
  rw [← h]; simp
theorem takeE_app {n : Int} {x : List UInt8} (r : List UInt8) (e : Bool) (h : (x.length : Int) = n) : takeE (x ++ r) n e = e := by
  unfold takeE; rw [if_neg (by simp only [List.length_append]; omega)]
theorem numV_app (n : Int) (r : List UInt8) : numV (numB n ++ r) = n % 4294967296 := by
  unfold numV
  rw [takeV_app r (by rfl)]
  unfold numB
  rw [get4]
  simp only [lowByte_toNat]
  omega
theorem numR_app (n : Int) (r : List UInt8) : numR (numB n ++ r) = r := takeB_app r rfl
theorem numE_app (n : Int) (r : List UInt8) (e : Bool) : numE (numB n ++ r) e = e := takeE_app r e rfl
theorem byteV_app (n : Int) (r : List UInt8) : byteV (lowByte n :: r) = n % 256 := by
  unfold byteV
  have : takeV (lowByte n :: r) 1 = [lowByte n] := takeV_app (x := [lowByte n]) r rfl
  rw [this]
  simp [getN, byteAt, lowByte_toNat]
theorem byteR_app (c : UInt8) (r : List UInt8) : byteR (c :: r) = r := takeB_app (x := [c]) r rfl
theorem byteE_app (c : UInt8) (r : List UInt8) (e : Bool) : byteE (c :: r) e = e := takeE_app (x := [c]) r e rfl
theorem len_mod {s : List UInt8} (h : s.length ≤ 255) : (s.length : Int) % 256 = s.length := Int.emod_eq_of_lt (by omega) (by omega)
theorem textV_app (s r : List UInt8) (h : s.length ≤ 255) : textV (textB s ++ r) = s := by
  unfold textV textB
  rw [List.cons_append, byteV_app, byteR_app, len_mod h, takeV_app r rfl]
theorem textR_app (s r : List UInt8) (h : s.length ≤ 255) : textR (textB s ++ r) = r := by
  unfold textR textB
  rw [List.cons_append, byteV_app, byteR_app, len_mod h, takeB_app r rfl]
theorem textE_app (s r : List UInt8) (e : Bool) (h : s.length ≤ 255) : textE (textB s ++ r) e = e := by
  unfold textE textB
  rw [List.cons_append, byteV_app, byteR_app, len_mod h, takeE_app r _ rfl, byteE_app]

theorem loopS_app : ∀ (l : List OSym) (r : List UInt8) (acc : List OSym), (∀ s ∈ l, s.name.length ≤ 255 ∧ 0 ≤ s.at_ ∧ s.at_ < 4294967296) → loopS l.length (l.flatMap symB ++ r) false acc = (acc ++ l, r, false)
  | [], r, acc, _ => by simp [loopS]
  | s :: l, r, acc, h => by
    obtain ⟨h1, h2, h3⟩ := h s (by simp)
    have ih := loopS_app l r (acc ++ [s]) fun t ht => h t (by simp [ht])
    have hm : s.at_ % 4294967296 = s.at_ := Int.emod_eq_of_lt h2 h3
    rw [List.length_cons, loopS, if_neg (by decide), List.flatMap_cons]
    unfold symB at ih ⊢
    simp only [List.append_assoc]
    rw [textV_app _ _ h1, textR_app _ _ h1, textE_app _ _ _ h1, numV_app, numR_app, numE_app, hm, ih]
    simp
theorem loopR_app : ∀ (l : List ORel) (r : List UInt8) (acc : List ORel), (∀ s ∈ l, s.name.length ≤ 255 ∧ 0 ≤ s.at_ ∧ s.at_ < 4294967296 ∧ 0 ≤ s.size ∧ s.size < 256 ∧ signedI (s.add % 4294967296) 32 = s.add) → loopR l.length (l.flatMap relB ++ r) false acc = (acc ++ l, r, false)
  | [], r, acc, _ => by simp [loopR]
  | s :: l, r, acc, h => by
    obtain ⟨h1, h2, h3, h4, h5, h6⟩ := h s (by simp)
    have ih := loopR_app l r (acc ++ [s]) fun t ht => h t (by simp [ht])
    have hm : s.at_ % 4294967296 = s.at_ := Int.emod_eq_of_lt h2 h3
    have hz : s.size % 256 = s.size := Int.emod_eq_of_lt h4 h5
    rw [List.length_cons, loopR, if_neg (by decide), List.flatMap_cons]
    unfold relB at ih ⊢
    simp only [List.append_assoc, List.cons_append]
    rw [numV_app, numR_app, numE_app, byteV_app, byteR_app, byteE_app, textV_app _ _ h1, textR_app _ _ h1, textE_app _ _ _ h1, numV_app, numR_app, numE_app, hm, hz, h6, ih]
    simp

theorem signed_mod (n : Int) : signedI (n % 4294967296) 32 = signedI n 32 := by
  have : ∀ m : Int, signedI m 32 = if m % 4294967296 / 2147483648 = 1 then m % 4294967296 - 4294967296 else m % 4294967296 := fun m => by unfold signedI; rfl
  rw [this, this, Int.emod_emod]
theorem readO_app {o : OObj} (h : ObjOk o) : readO (objB o) = ⟨o, [], false⟩ := by
  have hb : objB o = magicB ++ (numB o.code.length ++ (o.code ++ (numB o.syms.length ++ (o.syms.flatMap symB ++ (numB o.rels.length ++ (o.rels.flatMap relB ++ [])))))) := by
    simp [objB, bodyS]
  have hc := h.code
  have hs := h.syms
  have hr := h.rels
  have h1 : (o.code.length : Int) % 4294967296 = o.code.length := Int.emod_eq_of_lt (by omega) (by omega)
  have h2 : (o.syms.length : Int) % 4294967296 = o.syms.length := Int.emod_eq_of_lt (by omega) (by omega)
  have h3 : (o.rels.length : Int) % 4294967296 = o.rels.length := Int.emod_eq_of_lt (by omega) (by omega)
  have hS : ∀ s ∈ o.syms, s.name.length ≤ 255 ∧ 0 ≤ s.at_ ∧ s.at_ < 4294967296 := fun s hm => by
    obtain ⟨a, b, c⟩ := h.sym s hm
    have := nameB_len a
    exact ⟨by omega, b, by omega⟩
  have hR : ∀ s ∈ o.rels, s.name.length ≤ 255 ∧ 0 ≤ s.at_ ∧ s.at_ < 4294967296 ∧ 0 ≤ s.size ∧ s.size < 256 ∧ signedI (s.add % 4294967296) 32 = s.add := fun s hm => by
    have hk := h.rel s hm
    have h1 := hk.len
    have h2 := hk.size
    have h3 := hk.at0
    have h4 := hk.at1
    exact ⟨by omega, by omega, by omega, by omega, by omega, by rw [signed_mod, hk.add]⟩
  unfold readO
  dsimp only
  rw [hb]
  rw [takeB_app _ (show ((magicB.length : Nat) : Int) = 3 from rfl), takeE_app _ _ (show ((magicB.length : Nat) : Int) = 3 from rfl)]
  rw [numV_app, numR_app, numE_app, h1, takeV_app _ rfl, takeB_app _ rfl, takeE_app _ _ rfl, numV_app, numR_app, numE_app, h2, Int.toNat_natCast, loopS_app _ _ _ hS]
  dsimp only
  rw [numV_app, numR_app, numE_app, h3, Int.toNat_natCast, loopR_app _ _ _ hR]
  simp
theorem turn_there {o : OObj} (h : wrongO o = 0) : parseOE (objB o) = 0 ∧ parseO (objB o) = o := by
  have hr := readO_app (wrong_ok h)
  have hm : takeV (objB o) 3 = magicB := by
    have hb : objB o = magicB ++ (numB o.code.length ++ (o.code ++ (numB o.syms.length ++ (o.syms.flatMap symB ++ (numB o.rels.length ++ (o.rels.flatMap relB ++ [])))))) := by
      simp [objB, bodyS]
    rw [hb, takeV_app _ (show ((magicB.length : Nat) : Int) = 3 from rfl)]
  have h1 : parseOE (objB o) = 0 := by
    unfold parseOE
    rw [if_neg (by rw [hm]; simp), hr]
    dsimp only
    rw [if_neg (by simp), h]
  refine ⟨h1, ?_⟩
  unfold parseO
  rw [if_pos h1, hr]

theorem take_ok {b : List UInt8} {n : Int} {e : Bool} (h : takeE b n e = false) : e = false ∧ 0 ≤ n ∧ ((takeV b n).length : Int) = n ∧ b = takeV b n ++ takeB b n := by
  unfold takeE at h
  split at h
  · cases h
  rename_i hn
  unfold takeV takeB
  rw [if_neg hn, if_neg hn]
  refine ⟨h, by omega, ?_, (List.take_append_drop _ _).symm⟩
  rw [List.length_take]
  omega
theorem num_get {l : List UInt8} (h : l.length = 4) : numB (getN l 0 4) = l := by
  match l, h with
  | [c0, c1, c2, c3], _ =>
    rw [get4]
    have h0 := u8_lt c0
    have h1 := u8_lt c1
    have h2 := u8_lt c2
    have h3 := u8_lt c3
    unfold numB
    rw [low_eq (c := c0), low_eq (c := c1), low_eq (c := c2), low_eq (c := c3)]
    all_goals omega
theorem num_ok {b : List UInt8} {e : Bool} (h : numE b e = false) : e = false ∧ b = numB (numV b) ++ numR b := by
  obtain ⟨h1, _, h2, h3⟩ := take_ok h
  refine ⟨h1, ?_⟩
  unfold numV
  rw [num_get (by omega)]
  exact h3
theorem byte_get {l : List UInt8} (h : l.length = 1) : [lowByte (getN l 0 1)] = l := by
  match l, h with
  | [c], _ =>
    have h0 := u8_lt c
    have : getN [c] 0 1 = c.toNat := by simp [getN, byteAt]
    rw [this, low_eq (c := c) (by omega)]
theorem byte_ok {b : List UInt8} {e : Bool} (h : byteE b e = false) : e = false ∧ b = lowByte (byteV b) :: byteR b := by
  obtain ⟨h1, _, h2, h3⟩ := take_ok h
  refine ⟨h1, ?_⟩
  unfold byteV
  have := byte_get (l := takeV b 1) (by omega)
  have e : lowByte (getN (takeV b 1) 0 1) :: byteR b = [lowByte (getN (takeV b 1) 0 1)] ++ byteR b := rfl
  rw [e, this]
  exact h3
theorem text_ok {b : List UInt8} {e : Bool} (h : textE b e = false) : e = false ∧ b = textB (textV b) ++ textR b := by
  obtain ⟨h1, _, h2, h3⟩ := take_ok h
  obtain ⟨h4, h5⟩ := byte_ok h1
  refine ⟨h4, ?_⟩
  have hl : ((textV b).length : Int) = byteV b := h2
  unfold textB
  rw [hl, List.cons_append]
  exact h5.trans (congrArg _ h3)
theorem num_signed (n : Int) : numB (signedI n 32) = numB n := by
  have : signedI n 32 = if n % 4294967296 / 2147483648 = 1 then n % 4294967296 - 4294967296 else n % 4294967296 := by unfold signedI; rfl
  have h : ∀ m : Int, m % 4294967296 = n % 4294967296 → numB m = numB n := fun m hm => by
    unfold numB
    have e : ∀ x y : Int, x % 256 = y % 256 → lowByte x = lowByte y := fun x y h => low_ext (by rw [lowByte_toNat, lowByte_toNat, h])
    rw [e (m / 16777216) (n / 16777216) (by omega), e (m / 65536) (n / 65536) (by omega), e (m / 256) (n / 256) (by omega), e m n (by omega)]
  rw [this]
  split
  · exact h _ (by omega)
  · exact h _ (by omega)
theorem loopS_back : ∀ (k : Nat) (b : List UInt8) (e : Bool) (acc : List OSym), (loopS k b e acc).2.2 = false →
    e = false ∧ ∃ l, (loopS k b e acc).1 = acc ++ l ∧ l.length = k ∧ b = l.flatMap symB ++ (loopS k b e acc).2.1
  | 0, b, e, acc, h => ⟨h, [], by simp [loopS], rfl, by simp [loopS]⟩
  | k + 1, b, e, acc, h => by
    rw [loopS] at h ⊢
    cases e with
    | true => exact absurd (show true = false from h) (by decide)
    | false =>
      rw [if_neg (by decide)] at h ⊢
      obtain ⟨h1, l, h2, h3, h4⟩ := loopS_back k _ _ _ h
      obtain ⟨h5, h6⟩ := num_ok h1
      obtain ⟨h7, h8⟩ := text_ok h5
      refine ⟨rfl, ⟨textV b, numV (textR b)⟩ :: l, by rw [h2]; simp, by simp [h3], ?_⟩
      rw [List.flatMap_cons]
      unfold symB at h4 ⊢
      dsimp only
      rw [List.append_assoc, List.append_assoc, ← h4, ← h6]
      exact h8
theorem loopR_back : ∀ (k : Nat) (b : List UInt8) (e : Bool) (acc : List ORel), (loopR k b e acc).2.2 = false →
    e = false ∧ ∃ l, (loopR k b e acc).1 = acc ++ l ∧ l.length = k ∧ b = l.flatMap relB ++ (loopR k b e acc).2.1
  | 0, b, e, acc, h => ⟨h, [], by simp [loopR], rfl, by simp [loopR]⟩
  | k + 1, b, e, acc, h => by
    rw [loopR] at h ⊢
    cases e with
    | true => exact absurd (show true = false from h) (by decide)
    | false =>
      rw [if_neg (by decide)] at h ⊢
      obtain ⟨h1, l, h2, h3, h4⟩ := loopR_back k _ _ _ h
      obtain ⟨h5, h6⟩ := num_ok h1
      obtain ⟨h7, h8⟩ := text_ok h5
      obtain ⟨h9, h10⟩ := byte_ok h7
      obtain ⟨h11, h12⟩ := num_ok h9
      refine ⟨rfl, ⟨numV b, byteV (numR b), textV (byteR (numR b)), signedI (numV (textR (byteR (numR b)))) 32⟩ :: l, by rw [h2]; simp, by simp [h3], ?_⟩
      rw [List.flatMap_cons]
      unfold relB at h4 ⊢
      dsimp only
      rw [num_signed]
      simp only [List.append_assoc, List.cons_append]
      rw [← h4, ← h6, ← h8, ← h10]
      exact h12
theorem turn_back {b : List UInt8} (h : parseOE b = 0) : wrongO (parseO b) = 0 ∧ objB (parseO b) = b := by
  unfold parseO
  rw [if_pos h]
  unfold parseOE at h
  split at h
  · cases h
  rename_i hm
  split at h
  · cases h
  rename_i hn
  refine ⟨h, ?_⟩
  have hm : takeV b 3 = magicB := Classical.not_not.1 hm
  have he : (readO b).e = false := by cases hq : (readO b).e with | false => rfl | true => exact (hn (.inl hq)).elim
  have hb : (readO b).b = [] := Classical.not_not.1 fun hq => hn (.inr hq)
  unfold readO at he hb ⊢
  dsimp only at he hb ⊢
  obtain ⟨e1, R, r1, r2, r3⟩ := loopR_back _ _ _ _ he
  obtain ⟨e2, q2⟩ := num_ok e1
  obtain ⟨e3, S, s1, s2, s3⟩ := loopS_back _ _ _ _ e2
  obtain ⟨e4, q4⟩ := num_ok e3
  obtain ⟨e5, n5, l5, q5⟩ := take_ok e4
  obtain ⟨e6, q6⟩ := num_ok e5
  obtain ⟨_, _, _, q7⟩ := take_ok e6
  rw [hb, List.append_nil] at r3
  unfold objB bodyS
  dsimp only
  rw [r1, s1, List.nil_append, List.nil_append, l5]
  have hS : ((S.length : Nat) : Int) = numV (takeB (numR (takeB b 3)) (numV (takeB b 3))) := by
    have := (numV_bd (takeB (numR (takeB b 3)) (numV (takeB b 3)))).1
    omega
  rw [hS]
  generalize hst : loopS (numV (takeB (numR (takeB b 3)) (numV (takeB b 3)))).toNat (numR (takeB (numR (takeB b 3)) (numV (takeB b 3)))) (numE (takeB (numR (takeB b 3)) (numV (takeB b 3))) (takeE (numR (takeB b 3)) (numV (takeB b 3)) (numE (takeB b 3) (takeE b 3 false)))) [] = st at *
  have hR : ((R.length : Nat) : Int) = numV st.2.1 := by
    have := (numV_bd st.2.1).1
    omega
  rw [hR, ← r3]
  simp only [List.append_assoc]
  rw [← q2, ← s3, ← q4, ← q5, ← q6, ← hm, ← q7]
theorem turn_none {b : List UInt8} (h : parseOE b ≠ 0) : parseO b = noObj := by unfold parseO; rw [if_neg h]
end Go.Proofs.Ytmeigmpjpkinoaa

namespace Go.Proofs.Ytmeigmpjpkinoaa
open Go Go.Plat
set_option linter.unusedVariables false
set_option linter.unusedSimpArgs false
set_option maxRecDepth 100000
set_option maxHeartbeats 2000000
attribute [local irreducible] NilS LookS NormM bitI BytesS NormL Arith QuoS RemS ShlS ShrS BitS CatS SplitS SideS IdxS CallS LoopEnd EndS ModeS DrawS AWP Meets
attribute [local irreducible] signedI letterB digitB nameB wrongO loopS loopR readO parseO parseOE objB sameO

structure InO (o : OObj) : Prop where
  code : o.code.length ≤ 1048576
  syms : o.syms.length ≤ 1048576
  rels : o.rels.length ≤ 1048576
  rel : ∀ r ∈ o.rels, -9223372036854775808 ≤ r.at_ ∧ r.at_ ≤ 9223372036854775807 ∧ r.name.length ≤ 1048576
  sym : ∀ s ∈ o.syms, s.name.length ≤ 1048576
theorem InO.bytes {o : OObj} (h : InO o) : (∀ r ∈ o.rels, -9223372036854775808 ≤ r.at_ ∧ r.at_ ≤ 9223372036854775807 ∧ r.name.length ≤ 1000000000) ∧ ∀ s ∈ o.syms, s.name.length ≤ 1000000000 :=
  ⟨fun r hr => by have := h.rel r hr; exact ⟨this.1, this.2.1, by omega⟩, fun s hs => by have := h.sym s hs; omega⟩
theorem ObjOk.inO {o : OObj} (h : ObjOk o) : InO o := by
  have h1 := h.code
  have h2 := h.syms
  have h3 := h.rels
  refine ⟨by omega, by omega, by omega, fun r hr => ?_, fun s hs => ?_⟩
  · have hk := h.rel r hr
    have a := hk.at0
    have b := hk.at1
    have c := hk.size
    have d := hk.len
    exact ⟨by omega, by omega, by omega⟩
  · have := nameB_len (h.sym s hs).1
    omega
theorem ObjOk.bytes_len {o : OObj} (h : ObjOk o) : (objB o).length ≤ 100000000 := by
  have h1 := h.code
  have h2 := h.syms
  have h3 := h.rels
  have h4 := flat_len (f := symB) (c := 15) (l := o.syms) fun s hs => by
    have := nameB_len (h.sym s hs).1
    simp [symB, textB, numB]; omega
  have h5 := flat_len (f := relB) (c := 20) (l := o.rels) fun r hr => by
    have := (h.rel r hr).len
    simp [relB, textB, numB]; omega
  unfold objB bodyS magicB
  simp only [List.length_append, numB_len, List.length_cons, List.length_nil]
  omega

theorem oturns_meets : Meets Try.prog n_pllaw6_ObjTurns (SpecP (fun ((o, b) : OObj × List UInt8) => InO o ∧ b.length ≤ 1048576) (fun (o, b) => [objD o, bytesD b]) fun _ => .bool true) := by
  refine meets_f tabOk Try.func5 rfl (by decide) ?_
  rintro ⟨o, b⟩ ⟨ho, hb⟩
  have hb8 : b.length ≤ 100000000 := by omega
  refine ⟨Nat.le_refl _, by simp [Try.f5], fun E hE => ?_⟩
  refine vcOk _ ?_
  (repeat' (first | (refine VS.mk ?_) | (refine dr_mk ?_) | (refine md_l ?_) | ((first | refine sp_not_dec ?_ ?_ | refine sp_dec ?_ ?_ | refine sp_beq ?_ ?_ | refine sp_bne ?_ ?_ | refine sp_seq ?_ ?_ | refine sp_sne ?_ ?_ | refine sp_not ?_ ?_ | refine sp_any ?_ ?_) <;> (intro hc; try simp only [List.length_map, List.length_append, List.length_cons, List.length_nil, Bool.and_true, Bool.and_eq_true, beq_iff_eq, Bool.and_eq_false_iff, beq_eq_false_iff_ne, Bool.true_and, ne_eq] at hc)) | (with_reducible first | refine norm_one ?_ | refine norm_app ?_ | refine norm_cutEnd ?_ | refine norm_cut ?_ | refine norm_bytes1 ?_ | refine norm_bytes2 ?_ | refine norm_setByte ?_ | refine norm_int1 ?_ | refine norm_mk ?_) | (with_reducible refine bytes_mk ?_) | (refine ar_byte ?_) | (refine ar_i64 (by omega) (by omega) ?_) | (refine ar_low ?_) | (refine ix_byteN (by omega) ?_) | (refine ix_byteK (by simp only [Int.reduceToNat]; exact rfl) (by decide) (by omega) ?_) | (refine ix_byte (by omega) (by omega) ?_) | (refine ix_rfl (by decide) rfl ?_) | (refine sd_mk rfl ?_) | (refine sd_mk (by decide +kernel) ?_) | (refine sd_mk (by first | (simp only [List.length_map, List.length_append, List.length_cons, List.length_nil]; done) | ((try simp only [List.length_map, List.length_append, List.length_cons, List.length_nil, List.length_set, List.length_replicate, List.length_drop, List.length_take, true_and, and_true]); omega) | (dsimp only; omega)) ?_) | (first | refine shl8 (by omega) (by omega) ?_ | refine shl4 (by omega) (by omega) ?_ | refine shl1 (by omega) (by omega) ?_ | refine shl16 (by omega) (by omega) ?_ | refine shl24 (by omega) (by omega) ?_ | refine shr8 (by decide) ?_ | refine shr4 (by decide) ?_ | refine shr1 (by decide) ?_ | refine shr16 (by decide) ?_ | refine shr24 (by decide) ?_) | (with_reducible first | refine bit_mk and_1 ?_ | refine bit_mk and_15 ?_ | refine bit_mk and_255 ?_ | refine bit_mk and_4095 ?_ | refine bit_mk and_65535 ?_) | (refine quo_pos (by omega) (by omega) (by omega) ?_) | (refine rem_pos (by omega) (by omega) ?_)))
  refine call_p oalive_meets () trivial (VS.mk (LeL.of_eq rfl)) ?_
  (repeat' (first | (refine VS.mk ?_) | (refine dr_mk ?_) | (refine md_l ?_) | ((first | refine sp_not_dec ?_ ?_ | refine sp_dec ?_ ?_ | refine sp_beq ?_ ?_ | refine sp_bne ?_ ?_ | refine sp_seq ?_ ?_ | refine sp_sne ?_ ?_ | refine sp_not ?_ ?_ | refine sp_any ?_ ?_) <;> (intro hc; try simp only [List.length_map, List.length_append, List.length_cons, List.length_nil, Bool.and_true, Bool.and_eq_true, beq_iff_eq, Bool.and_eq_false_iff, beq_eq_false_iff_ne, Bool.true_and, ne_eq] at hc)) | (with_reducible first | refine norm_one ?_ | refine norm_app ?_ | refine norm_cutEnd ?_ | refine norm_cut ?_ | refine norm_bytes1 ?_ | refine norm_bytes2 ?_ | refine norm_setByte ?_ | refine norm_int1 ?_ | refine norm_mk ?_) | (with_reducible refine bytes_mk ?_) | (refine ar_byte ?_) | (refine ar_i64 (by omega) (by omega) ?_) | (refine ar_low ?_) | (refine ix_byteN (by omega) ?_) | (refine ix_byteK (by simp only [Int.reduceToNat]; exact rfl) (by decide) (by omega) ?_) | (refine ix_byte (by omega) (by omega) ?_) | (refine ix_rfl (by decide) rfl ?_) | (refine sd_mk rfl ?_) | (refine sd_mk (by decide +kernel) ?_) | (refine sd_mk (by first | (simp only [List.length_map, List.length_append, List.length_cons, List.length_nil]; done) | ((try simp only [List.length_map, List.length_append, List.length_cons, List.length_nil, List.length_set, List.length_replicate, List.length_drop, List.length_take, true_and, and_true]); omega) | (dsimp only; omega)) ?_) | (first | refine shl8 (by omega) (by omega) ?_ | refine shl4 (by omega) (by omega) ?_ | refine shl1 (by omega) (by omega) ?_ | refine shl16 (by omega) (by omega) ?_ | refine shl24 (by omega) (by omega) ?_ | refine shr8 (by decide) ?_ | refine shr4 (by decide) ?_ | refine shr1 (by decide) ?_ | refine shr16 (by decide) ?_ | refine shr24 (by decide) ?_) | (with_reducible first | refine bit_mk and_1 ?_ | refine bit_mk and_15 ?_ | refine bit_mk and_255 ?_ | refine bit_mk and_4095 ?_ | refine bit_mk and_65535 ?_) | (refine quo_pos (by omega) (by omega) (by omega) ?_) | (refine rem_pos (by omega) (by omega) ?_)))
  (any_goals (first | (exfalso; refine hc ?_; simp; done) | (exfalso; exact Bool.noConfusion hc) | (exfalso; exact hc (by with_reducible rfl)) | (exfalso; exact hc rfl) | skip))
  refine call_p owrong_meets o ho.bytes (VS.mk (LeL.of_eq rfl)) ?_
  (repeat' (first | (refine VS.mk ?_) | (refine dr_mk ?_) | (refine md_l ?_) | ((first | refine sp_not_dec ?_ ?_ | refine sp_dec ?_ ?_ | refine sp_beq ?_ ?_ | refine sp_bne ?_ ?_ | refine sp_seq ?_ ?_ | refine sp_sne ?_ ?_ | refine sp_not ?_ ?_ | refine sp_any ?_ ?_) <;> (intro hc; try simp only [List.length_map, List.length_append, List.length_cons, List.length_nil, Bool.and_true, Bool.and_eq_true, beq_iff_eq, Bool.and_eq_false_iff, beq_eq_false_iff_ne, Bool.true_and, ne_eq] at hc)) | (with_reducible first | refine norm_one ?_ | refine norm_app ?_ | refine norm_cutEnd ?_ | refine norm_cut ?_ | refine norm_bytes1 ?_ | refine norm_bytes2 ?_ | refine norm_setByte ?_ | refine norm_int1 ?_ | refine norm_mk ?_) | (with_reducible refine bytes_mk ?_) | (refine ar_byte ?_) | (refine ar_i64 (by omega) (by omega) ?_) | (refine ar_low ?_) | (refine ix_byteN (by omega) ?_) | (refine ix_byteK (by simp only [Int.reduceToNat]; exact rfl) (by decide) (by omega) ?_) | (refine ix_byte (by omega) (by omega) ?_) | (refine ix_rfl (by decide) rfl ?_) | (refine sd_mk rfl ?_) | (refine sd_mk (by decide +kernel) ?_) | (refine sd_mk (by first | (simp only [List.length_map, List.length_append, List.length_cons, List.length_nil]; done) | ((try simp only [List.length_map, List.length_append, List.length_cons, List.length_nil, List.length_set, List.length_replicate, List.length_drop, List.length_take, true_and, and_true]); omega) | (dsimp only; omega)) ?_) | (first | refine shl8 (by omega) (by omega) ?_ | refine shl4 (by omega) (by omega) ?_ | refine shl1 (by omega) (by omega) ?_ | refine shl16 (by omega) (by omega) ?_ | refine shl24 (by omega) (by omega) ?_ | refine shr8 (by decide) ?_ | refine shr4 (by decide) ?_ | refine shr1 (by decide) ?_ | refine shr16 (by decide) ?_ | refine shr24 (by decide) ?_) | (with_reducible first | refine bit_mk and_1 ?_ | refine bit_mk and_15 ?_ | refine bit_mk and_255 ?_ | refine bit_mk and_4095 ?_ | refine bit_mk and_65535 ?_) | (refine quo_pos (by omega) (by omega) (by omega) ?_) | (refine rem_pos (by omega) (by omega) ?_)))
  · have hw : wrongO o = 0 := hc
    have hok := wrong_ok hw
    obtain ⟨t1, t2⟩ := turn_there hw
    refine call_p obytes_meets o ho.bytes (VS.mk (LeL.of_eq rfl)) ?_
    rw [if_pos hw, hw]
    (repeat' (first | (refine VS.mk ?_) | (refine dr_mk ?_) | (refine md_l ?_) | ((first | refine sp_not_dec ?_ ?_ | refine sp_dec ?_ ?_ | refine sp_beq ?_ ?_ | refine sp_bne ?_ ?_ | refine sp_seq ?_ ?_ | refine sp_sne ?_ ?_ | refine sp_not ?_ ?_ | refine sp_any ?_ ?_) <;> (intro hc; try simp only [List.length_map, List.length_append, List.length_cons, List.length_nil, Bool.and_true, Bool.and_eq_true, beq_iff_eq, Bool.and_eq_false_iff, beq_eq_false_iff_ne, Bool.true_and, ne_eq] at hc)) | (with_reducible first | refine norm_one ?_ | refine norm_app ?_ | refine norm_cutEnd ?_ | refine norm_cut ?_ | refine norm_bytes1 ?_ | refine norm_bytes2 ?_ | refine norm_setByte ?_ | refine norm_int1 ?_ | refine norm_mk ?_) | (with_reducible refine bytes_mk ?_) | (refine ar_byte ?_) | (refine ar_i64 (by omega) (by omega) ?_) | (refine ar_low ?_) | (refine ix_byteN (by omega) ?_) | (refine ix_byteK (by simp only [Int.reduceToNat]; exact rfl) (by decide) (by omega) ?_) | (refine ix_byte (by omega) (by omega) ?_) | (refine ix_rfl (by decide) rfl ?_) | (refine sd_mk rfl ?_) | (refine sd_mk (by decide +kernel) ?_) | (refine sd_mk (by first | (simp only [List.length_map, List.length_append, List.length_cons, List.length_nil]; done) | ((try simp only [List.length_map, List.length_append, List.length_cons, List.length_nil, List.length_set, List.length_replicate, List.length_drop, List.length_take, true_and, and_true]); omega) | (dsimp only; omega)) ?_) | (first | refine shl8 (by omega) (by omega) ?_ | refine shl4 (by omega) (by omega) ?_ | refine shl1 (by omega) (by omega) ?_ | refine shl16 (by omega) (by omega) ?_ | refine shl24 (by omega) (by omega) ?_ | refine shr8 (by decide) ?_ | refine shr4 (by decide) ?_ | refine shr1 (by decide) ?_ | refine shr16 (by decide) ?_ | refine shr24 (by decide) ?_) | (with_reducible first | refine bit_mk and_1 ?_ | refine bit_mk and_15 ?_ | refine bit_mk and_255 ?_ | refine bit_mk and_4095 ?_ | refine bit_mk and_65535 ?_) | (refine quo_pos (by omega) (by omega) (by omega) ?_) | (refine rem_pos (by omega) (by omega) ?_)))
    refine call_p oparse_meets (objB o) hok.bytes_len (VS.mk (LeL.of_eq rfl)) ?_
    rw [t1, t2]
    (repeat' (first | (refine VS.mk ?_) | (refine dr_mk ?_) | (refine md_l ?_) | ((first | refine sp_not_dec ?_ ?_ | refine sp_dec ?_ ?_ | refine sp_beq ?_ ?_ | refine sp_bne ?_ ?_ | refine sp_seq ?_ ?_ | refine sp_sne ?_ ?_ | refine sp_not ?_ ?_ | refine sp_any ?_ ?_) <;> (intro hc; try simp only [List.length_map, List.length_append, List.length_cons, List.length_nil, Bool.and_true, Bool.and_eq_true, beq_iff_eq, Bool.and_eq_false_iff, beq_eq_false_iff_ne, Bool.true_and, ne_eq] at hc)) | (with_reducible first | refine norm_one ?_ | refine norm_app ?_ | refine norm_cutEnd ?_ | refine norm_cut ?_ | refine norm_bytes1 ?_ | refine norm_bytes2 ?_ | refine norm_setByte ?_ | refine norm_int1 ?_ | refine norm_mk ?_) | (with_reducible refine bytes_mk ?_) | (refine ar_byte ?_) | (refine ar_i64 (by omega) (by omega) ?_) | (refine ar_low ?_) | (refine ix_byteN (by omega) ?_) | (refine ix_byteK (by simp only [Int.reduceToNat]; exact rfl) (by decide) (by omega) ?_) | (refine ix_byte (by omega) (by omega) ?_) | (refine ix_rfl (by decide) rfl ?_) | (refine sd_mk rfl ?_) | (refine sd_mk (by decide +kernel) ?_) | (refine sd_mk (by first | (simp only [List.length_map, List.length_append, List.length_cons, List.length_nil]; done) | ((try simp only [List.length_map, List.length_append, List.length_cons, List.length_nil, List.length_set, List.length_replicate, List.length_drop, List.length_take, true_and, and_true]); omega) | (dsimp only; omega)) ?_) | (first | refine shl8 (by omega) (by omega) ?_ | refine shl4 (by omega) (by omega) ?_ | refine shl1 (by omega) (by omega) ?_ | refine shl16 (by omega) (by omega) ?_ | refine shl24 (by omega) (by omega) ?_ | refine shr8 (by decide) ?_ | refine shr4 (by decide) ?_ | refine shr1 (by decide) ?_ | refine shr16 (by decide) ?_ | refine shr24 (by decide) ?_) | (with_reducible first | refine bit_mk and_1 ?_ | refine bit_mk and_15 ?_ | refine bit_mk and_255 ?_ | refine bit_mk and_4095 ?_ | refine bit_mk and_65535 ?_) | (refine quo_pos (by omega) (by omega) (by omega) ?_) | (refine rem_pos (by omega) (by omega) ?_)))
    any_goals (first | exact absurd trivial hc | skip)
    refine call_p same_meets (o, o) ⟨by have := hok.syms; omega, by have := hok.rels; omega⟩ (VS.mk (LeL.of_eq rfl)) ?_
    dsimp only
    rw [sameO_yes rfl]
    (repeat' (first | (refine VS.mk ?_) | (refine dr_mk ?_) | (refine md_l ?_) | ((first | refine sp_not_dec ?_ ?_ | refine sp_dec ?_ ?_ | refine sp_beq ?_ ?_ | refine sp_bne ?_ ?_ | refine sp_seq ?_ ?_ | refine sp_sne ?_ ?_ | refine sp_not ?_ ?_ | refine sp_any ?_ ?_) <;> (intro hc; try simp only [List.length_map, List.length_append, List.length_cons, List.length_nil, Bool.and_true, Bool.and_eq_true, beq_iff_eq, Bool.and_eq_false_iff, beq_eq_false_iff_ne, Bool.true_and, ne_eq] at hc)) | (with_reducible first | refine norm_one ?_ | refine norm_app ?_ | refine norm_cutEnd ?_ | refine norm_cut ?_ | refine norm_bytes1 ?_ | refine norm_bytes2 ?_ | refine norm_setByte ?_ | refine norm_int1 ?_ | refine norm_mk ?_) | (with_reducible refine bytes_mk ?_) | (refine ar_byte ?_) | (refine ar_i64 (by omega) (by omega) ?_) | (refine ar_low ?_) | (refine ix_byteN (by omega) ?_) | (refine ix_byteK (by simp only [Int.reduceToNat]; exact rfl) (by decide) (by omega) ?_) | (refine ix_byte (by omega) (by omega) ?_) | (refine ix_rfl (by decide) rfl ?_) | (refine sd_mk rfl ?_) | (refine sd_mk (by decide +kernel) ?_) | (refine sd_mk (by first | (simp only [List.length_map, List.length_append, List.length_cons, List.length_nil]; done) | ((try simp only [List.length_map, List.length_append, List.length_cons, List.length_nil, List.length_set, List.length_replicate, List.length_drop, List.length_take, true_and, and_true]); omega) | (dsimp only; omega)) ?_) | (first | refine shl8 (by omega) (by omega) ?_ | refine shl4 (by omega) (by omega) ?_ | refine shl1 (by omega) (by omega) ?_ | refine shl16 (by omega) (by omega) ?_ | refine shl24 (by omega) (by omega) ?_ | refine shr8 (by decide) ?_ | refine shr4 (by decide) ?_ | refine shr1 (by decide) ?_ | refine shr16 (by decide) ?_ | refine shr24 (by decide) ?_) | (with_reducible first | refine bit_mk and_1 ?_ | refine bit_mk and_15 ?_ | refine bit_mk and_255 ?_ | refine bit_mk and_4095 ?_ | refine bit_mk and_65535 ?_) | (refine quo_pos (by omega) (by omega) (by omega) ?_) | (refine rem_pos (by omega) (by omega) ?_)))
    (any_goals (first | (exfalso; refine hc ?_; simp; done) | (exfalso; exact Bool.noConfusion hc) | (exfalso; exact hc (by with_reducible rfl)) | (exfalso; exact hc rfl) | skip))
    refine call_p oparse_meets b hb8 (VS.mk (LeL.of_eq rfl)) ?_
    (repeat' (first | (refine VS.mk ?_) | (refine dr_mk ?_) | (refine md_l ?_) | ((first | refine sp_not_dec ?_ ?_ | refine sp_dec ?_ ?_ | refine sp_beq ?_ ?_ | refine sp_bne ?_ ?_ | refine sp_seq ?_ ?_ | refine sp_sne ?_ ?_ | refine sp_not ?_ ?_ | refine sp_any ?_ ?_) <;> (intro hc; try simp only [List.length_map, List.length_append, List.length_cons, List.length_nil, Bool.and_true, Bool.and_eq_true, beq_iff_eq, Bool.and_eq_false_iff, beq_eq_false_iff_ne, Bool.true_and, ne_eq] at hc)) | (with_reducible first | refine norm_one ?_ | refine norm_app ?_ | refine norm_cutEnd ?_ | refine norm_cut ?_ | refine norm_bytes1 ?_ | refine norm_bytes2 ?_ | refine norm_setByte ?_ | refine norm_int1 ?_ | refine norm_mk ?_) | (with_reducible refine bytes_mk ?_) | (refine ar_byte ?_) | (refine ar_i64 (by omega) (by omega) ?_) | (refine ar_low ?_) | (refine ix_byteN (by omega) ?_) | (refine ix_byteK (by simp only [Int.reduceToNat]; exact rfl) (by decide) (by omega) ?_) | (refine ix_byte (by omega) (by omega) ?_) | (refine ix_rfl (by decide) rfl ?_) | (refine sd_mk rfl ?_) | (refine sd_mk (by decide +kernel) ?_) | (refine sd_mk (by first | (simp only [List.length_map, List.length_append, List.length_cons, List.length_nil]; done) | ((try simp only [List.length_map, List.length_append, List.length_cons, List.length_nil, List.length_set, List.length_replicate, List.length_drop, List.length_take, true_and, and_true]); omega) | (dsimp only; omega)) ?_) | (first | refine shl8 (by omega) (by omega) ?_ | refine shl4 (by omega) (by omega) ?_ | refine shl1 (by omega) (by omega) ?_ | refine shl16 (by omega) (by omega) ?_ | refine shl24 (by omega) (by omega) ?_ | refine shr8 (by decide) ?_ | refine shr4 (by decide) ?_ | refine shr1 (by decide) ?_ | refine shr16 (by decide) ?_ | refine shr24 (by decide) ?_) | (with_reducible first | refine bit_mk and_1 ?_ | refine bit_mk and_15 ?_ | refine bit_mk and_255 ?_ | refine bit_mk and_4095 ?_ | refine bit_mk and_65535 ?_) | (refine quo_pos (by omega) (by omega) (by omega) ?_) | (refine rem_pos (by omega) (by omega) ?_)))
    · rw [turn_none hc]
      have z1 : noObj.code.length = 0 := rfl
      have z2 : noObj.syms.length = 0 := rfl
      have z3 : noObj.rels.length = 0 := rfl
      (repeat' (first | (refine VS.mk ?_) | (refine dr_mk ?_) | (refine md_l ?_) | ((first | refine sp_not_dec ?_ ?_ | refine sp_dec ?_ ?_ | refine sp_beq ?_ ?_ | refine sp_bne ?_ ?_ | refine sp_seq ?_ ?_ | refine sp_sne ?_ ?_ | refine sp_not ?_ ?_ | refine sp_any ?_ ?_) <;> (intro hc; try simp only [List.length_map, List.length_append, List.length_cons, List.length_nil, Bool.and_true, Bool.and_eq_true, beq_iff_eq, Bool.and_eq_false_iff, beq_eq_false_iff_ne, Bool.true_and, ne_eq] at hc)) | (with_reducible first | refine norm_one ?_ | refine norm_app ?_ | refine norm_cutEnd ?_ | refine norm_cut ?_ | refine norm_bytes1 ?_ | refine norm_bytes2 ?_ | refine norm_setByte ?_ | refine norm_int1 ?_ | refine norm_mk ?_) | (with_reducible refine bytes_mk ?_) | (refine ar_byte ?_) | (refine ar_i64 (by omega) (by omega) ?_) | (refine ar_low ?_) | (refine ix_byteN (by omega) ?_) | (refine ix_byteK (by simp only [Int.reduceToNat]; exact rfl) (by decide) (by omega) ?_) | (refine ix_byte (by omega) (by omega) ?_) | (refine ix_rfl (by decide) rfl ?_) | (refine sd_mk rfl ?_) | (refine sd_mk (by decide +kernel) ?_) | (refine sd_mk (by first | (simp only [List.length_map, List.length_append, List.length_cons, List.length_nil]; done) | ((try simp only [List.length_map, List.length_append, List.length_cons, List.length_nil, List.length_set, List.length_replicate, List.length_drop, List.length_take, true_and, and_true]); omega) | (dsimp only; omega)) ?_) | (first | refine shl8 (by omega) (by omega) ?_ | refine shl4 (by omega) (by omega) ?_ | refine shl1 (by omega) (by omega) ?_ | refine shl16 (by omega) (by omega) ?_ | refine shl24 (by omega) (by omega) ?_ | refine shr8 (by decide) ?_ | refine shr4 (by decide) ?_ | refine shr1 (by decide) ?_ | refine shr16 (by decide) ?_ | refine shr24 (by decide) ?_) | (with_reducible first | refine bit_mk and_1 ?_ | refine bit_mk and_15 ?_ | refine bit_mk and_255 ?_ | refine bit_mk and_4095 ?_ | refine bit_mk and_65535 ?_) | (refine quo_pos (by omega) (by omega) (by omega) ?_) | (refine rem_pos (by omega) (by omega) ?_)))
      exact end_p (VS.mk (LeD.of_eq (congrArg D.bool (by simp [z1, z2, z3]))))
    · have hz : parseOE b = 0 := hc
      obtain ⟨b1, b2⟩ := turn_back hz
      have hok := wrong_ok b1
      refine call_p obytes_meets (parseO b) hok.inO.bytes (VS.mk (LeL.of_eq rfl)) ?_
      rw [if_pos b1, b1, b2]
      (repeat' (first | (refine VS.mk ?_) | (refine dr_mk ?_) | (refine md_l ?_) | ((first | refine sp_not_dec ?_ ?_ | refine sp_dec ?_ ?_ | refine sp_beq ?_ ?_ | refine sp_bne ?_ ?_ | refine sp_seq ?_ ?_ | refine sp_sne ?_ ?_ | refine sp_not ?_ ?_ | refine sp_any ?_ ?_) <;> (intro hc; try simp only [List.length_map, List.length_append, List.length_cons, List.length_nil, Bool.and_true, Bool.and_eq_true, beq_iff_eq, Bool.and_eq_false_iff, beq_eq_false_iff_ne, Bool.true_and, ne_eq] at hc)) | (with_reducible first | refine norm_one ?_ | refine norm_app ?_ | refine norm_cutEnd ?_ | refine norm_cut ?_ | refine norm_bytes1 ?_ | refine norm_bytes2 ?_ | refine norm_setByte ?_ | refine norm_int1 ?_ | refine norm_mk ?_) | (with_reducible refine bytes_mk ?_) | (refine ar_byte ?_) | (refine ar_i64 (by omega) (by omega) ?_) | (refine ar_low ?_) | (refine ix_byteN (by omega) ?_) | (refine ix_byteK (by simp only [Int.reduceToNat]; exact rfl) (by decide) (by omega) ?_) | (refine ix_byte (by omega) (by omega) ?_) | (refine ix_rfl (by decide) rfl ?_) | (refine sd_mk rfl ?_) | (refine sd_mk (by decide +kernel) ?_) | (refine sd_mk (by first | (simp only [List.length_map, List.length_append, List.length_cons, List.length_nil]; done) | ((try simp only [List.length_map, List.length_append, List.length_cons, List.length_nil, List.length_set, List.length_replicate, List.length_drop, List.length_take, true_and, and_true]); omega) | (dsimp only; omega)) ?_) | (first | refine shl8 (by omega) (by omega) ?_ | refine shl4 (by omega) (by omega) ?_ | refine shl1 (by omega) (by omega) ?_ | refine shl16 (by omega) (by omega) ?_ | refine shl24 (by omega) (by omega) ?_ | refine shr8 (by decide) ?_ | refine shr4 (by decide) ?_ | refine shr1 (by decide) ?_ | refine shr16 (by decide) ?_ | refine shr24 (by decide) ?_) | (with_reducible first | refine bit_mk and_1 ?_ | refine bit_mk and_15 ?_ | refine bit_mk and_255 ?_ | refine bit_mk and_4095 ?_ | refine bit_mk and_65535 ?_) | (refine quo_pos (by omega) (by omega) (by omega) ?_) | (refine rem_pos (by omega) (by omega) ?_)))
      · exact end_p (VS.mk (LeD.of_eq (congrArg D.bool (by simp))))
      · exact absurd trivial hc
  refine call_p oparse_meets b hb8 (VS.mk (LeL.of_eq rfl)) ?_
  (repeat' (first | (refine VS.mk ?_) | (refine dr_mk ?_) | (refine md_l ?_) | ((first | refine sp_not_dec ?_ ?_ | refine sp_dec ?_ ?_ | refine sp_beq ?_ ?_ | refine sp_bne ?_ ?_ | refine sp_seq ?_ ?_ | refine sp_sne ?_ ?_ | refine sp_not ?_ ?_ | refine sp_any ?_ ?_) <;> (intro hc; try simp only [List.length_map, List.length_append, List.length_cons, List.length_nil, Bool.and_true, Bool.and_eq_true, beq_iff_eq, Bool.and_eq_false_iff, beq_eq_false_iff_ne, Bool.true_and, ne_eq] at hc)) | (with_reducible first | refine norm_one ?_ | refine norm_app ?_ | refine norm_cutEnd ?_ | refine norm_cut ?_ | refine norm_bytes1 ?_ | refine norm_bytes2 ?_ | refine norm_setByte ?_ | refine norm_int1 ?_ | refine norm_mk ?_) | (with_reducible refine bytes_mk ?_) | (refine ar_byte ?_) | (refine ar_i64 (by omega) (by omega) ?_) | (refine ar_low ?_) | (refine ix_byteN (by omega) ?_) | (refine ix_byteK (by simp only [Int.reduceToNat]; exact rfl) (by decide) (by omega) ?_) | (refine ix_byte (by omega) (by omega) ?_) | (refine ix_rfl (by decide) rfl ?_) | (refine sd_mk rfl ?_) | (refine sd_mk (by decide +kernel) ?_) | (refine sd_mk (by first | (simp only [List.length_map, List.length_append, List.length_cons, List.length_nil]; done) | ((try simp only [List.length_map, List.length_append, List.length_cons, List.length_nil, List.length_set, List.length_replicate, List.length_drop, List.length_take, true_and, and_true]); omega) | (dsimp only; omega)) ?_) | (first | refine shl8 (by omega) (by omega) ?_ | refine shl4 (by omega) (by omega) ?_ | refine shl1 (by omega) (by omega) ?_ | refine shl16 (by omega) (by omega) ?_ | refine shl24 (by omega) (by omega) ?_ | refine shr8 (by decide) ?_ | refine shr4 (by decide) ?_ | refine shr1 (by decide) ?_ | refine shr16 (by decide) ?_ | refine shr24 (by decide) ?_) | (with_reducible first | refine bit_mk and_1 ?_ | refine bit_mk and_15 ?_ | refine bit_mk and_255 ?_ | refine bit_mk and_4095 ?_ | refine bit_mk and_65535 ?_) | (refine quo_pos (by omega) (by omega) (by omega) ?_) | (refine rem_pos (by omega) (by omega) ?_)))
  · rw [turn_none hc]
    have z1 : noObj.code.length = 0 := rfl
    have z2 : noObj.syms.length = 0 := rfl
    have z3 : noObj.rels.length = 0 := rfl
    (repeat' (first | (refine VS.mk ?_) | (refine dr_mk ?_) | (refine md_l ?_) | ((first | refine sp_not_dec ?_ ?_ | refine sp_dec ?_ ?_ | refine sp_beq ?_ ?_ | refine sp_bne ?_ ?_ | refine sp_seq ?_ ?_ | refine sp_sne ?_ ?_ | refine sp_not ?_ ?_ | refine sp_any ?_ ?_) <;> (intro hc; try simp only [List.length_map, List.length_append, List.length_cons, List.length_nil, Bool.and_true, Bool.and_eq_true, beq_iff_eq, Bool.and_eq_false_iff, beq_eq_false_iff_ne, Bool.true_and, ne_eq] at hc)) | (with_reducible first | refine norm_one ?_ | refine norm_app ?_ | refine norm_cutEnd ?_ | refine norm_cut ?_ | refine norm_bytes1 ?_ | refine norm_bytes2 ?_ | refine norm_setByte ?_ | refine norm_int1 ?_ | refine norm_mk ?_) | (with_reducible refine bytes_mk ?_) | (refine ar_byte ?_) | (refine ar_i64 (by omega) (by omega) ?_) | (refine ar_low ?_) | (refine ix_byteN (by omega) ?_) | (refine ix_byteK (by simp only [Int.reduceToNat]; exact rfl) (by decide) (by omega) ?_) | (refine ix_byte (by omega) (by omega) ?_) | (refine ix_rfl (by decide) rfl ?_) | (refine sd_mk rfl ?_) | (refine sd_mk (by decide +kernel) ?_) | (refine sd_mk (by first | (simp only [List.length_map, List.length_append, List.length_cons, List.length_nil]; done) | ((try simp only [List.length_map, List.length_append, List.length_cons, List.length_nil, List.length_set, List.length_replicate, List.length_drop, List.length_take, true_and, and_true]); omega) | (dsimp only; omega)) ?_) | (first | refine shl8 (by omega) (by omega) ?_ | refine shl4 (by omega) (by omega) ?_ | refine shl1 (by omega) (by omega) ?_ | refine shl16 (by omega) (by omega) ?_ | refine shl24 (by omega) (by omega) ?_ | refine shr8 (by decide) ?_ | refine shr4 (by decide) ?_ | refine shr1 (by decide) ?_ | refine shr16 (by decide) ?_ | refine shr24 (by decide) ?_) | (with_reducible first | refine bit_mk and_1 ?_ | refine bit_mk and_15 ?_ | refine bit_mk and_255 ?_ | refine bit_mk and_4095 ?_ | refine bit_mk and_65535 ?_) | (refine quo_pos (by omega) (by omega) (by omega) ?_) | (refine rem_pos (by omega) (by omega) ?_)))
    exact end_p (VS.mk (LeD.of_eq (congrArg D.bool (by simp [z1, z2, z3]))))
  · have hz : parseOE b = 0 := hc
    obtain ⟨b1, b2⟩ := turn_back hz
    have hok := wrong_ok b1
    refine call_p obytes_meets (parseO b) hok.inO.bytes (VS.mk (LeL.of_eq rfl)) ?_
    rw [if_pos b1, b1, b2]
    (repeat' (first | (refine VS.mk ?_) | (refine dr_mk ?_) | (refine md_l ?_) | ((first | refine sp_not_dec ?_ ?_ | refine sp_dec ?_ ?_ | refine sp_beq ?_ ?_ | refine sp_bne ?_ ?_ | refine sp_seq ?_ ?_ | refine sp_sne ?_ ?_ | refine sp_not ?_ ?_ | refine sp_any ?_ ?_) <;> (intro hc; try simp only [List.length_map, List.length_append, List.length_cons, List.length_nil, Bool.and_true, Bool.and_eq_true, beq_iff_eq, Bool.and_eq_false_iff, beq_eq_false_iff_ne, Bool.true_and, ne_eq] at hc)) | (with_reducible first | refine norm_one ?_ | refine norm_app ?_ | refine norm_cutEnd ?_ | refine norm_cut ?_ | refine norm_bytes1 ?_ | refine norm_bytes2 ?_ | refine norm_setByte ?_ | refine norm_int1 ?_ | refine norm_mk ?_) | (with_reducible refine bytes_mk ?_) | (refine ar_byte ?_) | (refine ar_i64 (by omega) (by omega) ?_) | (refine ar_low ?_) | (refine ix_byteN (by omega) ?_) | (refine ix_byteK (by simp only [Int.reduceToNat]; exact rfl) (by decide) (by omega) ?_) | (refine ix_byte (by omega) (by omega) ?_) | (refine ix_rfl (by decide) rfl ?_) | (refine sd_mk rfl ?_) | (refine sd_mk (by decide +kernel) ?_) | (refine sd_mk (by first | (simp only [List.length_map, List.length_append, List.length_cons, List.length_nil]; done) | ((try simp only [List.length_map, List.length_append, List.length_cons, List.length_nil, List.length_set, List.length_replicate, List.length_drop, List.length_take, true_and, and_true]); omega) | (dsimp only; omega)) ?_) | (first | refine shl8 (by omega) (by omega) ?_ | refine shl4 (by omega) (by omega) ?_ | refine shl1 (by omega) (by omega) ?_ | refine shl16 (by omega) (by omega) ?_ | refine shl24 (by omega) (by omega) ?_ | refine shr8 (by decide) ?_ | refine shr4 (by decide) ?_ | refine shr1 (by decide) ?_ | refine shr16 (by decide) ?_ | refine shr24 (by decide) ?_) | (with_reducible first | refine bit_mk and_1 ?_ | refine bit_mk and_15 ?_ | refine bit_mk and_255 ?_ | refine bit_mk and_4095 ?_ | refine bit_mk and_65535 ?_) | (refine quo_pos (by omega) (by omega) (by omega) ?_) | (refine rem_pos (by omega) (by omega) ?_)))
    · exact end_p (VS.mk (LeD.of_eq (congrArg D.bool (by simp))))
    · exact absurd trivial hc
end Go.Proofs.Ytmeigmpjpkinoaa

/-
  What the bound on what is handed in gives.
-/
namespace Go.Proofs.Ytmeigmpjpkinoaa
open Go Go.Plat
set_option linter.unusedVariables false
set_option linter.unusedSimpArgs false
set_option maxRecDepth 100000
set_option maxHeartbeats 2000000
attribute [local irreducible] NilS LookS NormM bitI BytesS NormL Arith QuoS RemS ShlS ShrS BitS CatS SplitS SideS IdxS CallS LoopEnd EndS ModeS DrawS AWP Meets
theorem own : ownKnob Try.prog.godebug = none := by kernel_rfl

theorem one_le {H : Type} (d : DataW H) : 1 ≤ Rows.uptoBulk d := by
  cases d with
  | lit l => cases l <;> simp [Rows.uptoBulk]
  | nil => simp [Rows.uptoBulk]
  | ptr d => simp [Rows.uptoBulk]
  | slice el sp => simp [Rows.uptoBulk]
  | agg ps => simp [Rows.uptoBulk]
  | iface t d => simp [Rows.uptoBulk]
  | map es => simp [Rows.uptoBulk]
  | held h => simp [Rows.uptoBulk]
theorem part_le {H : Type} {d : DataW H} {l : List (DataW H)} (h : d ∈ l) : Rows.uptoBulk d ≤ Rows.uptoBulkAll l := by
  induction l with
  | nil => cases h
  | cons x r ih =>
    simp only [Rows.uptoBulkAll]
    cases List.mem_cons.1 h with
    | inl e => subst e; omega
    | inr e => have := ih e; omega
theorem length_le {H : Type} (l : List (DataW H)) : l.length ≤ Rows.uptoBulkAll l := by
  induction l with
  | nil => simp [Rows.uptoBulkAll]
  | cons x r ih => have := one_le x; simp only [Rows.uptoBulkAll, List.length_cons]; omega
theorem elems_all {H : Type} (d : DataW H) : Rows.uptoBulkAll (elems d) ≤ Rows.uptoBulk d := by
  cases d <;> simp only [elems, Rows.uptoBulk, Rows.uptoBulkAll] <;> omega
theorem elems_le {H : Type} (d : DataW H) : (elems d).length ≤ Rows.uptoBulk d := Nat.le_trans (length_le _) (elems_all d)
theorem bound {H : Type} {l : List (DataW H)} (hk : Rows.uptoSmall H l = true) : Rows.uptoBulkAll l ≤ 1048576 := of_decide_eq_true hk
end Go.Proofs.Ytmeigmpjpkinoaa

/-
  What an object reads as.
-/
namespace Go.Proofs.Ytmeigmpjpkinoaa
open Go Go.Plat
set_option linter.unusedVariables false
set_option linter.unusedSimpArgs false
set_option maxRecDepth 100000
set_option maxHeartbeats 2000000
attribute [local irreducible] NilS LookS NormM bitI BytesS NormL Arith QuoS RemS ShlS ShrS BitS CatS SplitS SideS IdxS CallS LoopEnd EndS ModeS DrawS AWP Meets

abbrev i64Sh : Sh := .int .i64
abbrev bytesSh : Sh := .sl 1 (.int .u8)
def symSh : Sh := .fld .str (.fld i64Sh .fin)
def relSh : Sh := .fld i64Sh (.fld i64Sh (.fld .str (.fld i64Sh .fin)))
def objSh : Sh := .fld bytesSh (.fld (.sl 2 symSh) (.fld (.sl 4 relSh) .fin))
theorem fit_sym {H : Type} {d : DataW H} (h : fit symSh (.inl d)) : ∃ s : OSym, rd symSh d = symD s ∧ s.name.length ≤ Rows.uptoBulk d := by
  obtain ⟨p0, r0, rfl, h0, k0⟩ := fit_fld h
  obtain ⟨p1, r1, rfl, h1, k1⟩ := fit_more k0
  obtain rfl := fit_fin k1
  obtain ⟨s, rfl, e0⟩ := fit_str h0
  obtain ⟨n, e1, _⟩ := fit_i64 h1
  refine ⟨⟨s, n⟩, ?_, ?_⟩
  · unfold symSh
    rw [rd_fld]
    simp only [rdF_cons, rdF_nil]
    rw [cl_one e0 rfl (by simp), cl_one e1 rfl (by simp)]
    rfl
  · simp only [Rows.uptoBulk, Rows.uptoBulkAll]
    omega
theorem fit_rel {H : Type} {d : DataW H} (h : fit relSh (.inl d)) : ∃ r : ORel, rd relSh d = relD r ∧ -9223372036854775808 ≤ r.at_ ∧ r.at_ ≤ 9223372036854775807 ∧ r.name.length ≤ Rows.uptoBulk d := by
  obtain ⟨p0, r0, rfl, h0, k0⟩ := fit_fld h
  obtain ⟨p1, r1, rfl, h1, k1⟩ := fit_more k0
  obtain ⟨p2, r2, rfl, h2, k2⟩ := fit_more k1
  obtain ⟨p3, r3, rfl, h3, k3⟩ := fit_more k2
  obtain rfl := fit_fin k3
  obtain ⟨n0, e0, b1, b2⟩ := fit_i64 h0
  obtain ⟨n1, e1, _⟩ := fit_i64 h1
  obtain ⟨s, rfl, e2⟩ := fit_str h2
  obtain ⟨n3, e3, _⟩ := fit_i64 h3
  refine ⟨⟨n0, n1, s, n3⟩, ?_, b1, b2, ?_⟩
  · unfold relSh
    rw [rd_fld]
    simp only [rdF_cons, rdF_nil]
    rw [cl_one e0 rfl (by simp), cl_one e1 rfl (by simp), cl_one e2 rfl (by simp), cl_one e3 rfl (by simp)]
    rfl
  · simp only [Rows.uptoBulk, Rows.uptoBulkAll]
    omega
theorem mem_pair {α β : Type} {l : List α} {m : List β} (h : l.length = m.length) {a : α} (ha : a ∈ l) : ∃ (i : Nat) (x : β), m[i]? = some x ∧ l[i]? = some a := by
  obtain ⟨i, hi, rfl⟩ := List.getElem_of_mem ha
  exact ⟨i, m[i], List.getElem?_eq_getElem (by omega), List.getElem?_eq_getElem hi⟩
theorem fit_obj {H : Type} {d : DataW H} (h : fit objSh (.inl d)) (hb : Rows.uptoBulk d ≤ 1048576) : ∃ o : OObj, rd objSh d = objD o ∧ InO o := by
  obtain ⟨p0, r0, rfl, h0, k0⟩ := fit_fld h
  obtain ⟨p1, r1, rfl, h1, k1⟩ := fit_more k0
  obtain ⟨p2, r2, rfl, h2, k2⟩ := fit_more k1
  obtain rfl := fit_fin k2
  obtain ⟨b, e0, l0⟩ := fit_bytes h0
  obtain ⟨ss, e1, l1, q1⟩ := fit_sl (g := symD) (Q := fun d s => s.name.length ≤ Rows.uptoBulk d) h1 fun x _ hx => fit_sym hx
  obtain ⟨rs, e2, l2, q2⟩ := fit_sl (g := relD) (Q := fun d r => -9223372036854775808 ≤ r.at_ ∧ r.at_ ≤ 9223372036854775807 ∧ r.name.length ≤ Rows.uptoBulk d) h2 fun x _ hx => fit_rel hx
  simp only [Rows.uptoBulk, Rows.uptoBulkAll] at hb
  have b0 := elems_le p0
  have b1 := elems_le p1
  have b2 := elems_le p2
  have a1 := elems_all p1
  have a2 := elems_all p2
  refine ⟨⟨b, ss, rs⟩, ?_, by dsimp only; omega, by dsimp only; omega, by dsimp only; omega, fun r hr => ?_, fun s hs => ?_⟩
  · unfold objSh
    rw [rd_fld]
    simp only [rdF_cons, rdF_nil]
    rw [cl_one e0 rfl (by simp [bytesD]), cl_one e1 rfl (by simp), cl_one e2 rfl (by simp)]
    rfl
  · obtain ⟨i, x, hx, hi⟩ := mem_pair l2 hr
    obtain ⟨c1, c2, c3⟩ := q2 i x r hx hi
    have := part_le (List.mem_of_getElem? hx)
    exact ⟨c1, c2, by omega⟩
  · obtain ⟨i, x, hx, hi⟩ := mem_pair l1 hs
    have c3 := q1 i x s hx hi
    have := part_le (List.mem_of_getElem? hx)
    omega
end Go.Proofs.Ytmeigmpjpkinoaa

namespace Go.Proofs.Ytmeigmpjpkinoaa
open Go Go.Plat
set_option linter.unusedVariables false
set_option linter.unusedSimpArgs false
set_option maxRecDepth 100000
set_option maxHeartbeats 2000000
attribute [local irreducible] NilS LookS NormM bitI BytesS NormL Arith QuoS RemS ShlS ShrS BitS CatS SplitS SideS IdxS CallS LoopEnd EndS ModeS DrawS AWP Meets
theorem kind_letter {c : UInt8} (h : kindB c = 97) : letterB c = true := by
  unfold kindB at h
  split at h
  · assumption
  split at h
  · cases h
  split at h <;> cases h
theorem kind_digit {c : UInt8} (h : kindB c = 48) : digitB c = true := by
  unfold kindB at h
  split at h
  · cases h
  split at h
  · assumption
  split at h <;> cases h
theorem kind_else {c : UInt8} (h : ¬ kindB c = 97) : letterB c = false := by
  unfold kindB at h
  split at h
  · exact (h rfl).elim
  · simpa using ‹¬ letterB c = true›
theorem kind_none {c : UInt8} (h : ¬ kindB c = 97) (h2 : ¬ kindB c = 48) : okC c = false := by
  have hl := kind_else h
  have hd : digitB c = false := by
    unfold kindB at h2
    rw [hl, if_neg (by decide)] at h2
    split at h2
    · exact (h2 rfl).elim
    · simpa using ‹¬ digitB c = true›
  unfold okC
  rw [hl, hd]
  rfl
theorem ok46 {c : UInt8} (h : ((c.toNat : Nat) : Int) = 46) : okC c = false := by
  have : c = 46 := UInt8.toNat_inj.1 (by exact_mod_cast h)
  subst this
  rfl
theorem okL {c : UInt8} (h : ¬ ((c.toNat : Nat) : Int) = 46) (h2 : letterB c = true ∨ digitB c = true) : okC c = true := by
  have n46 : (c == 46) = false := beq_eq_false_iff_ne.2 fun e => h (by rw [e]; rfl)
  unfold okC
  rw [n46]
  rcases h2 with h | h <;> rw [h] <;> simp
theorem nameB_bad {s : List UInt8} (h : s.all okC = false) : nameB s = false := by
  show (_ && letterB (s.getD 0 0) && s.all okC) = false
  rw [h, Bool.and_false]
theorem nameB_good {s : List UInt8} (h1 : 1 ≤ s.length ∧ s.length ≤ 10) (h2 : letterB (s.getD 0 0) = true) (h : s.all okC = true) : nameB s = true := by
  show (_ && letterB (s.getD 0 0) && s.all okC) = true
  rw [h, h2, decide_eq_true h1]
  rfl
attribute [local irreducible] letterB digitB kindB okC

theorem rname_meets : Meets Try.prog n_plref1_Name (SpecP (fun s : List UInt8 => s.length ≤ 1000000000) (fun s => [.str s]) fun s => .bool (nameB s)) := by
  refine meets_f tabOk Try.func32 rfl (by decide) fun s hs => ?_
  refine ⟨Nat.le_refl _, by simp [Try.f32], fun E hE => ?_⟩
  refine vcOk _ ?_
  (repeat' (first | (refine VS.mk ?_) | (refine dr_mk ?_) | (refine md_l ?_) | ((first | refine sp_not_dec ?_ ?_ | refine sp_dec ?_ ?_ | refine sp_beq ?_ ?_ | refine sp_bne ?_ ?_ | refine sp_seq ?_ ?_ | refine sp_sne ?_ ?_ | refine sp_not ?_ ?_ | refine sp_any ?_ ?_) <;> (intro hc; try simp only [List.length_map, List.length_append, List.length_cons, List.length_nil, Bool.and_true, Bool.and_eq_true, beq_iff_eq, Bool.and_eq_false_iff, beq_eq_false_iff_ne, Bool.true_and, ne_eq] at hc)) | (with_reducible first | refine norm_one ?_ | refine norm_app ?_ | refine norm_cutEnd ?_ | refine norm_cut ?_ | refine norm_bytes1 ?_ | refine norm_bytes2 ?_ | refine norm_setByte ?_ | refine norm_int1 ?_ | refine norm_mk ?_) | (with_reducible refine bytes_mk ?_) | (refine ar_byte ?_) | (refine ar_i64 (by omega) (by omega) ?_) | (refine ar_low ?_) | (refine ix_byteN (by omega) ?_) | (refine ix_byteK (by simp only [Int.reduceToNat]; exact rfl) (by decide) (by omega) ?_) | (refine ix_byte (by omega) (by omega) ?_) | (refine ix_rfl (by decide) rfl ?_) | (refine sd_mk rfl ?_) | (refine sd_mk (by decide +kernel) ?_) | (refine sd_mk (by first | (simp only [List.length_map, List.length_append, List.length_cons, List.length_nil]; done) | ((try simp only [List.length_map, List.length_append, List.length_cons, List.length_nil, List.length_set, List.length_replicate, List.length_drop, List.length_take, true_and, and_true]); omega) | (dsimp only; omega)) ?_) | (first | refine shl8 (by omega) (by omega) ?_ | refine shl4 (by omega) (by omega) ?_ | refine shl1 (by omega) (by omega) ?_ | refine shl16 (by omega) (by omega) ?_ | refine shl24 (by omega) (by omega) ?_ | refine shr8 (by decide) ?_ | refine shr4 (by decide) ?_ | refine shr1 (by decide) ?_ | refine shr16 (by decide) ?_ | refine shr24 (by decide) ?_) | (with_reducible first | refine bit_mk and_1 ?_ | refine bit_mk and_15 ?_ | refine bit_mk and_255 ?_ | refine bit_mk and_4095 ?_ | refine bit_mk and_65535 ?_) | (refine quo_pos (by omega) (by omega) (by omega) ?_) | (refine rem_pos (by omega) (by omega) ?_)))
  · subst hc
    exact end_p (VS.mk (LeD.ff rfl))
  · refine end_p (VS.mk (LeD.ff ?_))
    unfold nameB
    rw [decide_eq_false (by omega)]
    rfl
  have hne : 0 < s.length := by
    cases s with
    | nil => exact (‹¬ ([] : List UInt8) = []› rfl).elim
    | cons a l => simp
  refine sd_mk ⟨by omega, by omega⟩ ?_
  (repeat' (first | (refine VS.mk ?_) | (refine dr_mk ?_) | (refine md_l ?_) | ((first | refine sp_not_dec ?_ ?_ | refine sp_dec ?_ ?_ | refine sp_beq ?_ ?_ | refine sp_bne ?_ ?_ | refine sp_seq ?_ ?_ | refine sp_sne ?_ ?_ | refine sp_not ?_ ?_ | refine sp_any ?_ ?_) <;> (intro hc; try simp only [List.length_map, List.length_append, List.length_cons, List.length_nil, Bool.and_true, Bool.and_eq_true, beq_iff_eq, Bool.and_eq_false_iff, beq_eq_false_iff_ne, Bool.true_and, ne_eq] at hc)) | (with_reducible first | refine norm_one ?_ | refine norm_app ?_ | refine norm_cutEnd ?_ | refine norm_cut ?_ | refine norm_bytes1 ?_ | refine norm_bytes2 ?_ | refine norm_setByte ?_ | refine norm_int1 ?_ | refine norm_mk ?_) | (with_reducible refine bytes_mk ?_) | (refine ar_byte ?_) | (refine ar_i64 (by omega) (by omega) ?_) | (refine ar_low ?_) | (refine ix_byteN (by omega) ?_) | (refine ix_byteK (by simp only [Int.reduceToNat]; exact rfl) (by decide) (by omega) ?_) | (refine ix_byte (by omega) (by omega) ?_) | (refine ix_rfl (by decide) rfl ?_) | (refine sd_mk rfl ?_) | (refine sd_mk (by decide +kernel) ?_) | (refine sd_mk (by first | (simp only [List.length_map, List.length_append, List.length_cons, List.length_nil]; done) | ((try simp only [List.length_map, List.length_append, List.length_cons, List.length_nil, List.length_set, List.length_replicate, List.length_drop, List.length_take, true_and, and_true]); omega) | (dsimp only; omega)) ?_) | (first | refine shl8 (by omega) (by omega) ?_ | refine shl4 (by omega) (by omega) ?_ | refine shl1 (by omega) (by omega) ?_ | refine shl16 (by omega) (by omega) ?_ | refine shl24 (by omega) (by omega) ?_ | refine shr8 (by decide) ?_ | refine shr4 (by decide) ?_ | refine shr1 (by decide) ?_ | refine shr16 (by decide) ?_ | refine shr24 (by decide) ?_) | (with_reducible first | refine bit_mk and_1 ?_ | refine bit_mk and_15 ?_ | refine bit_mk and_255 ?_ | refine bit_mk and_4095 ?_ | refine bit_mk and_65535 ?_) | (refine quo_pos (by omega) (by omega) (by omega) ?_) | (refine rem_pos (by omega) (by omega) ?_)))
  refine call_p kind_meets (s.getD 0 0) trivial (VS.mk (LeL.of_eq rfl)) ?_
  (repeat' (first | (refine VS.mk ?_) | (refine dr_mk ?_) | (refine md_l ?_) | ((first | refine sp_not_dec ?_ ?_ | refine sp_dec ?_ ?_ | refine sp_beq ?_ ?_ | refine sp_bne ?_ ?_ | refine sp_seq ?_ ?_ | refine sp_sne ?_ ?_ | refine sp_not ?_ ?_ | refine sp_any ?_ ?_) <;> (intro hc; try simp only [List.length_map, List.length_append, List.length_cons, List.length_nil, Bool.and_true, Bool.and_eq_true, beq_iff_eq, Bool.and_eq_false_iff, beq_eq_false_iff_ne, Bool.true_and, ne_eq] at hc)) | (with_reducible first | refine norm_one ?_ | refine norm_app ?_ | refine norm_cutEnd ?_ | refine norm_cut ?_ | refine norm_bytes1 ?_ | refine norm_bytes2 ?_ | refine norm_setByte ?_ | refine norm_int1 ?_ | refine norm_mk ?_) | (with_reducible refine bytes_mk ?_) | (refine ar_byte ?_) | (refine ar_i64 (by omega) (by omega) ?_) | (refine ar_low ?_) | (refine ix_byteN (by omega) ?_) | (refine ix_byteK (by simp only [Int.reduceToNat]; exact rfl) (by decide) (by omega) ?_) | (refine ix_byte (by omega) (by omega) ?_) | (refine ix_rfl (by decide) rfl ?_) | (refine sd_mk rfl ?_) | (refine sd_mk (by decide +kernel) ?_) | (refine sd_mk (by first | (simp only [List.length_map, List.length_append, List.length_cons, List.length_nil]; done) | ((try simp only [List.length_map, List.length_append, List.length_cons, List.length_nil, List.length_set, List.length_replicate, List.length_drop, List.length_take, true_and, and_true]); omega) | (dsimp only; omega)) ?_) | (first | refine shl8 (by omega) (by omega) ?_ | refine shl4 (by omega) (by omega) ?_ | refine shl1 (by omega) (by omega) ?_ | refine shl16 (by omega) (by omega) ?_ | refine shl24 (by omega) (by omega) ?_ | refine shr8 (by decide) ?_ | refine shr4 (by decide) ?_ | refine shr1 (by decide) ?_ | refine shr16 (by decide) ?_ | refine shr24 (by decide) ?_) | (with_reducible first | refine bit_mk and_1 ?_ | refine bit_mk and_15 ?_ | refine bit_mk and_255 ?_ | refine bit_mk and_4095 ?_ | refine bit_mk and_65535 ?_) | (refine quo_pos (by omega) (by omega) (by omega) ?_) | (refine rem_pos (by omega) (by omega) ?_)))
  · refine end_p (VS.mk (LeD.ff ?_))
    show (_ && letterB (s.getD 0 0) && _) = false
    rw [kind_else hc, Bool.and_false, Bool.false_and]
  have hl0 : letterB (s.getD 0 0) = true := kind_letter hc
  refine awp_loop (α := Nat) (fun k => k ≤ s.length ∧ (s.take k).all okC = true) (fun k => [(0, .str s), (18, .int .i64 s.length), (19, .int .i64 k)]) (fun _ => []) (fun k => s.length - k) (fun _ => by simp [hE]) 0 ⟨Nat.zero_le _, by simp⟩ ?_ ?_
  · (repeat' (first | (refine VS.mk ?_) | exact trivial | exact rfl | refine And.intro ?_ ?_))
  rintro k ⟨hk, hall⟩
  refine vcOk _ ?_
  (repeat' (first | (refine VS.mk ?_) | (refine dr_mk ?_) | (refine md_l ?_) | ((first | refine sp_not_dec ?_ ?_ | refine sp_dec ?_ ?_ | refine sp_beq ?_ ?_ | refine sp_bne ?_ ?_ | refine sp_seq ?_ ?_ | refine sp_sne ?_ ?_ | refine sp_not ?_ ?_ | refine sp_any ?_ ?_) <;> (intro hc; try simp only [List.length_map, List.length_append, List.length_cons, List.length_nil, Bool.and_true, Bool.and_eq_true, beq_iff_eq, Bool.and_eq_false_iff, beq_eq_false_iff_ne, Bool.true_and, ne_eq] at hc)) | (with_reducible first | refine norm_one ?_ | refine norm_app ?_ | refine norm_cutEnd ?_ | refine norm_cut ?_ | refine norm_bytes1 ?_ | refine norm_bytes2 ?_ | refine norm_setByte ?_ | refine norm_int1 ?_ | refine norm_mk ?_) | (with_reducible refine bytes_mk ?_) | (refine ar_byte ?_) | (refine ar_i64 (by omega) (by omega) ?_) | (refine ar_low ?_) | (refine ix_byteN (by omega) ?_) | (refine ix_byteK (by simp only [Int.reduceToNat]; exact rfl) (by decide) (by omega) ?_) | (refine ix_byte (by omega) (by omega) ?_) | (refine ix_rfl (by decide) rfl ?_) | (refine sd_mk rfl ?_) | (refine sd_mk (by decide +kernel) ?_) | (refine sd_mk (by first | (simp only [List.length_map, List.length_append, List.length_cons, List.length_nil]; done) | ((try simp only [List.length_map, List.length_append, List.length_cons, List.length_nil, List.length_set, List.length_replicate, List.length_drop, List.length_take, true_and, and_true]); omega) | (dsimp only; omega)) ?_) | (first | refine shl8 (by omega) (by omega) ?_ | refine shl4 (by omega) (by omega) ?_ | refine shl1 (by omega) (by omega) ?_ | refine shl16 (by omega) (by omega) ?_ | refine shl24 (by omega) (by omega) ?_ | refine shr8 (by decide) ?_ | refine shr4 (by decide) ?_ | refine shr1 (by decide) ?_ | refine shr16 (by decide) ?_ | refine shr24 (by decide) ?_) | (with_reducible first | refine bit_mk and_1 ?_ | refine bit_mk and_15 ?_ | refine bit_mk and_255 ?_ | refine bit_mk and_4095 ?_ | refine bit_mk and_65535 ?_) | (refine quo_pos (by omega) (by omega) (by omega) ?_) | (refine rem_pos (by omega) (by omega) ?_)))
  · have hsp := all_stop (p := okC) (s := s) (k := k) (by omega)
    rw [Int.toNat_natCast] at hc
    exact end_p (VS.mk (LeD.ff (nameB_bad (hsp (ok46 hc)))))
  · have hidx : ((k : Int)).toNat = k := Int.toNat_natCast k
    have hk' : k < s.length := by omega
    have hst := all_take (p := okC) hk'
    have hsp := all_stop (p := okC) hk'
    have h46 := hc
    rw [hidx] at h46
    refine call_p kind_meets (s.getD k 0) trivial (VS.mk (LeL.of_eq (by rw [hidx]; rfl))) ?_
    (repeat' (first | (refine VS.mk ?_) | (refine dr_mk ?_) | (refine md_l ?_) | ((first | refine sp_not_dec ?_ ?_ | refine sp_dec ?_ ?_ | refine sp_beq ?_ ?_ | refine sp_bne ?_ ?_ | refine sp_seq ?_ ?_ | refine sp_sne ?_ ?_ | refine sp_not ?_ ?_ | refine sp_any ?_ ?_) <;> (intro hc; try simp only [List.length_map, List.length_append, List.length_cons, List.length_nil, Bool.and_true, Bool.and_eq_true, beq_iff_eq, Bool.and_eq_false_iff, beq_eq_false_iff_ne, Bool.true_and, ne_eq] at hc)) | (with_reducible first | refine norm_one ?_ | refine norm_app ?_ | refine norm_cutEnd ?_ | refine norm_cut ?_ | refine norm_bytes1 ?_ | refine norm_bytes2 ?_ | refine norm_setByte ?_ | refine norm_int1 ?_ | refine norm_mk ?_) | (with_reducible refine bytes_mk ?_) | (refine ar_byte ?_) | (refine ar_i64 (by omega) (by omega) ?_) | (refine ar_low ?_) | (refine ix_byteN (by omega) ?_) | (refine ix_byteK (by simp only [Int.reduceToNat]; exact rfl) (by decide) (by omega) ?_) | (refine ix_byte (by omega) (by omega) ?_) | (refine ix_rfl (by decide) rfl ?_) | (refine sd_mk rfl ?_) | (refine sd_mk (by decide +kernel) ?_) | (refine sd_mk (by first | (simp only [List.length_map, List.length_append, List.length_cons, List.length_nil]; done) | ((try simp only [List.length_map, List.length_append, List.length_cons, List.length_nil, List.length_set, List.length_replicate, List.length_drop, List.length_take, true_and, and_true]); omega) | (dsimp only; omega)) ?_) | (first | refine shl8 (by omega) (by omega) ?_ | refine shl4 (by omega) (by omega) ?_ | refine shl1 (by omega) (by omega) ?_ | refine shl16 (by omega) (by omega) ?_ | refine shl24 (by omega) (by omega) ?_ | refine shr8 (by decide) ?_ | refine shr4 (by decide) ?_ | refine shr1 (by decide) ?_ | refine shr16 (by decide) ?_ | refine shr24 (by decide) ?_) | (with_reducible first | refine bit_mk and_1 ?_ | refine bit_mk and_15 ?_ | refine bit_mk and_255 ?_ | refine bit_mk and_4095 ?_ | refine bit_mk and_65535 ?_) | (refine quo_pos (by omega) (by omega) (by omega) ?_) | (refine rem_pos (by omega) (by omega) ?_)))
    · refine call_p kind_meets (s.getD k 0) trivial (VS.mk (LeL.of_eq (by rw [hidx]; rfl))) ?_
      (repeat' (first | (refine VS.mk ?_) | (refine dr_mk ?_) | (refine md_l ?_) | ((first | refine sp_not_dec ?_ ?_ | refine sp_dec ?_ ?_ | refine sp_beq ?_ ?_ | refine sp_bne ?_ ?_ | refine sp_seq ?_ ?_ | refine sp_sne ?_ ?_ | refine sp_not ?_ ?_ | refine sp_any ?_ ?_) <;> (intro hc; try simp only [List.length_map, List.length_append, List.length_cons, List.length_nil, Bool.and_true, Bool.and_eq_true, beq_iff_eq, Bool.and_eq_false_iff, beq_eq_false_iff_ne, Bool.true_and, ne_eq] at hc)) | (with_reducible first | refine norm_one ?_ | refine norm_app ?_ | refine norm_cutEnd ?_ | refine norm_cut ?_ | refine norm_bytes1 ?_ | refine norm_bytes2 ?_ | refine norm_setByte ?_ | refine norm_int1 ?_ | refine norm_mk ?_) | (with_reducible refine bytes_mk ?_) | (refine ar_byte ?_) | (refine ar_i64 (by omega) (by omega) ?_) | (refine ar_low ?_) | (refine ix_byteN (by omega) ?_) | (refine ix_byteK (by simp only [Int.reduceToNat]; exact rfl) (by decide) (by omega) ?_) | (refine ix_byte (by omega) (by omega) ?_) | (refine ix_rfl (by decide) rfl ?_) | (refine sd_mk rfl ?_) | (refine sd_mk (by decide +kernel) ?_) | (refine sd_mk (by first | (simp only [List.length_map, List.length_append, List.length_cons, List.length_nil]; done) | ((try simp only [List.length_map, List.length_append, List.length_cons, List.length_nil, List.length_set, List.length_replicate, List.length_drop, List.length_take, true_and, and_true]); omega) | (dsimp only; omega)) ?_) | (first | refine shl8 (by omega) (by omega) ?_ | refine shl4 (by omega) (by omega) ?_ | refine shl1 (by omega) (by omega) ?_ | refine shl16 (by omega) (by omega) ?_ | refine shl24 (by omega) (by omega) ?_ | refine shr8 (by decide) ?_ | refine shr4 (by decide) ?_ | refine shr1 (by decide) ?_ | refine shr16 (by decide) ?_ | refine shr24 (by decide) ?_) | (with_reducible first | refine bit_mk and_1 ?_ | refine bit_mk and_15 ?_ | refine bit_mk and_255 ?_ | refine bit_mk and_4095 ?_ | refine bit_mk and_65535 ?_) | (refine quo_pos (by omega) (by omega) (by omega) ?_) | (refine rem_pos (by omega) (by omega) ?_)))
      · exact end_p (VS.mk (LeD.ff (nameB_bad (hsp (kind_none (by assumption) hc)))))
      · refine loop_end (k + 1) ⟨by omega, by rw [hst, hall, okL h46 (.inr (kind_digit hc))]; rfl⟩ (by omega) ?_
        (repeat' (first | (refine VS.mk ?_) | exact trivial | exact rfl | refine And.intro ?_ ?_))
    · refine loop_end (k + 1) ⟨by omega, by rw [hst, hall, okL h46 (.inl (kind_letter hc))]; rfl⟩ (by omega) ?_
      (repeat' (first | (refine VS.mk ?_) | exact trivial | exact rfl | refine And.intro ?_ ?_))
  · have hlen : (s.length : Int) ≤ 10 := by omega
    rw [List.take_of_length_le (by omega)] at hall
    exact end_p (VS.mk (LeD.tt (nameB_good ⟨by omega, by omega⟩ hl0 hall)))
end Go.Proofs.Ytmeigmpjpkinoaa

namespace Go.Proofs.Ytmeigmpjpkinoaa
open Go Go.Plat
set_option linter.unusedVariables false
set_option linter.unusedSimpArgs false
set_option maxRecDepth 100000
set_option maxHeartbeats 2000000
attribute [local irreducible] NilS LookS NormM bitI BytesS NormL Arith QuoS RemS ShlS ShrS BitS CatS SplitS SideS IdxS CallS LoopEnd EndS ModeS DrawS AWP Meets
theorem rsigned_eq (n : Int) : (if n % 4294967296 / 2147483648 = 1 then n % 4294967296 - 4294967296 else n % 4294967296) = signedI n 32 := rfl
attribute [local irreducible] letterB digitB kindB okC nameB signedI

theorem rowrong_meets : Meets Try.prog n_plref6_Wrong (SpecP (fun o : OObj => (∀ r ∈ o.rels, -9223372036854775808 ≤ r.at_ ∧ r.at_ ≤ 9223372036854775807 ∧ r.name.length ≤ 1000000000) ∧ ∀ s ∈ o.syms, s.name.length ≤ 1000000000) (fun o => [objD o]) fun o => .int .i64 (wrongO o)) := by
  refine meets_f tabOk Try.func14 rfl (by decide) ?_
  rintro o ⟨ho, hs⟩
  refine ⟨Nat.le_refl _, by simp [Try.f14], fun E hE => ?_⟩
  refine vcOk _ ?_
  (repeat' (first | (refine VS.mk ?_) | (refine dr_mk ?_) | (refine md_l ?_) | ((first | refine sp_not_dec ?_ ?_ | refine sp_dec ?_ ?_ | refine sp_beq ?_ ?_ | refine sp_bne ?_ ?_ | refine sp_seq ?_ ?_ | refine sp_sne ?_ ?_ | refine sp_not ?_ ?_ | refine sp_any ?_ ?_) <;> (intro hc; try simp only [List.length_map, List.length_append, List.length_cons, List.length_nil, Bool.and_true, Bool.and_eq_true, beq_iff_eq, Bool.and_eq_false_iff, beq_eq_false_iff_ne, Bool.true_and, ne_eq] at hc)) | (with_reducible first | refine norm_one ?_ | refine norm_app ?_ | refine norm_cutEnd ?_ | refine norm_cut ?_ | refine norm_bytes1 ?_ | refine norm_bytes2 ?_ | refine norm_setByte ?_ | refine norm_int1 ?_ | refine norm_mk ?_) | (with_reducible refine bytes_mk ?_) | (refine ar_byte ?_) | (refine ar_i64 (by omega) (by omega) ?_) | (refine ar_low ?_) | (refine ix_byteN (by omega) ?_) | (refine ix_byteK (by simp only [Int.reduceToNat]; exact rfl) (by decide) (by omega) ?_) | (refine ix_byte (by omega) (by omega) ?_) | (refine ix_rfl (by decide) rfl ?_) | (refine sd_mk rfl ?_) | (refine sd_mk (by decide +kernel) ?_) | (refine sd_mk (by first | (simp only [List.length_map, List.length_append, List.length_cons, List.length_nil]; done) | ((try simp only [List.length_map, List.length_append, List.length_cons, List.length_nil, List.length_set, List.length_replicate, List.length_drop, List.length_take, true_and, and_true]); omega) | (dsimp only; omega)) ?_) | (first | refine shl8 (by omega) (by omega) ?_ | refine shl4 (by omega) (by omega) ?_ | refine shl1 (by omega) (by omega) ?_ | refine shl16 (by omega) (by omega) ?_ | refine shl24 (by omega) (by omega) ?_ | refine shr8 (by decide) ?_ | refine shr4 (by decide) ?_ | refine shr1 (by decide) ?_ | refine shr16 (by decide) ?_ | refine shr24 (by decide) ?_) | (with_reducible first | refine bit_mk and_1 ?_ | refine bit_mk and_15 ?_ | refine bit_mk and_255 ?_ | refine bit_mk and_4095 ?_ | refine bit_mk and_65535 ?_) | (refine quo_pos (by omega) (by omega) (by omega) ?_) | (refine rem_pos (by omega) (by omega) ?_)))
  · refine end_p (VS.mk (LeD.of_eq (congrArg (D.int .i64) ?_)))
    unfold wrongO; rw [if_pos (by omega)]
  · refine end_p (VS.mk (LeD.of_eq (congrArg (D.int .i64) ?_)))
    unfold wrongO; rw [if_pos (by omega)]
  · refine end_p (VS.mk (LeD.of_eq (congrArg (D.int .i64) ?_)))
    unfold wrongO; rw [if_pos (by omega)]
  have hw : wrongO o = match symsW o.code.length o.syms [] with
      | some e => e
      | none => relsW o.code.length o.rels 0 := by unfold wrongO; rw [if_neg (by omega)]; rfl
  have hsl : o.syms.length ≤ 255 := by omega
  refine awp_loop (α := Nat) (fun k => k ≤ o.syms.length ∧ symsW o.code.length o.syms [] = symsW o.code.length (o.syms.drop k) ((o.syms.take k).map (·.name)).reverse)
    (fun k => [(27, .sl 2 (o.syms.map symD) none), (28, .int .i64 o.syms.length), (29, .int .i64 k), (1, .loc 0 0)])
    (fun k => [.cells [bytesD o.code, .sl 2 (o.syms.map symD) none, .sl 4 (o.rels.map relD) none]]) (fun k => o.syms.length - k) (fun _ => by simp [hE]) 0 ⟨Nat.zero_le _, by simp⟩ ?_ ?_
  · (repeat' (first | (refine VS.mk ?_) | exact trivial | exact rfl | refine And.intro ?_ ?_))
  rintro k ⟨hk, hsw⟩
  refine vcOk _ ?_
  (repeat' (first | (refine VS.mk ?_) | (refine dr_mk ?_) | (refine md_l ?_) | ((first | refine sp_not_dec ?_ ?_ | refine sp_dec ?_ ?_ | refine sp_beq ?_ ?_ | refine sp_bne ?_ ?_ | refine sp_seq ?_ ?_ | refine sp_sne ?_ ?_ | refine sp_not ?_ ?_ | refine sp_any ?_ ?_) <;> (intro hc; try simp only [List.length_map, List.length_append, List.length_cons, List.length_nil, Bool.and_true, Bool.and_eq_true, beq_iff_eq, Bool.and_eq_false_iff, beq_eq_false_iff_ne, Bool.true_and, ne_eq] at hc)) | (with_reducible first | refine norm_one ?_ | refine norm_app ?_ | refine norm_cutEnd ?_ | refine norm_cut ?_ | refine norm_bytes1 ?_ | refine norm_bytes2 ?_ | refine norm_setByte ?_ | refine norm_int1 ?_ | refine norm_mk ?_) | (with_reducible refine bytes_mk ?_) | (refine ar_byte ?_) | (refine ar_i64 (by omega) (by omega) ?_) | (refine ar_low ?_) | (refine ix_byteN (by omega) ?_) | (refine ix_byteK (by simp only [Int.reduceToNat]; exact rfl) (by decide) (by omega) ?_) | (refine ix_byte (by omega) (by omega) ?_) | (refine ix_rfl (by decide) rfl ?_) | (refine sd_mk rfl ?_) | (refine sd_mk (by decide +kernel) ?_) | (refine sd_mk (by first | (simp only [List.length_map, List.length_append, List.length_cons, List.length_nil]; done) | ((try simp only [List.length_map, List.length_append, List.length_cons, List.length_nil, List.length_set, List.length_replicate, List.length_drop, List.length_take, true_and, and_true]); omega) | (dsimp only; omega)) ?_) | (first | refine shl8 (by omega) (by omega) ?_ | refine shl4 (by omega) (by omega) ?_ | refine shl1 (by omega) (by omega) ?_ | refine shl16 (by omega) (by omega) ?_ | refine shl24 (by omega) (by omega) ?_ | refine shr8 (by decide) ?_ | refine shr4 (by decide) ?_ | refine shr1 (by decide) ?_ | refine shr16 (by decide) ?_ | refine shr24 (by decide) ?_) | (with_reducible first | refine bit_mk and_1 ?_ | refine bit_mk and_15 ?_ | refine bit_mk and_255 ?_ | refine bit_mk and_4095 ?_ | refine bit_mk and_65535 ?_) | (refine quo_pos (by omega) (by omega) (by omega) ?_) | (refine rem_pos (by omega) (by omega) ?_)))
  · obtain ⟨s, hsk⟩ := at_of_lt (l := o.syms) (k := k) (by omega)
    have hkl : k < o.syms.length := by omega
    have hsm := hs s (List.mem_of_getElem? hsk)
    have hget : o.syms[k] = s := by rw [List.getElem?_eq_getElem hkl] at hsk; exact Option.some.inj hsk
    rw [List.drop_eq_getElem_cons hkl, hget] at hsw
    have htake : o.syms.take (k + 1) = o.syms.take k ++ [s] := by rw [List.take_succ_eq_append_getElem hkl, hget]
    have hmem : ∀ n : List UInt8, n ∈ ((o.syms.take k).map (·.name)).reverse ↔ n ∈ (o.syms.take k).map (·.name) := fun n => List.mem_reverse
    refine ix_map s (by omega) (by simpa using hsk) ?_
    (repeat' (first | (refine VS.mk ?_) | (refine dr_mk ?_) | (refine md_l ?_) | ((first | refine sp_not_dec ?_ ?_ | refine sp_dec ?_ ?_ | refine sp_beq ?_ ?_ | refine sp_bne ?_ ?_ | refine sp_seq ?_ ?_ | refine sp_sne ?_ ?_ | refine sp_not ?_ ?_ | refine sp_any ?_ ?_) <;> (intro hc; try simp only [List.length_map, List.length_append, List.length_cons, List.length_nil, Bool.and_true, Bool.and_eq_true, beq_iff_eq, Bool.and_eq_false_iff, beq_eq_false_iff_ne, Bool.true_and, ne_eq] at hc)) | (with_reducible first | refine norm_one ?_ | refine norm_app ?_ | refine norm_cutEnd ?_ | refine norm_cut ?_ | refine norm_bytes1 ?_ | refine norm_bytes2 ?_ | refine norm_setByte ?_ | refine norm_int1 ?_ | refine norm_mk ?_) | (with_reducible refine bytes_mk ?_) | (refine ar_byte ?_) | (refine ar_i64 (by omega) (by omega) ?_) | (refine ar_low ?_) | (refine ix_byteN (by omega) ?_) | (refine ix_byteK (by simp only [Int.reduceToNat]; exact rfl) (by decide) (by omega) ?_) | (refine ix_byte (by omega) (by omega) ?_) | (refine ix_rfl (by decide) rfl ?_) | (refine sd_mk rfl ?_) | (refine sd_mk (by decide +kernel) ?_) | (refine sd_mk (by first | (simp only [List.length_map, List.length_append, List.length_cons, List.length_nil]; done) | ((try simp only [List.length_map, List.length_append, List.length_cons, List.length_nil, List.length_set, List.length_replicate, List.length_drop, List.length_take, true_and, and_true]); omega) | (dsimp only; omega)) ?_) | (first | refine shl8 (by omega) (by omega) ?_ | refine shl4 (by omega) (by omega) ?_ | refine shl1 (by omega) (by omega) ?_ | refine shl16 (by omega) (by omega) ?_ | refine shl24 (by omega) (by omega) ?_ | refine shr8 (by decide) ?_ | refine shr4 (by decide) ?_ | refine shr1 (by decide) ?_ | refine shr16 (by decide) ?_ | refine shr24 (by decide) ?_) | (with_reducible first | refine bit_mk and_1 ?_ | refine bit_mk and_15 ?_ | refine bit_mk and_255 ?_ | refine bit_mk and_4095 ?_ | refine bit_mk and_65535 ?_) | (refine quo_pos (by omega) (by omega) (by omega) ?_) | (refine rem_pos (by omega) (by omega) ?_)))
    refine call_p rname_meets s.name hsm (VS.mk (by (first | exact LeL.refl _ | (repeat' (first | exact LeL.nil | exact LeD.refl _ | exact LeD.nil _ | exact LeD.strip _ _ _ | refine LeL.cons ?_ ?_ | refine LeD.tup ?_ | refine LeD.agg ?_))))) ?_
    (repeat' (first | (refine VS.mk ?_) | (refine dr_mk ?_) | (refine md_l ?_) | ((first | refine sp_not_dec ?_ ?_ | refine sp_dec ?_ ?_ | refine sp_beq ?_ ?_ | refine sp_bne ?_ ?_ | refine sp_seq ?_ ?_ | refine sp_sne ?_ ?_ | refine sp_not ?_ ?_ | refine sp_any ?_ ?_) <;> (intro hc; try simp only [List.length_map, List.length_append, List.length_cons, List.length_nil, Bool.and_true, Bool.and_eq_true, beq_iff_eq, Bool.and_eq_false_iff, beq_eq_false_iff_ne, Bool.true_and, ne_eq] at hc)) | (with_reducible first | refine norm_one ?_ | refine norm_app ?_ | refine norm_cutEnd ?_ | refine norm_cut ?_ | refine norm_bytes1 ?_ | refine norm_bytes2 ?_ | refine norm_setByte ?_ | refine norm_int1 ?_ | refine norm_mk ?_) | (with_reducible refine bytes_mk ?_) | (refine ar_byte ?_) | (refine ar_i64 (by omega) (by omega) ?_) | (refine ar_low ?_) | (refine ix_byteN (by omega) ?_) | (refine ix_byteK (by simp only [Int.reduceToNat]; exact rfl) (by decide) (by omega) ?_) | (refine ix_byte (by omega) (by omega) ?_) | (refine ix_rfl (by decide) rfl ?_) | (refine sd_mk rfl ?_) | (refine sd_mk (by decide +kernel) ?_) | (refine sd_mk (by first | (simp only [List.length_map, List.length_append, List.length_cons, List.length_nil]; done) | ((try simp only [List.length_map, List.length_append, List.length_cons, List.length_nil, List.length_set, List.length_replicate, List.length_drop, List.length_take, true_and, and_true]); omega) | (dsimp only; omega)) ?_) | (first | refine shl8 (by omega) (by omega) ?_ | refine shl4 (by omega) (by omega) ?_ | refine shl1 (by omega) (by omega) ?_ | refine shl16 (by omega) (by omega) ?_ | refine shl24 (by omega) (by omega) ?_ | refine shr8 (by decide) ?_ | refine shr4 (by decide) ?_ | refine shr1 (by decide) ?_ | refine shr16 (by decide) ?_ | refine shr24 (by decide) ?_) | (with_reducible first | refine bit_mk and_1 ?_ | refine bit_mk and_15 ?_ | refine bit_mk and_255 ?_ | refine bit_mk and_4095 ?_ | refine bit_mk and_65535 ?_) | (refine quo_pos (by omega) (by omega) (by omega) ?_) | (refine rem_pos (by omega) (by omega) ?_)))
    · refine end_p (VS.mk (LeD.of_eq (congrArg (D.int .i64) ?_)))
      rw [hw, hsw, symsW, if_pos (.inl hc)]
    have hno : ¬ nameB s.name = false := by rw [hc]; decide
    refine awp_loop (α := Nat) (fun j => j ≤ k ∧ ∀ i t, i < j → o.syms[i]? = some t → ¬ t.name = s.name)
      (fun j => [(41, .sl 2 ((o.syms.take k).map symD) none), (42, .int .i64 k), (43, .int .i64 j), (27, .sl 2 (o.syms.map symD) none), (28, .int .i64 o.syms.length), (29, .int .i64 k), (1, .loc 0 0), (4, .loc 1 0)])
      (fun j => [.cells [bytesD o.code, .sl 2 (o.syms.map symD) none, .sl 4 (o.rels.map relD) none], .cells [.str s.name, .int .i64 s.at_]]) (fun j => k - j) (fun _ => by simp [hE]) 0 ⟨Nat.zero_le _, fun i t h => absurd h (Nat.not_lt_zero _)⟩ ?_ ?_
    · (repeat' (first | (refine VS.mk ?_) | exact trivial | (with_reducible exact rfl) | refine And.intro ?_ ?_))
      · rfl
      · simp
      · simp; omega
      · rfl
      · rfl
    rintro j ⟨hj, hjn⟩
    refine vcOk _ ?_
    (repeat' (first | (refine VS.mk ?_) | (refine dr_mk ?_) | (refine md_l ?_) | ((first | refine sp_not_dec ?_ ?_ | refine sp_dec ?_ ?_ | refine sp_beq ?_ ?_ | refine sp_bne ?_ ?_ | refine sp_seq ?_ ?_ | refine sp_sne ?_ ?_ | refine sp_not ?_ ?_ | refine sp_any ?_ ?_) <;> (intro hc; try simp only [List.length_map, List.length_append, List.length_cons, List.length_nil, Bool.and_true, Bool.and_eq_true, beq_iff_eq, Bool.and_eq_false_iff, beq_eq_false_iff_ne, Bool.true_and, ne_eq] at hc)) | (with_reducible first | refine norm_one ?_ | refine norm_app ?_ | refine norm_cutEnd ?_ | refine norm_cut ?_ | refine norm_bytes1 ?_ | refine norm_bytes2 ?_ | refine norm_setByte ?_ | refine norm_int1 ?_ | refine norm_mk ?_) | (with_reducible refine bytes_mk ?_) | (refine ar_byte ?_) | (refine ar_i64 (by omega) (by omega) ?_) | (refine ar_low ?_) | (refine ix_byteN (by omega) ?_) | (refine ix_byteK (by simp only [Int.reduceToNat]; exact rfl) (by decide) (by omega) ?_) | (refine ix_byte (by omega) (by omega) ?_) | (refine ix_rfl (by decide) rfl ?_) | (refine sd_mk rfl ?_) | (refine sd_mk (by decide +kernel) ?_) | (refine sd_mk (by first | (simp only [List.length_map, List.length_append, List.length_cons, List.length_nil]; done) | ((try simp only [List.length_map, List.length_append, List.length_cons, List.length_nil, List.length_set, List.length_replicate, List.length_drop, List.length_take, true_and, and_true]); omega) | (dsimp only; omega)) ?_) | (first | refine shl8 (by omega) (by omega) ?_ | refine shl4 (by omega) (by omega) ?_ | refine shl1 (by omega) (by omega) ?_ | refine shl16 (by omega) (by omega) ?_ | refine shl24 (by omega) (by omega) ?_ | refine shr8 (by decide) ?_ | refine shr4 (by decide) ?_ | refine shr1 (by decide) ?_ | refine shr16 (by decide) ?_ | refine shr24 (by decide) ?_) | (with_reducible first | refine bit_mk and_1 ?_ | refine bit_mk and_15 ?_ | refine bit_mk and_255 ?_ | refine bit_mk and_4095 ?_ | refine bit_mk and_65535 ?_) | (refine quo_pos (by omega) (by omega) (by omega) ?_) | (refine rem_pos (by omega) (by omega) ?_)))
    · have hjk : j < k := by omega
      obtain ⟨t, htj⟩ := at_of_lt (l := o.syms) (k := j) (by omega)
      have htj2 : (o.syms.take k)[j]? = some t := by rw [List.getElem?_take_of_lt hjk]; exact htj
      refine ix_map t (by omega) (by simpa using htj2) ?_
      (repeat' (first | (refine VS.mk ?_) | (refine dr_mk ?_) | (refine md_l ?_) | ((first | refine sp_not_dec ?_ ?_ | refine sp_dec ?_ ?_ | refine sp_beq ?_ ?_ | refine sp_bne ?_ ?_ | refine sp_seq ?_ ?_ | refine sp_sne ?_ ?_ | refine sp_not ?_ ?_ | refine sp_any ?_ ?_) <;> (intro hc; try simp only [List.length_map, List.length_append, List.length_cons, List.length_nil, Bool.and_true, Bool.and_eq_true, beq_iff_eq, Bool.and_eq_false_iff, beq_eq_false_iff_ne, Bool.true_and, ne_eq] at hc)) | (with_reducible first | refine norm_one ?_ | refine norm_app ?_ | refine norm_cutEnd ?_ | refine norm_cut ?_ | refine norm_bytes1 ?_ | refine norm_bytes2 ?_ | refine norm_setByte ?_ | refine norm_int1 ?_ | refine norm_mk ?_) | (with_reducible refine bytes_mk ?_) | (refine ar_byte ?_) | (refine ar_i64 (by omega) (by omega) ?_) | (refine ar_low ?_) | (refine ix_byteN (by omega) ?_) | (refine ix_byteK (by simp only [Int.reduceToNat]; exact rfl) (by decide) (by omega) ?_) | (refine ix_byte (by omega) (by omega) ?_) | (refine ix_rfl (by decide) rfl ?_) | (refine sd_mk rfl ?_) | (refine sd_mk (by decide +kernel) ?_) | (refine sd_mk (by first | (simp only [List.length_map, List.length_append, List.length_cons, List.length_nil]; done) | ((try simp only [List.length_map, List.length_append, List.length_cons, List.length_nil, List.length_set, List.length_replicate, List.length_drop, List.length_take, true_and, and_true]); omega) | (dsimp only; omega)) ?_) | (first | refine shl8 (by omega) (by omega) ?_ | refine shl4 (by omega) (by omega) ?_ | refine shl1 (by omega) (by omega) ?_ | refine shl16 (by omega) (by omega) ?_ | refine shl24 (by omega) (by omega) ?_ | refine shr8 (by decide) ?_ | refine shr4 (by decide) ?_ | refine shr1 (by decide) ?_ | refine shr16 (by decide) ?_ | refine shr24 (by decide) ?_) | (with_reducible first | refine bit_mk and_1 ?_ | refine bit_mk and_15 ?_ | refine bit_mk and_255 ?_ | refine bit_mk and_4095 ?_ | refine bit_mk and_65535 ?_) | (refine quo_pos (by omega) (by omega) (by omega) ?_) | (refine rem_pos (by omega) (by omega) ?_)))
      · refine end_p (VS.mk (LeD.of_eq (congrArg (D.int .i64) ?_)))
        rw [hw, hsw, symsW, if_pos (.inr ((hmem _).2 (List.mem_map.2 ⟨t, List.mem_of_getElem? htj2, hc⟩)))]
      · have hnext : ∀ i u, i < j + 1 → o.syms[i]? = some u → ¬ u.name = s.name := fun i u hi hu => by
          rcases Nat.lt_or_ge i j with h | h
          · exact hjn i u h hu
          · have hij : i = j := by omega
            rw [hij, htj] at hu
            rw [← Option.some.inj hu]
            exact hc
        refine loop_end (j + 1) ⟨by omega, hnext⟩ (by omega) ?_
        (repeat' (first | (refine VS.mk ?_) | exact trivial | exact rfl | refine And.intro ?_ ?_))
    all_goals
      have hjk : j = k := by omega
      have hin : ¬ s.name ∈ (o.syms.take k).map (·.name) := fun hm => by
        obtain ⟨t, ht, hts⟩ := List.mem_map.1 hm
        obtain ⟨i, hi, hit⟩ := List.getElem_of_mem ht
        simp only [List.length_take] at hi
        have hlt : i < j := by omega
        rw [List.getElem_take] at hit
        exact hjn i t hlt (by rw [List.getElem?_eq_getElem (by omega), hit]) hts
      have hstep : ¬ (nameB s.name = false ∨ s.name ∈ ((o.syms.take k).map (·.name)).reverse) := by
        rintro (h | h)
        · exact hno h
        · exact hin ((hmem _).1 h)
    · refine end_p (VS.mk (LeD.of_eq (congrArg (D.int .i64) ?_)))
      rw [hw, hsw, symsW, if_neg hstep, if_pos (.inl hc)]
    · refine end_p (VS.mk (LeD.of_eq (congrArg (D.int .i64) ?_)))
      rw [hw, hsw, symsW, if_neg hstep, if_pos (.inr hc)]
    · have hnew : symsW o.code.length o.syms [] = symsW o.code.length (o.syms.drop (k + 1)) ((o.syms.take (k + 1)).map (·.name)).reverse := by
        rw [hsw, symsW, if_neg hstep, if_neg (by omega), htake]
        simp
      refine loop_end (k + 1) ⟨by omega, hnew⟩ (by omega) ?_
      (repeat' (first | (refine VS.mk ?_) | exact trivial | exact rfl | refine And.intro ?_ ?_))
  · obtain rfl : k = o.syms.length := by omega
    rw [List.drop_length, symsW] at hsw
    rw [hsw] at hw
    have hw : wrongO o = relsW o.code.length o.rels 0 := hw
    refine awp_loop (α := Nat × Int) (fun p => p.1 ≤ o.rels.length ∧ 0 ≤ p.2 ∧ p.2 ≤ 8000 ∧ relsW o.code.length o.rels 0 = relsW o.code.length (o.rels.drop p.1) p.2)
      (fun p => [(66, .sl 4 (o.rels.map relD) none), (67, .int .i64 o.rels.length), (68, .int .i64 p.1), (1, .loc 0 0), (7, .int .i64 p.2)])
      (fun _ => [.cells [bytesD o.code, .sl 2 (o.syms.map symD) none, .sl 4 (o.rels.map relD) none]]) (fun p => o.rels.length - p.1) (fun _ => by simp [hE]) (0, 0) ⟨Nat.zero_le _, by decide, by decide, by simp⟩ ?_ ?_
    · (repeat' (first | (refine VS.mk ?_) | exact trivial | exact rfl | refine And.intro ?_ ?_))
    rintro ⟨k, last⟩ ⟨hk, hl0, hl1, hrw⟩
    dsimp only at hk hl0 hl1 hrw ⊢
    refine vcOk _ ?_
    (repeat' (first | (refine VS.mk ?_) | (refine dr_mk ?_) | (refine md_l ?_) | ((first | refine sp_not_dec ?_ ?_ | refine sp_dec ?_ ?_ | refine sp_beq ?_ ?_ | refine sp_bne ?_ ?_ | refine sp_seq ?_ ?_ | refine sp_sne ?_ ?_ | refine sp_not ?_ ?_ | refine sp_any ?_ ?_) <;> (intro hc; try simp only [List.length_map, List.length_append, List.length_cons, List.length_nil, Bool.and_true, Bool.and_eq_true, beq_iff_eq, Bool.and_eq_false_iff, beq_eq_false_iff_ne, Bool.true_and, ne_eq] at hc)) | (with_reducible first | refine norm_one ?_ | refine norm_app ?_ | refine norm_cutEnd ?_ | refine norm_cut ?_ | refine norm_bytes1 ?_ | refine norm_bytes2 ?_ | refine norm_setByte ?_ | refine norm_int1 ?_ | refine norm_mk ?_) | (with_reducible refine bytes_mk ?_) | (refine ar_byte ?_) | (refine ar_i64 (by omega) (by omega) ?_) | (refine ar_low ?_) | (refine ix_byteN (by omega) ?_) | (refine ix_byteK (by simp only [Int.reduceToNat]; exact rfl) (by decide) (by omega) ?_) | (refine ix_byte (by omega) (by omega) ?_) | (refine ix_rfl (by decide) rfl ?_) | (refine sd_mk rfl ?_) | (refine sd_mk (by decide +kernel) ?_) | (refine sd_mk (by first | (simp only [List.length_map, List.length_append, List.length_cons, List.length_nil]; done) | ((try simp only [List.length_map, List.length_append, List.length_cons, List.length_nil, List.length_set, List.length_replicate, List.length_drop, List.length_take, true_and, and_true]); omega) | (dsimp only; omega)) ?_) | (first | refine shl8 (by omega) (by omega) ?_ | refine shl4 (by omega) (by omega) ?_ | refine shl1 (by omega) (by omega) ?_ | refine shl16 (by omega) (by omega) ?_ | refine shl24 (by omega) (by omega) ?_ | refine shr8 (by decide) ?_ | refine shr4 (by decide) ?_ | refine shr1 (by decide) ?_ | refine shr16 (by decide) ?_ | refine shr24 (by decide) ?_) | (with_reducible first | refine bit_mk and_1 ?_ | refine bit_mk and_15 ?_ | refine bit_mk and_255 ?_ | refine bit_mk and_4095 ?_ | refine bit_mk and_65535 ?_) | (refine quo_pos (by omega) (by omega) (by omega) ?_) | (refine rem_pos (by omega) (by omega) ?_)))
    · obtain ⟨r, hrk⟩ := at_of_lt (l := o.rels) (k := k) (by omega)
      have hkl : k < o.rels.length := by omega
      obtain ⟨hr1, hr2, hr3⟩ := ho r (List.mem_of_getElem? hrk)
      have hget : o.rels[k] = r := by rw [List.getElem?_eq_getElem hkl] at hrk; exact Option.some.inj hrk
      rw [List.drop_eq_getElem_cons hkl, hget] at hrw
      rw [hrw, relsW] at hw
      refine ix_map r (by omega) (by simpa using hrk) ?_
      (repeat' (first | (refine VS.mk ?_) | (refine dr_mk ?_) | (refine md_l ?_) | ((first | refine sp_not_dec ?_ ?_ | refine sp_dec ?_ ?_ | refine sp_beq ?_ ?_ | refine sp_bne ?_ ?_ | refine sp_seq ?_ ?_ | refine sp_sne ?_ ?_ | refine sp_not ?_ ?_ | refine sp_any ?_ ?_) <;> (intro hc; try simp only [List.length_map, List.length_append, List.length_cons, List.length_nil, Bool.and_true, Bool.and_eq_true, beq_iff_eq, Bool.and_eq_false_iff, beq_eq_false_iff_ne, Bool.true_and, ne_eq] at hc)) | (with_reducible first | refine norm_one ?_ | refine norm_app ?_ | refine norm_cutEnd ?_ | refine norm_cut ?_ | refine norm_bytes1 ?_ | refine norm_bytes2 ?_ | refine norm_setByte ?_ | refine norm_int1 ?_ | refine norm_mk ?_) | (with_reducible refine bytes_mk ?_) | (refine ar_byte ?_) | (refine ar_i64 (by omega) (by omega) ?_) | (refine ar_low ?_) | (refine ix_byteN (by omega) ?_) | (refine ix_byteK (by simp only [Int.reduceToNat]; exact rfl) (by decide) (by omega) ?_) | (refine ix_byte (by omega) (by omega) ?_) | (refine ix_rfl (by decide) rfl ?_) | (refine sd_mk rfl ?_) | (refine sd_mk (by decide +kernel) ?_) | (refine sd_mk (by first | (simp only [List.length_map, List.length_append, List.length_cons, List.length_nil]; done) | ((try simp only [List.length_map, List.length_append, List.length_cons, List.length_nil, List.length_set, List.length_replicate, List.length_drop, List.length_take, true_and, and_true]); omega) | (dsimp only; omega)) ?_) | (first | refine shl8 (by omega) (by omega) ?_ | refine shl4 (by omega) (by omega) ?_ | refine shl1 (by omega) (by omega) ?_ | refine shl16 (by omega) (by omega) ?_ | refine shl24 (by omega) (by omega) ?_ | refine shr8 (by decide) ?_ | refine shr4 (by decide) ?_ | refine shr1 (by decide) ?_ | refine shr16 (by decide) ?_ | refine shr24 (by decide) ?_) | (with_reducible first | refine bit_mk and_1 ?_ | refine bit_mk and_15 ?_ | refine bit_mk and_255 ?_ | refine bit_mk and_4095 ?_ | refine bit_mk and_65535 ?_) | (refine quo_pos (by omega) (by omega) (by omega) ?_) | (refine rem_pos (by omega) (by omega) ?_)))
      any_goals (refine call_p rname_meets r.name hr3 (VS.mk (LeL.of_eq rfl)) ?_)
      (repeat' (first | (refine VS.mk ?_) | (refine dr_mk ?_) | (refine md_l ?_) | ((first | refine sp_not_dec ?_ ?_ | refine sp_dec ?_ ?_ | refine sp_beq ?_ ?_ | refine sp_bne ?_ ?_ | refine sp_seq ?_ ?_ | refine sp_sne ?_ ?_ | refine sp_not ?_ ?_ | refine sp_any ?_ ?_) <;> (intro hc; try simp only [List.length_map, List.length_append, List.length_cons, List.length_nil, Bool.and_true, Bool.and_eq_true, beq_iff_eq, Bool.and_eq_false_iff, beq_eq_false_iff_ne, Bool.true_and, ne_eq] at hc)) | (with_reducible first | refine norm_one ?_ | refine norm_app ?_ | refine norm_cutEnd ?_ | refine norm_cut ?_ | refine norm_bytes1 ?_ | refine norm_bytes2 ?_ | refine norm_setByte ?_ | refine norm_int1 ?_ | refine norm_mk ?_) | (with_reducible refine bytes_mk ?_) | (refine ar_byte ?_) | (refine ar_i64 (by omega) (by omega) ?_) | (refine ar_low ?_) | (refine ix_byteN (by omega) ?_) | (refine ix_byteK (by simp only [Int.reduceToNat]; exact rfl) (by decide) (by omega) ?_) | (refine ix_byte (by omega) (by omega) ?_) | (refine ix_rfl (by decide) rfl ?_) | (refine sd_mk rfl ?_) | (refine sd_mk (by decide +kernel) ?_) | (refine sd_mk (by first | (simp only [List.length_map, List.length_append, List.length_cons, List.length_nil]; done) | ((try simp only [List.length_map, List.length_append, List.length_cons, List.length_nil, List.length_set, List.length_replicate, List.length_drop, List.length_take, true_and, and_true]); omega) | (dsimp only; omega)) ?_) | (first | refine shl8 (by omega) (by omega) ?_ | refine shl4 (by omega) (by omega) ?_ | refine shl1 (by omega) (by omega) ?_ | refine shl16 (by omega) (by omega) ?_ | refine shl24 (by omega) (by omega) ?_ | refine shr8 (by decide) ?_ | refine shr4 (by decide) ?_ | refine shr1 (by decide) ?_ | refine shr16 (by decide) ?_ | refine shr24 (by decide) ?_) | (with_reducible first | refine bit_mk and_1 ?_ | refine bit_mk and_15 ?_ | refine bit_mk and_255 ?_ | refine bit_mk and_4095 ?_ | refine bit_mk and_65535 ?_) | (refine quo_pos (by omega) (by omega) (by omega) ?_) | (refine rem_pos (by omega) (by omega) ?_)))
      any_goals (refine call_p rsigned_meets r.add trivial (VS.mk (LeL.of_eq rfl)) ?_; rw [rsigned_eq])
      (repeat' (first | (refine VS.mk ?_) | (refine dr_mk ?_) | (refine md_l ?_) | ((first | refine sp_not_dec ?_ ?_ | refine sp_dec ?_ ?_ | refine sp_beq ?_ ?_ | refine sp_bne ?_ ?_ | refine sp_seq ?_ ?_ | refine sp_sne ?_ ?_ | refine sp_not ?_ ?_ | refine sp_any ?_ ?_) <;> (intro hc; try simp only [List.length_map, List.length_append, List.length_cons, List.length_nil, Bool.and_true, Bool.and_eq_true, beq_iff_eq, Bool.and_eq_false_iff, beq_eq_false_iff_ne, Bool.true_and, ne_eq] at hc)) | (with_reducible first | refine norm_one ?_ | refine norm_app ?_ | refine norm_cutEnd ?_ | refine norm_cut ?_ | refine norm_bytes1 ?_ | refine norm_bytes2 ?_ | refine norm_setByte ?_ | refine norm_int1 ?_ | refine norm_mk ?_) | (with_reducible refine bytes_mk ?_) | (refine ar_byte ?_) | (refine ar_i64 (by omega) (by omega) ?_) | (refine ar_low ?_) | (refine ix_byteN (by omega) ?_) | (refine ix_byteK (by simp only [Int.reduceToNat]; exact rfl) (by decide) (by omega) ?_) | (refine ix_byte (by omega) (by omega) ?_) | (refine ix_rfl (by decide) rfl ?_) | (refine sd_mk rfl ?_) | (refine sd_mk (by decide +kernel) ?_) | (refine sd_mk (by first | (simp only [List.length_map, List.length_append, List.length_cons, List.length_nil]; done) | ((try simp only [List.length_map, List.length_append, List.length_cons, List.length_nil, List.length_set, List.length_replicate, List.length_drop, List.length_take, true_and, and_true]); omega) | (dsimp only; omega)) ?_) | (first | refine shl8 (by omega) (by omega) ?_ | refine shl4 (by omega) (by omega) ?_ | refine shl1 (by omega) (by omega) ?_ | refine shl16 (by omega) (by omega) ?_ | refine shl24 (by omega) (by omega) ?_ | refine shr8 (by decide) ?_ | refine shr4 (by decide) ?_ | refine shr1 (by decide) ?_ | refine shr16 (by decide) ?_ | refine shr24 (by decide) ?_) | (with_reducible first | refine bit_mk and_1 ?_ | refine bit_mk and_15 ?_ | refine bit_mk and_255 ?_ | refine bit_mk and_4095 ?_ | refine bit_mk and_65535 ?_) | (refine quo_pos (by omega) (by omega) (by omega) ?_) | (refine rem_pos (by omega) (by omega) ?_)))
      any_goals (refine end_p (VS.mk (LeD.of_eq (congrArg (D.int .i64) ?_))); rw [hw])
      any_goals first
        | (rw [if_pos] <;> omega)
        | (rw [if_neg, if_pos] <;> omega)
        | (rw [if_neg, if_neg, if_pos] <;> omega)
        | (rw [if_neg, if_neg, if_neg, if_pos] <;> first | omega | (refine ⟨?_, ?_⟩ <;> assumption))
        | (rw [if_neg, if_neg, if_neg, if_neg, if_pos] <;> first | omega | assumption | (exact fun h => hc h.symm) | (rintro ⟨h1, h2⟩; exact h1 (by assumption)) | (rintro ⟨h1, h2⟩; exact absurd (h2.symm.trans (by assumption)) Bool.false_ne_true))
        | skip
      all_goals (
        have hnew : relsW o.code.length o.rels 0 = relsW o.code.length (o.rels.drop (k + 1)) (r.at_ + r.size) := by
          rw [hrw, relsW]
          rw [if_neg, if_neg, if_neg, if_neg, if_neg]
          all_goals first
            | omega
            | exact fun h => h (by assumption)
            | exact fun h => h (Eq.symm (by assumption))
            | (rintro ⟨h1, h2⟩; exact h1 (by assumption)) | (rintro ⟨h1, h2⟩; exact absurd (h2.symm.trans (by assumption)) Bool.false_ne_true)
        refine loop_end (k + 1, r.at_ + r.size) ⟨by (dsimp only; omega), by (dsimp only; omega), by (dsimp only; omega), hnew⟩ (by dsimp only; omega) ?_
        (repeat' (first | (refine VS.mk ?_) | exact trivial | exact rfl | refine And.intro ?_ ?_)))
    · refine end_p (VS.mk (LeD.of_eq (congrArg (D.int .i64) ?_)))
      rw [hw, hrw, List.drop_of_length_le (by omega)]
      rfl
end Go.Proofs.Ytmeigmpjpkinoaa
